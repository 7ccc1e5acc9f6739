-- Written by a program of the proof's own workplace (gprint.py over the kit's print): a function and its contract.
-- SQUEEZED
import Derived.Test.YtjdjgabahkcjeaaPx0
import Derived.Test.YtjdjgabahkcjeaaPx3
import Derived.Test.YtjdjgabahkcjeaaPx9
namespace Go.Proofs.Ytjdjgabahkcjeaa.P
open Go.RowKit Go.Proofs.YtjdjgabahkcjeaaW.PrintWords Go.Proofs.YtjdjgabahkcjeaaW.PrintLast Go.Proofs.YtjdjgabahkcjeaaW.PrintMore
attribute [local go_sem] max2_int min2_int max_two min_two max_three min_three max_four min_four   -- for this text's walks alone
set_option linter.unusedVariables false
set_option linter.unusedSimpArgs false

/-! ### intrusionlaw15_OverlapWins: function 3 -/
def intrusionlaw15_OverlapWins.f (k : Nat) (a0 : Int) (a1_0 : Int) (a1_1 : ByteArray) (a1_2 : Int) (a1_3 : Int) (a2_0 : Int) (a2_1 : ByteArray) (a2_2 : Int) (a2_3 : Int) : Option (Bool):=(overlap_Wins.f a0 a1_0 a1_1 a1_2 a1_3 a2_0 a2_1 a2_2 a2_3).bind fun t263=>((intrusionref15_Wins.f a0 a1_0 a1_1 a1_2 a1_3 a2_0 a2_1 a2_2 a2_3).bind fun t264=>(if (t263 == t264) = true then ((intrusionlaw15_lives.f k).bind fun t265=>(some t265)) else (some false)))
theorem intrusionlaw15_OverlapWins.mono : ∀ a0 a1 a2 a3 a4 a5 a6 a7 a8 k,LeO (intrusionlaw15_OverlapWins.f k a0 a1 a2 a3 a4 a5 a6 a7 a8) (intrusionlaw15_OverlapWins.f (k + 1) a0 a1 a2 a3 a4 a5 a6 a7 a8):=by
 intro a0 a1 a2 a3 a4 a5 a6 a7 a8 k;unfold intrusionlaw15_OverlapWins.f
 repeat' first
   | (with_reducible exact intrusionlaw15_lives.mono _)
   | (with_reducible exact LeO.refl _)
   | (with_reducible exact LeO.none _)
   | (with_reducible refine LeO.ite ?_ ?_)
   | (with_reducible refine LeO.bind ?_ (fun _=>?_))
   | exact intrusionlaw15_lives.mono _
   | exact LeO.none _
   | refine LeO.ite ?_ ?_
   | refine LeO.bind ?_ (fun _=>?_)
def intrusionlaw15_OverlapWins.T1 : Bool × List (List Nat × List Nat):=(true,[([],[]),([],[]),([],[]),([0,1,2],[0,1,2]),([],[]),([],[]),([],[]),([4,5,6,3],[4,5,6]),([3,7],[3,7]),([8,7],[8]),([9,9],[9]),([9,10],[9,10]),([11,10,0,1,2,3,4,5,6,7,8,9,10,11],[11])])
def intrusionlaw15_OverlapWins.B1 : List Nat:=[0,0,0,7,0,0,0,127,255,511,1023,2047,4095]
theorem intrusionlaw15_OverlapWins.tab1 : rtab .any (opsOf Try.f3 1) = intrusionlaw15_OverlapWins.T1:=by kernel_rfl
theorem intrusionlaw15_OverlapWins.bits1 : waitsOk intrusionlaw15_OverlapWins.T1.2 intrusionlaw15_OverlapWins.B1 = true:=by kernel_rfl
set_option maxHeartbeats 8000000 in
set_option maxRecDepth 100000 in
theorem intrusionlaw15_OverlapWins.calls (k : Nat) (a0 : Int) (a1_0 : Int) (a1_1 : ByteArray) (a1_2 : Int) (a1_3 : Int) (a2_0 : Int) (a2_1 : ByteArray) (a2_2 : Int) (a2_3 : Int) (r : Bool) (w : World) (h : intrusionlaw15_OverlapWins.f k a0 a1_0 a1_1 a1_2 a1_3 a2_0 a2_1 a2_2 a2_3 = some r) :
  Calls Try.prog 3 #[.int .i64 a0,.agg #[.int .i64 a1_0,.string a1_1,.int .i64 a1_2,.int .i64 a1_3],.agg #[.int .i64 a2_0,.string a2_1,.int .i64 a2_2,.int .i64 a2_3]] w fun e w'=>e = .returned (.bool r)∧Below w.heap.size w w':=by
 have hu23:=Try.underlying23;have HB:=Aside0.mk (Below.refl w.heap.size w);have H : ((overlap_Wins.f a0 a1_0 a1_1 a1_2 a1_3 a2_0 a2_1 a2_2 a2_3).bind fun t263=>((intrusionref15_Wins.f a0 a1_0 a1_1 a1_2 a1_3 a2_0 a2_1 a2_2 a2_3).bind fun t264=>(if (t263 == t264) = true then ((intrusionlaw15_lives.f k).bind fun t265=>(some t265)) else (some false)))) = some r:=h;clear h;replace H:=Option.bind_eq_some_iff.mp H;obtain ⟨t263,A40,H⟩:=H;replace H : ((intrusionref15_Wins.f a0 a1_0 a1_1 a1_2 a1_3 a2_0 a2_1 a2_2 a2_3).bind fun t264=>(if (t263 == t264) = true then ((intrusionlaw15_lives.f k).bind fun t265=>(some t265)) else (some false))) = some r:=H;have A4:=Aside0.mk A40;clear A40;replace H:=Option.bind_eq_some_iff.mp H;obtain ⟨t264,A50,H⟩:=H;replace H : (if (t263 == t264) = true then ((intrusionlaw15_lives.f k).bind fun t265=>(some t265)) else (some false)) = some r:=H;have A5:=Aside0.mk A50;clear A50;by_cases c6 : (t263 == t264) = true
 ·
  rw [if_pos c6] at H;have c6b0 : (t263 == t264) = true:=c6;(try (have c6b1 : decide (t263 = t264) = true:=by simpa using c6));(try (have c6b2 : (t263 == t264) = true:=by simpa using c6));clear c6;replace H:=Option.bind_eq_some_iff.mp H;obtain ⟨t265,A70,H⟩:=H;replace H : (some t265) = some r:=H;have A7:=Aside0.mk A70;clear A70;obtain rfl:=Option.some.inj H;go_enter Try.func3,Try.ntmps3
  try go_wp2_with (first|((with_reducible refine gate_dst (N:=4) rfl ?_);refine box_event ?hg (N:=4) ?hd (cs:=#[.int .i64 a1_0,.string a1_1,.int .i64 a1_2,.int .i64 a1_3]) (t:=23) ?hr ?_;(case hd=>rfl);(case hg=>rfl);(case hr=>first|(go_simp;done)|(go_simp;rfl));intro gb261 hg w8 hbox hb;have n0_:=Aside0.mk (below_step (by repeat (first|(with_reducible first|exact HB.out|apply below_alloc|apply pw_below_drewN|apply below_drew1)|exact HB.out)) hb);have n1_:=Aside0.mk (hbox);have n2_:=Aside0.mk ((by rw [hg];exact (below_size (by repeat (first|(with_reducible first|exact HB.out|apply below_alloc|apply pw_below_drewN|apply below_drew1)|exact HB.out))) : w.heap.size≤gb261));have n3_:=Aside0.mk ((by rw [hg];exact (below_size (by repeat (first|(with_reducible first|exact HB.out|apply below_alloc|apply pw_below_drewN|apply below_drew1)|exact HB.out))) : w.heap.size≤gb261));clear HB;have HB:=n0_;have BK261:=n1_;have GW261:=n2_;have GE261:=n3_;clear n0_ n1_ n2_ n3_;clear hb hbox hg)|((with_reducible refine gate_dst (N:=5) rfl ?_);refine box_event ?hg (N:=5) ?hd (cs:=#[.int .i64 a2_0,.string a2_1,.int .i64 a2_2,.int .i64 a2_3]) (t:=23) ?hr ?_;(case hd=>rfl);(case hg=>rfl);(case hr=>first|(go_simp;done)|(go_simp;rfl));intro gb262 hg w9 hbox hb;have n0_:=Aside0.mk (blk_below (g:=gb261) (o:=.cells #[.int .i64 a1_0,.string a1_1,.int .i64 a1_2,.int .i64 a1_3] 23 (0,0)) (by (with_reducible repeat (first|refine blk_drewN ?_ _|refine blk_drew ?_|refine blk_alloc ?_ _));exact BK261.out) hb);have n1_:=Aside0.mk (below_step (by repeat (first|(with_reducible first|exact HB.out|apply below_alloc|apply pw_below_drewN|apply below_drew1|refine below_set ?_ GE261.out)|exact HB.out)) hb);have n2_:=Aside0.mk (hbox);have n3_:=Aside0.mk ((by rw [hg];exact (below_size (by repeat (first|(with_reducible first|exact HB.out|apply below_alloc|apply pw_below_drewN|apply below_drew1|refine below_set ?_ GE261.out)|exact HB.out))) : w.heap.size≤gb262));have n4_:=Aside0.mk ((by rw [hg];exact (below_size (by repeat (first|(with_reducible first|exact HB.out|apply below_alloc|apply pw_below_drewN|apply below_drew1|refine below_set ?_ GE261.out)|exact HB.out))) : w.heap.size≤gb262));have n5_:=Aside0.mk ((by rw [hg];exact Nat.ne_of_lt (blk_lt (g:=gb261) (o:=.cells #[.int .i64 a1_0,.string a1_1,.int .i64 a1_2,.int .i64 a1_3] 23 (0,0)) (by (with_reducible repeat (first|refine blk_drewN ?_ _|refine blk_drew ?_|refine blk_alloc ?_ _));exact BK261.out)) : gb261≠gb262));have n6_:=Aside0.mk ((by rw [hg];exact Nat.ne_of_gt (blk_lt (g:=gb261) (o:=.cells #[.int .i64 a1_0,.string a1_1,.int .i64 a1_2,.int .i64 a1_3] 23 (0,0)) (by (with_reducible repeat (first|refine blk_drewN ?_ _|refine blk_drew ?_|refine blk_alloc ?_ _));exact BK261.out)) : gb262≠gb261));clear BK261;clear HB;have BK261:=n0_;have HB:=n1_;have BK262:=n2_;have GW262:=n3_;have GE262:=n4_;have NB261_262:=n5_;have NB262_261:=n6_;clear n0_ n1_ n2_ n3_ n4_ n5_ n6_;clear hb hbox hg))
  have n0_:=Aside0.mk (blk_drew BK261.out);have n1_:=Aside0.mk (blk_drew BK262.out);have n2_:=Aside0.mk (below_drew1 HB.out);clear BK261;clear BK262;clear HB;have BK261:=n0_;have BK262:=n1_;have HB:=n2_;clear n0_ n1_ n2_;refine start_ (n:=13) (S:=fun w'=>w'.cell? ⟨gb261,0,none⟩ = some (.int .i64 a1_0)∧w'.cell? ⟨gb261,1,none⟩ = some (.string a1_1)∧w'.cell? ⟨gb261,2,none⟩ = some (.int .i64 a1_2)∧w'.cell? ⟨gb261,3,none⟩ = some (.int .i64 a1_3)∧w'.cell? ⟨gb262,0,none⟩ = some (.int .i64 a2_0)∧w'.cell? ⟨gb262,1,none⟩ = some (.string a2_1)∧w'.cell? ⟨gb262,2,none⟩ = some (.int .i64 a2_2)∧w'.cell? ⟨gb262,3,none⟩ = some (.int .i64 a2_3)) (ds:=[]) (lb 13 0) (by kernel_rfl) rfl (by kernel_rfl) ⟨(blk_cell BK261.out 0).trans rfl,(blk_cell BK261.out 1).trans rfl,(blk_cell BK261.out 2).trans rfl,(blk_cell BK261.out 3).trans rfl,(blk_cell BK262.out 0).trans rfl,(blk_cell BK262.out 1).trans rfl,(blk_cell BK262.out 2).trans rfl,(blk_cell BK262.out 3).trans rfl⟩ (fun hHeld=>?_);refine with_tabW intrusionlaw15_OverlapWins.tab1 intrusionlaw15_OverlapWins.bits1 (fun HT_ HW_=>?_)
  generalize w9.drew = w10 at BK261 BK262 HB hHeld ⊢;refine pure_ (i:=0) (N:=some 7) (v:=?_) (a':=?_) (lb 13 1) rfl rfl (any_of HT_.out (by kernel_rfl)) (fun _ _ _ h=>h) (Or.inl ⟨by rfl,?_⟩) ?_ ?_;rotate_left
  ·
   intro w';go_simp;with_reducible rfl
  rotate_left
  ·
   simp only [Act.put,sqa,sqb,sqc,i64_w,i32_w];rfl
  refine pure_ (i:=4) (N:=some 11) (v:=?_) (a':=?_) (lb 13 17) rfl rfl (any_of HT_.out (by kernel_rfl)) (fun _ _ _ h=>h) (Or.inl ⟨by rfl,?_⟩) ?_ ?_;rotate_left
  ·
   intro w';go_simp;with_reducible rfl
  rotate_left
  ·
   simp only [Act.put,sqa,sqb,sqc,i64_w,i32_w];rfl
  refine take_ (i:=1) (N:=some 8) (v:=?_) (a':=?_) (lb 13 19) rfl rfl (take_ofW HT_.out HW_.out (by kernel_rfl)) (fun _ _ _ h=>h) (Or.inl ⟨by rfl,?_⟩) hHeld ?_ ?_;rotate_left
  ·
   rintro w' ⟨s0,s1,s2,s3,s4,s5,s6,s7⟩;go_simp;with_reducible rfl
  rotate_left
  ·
   simp only [Act.put,sqa,sqb,sqc,i64_w,i32_w];rfl
  refine take_ (i:=2) (N:=some 9) (v:=?_) (a':=?_) (lb 13 23) rfl rfl (take_ofW HT_.out HW_.out (by kernel_rfl)) (fun _ _ _ h=>h) (Or.inl ⟨by rfl,?_⟩) hHeld ?_ ?_;rotate_left
  ·
   rintro w' ⟨s0,s1,s2,s3,s4,s5,s6,s7⟩;go_simp;with_reducible rfl
  rotate_left
  ·
   simp only [Act.put,sqa,sqb,sqc,i64_w,i32_w];rfl
  refine take_ (i:=5) (N:=some 12) (v:=?_) (a':=?_) (lb 13 55) rfl rfl (take_ofW HT_.out HW_.out (by kernel_rfl)) (fun _ _ _ h=>h) (Or.inl ⟨by rfl,?_⟩) hHeld ?_ ?_;rotate_left
  ·
   rintro w' ⟨s0,s1,s2,s3,s4,s5,s6,s7⟩;go_simp;with_reducible rfl
  rotate_left
  ·
   simp only [Act.put,sqa,sqb,sqc,i64_w,i32_w];rfl
  refine take_ (i:=6) (N:=some 13) (v:=?_) (a':=?_) (lb 13 119) rfl rfl (take_ofW HT_.out HW_.out (by kernel_rfl)) (fun _ _ _ h=>h) (Or.inl ⟨by rfl,?_⟩) hHeld ?_ ?_;rotate_left
  ·
   rintro w' ⟨s0,s1,s2,s3,s4,s5,s6,s7⟩;go_simp;with_reducible rfl
  rotate_left
  ·
   simp only [Act.put,sqa,sqb,sqc,i64_w,i32_w];rfl
  refine one_ (i:=3) (N:=some 10) (lb 13 127) rfl rfl (one_of HT_.out (by kernel_rfl)) (by decide) (fun K hK=>?_);refine goes_ Try.func10 (by kernel_rfl) rfl #[.int .i64 a0,.agg #[.int .i64 a1_0,.string a1_1,.int .i64 a1_2,.int .i64 a1_3],.agg #[.int .i64 a2_0,.string a2_1,.int .i64 a2_2,.int .i64 a2_3]] (by rfl) rfl rfl (by (try simp only [List.map_toArray,List.map_cons,List.map_nil]);first|done|rfl|(simp only [List.length_drop,List.length_take];rfl)) ?_;with_reducible refine (overlap_Wins.calls a0 a1_0 a1_1 a1_2 a1_3 a2_0 a2_1 a2_2 a2_3 t263 _ A4.out).mono ?_
  rintro e w11 ⟨rfl,hb⟩;refine ⟨_,rfl,?_⟩;have n0_:=Aside0.mk (blk_below (g:=gb261) (o:=.cells #[.int .i64 a1_0,.string a1_1,.int .i64 a1_2,.int .i64 a1_3] 23 (0,0)) (by (with_reducible repeat (first|refine blk_drewN ?_ _|refine blk_drew ?_|refine blk_alloc ?_ _));exact BK261.out) hb);have n1_:=Aside0.mk (blk_below (g:=gb262) (o:=.cells #[.int .i64 a2_0,.string a2_1,.int .i64 a2_2,.int .i64 a2_3] 23 (0,0)) (by (with_reducible repeat (first|refine blk_drewN ?_ _|refine blk_drew ?_|refine blk_alloc ?_ _));exact BK262.out) hb);have n2_:=Aside0.mk (below_step (by repeat (first|(with_reducible first|exact HB.out|apply below_alloc|apply pw_below_drewN|apply below_drew1|refine below_set ?_ GE261.out|refine below_set ?_ GE262.out)|exact HB.out)) hb);clear BK261;clear BK262;clear HB;have BK261:=n0_;have BK262:=n1_;have HB:=n2_;clear n0_ n1_ n2_;(try clear hb);(try clear hb2);(try clear hk);(try clear hi);refine hK.out _ _ ⟨(blk_cell BK261.out 0).trans rfl,(blk_cell BK261.out 1).trans rfl,(blk_cell BK261.out 2).trans rfl,(blk_cell BK261.out 3).trans rfl,(blk_cell BK262.out 0).trans rfl,(blk_cell BK262.out 1).trans rfl,(blk_cell BK262.out 2).trans rfl,(blk_cell BK262.out 3).trans rfl⟩ (fun hHeld=>?_);clear hK K;refine norm_ (a':=?_) ?_ ?_;rotate_left
  ·
   show Act.put _ (some 10) _ = _
   simp only [Act.put,sqa,sqb,sqc,i64_w,i32_w];rfl
  refine one_ (i:=7) (N:=some 14) (lb 13 255) rfl rfl (one_of HT_.out (by kernel_rfl)) (by decide) (fun K hK=>?_);refine goes_ Try.func11 (by kernel_rfl) rfl #[.int .i64 a0,.agg #[.int .i64 a1_0,.string a1_1,.int .i64 a1_2,.int .i64 a1_3],.agg #[.int .i64 a2_0,.string a2_1,.int .i64 a2_2,.int .i64 a2_3]] (by rfl) rfl rfl (by (try simp only [List.map_toArray,List.map_cons,List.map_nil]);first|done|rfl|(simp only [List.length_drop,List.length_take];rfl)) ?_;with_reducible refine (intrusionref15_Wins.calls a0 a1_0 a1_1 a1_2 a1_3 a2_0 a2_1 a2_2 a2_3 t264 _ A5.out).mono ?_
  rintro e w12 ⟨rfl,hb⟩;refine ⟨_,rfl,?_⟩;have n0_:=Aside0.mk (blk_below (g:=gb261) (o:=.cells #[.int .i64 a1_0,.string a1_1,.int .i64 a1_2,.int .i64 a1_3] 23 (0,0)) (by (with_reducible repeat (first|refine blk_drewN ?_ _|refine blk_drew ?_|refine blk_alloc ?_ _));exact BK261.out) hb);have n1_:=Aside0.mk (blk_below (g:=gb262) (o:=.cells #[.int .i64 a2_0,.string a2_1,.int .i64 a2_2,.int .i64 a2_3] 23 (0,0)) (by (with_reducible repeat (first|refine blk_drewN ?_ _|refine blk_drew ?_|refine blk_alloc ?_ _));exact BK262.out) hb);have n2_:=Aside0.mk (below_step (by repeat (first|(with_reducible first|exact HB.out|apply below_alloc|apply pw_below_drewN|apply below_drew1|refine below_set ?_ GE261.out|refine below_set ?_ GE262.out)|exact HB.out)) hb);clear BK261;clear BK262;clear HB;have BK261:=n0_;have BK262:=n1_;have HB:=n2_;clear n0_ n1_ n2_;(try clear hb);(try clear hb2);(try clear hk);(try clear hi);refine hK.out _ _ ⟨(blk_cell BK261.out 0).trans rfl,(blk_cell BK261.out 1).trans rfl,(blk_cell BK261.out 2).trans rfl,(blk_cell BK261.out 3).trans rfl,(blk_cell BK262.out 0).trans rfl,(blk_cell BK262.out 1).trans rfl,(blk_cell BK262.out 2).trans rfl,(blk_cell BK262.out 3).trans rfl⟩ (fun hHeld=>?_);clear hK K;refine norm_ (a':=?_) ?_ ?_;rotate_left
  ·
   show Act.put _ (some 14) _ = _
   simp only [Act.put,sqa,sqb,sqc,i64_w,i32_w];rfl
  refine pure_ (i:=8) (N:=some 15) (v:=?_) (a':=?_) (lb 13 511) rfl rfl (any_of HT_.out (by kernel_rfl)) (fun _ _ _ h=>h) (Or.inl ⟨by rfl,?_⟩) ?_ ?_;rotate_left
  ·
   intro w';go_simp;with_reducible rfl
  rotate_left
  ·
   simp only [Act.put,sqa,sqb,sqc,i64_w,i32_w];rfl
  refine pure_ (i:=9) (N:=some 16) (v:=?_) (a':=?_) (lb 13 1023) rfl rfl (any_of HT_.out (by kernel_rfl)) (fun _ _ _ h=>h) (Or.inl ⟨by rfl,?_⟩) ?_ ?_;rotate_left
  ·
   intro w';go_simp;with_reducible rfl
  rotate_left
  ·
   simp only [Act.put,sqa,sqb,sqc,i64_w,i32_w];rfl
  refine one_ (i:=10) (N:=some 17) (lb 13 2047) rfl rfl (one_of HT_.out (by kernel_rfl)) (by decide) (fun K hK=>?_);refine goes_ Try.func12 (by kernel_rfl) rfl #[] (by rfl) rfl rfl (by (try simp only [List.map_toArray,List.map_cons,List.map_nil]);first|done|rfl|(simp only [List.length_drop,List.length_take];rfl)) ?_;with_reducible refine (intrusionlaw15_lives.calls k  t265 _ A7.out).mono ?_
  rintro e w13 ⟨rfl,hb⟩;refine ⟨_,rfl,?_⟩;have n0_:=Aside0.mk (blk_below (g:=gb261) (o:=.cells #[.int .i64 a1_0,.string a1_1,.int .i64 a1_2,.int .i64 a1_3] 23 (0,0)) (by (with_reducible repeat (first|refine blk_drewN ?_ _|refine blk_drew ?_|refine blk_alloc ?_ _));exact BK261.out) hb);have n1_:=Aside0.mk (blk_below (g:=gb262) (o:=.cells #[.int .i64 a2_0,.string a2_1,.int .i64 a2_2,.int .i64 a2_3] 23 (0,0)) (by (with_reducible repeat (first|refine blk_drewN ?_ _|refine blk_drew ?_|refine blk_alloc ?_ _));exact BK262.out) hb);have n2_:=Aside0.mk (below_step (by repeat (first|(with_reducible first|exact HB.out|apply below_alloc|apply pw_below_drewN|apply below_drew1|refine below_set ?_ GE261.out|refine below_set ?_ GE262.out)|exact HB.out)) hb);clear BK261;clear BK262;clear HB;have BK261:=n0_;have BK262:=n1_;have HB:=n2_;clear n0_ n1_ n2_;(try clear hb);(try clear hb2);(try clear hk);(try clear hi);refine hK.out _ _ ⟨(blk_cell BK261.out 0).trans rfl,(blk_cell BK261.out 1).trans rfl,(blk_cell BK261.out 2).trans rfl,(blk_cell BK261.out 3).trans rfl,(blk_cell BK262.out 0).trans rfl,(blk_cell BK262.out 1).trans rfl,(blk_cell BK262.out 2).trans rfl,(blk_cell BK262.out 3).trans rfl⟩ (fun hHeld=>?_);clear hK K;refine norm_ (a':=?_) ?_ ?_;rotate_left
  ·
   show Act.put _ (some 17) _ = _
   simp only [Act.put,sqa,sqb,sqc,i64_w,i32_w];rfl
  refine pure_ (i:=11) (N:=some 18) (v:=?_) (a':=?_) (lb 13 4095) rfl rfl (any_of HT_.out (by kernel_rfl)) (fun _ _ _ h=>h) (Or.inl ⟨by rfl,?_⟩) ?_ ?_;rotate_left
  ·
   intro w';go_simp;with_reducible rfl
  rotate_left
  ·
   simp only [Act.put,sqa,sqb,sqc,i64_w,i32_w];rfl
  refine pure_ (i:=12) (N:=some 6) (v:=?_) (a':=?_) (lb 13 8191) rfl rfl (any_of HT_.out (by kernel_rfl)) (fun _ _ _ h=>h) (Or.inl ⟨by rfl,?_⟩) ?_ ?_;rotate_left
  ·
   intro w';go_simp;with_reducible rfl
  rotate_left
  ·
   simp only [Act.put,sqa,sqb,sqc,i64_w,i32_w];rfl
  refine done_ (done_of HT_.out (by kernel_rfl)) ?_;try go_wp2
  go_ret;exact ⟨by first|rfl|(simp [errW_none,errW_some] <;> rfl)|(simp [*,errW_none,errW_some] <;> rfl),by repeat (first|(with_reducible first|exact HB.out|apply below_alloc|apply pw_below_drewN|apply below_drew1|refine below_set ?_ GE261.out|refine below_set ?_ GE262.out)|exact HB.out)⟩
 ·
  rw [if_neg c6] at H;have c6b0 : (t263 == t264) = false:=by simpa using c6
  (try (have c6b1 : decide (t263 = t264) = false:=by simpa using c6));(try (have c6b2 : (t263 == t264) = false:=by simpa using c6));(try (have c6b3 : ¬ (t263 = t264):=by simpa using c6));clear c6;obtain rfl:=Option.some.inj H;go_enter Try.func3,Try.ntmps3
  try go_wp2_with (first|((with_reducible refine gate_dst (N:=4) rfl ?_);refine box_event ?hg (N:=4) ?hd (cs:=#[.int .i64 a1_0,.string a1_1,.int .i64 a1_2,.int .i64 a1_3]) (t:=23) ?hr ?_;(case hd=>rfl);(case hg=>rfl);(case hr=>first|(go_simp;done)|(go_simp;rfl));intro gb261 hg w14 hbox hb;have n0_:=Aside0.mk (below_step (by repeat (first|(with_reducible first|exact HB.out|apply below_alloc|apply pw_below_drewN|apply below_drew1)|exact HB.out)) hb);have n1_:=Aside0.mk (hbox);have n2_:=Aside0.mk ((by rw [hg];exact (below_size (by repeat (first|(with_reducible first|exact HB.out|apply below_alloc|apply pw_below_drewN|apply below_drew1)|exact HB.out))) : w.heap.size≤gb261));have n3_:=Aside0.mk ((by rw [hg];exact (below_size (by repeat (first|(with_reducible first|exact HB.out|apply below_alloc|apply pw_below_drewN|apply below_drew1)|exact HB.out))) : w.heap.size≤gb261));clear HB;have HB:=n0_;have BK261:=n1_;have GW261:=n2_;have GE261:=n3_;clear n0_ n1_ n2_ n3_;clear hb hbox hg)|((with_reducible refine gate_dst (N:=5) rfl ?_);refine box_event ?hg (N:=5) ?hd (cs:=#[.int .i64 a2_0,.string a2_1,.int .i64 a2_2,.int .i64 a2_3]) (t:=23) ?hr ?_;(case hd=>rfl);(case hg=>rfl);(case hr=>first|(go_simp;done)|(go_simp;rfl));intro gb262 hg w15 hbox hb;have n0_:=Aside0.mk (blk_below (g:=gb261) (o:=.cells #[.int .i64 a1_0,.string a1_1,.int .i64 a1_2,.int .i64 a1_3] 23 (0,0)) (by (with_reducible repeat (first|refine blk_drewN ?_ _|refine blk_drew ?_|refine blk_alloc ?_ _));exact BK261.out) hb);have n1_:=Aside0.mk (below_step (by repeat (first|(with_reducible first|exact HB.out|apply below_alloc|apply pw_below_drewN|apply below_drew1|refine below_set ?_ GE261.out)|exact HB.out)) hb);have n2_:=Aside0.mk (hbox);have n3_:=Aside0.mk ((by rw [hg];exact (below_size (by repeat (first|(with_reducible first|exact HB.out|apply below_alloc|apply pw_below_drewN|apply below_drew1|refine below_set ?_ GE261.out)|exact HB.out))) : w.heap.size≤gb262));have n4_:=Aside0.mk ((by rw [hg];exact (below_size (by repeat (first|(with_reducible first|exact HB.out|apply below_alloc|apply pw_below_drewN|apply below_drew1|refine below_set ?_ GE261.out)|exact HB.out))) : w.heap.size≤gb262));have n5_:=Aside0.mk ((by rw [hg];exact Nat.ne_of_lt (blk_lt (g:=gb261) (o:=.cells #[.int .i64 a1_0,.string a1_1,.int .i64 a1_2,.int .i64 a1_3] 23 (0,0)) (by (with_reducible repeat (first|refine blk_drewN ?_ _|refine blk_drew ?_|refine blk_alloc ?_ _));exact BK261.out)) : gb261≠gb262));have n6_:=Aside0.mk ((by rw [hg];exact Nat.ne_of_gt (blk_lt (g:=gb261) (o:=.cells #[.int .i64 a1_0,.string a1_1,.int .i64 a1_2,.int .i64 a1_3] 23 (0,0)) (by (with_reducible repeat (first|refine blk_drewN ?_ _|refine blk_drew ?_|refine blk_alloc ?_ _));exact BK261.out)) : gb262≠gb261));clear BK261;clear HB;have BK261:=n0_;have HB:=n1_;have BK262:=n2_;have GW262:=n3_;have GE262:=n4_;have NB261_262:=n5_;have NB262_261:=n6_;clear n0_ n1_ n2_ n3_ n4_ n5_ n6_;clear hb hbox hg))
  have n0_:=Aside0.mk (blk_drew BK261.out);have n1_:=Aside0.mk (blk_drew BK262.out);have n2_:=Aside0.mk (below_drew1 HB.out);clear BK261;clear BK262;clear HB;have BK261:=n0_;have BK262:=n1_;have HB:=n2_;clear n0_ n1_ n2_;refine start_ (n:=13) (S:=fun w'=>w'.cell? ⟨gb261,0,none⟩ = some (.int .i64 a1_0)∧w'.cell? ⟨gb261,1,none⟩ = some (.string a1_1)∧w'.cell? ⟨gb261,2,none⟩ = some (.int .i64 a1_2)∧w'.cell? ⟨gb261,3,none⟩ = some (.int .i64 a1_3)∧w'.cell? ⟨gb262,0,none⟩ = some (.int .i64 a2_0)∧w'.cell? ⟨gb262,1,none⟩ = some (.string a2_1)∧w'.cell? ⟨gb262,2,none⟩ = some (.int .i64 a2_2)∧w'.cell? ⟨gb262,3,none⟩ = some (.int .i64 a2_3)) (ds:=[]) (lb 13 0) (by kernel_rfl) rfl (by kernel_rfl) ⟨(blk_cell BK261.out 0).trans rfl,(blk_cell BK261.out 1).trans rfl,(blk_cell BK261.out 2).trans rfl,(blk_cell BK261.out 3).trans rfl,(blk_cell BK262.out 0).trans rfl,(blk_cell BK262.out 1).trans rfl,(blk_cell BK262.out 2).trans rfl,(blk_cell BK262.out 3).trans rfl⟩ (fun hHeld=>?_);refine with_tabW intrusionlaw15_OverlapWins.tab1 intrusionlaw15_OverlapWins.bits1 (fun HT_ HW_=>?_)
  generalize w15.drew = w16 at BK261 BK262 HB hHeld ⊢;refine pure_ (i:=0) (N:=some 7) (v:=?_) (a':=?_) (lb 13 1) rfl rfl (any_of HT_.out (by kernel_rfl)) (fun _ _ _ h=>h) (Or.inl ⟨by rfl,?_⟩) ?_ ?_;rotate_left
  ·
   intro w';go_simp;with_reducible rfl
  rotate_left
  ·
   simp only [Act.put,sqa,sqb,sqc,i64_w,i32_w];rfl
  refine pure_ (i:=4) (N:=some 11) (v:=?_) (a':=?_) (lb 13 17) rfl rfl (any_of HT_.out (by kernel_rfl)) (fun _ _ _ h=>h) (Or.inl ⟨by rfl,?_⟩) ?_ ?_;rotate_left
  ·
   intro w';go_simp;with_reducible rfl
  rotate_left
  ·
   simp only [Act.put,sqa,sqb,sqc,i64_w,i32_w];rfl
  refine take_ (i:=1) (N:=some 8) (v:=?_) (a':=?_) (lb 13 19) rfl rfl (take_ofW HT_.out HW_.out (by kernel_rfl)) (fun _ _ _ h=>h) (Or.inl ⟨by rfl,?_⟩) hHeld ?_ ?_;rotate_left
  ·
   rintro w' ⟨s0,s1,s2,s3,s4,s5,s6,s7⟩;go_simp;with_reducible rfl
  rotate_left
  ·
   simp only [Act.put,sqa,sqb,sqc,i64_w,i32_w];rfl
  refine take_ (i:=2) (N:=some 9) (v:=?_) (a':=?_) (lb 13 23) rfl rfl (take_ofW HT_.out HW_.out (by kernel_rfl)) (fun _ _ _ h=>h) (Or.inl ⟨by rfl,?_⟩) hHeld ?_ ?_;rotate_left
  ·
   rintro w' ⟨s0,s1,s2,s3,s4,s5,s6,s7⟩;go_simp;with_reducible rfl
  rotate_left
  ·
   simp only [Act.put,sqa,sqb,sqc,i64_w,i32_w];rfl
  refine take_ (i:=5) (N:=some 12) (v:=?_) (a':=?_) (lb 13 55) rfl rfl (take_ofW HT_.out HW_.out (by kernel_rfl)) (fun _ _ _ h=>h) (Or.inl ⟨by rfl,?_⟩) hHeld ?_ ?_;rotate_left
  ·
   rintro w' ⟨s0,s1,s2,s3,s4,s5,s6,s7⟩;go_simp;with_reducible rfl
  rotate_left
  ·
   simp only [Act.put,sqa,sqb,sqc,i64_w,i32_w];rfl
  refine take_ (i:=6) (N:=some 13) (v:=?_) (a':=?_) (lb 13 119) rfl rfl (take_ofW HT_.out HW_.out (by kernel_rfl)) (fun _ _ _ h=>h) (Or.inl ⟨by rfl,?_⟩) hHeld ?_ ?_;rotate_left
  ·
   rintro w' ⟨s0,s1,s2,s3,s4,s5,s6,s7⟩;go_simp;with_reducible rfl
  rotate_left
  ·
   simp only [Act.put,sqa,sqb,sqc,i64_w,i32_w];rfl
  refine one_ (i:=3) (N:=some 10) (lb 13 127) rfl rfl (one_of HT_.out (by kernel_rfl)) (by decide) (fun K hK=>?_);refine goes_ Try.func10 (by kernel_rfl) rfl #[.int .i64 a0,.agg #[.int .i64 a1_0,.string a1_1,.int .i64 a1_2,.int .i64 a1_3],.agg #[.int .i64 a2_0,.string a2_1,.int .i64 a2_2,.int .i64 a2_3]] (by rfl) rfl rfl (by (try simp only [List.map_toArray,List.map_cons,List.map_nil]);first|done|rfl|(simp only [List.length_drop,List.length_take];rfl)) ?_;with_reducible refine (overlap_Wins.calls a0 a1_0 a1_1 a1_2 a1_3 a2_0 a2_1 a2_2 a2_3 t263 _ A4.out).mono ?_
  rintro e w17 ⟨rfl,hb⟩;refine ⟨_,rfl,?_⟩;have n0_:=Aside0.mk (blk_below (g:=gb261) (o:=.cells #[.int .i64 a1_0,.string a1_1,.int .i64 a1_2,.int .i64 a1_3] 23 (0,0)) (by (with_reducible repeat (first|refine blk_drewN ?_ _|refine blk_drew ?_|refine blk_alloc ?_ _));exact BK261.out) hb);have n1_:=Aside0.mk (blk_below (g:=gb262) (o:=.cells #[.int .i64 a2_0,.string a2_1,.int .i64 a2_2,.int .i64 a2_3] 23 (0,0)) (by (with_reducible repeat (first|refine blk_drewN ?_ _|refine blk_drew ?_|refine blk_alloc ?_ _));exact BK262.out) hb);have n2_:=Aside0.mk (below_step (by repeat (first|(with_reducible first|exact HB.out|apply below_alloc|apply pw_below_drewN|apply below_drew1|refine below_set ?_ GE261.out|refine below_set ?_ GE262.out)|exact HB.out)) hb);clear BK261;clear BK262;clear HB;have BK261:=n0_;have BK262:=n1_;have HB:=n2_;clear n0_ n1_ n2_;(try clear hb);(try clear hb2);(try clear hk);(try clear hi);refine hK.out _ _ ⟨(blk_cell BK261.out 0).trans rfl,(blk_cell BK261.out 1).trans rfl,(blk_cell BK261.out 2).trans rfl,(blk_cell BK261.out 3).trans rfl,(blk_cell BK262.out 0).trans rfl,(blk_cell BK262.out 1).trans rfl,(blk_cell BK262.out 2).trans rfl,(blk_cell BK262.out 3).trans rfl⟩ (fun hHeld=>?_);clear hK K;refine norm_ (a':=?_) ?_ ?_;rotate_left
  ·
   show Act.put _ (some 10) _ = _
   simp only [Act.put,sqa,sqb,sqc,i64_w,i32_w];rfl
  refine one_ (i:=7) (N:=some 14) (lb 13 255) rfl rfl (one_of HT_.out (by kernel_rfl)) (by decide) (fun K hK=>?_);refine goes_ Try.func11 (by kernel_rfl) rfl #[.int .i64 a0,.agg #[.int .i64 a1_0,.string a1_1,.int .i64 a1_2,.int .i64 a1_3],.agg #[.int .i64 a2_0,.string a2_1,.int .i64 a2_2,.int .i64 a2_3]] (by rfl) rfl rfl (by (try simp only [List.map_toArray,List.map_cons,List.map_nil]);first|done|rfl|(simp only [List.length_drop,List.length_take];rfl)) ?_;with_reducible refine (intrusionref15_Wins.calls a0 a1_0 a1_1 a1_2 a1_3 a2_0 a2_1 a2_2 a2_3 t264 _ A5.out).mono ?_
  rintro e w18 ⟨rfl,hb⟩;refine ⟨_,rfl,?_⟩;have n0_:=Aside0.mk (blk_below (g:=gb261) (o:=.cells #[.int .i64 a1_0,.string a1_1,.int .i64 a1_2,.int .i64 a1_3] 23 (0,0)) (by (with_reducible repeat (first|refine blk_drewN ?_ _|refine blk_drew ?_|refine blk_alloc ?_ _));exact BK261.out) hb);have n1_:=Aside0.mk (blk_below (g:=gb262) (o:=.cells #[.int .i64 a2_0,.string a2_1,.int .i64 a2_2,.int .i64 a2_3] 23 (0,0)) (by (with_reducible repeat (first|refine blk_drewN ?_ _|refine blk_drew ?_|refine blk_alloc ?_ _));exact BK262.out) hb);have n2_:=Aside0.mk (below_step (by repeat (first|(with_reducible first|exact HB.out|apply below_alloc|apply pw_below_drewN|apply below_drew1|refine below_set ?_ GE261.out|refine below_set ?_ GE262.out)|exact HB.out)) hb);clear BK261;clear BK262;clear HB;have BK261:=n0_;have BK262:=n1_;have HB:=n2_;clear n0_ n1_ n2_;(try clear hb);(try clear hb2);(try clear hk);(try clear hi);refine hK.out _ _ ⟨(blk_cell BK261.out 0).trans rfl,(blk_cell BK261.out 1).trans rfl,(blk_cell BK261.out 2).trans rfl,(blk_cell BK261.out 3).trans rfl,(blk_cell BK262.out 0).trans rfl,(blk_cell BK262.out 1).trans rfl,(blk_cell BK262.out 2).trans rfl,(blk_cell BK262.out 3).trans rfl⟩ (fun hHeld=>?_);clear hK K;refine norm_ (a':=?_) ?_ ?_;rotate_left
  ·
   show Act.put _ (some 14) _ = _
   simp only [Act.put,sqa,sqb,sqc,i64_w,i32_w];rfl
  refine pure_ (i:=8) (N:=some 15) (v:=?_) (a':=?_) (lb 13 511) rfl rfl (any_of HT_.out (by kernel_rfl)) (fun _ _ _ h=>h) (Or.inl ⟨by rfl,?_⟩) ?_ ?_;rotate_left
  ·
   intro w';go_simp;with_reducible rfl
  rotate_left
  ·
   simp only [Act.put,sqa,sqb,sqc,i64_w,i32_w];rfl
  refine pure_ (i:=9) (N:=some 16) (v:=?_) (a':=?_) (lb 13 1023) rfl rfl (any_of HT_.out (by kernel_rfl)) (fun _ _ _ h=>h) (Or.inl ⟨by rfl,?_⟩) ?_ ?_;rotate_left
  ·
   intro w';go_simp;with_reducible rfl
  rotate_left
  ·
   simp only [Act.put,sqa,sqb,sqc,i64_w,i32_w];rfl
  refine pure_ (i:=10) (N:=some 17) (v:=undef) (a':=?_) (lb 13 2047) rfl rfl (any_of HT_.out (by kernel_rfl)) (fun _ _ _ h=>h) (Or.inr ⟨by rfl,rfl⟩) ?_ ?_;rotate_left
  ·
   simp only [Act.put,sqa,sqb,sqc,i64_w,i32_w];rfl
  refine pure_ (i:=11) (N:=some 18) (v:=?_) (a':=?_) (lb 13 4095) rfl rfl (any_of HT_.out (by kernel_rfl)) (fun _ _ _ h=>h) (Or.inl ⟨by rfl,?_⟩) ?_ ?_;rotate_left
  ·
   intro w';go_simp;with_reducible rfl
  rotate_left
  ·
   simp only [Act.put,sqa,sqb,sqc,i64_w,i32_w];rfl
  refine pure_ (i:=12) (N:=some 6) (v:=?_) (a':=?_) (lb 13 8191) rfl rfl (any_of HT_.out (by kernel_rfl)) (fun _ _ _ h=>h) (Or.inl ⟨by rfl,?_⟩) ?_ ?_;rotate_left
  ·
   intro w';go_simp;with_reducible rfl
  rotate_left
  ·
   simp only [Act.put,sqa,sqb,sqc,i64_w,i32_w];rfl
  refine done_ (done_of HT_.out (by kernel_rfl)) ?_;try go_wp2
  go_ret;exact ⟨by first|rfl|(simp [errW_none,errW_some] <;> rfl)|(simp [*,errW_none,errW_some] <;> rfl),by repeat (first|(with_reducible first|exact HB.out|apply below_alloc|apply pw_below_drewN|apply below_drew1|refine below_set ?_ GE261.out|refine below_set ?_ GE262.out)|exact HB.out)⟩
def intrusionlaw15_OverlapWins.Pure : Prop:=∀ (a0 : Int) (a1 : S23) (a2 : S23),(Lit.int .i64 a0).wf = true→((Lit.int .i64 a1.f0).wf = true∧a1.f1.size≤140737488351232∧(Lit.int .i64 a1.f2).wf = true∧(Lit.int .i64 a1.f3).wf = true)→((Lit.int .i64 a2.f0).wf = true∧a2.f1.size≤140737488351232∧(Lit.int .i64 a2.f2).wf = true∧(Lit.int .i64 a2.f3).wf = true)→∃ k,intrusionlaw15_OverlapWins.f k a0 a1.f0 a1.f1 a1.f2 a1.f3 a2.f0 a2.f1 a2.f2 a2.f3 = some true


end Go.Proofs.Ytjdjgabahkcjeaa.P
