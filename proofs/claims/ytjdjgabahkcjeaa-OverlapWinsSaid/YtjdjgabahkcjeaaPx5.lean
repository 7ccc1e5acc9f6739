-- Written by a program of the proof's own workplace (gprint.py over the kit's print): a function and its contract.
-- SQUEEZED
import Derived.Test.YtjdjgabahkcjeaaPx0
namespace Go.Proofs.Ytjdjgabahkcjeaa.P
open Go.RowKit Go.Proofs.YtjdjgabahkcjeaaW.PrintWords Go.Proofs.YtjdjgabahkcjeaaW.PrintLast Go.Proofs.YtjdjgabahkcjeaaW.PrintMore
attribute [local go_sem] max2_int min2_int max_two min_two max_three min_three max_four min_four   -- for this text's walks alone
set_option linter.unusedVariables false
set_option linter.unusedSimpArgs false

/-! ### overlap_part: function 30 -/
def overlap_part.f (a0_0 : Int) (a0_1 : ByteArray) (a0_2 : Int) (a0_3 : Int) (a1 : Int) (a2 : Int) : Option (Int × ByteArray × Int × Int):=if 0≤(wrap64 (a1 - a0_0)) then (if (wrap64 (a1 - a0_0))≤(wrap64 (a2 - a0_0)) then (if (wrap64 (a2 - a0_0))≤(a0_1.size : Int) then (some (a1,a0_1.extract ((wrap64 (a1 - a0_0)) : Int).toNat ((wrap64 (a2 - a0_0)) : Int).toNat,a0_2,a0_3)) else (none)) else (none)) else (none)
set_option maxHeartbeats 8000000 in
set_option maxRecDepth 100000 in
theorem overlap_part.calls (a0_0 : Int) (a0_1 : ByteArray) (a0_2 : Int) (a0_3 : Int) (a1 : Int) (a2 : Int) (r1 : Int) (r2 : ByteArray) (r3 : Int) (r4 : Int) (w : World) (h : overlap_part.f a0_0 a0_1 a0_2 a0_3 a1 a2 = some (r1,r2,r3,r4)) :
  Calls Try.prog 30 #[.agg #[.int .i64 a0_0,.string a0_1,.int .i64 a0_2,.int .i64 a0_3],.int .i64 a1,.int .i64 a2] w fun e w'=>e = .returned (.agg #[.int .i64 r1,.string r2,.int .i64 r3,.int .i64 r4])∧Below w.heap.size w w':=by
 have hu23:=Try.underlying23;have HB:=Aside0.mk (Below.refl w.heap.size w);have H : (if 0≤(wrap64 (a1 - a0_0)) then (if (wrap64 (a1 - a0_0))≤(wrap64 (a2 - a0_0)) then (if (wrap64 (a2 - a0_0))≤(a0_1.size : Int) then (some (a1,a0_1.extract ((wrap64 (a1 - a0_0)) : Int).toNat ((wrap64 (a2 - a0_0)) : Int).toNat,a0_2,a0_3)) else (none)) else (none)) else (none)) = some (r1,r2,r3,r4):=h;clear h;obtain ⟨ji4,hji4⟩ : ∃ j_ : Int,(wrap64 (a1 - a0_0)) = j_:=⟨_,rfl⟩;replace H : (if 0≤(ji4) then (if (ji4)≤(wrap64 (a2 - a0_0)) then (if (wrap64 (a2 - a0_0))≤(a0_1.size : Int) then (some (a1,a0_1.extract ((ji4) : Int).toNat ((wrap64 (a2 - a0_0)) : Int).toNat,a0_2,a0_3)) else (none)) else (none)) else (none)) = some (r1,r2,r3,r4):=by first|(rw [hji4] at H;exact H)|(simp only [hji4] at H ⊢;exact H)
 have hji4w : (IntKind.i64.wrap (a1 - a0_0)) = ji4:=(i64_w _).trans hji4;by_cases c5 : 0≤(ji4)
 ·
  rw [if_pos c5] at H;have c5b0:=eq_true c5;have c5b1 : decide (0≤(ji4)) = true:=decide_eq_true c5;clear c5;by_cases c6 : (ji4)≤(wrap64 (a2 - a0_0))
  ·
   rw [if_pos c6] at H;have c6b0:=eq_true c6;have c6b1 : decide ((ji4)≤(wrap64 (a2 - a0_0))) = true:=decide_eq_true c6;clear c6;by_cases c7 : (wrap64 (a2 - a0_0))≤(a0_1.size : Int)
   ·
    rw [if_pos c7] at H;have c7b0:=eq_true c7;have c7b1 : decide ((wrap64 (a2 - a0_0))≤(a0_1.size : Int)) = true:=decide_eq_true c7;clear c7;simp only [Option.some.injEq,Prod.mk.injEq] at H;obtain ⟨rfl,rfl,rfl,rfl⟩:=H;go_enter Try.func30,Try.ntmps30
    go_wp2_with (first|((with_reducible refine gate_dst (N:=3) rfl ?_);refine box_event ?hg (N:=3) ?hd (cs:=#[.int .i64 a0_0,.string a0_1,.int .i64 a0_2,.int .i64 a0_3]) (t:=23) ?hr ?_;(case hd=>rfl);(case hg=>rfl);(case hr=>first|(go_simp;done)|(go_simp;rfl));intro gb128 hg w8 hbox hb;have n0_:=Aside0.mk (below_step (by repeat (first|(with_reducible first|exact HB.out|apply below_alloc|apply pw_below_drewN|apply below_drew1)|exact HB.out)) hb);have n1_:=Aside0.mk (hbox);have n2_:=Aside0.mk ((by rw [hg];exact (below_size (by repeat (first|(with_reducible first|exact HB.out|apply below_alloc|apply pw_below_drewN|apply below_drew1)|exact HB.out))) : w.heap.size≤gb128));have n3_:=Aside0.mk ((by rw [hg];exact (below_size (by repeat (first|(with_reducible first|exact HB.out|apply below_alloc|apply pw_below_drewN|apply below_drew1)|exact HB.out))) : w.heap.size≤gb128));clear HB;have HB:=n0_;have BK128:=n1_;have GW128:=n2_;have GE128:=n3_;clear n0_ n1_ n2_ n3_;clear hb hbox hg)|((with_reducible refine gate_dst (N:=6) rfl ?_);refine box_event ?hg (N:=6) ?hd (cs:=#[.int .i64 0,.string (⟨#[]⟩ : ByteArray),.int .i64 0,.int .i64 0]) (t:=23) ?hr ?_;(case hd=>rfl);(case hg=>rfl);(case hr=>first|(go_simp;done)|(go_simp;rfl));intro gb129 hg w9 hbox hb;have n0_:=Aside0.mk (blk_below (g:=gb128) (o:=.cells #[.int .i64 a0_0,.string a0_1,.int .i64 a0_2,.int .i64 a0_3] 23 (0,0)) (by (with_reducible repeat (first|refine blk_drewN ?_ _|refine blk_drew ?_|refine blk_alloc ?_ _));exact BK128.out) hb);have n1_:=Aside0.mk (below_step (by repeat (first|(with_reducible first|exact HB.out|apply below_alloc|apply pw_below_drewN|apply below_drew1|refine below_set ?_ GE128.out)|exact HB.out)) hb);have n2_:=Aside0.mk (hbox);have n3_:=Aside0.mk ((by rw [hg];exact (below_size (by repeat (first|(with_reducible first|exact HB.out|apply below_alloc|apply pw_below_drewN|apply below_drew1|refine below_set ?_ GE128.out)|exact HB.out))) : w.heap.size≤gb129));have n4_:=Aside0.mk ((by rw [hg];exact (below_size (by repeat (first|(with_reducible first|exact HB.out|apply below_alloc|apply pw_below_drewN|apply below_drew1|refine below_set ?_ GE128.out)|exact HB.out))) : w.heap.size≤gb129));have n5_:=Aside0.mk ((by rw [hg];exact Nat.ne_of_lt (blk_lt (g:=gb128) (o:=.cells #[.int .i64 a0_0,.string a0_1,.int .i64 a0_2,.int .i64 a0_3] 23 (0,0)) (by (with_reducible repeat (first|refine blk_drewN ?_ _|refine blk_drew ?_|refine blk_alloc ?_ _));exact BK128.out)) : gb128≠gb129));have n6_:=Aside0.mk ((by rw [hg];exact Nat.ne_of_gt (blk_lt (g:=gb128) (o:=.cells #[.int .i64 a0_0,.string a0_1,.int .i64 a0_2,.int .i64 a0_3] 23 (0,0)) (by (with_reducible repeat (first|refine blk_drewN ?_ _|refine blk_drew ?_|refine blk_alloc ?_ _));exact BK128.out)) : gb129≠gb128));clear BK128;clear HB;have BK128:=n0_;have HB:=n1_;have BK129:=n2_;have GW129:=n3_;have GE129:=n4_;have NB128_129:=n5_;have NB129_128:=n6_;clear n0_ n1_ n2_ n3_ n4_ n5_ n6_;clear hb hbox hg;have hnb10:=NB128_129.out;have hnc10:=NB129_128.out;have hcz11_0 : w9.cell? ⟨gb128,0,none⟩ = some (.int .i64 a0_0):=(blk_cell BK128.out 0).trans rfl;have hcz11_1 : w9.cell? ⟨gb128,1,none⟩ = some (.string a0_1):=(blk_cell BK128.out 1).trans rfl;have hcz11_2 : w9.cell? ⟨gb128,2,none⟩ = some (.int .i64 a0_2):=(blk_cell BK128.out 2).trans rfl;have hcz11_3 : w9.cell? ⟨gb128,3,none⟩ = some (.int .i64 a0_3):=(blk_cell BK128.out 3).trans rfl;have hfz11_0:=blk_frozen BK128.out 0;have hfz11_1:=blk_frozen BK128.out 1;have hfz11_2:=blk_frozen BK128.out 2;have hfz11_3:=blk_frozen BK128.out 3;have hcz12_0 : w9.cell? ⟨gb129,0,none⟩ = some (.int .i64 0):=(blk_cell BK129.out 0).trans rfl;have hcz12_1 : w9.cell? ⟨gb129,1,none⟩ = some (.string (⟨#[]⟩ : ByteArray)):=(blk_cell BK129.out 1).trans rfl;have hcz12_2 : w9.cell? ⟨gb129,2,none⟩ = some (.int .i64 0):=(blk_cell BK129.out 2).trans rfl;have hcz12_3 : w9.cell? ⟨gb129,3,none⟩ = some (.int .i64 0):=(blk_cell BK129.out 3).trans rfl;have hfz12_0:=blk_frozen BK129.out 0;have hfz12_1:=blk_frozen BK129.out 1;have hfz12_2:=blk_frozen BK129.out 2;have hfz12_3:=blk_frozen BK129.out 3));refine bodyPost_ret (results_cell_row rfl _ _ gb129 23 #[.int .i64 a1,.string (a0_1.extract ((ji4) : Int).toNat ((wrap64 (a2 - a0_0)) : Int).toNat),.int .i64 a0_2,.int .i64 a0_3] (0,0) _ rfl (by (with_reducible repeat (first|refine blk_drewN ?_ _|refine blk_drew ?_|refine blk_alloc ?_ _));refine blk_put (cs:=#[.int .i64 a1,.string (a0_1.extract ((ji4) : Int).toNat ((wrap64 (a2 - a0_0)) : Int).toNat),.int .i64 a0_2,.int .i64 0]) ?_ 3 _ rfl;(with_reducible repeat (first|refine blk_drewN ?_ _|refine blk_drew ?_|refine blk_alloc ?_ _));refine blk_put (cs:=#[.int .i64 a1,.string (a0_1.extract ((ji4) : Int).toNat ((wrap64 (a2 - a0_0)) : Int).toNat),.int .i64 0,.int .i64 0]) ?_ 2 _ rfl;(with_reducible repeat (first|refine blk_drewN ?_ _|refine blk_drew ?_|refine blk_alloc ?_ _));refine blk_put (cs:=#[.int .i64 a1,.string (⟨#[]⟩ : ByteArray),.int .i64 0,.int .i64 0]) ?_ 1 _ rfl;(with_reducible repeat (first|refine blk_drewN ?_ _|refine blk_drew ?_|refine blk_alloc ?_ _));refine blk_put (cs:=#[.int .i64 0,.string (⟨#[]⟩ : ByteArray),.int .i64 0,.int .i64 0]) ?_ 0 _ rfl;(with_reducible repeat (first|refine blk_drewN ?_ _|refine blk_drew ?_|refine blk_alloc ?_ _));refine blk_far ?_ NB129_128.out _;(with_reducible repeat (first|refine blk_drewN ?_ _|refine blk_drew ?_|refine blk_alloc ?_ _));refine blk_far ?_ NB129_128.out _;(with_reducible repeat (first|refine blk_drewN ?_ _|refine blk_drew ?_|refine blk_alloc ?_ _));exact BK129.out) Try.underlying23 rfl (by kernel_rfl)) rfl ?_;exact ⟨by first|rfl|(simp [errW_none,errW_some] <;> rfl)|(simp only [← hji4];first|rfl|(simp [errW_none,errW_some] <;> rfl))|(simp [*,errW_none,errW_some] <;> rfl),by repeat (first|(with_reducible first|exact HB.out|apply below_alloc|apply pw_below_drewN|apply below_drew1|refine below_set ?_ GE128.out|refine below_set ?_ GE129.out)|exact HB.out)⟩
   ·
    rw [if_neg c7] at H;exact absurd H (by simp)
  ·
   rw [if_neg c6] at H;exact absurd H (by simp)
 ·
  rw [if_neg c5] at H;exact absurd H (by simp)

/-! ### overlap_differ: function 31 -/
def overlap_differ.l0 : Nat→ByteArray→ByteArray→Int→Int→Int→Option (Int)
 | 0,_,_,_,_,_=>none
 | k + 1,x0,x1,x5,x8,x9=>if x9 < x8 then (if 0≤x9 then (if x9 < (x0.size : Int) then (if x9 < (x1.size : Int) then (if (bt x0 x9) = (bt x1 x9) then (overlap_differ.l0 k x0 x1 x5 x8 (wrap64 (x9 + 1))) else (overlap_differ.l0 k x0 x1 (wrap64 (x5 + 1)) x8 (wrap64 (x9 + 1)))) else (none)) else (none)) else (none)) else (some x5)
def overlap_differ.f (k : Nat) (a0 : ByteArray) (a1 : ByteArray) : Option (Int):=overlap_differ.l0 k a0 a1 0 (a0.size : Int) 0
theorem overlap_differ.mono_l : ∀ k,(∀ y0 y1 y2 y3 y4,LeO (overlap_differ.l0 k y0 y1 y2 y3 y4) (overlap_differ.l0 (k + 1) y0 y1 y2 y3 y4))
 | 0=>fun _ _ _ _ _ r h=>by simp [overlap_differ.l0] at h
 | k + 1=>by
  have ih0:=overlap_differ.mono_l k
  ·
   intro y0 y1 y2 y3 y4;unfold overlap_differ.l0
   repeat' first
   | (with_reducible exact ih0 _ _ _ _ _)
   | (with_reducible exact LeO.refl _)
   | (with_reducible exact LeO.none _)
   | (with_reducible refine LeO.ite ?_ ?_)
   | (with_reducible refine LeO.bind ?_ (fun _=>?_))
   | exact ih0 _ _ _ _ _
   | exact LeO.none _
   | refine LeO.ite ?_ ?_
   | refine LeO.bind ?_ (fun _=>?_)
theorem overlap_differ.mono : ∀ a0 a1 k,LeO (overlap_differ.f k a0 a1) (overlap_differ.f (k + 1) a0 a1):=by
 intro a0 a1 k;have ih0:=overlap_differ.mono_l k;unfold overlap_differ.f
 repeat' first
   | (with_reducible exact ih0 _ _ _ _ _)
   | (with_reducible exact LeO.refl _)
   | (with_reducible exact LeO.none _)
   | (with_reducible refine LeO.ite ?_ ?_)
   | (with_reducible refine LeO.bind ?_ (fun _=>?_))
   | exact ih0 _ _ _ _ _
   | exact LeO.none _
   | refine LeO.ite ?_ ?_
   | refine LeO.bind ?_ (fun _=>?_)
set_option maxHeartbeats 8000000 in
set_option maxRecDepth 100000 in
theorem overlap_differ.calls (k : Nat) (a0 : ByteArray) (a1 : ByteArray) (r : Int) (w : World) (h : overlap_differ.f k a0 a1 = some r) :
  Calls Try.prog 31 #[.string a0,.string a1] w fun e w'=>e = .returned (.int .i64 r)∧Drawn0 w w':=by
 have H : (overlap_differ.l0 k a0 a1 0 (a0.size : Int) 0) = some r:=h;clear h;have H':=Aside0.mk H;clear H;go_enter Try.func31,Try.ntmps31
 go_wp2;repeat (go_quiet (fail);try go_wp2)
 go_loopg [5,9] k (fun kq v5 v9 w'=>∃ (x5_1 : Int) (x9_1 : Int),v5 = .int .i64 x5_1∧v9 = .int .i64 x9_1∧Aside0 (overlap_differ.l0 kq a0 a1 x5_1 (a0.size : Int) x9_1 = some r)∧Aside0 (kq≤k)∧Drawn0 w w')
 case atStart=>exact ⟨(0),(0),(by first|rfl|(simp;done)|(simp [*];done)),(by first|rfl|(simp;done)|(simp [*];done)),H',⟨Nat.le_refl _⟩,by repeat (first|exact Drawn0.refl _|apply Drawn0.step)⟩
 case round=>
  clear H';(try clear p2);obtain ⟨x5_1,x9_1,rfl,rfl,HA,HK1,⟨m1,rfl⟩⟩:=hrel;cases gk with
  | zero=>exact absurd HA.out (by simp [overlap_differ.l0])
  | succ k1=>
   have H:=HA.out;clear HA;simp only [overlap_differ.l0] at H;by_cases c3 : x9_1 < (a0.size : Int)
   ·
    rw [if_pos c3] at H;have c3b0 : decide (x9_1 < (a0.size : Int)) = true:=decide_eq_true c3;clear c3;by_cases c4 : 0≤x9_1
    ·
     rw [if_pos c4] at H;have c4b0 : decide (0≤x9_1) = true:=decide_eq_true c4;clear c4;by_cases c5 : x9_1 < (a0.size : Int)
     ·
      rw [if_pos c5] at H;have c5b0 : decide (x9_1 < (a0.size : Int)) = true:=decide_eq_true c5;clear c5;by_cases c7 : x9_1 < (a1.size : Int)
      ·
       rw [if_pos c7] at H;have c7b0 : decide (x9_1 < (a1.size : Int)) = true:=decide_eq_true c7;clear c7;by_cases c9 : (bt a0 x9_1) = (bt a1 x9_1)
       ·
        rw [if_pos c9] at H;have c9b0 : ((bt a0 x9_1) == (bt a1 x9_1)) = true:=beq_iff_eq.mpr c9;have c9b1 : ((bt a0 x9_1) != (bt a1 x9_1)) = false:=bne_eq_false_iff_eq.mpr c9;clear c9;have H':=Aside0.mk H;clear H;have p6 : 0≤(x9_1 : Int):=of_decide_eq_true (by first|(with_reducible assumption)|assumption);have q6 : x9_1 < (a0.size : Int):=of_decide_eq_true (by first|(with_reducible assumption)|assumption);have hx6:=bt_at a0 x9_1;replace p6:=eq_true p6;replace q6:=eq_true q6;have p8 : 0≤(x9_1 : Int):=of_decide_eq_true (by first|(with_reducible assumption)|assumption);have q8 : x9_1 < (a1.size : Int):=of_decide_eq_true (by first|(with_reducible assumption)|assumption);have hx8:=bt_at a1 x9_1;replace p8:=eq_true p8;replace q8:=eq_true q8;go_wp2;repeat (go_quiet (fail);try go_wp2)
        go_roundg k1
        case measure=>have:=HK1.out;omega
        case rel=>exact ⟨(x5_1),(wrap64 (x9_1 + 1)),(by first|rfl|(simp;done)|(simp [*];done)),(by first|rfl|(simp;done)|(simp [*];done)),H',⟨by have:=HK1.out;omega⟩,by repeat (first|exact Drawn0.refl _|apply Drawn0.step)⟩
       ·
        rw [if_neg c9] at H;have c9b0 : ((bt a0 x9_1) == (bt a1 x9_1)) = false:=beq_eq_false_iff_ne.mpr c9;have c9b1 : ((bt a0 x9_1) != (bt a1 x9_1)) = true:=bne_iff_ne.mpr c9;have H':=Aside0.mk H;clear H;have p6 : 0≤(x9_1 : Int):=of_decide_eq_true (by first|(with_reducible assumption)|assumption);have q6 : x9_1 < (a0.size : Int):=of_decide_eq_true (by first|(with_reducible assumption)|assumption);have hx6:=bt_at a0 x9_1;replace p6:=eq_true p6;replace q6:=eq_true q6;have p8 : 0≤(x9_1 : Int):=of_decide_eq_true (by first|(with_reducible assumption)|assumption);have q8 : x9_1 < (a1.size : Int):=of_decide_eq_true (by first|(with_reducible assumption)|assumption);have hx8:=bt_at a1 x9_1;replace p8:=eq_true p8;replace q8:=eq_true q8;go_wp2;repeat (go_quiet (fail);try go_wp2)
        go_roundg k1
        case measure=>have:=HK1.out;omega
        case rel=>exact ⟨(wrap64 (x5_1 + 1)),(wrap64 (x9_1 + 1)),(by first|rfl|(simp;done)|(simp [*];done)),(by first|rfl|(simp;done)|(simp [*];done)),H',⟨by have:=HK1.out;omega⟩,by repeat (first|exact Drawn0.refl _|apply Drawn0.step)⟩
      ·
       rw [if_neg c7] at H;exact absurd H (by simp)
     ·
      rw [if_neg c5] at H;exact absurd H (by simp)
    ·
     rw [if_neg c4] at H;exact absurd H (by simp)
   ·
    rw [if_neg c3] at H;have c3b0 : decide (x9_1 < (a0.size : Int)) = false:=decide_eq_false c3;clear c3;obtain rfl:=Option.some.inj H;go_wp2;repeat (go_quiet (fail);try go_wp2)
    go_ret;exact ⟨by first|rfl|(simp;done)|(simp [*];done),by repeat (first|exact Drawn0.refl _|apply Drawn0.step)⟩

end Go.Proofs.Ytjdjgabahkcjeaa.P
