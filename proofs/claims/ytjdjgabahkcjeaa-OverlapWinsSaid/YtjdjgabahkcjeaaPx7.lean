-- Written by a program of the proof's own workplace (gprint.py over the kit's print): a function and its contract.
-- SQUEEZED
import Derived.Test.YtjdjgabahkcjeaaPx0
import Derived.Test.YtjdjgabahkcjeaaPx3
namespace Go.Proofs.Ytjdjgabahkcjeaa.P
open Go.RowKit Go.Proofs.YtjdjgabahkcjeaaW.PrintWords Go.Proofs.YtjdjgabahkcjeaaW.PrintLast Go.Proofs.YtjdjgabahkcjeaaW.PrintMore
attribute [local go_sem] max2_int min2_int max_two min_two max_three min_three max_four min_four   -- for this text's walks alone
set_option linter.unusedVariables false
set_option linter.unusedSimpArgs false

/-! ### overlap_Valid: function 18 -/
mutual
def overlap_Valid.l0 : Nat→List (S23)→List (S23)→Int→Int→Option (Bool)
 | 0,_,_,_,_=>none
 | k + 1,x0,x5,x6,x7=>if x7 < x6 then (if 0≤x7 then (if x7 < (x5.length : Int) then (if ((rd_T23 x5 x7).f1).toList = ([] : List UInt8) then (overlap_Valid.j1 k x0 x7 x5 x6 x7 true ((rd_T23 x5 x7).f0) ((rd_T23 x5 x7).f1) ((rd_T23 x5 x7).f2) ((rd_T23 x5 x7).f3)) else (if ((rd_T23 x5 x7).f2) < 0 then (overlap_Valid.j1 k x0 x7 x5 x6 x7 true ((rd_T23 x5 x7).f0) ((rd_T23 x5 x7).f1) ((rd_T23 x5 x7).f2) ((rd_T23 x5 x7).f3)) else (if ((rd_T23 x5 x7).f2) > ((rd_T23 x5 x7).f0) then (overlap_Valid.j1 k x0 x7 x5 x6 x7 true ((rd_T23 x5 x7).f0) ((rd_T23 x5 x7).f1) ((rd_T23 x5 x7).f2) ((rd_T23 x5 x7).f3)) else (if ((rd_T23 x5 x7).f3) > 4294967296 then (overlap_Valid.j1 k x0 x7 x5 x6 x7 true ((rd_T23 x5 x7).f0) ((rd_T23 x5 x7).f1) ((rd_T23 x5 x7).f2) ((rd_T23 x5 x7).f3)) else (if ((rd_T23 x5 x7).f0) > ((rd_T23 x5 x7).f3) then (overlap_Valid.j1 k x0 x7 x5 x6 x7 true ((rd_T23 x5 x7).f0) ((rd_T23 x5 x7).f1) ((rd_T23 x5 x7).f2) ((rd_T23 x5 x7).f3)) else (overlap_Valid.j1 k x0 x7 x5 x6 x7 (decide ((((rd_T23 x5 x7).f1).size : Int) > (wrap64 (((rd_T23 x5 x7).f3) - ((rd_T23 x5 x7).f0))))) ((rd_T23 x5 x7).f0) ((rd_T23 x5 x7).f1) ((rd_T23 x5 x7).f2) ((rd_T23 x5 x7).f3))))))) else (none)) else (none)) else (some true)
def overlap_Valid.j1 : Nat→List (S23)→Int→List (S23)→Int→Int→Bool→Int→ByteArray→Int→Int→Option (Bool)
 | 0,_,_,_,_,_,_,_,_,_,_=>none
 | k + 1,x0,x3,x5,x6,x7,x12,x211000,x211001,x211002,x211003=>if x12 = true then (some false) else (if x3 > 0 then (if 0≤(wrap64 (x3 - 1)) then (if (wrap64 (x3 - 1)) < (x0.length : Int) then ((overlap_end.f ((rd_T23 x0 (wrap64 (x3 - 1))).f0) ((rd_T23 x0 (wrap64 (x3 - 1))).f1) ((rd_T23 x0 (wrap64 (x3 - 1))).f2) ((rd_T23 x0 (wrap64 (x3 - 1))).f3)).bind fun t212=>(if t212 > x211000 then (some false) else (overlap_Valid.l0 k x0 x5 x6 (wrap64 (x7 + 1))))) else (none)) else (none)) else (overlap_Valid.l0 k x0 x5 x6 (wrap64 (x7 + 1))))
end
def overlap_Valid.f (k : Nat) (l0 : List (S23)) : Option (Bool):=overlap_Valid.l0 k l0 l0 (l0.length : Int) 0
theorem overlap_Valid.mono_l : ∀ k,(∀ y0 y1 y2 y3,LeO (overlap_Valid.l0 k y0 y1 y2 y3) (overlap_Valid.l0 (k + 1) y0 y1 y2 y3))∧(∀ y0 y1 y2 y3 y4 y5 y6 y7 y8 y9,LeO (overlap_Valid.j1 k y0 y1 y2 y3 y4 y5 y6 y7 y8 y9) (overlap_Valid.j1 (k + 1) y0 y1 y2 y3 y4 y5 y6 y7 y8 y9))
 | 0=>⟨fun _ _ _ _ r h=>by simp [overlap_Valid.l0] at h,fun _ _ _ _ _ _ _ _ _ _ r h=>by simp [overlap_Valid.j1] at h⟩
 | k + 1=>by
  obtain ⟨ih0,ih1⟩:=overlap_Valid.mono_l k;refine ⟨?_,?_⟩
  ·
   intro y0 y1 y2 y3;unfold overlap_Valid.l0
   repeat' first
   | (with_reducible exact ih0 _ _ _ _)
   | (with_reducible exact ih1 _ _ _ _ _ _ _ _ _ _)
   | (with_reducible exact LeO.refl _)
   | (with_reducible exact LeO.none _)
   | (with_reducible refine LeO.ite ?_ ?_)
   | (with_reducible refine LeO.bind ?_ (fun _=>?_))
   | exact ih0 _ _ _ _
   | exact ih1 _ _ _ _ _ _ _ _ _ _
   | exact LeO.none _
   | refine LeO.ite ?_ ?_
   | refine LeO.bind ?_ (fun _=>?_)
  ·
   intro y0 y1 y2 y3 y4 y5 y6 y7 y8 y9;unfold overlap_Valid.j1
   repeat' first
   | (with_reducible exact ih0 _ _ _ _)
   | (with_reducible exact ih1 _ _ _ _ _ _ _ _ _ _)
   | (with_reducible exact LeO.refl _)
   | (with_reducible exact LeO.none _)
   | (with_reducible refine LeO.ite ?_ ?_)
   | (with_reducible refine LeO.bind ?_ (fun _=>?_))
   | exact ih0 _ _ _ _
   | exact ih1 _ _ _ _ _ _ _ _ _ _
   | exact LeO.none _
   | refine LeO.ite ?_ ?_
   | refine LeO.bind ?_ (fun _=>?_)
theorem overlap_Valid.mono : ∀ a0 k,LeO (overlap_Valid.f k a0) (overlap_Valid.f (k + 1) a0):=by
 intro a0 k;obtain ⟨ih0,ih1⟩:=overlap_Valid.mono_l k;unfold overlap_Valid.f
 repeat' first
   | (with_reducible exact ih0 _ _ _ _)
   | (with_reducible exact ih1 _ _ _ _ _ _ _ _ _ _)
   | (with_reducible exact LeO.refl _)
   | (with_reducible exact LeO.none _)
   | (with_reducible refine LeO.ite ?_ ?_)
   | (with_reducible refine LeO.bind ?_ (fun _=>?_))
   | exact ih0 _ _ _ _
   | exact ih1 _ _ _ _ _ _ _ _ _ _
   | exact LeO.none _
   | refine LeO.ite ?_ ?_
   | refine LeO.bind ?_ (fun _=>?_)
def overlap_Valid.T6 : Bool × List (List Nat × List Nat):=(true,[([],[]),([0],[0]),([1],[1]),([2],[2]),([2],[2]),([4,2],[2,4]),([3,5,2],[2,3,5]),([6,2],[2,6]),([7,2,2],[2,7]),([2],[2]),([9,2],[2,9]),([8,10,2],[2,8,10]),([2,11],[2,11]),([12,8],[12])])
def overlap_Valid.B6 : List Nat:=[0,1,3,7,7,23,63,127,255,7,519,2047,4095,8191]
theorem overlap_Valid.tab6 : rtab .any (opsOf Try.f18 6) = overlap_Valid.T6:=by kernel_rfl
theorem overlap_Valid.bits6 : waitsOk overlap_Valid.T6.2 overlap_Valid.B6 = true:=by kernel_rfl
set_option maxHeartbeats 8000000 in
set_option maxRecDepth 100000 in
theorem overlap_Valid.calls (k : Nat) (A0 : Option Addr) (c0 : Nat) (l0 : List (S23)) (r : Bool) (w : World) (hr0 : Kd.C k23 w A0 l0.length l0) (hc0 : l0.length≤c0) (h : overlap_Valid.f k l0 = some r) :
  Calls Try.prog 18 #[.slice A0 l0.length c0] w fun e w'=>e = .returned (.bool r)∧Below w.heap.size w w':=by
 have hu23:=Try.underlying23;have HR0:=Aside0.mk hr0;have HC0:=Aside0.mk hc0;clear hr0 hc0;have HB:=Aside0.mk (Below.refl w.heap.size w);have H : (overlap_Valid.l0 k l0 l0 (l0.length : Int) 0) = some r:=h;clear h;have H':=Aside0.mk H;clear H;go_enter Try.func18,Try.ntmps18
 go_wp2;go_loopg [7] k (fun kq v7 w'=>∃ (x7_1 : Int),v7 = .int .i64 x7_1∧Aside0 (overlap_Valid.l0 kq l0 l0 (l0.length : Int) x7_1 = some r)∧Aside0 (kq≤k)∧Aside0 (Below w.heap.size w w'))
 case atStart=>exact ⟨(0),(by first|rfl|(simp;done)|(simp [*];done)),H',⟨Nat.le_refl _⟩,⟨by repeat (first|(with_reducible first|exact HB.out|apply below_alloc|apply pw_below_drewN|apply below_drew1)|exact HB.out)⟩⟩
 case round=>
  clear H';(try clear c1);obtain ⟨x7_1,rfl,HA,HK1,HB⟩:=hrel;cases gk with
  | zero=>exact absurd HA.out (by simp [overlap_Valid.l0])
  | succ k1=>
   have H:=HA.out;clear HA;simp only [overlap_Valid.l0] at H;by_cases c2 : x7_1 < (l0.length : Int)
   ·
    rw [if_pos c2] at H;have c2b0 : decide (x7_1 < (l0.length : Int)) = true:=decide_eq_true c2;clear c2;by_cases c3 : 0≤x7_1
    ·
     rw [if_pos c3] at H;have c3b0 : decide (0≤x7_1) = true:=decide_eq_true c3;clear c3;by_cases c4 : x7_1 < (l0.length : Int)
     ·
      rw [if_pos c4] at H;have c4b0 : decide (x7_1 < (l0.length : Int)) = true:=decide_eq_true c4;clear c4;have HC5:=Aside0.mk H;clear H;have p209 : 0≤(x7_1 : Int):=of_decide_eq_true (by first|(with_reducible assumption)|assumption);have q209 : x7_1 < (l0.length : Int):=of_decide_eq_true (by first|(with_reducible assumption)|assumption);obtain ⟨ad209,e209,hx209_0,hx209_1,hx209_2,hx209_3⟩:=at_T23 HR0.out x7_1 p209 q209;cases e209;replace hx209_0:=(HB.out.cell (World.block_lt_of_cell? w _ hx209_0)).trans hx209_0;replace hx209_1:=(HB.out.cell (World.block_lt_of_cell? w _ hx209_1)).trans hx209_1;replace hx209_2:=(HB.out.cell (World.block_lt_of_cell? w _ hx209_2)).trans hx209_2;replace hx209_3:=(HB.out.cell (World.block_lt_of_cell? w _ hx209_3)).trans hx209_3;replace p209:=eq_true p209;replace q209:=eq_true q209;go_upto_region 4 with (first|((with_reducible refine gate_dst (N:=4) rfl ?_);(try (refine gate_guard (by rfl) ?_;dsimp only));refine box_event ?hg (N:=4) ?hd (cs:=#[.int .i64 0,.string (⟨#[]⟩ : ByteArray),.int .i64 0,.int .i64 0]) (t:=23) ?hr ?_;(case hd=>rfl);(case hg=>rfl);(case hr=>first|(go_simp;done)|(go_simp;rfl));intro gb210 hg w6 hbox hb;have n0_:=Aside0.mk (below_step (by repeat (first|(with_reducible first|exact HB.out|apply below_alloc|apply pw_below_drewN|apply below_drew1)|exact HB.out)) hb);have n1_:=Aside0.mk (hbox);have n2_:=Aside0.mk ((by rw [hg];exact (below_size (by repeat (first|(with_reducible first|exact HB.out|apply below_alloc|apply pw_below_drewN|apply below_drew1)|exact HB.out))) : w.heap.size≤gb210));have n3_:=Aside0.mk ((by rw [hg];exact (below_size (by repeat (first|(with_reducible first|exact HB.out|apply below_alloc|apply pw_below_drewN|apply below_drew1)|exact HB.out))) : w.heap.size≤gb210));clear HB;have HB:=n0_;have BK210:=n1_;have GW210:=n2_;have GE210:=n3_;clear n0_ n1_ n2_ n3_;clear hb hbox hg;have hcz7_0 : w6.cell? ⟨gb210,0,none⟩ = some (.int .i64 0):=(blk_cell BK210.out 0).trans rfl;have hcz7_1 : w6.cell? ⟨gb210,1,none⟩ = some (.string (⟨#[]⟩ : ByteArray)):=(blk_cell BK210.out 1).trans rfl;have hcz7_2 : w6.cell? ⟨gb210,2,none⟩ = some (.int .i64 0):=(blk_cell BK210.out 2).trans rfl;have hcz7_3 : w6.cell? ⟨gb210,3,none⟩ = some (.int .i64 0):=(blk_cell BK210.out 3).trans rfl;have hfz7_0:=blk_frozen BK210.out 0;have hfz7_1:=blk_frozen BK210.out 1;have hfz7_2:=blk_frozen BK210.out 2;have hfz7_3:=blk_frozen BK210.out 3))
      (try simp only [Act.put,sqa,sqb,sqc]);go_cut [12] (fun v12 wc=>∃ (kq : Nat) (x12_4 : Bool),v12 = .bool x12_4∧Aside0 (overlap_Valid.j1 kq l0 x7_1 l0 (l0.length : Int) x7_1 x12_4 ((rd_T23 l0 x7_1).f0) ((rd_T23 l0 x7_1).f1) ((rd_T23 l0 x7_1).f2) ((rd_T23 l0 x7_1).f3) = some r)∧Aside0 (kq≤k1)∧Aside0 (wc.heap[gb210]? = some (.cells #[.int .i64 ((rd_T23 l0 x7_1).f0),.string ((rd_T23 l0 x7_1).f1),.int .i64 ((rd_T23 l0 x7_1).f2),.int .i64 ((rd_T23 l0 x7_1).f3)] 23 (0,0)))∧Aside0 (Below w.heap.size w wc))
      case first=>
       have H:=HC5.out;clear HC5;by_cases c8 : ((rd_T23 l0 x7_1).f1).toList = ([] : List UInt8)
       ·
        rw [if_pos c8] at H;have c8b0 : (((rd_T23 l0 x7_1).f1).toList == ([] : List UInt8)) = true:=beq_iff_eq.mpr c8;have c8b1 : (((rd_T23 l0 x7_1).f1).toList != ([] : List UInt8)) = false:=bne_eq_false_iff_eq.mpr c8;clear c8;(first|rw [c8b0]|(simp only [i64_w,i32_w];rw [c8b0])|skip)
        have H':=Aside0.mk H;clear H;have hcz9_0 : w6.cell? ⟨gb210,0,none⟩ = some (.int .i64 0):=(blk_cell BK210.out 0).trans rfl;have hcz9_1 : w6.cell? ⟨gb210,1,none⟩ = some (.string (⟨#[]⟩ : ByteArray)):=(blk_cell BK210.out 1).trans rfl;have hcz9_2 : w6.cell? ⟨gb210,2,none⟩ = some (.int .i64 0):=(blk_cell BK210.out 2).trans rfl;have hcz9_3 : w6.cell? ⟨gb210,3,none⟩ = some (.int .i64 0):=(blk_cell BK210.out 3).trans rfl;have hfz9_0:=blk_frozen BK210.out 0;have hfz9_1:=blk_frozen BK210.out 1;have hfz9_2:=blk_frozen BK210.out 2;have hfz9_3:=blk_frozen BK210.out 3;go_wp2;go_meet
        case rel=>exact ⟨_,(true),(by first|rfl|(simp;done)|(simp [*];done)),H',⟨by have:=HK1.out;first|omega|exact Nat.le_refl _⟩,⟨by (with_reducible repeat (first|refine blk_drewN ?_ _|refine blk_drew ?_|refine blk_alloc ?_ _));refine blk_put (cs:=#[.int .i64 ((rd_T23 l0 x7_1).f0),.string ((rd_T23 l0 x7_1).f1),.int .i64 ((rd_T23 l0 x7_1).f2),.int .i64 0]) ?_ 3 _ rfl;(with_reducible repeat (first|refine blk_drewN ?_ _|refine blk_drew ?_|refine blk_alloc ?_ _));refine blk_put (cs:=#[.int .i64 ((rd_T23 l0 x7_1).f0),.string ((rd_T23 l0 x7_1).f1),.int .i64 0,.int .i64 0]) ?_ 2 _ rfl;(with_reducible repeat (first|refine blk_drewN ?_ _|refine blk_drew ?_|refine blk_alloc ?_ _));refine blk_put (cs:=#[.int .i64 ((rd_T23 l0 x7_1).f0),.string (⟨#[]⟩ : ByteArray),.int .i64 0,.int .i64 0]) ?_ 1 _ rfl;(with_reducible repeat (first|refine blk_drewN ?_ _|refine blk_drew ?_|refine blk_alloc ?_ _));refine blk_put (cs:=#[.int .i64 0,.string (⟨#[]⟩ : ByteArray),.int .i64 0,.int .i64 0]) ?_ 0 _ rfl;(with_reducible repeat (first|refine blk_drewN ?_ _|refine blk_drew ?_|refine blk_alloc ?_ _));exact BK210.out⟩,⟨by repeat (first|(with_reducible first|exact HB.out|apply below_alloc|apply pw_below_drewN|apply below_drew1|refine below_set ?_ GE210.out)|exact HB.out)⟩⟩
       ·
        rw [if_neg c8] at H;have c8b0 : (((rd_T23 l0 x7_1).f1).toList == ([] : List UInt8)) = false:=beq_eq_false_iff_ne.mpr c8;have c8b1 : (((rd_T23 l0 x7_1).f1).toList != ([] : List UInt8)) = true:=bne_iff_ne.mpr c8;(first|rw [c8b0]|(simp only [i64_w,i32_w];rw [c8b0])|skip)
        by_cases c10 : ((rd_T23 l0 x7_1).f2) < 0
        ·
         rw [if_pos c10] at H;have c10b0 : decide (((rd_T23 l0 x7_1).f2) < 0) = true:=decide_eq_true c10;clear c10;have H':=Aside0.mk H;clear H;have hcz11_0 : w6.cell? ⟨gb210,0,none⟩ = some (.int .i64 0):=(blk_cell BK210.out 0).trans rfl;have hcz11_1 : w6.cell? ⟨gb210,1,none⟩ = some (.string (⟨#[]⟩ : ByteArray)):=(blk_cell BK210.out 1).trans rfl;have hcz11_2 : w6.cell? ⟨gb210,2,none⟩ = some (.int .i64 0):=(blk_cell BK210.out 2).trans rfl;have hcz11_3 : w6.cell? ⟨gb210,3,none⟩ = some (.int .i64 0):=(blk_cell BK210.out 3).trans rfl;have hfz11_0:=blk_frozen BK210.out 0;have hfz11_1:=blk_frozen BK210.out 1;have hfz11_2:=blk_frozen BK210.out 2;have hfz11_3:=blk_frozen BK210.out 3;go_wp2;go_meet
         case rel=>exact ⟨_,(true),(by first|rfl|(simp;done)|(simp [*];done)),H',⟨by have:=HK1.out;first|omega|exact Nat.le_refl _⟩,⟨by (with_reducible repeat (first|refine blk_drewN ?_ _|refine blk_drew ?_|refine blk_alloc ?_ _));refine blk_put (cs:=#[.int .i64 ((rd_T23 l0 x7_1).f0),.string ((rd_T23 l0 x7_1).f1),.int .i64 ((rd_T23 l0 x7_1).f2),.int .i64 0]) ?_ 3 _ rfl;(with_reducible repeat (first|refine blk_drewN ?_ _|refine blk_drew ?_|refine blk_alloc ?_ _));refine blk_put (cs:=#[.int .i64 ((rd_T23 l0 x7_1).f0),.string ((rd_T23 l0 x7_1).f1),.int .i64 0,.int .i64 0]) ?_ 2 _ rfl;(with_reducible repeat (first|refine blk_drewN ?_ _|refine blk_drew ?_|refine blk_alloc ?_ _));refine blk_put (cs:=#[.int .i64 ((rd_T23 l0 x7_1).f0),.string (⟨#[]⟩ : ByteArray),.int .i64 0,.int .i64 0]) ?_ 1 _ rfl;(with_reducible repeat (first|refine blk_drewN ?_ _|refine blk_drew ?_|refine blk_alloc ?_ _));refine blk_put (cs:=#[.int .i64 0,.string (⟨#[]⟩ : ByteArray),.int .i64 0,.int .i64 0]) ?_ 0 _ rfl;(with_reducible repeat (first|refine blk_drewN ?_ _|refine blk_drew ?_|refine blk_alloc ?_ _));exact BK210.out⟩,⟨by repeat (first|(with_reducible first|exact HB.out|apply below_alloc|apply pw_below_drewN|apply below_drew1|refine below_set ?_ GE210.out)|exact HB.out)⟩⟩
        ·
         rw [if_neg c10] at H;have c10b0 : decide (((rd_T23 l0 x7_1).f2) < 0) = false:=decide_eq_false c10;clear c10;by_cases c12 : ((rd_T23 l0 x7_1).f2) > ((rd_T23 l0 x7_1).f0)
         ·
          rw [if_pos c12] at H;have c12b0 : decide (((rd_T23 l0 x7_1).f0) < ((rd_T23 l0 x7_1).f2)) = true:=decide_eq_true c12;clear c12;have H':=Aside0.mk H;clear H;have hcz13_0 : w6.cell? ⟨gb210,0,none⟩ = some (.int .i64 0):=(blk_cell BK210.out 0).trans rfl;have hcz13_1 : w6.cell? ⟨gb210,1,none⟩ = some (.string (⟨#[]⟩ : ByteArray)):=(blk_cell BK210.out 1).trans rfl;have hcz13_2 : w6.cell? ⟨gb210,2,none⟩ = some (.int .i64 0):=(blk_cell BK210.out 2).trans rfl;have hcz13_3 : w6.cell? ⟨gb210,3,none⟩ = some (.int .i64 0):=(blk_cell BK210.out 3).trans rfl;have hfz13_0:=blk_frozen BK210.out 0;have hfz13_1:=blk_frozen BK210.out 1;have hfz13_2:=blk_frozen BK210.out 2;have hfz13_3:=blk_frozen BK210.out 3;go_wp2;go_meet
          case rel=>exact ⟨_,(true),(by first|rfl|(simp;done)|(simp [*];done)),H',⟨by have:=HK1.out;first|omega|exact Nat.le_refl _⟩,⟨by (with_reducible repeat (first|refine blk_drewN ?_ _|refine blk_drew ?_|refine blk_alloc ?_ _));refine blk_put (cs:=#[.int .i64 ((rd_T23 l0 x7_1).f0),.string ((rd_T23 l0 x7_1).f1),.int .i64 ((rd_T23 l0 x7_1).f2),.int .i64 0]) ?_ 3 _ rfl;(with_reducible repeat (first|refine blk_drewN ?_ _|refine blk_drew ?_|refine blk_alloc ?_ _));refine blk_put (cs:=#[.int .i64 ((rd_T23 l0 x7_1).f0),.string ((rd_T23 l0 x7_1).f1),.int .i64 0,.int .i64 0]) ?_ 2 _ rfl;(with_reducible repeat (first|refine blk_drewN ?_ _|refine blk_drew ?_|refine blk_alloc ?_ _));refine blk_put (cs:=#[.int .i64 ((rd_T23 l0 x7_1).f0),.string (⟨#[]⟩ : ByteArray),.int .i64 0,.int .i64 0]) ?_ 1 _ rfl;(with_reducible repeat (first|refine blk_drewN ?_ _|refine blk_drew ?_|refine blk_alloc ?_ _));refine blk_put (cs:=#[.int .i64 0,.string (⟨#[]⟩ : ByteArray),.int .i64 0,.int .i64 0]) ?_ 0 _ rfl;(with_reducible repeat (first|refine blk_drewN ?_ _|refine blk_drew ?_|refine blk_alloc ?_ _));exact BK210.out⟩,⟨by repeat (first|(with_reducible first|exact HB.out|apply below_alloc|apply pw_below_drewN|apply below_drew1|refine below_set ?_ GE210.out)|exact HB.out)⟩⟩
         ·
          rw [if_neg c12] at H;have c12b0 : decide (((rd_T23 l0 x7_1).f0) < ((rd_T23 l0 x7_1).f2)) = false:=decide_eq_false c12;clear c12;by_cases c14 : ((rd_T23 l0 x7_1).f3) > 4294967296
          ·
           rw [if_pos c14] at H;have c14b0 : decide (4294967296 < ((rd_T23 l0 x7_1).f3)) = true:=decide_eq_true c14;clear c14;have H':=Aside0.mk H;clear H;have hcz15_0 : w6.cell? ⟨gb210,0,none⟩ = some (.int .i64 0):=(blk_cell BK210.out 0).trans rfl;have hcz15_1 : w6.cell? ⟨gb210,1,none⟩ = some (.string (⟨#[]⟩ : ByteArray)):=(blk_cell BK210.out 1).trans rfl;have hcz15_2 : w6.cell? ⟨gb210,2,none⟩ = some (.int .i64 0):=(blk_cell BK210.out 2).trans rfl;have hcz15_3 : w6.cell? ⟨gb210,3,none⟩ = some (.int .i64 0):=(blk_cell BK210.out 3).trans rfl;have hfz15_0:=blk_frozen BK210.out 0;have hfz15_1:=blk_frozen BK210.out 1;have hfz15_2:=blk_frozen BK210.out 2;have hfz15_3:=blk_frozen BK210.out 3;go_wp2;go_meet
           case rel=>exact ⟨_,(true),(by first|rfl|(simp;done)|(simp [*];done)),H',⟨by have:=HK1.out;first|omega|exact Nat.le_refl _⟩,⟨by (with_reducible repeat (first|refine blk_drewN ?_ _|refine blk_drew ?_|refine blk_alloc ?_ _));refine blk_put (cs:=#[.int .i64 ((rd_T23 l0 x7_1).f0),.string ((rd_T23 l0 x7_1).f1),.int .i64 ((rd_T23 l0 x7_1).f2),.int .i64 0]) ?_ 3 _ rfl;(with_reducible repeat (first|refine blk_drewN ?_ _|refine blk_drew ?_|refine blk_alloc ?_ _));refine blk_put (cs:=#[.int .i64 ((rd_T23 l0 x7_1).f0),.string ((rd_T23 l0 x7_1).f1),.int .i64 0,.int .i64 0]) ?_ 2 _ rfl;(with_reducible repeat (first|refine blk_drewN ?_ _|refine blk_drew ?_|refine blk_alloc ?_ _));refine blk_put (cs:=#[.int .i64 ((rd_T23 l0 x7_1).f0),.string (⟨#[]⟩ : ByteArray),.int .i64 0,.int .i64 0]) ?_ 1 _ rfl;(with_reducible repeat (first|refine blk_drewN ?_ _|refine blk_drew ?_|refine blk_alloc ?_ _));refine blk_put (cs:=#[.int .i64 0,.string (⟨#[]⟩ : ByteArray),.int .i64 0,.int .i64 0]) ?_ 0 _ rfl;(with_reducible repeat (first|refine blk_drewN ?_ _|refine blk_drew ?_|refine blk_alloc ?_ _));exact BK210.out⟩,⟨by repeat (first|(with_reducible first|exact HB.out|apply below_alloc|apply pw_below_drewN|apply below_drew1|refine below_set ?_ GE210.out)|exact HB.out)⟩⟩
          ·
           rw [if_neg c14] at H;have c14b0 : decide (4294967296 < ((rd_T23 l0 x7_1).f3)) = false:=decide_eq_false c14;clear c14;by_cases c16 : ((rd_T23 l0 x7_1).f0) > ((rd_T23 l0 x7_1).f3)
           ·
            rw [if_pos c16] at H;have c16b0 : decide (((rd_T23 l0 x7_1).f3) < ((rd_T23 l0 x7_1).f0)) = true:=decide_eq_true c16;clear c16;have H':=Aside0.mk H;clear H;have hcz17_0 : w6.cell? ⟨gb210,0,none⟩ = some (.int .i64 0):=(blk_cell BK210.out 0).trans rfl;have hcz17_1 : w6.cell? ⟨gb210,1,none⟩ = some (.string (⟨#[]⟩ : ByteArray)):=(blk_cell BK210.out 1).trans rfl;have hcz17_2 : w6.cell? ⟨gb210,2,none⟩ = some (.int .i64 0):=(blk_cell BK210.out 2).trans rfl;have hcz17_3 : w6.cell? ⟨gb210,3,none⟩ = some (.int .i64 0):=(blk_cell BK210.out 3).trans rfl;have hfz17_0:=blk_frozen BK210.out 0;have hfz17_1:=blk_frozen BK210.out 1;have hfz17_2:=blk_frozen BK210.out 2;have hfz17_3:=blk_frozen BK210.out 3;go_wp2;go_meet
            case rel=>exact ⟨_,(true),(by first|rfl|(simp;done)|(simp [*];done)),H',⟨by have:=HK1.out;first|omega|exact Nat.le_refl _⟩,⟨by (with_reducible repeat (first|refine blk_drewN ?_ _|refine blk_drew ?_|refine blk_alloc ?_ _));refine blk_put (cs:=#[.int .i64 ((rd_T23 l0 x7_1).f0),.string ((rd_T23 l0 x7_1).f1),.int .i64 ((rd_T23 l0 x7_1).f2),.int .i64 0]) ?_ 3 _ rfl;(with_reducible repeat (first|refine blk_drewN ?_ _|refine blk_drew ?_|refine blk_alloc ?_ _));refine blk_put (cs:=#[.int .i64 ((rd_T23 l0 x7_1).f0),.string ((rd_T23 l0 x7_1).f1),.int .i64 0,.int .i64 0]) ?_ 2 _ rfl;(with_reducible repeat (first|refine blk_drewN ?_ _|refine blk_drew ?_|refine blk_alloc ?_ _));refine blk_put (cs:=#[.int .i64 ((rd_T23 l0 x7_1).f0),.string (⟨#[]⟩ : ByteArray),.int .i64 0,.int .i64 0]) ?_ 1 _ rfl;(with_reducible repeat (first|refine blk_drewN ?_ _|refine blk_drew ?_|refine blk_alloc ?_ _));refine blk_put (cs:=#[.int .i64 0,.string (⟨#[]⟩ : ByteArray),.int .i64 0,.int .i64 0]) ?_ 0 _ rfl;(with_reducible repeat (first|refine blk_drewN ?_ _|refine blk_drew ?_|refine blk_alloc ?_ _));exact BK210.out⟩,⟨by repeat (first|(with_reducible first|exact HB.out|apply below_alloc|apply pw_below_drewN|apply below_drew1|refine below_set ?_ GE210.out)|exact HB.out)⟩⟩
           ·
            rw [if_neg c16] at H;have c16b0 : decide (((rd_T23 l0 x7_1).f3) < ((rd_T23 l0 x7_1).f0)) = false:=decide_eq_false c16;clear c16;have H':=Aside0.mk H;clear H;have hcz18_0 : w6.cell? ⟨gb210,0,none⟩ = some (.int .i64 0):=(blk_cell BK210.out 0).trans rfl;have hcz18_1 : w6.cell? ⟨gb210,1,none⟩ = some (.string (⟨#[]⟩ : ByteArray)):=(blk_cell BK210.out 1).trans rfl;have hcz18_2 : w6.cell? ⟨gb210,2,none⟩ = some (.int .i64 0):=(blk_cell BK210.out 2).trans rfl;have hcz18_3 : w6.cell? ⟨gb210,3,none⟩ = some (.int .i64 0):=(blk_cell BK210.out 3).trans rfl;have hfz18_0:=blk_frozen BK210.out 0;have hfz18_1:=blk_frozen BK210.out 1;have hfz18_2:=blk_frozen BK210.out 2;have hfz18_3:=blk_frozen BK210.out 3;go_wp2;go_meet
            case rel=>exact ⟨_,(decide ((((rd_T23 l0 x7_1).f1).size : Int) > (wrap64 (((rd_T23 l0 x7_1).f3) - ((rd_T23 l0 x7_1).f0))))),(by first|rfl|(simp;done)|(simp [*];done)),H',⟨by have:=HK1.out;first|omega|exact Nat.le_refl _⟩,⟨by (with_reducible repeat (first|refine blk_drewN ?_ _|refine blk_drew ?_|refine blk_alloc ?_ _));refine blk_put (cs:=#[.int .i64 ((rd_T23 l0 x7_1).f0),.string ((rd_T23 l0 x7_1).f1),.int .i64 ((rd_T23 l0 x7_1).f2),.int .i64 0]) ?_ 3 _ rfl;(with_reducible repeat (first|refine blk_drewN ?_ _|refine blk_drew ?_|refine blk_alloc ?_ _));refine blk_put (cs:=#[.int .i64 ((rd_T23 l0 x7_1).f0),.string ((rd_T23 l0 x7_1).f1),.int .i64 0,.int .i64 0]) ?_ 2 _ rfl;(with_reducible repeat (first|refine blk_drewN ?_ _|refine blk_drew ?_|refine blk_alloc ?_ _));refine blk_put (cs:=#[.int .i64 ((rd_T23 l0 x7_1).f0),.string (⟨#[]⟩ : ByteArray),.int .i64 0,.int .i64 0]) ?_ 1 _ rfl;(with_reducible repeat (first|refine blk_drewN ?_ _|refine blk_drew ?_|refine blk_alloc ?_ _));refine blk_put (cs:=#[.int .i64 0,.string (⟨#[]⟩ : ByteArray),.int .i64 0,.int .i64 0]) ?_ 0 _ rfl;(with_reducible repeat (first|refine blk_drewN ?_ _|refine blk_drew ?_|refine blk_alloc ?_ _));exact BK210.out⟩,⟨by repeat (first|(with_reducible first|exact HB.out|apply below_alloc|apply pw_below_drewN|apply below_drew1|refine below_set ?_ GE210.out)|exact HB.out)⟩⟩
      case rest=>
       clear HC5;(try clear c1);(try clear c2);(try clear c2b0);(try clear p2);(try clear q2);(try clear hx2);(try clear c3);(try clear c3b0);(try clear c4);(try clear c4b0);(try clear p6);(try clear c8);(try clear c8b0);(try clear c8b1);(try clear c10);(try clear c10b0);(try clear c12);(try clear c12b0);(try clear c14);(try clear c14b0);(try clear c16);(try clear c16b0);(try clear c18);(try clear hcz11_0);(try clear hcz11_1);(try clear hcz11_2);(try clear hcz11_3);(try clear hcz13_0);(try clear hcz13_1);(try clear hcz13_2);(try clear hcz13_3);(try clear hcz15_0);(try clear hcz15_1);(try clear hcz15_2);(try clear hcz15_3);(try clear hcz17_0);(try clear hcz17_1);(try clear hcz17_2);(try clear hcz17_3);(try clear hcz18_0);(try clear hcz18_1);(try clear hcz18_2);(try clear hcz18_3);(try clear hcz7_0);(try clear hcz7_1);(try clear hcz7_2);(try clear hcz7_3);(try clear hcz9_0);(try clear hcz9_1);(try clear hcz9_2);(try clear hcz9_3);(try clear hfz11_0);(try clear hfz11_1);(try clear hfz11_2);(try clear hfz11_3);(try clear hfz13_0);(try clear hfz13_1);(try clear hfz13_2);(try clear hfz13_3);(try clear hfz15_0);(try clear hfz15_1);(try clear hfz15_2);(try clear hfz15_3);(try clear hfz17_0);(try clear hfz17_1);(try clear hfz17_2);(try clear hfz17_3);(try clear hfz18_0);(try clear hfz18_1);(try clear hfz18_2);(try clear hfz18_3);(try clear hfz7_0);(try clear hfz7_1);(try clear hfz7_2);(try clear hfz7_3);(try clear hfz9_0);(try clear hfz9_1);(try clear hfz9_2);(try clear hfz9_3);(try clear hx209_0);(try clear hx209_1);(try clear hx209_2);(try clear hx209_3);(try clear p209);(try clear q209);obtain ⟨kq,x12_4,rfl,HA,HJ4,BK210,HB⟩:=hcut;cases kq with
       | zero=>exact absurd HA.out (by simp [overlap_Valid.j1])
       | succ kj4=>
        have H:=HA.out;clear HA;simp only [overlap_Valid.j1] at H;by_cases c19 : x12_4 = true
        ·
         subst c19;have H1 : (some false) = some r:=by rw [if_pos rfl] at H;exact H
         clear H;have H:=H1;clear H1;obtain rfl:=Option.some.inj H;go_wp2;go_ret;exact ⟨by first|rfl|(simp [errW_none,errW_some] <;> rfl)|(simp [*,errW_none,errW_some] <;> rfl),by repeat (first|(with_reducible first|exact HB.out|apply below_alloc|apply pw_below_drewN|apply below_drew1|refine below_set ?_ GE210.out)|exact HB.out)⟩
        ·
         replace c19:=Bool.eq_false_iff.mpr c19;subst c19;have H1 : (if x7_1 > 0 then (if 0≤(wrap64 (x7_1 - 1)) then (if (wrap64 (x7_1 - 1)) < (l0.length : Int) then ((overlap_end.f ((rd_T23 l0 (wrap64 (x7_1 - 1))).f0) ((rd_T23 l0 (wrap64 (x7_1 - 1))).f1) ((rd_T23 l0 (wrap64 (x7_1 - 1))).f2) ((rd_T23 l0 (wrap64 (x7_1 - 1))).f3)).bind fun t212=>(if t212 > ((rd_T23 l0 x7_1).f0) then (some false) else (overlap_Valid.l0 kj4 l0 l0 (l0.length : Int) (wrap64 (x7_1 + 1))))) else (none)) else (none)) else (overlap_Valid.l0 kj4 l0 l0 (l0.length : Int) (wrap64 (x7_1 + 1)))) = some r:=by rw [if_neg (show ¬ (false = true) by decide)] at H;exact H
         clear H;have H:=H1;clear H1;by_cases c20 : x7_1 > 0
         ·
          rw [if_pos c20] at H;have c20b0 : decide (0 < x7_1) = true:=decide_eq_true c20;clear c20;obtain ⟨ji21,hji21⟩ : ∃ j_ : Int,(wrap64 (x7_1 - 1)) = j_:=⟨_,rfl⟩;replace H : (if 0≤(ji21) then (if (ji21) < (l0.length : Int) then ((overlap_end.f ((rd_T23 l0 (ji21)).f0) ((rd_T23 l0 (ji21)).f1) ((rd_T23 l0 (ji21)).f2) ((rd_T23 l0 (ji21)).f3)).bind fun t212=>(if t212 > ((rd_T23 l0 x7_1).f0) then (some false) else (overlap_Valid.l0 kj4 l0 l0 (l0.length : Int) (wrap64 (x7_1 + 1))))) else (none)) else (none)) = some r:=by first|(rw [hji21] at H;exact H)|(simp only [hji21] at H ⊢;exact H)
          have hji21w : (IntKind.i64.wrap (x7_1 - 1)) = ji21:=(i64_w _).trans hji21;by_cases c22 : 0≤(ji21)
          ·
           rw [if_pos c22] at H;have c22b0 : decide (0≤(ji21)) = true:=decide_eq_true c22;clear c22;by_cases c23 : (ji21) < (l0.length : Int)
           ·
            rw [if_pos c23] at H;have c23b0 : decide ((ji21) < (l0.length : Int)) = true:=decide_eq_true c23;clear c23;replace H:=Option.bind_eq_some_iff.mp H;obtain ⟨t212,A240,H⟩:=H;replace H : (if t212 > ((rd_T23 l0 x7_1).f0) then (some false) else (overlap_Valid.l0 kj4 l0 l0 (l0.length : Int) (wrap64 (x7_1 + 1)))) = some r:=H;have A24:=Aside0.mk A240;clear A240;by_cases c25 : t212 > ((rd_T23 l0 x7_1).f0)
            ·
             rw [if_pos c25] at H;have c25b0 : decide (((rd_T23 l0 x7_1).f0) < t212) = true:=decide_eq_true c25;clear c25;obtain rfl:=Option.some.inj H;try go_wp2
             have n0_:=Aside0.mk (blk_drew BK210.out);have n1_:=Aside0.mk (below_drew1 HB.out);clear BK210;clear HB;have BK210:=n0_;have HB:=n1_;clear n0_ n1_;have p211 : 0≤((ji21) : Int):=of_decide_eq_true (by first|(with_reducible assumption)|assumption);have q211 : (ji21) < (l0.length : Int):=of_decide_eq_true (by first|(with_reducible assumption)|assumption);obtain ⟨ad211,e211,hx211_0,hx211_1,hx211_2,hx211_3⟩:=at_T23 HR0.out (ji21) p211 q211;have hw211_3:=hx211_3;have hw211_2:=hx211_2;have hw211_1:=hx211_1;have hw211_0:=hx211_0;obtain rfl : ad209 = ad211:=(by injection e211);replace hx211_0:=(HB.out.cell (World.block_lt_of_cell? w _ hx211_0)).trans hx211_0;replace hx211_1:=(HB.out.cell (World.block_lt_of_cell? w _ hx211_1)).trans hx211_1;replace hx211_2:=(HB.out.cell (World.block_lt_of_cell? w _ hx211_2)).trans hx211_2;replace hx211_3:=(HB.out.cell (World.block_lt_of_cell? w _ hx211_3)).trans hx211_3;replace p211:=eq_true p211;replace q211:=eq_true q211;refine start_ (n:=14) (S:=fun w'=>w'.cell? ⟨gb210,0,none⟩ = some (.int .i64 ((rd_T23 l0 x7_1).f0))∧w'.cell? ⟨gb210,1,none⟩ = some (.string ((rd_T23 l0 x7_1).f1))∧w'.cell? ⟨gb210,2,none⟩ = some (.int .i64 ((rd_T23 l0 x7_1).f2))∧w'.cell? ⟨gb210,3,none⟩ = some (.int .i64 ((rd_T23 l0 x7_1).f3))∧w'.cell? (ad209.add (((ji21)).toNat * 4)) = some (.int .i64 ((rd_T23 l0 (ji21)).f0))∧w'.cell? ⟨(ad209.add (((ji21)).toNat * 4)).block,(ad209.add (((ji21)).toNat * 4)).off + 1,none⟩ = some (.string ((rd_T23 l0 (ji21)).f1))∧w'.cell? ⟨(ad209.add (((ji21)).toNat * 4)).block,(ad209.add (((ji21)).toNat * 4)).off + 2,none⟩ = some (.int .i64 ((rd_T23 l0 (ji21)).f2))∧w'.cell? ⟨(ad209.add (((ji21)).toNat * 4)).block,(ad209.add (((ji21)).toNat * 4)).off + 3,none⟩ = some (.int .i64 ((rd_T23 l0 (ji21)).f3))) (ds:=[]) (lb 14 0) (by kernel_rfl) rfl (by kernel_rfl) ⟨(blk_cell BK210.out 0).trans rfl,(blk_cell BK210.out 1).trans rfl,(blk_cell BK210.out 2).trans rfl,(blk_cell BK210.out 3).trans rfl,((HB.out.cell (World.block_lt_of_cell? w _ hw211_0)).trans hw211_0),((HB.out.cell (World.block_lt_of_cell? w _ hw211_1)).trans hw211_1),((HB.out.cell (World.block_lt_of_cell? w _ hw211_2)).trans hw211_2),((HB.out.cell (World.block_lt_of_cell? w _ hw211_3)).trans hw211_3)⟩ (fun hHeld=>?_);refine with_tabW overlap_Valid.tab6 overlap_Valid.bits6 (fun HT_ HW_=>?_)
             generalize wc.drew = w26 at BK210 HB hx211_0 hx211_1 hx211_2 hx211_3 hHeld ⊢;refine pure_ (i:=0) (N:=some 52) (v:=?_) (a':=?_) (lb 14 1) rfl rfl (any_of HT_.out (by kernel_rfl)) (fun _ _ _ h=>h) (Or.inl ⟨by rfl,?_⟩) ?_ ?_;rotate_left
             ·
              intro w';go_simp;with_reducible rfl
             rotate_left
             ·
              simp only [Act.put,sqa,sqb,sqc,i64_w,i32_w];rfl
             refine pure_ (i:=1) (N:=some 53) (v:=?_) (a':=?_) (lb 14 3) rfl rfl (any_of HT_.out (by kernel_rfl)) (fun _ _ _ h=>h) (Or.inl ⟨by rfl,?_⟩) ?_ ?_;rotate_left
             ·
              intro w';go_simp;with_reducible rfl
             rotate_left
             ·
              simp only [Act.put,sqa,sqb,sqc,i64_w,i32_w];rfl
             refine pure_ (i:=2) (N:=some 54) (v:=?_) (a':=?_) (lb 14 7) rfl rfl (any_of HT_.out (by kernel_rfl)) (fun _ _ _ h=>h) (Or.inl ⟨by rfl,?_⟩) ?_ ?_;rotate_left
             ·
              intro w';go_simp;with_reducible rfl
             rotate_left
             ·
              simp only [Act.put,sqa,sqb,sqc,i64_w,i32_w];rfl
             refine pure_ (i:=3) (N:=some 55) (v:=?_) (a':=?_) (lb 14 15) rfl rfl (any_of HT_.out (by kernel_rfl)) (fun _ _ _ h=>h) (Or.inl ⟨by rfl,?_⟩) ?_ ?_;rotate_left
             ·
              intro w';go_simp;with_reducible rfl
             rotate_left
             ·
              simp only [Act.put,sqa,sqb,sqc,i64_w,i32_w];rfl
             refine pure_ (i:=4) (N:=some 56) (v:=?_) (a':=?_) (lb 14 31) rfl rfl (any_of HT_.out (by kernel_rfl)) (fun _ _ _ h=>h) (Or.inl ⟨by rfl,?_⟩) ?_ ?_;rotate_left
             ·
              intro w';go_simp;with_reducible rfl
             rotate_left
             ·
              simp only [Act.put,sqa,sqb,sqc,i64_w,i32_w];rfl
             refine pure_ (i:=5) (N:=some 57) (v:=?_) (a':=?_) (lb 14 63) rfl rfl (any_of HT_.out (by kernel_rfl)) (fun _ _ _ h=>h) (Or.inl ⟨by rfl,?_⟩) ?_ ?_;rotate_left
             ·
              intro w';go_simp;with_reducible rfl
             rotate_left
             ·
              simp only [Act.put,sqa,sqb,sqc,i64_w,i32_w];rfl
             refine pure_ (i:=6) (N:=some 58) (v:=?_) (a':=?_) (lb 14 127) rfl rfl (any_of HT_.out (by kernel_rfl)) (fun _ _ _ h=>h) (Or.inl ⟨by rfl,?_⟩) ?_ ?_;rotate_left
             ·
              intro w';go_simp;with_reducible rfl
             rotate_left
             ·
              simp only [Act.put,sqa,sqb,sqc,i64_w,i32_w];rfl
             refine pure_ (i:=9) (N:=some 61) (v:=?_) (a':=?_) (lb 14 639) rfl rfl (any_of HT_.out (by kernel_rfl)) (fun _ _ _ h=>h) (Or.inl ⟨by rfl,?_⟩) ?_ ?_;rotate_left
             ·
              intro w';go_simp;with_reducible rfl
             rotate_left
             ·
              simp only [Act.put,sqa,sqb,sqc,i64_w,i32_w];rfl
             refine take_ (i:=7) (N:=some 59) (v:=?_) (a':=?_) (lb 14 767) rfl rfl (take_ofW HT_.out HW_.out (by kernel_rfl)) (fun _ _ _ h=>h) (Or.inl ⟨by rfl,?_⟩) hHeld ?_ ?_;rotate_left
             ·
              rintro w' ⟨s0,s1,s2,s3,s4,s5,s6,s7⟩;go_simp;with_reducible rfl
             rotate_left
             ·
              simp only [Act.put,sqa,sqb,sqc,i64_w,i32_w];rfl
             refine take_ (i:=10) (N:=some 62) (v:=?_) (a':=?_) (lb 14 1791) rfl rfl (take_ofW HT_.out HW_.out (by kernel_rfl)) (fun _ _ _ h=>h) (Or.inl ⟨by rfl,?_⟩) hHeld ?_ ?_;rotate_left
             ·
              rintro w' ⟨s0,s1,s2,s3,s4,s5,s6,s7⟩;go_simp;with_reducible rfl
             rotate_left
             ·
              simp only [Act.put,sqa,sqb,sqc,i64_w,i32_w];rfl
             refine one_ (i:=8) (N:=some 60) (lb 14 2047) rfl rfl (one_of HT_.out (by kernel_rfl)) (by decide) (fun K hK=>?_);refine goes_ Try.func28 (by kernel_rfl) rfl #[.agg #[.int .i64 ((rd_T23 l0 (ji21)).f0),.string ((rd_T23 l0 (ji21)).f1),.int .i64 ((rd_T23 l0 (ji21)).f2),.int .i64 ((rd_T23 l0 (ji21)).f3)]] (by rfl) rfl rfl (by (try simp only [List.map_toArray,List.map_cons,List.map_nil]);first|done|(simp only [hji21];rfl)|rfl|(simp only [List.length_drop,List.length_take];rfl)) ?_;with_reducible refine (overlap_end.calls ((rd_T23 l0 (ji21)).f0) ((rd_T23 l0 (ji21)).f1) ((rd_T23 l0 (ji21)).f2) ((rd_T23 l0 (ji21)).f3) t212 _ A24.out).mono ?_
             rintro e w27 ⟨rfl,hb⟩;refine ⟨_,rfl,?_⟩;have n0_:=Aside0.mk (blk_below (g:=gb210) (o:=.cells #[.int .i64 ((rd_T23 l0 x7_1).f0),.string ((rd_T23 l0 x7_1).f1),.int .i64 ((rd_T23 l0 x7_1).f2),.int .i64 ((rd_T23 l0 x7_1).f3)] 23 (0,0)) (by (with_reducible repeat (first|refine blk_drewN ?_ _|refine blk_drew ?_|refine blk_alloc ?_ _));exact BK210.out) hb);have n1_:=Aside0.mk (below_step (by repeat (first|(with_reducible first|exact HB.out|apply below_alloc|apply pw_below_drewN|apply below_drew1|refine below_set ?_ GE210.out)|exact HB.out)) hb);clear BK210;clear HB;have BK210:=n0_;have HB:=n1_;clear n0_ n1_;(try clear hb);(try clear hb2);(try clear hk);(try clear hi);refine hK.out _ _ ⟨(blk_cell BK210.out 0).trans rfl,(blk_cell BK210.out 1).trans rfl,(blk_cell BK210.out 2).trans rfl,(blk_cell BK210.out 3).trans rfl,((HB.out.cell (World.block_lt_of_cell? w _ hw211_0)).trans hw211_0),((HB.out.cell (World.block_lt_of_cell? w _ hw211_1)).trans hw211_1),((HB.out.cell (World.block_lt_of_cell? w _ hw211_2)).trans hw211_2),((HB.out.cell (World.block_lt_of_cell? w _ hw211_3)).trans hw211_3)⟩ (fun hHeld=>?_);clear hK K;refine norm_ (a':=?_) ?_ ?_;rotate_left
             ·
              show Act.put _ (some 60) _ = _
              simp only [Act.put,sqa,sqb,sqc,i64_w,i32_w];rfl
             refine pure_ (i:=11) (N:=some 63) (v:=?_) (a':=?_) (lb 14 4095) rfl rfl (any_of HT_.out (by kernel_rfl)) (fun _ _ _ h=>h) (Or.inl ⟨by rfl,?_⟩) ?_ ?_;rotate_left
             ·
              intro w';go_simp;with_reducible rfl
             rotate_left
             ·
              simp only [Act.put,sqa,sqb,sqc,i64_w,i32_w];rfl
             refine pure_ (i:=12) (N:=some 64) (v:=?_) (a':=?_) (lb 14 8191) rfl rfl (any_of HT_.out (by kernel_rfl)) (fun _ _ _ h=>h) (Or.inl ⟨by rfl,?_⟩) ?_ ?_;rotate_left
             ·
              intro w';go_simp;with_reducible rfl
             rotate_left
             ·
              simp only [Act.put,sqa,sqb,sqc,i64_w,i32_w];rfl
             refine pure_ (i:=13) (N:=some 51) (v:=?_) (a':=?_) (lb 14 16383) rfl rfl (any_of HT_.out (by kernel_rfl)) (fun _ _ _ h=>h) (Or.inl ⟨by rfl,?_⟩) ?_ ?_;rotate_left
             ·
              intro w';go_simp;with_reducible rfl
             rotate_left
             ·
              simp only [Act.put,sqa,sqb,sqc,i64_w,i32_w];rfl
             refine done_ (done_of HT_.out (by kernel_rfl)) ?_;try go_wp2
             go_ret;exact ⟨by first|rfl|(simp [errW_none,errW_some] <;> rfl)|(simp only [← hji21];first|rfl|(simp [errW_none,errW_some] <;> rfl))|(simp [*,errW_none,errW_some] <;> rfl),by repeat (first|(with_reducible first|exact HB.out|apply below_alloc|apply pw_below_drewN|apply below_drew1|refine below_set ?_ GE210.out)|exact HB.out)⟩
            ·
             rw [if_neg c25] at H;have c25b0 : decide (((rd_T23 l0 x7_1).f0) < t212) = false:=decide_eq_false c25;clear c25;have H':=Aside0.mk H;clear H;try go_wp2
             have n0_:=Aside0.mk (blk_drew BK210.out);have n1_:=Aside0.mk (below_drew1 HB.out);clear BK210;clear HB;have BK210:=n0_;have HB:=n1_;clear n0_ n1_;have p211 : 0≤((ji21) : Int):=of_decide_eq_true (by first|(with_reducible assumption)|assumption);have q211 : (ji21) < (l0.length : Int):=of_decide_eq_true (by first|(with_reducible assumption)|assumption);obtain ⟨ad211,e211,hx211_0,hx211_1,hx211_2,hx211_3⟩:=at_T23 HR0.out (ji21) p211 q211;have hw211_3:=hx211_3;have hw211_2:=hx211_2;have hw211_1:=hx211_1;have hw211_0:=hx211_0;obtain rfl : ad209 = ad211:=(by injection e211);replace hx211_0:=(HB.out.cell (World.block_lt_of_cell? w _ hx211_0)).trans hx211_0;replace hx211_1:=(HB.out.cell (World.block_lt_of_cell? w _ hx211_1)).trans hx211_1;replace hx211_2:=(HB.out.cell (World.block_lt_of_cell? w _ hx211_2)).trans hx211_2;replace hx211_3:=(HB.out.cell (World.block_lt_of_cell? w _ hx211_3)).trans hx211_3;replace p211:=eq_true p211;replace q211:=eq_true q211;refine start_ (n:=14) (S:=fun w'=>w'.cell? ⟨gb210,0,none⟩ = some (.int .i64 ((rd_T23 l0 x7_1).f0))∧w'.cell? ⟨gb210,1,none⟩ = some (.string ((rd_T23 l0 x7_1).f1))∧w'.cell? ⟨gb210,2,none⟩ = some (.int .i64 ((rd_T23 l0 x7_1).f2))∧w'.cell? ⟨gb210,3,none⟩ = some (.int .i64 ((rd_T23 l0 x7_1).f3))∧w'.cell? (ad209.add (((ji21)).toNat * 4)) = some (.int .i64 ((rd_T23 l0 (ji21)).f0))∧w'.cell? ⟨(ad209.add (((ji21)).toNat * 4)).block,(ad209.add (((ji21)).toNat * 4)).off + 1,none⟩ = some (.string ((rd_T23 l0 (ji21)).f1))∧w'.cell? ⟨(ad209.add (((ji21)).toNat * 4)).block,(ad209.add (((ji21)).toNat * 4)).off + 2,none⟩ = some (.int .i64 ((rd_T23 l0 (ji21)).f2))∧w'.cell? ⟨(ad209.add (((ji21)).toNat * 4)).block,(ad209.add (((ji21)).toNat * 4)).off + 3,none⟩ = some (.int .i64 ((rd_T23 l0 (ji21)).f3))) (ds:=[]) (lb 14 0) (by kernel_rfl) rfl (by kernel_rfl) ⟨(blk_cell BK210.out 0).trans rfl,(blk_cell BK210.out 1).trans rfl,(blk_cell BK210.out 2).trans rfl,(blk_cell BK210.out 3).trans rfl,((HB.out.cell (World.block_lt_of_cell? w _ hw211_0)).trans hw211_0),((HB.out.cell (World.block_lt_of_cell? w _ hw211_1)).trans hw211_1),((HB.out.cell (World.block_lt_of_cell? w _ hw211_2)).trans hw211_2),((HB.out.cell (World.block_lt_of_cell? w _ hw211_3)).trans hw211_3)⟩ (fun hHeld=>?_);refine with_tabW overlap_Valid.tab6 overlap_Valid.bits6 (fun HT_ HW_=>?_)
             generalize wc.drew = w28 at BK210 HB hx211_0 hx211_1 hx211_2 hx211_3 hHeld ⊢;refine pure_ (i:=0) (N:=some 52) (v:=?_) (a':=?_) (lb 14 1) rfl rfl (any_of HT_.out (by kernel_rfl)) (fun _ _ _ h=>h) (Or.inl ⟨by rfl,?_⟩) ?_ ?_;rotate_left
             ·
              intro w';go_simp;with_reducible rfl
             rotate_left
             ·
              simp only [Act.put,sqa,sqb,sqc,i64_w,i32_w];rfl
             refine pure_ (i:=1) (N:=some 53) (v:=?_) (a':=?_) (lb 14 3) rfl rfl (any_of HT_.out (by kernel_rfl)) (fun _ _ _ h=>h) (Or.inl ⟨by rfl,?_⟩) ?_ ?_;rotate_left
             ·
              intro w';go_simp;with_reducible rfl
             rotate_left
             ·
              simp only [Act.put,sqa,sqb,sqc,i64_w,i32_w];rfl
             refine pure_ (i:=2) (N:=some 54) (v:=?_) (a':=?_) (lb 14 7) rfl rfl (any_of HT_.out (by kernel_rfl)) (fun _ _ _ h=>h) (Or.inl ⟨by rfl,?_⟩) ?_ ?_;rotate_left
             ·
              intro w';go_simp;with_reducible rfl
             rotate_left
             ·
              simp only [Act.put,sqa,sqb,sqc,i64_w,i32_w];rfl
             refine pure_ (i:=3) (N:=some 55) (v:=?_) (a':=?_) (lb 14 15) rfl rfl (any_of HT_.out (by kernel_rfl)) (fun _ _ _ h=>h) (Or.inl ⟨by rfl,?_⟩) ?_ ?_;rotate_left
             ·
              intro w';go_simp;with_reducible rfl
             rotate_left
             ·
              simp only [Act.put,sqa,sqb,sqc,i64_w,i32_w];rfl
             refine pure_ (i:=4) (N:=some 56) (v:=?_) (a':=?_) (lb 14 31) rfl rfl (any_of HT_.out (by kernel_rfl)) (fun _ _ _ h=>h) (Or.inl ⟨by rfl,?_⟩) ?_ ?_;rotate_left
             ·
              intro w';go_simp;with_reducible rfl
             rotate_left
             ·
              simp only [Act.put,sqa,sqb,sqc,i64_w,i32_w];rfl
             refine pure_ (i:=5) (N:=some 57) (v:=?_) (a':=?_) (lb 14 63) rfl rfl (any_of HT_.out (by kernel_rfl)) (fun _ _ _ h=>h) (Or.inl ⟨by rfl,?_⟩) ?_ ?_;rotate_left
             ·
              intro w';go_simp;with_reducible rfl
             rotate_left
             ·
              simp only [Act.put,sqa,sqb,sqc,i64_w,i32_w];rfl
             refine pure_ (i:=6) (N:=some 58) (v:=?_) (a':=?_) (lb 14 127) rfl rfl (any_of HT_.out (by kernel_rfl)) (fun _ _ _ h=>h) (Or.inl ⟨by rfl,?_⟩) ?_ ?_;rotate_left
             ·
              intro w';go_simp;with_reducible rfl
             rotate_left
             ·
              simp only [Act.put,sqa,sqb,sqc,i64_w,i32_w];rfl
             refine pure_ (i:=9) (N:=some 61) (v:=?_) (a':=?_) (lb 14 639) rfl rfl (any_of HT_.out (by kernel_rfl)) (fun _ _ _ h=>h) (Or.inl ⟨by rfl,?_⟩) ?_ ?_;rotate_left
             ·
              intro w';go_simp;with_reducible rfl
             rotate_left
             ·
              simp only [Act.put,sqa,sqb,sqc,i64_w,i32_w];rfl
             refine take_ (i:=7) (N:=some 59) (v:=?_) (a':=?_) (lb 14 767) rfl rfl (take_ofW HT_.out HW_.out (by kernel_rfl)) (fun _ _ _ h=>h) (Or.inl ⟨by rfl,?_⟩) hHeld ?_ ?_;rotate_left
             ·
              rintro w' ⟨s0,s1,s2,s3,s4,s5,s6,s7⟩;go_simp;with_reducible rfl
             rotate_left
             ·
              simp only [Act.put,sqa,sqb,sqc,i64_w,i32_w];rfl
             refine take_ (i:=10) (N:=some 62) (v:=?_) (a':=?_) (lb 14 1791) rfl rfl (take_ofW HT_.out HW_.out (by kernel_rfl)) (fun _ _ _ h=>h) (Or.inl ⟨by rfl,?_⟩) hHeld ?_ ?_;rotate_left
             ·
              rintro w' ⟨s0,s1,s2,s3,s4,s5,s6,s7⟩;go_simp;with_reducible rfl
             rotate_left
             ·
              simp only [Act.put,sqa,sqb,sqc,i64_w,i32_w];rfl
             refine one_ (i:=8) (N:=some 60) (lb 14 2047) rfl rfl (one_of HT_.out (by kernel_rfl)) (by decide) (fun K hK=>?_);refine goes_ Try.func28 (by kernel_rfl) rfl #[.agg #[.int .i64 ((rd_T23 l0 (ji21)).f0),.string ((rd_T23 l0 (ji21)).f1),.int .i64 ((rd_T23 l0 (ji21)).f2),.int .i64 ((rd_T23 l0 (ji21)).f3)]] (by rfl) rfl rfl (by (try simp only [List.map_toArray,List.map_cons,List.map_nil]);first|done|(simp only [hji21];rfl)|rfl|(simp only [List.length_drop,List.length_take];rfl)) ?_;with_reducible refine (overlap_end.calls ((rd_T23 l0 (ji21)).f0) ((rd_T23 l0 (ji21)).f1) ((rd_T23 l0 (ji21)).f2) ((rd_T23 l0 (ji21)).f3) t212 _ A24.out).mono ?_
             rintro e w29 ⟨rfl,hb⟩;refine ⟨_,rfl,?_⟩;have n0_:=Aside0.mk (blk_below (g:=gb210) (o:=.cells #[.int .i64 ((rd_T23 l0 x7_1).f0),.string ((rd_T23 l0 x7_1).f1),.int .i64 ((rd_T23 l0 x7_1).f2),.int .i64 ((rd_T23 l0 x7_1).f3)] 23 (0,0)) (by (with_reducible repeat (first|refine blk_drewN ?_ _|refine blk_drew ?_|refine blk_alloc ?_ _));exact BK210.out) hb);have n1_:=Aside0.mk (below_step (by repeat (first|(with_reducible first|exact HB.out|apply below_alloc|apply pw_below_drewN|apply below_drew1|refine below_set ?_ GE210.out)|exact HB.out)) hb);clear BK210;clear HB;have BK210:=n0_;have HB:=n1_;clear n0_ n1_;(try clear hb);(try clear hb2);(try clear hk);(try clear hi);refine hK.out _ _ ⟨(blk_cell BK210.out 0).trans rfl,(blk_cell BK210.out 1).trans rfl,(blk_cell BK210.out 2).trans rfl,(blk_cell BK210.out 3).trans rfl,((HB.out.cell (World.block_lt_of_cell? w _ hw211_0)).trans hw211_0),((HB.out.cell (World.block_lt_of_cell? w _ hw211_1)).trans hw211_1),((HB.out.cell (World.block_lt_of_cell? w _ hw211_2)).trans hw211_2),((HB.out.cell (World.block_lt_of_cell? w _ hw211_3)).trans hw211_3)⟩ (fun hHeld=>?_);clear hK K;refine norm_ (a':=?_) ?_ ?_;rotate_left
             ·
              show Act.put _ (some 60) _ = _
              simp only [Act.put,sqa,sqb,sqc,i64_w,i32_w];rfl
             refine pure_ (i:=11) (N:=some 63) (v:=?_) (a':=?_) (lb 14 4095) rfl rfl (any_of HT_.out (by kernel_rfl)) (fun _ _ _ h=>h) (Or.inl ⟨by rfl,?_⟩) ?_ ?_;rotate_left
             ·
              intro w';go_simp;with_reducible rfl
             rotate_left
             ·
              simp only [Act.put,sqa,sqb,sqc,i64_w,i32_w];rfl
             refine pure_ (i:=12) (N:=some 64) (v:=?_) (a':=?_) (lb 14 8191) rfl rfl (any_of HT_.out (by kernel_rfl)) (fun _ _ _ h=>h) (Or.inl ⟨by rfl,?_⟩) ?_ ?_;rotate_left
             ·
              intro w';go_simp;with_reducible rfl
             rotate_left
             ·
              simp only [Act.put,sqa,sqb,sqc,i64_w,i32_w];rfl
             refine pure_ (i:=13) (N:=some 51) (v:=?_) (a':=?_) (lb 14 16383) rfl rfl (any_of HT_.out (by kernel_rfl)) (fun _ _ _ h=>h) (Or.inl ⟨by rfl,?_⟩) ?_ ?_;rotate_left
             ·
              intro w';go_simp;with_reducible rfl
             rotate_left
             ·
              simp only [Act.put,sqa,sqb,sqc,i64_w,i32_w];rfl
             refine done_ (done_of HT_.out (by kernel_rfl)) ?_;try go_wp2
             go_roundg kj4
             case measure=>have:=HK1.out;have:=HJ4.out;omega
             case rel=>exact ⟨(wrap64 (x7_1 + 1)),(by first|rfl|(simp;done)|(simp [*];done)),H',⟨by have:=HK1.out;have:=HJ4.out;omega⟩,⟨by repeat (first|(with_reducible first|exact HB.out|apply below_alloc|apply pw_below_drewN|apply below_drew1|refine below_set ?_ GE210.out)|exact HB.out)⟩⟩
           ·
            rw [if_neg c23] at H;exact absurd H (by simp)
          ·
           rw [if_neg c22] at H;exact absurd H (by simp)
         ·
          rw [if_neg c20] at H;have c20b0 : decide (0 < x7_1) = false:=decide_eq_false c20;clear c20;have H':=Aside0.mk H;clear H;try go_wp2
          have n0_:=Aside0.mk (blk_drew BK210.out);have n1_:=Aside0.mk (below_drew1 HB.out);clear BK210;clear HB;have BK210:=n0_;have HB:=n1_;clear n0_ n1_;refine start_ (n:=14) (S:=fun w'=>True) (ds:=[]) (lb 14 0) (by kernel_rfl) rfl (by kernel_rfl) trivial (fun hHeld=>?_);refine with_tabW overlap_Valid.tab6 overlap_Valid.bits6 (fun HT_ HW_=>?_)
          generalize wc.drew = w30 at BK210 HB hHeld ⊢;refine pure_ (i:=0) (N:=some 52) (v:=?_) (a':=?_) (lb 14 1) rfl rfl (any_of HT_.out (by kernel_rfl)) (fun _ _ _ h=>h) (Or.inl ⟨by rfl,?_⟩) ?_ ?_;rotate_left
          ·
           intro w';go_simp;with_reducible rfl
          rotate_left
          ·
           simp only [Act.put,sqa,sqb,sqc,i64_w,i32_w];rfl
          refine pure_ (i:=1) (N:=some 53) (v:=?_) (a':=?_) (lb 14 3) rfl rfl (any_of HT_.out (by kernel_rfl)) (fun _ _ _ h=>h) (Or.inl ⟨by rfl,?_⟩) ?_ ?_;rotate_left
          ·
           intro w';go_simp;with_reducible rfl
          rotate_left
          ·
           simp only [Act.put,sqa,sqb,sqc,i64_w,i32_w];rfl
          refine pure_ (i:=2) (N:=some 54) (v:=?_) (a':=?_) (lb 14 7) rfl rfl (any_of HT_.out (by kernel_rfl)) (fun _ _ _ h=>h) (Or.inl ⟨by rfl,?_⟩) ?_ ?_;rotate_left
          ·
           intro w';go_simp;with_reducible rfl
          rotate_left
          ·
           simp only [Act.put,sqa,sqb,sqc,i64_w,i32_w];rfl
          refine pure_ (i:=3) (N:=some 55) (v:=undef) (a':=?_) (lb 14 15) rfl rfl (any_of HT_.out (by kernel_rfl)) (fun _ _ _ h=>h) (Or.inr ⟨by rfl,rfl⟩) ?_ ?_;rotate_left
          ·
           simp only [Act.put,sqa,sqb,sqc,i64_w,i32_w];rfl
          refine pure_ (i:=4) (N:=some 56) (v:=undef) (a':=?_) (lb 14 31) rfl rfl (any_of HT_.out (by kernel_rfl)) (fun _ _ _ h=>h) (Or.inr ⟨by rfl,rfl⟩) ?_ ?_;rotate_left
          ·
           simp only [Act.put,sqa,sqb,sqc,i64_w,i32_w];rfl
          refine pure_ (i:=5) (N:=some 57) (v:=undef) (a':=?_) (lb 14 63) rfl rfl (any_of HT_.out (by kernel_rfl)) (fun _ _ _ h=>h) (Or.inr ⟨by rfl,rfl⟩) ?_ ?_;rotate_left
          ·
           simp only [Act.put,sqa,sqb,sqc,i64_w,i32_w];rfl
          refine pure_ (i:=6) (N:=some 58) (v:=undef) (a':=?_) (lb 14 127) rfl rfl (any_of HT_.out (by kernel_rfl)) (fun _ _ _ h=>h) (Or.inr ⟨by rfl,rfl⟩) ?_ ?_;rotate_left
          ·
           simp only [Act.put,sqa,sqb,sqc,i64_w,i32_w];rfl
          refine pure_ (i:=7) (N:=some 59) (v:=undef) (a':=?_) (lb 14 255) rfl rfl (any_of HT_.out (by kernel_rfl)) (fun _ _ _ h=>h) (Or.inr ⟨by rfl,rfl⟩) ?_ ?_;rotate_left
          ·
           simp only [Act.put,sqa,sqb,sqc,i64_w,i32_w];rfl
          refine pure_ (i:=8) (N:=some 60) (v:=undef) (a':=?_) (lb 14 511) rfl rfl (any_of HT_.out (by kernel_rfl)) (fun _ _ _ h=>h) (Or.inr ⟨by rfl,rfl⟩) ?_ ?_;rotate_left
          ·
           simp only [Act.put,sqa,sqb,sqc,i64_w,i32_w];rfl
          refine pure_ (i:=9) (N:=some 61) (v:=undef) (a':=?_) (lb 14 1023) rfl rfl (any_of HT_.out (by kernel_rfl)) (fun _ _ _ h=>h) (Or.inr ⟨by rfl,rfl⟩) ?_ ?_;rotate_left
          ·
           simp only [Act.put,sqa,sqb,sqc,i64_w,i32_w];rfl
          refine pure_ (i:=10) (N:=some 62) (v:=undef) (a':=?_) (lb 14 2047) rfl rfl (any_of HT_.out (by kernel_rfl)) (fun _ _ _ h=>h) (Or.inr ⟨by rfl,rfl⟩) ?_ ?_;rotate_left
          ·
           simp only [Act.put,sqa,sqb,sqc,i64_w,i32_w];rfl
          refine pure_ (i:=11) (N:=some 63) (v:=undef) (a':=?_) (lb 14 4095) rfl rfl (any_of HT_.out (by kernel_rfl)) (fun _ _ _ h=>h) (Or.inr ⟨by rfl,rfl⟩) ?_ ?_;rotate_left
          ·
           simp only [Act.put,sqa,sqb,sqc,i64_w,i32_w];rfl
          refine pure_ (i:=12) (N:=some 64) (v:=?_) (a':=?_) (lb 14 8191) rfl rfl (any_of HT_.out (by kernel_rfl)) (fun _ _ _ h=>h) (Or.inl ⟨by rfl,?_⟩) ?_ ?_;rotate_left
          ·
           intro w';go_simp;with_reducible rfl
          rotate_left
          ·
           simp only [Act.put,sqa,sqb,sqc,i64_w,i32_w];rfl
          refine pure_ (i:=13) (N:=some 51) (v:=?_) (a':=?_) (lb 14 16383) rfl rfl (any_of HT_.out (by kernel_rfl)) (fun _ _ _ h=>h) (Or.inl ⟨by rfl,?_⟩) ?_ ?_;rotate_left
          ·
           intro w';go_simp;with_reducible rfl
          rotate_left
          ·
           simp only [Act.put,sqa,sqb,sqc,i64_w,i32_w];rfl
          refine done_ (done_of HT_.out (by kernel_rfl)) ?_;try go_wp2
          go_roundg kj4
          case measure=>have:=HK1.out;have:=HJ4.out;omega
          case rel=>exact ⟨(wrap64 (x7_1 + 1)),(by first|rfl|(simp;done)|(simp [*];done)),H',⟨by have:=HK1.out;have:=HJ4.out;omega⟩,⟨by repeat (first|(with_reducible first|exact HB.out|apply below_alloc|apply pw_below_drewN|apply below_drew1|refine below_set ?_ GE210.out)|exact HB.out)⟩⟩
     ·
      rw [if_neg c4] at H;exact absurd H (by simp)
    ·
     rw [if_neg c3] at H;exact absurd H (by simp)
   ·
    rw [if_neg c2] at H;have c2b0 : decide (x7_1 < (l0.length : Int)) = false:=decide_eq_false c2;clear c2;obtain rfl:=Option.some.inj H;go_wp2;go_ret;exact ⟨by first|rfl|(simp [errW_none,errW_some] <;> rfl)|(simp [*,errW_none,errW_some] <;> rfl),by repeat (first|(with_reducible first|exact HB.out|apply below_alloc|apply pw_below_drewN|apply below_drew1)|exact HB.out)⟩

end Go.Proofs.Ytjdjgabahkcjeaa.P
