-- Written by a program of the proof's own workplace (gprint.py over the kit's print): a function and its contract.
-- SQUEEZED
import Derived.Test.YtjdjgabahkcjeaaPx0
import Derived.Test.YtjdjgabahkcjeaaPx1
import Derived.Test.YtjdjgabahkcjeaaPx3
import Derived.Test.YtjdjgabahkcjeaaPx6
import Derived.Test.YtjdjgabahkcjeaaPx7
import Derived.Test.YtjdjgabahkcjeaaPx8
namespace Go.Proofs.Ytjdjgabahkcjeaa.P
open Go.RowKit Go.Proofs.YtjdjgabahkcjeaaW.PrintWords Go.Proofs.YtjdjgabahkcjeaaW.PrintLast Go.Proofs.YtjdjgabahkcjeaaW.PrintMore
attribute [local go_sem] max2_int min2_int max_two min_two max_three min_three max_four min_four   -- for this text's walks alone
set_option linter.unusedVariables false
set_option linter.unusedSimpArgs false

attribute [local go_sem high] eqA23
/-! ### intrusionlaw15_lives: function 12 -/
def intrusionlaw15_lives.j0 : Nat→List (S23)→Bool→Option (Bool)
 | 0,_,_=>none
 | k + 1,x1,x38=>if x38 = true then (some false) else ((overlap_Take.f k x1 1).bind fun bt249=>(if bt249.1.toList = ([97,98,98,98,98] : List UInt8) then (if (bt249.2.length : Int) = 0 then ((overlap_Size.f k x1).bind fun t253=>(if t253 = 6 then ((overlap_Valid.f k x1).bind fun t254=>(if t254 = true then (if 0 < (x1.length : Int) then (if 1 < (x1.length : Int) then ((overlap_Wins.f 3 ((rd_T23 x1 0).f0) ((rd_T23 x1 0).f1) ((rd_T23 x1 0).f2) ((rd_T23 x1 0).f3) ((rd_T23 x1 1).f0) ((rd_T23 x1 1).f1) ((rd_T23 x1 1).f2) ((rd_T23 x1 1).f3)).bind fun t257=>(if t257 = true then (some false) else ((overlap_Wins.f 3 ((rd_T23 x1 1).f0) ((rd_T23 x1 1).f1) ((rd_T23 x1 1).f2) ((rd_T23 x1 1).f3) ((rd_T23 x1 0).f0) ((rd_T23 x1 0).f1) ((rd_T23 x1 0).f2) ((rd_T23 x1 0).f3)).bind fun t260=>(some t260)))) else (none)) else (none)) else (some false))) else (some false))) else (some false)) else (some false)))
def intrusionlaw15_lives.f (k : Nat)  : Option (Bool):=(overlap_Insert.f k (([(⟨0,(⟨#[97,97,97,97]⟩ : ByteArray),0,4⟩ : S23)] : List (S23))) 2 (⟨#[98,98,98,98]⟩ : ByteArray) 0 0 2).bind fun bt242=>(if (bt242.1.length : Int) = 2 then (if 0 < (bt242.1.length : Int) then (if (!(((rd_T23 bt242.1 0).f0) == 0) || (!((((rd_T23 bt242.1 0).f1).toList) == ([97,97] : List UInt8)) || (!(((rd_T23 bt242.1 0).f2) == 0) || (!(((rd_T23 bt242.1 0).f3) == 4))))) = true then (intrusionlaw15_lives.j0 k bt242.1 true) else (if 1 < (bt242.1.length : Int) then (if (!(((rd_T23 bt242.1 1).f0) == 2) || (!((((rd_T23 bt242.1 1).f1).toList) == ([98,98,98,98] : List UInt8)) || (!(((rd_T23 bt242.1 1).f2) == 2) || (!(((rd_T23 bt242.1 1).f3) == 6))))) = true then (intrusionlaw15_lives.j0 k bt242.1 true) else (if bt242.2.1 = 2 then (intrusionlaw15_lives.j0 k bt242.1 (bt242.2.2 != 0)) else (intrusionlaw15_lives.j0 k bt242.1 true))) else (none))) else (none)) else (intrusionlaw15_lives.j0 k bt242.1 true))
theorem intrusionlaw15_lives.mono_l : ∀ k,(∀ y0 y1,LeO (intrusionlaw15_lives.j0 k y0 y1) (intrusionlaw15_lives.j0 (k + 1) y0 y1))
 | 0=>fun _ _ r h=>by simp [intrusionlaw15_lives.j0] at h
 | k + 1=>by
  have ih0:=intrusionlaw15_lives.mono_l k
  ·
   intro y0 y1;unfold intrusionlaw15_lives.j0
   repeat' first
   | (with_reducible exact ih0 _ _)
   | (with_reducible exact overlap_Insert.mono _ _ _ _ _ _ _)
   | (with_reducible exact overlap_Size.mono _ _)
   | (with_reducible exact overlap_Take.mono _ _ _)
   | (with_reducible exact overlap_Valid.mono _ _)
   | (with_reducible exact LeO.refl _)
   | (with_reducible exact LeO.none _)
   | (with_reducible refine LeO.ite ?_ ?_)
   | (with_reducible refine LeO.bind ?_ (fun _=>?_))
   | exact ih0 _ _
   | exact overlap_Insert.mono _ _ _ _ _ _ _
   | exact overlap_Size.mono _ _
   | exact overlap_Take.mono _ _ _
   | exact overlap_Valid.mono _ _
   | exact LeO.none _
   | refine LeO.ite ?_ ?_
   | refine LeO.bind ?_ (fun _=>?_)
theorem intrusionlaw15_lives.mono : ∀ k,LeO (intrusionlaw15_lives.f k ) (intrusionlaw15_lives.f (k + 1) ):=by
 intro  k;have ih0:=intrusionlaw15_lives.mono_l k;unfold intrusionlaw15_lives.f
 repeat' first
   | (with_reducible exact ih0 _ _)
   | (with_reducible exact overlap_Insert.mono _ _ _ _ _ _ _)
   | (with_reducible exact overlap_Size.mono _ _)
   | (with_reducible exact overlap_Take.mono _ _ _)
   | (with_reducible exact overlap_Valid.mono _ _)
   | (with_reducible exact LeO.refl _)
   | (with_reducible exact LeO.none _)
   | (with_reducible refine LeO.ite ?_ ?_)
   | (with_reducible refine LeO.bind ?_ (fun _=>?_))
   | exact ih0 _ _
   | exact overlap_Insert.mono _ _ _ _ _ _ _
   | exact overlap_Size.mono _ _
   | exact overlap_Take.mono _ _ _
   | exact overlap_Valid.mono _ _
   | exact LeO.none _
   | refine LeO.ite ?_ ?_
   | refine LeO.bind ?_ (fun _=>?_)
def intrusionlaw15_lives.T5 : Bool × List (List Nat × List Nat):=(true,[([],[]),([0],[0]),([1],[1]),([2],[2]),([3,2],[2,3]),([4,2],[2,4]),([2,5],[2,5]),([6,2],[6]),([7],[7]),([8,7,7],[7,8]),([9,7],[7,9]),([7,10],[7,10]),([11,9],[11]),([12],[12]),([13,12,12],[12,13]),([12,14],[12,14]),([15,14],[15]),([16],[16]),([17,16],[16,17]),([18,16],[16,18]),([16],[16]),([20,16],[16,20]),([21,16],[16,21]),([19,22,16,16],[16,19,22]),([23,16],[16,23]),([16,24],[16,24]),([25,23],[25]),([26],[26]),([27,26],[26,27]),([28,26],[26,28]),([26],[26]),([30,26],[26,30]),([31,26],[26,31]),([29,32,26,26],[26,29,32]),([26,33],[26,33]),([34,33,0,1,2,3,4,5,6,7,8,9,10,11,12,13,14,15,16,17,18,19,20,21,22,23,24,25,26,27,28,29,30,31,32,33,34],[34])])
def intrusionlaw15_lives.B5 : List Nat:=[0,1,3,7,15,31,63,127,255,511,1023,2047,4095,8191,16383,32767,65535,131071,262143,524287,131071,1179647,3276799,8388607,16777215,33554431,67108863,134217727,268435455,536870911,134217727,1207959551,3355443199,8589934591,17179869183,34359738367]
theorem intrusionlaw15_lives.tab5 : rtab .any (opsOf Try.f12 5) = intrusionlaw15_lives.T5:=by kernel_rfl
theorem intrusionlaw15_lives.bits5 : waitsOk intrusionlaw15_lives.T5.2 intrusionlaw15_lives.B5 = true:=by kernel_rfl
set_option maxHeartbeats 8000000 in
set_option maxRecDepth 100000 in
theorem intrusionlaw15_lives.calls (k : Nat)  (r : Bool) (w : World) (h : intrusionlaw15_lives.f k  = some r) :
  Calls Try.prog 12 #[] w fun e w'=>e = .returned (.bool r)∧Below w.heap.size w w':=by
 have hu23:=Try.underlying23;have HB:=Aside0.mk (Below.refl w.heap.size w);have H : ((overlap_Insert.f k (([(⟨0,(⟨#[97,97,97,97]⟩ : ByteArray),0,4⟩ : S23)] : List (S23))) 2 (⟨#[98,98,98,98]⟩ : ByteArray) 0 0 2).bind fun bt242=>(if (bt242.1.length : Int) = 2 then (if 0 < (bt242.1.length : Int) then (if (!(((rd_T23 bt242.1 0).f0) == 0) || (!((((rd_T23 bt242.1 0).f1).toList) == ([97,97] : List UInt8)) || (!(((rd_T23 bt242.1 0).f2) == 0) || (!(((rd_T23 bt242.1 0).f3) == 4))))) = true then (intrusionlaw15_lives.j0 k bt242.1 true) else (if 1 < (bt242.1.length : Int) then (if (!(((rd_T23 bt242.1 1).f0) == 2) || (!((((rd_T23 bt242.1 1).f1).toList) == ([98,98,98,98] : List UInt8)) || (!(((rd_T23 bt242.1 1).f2) == 2) || (!(((rd_T23 bt242.1 1).f3) == 6))))) = true then (intrusionlaw15_lives.j0 k bt242.1 true) else (if bt242.2.1 = 2 then (intrusionlaw15_lives.j0 k bt242.1 (bt242.2.2 != 0)) else (intrusionlaw15_lives.j0 k bt242.1 true))) else (none))) else (none)) else (intrusionlaw15_lives.j0 k bt242.1 true))) = some r:=h;clear h;obtain ⟨y239,hy239⟩ : ∃ y_ : List (S23),y_ = (([(⟨0,(⟨#[97,97,97,97]⟩ : ByteArray),0,4⟩ : S23)] : List (S23))):=⟨_,rfl⟩;replace H : ((overlap_Insert.f k y239 2 (⟨#[98,98,98,98]⟩ : ByteArray) 0 0 2).bind fun bt242=>(if (bt242.1.length : Int) = 2 then (if 0 < (bt242.1.length : Int) then (if (!(((rd_T23 bt242.1 0).f0) == 0) || (!((((rd_T23 bt242.1 0).f1).toList) == ([97,97] : List UInt8)) || (!(((rd_T23 bt242.1 0).f2) == 0) || (!(((rd_T23 bt242.1 0).f3) == 4))))) = true then (intrusionlaw15_lives.j0 k bt242.1 true) else (if 1 < (bt242.1.length : Int) then (if (!(((rd_T23 bt242.1 1).f0) == 2) || (!((((rd_T23 bt242.1 1).f1).toList) == ([98,98,98,98] : List UInt8)) || (!(((rd_T23 bt242.1 1).f2) == 2) || (!(((rd_T23 bt242.1 1).f3) == 6))))) = true then (intrusionlaw15_lives.j0 k bt242.1 true) else (if bt242.2.1 = 2 then (intrusionlaw15_lives.j0 k bt242.1 (bt242.2.2 != 0)) else (intrusionlaw15_lives.j0 k bt242.1 true))) else (none))) else (none)) else (intrusionlaw15_lives.j0 k bt242.1 true))) = some r:=by first|(rw [hy239];with_reducible exact H)|(have H2_:=(Option.bind_some _ _).symm.trans H;rw [hy239];with_reducible exact H2_)|(have H2_:=(Option.bind_some _ _).symm.trans H;with_reducible exact H2_)|with_reducible exact H|(rw [hy239];exact H)|exact H
 have Ny239:=Aside0.mk hy239;clear hy239;replace H:=Option.bind_eq_some_iff.mp H;obtain ⟨⟨t242,t245,t246⟩,A10,H⟩:=H;replace H : (if (t242.length : Int) = 2 then (if 0 < (t242.length : Int) then (if (!(((rd_T23 t242 0).f0) == 0) || (!((((rd_T23 t242 0).f1).toList) == ([97,97] : List UInt8)) || (!(((rd_T23 t242 0).f2) == 0) || (!(((rd_T23 t242 0).f3) == 4))))) = true then (intrusionlaw15_lives.j0 k t242 true) else (if 1 < (t242.length : Int) then (if (!(((rd_T23 t242 1).f0) == 2) || (!((((rd_T23 t242 1).f1).toList) == ([98,98,98,98] : List UInt8)) || (!(((rd_T23 t242 1).f2) == 2) || (!(((rd_T23 t242 1).f3) == 6))))) = true then (intrusionlaw15_lives.j0 k t242 true) else (if t245 = 2 then (intrusionlaw15_lives.j0 k t242 (t246 != 0)) else (intrusionlaw15_lives.j0 k t242 true))) else (none))) else (none)) else (intrusionlaw15_lives.j0 k t242 true)) = some r:=H;have A1:=Aside0.mk A10;clear A10;have HC2:=Aside0.mk H;clear H;go_enter Try.func12,Try.ntmps12
 go_upto_region 2 with (first|((with_reducible refine gate_dst (N:=8) rfl ?_);(try (refine gate_guard (by rfl) ?_;dsimp only));refine Kd.R_lit k23 _ 23 ?hg (N:=8) ?hd (xs:=([(⟨0,(⟨#[97,97,97,97]⟩ : ByteArray),0,4⟩ : S23)] : List (S23))) (inner:=[.int .i64 0,.string (⟨#[97,97,97,97]⟩ : ByteArray),.int .i64 0,.int .i64 4]) (ok:=fun _=>True) (okp:=fun _=>True) ?hr ?hp (fun _ hk=>hk) trivial (Below.refl _ _) (Nat.le_refl _) (by simp) ?_;(case hd=>rfl);(case hg=>rfl);(case hr=>first|(go_simp;done)|(go_simp;rfl));(case hp=>exact (Reps.c4 (show Kd.M k23 _ _ _ (⟨0,(⟨#[97,97,97,97]⟩ : ByteArray),0,4⟩ : S23) [.int .i64 0,.string (⟨#[97,97,97,97]⟩ : ByteArray),.int .i64 0,.int .i64 4] from (k23_mkM _ _ _ (⟨0,(⟨#[97,97,97,97]⟩ : ByteArray),0,4⟩ : S23) )) (Reps.none _ _)));intro v240 w3 ho4 hb hg_ hnew_;clear hg_ hnew_;(first|rw [← Ny239.out] at ho4|(simp only [Int.reduceToNat] at ho4;rw [← Ny239.out] at ho4));have n0_:=Aside0.mk (Kd.R_lower ho4 (below_size (by repeat (first|(with_reducible first|exact HB.out|apply below_alloc|apply pw_below_drewN|apply below_drew1)|exact HB.out))));have n1_:=Aside0.mk (below_step (by repeat (first|(with_reducible first|exact HB.out|apply below_alloc|apply pw_below_drewN|apply below_drew1)|exact HB.out)) hb);clear HB;have HO241:=n0_;have HB:=n1_;clear n0_ n1_;clear hb ho4;obtain ⟨Ao5,co5,eo5⟩:=Kd.R_slice HO241.out;subst eo5)|((with_reducible refine gate_callee (f:=15) rfl ?_);refine goesL_ (some 10) rfl rfl Try.func15 (by kernel_rfl) rfl #[.slice Ao5 y239.length co5,.agg #[.int .i64 2,.string (⟨#[98,98,98,98]⟩ : ByteArray),.int .i64 0,.int .i64 0],.int .i64 2] rfl (by (try simp only [List.map_toArray,List.map_cons,List.map_nil]);first|done|rfl|(simp only [List.length_drop,List.length_take];rfl)) ?_;(with_reducible refine (overlap_Insert.calls k _ _ y239 2 (⟨#[98,98,98,98]⟩ : ByteArray) 0 0 2 t242 t245 t246 _ ?side1 ?side2 A1.out).mono ?_);(case side1=>repeat (first|exact (Kd.R_reads' HO241.out).2.2|(with_reducible refine Kd.C_alloc ?_ _)|(with_reducible refine Kd.C_drewN ?_ _)|(with_reducible refine Kd.C_drew ?_)));(case side2=>exact (Kd.R_reads' HO241.out).2.1);rintro e w6 ⟨v243,rfl,ho0,hb⟩;refine ⟨_,rfl,?_⟩;have n0_:=Aside0.mk (Kd.R_elder' (by (with_reducible repeat (first|apply Kd.R_alloc|apply Kd.R_drewN|apply Kd.R_drew));exact HO241.out) (Kd.R_base ho0) hb);have n1_:=Aside0.mk (Kd.R_lower (Kd.R_new' ho0 (Kd.R_lt (by (with_reducible repeat (first|apply Kd.R_alloc|apply Kd.R_drewN|apply Kd.R_drew));exact HO241.out))) (below_size (by repeat (first|(with_reducible first|exact HB.out|apply below_alloc|apply pw_below_drewN|apply below_drew1)|exact HB.out))));have n2_:=Aside0.mk (below_step (by repeat (first|(with_reducible first|exact HB.out|apply below_alloc|apply pw_below_drewN|apply below_drew1)|exact HB.out)) hb);clear HO241;clear HB;have HO241:=n0_;have HO244:=n1_;have HB:=n2_;clear n0_ n1_ n2_;(try clear hb);(try clear hb2);(try clear hk);(try clear hi);(try clear ho0)))
 (try simp only [Act.put,sqa,sqb,sqc]);go_cut [38] (fun v38 wc=>∃ (kq : Nat) (x38_1 : Bool),v38 = .bool x38_1∧Aside0 (intrusionlaw15_lives.j0 kq t242 x38_1 = some r)∧Aside0 (kq≤k)∧Aside0 (Kd.R k23 23 wc w.heap.size (fun _=>True) v243 t242)∧Aside0 (Below w.heap.size w wc))
 case first=>
  have H:=HC2.out;clear HC2;by_cases c7 : (t242.length : Int) = 2
  ·
   rw [if_pos c7] at H;have c7b0 : ((t242.length : Int) == 2) = true:=beq_iff_eq.mpr c7;have c7b1 : ((t242.length : Int) != 2) = false:=bne_eq_false_iff_eq.mpr c7;clear c7;(first|rw [c7b0]|(simp only [i64_w,i32_w];rw [c7b0])|skip)
   by_cases c8 : 0 < (t242.length : Int)
   ·
    rw [if_pos c8] at H;have c8b0 : decide (0 < (t242.length : Int)) = true:=decide_eq_true c8;have c8b1 : decide (0 < t242.length) = true:=decide_eq_true (by omega);clear c8;by_cases c9 : (!(((rd_T23 t242 0).f0) == 0) || (!((((rd_T23 t242 0).f1).toList) == ([97,97] : List UInt8)) || (!(((rd_T23 t242 0).f2) == 0) || (!(((rd_T23 t242 0).f3) == 4))))) = true
    ·
     rw [if_pos c9] at H;have c9b0 : (!(((rd_T23 t242 0).f0) == 0) || (!((((rd_T23 t242 0).f1).toList) == ([97,97] : List UInt8)) || (!(((rd_T23 t242 0).f2) == 0) || (!(((rd_T23 t242 0).f3) == 4))))) = true:=c9;clear c9;have H':=Aside0.mk H;clear H;obtain ⟨Ao10,co10,eo10⟩:=Kd.R_slice HO244.out;subst eo10;have p247 : 0≤(0 : Int):=(by omega);have q247 : 0 < (t242.length : Int):=of_decide_eq_true (by first|(with_reducible assumption)|assumption);obtain ⟨ad247,e247,hx247_0,hx247_1,hx247_2,hx247_3⟩:=at_T23 (Kd.R_reads' HO244.out).2.2 0 p247 q247;cases e247;have qi247 : (0 < t242.length) = True:=eq_true (by omega);(try rw [show ((0 : Int)).toNat = 0 from rfl] at hx247_0);(try rw [show 0 * 4 = 0 from rfl] at hx247_0);(try rw [Addr.add_zero'] at hx247_0);(try rw [show ((0 : Int)).toNat = 0 from rfl] at hx247_1);(try rw [show 0 * 4 = 0 from rfl] at hx247_1);(try rw [Addr.add_zero'] at hx247_1);(try rw [show ((0 : Int)).toNat = 0 from rfl] at hx247_2);(try rw [show 0 * 4 = 0 from rfl] at hx247_2);(try rw [Addr.add_zero'] at hx247_2);(try rw [show ((0 : Int)).toNat = 0 from rfl] at hx247_3);(try rw [show 0 * 4 = 0 from rfl] at hx247_3);(try rw [Addr.add_zero'] at hx247_3);replace p247:=eq_true p247;replace q247:=eq_true q247;go_wp2;go_meet
     case rel=>exact ⟨_,(true),(by first|rfl|(simp;done)|(simp [*];done)),H',⟨by first|omega|exact Nat.le_refl _⟩,⟨by (with_reducible repeat (first|apply Kd.R_alloc|apply Kd.R_drewN|apply Kd.R_drew));exact Kd.R_mono HO244.out (fun _ hk=>trivial)⟩,⟨by repeat (first|(with_reducible first|exact HB.out|apply below_alloc|apply pw_below_drewN|apply below_drew1)|exact HB.out)⟩⟩
    ·
     rw [if_neg c9] at H;have c9b0 : (!(((rd_T23 t242 0).f0) == 0) || (!((((rd_T23 t242 0).f1).toList) == ([97,97] : List UInt8)) || (!(((rd_T23 t242 0).f2) == 0) || (!(((rd_T23 t242 0).f3) == 4))))) = false:=by simpa using c9
     clear c9;by_cases c11 : 1 < (t242.length : Int)
     ·
      rw [if_pos c11] at H;have c11b0 : decide (1 < (t242.length : Int)) = true:=decide_eq_true c11;have c11b1 : decide (1 < t242.length) = true:=decide_eq_true (by omega);clear c11;by_cases c12 : (!(((rd_T23 t242 1).f0) == 2) || (!((((rd_T23 t242 1).f1).toList) == ([98,98,98,98] : List UInt8)) || (!(((rd_T23 t242 1).f2) == 2) || (!(((rd_T23 t242 1).f3) == 6))))) = true
      ·
       rw [if_pos c12] at H;have c12b0 : (!(((rd_T23 t242 1).f0) == 2) || (!((((rd_T23 t242 1).f1).toList) == ([98,98,98,98] : List UInt8)) || (!(((rd_T23 t242 1).f2) == 2) || (!(((rd_T23 t242 1).f3) == 6))))) = true:=c12;clear c12;have H':=Aside0.mk H;clear H;obtain ⟨Ao13,co13,eo13⟩:=Kd.R_slice HO244.out;subst eo13;have p247 : 0≤(0 : Int):=(by omega);have q247 : 0 < (t242.length : Int):=of_decide_eq_true (by first|(with_reducible assumption)|assumption);obtain ⟨ad247,e247,hx247_0,hx247_1,hx247_2,hx247_3⟩:=at_T23 (Kd.R_reads' HO244.out).2.2 0 p247 q247;cases e247;have qi247 : (0 < t242.length) = True:=eq_true (by omega);(try rw [show ((0 : Int)).toNat = 0 from rfl] at hx247_0);(try rw [show 0 * 4 = 0 from rfl] at hx247_0);(try rw [Addr.add_zero'] at hx247_0);(try rw [show ((0 : Int)).toNat = 0 from rfl] at hx247_1);(try rw [show 0 * 4 = 0 from rfl] at hx247_1);(try rw [Addr.add_zero'] at hx247_1);(try rw [show ((0 : Int)).toNat = 0 from rfl] at hx247_2);(try rw [show 0 * 4 = 0 from rfl] at hx247_2);(try rw [Addr.add_zero'] at hx247_2);(try rw [show ((0 : Int)).toNat = 0 from rfl] at hx247_3);(try rw [show 0 * 4 = 0 from rfl] at hx247_3);(try rw [Addr.add_zero'] at hx247_3);replace p247:=eq_true p247;replace q247:=eq_true q247;have p248 : 0≤(1 : Int):=(by omega);have q248 : 1 < (t242.length : Int):=of_decide_eq_true (by first|(with_reducible assumption)|assumption);obtain ⟨ad248,e248,hx248_0,hx248_1,hx248_2,hx248_3⟩:=at_T23 (Kd.R_reads' HO244.out).2.2 1 p248 q248;obtain rfl : ad247 = ad248:=(by injection e248);(try simp only [show (1 : Int).toNat = 1 from rfl,Nat.reduceMul,Nat.reduceEqDiff,Go.Addr.add,↓reduceIte] at hx248_0);(try simp only [show (1 : Int).toNat = 1 from rfl,Nat.reduceMul,Nat.reduceEqDiff,Go.Addr.add,↓reduceIte] at hx248_1);(try simp only [show (1 : Int).toNat = 1 from rfl,Nat.reduceMul,Nat.reduceEqDiff,Go.Addr.add,↓reduceIte] at hx248_2);(try simp only [show (1 : Int).toNat = 1 from rfl,Nat.reduceMul,Nat.reduceEqDiff,Go.Addr.add,↓reduceIte] at hx248_3);have qi248 : (1 < t242.length) = True:=eq_true (by omega);(try rw [show ((1 : Int)).toNat = 1 from rfl] at hx248_0);(try rw [show 1 * 4 = 4 from rfl] at hx248_0);(try rw [show ((1 : Int)).toNat = 1 from rfl] at hx248_1);(try rw [show 1 * 4 = 4 from rfl] at hx248_1);(try rw [show ((1 : Int)).toNat = 1 from rfl] at hx248_2);(try rw [show 1 * 4 = 4 from rfl] at hx248_2);(try rw [show ((1 : Int)).toNat = 1 from rfl] at hx248_3);(try rw [show 1 * 4 = 4 from rfl] at hx248_3);replace p248:=eq_true p248;replace q248:=eq_true q248;go_wp2;go_meet
       case rel=>exact ⟨_,(true),(by first|rfl|(simp;done)|(simp [*];done)),H',⟨by first|omega|exact Nat.le_refl _⟩,⟨by (with_reducible repeat (first|apply Kd.R_alloc|apply Kd.R_drewN|apply Kd.R_drew));exact Kd.R_mono HO244.out (fun _ hk=>trivial)⟩,⟨by repeat (first|(with_reducible first|exact HB.out|apply below_alloc|apply pw_below_drewN|apply below_drew1)|exact HB.out)⟩⟩
      ·
       rw [if_neg c12] at H;have c12b0 : (!(((rd_T23 t242 1).f0) == 2) || (!((((rd_T23 t242 1).f1).toList) == ([98,98,98,98] : List UInt8)) || (!(((rd_T23 t242 1).f2) == 2) || (!(((rd_T23 t242 1).f3) == 6))))) = false:=by simpa using c12
       clear c12;by_cases c14 : t245 = 2
       ·
        rw [if_pos c14] at H;have c14b0 : (t245 == 2) = true:=beq_iff_eq.mpr c14;have c14b1 : (t245 != 2) = false:=bne_eq_false_iff_eq.mpr c14;clear c14;have H':=Aside0.mk H;clear H;obtain ⟨Ao15,co15,eo15⟩:=Kd.R_slice HO244.out;subst eo15;have p247 : 0≤(0 : Int):=(by omega);have q247 : 0 < (t242.length : Int):=of_decide_eq_true (by first|(with_reducible assumption)|assumption);obtain ⟨ad247,e247,hx247_0,hx247_1,hx247_2,hx247_3⟩:=at_T23 (Kd.R_reads' HO244.out).2.2 0 p247 q247;cases e247;have qi247 : (0 < t242.length) = True:=eq_true (by omega);(try rw [show ((0 : Int)).toNat = 0 from rfl] at hx247_0);(try rw [show 0 * 4 = 0 from rfl] at hx247_0);(try rw [Addr.add_zero'] at hx247_0);(try rw [show ((0 : Int)).toNat = 0 from rfl] at hx247_1);(try rw [show 0 * 4 = 0 from rfl] at hx247_1);(try rw [Addr.add_zero'] at hx247_1);(try rw [show ((0 : Int)).toNat = 0 from rfl] at hx247_2);(try rw [show 0 * 4 = 0 from rfl] at hx247_2);(try rw [Addr.add_zero'] at hx247_2);(try rw [show ((0 : Int)).toNat = 0 from rfl] at hx247_3);(try rw [show 0 * 4 = 0 from rfl] at hx247_3);(try rw [Addr.add_zero'] at hx247_3);replace p247:=eq_true p247;replace q247:=eq_true q247;have p248 : 0≤(1 : Int):=(by omega);have q248 : 1 < (t242.length : Int):=of_decide_eq_true (by first|(with_reducible assumption)|assumption);obtain ⟨ad248,e248,hx248_0,hx248_1,hx248_2,hx248_3⟩:=at_T23 (Kd.R_reads' HO244.out).2.2 1 p248 q248;obtain rfl : ad247 = ad248:=(by injection e248);(try simp only [show (1 : Int).toNat = 1 from rfl,Nat.reduceMul,Nat.reduceEqDiff,Go.Addr.add,↓reduceIte] at hx248_0);(try simp only [show (1 : Int).toNat = 1 from rfl,Nat.reduceMul,Nat.reduceEqDiff,Go.Addr.add,↓reduceIte] at hx248_1);(try simp only [show (1 : Int).toNat = 1 from rfl,Nat.reduceMul,Nat.reduceEqDiff,Go.Addr.add,↓reduceIte] at hx248_2);(try simp only [show (1 : Int).toNat = 1 from rfl,Nat.reduceMul,Nat.reduceEqDiff,Go.Addr.add,↓reduceIte] at hx248_3);have qi248 : (1 < t242.length) = True:=eq_true (by omega);(try rw [show ((1 : Int)).toNat = 1 from rfl] at hx248_0);(try rw [show 1 * 4 = 4 from rfl] at hx248_0);(try rw [show ((1 : Int)).toNat = 1 from rfl] at hx248_1);(try rw [show 1 * 4 = 4 from rfl] at hx248_1);(try rw [show ((1 : Int)).toNat = 1 from rfl] at hx248_2);(try rw [show 1 * 4 = 4 from rfl] at hx248_2);(try rw [show ((1 : Int)).toNat = 1 from rfl] at hx248_3);(try rw [show 1 * 4 = 4 from rfl] at hx248_3);replace p248:=eq_true p248;replace q248:=eq_true q248;go_wp2;go_meet
        case rel=>exact ⟨_,((t246 != 0)),(by first|rfl|(simp;done)|(simp [*];done)),H',⟨by first|omega|exact Nat.le_refl _⟩,⟨by (with_reducible repeat (first|apply Kd.R_alloc|apply Kd.R_drewN|apply Kd.R_drew));exact Kd.R_mono HO244.out (fun _ hk=>trivial)⟩,⟨by repeat (first|(with_reducible first|exact HB.out|apply below_alloc|apply pw_below_drewN|apply below_drew1)|exact HB.out)⟩⟩
       ·
        rw [if_neg c14] at H;have c14b0 : (t245 == 2) = false:=beq_eq_false_iff_ne.mpr c14;have c14b1 : (t245 != 2) = true:=bne_iff_ne.mpr c14;have H':=Aside0.mk H;clear H;obtain ⟨Ao16,co16,eo16⟩:=Kd.R_slice HO244.out;subst eo16;have p247 : 0≤(0 : Int):=(by omega);have q247 : 0 < (t242.length : Int):=of_decide_eq_true (by first|(with_reducible assumption)|assumption);obtain ⟨ad247,e247,hx247_0,hx247_1,hx247_2,hx247_3⟩:=at_T23 (Kd.R_reads' HO244.out).2.2 0 p247 q247;cases e247;have qi247 : (0 < t242.length) = True:=eq_true (by omega);(try rw [show ((0 : Int)).toNat = 0 from rfl] at hx247_0);(try rw [show 0 * 4 = 0 from rfl] at hx247_0);(try rw [Addr.add_zero'] at hx247_0);(try rw [show ((0 : Int)).toNat = 0 from rfl] at hx247_1);(try rw [show 0 * 4 = 0 from rfl] at hx247_1);(try rw [Addr.add_zero'] at hx247_1);(try rw [show ((0 : Int)).toNat = 0 from rfl] at hx247_2);(try rw [show 0 * 4 = 0 from rfl] at hx247_2);(try rw [Addr.add_zero'] at hx247_2);(try rw [show ((0 : Int)).toNat = 0 from rfl] at hx247_3);(try rw [show 0 * 4 = 0 from rfl] at hx247_3);(try rw [Addr.add_zero'] at hx247_3);replace p247:=eq_true p247;replace q247:=eq_true q247;have p248 : 0≤(1 : Int):=(by omega);have q248 : 1 < (t242.length : Int):=of_decide_eq_true (by first|(with_reducible assumption)|assumption);obtain ⟨ad248,e248,hx248_0,hx248_1,hx248_2,hx248_3⟩:=at_T23 (Kd.R_reads' HO244.out).2.2 1 p248 q248;obtain rfl : ad247 = ad248:=(by injection e248);(try simp only [show (1 : Int).toNat = 1 from rfl,Nat.reduceMul,Nat.reduceEqDiff,Go.Addr.add,↓reduceIte] at hx248_0);(try simp only [show (1 : Int).toNat = 1 from rfl,Nat.reduceMul,Nat.reduceEqDiff,Go.Addr.add,↓reduceIte] at hx248_1);(try simp only [show (1 : Int).toNat = 1 from rfl,Nat.reduceMul,Nat.reduceEqDiff,Go.Addr.add,↓reduceIte] at hx248_2);(try simp only [show (1 : Int).toNat = 1 from rfl,Nat.reduceMul,Nat.reduceEqDiff,Go.Addr.add,↓reduceIte] at hx248_3);have qi248 : (1 < t242.length) = True:=eq_true (by omega);(try rw [show ((1 : Int)).toNat = 1 from rfl] at hx248_0);(try rw [show 1 * 4 = 4 from rfl] at hx248_0);(try rw [show ((1 : Int)).toNat = 1 from rfl] at hx248_1);(try rw [show 1 * 4 = 4 from rfl] at hx248_1);(try rw [show ((1 : Int)).toNat = 1 from rfl] at hx248_2);(try rw [show 1 * 4 = 4 from rfl] at hx248_2);(try rw [show ((1 : Int)).toNat = 1 from rfl] at hx248_3);(try rw [show 1 * 4 = 4 from rfl] at hx248_3);replace p248:=eq_true p248;replace q248:=eq_true q248;go_wp2;go_meet
        case rel=>exact ⟨_,(true),(by first|rfl|(simp;done)|(simp [*];done)),H',⟨by first|omega|exact Nat.le_refl _⟩,⟨by (with_reducible repeat (first|apply Kd.R_alloc|apply Kd.R_drewN|apply Kd.R_drew));exact Kd.R_mono HO244.out (fun _ hk=>trivial)⟩,⟨by repeat (first|(with_reducible first|exact HB.out|apply below_alloc|apply pw_below_drewN|apply below_drew1)|exact HB.out)⟩⟩
     ·
      rw [if_neg c11] at H;exact absurd H (by simp)
   ·
    rw [if_neg c8] at H;exact absurd H (by simp)
  ·
   rw [if_neg c7] at H;have c7b0 : ((t242.length : Int) == 2) = false:=beq_eq_false_iff_ne.mpr c7;have c7b1 : ((t242.length : Int) != 2) = true:=bne_iff_ne.mpr c7;(first|rw [c7b0]|(simp only [i64_w,i32_w];rw [c7b0])|skip)
   have H':=Aside0.mk H;clear H;obtain ⟨Ao17,co17,eo17⟩:=Kd.R_slice HO244.out;subst eo17;go_wp2;go_meet
   case rel=>exact ⟨_,(true),(by first|rfl|(simp;done)|(simp [*];done)),H',⟨by first|omega|exact Nat.le_refl _⟩,⟨by (with_reducible repeat (first|apply Kd.R_alloc|apply Kd.R_drewN|apply Kd.R_drew));exact Kd.R_mono HO244.out (fun _ hk=>trivial)⟩,⟨by repeat (first|(with_reducible first|exact HB.out|apply below_alloc|apply pw_below_drewN|apply below_drew1)|exact HB.out)⟩⟩
 case rest=>
  clear HC2;(try clear c1);(try clear p2);(try clear q2);(try clear hx2);(try clear qi2);(try clear c4);(try clear c7);(try clear c7b0);(try clear c7b1);(try clear c8);(try clear c8b0);(try clear c8b1);(try clear c9);(try clear c9b0);(try clear c11);(try clear c11b0);(try clear c11b1);(try clear c12);(try clear c12b0);(try clear c14);(try clear c14b0);(try clear c14b1);(try clear c15);(try clear hx247_0);(try clear hx247_1);(try clear hx247_2);(try clear hx247_3);(try clear hx248_0);(try clear hx248_1);(try clear hx248_2);(try clear hx248_3);(try clear p247);(try clear p248);(try clear q247);(try clear q248);obtain ⟨kq,x38_1,rfl,HA,HJ1,HO_1,HB⟩:=hcut;cases kq with
  | zero=>exact absurd HA.out (by simp [intrusionlaw15_lives.j0])
  | succ kj1=>
   have H:=HA.out;clear HA;simp only [intrusionlaw15_lives.j0] at H;by_cases c18 : x38_1 = true
   ·
    subst c18;have H1 : (some false) = some r:=by rw [if_pos rfl] at H;exact H
    clear H;have H:=H1;clear H1;obtain rfl:=Option.some.inj H;go_wp2;go_ret;exact ⟨by first|rfl|(simp [errW_none,errW_some] <;> rfl)|(simp [*,errW_none,errW_some] <;> rfl),by repeat (first|(with_reducible first|exact HB.out|apply below_alloc|apply pw_below_drewN|apply below_drew1)|exact HB.out)⟩
   ·
    replace c18:=Bool.eq_false_iff.mpr c18;subst c18;have H1 : ((overlap_Take.f kj1 t242 1).bind fun bt249=>(if bt249.1.toList = ([97,98,98,98,98] : List UInt8) then (if (bt249.2.length : Int) = 0 then ((overlap_Size.f kj1 t242).bind fun t253=>(if t253 = 6 then ((overlap_Valid.f kj1 t242).bind fun t254=>(if t254 = true then (if 0 < (t242.length : Int) then (if 1 < (t242.length : Int) then ((overlap_Wins.f 3 ((rd_T23 t242 0).f0) ((rd_T23 t242 0).f1) ((rd_T23 t242 0).f2) ((rd_T23 t242 0).f3) ((rd_T23 t242 1).f0) ((rd_T23 t242 1).f1) ((rd_T23 t242 1).f2) ((rd_T23 t242 1).f3)).bind fun t257=>(if t257 = true then (some false) else ((overlap_Wins.f 3 ((rd_T23 t242 1).f0) ((rd_T23 t242 1).f1) ((rd_T23 t242 1).f2) ((rd_T23 t242 1).f3) ((rd_T23 t242 0).f0) ((rd_T23 t242 0).f1) ((rd_T23 t242 0).f2) ((rd_T23 t242 0).f3)).bind fun t260=>(some t260)))) else (none)) else (none)) else (some false))) else (some false))) else (some false)) else (some false))) = some r:=by rw [if_neg (show ¬ (false = true) by decide)] at H;exact H
    clear H;have H:=H1;clear H1;replace H:=Option.bind_eq_some_iff.mp H;obtain ⟨⟨t249,t250⟩,A190,H⟩:=H;replace H : (if t249.toList = ([97,98,98,98,98] : List UInt8) then (if (t250.length : Int) = 0 then ((overlap_Size.f kj1 t242).bind fun t253=>(if t253 = 6 then ((overlap_Valid.f kj1 t242).bind fun t254=>(if t254 = true then (if 0 < (t242.length : Int) then (if 1 < (t242.length : Int) then ((overlap_Wins.f 3 ((rd_T23 t242 0).f0) ((rd_T23 t242 0).f1) ((rd_T23 t242 0).f2) ((rd_T23 t242 0).f3) ((rd_T23 t242 1).f0) ((rd_T23 t242 1).f1) ((rd_T23 t242 1).f2) ((rd_T23 t242 1).f3)).bind fun t257=>(if t257 = true then (some false) else ((overlap_Wins.f 3 ((rd_T23 t242 1).f0) ((rd_T23 t242 1).f1) ((rd_T23 t242 1).f2) ((rd_T23 t242 1).f3) ((rd_T23 t242 0).f0) ((rd_T23 t242 0).f1) ((rd_T23 t242 0).f2) ((rd_T23 t242 0).f3)).bind fun t260=>(some t260)))) else (none)) else (none)) else (some false))) else (some false))) else (some false)) else (some false)) = some r:=H;have A19:=Aside0.mk A190;clear A190;by_cases c20 : t249.toList = ([97,98,98,98,98] : List UInt8)
    ·
     rw [if_pos c20] at H;have c20b0 : (t249.toList == ([97,98,98,98,98] : List UInt8)) = true:=beq_iff_eq.mpr c20;have c20b1 : (t249.toList != ([97,98,98,98,98] : List UInt8)) = false:=bne_eq_false_iff_eq.mpr c20;clear c20;by_cases c21 : (t250.length : Int) = 0
     ·
      rw [if_pos c21] at H;have c21b0 : ((t250.length : Int) == 0) = true:=beq_iff_eq.mpr c21;have c21b1 : ((t250.length : Int) != 0) = false:=bne_eq_false_iff_eq.mpr c21;clear c21;replace H:=Option.bind_eq_some_iff.mp H;obtain ⟨t253,A220,H⟩:=H;replace H : (if t253 = 6 then ((overlap_Valid.f kj1 t242).bind fun t254=>(if t254 = true then (if 0 < (t242.length : Int) then (if 1 < (t242.length : Int) then ((overlap_Wins.f 3 ((rd_T23 t242 0).f0) ((rd_T23 t242 0).f1) ((rd_T23 t242 0).f2) ((rd_T23 t242 0).f3) ((rd_T23 t242 1).f0) ((rd_T23 t242 1).f1) ((rd_T23 t242 1).f2) ((rd_T23 t242 1).f3)).bind fun t257=>(if t257 = true then (some false) else ((overlap_Wins.f 3 ((rd_T23 t242 1).f0) ((rd_T23 t242 1).f1) ((rd_T23 t242 1).f2) ((rd_T23 t242 1).f3) ((rd_T23 t242 0).f0) ((rd_T23 t242 0).f1) ((rd_T23 t242 0).f2) ((rd_T23 t242 0).f3)).bind fun t260=>(some t260)))) else (none)) else (none)) else (some false))) else (some false)) = some r:=H;have A22:=Aside0.mk A220;clear A220;by_cases c23 : t253 = 6
      ·
       rw [if_pos c23] at H;have c23b0 : (t253 == 6) = true:=beq_iff_eq.mpr c23;have c23b1 : (t253 != 6) = false:=bne_eq_false_iff_eq.mpr c23;clear c23;replace H:=Option.bind_eq_some_iff.mp H;obtain ⟨t254,A240,H⟩:=H;replace H : (if t254 = true then (if 0 < (t242.length : Int) then (if 1 < (t242.length : Int) then ((overlap_Wins.f 3 ((rd_T23 t242 0).f0) ((rd_T23 t242 0).f1) ((rd_T23 t242 0).f2) ((rd_T23 t242 0).f3) ((rd_T23 t242 1).f0) ((rd_T23 t242 1).f1) ((rd_T23 t242 1).f2) ((rd_T23 t242 1).f3)).bind fun t257=>(if t257 = true then (some false) else ((overlap_Wins.f 3 ((rd_T23 t242 1).f0) ((rd_T23 t242 1).f1) ((rd_T23 t242 1).f2) ((rd_T23 t242 1).f3) ((rd_T23 t242 0).f0) ((rd_T23 t242 0).f1) ((rd_T23 t242 0).f2) ((rd_T23 t242 0).f3)).bind fun t260=>(some t260)))) else (none)) else (none)) else (some false)) = some r:=H;have A24:=Aside0.mk A240;clear A240;by_cases c25 : t254 = true
       ·
        subst c25;have H1 : (if 0 < (t242.length : Int) then (if 1 < (t242.length : Int) then ((overlap_Wins.f 3 ((rd_T23 t242 0).f0) ((rd_T23 t242 0).f1) ((rd_T23 t242 0).f2) ((rd_T23 t242 0).f3) ((rd_T23 t242 1).f0) ((rd_T23 t242 1).f1) ((rd_T23 t242 1).f2) ((rd_T23 t242 1).f3)).bind fun t257=>(if t257 = true then (some false) else ((overlap_Wins.f 3 ((rd_T23 t242 1).f0) ((rd_T23 t242 1).f1) ((rd_T23 t242 1).f2) ((rd_T23 t242 1).f3) ((rd_T23 t242 0).f0) ((rd_T23 t242 0).f1) ((rd_T23 t242 0).f2) ((rd_T23 t242 0).f3)).bind fun t260=>(some t260)))) else (none)) else (none)) = some r:=by rw [if_pos rfl] at H;exact H
        clear H;have H:=H1;clear H1;by_cases c26 : 0 < (t242.length : Int)
        ·
         rw [if_pos c26] at H;have c26b0 : decide (0 < (t242.length : Int)) = true:=decide_eq_true c26;have c26b1 : decide (0 < t242.length) = true:=decide_eq_true (by omega);clear c26;by_cases c27 : 1 < (t242.length : Int)
         ·
          rw [if_pos c27] at H;have c27b0 : decide (1 < (t242.length : Int)) = true:=decide_eq_true c27;have c27b1 : decide (1 < t242.length) = true:=decide_eq_true (by omega);clear c27;replace H:=Option.bind_eq_some_iff.mp H;obtain ⟨t257,A280,H⟩:=H;replace H : (if t257 = true then (some false) else ((overlap_Wins.f 3 ((rd_T23 t242 1).f0) ((rd_T23 t242 1).f1) ((rd_T23 t242 1).f2) ((rd_T23 t242 1).f3) ((rd_T23 t242 0).f0) ((rd_T23 t242 0).f1) ((rd_T23 t242 0).f2) ((rd_T23 t242 0).f3)).bind fun t260=>(some t260))) = some r:=H;have A28:=Aside0.mk A280;clear A280;by_cases c29 : t257 = true
          ·
           subst c29;have H1 : (some false) = some r:=by rw [if_pos rfl] at H;exact H
           clear H;have H:=H1;clear H1;obtain rfl:=Option.some.inj H;obtain ⟨Ao30,co30,eo30⟩:=Kd.R_slice HO_1.out;subst eo30;try go_wp2_with (first|((with_reducible refine gate_callee (f:=19) rfl ?_);refine goesL_ (some 41) rfl rfl Try.func19 (by kernel_rfl) rfl #[.slice Ao30 t242.length co30,.int .i64 1] rfl (by (try simp only [List.map_toArray,List.map_cons,List.map_nil]);first|done|rfl|(simp only [List.length_drop,List.length_take];rfl)) ?_;(with_reducible refine (overlap_Take.calls kj1 _ _ t242 1 t249 t250 _ ?side1 ?side2 A19.out).mono ?_);(case side1=>repeat (first|exact (Kd.R_reads' HO_1.out).2.2|(with_reducible refine Kd.C_alloc ?_ _)|(with_reducible refine Kd.C_drewN ?_ _)|(with_reducible refine Kd.C_drew ?_)));(case side2=>exact (Kd.R_reads' HO_1.out).2.1);rintro e w31 ⟨v251,rfl,ho0,hb⟩;refine ⟨_,rfl,?_⟩;have n0_:=Aside0.mk (Kd.R_elder' (by (with_reducible repeat (first|apply Kd.R_alloc|apply Kd.R_drewN|apply Kd.R_drew));exact HO_1.out) (Kd.R_base ho0) hb);have n1_:=Aside0.mk (Kd.R_lower (Kd.R_new' ho0 (Kd.R_lt (by (with_reducible repeat (first|apply Kd.R_alloc|apply Kd.R_drewN|apply Kd.R_drew));exact HO_1.out))) (below_size (by repeat (first|(with_reducible first|exact HB.out|apply below_alloc|apply pw_below_drewN|apply below_drew1)|exact HB.out))));have n2_:=Aside0.mk (below_step (by repeat (first|(with_reducible first|exact HB.out|apply below_alloc|apply pw_below_drewN|apply below_drew1)|exact HB.out)) hb);clear HO_1;clear HB;have HO_1:=n0_;have HO252:=n1_;have HB:=n2_;clear n0_ n1_ n2_;(try clear hb);(try clear hb2);(try clear hk);(try clear hi);(try clear ho0)))
           have n0_:=Aside0.mk (Kd.R_drew HO_1.out);have n1_:=Aside0.mk (Kd.R_drew HO252.out);have n2_:=Aside0.mk (below_drew1 HB.out);clear HO_1;clear HO252;clear HB;have HO_1:=n0_;have HO252:=n1_;have HB:=n2_;clear n0_ n1_ n2_;obtain ⟨Ao33,co33,eo33⟩:=Kd.R_slice HO252.out;(first|subst eo33|(injection eo33 with f1_ f2_ f3_;have f4_:=f1_.symm;have f5_:=f3_.symm;clear f1_ f2_ f3_;subst f4_;subst f5_))
           have p255 : 0≤(0 : Int):=(by omega);have q255 : 0 < (t242.length : Int):=of_decide_eq_true (by first|(with_reducible assumption)|assumption);obtain ⟨ad255,e255,hx255_0,hx255_1,hx255_2,hx255_3⟩:=at_T23 (Kd.R_reads' HO_1.out).2.2 0 p255 q255;cases e255;have qi255 : (0 < t242.length) = True:=eq_true (by omega);(try rw [show ((0 : Int)).toNat = 0 from rfl] at hx255_0);(try rw [show 0 * 4 = 0 from rfl] at hx255_0);(try rw [Addr.add_zero'] at hx255_0);(try rw [show ((0 : Int)).toNat = 0 from rfl] at hx255_1);(try rw [show 0 * 4 = 0 from rfl] at hx255_1);(try rw [Addr.add_zero'] at hx255_1);(try rw [show ((0 : Int)).toNat = 0 from rfl] at hx255_2);(try rw [show 0 * 4 = 0 from rfl] at hx255_2);(try rw [Addr.add_zero'] at hx255_2);(try rw [show ((0 : Int)).toNat = 0 from rfl] at hx255_3);(try rw [show 0 * 4 = 0 from rfl] at hx255_3);(try rw [Addr.add_zero'] at hx255_3);replace p255:=eq_true p255;replace q255:=eq_true q255;have p256 : 0≤(1 : Int):=(by omega);have q256 : 1 < (t242.length : Int):=of_decide_eq_true (by first|(with_reducible assumption)|assumption);obtain ⟨ad256,e256,hx256_0,hx256_1,hx256_2,hx256_3⟩:=at_T23 (Kd.R_reads' HO_1.out).2.2 1 p256 q256;obtain rfl : ad255 = ad256:=(by injection e256);(try simp only [show (1 : Int).toNat = 1 from rfl,Nat.reduceMul,Nat.reduceEqDiff,Go.Addr.add,↓reduceIte] at hx256_0);(try simp only [show (1 : Int).toNat = 1 from rfl,Nat.reduceMul,Nat.reduceEqDiff,Go.Addr.add,↓reduceIte] at hx256_1);(try simp only [show (1 : Int).toNat = 1 from rfl,Nat.reduceMul,Nat.reduceEqDiff,Go.Addr.add,↓reduceIte] at hx256_2);(try simp only [show (1 : Int).toNat = 1 from rfl,Nat.reduceMul,Nat.reduceEqDiff,Go.Addr.add,↓reduceIte] at hx256_3);have qi256 : (1 < t242.length) = True:=eq_true (by omega);(try rw [show ((1 : Int)).toNat = 1 from rfl] at hx256_0);(try rw [show 1 * 4 = 4 from rfl] at hx256_0);(try rw [show ((1 : Int)).toNat = 1 from rfl] at hx256_1);(try rw [show 1 * 4 = 4 from rfl] at hx256_1);(try rw [show ((1 : Int)).toNat = 1 from rfl] at hx256_2);(try rw [show 1 * 4 = 4 from rfl] at hx256_2);(try rw [show ((1 : Int)).toNat = 1 from rfl] at hx256_3);(try rw [show 1 * 4 = 4 from rfl] at hx256_3);replace p256:=eq_true p256;replace q256:=eq_true q256;refine start_ (n:=36) (S:=fun w'=>w'.cell? ad255 = some (.int .i64 ((rd_T23 t242 0).f0))∧w'.cell? ⟨ad255.block,ad255.off + 1,none⟩ = some (.string ((rd_T23 t242 0).f1))∧w'.cell? ⟨ad255.block,ad255.off + 2,none⟩ = some (.int .i64 ((rd_T23 t242 0).f2))∧w'.cell? ⟨ad255.block,ad255.off + 3,none⟩ = some (.int .i64 ((rd_T23 t242 0).f3))∧w'.cell? ⟨ad255.block,ad255.off + 4,none⟩ = some (.int .i64 ((rd_T23 t242 1).f0))∧w'.cell? ⟨ad255.block,ad255.off + 4 + 1,none⟩ = some (.string ((rd_T23 t242 1).f1))∧w'.cell? ⟨ad255.block,ad255.off + 4 + 2,none⟩ = some (.int .i64 ((rd_T23 t242 1).f2))∧w'.cell? ⟨ad255.block,ad255.off + 4 + 3,none⟩ = some (.int .i64 ((rd_T23 t242 1).f3))) (ds:=[]) (lb 36 0) (by kernel_rfl) rfl (by kernel_rfl) ⟨hx255_0,hx255_1,hx255_2,hx255_3,hx256_0,hx256_1,hx256_2,hx256_3⟩ (fun hHeld=>?_);refine with_tabW intrusionlaw15_lives.tab5 intrusionlaw15_lives.bits5 (fun HT_ HW_=>?_)
           generalize w31.drew = w32 at HO_1 HO252 HB hx255_0 hx255_1 hx255_2 hx255_3 hx256_0 hx256_1 hx256_2 hx256_3 hHeld ⊢;refine pure_ (i:=0) (N:=some 44) (v:=?_) (a':=?_) (lb 36 1) rfl rfl (any_of HT_.out (by kernel_rfl)) (fun _ _ _ h=>h) (Or.inl ⟨by rfl,?_⟩) ?_ ?_;rotate_left
           ·
            intro w';go_simp;with_reducible rfl
           rotate_left
           ·
            simp only [Act.put,sqa,sqb,sqc,i64_w,i32_w];rfl
           refine pure_ (i:=1) (N:=some 45) (v:=?_) (a':=?_) (lb 36 3) rfl rfl (any_of HT_.out (by kernel_rfl)) (fun _ _ _ h=>h) (Or.inl ⟨by rfl,?_⟩) ?_ ?_;rotate_left
           ·
            intro w';go_simp;with_reducible rfl
           rotate_left
           ·
            simp only [Act.put,sqa,sqb,sqc,i64_w,i32_w];rfl
           refine pure_ (i:=2) (N:=some 46) (v:=?_) (a':=?_) (lb 36 7) rfl rfl (any_of HT_.out (by kernel_rfl)) (fun _ _ _ h=>h) (Or.inl ⟨by rfl,?_⟩) ?_ ?_;rotate_left
           ·
            intro w';go_simp;with_reducible rfl
           rotate_left
           ·
            simp only [Act.put,sqa,sqb,sqc,i64_w,i32_w];rfl
           refine pure_ (i:=3) (N:=some 47) (v:=?_) (a':=?_) (lb 36 15) rfl rfl (any_of HT_.out (by kernel_rfl)) (fun _ _ _ h=>h) (Or.inl ⟨by rfl,?_⟩) ?_ ?_;rotate_left
           ·
            intro w';go_simp;with_reducible rfl
           rotate_left
           ·
            simp only [Act.put,sqa,sqb,sqc,i64_w,i32_w];rfl
           refine pure_ (i:=4) (N:=some 48) (v:=?_) (a':=?_) (lb 36 31) rfl rfl (any_of HT_.out (by kernel_rfl)) (fun _ _ _ h=>h) (Or.inl ⟨by rfl,?_⟩) ?_ ?_;rotate_left
           ·
            intro w';go_simp;with_reducible rfl
           rotate_left
           ·
            simp only [Act.put,sqa,sqb,sqc,i64_w,i32_w];rfl
           refine pure_ (i:=5) (N:=some 49) (v:=?_) (a':=?_) (lb 36 63) rfl rfl (any_of HT_.out (by kernel_rfl)) (fun _ _ _ h=>h) (Or.inl ⟨by rfl,?_⟩) ?_ ?_;rotate_left
           ·
            intro w';go_simp;with_reducible rfl
           rotate_left
           ·
            simp only [Act.put,sqa,sqb,sqc,i64_w,i32_w];rfl
           refine pure_ (i:=6) (N:=some 50) (v:=?_) (a':=?_) (lb 36 127) rfl rfl (any_of HT_.out (by kernel_rfl)) (fun _ _ _ h=>h) (Or.inl ⟨by rfl,?_⟩) ?_ ?_;rotate_left
           ·
            intro w';go_simp;with_reducible rfl
           rotate_left
           ·
            simp only [Act.put,sqa,sqb,sqc,i64_w,i32_w];rfl
           refine pure_ (i:=7) (N:=some 51) (v:=?_) (a':=?_) (lb 36 255) rfl rfl (any_of HT_.out (by kernel_rfl)) (fun _ _ _ h=>h) (Or.inl ⟨by rfl,?_⟩) ?_ ?_;rotate_left
           ·
            intro w';go_simp;with_reducible rfl
           rotate_left
           ·
            simp only [Act.put,sqa,sqb,sqc,i64_w,i32_w];rfl
           refine pure_ (i:=8) (N:=some 52) (v:=?_) (a':=?_) (lb 36 511) rfl rfl (any_of HT_.out (by kernel_rfl)) (fun _ _ _ h=>h) (Or.inl ⟨by rfl,?_⟩) ?_ ?_;rotate_left
           ·
            intro w';go_simp;with_reducible rfl
           rotate_left
           ·
            simp only [Act.put,sqa,sqb,sqc,i64_w,i32_w];rfl
           refine one_ (i:=9) (N:=some 53) (lb 36 1023) rfl rfl (one_of HT_.out (by kernel_rfl)) (by decide) (fun K hK=>?_);refine goes_ Try.func23 (by kernel_rfl) rfl #[.slice (some ad255) t242.length co30] (by rfl) rfl rfl (by (try simp only [List.map_toArray,List.map_cons,List.map_nil]);first|done|rfl|(simp only [List.length_drop,List.length_take];rfl)) ?_;with_reducible refine (overlap_Size.calls kj1 _ _ t242 t253 _ ?side1 ?side2 A22.out).mono ?_
           (case side1=>repeat (first|exact (Kd.R_reads' HO_1.out).2.2|(with_reducible refine Kd.C_alloc ?_ _)|(with_reducible refine Kd.C_drewN ?_ _)|(with_reducible refine Kd.C_drew ?_)))
           (case side2=>exact (Kd.R_reads' HO_1.out).2.1)
           rintro e w34 ⟨rfl,hb⟩;have HS0_:=(hb.cell (World.block_lt_of_cell? _ _ (hHeld.1))).trans (hHeld.1);have HS1_:=(hb.cell (World.block_lt_of_cell? _ _ (hHeld.2.1))).trans (hHeld.2.1);have HS2_:=(hb.cell (World.block_lt_of_cell? _ _ (hHeld.2.2.1))).trans (hHeld.2.2.1);have HS3_:=(hb.cell (World.block_lt_of_cell? _ _ (hHeld.2.2.2.1))).trans (hHeld.2.2.2.1);have HS4_:=(hb.cell (World.block_lt_of_cell? _ _ (hHeld.2.2.2.2.1))).trans (hHeld.2.2.2.2.1);have HS5_:=(hb.cell (World.block_lt_of_cell? _ _ (hHeld.2.2.2.2.2.1))).trans (hHeld.2.2.2.2.2.1);have HS6_:=(hb.cell (World.block_lt_of_cell? _ _ (hHeld.2.2.2.2.2.2.1))).trans (hHeld.2.2.2.2.2.2.1);have HS7_:=(hb.cell (World.block_lt_of_cell? _ _ (hHeld.2.2.2.2.2.2.2))).trans (hHeld.2.2.2.2.2.2.2);refine ⟨_,rfl,?_⟩;have n0_:=Aside0.mk (Kd.R_below (by (with_reducible repeat (first|apply Kd.R_alloc|apply Kd.R_drewN|apply Kd.R_drew));exact HO_1.out) hb);have n1_:=Aside0.mk (Kd.R_below (by (with_reducible repeat (first|apply Kd.R_alloc|apply Kd.R_drewN|apply Kd.R_drew));exact HO252.out) hb);have n2_:=Aside0.mk (below_step (by repeat (first|(with_reducible first|exact HB.out|apply below_alloc|apply pw_below_drewN|apply below_drew1)|exact HB.out)) hb);clear HO_1;clear HO252;clear HB;have HO_1:=n0_;have HO252:=n1_;have HB:=n2_;clear n0_ n1_ n2_;(try clear hb);(try clear hb2);(try clear hk);(try clear hi);refine hK.out _ _ ⟨HS0_,HS1_,HS2_,HS3_,HS4_,HS5_,HS6_,HS7_⟩ (fun hHeld=>?_);clear hK K;refine norm_ (a':=?_) ?_ ?_;rotate_left
           ·
            show Act.put _ (some 53) _ = _
            simp only [Act.put,sqa,sqb,sqc,i64_w,i32_w];rfl
           refine pure_ (i:=10) (N:=some 54) (v:=?_) (a':=?_) (lb 36 2047) rfl rfl (any_of HT_.out (by kernel_rfl)) (fun _ _ _ h=>h) (Or.inl ⟨by rfl,?_⟩) ?_ ?_;rotate_left
           ·
            intro w';go_simp;with_reducible rfl
           rotate_left
           ·
            simp only [Act.put,sqa,sqb,sqc,i64_w,i32_w];rfl
           refine pure_ (i:=11) (N:=some 55) (v:=?_) (a':=?_) (lb 36 4095) rfl rfl (any_of HT_.out (by kernel_rfl)) (fun _ _ _ h=>h) (Or.inl ⟨by rfl,?_⟩) ?_ ?_;rotate_left
           ·
            intro w';go_simp;with_reducible rfl
           rotate_left
           ·
            simp only [Act.put,sqa,sqb,sqc,i64_w,i32_w];rfl
           refine pure_ (i:=12) (N:=some 56) (v:=?_) (a':=?_) (lb 36 8191) rfl rfl (any_of HT_.out (by kernel_rfl)) (fun _ _ _ h=>h) (Or.inl ⟨by rfl,?_⟩) ?_ ?_;rotate_left
           ·
            intro w';go_simp;with_reducible rfl
           rotate_left
           ·
            simp only [Act.put,sqa,sqb,sqc,i64_w,i32_w];rfl
           refine pure_ (i:=13) (N:=some 57) (v:=?_) (a':=?_) (lb 36 16383) rfl rfl (any_of HT_.out (by kernel_rfl)) (fun _ _ _ h=>h) (Or.inl ⟨by rfl,?_⟩) ?_ ?_;rotate_left
           ·
            intro w';go_simp;with_reducible rfl
           rotate_left
           ·
            simp only [Act.put,sqa,sqb,sqc,i64_w,i32_w];rfl
           refine one_ (i:=14) (N:=some 58) (lb 36 32767) rfl rfl (one_of HT_.out (by kernel_rfl)) (by decide) (fun K hK=>?_);refine goes_ Try.func18 (by kernel_rfl) rfl #[.slice (some ad255) t242.length co30] (by rfl) rfl rfl (by (try simp only [List.map_toArray,List.map_cons,List.map_nil]);first|done|rfl|(simp only [List.length_drop,List.length_take];rfl)) ?_;with_reducible refine (overlap_Valid.calls kj1 _ _ t242 true _ ?side1 ?side2 A24.out).mono ?_
           (case side1=>repeat (first|exact (Kd.R_reads' HO_1.out).2.2|(with_reducible refine Kd.C_alloc ?_ _)|(with_reducible refine Kd.C_drewN ?_ _)|(with_reducible refine Kd.C_drew ?_)))
           (case side2=>exact (Kd.R_reads' HO_1.out).2.1)
           rintro e w35 ⟨rfl,hb⟩;have HS0_:=(hb.cell (World.block_lt_of_cell? _ _ (hHeld.1))).trans (hHeld.1);have HS1_:=(hb.cell (World.block_lt_of_cell? _ _ (hHeld.2.1))).trans (hHeld.2.1);have HS2_:=(hb.cell (World.block_lt_of_cell? _ _ (hHeld.2.2.1))).trans (hHeld.2.2.1);have HS3_:=(hb.cell (World.block_lt_of_cell? _ _ (hHeld.2.2.2.1))).trans (hHeld.2.2.2.1);have HS4_:=(hb.cell (World.block_lt_of_cell? _ _ (hHeld.2.2.2.2.1))).trans (hHeld.2.2.2.2.1);have HS5_:=(hb.cell (World.block_lt_of_cell? _ _ (hHeld.2.2.2.2.2.1))).trans (hHeld.2.2.2.2.2.1);have HS6_:=(hb.cell (World.block_lt_of_cell? _ _ (hHeld.2.2.2.2.2.2.1))).trans (hHeld.2.2.2.2.2.2.1);have HS7_:=(hb.cell (World.block_lt_of_cell? _ _ (hHeld.2.2.2.2.2.2.2))).trans (hHeld.2.2.2.2.2.2.2);refine ⟨_,rfl,?_⟩;have n0_:=Aside0.mk (Kd.R_below (by (with_reducible repeat (first|apply Kd.R_alloc|apply Kd.R_drewN|apply Kd.R_drew));exact HO_1.out) hb);have n1_:=Aside0.mk (Kd.R_below (by (with_reducible repeat (first|apply Kd.R_alloc|apply Kd.R_drewN|apply Kd.R_drew));exact HO252.out) hb);have n2_:=Aside0.mk (below_step (by repeat (first|(with_reducible first|exact HB.out|apply below_alloc|apply pw_below_drewN|apply below_drew1)|exact HB.out)) hb);clear HO_1;clear HO252;clear HB;have HO_1:=n0_;have HO252:=n1_;have HB:=n2_;clear n0_ n1_ n2_;(try clear hb);(try clear hb2);(try clear hk);(try clear hi);refine hK.out _ _ ⟨HS0_,HS1_,HS2_,HS3_,HS4_,HS5_,HS6_,HS7_⟩ (fun hHeld=>?_);clear hK K;refine norm_ (a':=?_) ?_ ?_;rotate_left
           ·
            show Act.put _ (some 58) _ = _
            simp only [Act.put,sqa,sqb,sqc,i64_w,i32_w];rfl
           refine pure_ (i:=15) (N:=some 59) (v:=?_) (a':=?_) (lb 36 65535) rfl rfl (any_of HT_.out (by kernel_rfl)) (fun _ _ _ h=>h) (Or.inl ⟨by rfl,?_⟩) ?_ ?_;rotate_left
           ·
            intro w';go_simp;with_reducible rfl
           rotate_left
           ·
            simp only [Act.put,sqa,sqb,sqc,i64_w,i32_w];rfl
           refine pure_ (i:=16) (N:=some 60) (v:=?_) (a':=?_) (lb 36 131071) rfl rfl (any_of HT_.out (by kernel_rfl)) (fun _ _ _ h=>h) (Or.inl ⟨by rfl,?_⟩) ?_ ?_;rotate_left
           ·
            intro w';go_simp;with_reducible rfl
           rotate_left
           ·
            simp only [Act.put,sqa,sqb,sqc,i64_w,i32_w];rfl
           refine pure_ (i:=17) (N:=some 61) (v:=?_) (a':=?_) (lb 36 262143) rfl rfl (any_of HT_.out (by kernel_rfl)) (fun _ _ _ h=>h) (Or.inl ⟨by rfl,?_⟩) ?_ ?_;rotate_left
           ·
            intro w';go_simp;with_reducible rfl
           rotate_left
           ·
            simp only [Act.put,sqa,sqb,sqc,i64_w,i32_w];rfl
           refine pure_ (i:=18) (N:=some 62) (v:=?_) (a':=?_) (lb 36 524287) rfl rfl (any_of HT_.out (by kernel_rfl)) (fun _ _ _ h=>h) (Or.inl ⟨by rfl,?_⟩) ?_ ?_;rotate_left
           ·
            intro w';go_simp;with_reducible rfl
           rotate_left
           ·
            simp only [Act.put,sqa,sqb,sqc,i64_w,i32_w];rfl
           refine pure_ (i:=20) (N:=some 64) (v:=?_) (a':=?_) (lb 36 1572863) rfl rfl (any_of HT_.out (by kernel_rfl)) (fun _ _ _ h=>h) (Or.inl ⟨by rfl,?_⟩) ?_ ?_;rotate_left
           ·
            intro w';go_simp;with_reducible rfl
           rotate_left
           ·
            simp only [Act.put,sqa,sqb,sqc,i64_w,i32_w];rfl
           refine pure_ (i:=21) (N:=some 65) (v:=?_) (a':=?_) (lb 36 3670015) rfl rfl (any_of HT_.out (by kernel_rfl)) (fun _ _ _ h=>h) (Or.inl ⟨by rfl,?_⟩) ?_ ?_;rotate_left
           ·
            intro w';go_simp;with_reducible rfl
           rotate_left
           ·
            simp only [Act.put,sqa,sqb,sqc,i64_w,i32_w];rfl
           refine take_ (i:=19) (N:=some 63) (v:=?_) (a':=?_) (lb 36 4194303) rfl rfl (take_ofW HT_.out HW_.out (by kernel_rfl)) (fun _ _ _ h=>h) (Or.inl ⟨by rfl,?_⟩) hHeld ?_ ?_;rotate_left
           ·
            rintro w' ⟨s0,s1,s2,s3,s4,s5,s6,s7⟩;go_simp;with_reducible rfl
           rotate_left
           ·
            simp only [Act.put,sqa,sqb,sqc,i64_w,i32_w];rfl
           refine take_ (i:=22) (N:=some 66) (v:=?_) (a':=?_) (lb 36 8388607) rfl rfl (take_ofW HT_.out HW_.out (by kernel_rfl)) (fun _ _ _ h=>h) (Or.inl ⟨by rfl,?_⟩) hHeld ?_ ?_;rotate_left
           ·
            rintro w' ⟨s0,s1,s2,s3,s4,s5,s6,s7⟩;go_simp;with_reducible rfl
           rotate_left
           ·
            simp only [Act.put,sqa,sqb,sqc,i64_w,i32_w];rfl
           refine one_ (i:=23) (N:=some 67) (lb 36 16777215) rfl rfl (one_of HT_.out (by kernel_rfl)) (by decide) (fun K hK=>?_);refine goes_ Try.func10 (by kernel_rfl) rfl #[.int .i64 3,.agg #[.int .i64 ((rd_T23 t242 0).f0),.string ((rd_T23 t242 0).f1),.int .i64 ((rd_T23 t242 0).f2),.int .i64 ((rd_T23 t242 0).f3)],.agg #[.int .i64 ((rd_T23 t242 1).f0),.string ((rd_T23 t242 1).f1),.int .i64 ((rd_T23 t242 1).f2),.int .i64 ((rd_T23 t242 1).f3)]] (by rfl) rfl rfl (by (try simp only [List.map_toArray,List.map_cons,List.map_nil]);first|done|rfl|(simp only [List.length_drop,List.length_take];rfl)) ?_;with_reducible refine (overlap_Wins.calls 3 ((rd_T23 t242 0).f0) ((rd_T23 t242 0).f1) ((rd_T23 t242 0).f2) ((rd_T23 t242 0).f3) ((rd_T23 t242 1).f0) ((rd_T23 t242 1).f1) ((rd_T23 t242 1).f2) ((rd_T23 t242 1).f3) true _ A28.out).mono ?_
           rintro e w36 ⟨rfl,hb⟩;have HS0_:=(hb.cell (World.block_lt_of_cell? _ _ (hHeld.1))).trans (hHeld.1);have HS1_:=(hb.cell (World.block_lt_of_cell? _ _ (hHeld.2.1))).trans (hHeld.2.1);have HS2_:=(hb.cell (World.block_lt_of_cell? _ _ (hHeld.2.2.1))).trans (hHeld.2.2.1);have HS3_:=(hb.cell (World.block_lt_of_cell? _ _ (hHeld.2.2.2.1))).trans (hHeld.2.2.2.1);have HS4_:=(hb.cell (World.block_lt_of_cell? _ _ (hHeld.2.2.2.2.1))).trans (hHeld.2.2.2.2.1);have HS5_:=(hb.cell (World.block_lt_of_cell? _ _ (hHeld.2.2.2.2.2.1))).trans (hHeld.2.2.2.2.2.1);have HS6_:=(hb.cell (World.block_lt_of_cell? _ _ (hHeld.2.2.2.2.2.2.1))).trans (hHeld.2.2.2.2.2.2.1);have HS7_:=(hb.cell (World.block_lt_of_cell? _ _ (hHeld.2.2.2.2.2.2.2))).trans (hHeld.2.2.2.2.2.2.2);refine ⟨_,rfl,?_⟩;have n0_:=Aside0.mk (Kd.R_below (by (with_reducible repeat (first|apply Kd.R_alloc|apply Kd.R_drewN|apply Kd.R_drew));exact HO_1.out) hb);have n1_:=Aside0.mk (Kd.R_below (by (with_reducible repeat (first|apply Kd.R_alloc|apply Kd.R_drewN|apply Kd.R_drew));exact HO252.out) hb);have n2_:=Aside0.mk (below_step (by repeat (first|(with_reducible first|exact HB.out|apply below_alloc|apply pw_below_drewN|apply below_drew1)|exact HB.out)) hb);clear HO_1;clear HO252;clear HB;have HO_1:=n0_;have HO252:=n1_;have HB:=n2_;clear n0_ n1_ n2_;(try clear hb);(try clear hb2);(try clear hk);(try clear hi);refine hK.out _ _ ⟨HS0_,HS1_,HS2_,HS3_,HS4_,HS5_,HS6_,HS7_⟩ (fun hHeld=>?_);clear hK K;refine norm_ (a':=?_) ?_ ?_;rotate_left
           ·
            show Act.put _ (some 67) _ = _
            simp only [Act.put,sqa,sqb,sqc,i64_w,i32_w];rfl
           refine pure_ (i:=24) (N:=some 68) (v:=?_) (a':=?_) (lb 36 33554431) rfl rfl (any_of HT_.out (by kernel_rfl)) (fun _ _ _ h=>h) (Or.inl ⟨by rfl,?_⟩) ?_ ?_;rotate_left
           ·
            intro w';go_simp;with_reducible rfl
           rotate_left
           ·
            simp only [Act.put,sqa,sqb,sqc,i64_w,i32_w];rfl
           refine pure_ (i:=25) (N:=some 69) (v:=?_) (a':=?_) (lb 36 67108863) rfl rfl (any_of HT_.out (by kernel_rfl)) (fun _ _ _ h=>h) (Or.inl ⟨by rfl,?_⟩) ?_ ?_;rotate_left
           ·
            intro w';go_simp;with_reducible rfl
           rotate_left
           ·
            simp only [Act.put,sqa,sqb,sqc,i64_w,i32_w];rfl
           refine pure_ (i:=26) (N:=some 70) (v:=?_) (a':=?_) (lb 36 134217727) rfl rfl (any_of HT_.out (by kernel_rfl)) (fun _ _ _ h=>h) (Or.inl ⟨by rfl,?_⟩) ?_ ?_;rotate_left
           ·
            intro w';go_simp;with_reducible rfl
           rotate_left
           ·
            simp only [Act.put,sqa,sqb,sqc,i64_w,i32_w];rfl
           refine pure_ (i:=27) (N:=some 71) (v:=undef) (a':=?_) (lb 36 268435455) rfl rfl (any_of HT_.out (by kernel_rfl)) (fun _ _ _ h=>h) (Or.inr ⟨by rfl,rfl⟩) ?_ ?_;rotate_left
           ·
            simp only [Act.put,sqa,sqb,sqc,i64_w,i32_w];rfl
           refine pure_ (i:=28) (N:=some 72) (v:=undef) (a':=?_) (lb 36 536870911) rfl rfl (any_of HT_.out (by kernel_rfl)) (fun _ _ _ h=>h) (Or.inr ⟨by rfl,rfl⟩) ?_ ?_;rotate_left
           ·
            simp only [Act.put,sqa,sqb,sqc,i64_w,i32_w];rfl
           refine pure_ (i:=29) (N:=some 73) (v:=undef) (a':=?_) (lb 36 1073741823) rfl rfl (any_of HT_.out (by kernel_rfl)) (fun _ _ _ h=>h) (Or.inr ⟨by rfl,rfl⟩) ?_ ?_;rotate_left
           ·
            simp only [Act.put,sqa,sqb,sqc,i64_w,i32_w];rfl
           refine pure_ (i:=30) (N:=some 74) (v:=undef) (a':=?_) (lb 36 2147483647) rfl rfl (any_of HT_.out (by kernel_rfl)) (fun _ _ _ h=>h) (Or.inr ⟨by rfl,rfl⟩) ?_ ?_;rotate_left
           ·
            simp only [Act.put,sqa,sqb,sqc,i64_w,i32_w];rfl
           refine pure_ (i:=31) (N:=some 75) (v:=undef) (a':=?_) (lb 36 4294967295) rfl rfl (any_of HT_.out (by kernel_rfl)) (fun _ _ _ h=>h) (Or.inr ⟨by rfl,rfl⟩) ?_ ?_;rotate_left
           ·
            simp only [Act.put,sqa,sqb,sqc,i64_w,i32_w];rfl
           refine pure_ (i:=32) (N:=some 76) (v:=undef) (a':=?_) (lb 36 8589934591) rfl rfl (any_of HT_.out (by kernel_rfl)) (fun _ _ _ h=>h) (Or.inr ⟨by rfl,rfl⟩) ?_ ?_;rotate_left
           ·
            simp only [Act.put,sqa,sqb,sqc,i64_w,i32_w];rfl
           refine pure_ (i:=33) (N:=some 77) (v:=undef) (a':=?_) (lb 36 17179869183) rfl rfl (any_of HT_.out (by kernel_rfl)) (fun _ _ _ h=>h) (Or.inr ⟨by rfl,rfl⟩) ?_ ?_;rotate_left
           ·
            simp only [Act.put,sqa,sqb,sqc,i64_w,i32_w];rfl
           refine pure_ (i:=34) (N:=some 78) (v:=?_) (a':=?_) (lb 36 34359738367) rfl rfl (any_of HT_.out (by kernel_rfl)) (fun _ _ _ h=>h) (Or.inl ⟨by rfl,?_⟩) ?_ ?_;rotate_left
           ·
            intro w';go_simp;with_reducible rfl
           rotate_left
           ·
            simp only [Act.put,sqa,sqb,sqc,i64_w,i32_w];rfl
           refine pure_ (i:=35) (N:=some 0) (v:=?_) (a':=?_) (lb 36 68719476735) rfl rfl (any_of HT_.out (by kernel_rfl)) (fun _ _ _ h=>h) (Or.inl ⟨by rfl,?_⟩) ?_ ?_;rotate_left
           ·
            intro w';go_simp;with_reducible rfl
           rotate_left
           ·
            simp only [Act.put,sqa,sqb,sqc,i64_w,i32_w];rfl
           refine done_ (done_of HT_.out (by kernel_rfl)) ?_;try go_wp2
           go_ret;exact ⟨by first|rfl|(simp [errW_none,errW_some] <;> rfl)|(simp [*,errW_none,errW_some] <;> rfl),by repeat (first|(with_reducible first|exact HB.out|apply below_alloc|apply pw_below_drewN|apply below_drew1)|exact HB.out)⟩
          ·
           replace c29:=Bool.eq_false_iff.mpr c29;subst c29;have H1 : ((overlap_Wins.f 3 ((rd_T23 t242 1).f0) ((rd_T23 t242 1).f1) ((rd_T23 t242 1).f2) ((rd_T23 t242 1).f3) ((rd_T23 t242 0).f0) ((rd_T23 t242 0).f1) ((rd_T23 t242 0).f2) ((rd_T23 t242 0).f3)).bind fun t260=>(some t260)) = some r:=by rw [if_neg (show ¬ (false = true) by decide)] at H;exact H
           clear H;have H:=H1;clear H1;replace H:=Option.bind_eq_some_iff.mp H;obtain ⟨t260,A370,H⟩:=H;replace H : (some t260) = some r:=H;have A37:=Aside0.mk A370;clear A370;obtain rfl:=Option.some.inj H;obtain ⟨Ao38,co38,eo38⟩:=Kd.R_slice HO_1.out;subst eo38;try go_wp2_with (first|((with_reducible refine gate_callee (f:=19) rfl ?_);refine goesL_ (some 41) rfl rfl Try.func19 (by kernel_rfl) rfl #[.slice Ao38 t242.length co38,.int .i64 1] rfl (by (try simp only [List.map_toArray,List.map_cons,List.map_nil]);first|done|rfl|(simp only [List.length_drop,List.length_take];rfl)) ?_;(with_reducible refine (overlap_Take.calls kj1 _ _ t242 1 t249 t250 _ ?side1 ?side2 A19.out).mono ?_);(case side1=>repeat (first|exact (Kd.R_reads' HO_1.out).2.2|(with_reducible refine Kd.C_alloc ?_ _)|(with_reducible refine Kd.C_drewN ?_ _)|(with_reducible refine Kd.C_drew ?_)));(case side2=>exact (Kd.R_reads' HO_1.out).2.1);rintro e w39 ⟨v251,rfl,ho0,hb⟩;refine ⟨_,rfl,?_⟩;have n0_:=Aside0.mk (Kd.R_elder' (by (with_reducible repeat (first|apply Kd.R_alloc|apply Kd.R_drewN|apply Kd.R_drew));exact HO_1.out) (Kd.R_base ho0) hb);have n1_:=Aside0.mk (Kd.R_lower (Kd.R_new' ho0 (Kd.R_lt (by (with_reducible repeat (first|apply Kd.R_alloc|apply Kd.R_drewN|apply Kd.R_drew));exact HO_1.out))) (below_size (by repeat (first|(with_reducible first|exact HB.out|apply below_alloc|apply pw_below_drewN|apply below_drew1)|exact HB.out))));have n2_:=Aside0.mk (below_step (by repeat (first|(with_reducible first|exact HB.out|apply below_alloc|apply pw_below_drewN|apply below_drew1)|exact HB.out)) hb);clear HO_1;clear HB;have HO_1:=n0_;have HO252:=n1_;have HB:=n2_;clear n0_ n1_ n2_;(try clear hb);(try clear hb2);(try clear hk);(try clear hi);(try clear ho0)))
           have n0_:=Aside0.mk (Kd.R_drew HO_1.out);have n1_:=Aside0.mk (Kd.R_drew HO252.out);have n2_:=Aside0.mk (below_drew1 HB.out);clear HO_1;clear HO252;clear HB;have HO_1:=n0_;have HO252:=n1_;have HB:=n2_;clear n0_ n1_ n2_;obtain ⟨Ao41,co41,eo41⟩:=Kd.R_slice HO252.out;(first|subst eo41|(injection eo41 with f1_ f2_ f3_;have f4_:=f1_.symm;have f5_:=f3_.symm;clear f1_ f2_ f3_;subst f4_;subst f5_))
           have p255 : 0≤(0 : Int):=(by omega);have q255 : 0 < (t242.length : Int):=of_decide_eq_true (by first|(with_reducible assumption)|assumption);obtain ⟨ad255,e255,hx255_0,hx255_1,hx255_2,hx255_3⟩:=at_T23 (Kd.R_reads' HO_1.out).2.2 0 p255 q255;cases e255;have qi255 : (0 < t242.length) = True:=eq_true (by omega);(try rw [show ((0 : Int)).toNat = 0 from rfl] at hx255_0);(try rw [show 0 * 4 = 0 from rfl] at hx255_0);(try rw [Addr.add_zero'] at hx255_0);(try rw [show ((0 : Int)).toNat = 0 from rfl] at hx255_1);(try rw [show 0 * 4 = 0 from rfl] at hx255_1);(try rw [Addr.add_zero'] at hx255_1);(try rw [show ((0 : Int)).toNat = 0 from rfl] at hx255_2);(try rw [show 0 * 4 = 0 from rfl] at hx255_2);(try rw [Addr.add_zero'] at hx255_2);(try rw [show ((0 : Int)).toNat = 0 from rfl] at hx255_3);(try rw [show 0 * 4 = 0 from rfl] at hx255_3);(try rw [Addr.add_zero'] at hx255_3);replace p255:=eq_true p255;replace q255:=eq_true q255;have p256 : 0≤(1 : Int):=(by omega);have q256 : 1 < (t242.length : Int):=of_decide_eq_true (by first|(with_reducible assumption)|assumption);obtain ⟨ad256,e256,hx256_0,hx256_1,hx256_2,hx256_3⟩:=at_T23 (Kd.R_reads' HO_1.out).2.2 1 p256 q256;obtain rfl : ad255 = ad256:=(by injection e256);(try simp only [show (1 : Int).toNat = 1 from rfl,Nat.reduceMul,Nat.reduceEqDiff,Go.Addr.add,↓reduceIte] at hx256_0);(try simp only [show (1 : Int).toNat = 1 from rfl,Nat.reduceMul,Nat.reduceEqDiff,Go.Addr.add,↓reduceIte] at hx256_1);(try simp only [show (1 : Int).toNat = 1 from rfl,Nat.reduceMul,Nat.reduceEqDiff,Go.Addr.add,↓reduceIte] at hx256_2);(try simp only [show (1 : Int).toNat = 1 from rfl,Nat.reduceMul,Nat.reduceEqDiff,Go.Addr.add,↓reduceIte] at hx256_3);have qi256 : (1 < t242.length) = True:=eq_true (by omega);(try rw [show ((1 : Int)).toNat = 1 from rfl] at hx256_0);(try rw [show 1 * 4 = 4 from rfl] at hx256_0);(try rw [show ((1 : Int)).toNat = 1 from rfl] at hx256_1);(try rw [show 1 * 4 = 4 from rfl] at hx256_1);(try rw [show ((1 : Int)).toNat = 1 from rfl] at hx256_2);(try rw [show 1 * 4 = 4 from rfl] at hx256_2);(try rw [show ((1 : Int)).toNat = 1 from rfl] at hx256_3);(try rw [show 1 * 4 = 4 from rfl] at hx256_3);replace p256:=eq_true p256;replace q256:=eq_true q256;have p258 : 0≤(1 : Int):=(by omega);have q258 : 1 < (t242.length : Int):=of_decide_eq_true (by first|(with_reducible assumption)|assumption);obtain ⟨ad258,e258,hx258_0,hx258_1,hx258_2,hx258_3⟩:=at_T23 (Kd.R_reads' HO_1.out).2.2 1 p258 q258;obtain rfl : ad255 = ad258:=(by injection e258);(try simp only [show (1 : Int).toNat = 1 from rfl,Nat.reduceMul,Nat.reduceEqDiff,Go.Addr.add,↓reduceIte] at hx258_0);(try simp only [show (1 : Int).toNat = 1 from rfl,Nat.reduceMul,Nat.reduceEqDiff,Go.Addr.add,↓reduceIte] at hx258_1);(try simp only [show (1 : Int).toNat = 1 from rfl,Nat.reduceMul,Nat.reduceEqDiff,Go.Addr.add,↓reduceIte] at hx258_2);(try simp only [show (1 : Int).toNat = 1 from rfl,Nat.reduceMul,Nat.reduceEqDiff,Go.Addr.add,↓reduceIte] at hx258_3);have qi258 : (1 < t242.length) = True:=eq_true (by omega);(try rw [show ((1 : Int)).toNat = 1 from rfl] at hx258_0);(try rw [show 1 * 4 = 4 from rfl] at hx258_0);(try rw [show ((1 : Int)).toNat = 1 from rfl] at hx258_1);(try rw [show 1 * 4 = 4 from rfl] at hx258_1);(try rw [show ((1 : Int)).toNat = 1 from rfl] at hx258_2);(try rw [show 1 * 4 = 4 from rfl] at hx258_2);(try rw [show ((1 : Int)).toNat = 1 from rfl] at hx258_3);(try rw [show 1 * 4 = 4 from rfl] at hx258_3);replace p258:=eq_true p258;replace q258:=eq_true q258;have p259 : 0≤(0 : Int):=(by omega);have q259 : 0 < (t242.length : Int):=of_decide_eq_true (by first|(with_reducible assumption)|assumption);obtain ⟨ad259,e259,hx259_0,hx259_1,hx259_2,hx259_3⟩:=at_T23 (Kd.R_reads' HO_1.out).2.2 0 p259 q259;obtain rfl : ad255 = ad259:=(by injection e259);have qi259 : (0 < t242.length) = True:=eq_true (by omega);(try rw [show ((0 : Int)).toNat = 0 from rfl] at hx259_0);(try rw [show 0 * 4 = 0 from rfl] at hx259_0);(try rw [Addr.add_zero'] at hx259_0);(try rw [show ((0 : Int)).toNat = 0 from rfl] at hx259_1);(try rw [show 0 * 4 = 0 from rfl] at hx259_1);(try rw [Addr.add_zero'] at hx259_1);(try rw [show ((0 : Int)).toNat = 0 from rfl] at hx259_2);(try rw [show 0 * 4 = 0 from rfl] at hx259_2);(try rw [Addr.add_zero'] at hx259_2);(try rw [show ((0 : Int)).toNat = 0 from rfl] at hx259_3);(try rw [show 0 * 4 = 0 from rfl] at hx259_3);(try rw [Addr.add_zero'] at hx259_3);replace p259:=eq_true p259;replace q259:=eq_true q259;refine start_ (n:=36) (S:=fun w'=>w'.cell? ad255 = some (.int .i64 ((rd_T23 t242 0).f0))∧w'.cell? ⟨ad255.block,ad255.off + 1,none⟩ = some (.string ((rd_T23 t242 0).f1))∧w'.cell? ⟨ad255.block,ad255.off + 2,none⟩ = some (.int .i64 ((rd_T23 t242 0).f2))∧w'.cell? ⟨ad255.block,ad255.off + 3,none⟩ = some (.int .i64 ((rd_T23 t242 0).f3))∧w'.cell? ⟨ad255.block,ad255.off + 4,none⟩ = some (.int .i64 ((rd_T23 t242 1).f0))∧w'.cell? ⟨ad255.block,ad255.off + 4 + 1,none⟩ = some (.string ((rd_T23 t242 1).f1))∧w'.cell? ⟨ad255.block,ad255.off + 4 + 2,none⟩ = some (.int .i64 ((rd_T23 t242 1).f2))∧w'.cell? ⟨ad255.block,ad255.off + 4 + 3,none⟩ = some (.int .i64 ((rd_T23 t242 1).f3))∧w'.cell? ⟨ad255.block,ad255.off + 4,none⟩ = some (.int .i64 ((rd_T23 t242 1).f0))∧w'.cell? ⟨ad255.block,ad255.off + 4 + 1,none⟩ = some (.string ((rd_T23 t242 1).f1))∧w'.cell? ⟨ad255.block,ad255.off + 4 + 2,none⟩ = some (.int .i64 ((rd_T23 t242 1).f2))∧w'.cell? ⟨ad255.block,ad255.off + 4 + 3,none⟩ = some (.int .i64 ((rd_T23 t242 1).f3))∧w'.cell? ad255 = some (.int .i64 ((rd_T23 t242 0).f0))∧w'.cell? ⟨ad255.block,ad255.off + 1,none⟩ = some (.string ((rd_T23 t242 0).f1))∧w'.cell? ⟨ad255.block,ad255.off + 2,none⟩ = some (.int .i64 ((rd_T23 t242 0).f2))∧w'.cell? ⟨ad255.block,ad255.off + 3,none⟩ = some (.int .i64 ((rd_T23 t242 0).f3))) (ds:=[]) (lb 36 0) (by kernel_rfl) rfl (by kernel_rfl) ⟨hx255_0,hx255_1,hx255_2,hx255_3,hx256_0,hx256_1,hx256_2,hx256_3,hx258_0,hx258_1,hx258_2,hx258_3,hx259_0,hx259_1,hx259_2,hx259_3⟩ (fun hHeld=>?_);refine with_tabW intrusionlaw15_lives.tab5 intrusionlaw15_lives.bits5 (fun HT_ HW_=>?_)
           generalize w39.drew = w40 at HO_1 HO252 HB hx255_0 hx255_1 hx255_2 hx255_3 hx256_0 hx256_1 hx256_2 hx256_3 hx258_0 hx258_1 hx258_2 hx258_3 hx259_0 hx259_1 hx259_2 hx259_3 hHeld ⊢;refine pure_ (i:=0) (N:=some 44) (v:=?_) (a':=?_) (lb 36 1) rfl rfl (any_of HT_.out (by kernel_rfl)) (fun _ _ _ h=>h) (Or.inl ⟨by rfl,?_⟩) ?_ ?_;rotate_left
           ·
            intro w';go_simp;with_reducible rfl
           rotate_left
           ·
            simp only [Act.put,sqa,sqb,sqc,i64_w,i32_w];rfl
           refine pure_ (i:=1) (N:=some 45) (v:=?_) (a':=?_) (lb 36 3) rfl rfl (any_of HT_.out (by kernel_rfl)) (fun _ _ _ h=>h) (Or.inl ⟨by rfl,?_⟩) ?_ ?_;rotate_left
           ·
            intro w';go_simp;with_reducible rfl
           rotate_left
           ·
            simp only [Act.put,sqa,sqb,sqc,i64_w,i32_w];rfl
           refine pure_ (i:=2) (N:=some 46) (v:=?_) (a':=?_) (lb 36 7) rfl rfl (any_of HT_.out (by kernel_rfl)) (fun _ _ _ h=>h) (Or.inl ⟨by rfl,?_⟩) ?_ ?_;rotate_left
           ·
            intro w';go_simp;with_reducible rfl
           rotate_left
           ·
            simp only [Act.put,sqa,sqb,sqc,i64_w,i32_w];rfl
           refine pure_ (i:=3) (N:=some 47) (v:=?_) (a':=?_) (lb 36 15) rfl rfl (any_of HT_.out (by kernel_rfl)) (fun _ _ _ h=>h) (Or.inl ⟨by rfl,?_⟩) ?_ ?_;rotate_left
           ·
            intro w';go_simp;with_reducible rfl
           rotate_left
           ·
            simp only [Act.put,sqa,sqb,sqc,i64_w,i32_w];rfl
           refine pure_ (i:=4) (N:=some 48) (v:=?_) (a':=?_) (lb 36 31) rfl rfl (any_of HT_.out (by kernel_rfl)) (fun _ _ _ h=>h) (Or.inl ⟨by rfl,?_⟩) ?_ ?_;rotate_left
           ·
            intro w';go_simp;with_reducible rfl
           rotate_left
           ·
            simp only [Act.put,sqa,sqb,sqc,i64_w,i32_w];rfl
           refine pure_ (i:=5) (N:=some 49) (v:=?_) (a':=?_) (lb 36 63) rfl rfl (any_of HT_.out (by kernel_rfl)) (fun _ _ _ h=>h) (Or.inl ⟨by rfl,?_⟩) ?_ ?_;rotate_left
           ·
            intro w';go_simp;with_reducible rfl
           rotate_left
           ·
            simp only [Act.put,sqa,sqb,sqc,i64_w,i32_w];rfl
           refine pure_ (i:=6) (N:=some 50) (v:=?_) (a':=?_) (lb 36 127) rfl rfl (any_of HT_.out (by kernel_rfl)) (fun _ _ _ h=>h) (Or.inl ⟨by rfl,?_⟩) ?_ ?_;rotate_left
           ·
            intro w';go_simp;with_reducible rfl
           rotate_left
           ·
            simp only [Act.put,sqa,sqb,sqc,i64_w,i32_w];rfl
           refine pure_ (i:=7) (N:=some 51) (v:=?_) (a':=?_) (lb 36 255) rfl rfl (any_of HT_.out (by kernel_rfl)) (fun _ _ _ h=>h) (Or.inl ⟨by rfl,?_⟩) ?_ ?_;rotate_left
           ·
            intro w';go_simp;with_reducible rfl
           rotate_left
           ·
            simp only [Act.put,sqa,sqb,sqc,i64_w,i32_w];rfl
           refine pure_ (i:=8) (N:=some 52) (v:=?_) (a':=?_) (lb 36 511) rfl rfl (any_of HT_.out (by kernel_rfl)) (fun _ _ _ h=>h) (Or.inl ⟨by rfl,?_⟩) ?_ ?_;rotate_left
           ·
            intro w';go_simp;with_reducible rfl
           rotate_left
           ·
            simp only [Act.put,sqa,sqb,sqc,i64_w,i32_w];rfl
           refine one_ (i:=9) (N:=some 53) (lb 36 1023) rfl rfl (one_of HT_.out (by kernel_rfl)) (by decide) (fun K hK=>?_);refine goes_ Try.func23 (by kernel_rfl) rfl #[.slice (some ad255) t242.length co38] (by rfl) rfl rfl (by (try simp only [List.map_toArray,List.map_cons,List.map_nil]);first|done|rfl|(simp only [List.length_drop,List.length_take];rfl)) ?_;with_reducible refine (overlap_Size.calls kj1 _ _ t242 t253 _ ?side1 ?side2 A22.out).mono ?_
           (case side1=>repeat (first|exact (Kd.R_reads' HO_1.out).2.2|(with_reducible refine Kd.C_alloc ?_ _)|(with_reducible refine Kd.C_drewN ?_ _)|(with_reducible refine Kd.C_drew ?_)))
           (case side2=>exact (Kd.R_reads' HO_1.out).2.1)
           rintro e w42 ⟨rfl,hb⟩;have HS0_:=(hb.cell (World.block_lt_of_cell? _ _ (hHeld.1))).trans (hHeld.1);have HS1_:=(hb.cell (World.block_lt_of_cell? _ _ (hHeld.2.1))).trans (hHeld.2.1);have HS2_:=(hb.cell (World.block_lt_of_cell? _ _ (hHeld.2.2.1))).trans (hHeld.2.2.1);have HS3_:=(hb.cell (World.block_lt_of_cell? _ _ (hHeld.2.2.2.1))).trans (hHeld.2.2.2.1);have HS4_:=(hb.cell (World.block_lt_of_cell? _ _ (hHeld.2.2.2.2.1))).trans (hHeld.2.2.2.2.1);have HS5_:=(hb.cell (World.block_lt_of_cell? _ _ (hHeld.2.2.2.2.2.1))).trans (hHeld.2.2.2.2.2.1);have HS6_:=(hb.cell (World.block_lt_of_cell? _ _ (hHeld.2.2.2.2.2.2.1))).trans (hHeld.2.2.2.2.2.2.1);have HS7_:=(hb.cell (World.block_lt_of_cell? _ _ (hHeld.2.2.2.2.2.2.2.1))).trans (hHeld.2.2.2.2.2.2.2.1);have HS8_:=(hb.cell (World.block_lt_of_cell? _ _ (hHeld.2.2.2.2.2.2.2.2.1))).trans (hHeld.2.2.2.2.2.2.2.2.1);have HS9_:=(hb.cell (World.block_lt_of_cell? _ _ (hHeld.2.2.2.2.2.2.2.2.2.1))).trans (hHeld.2.2.2.2.2.2.2.2.2.1);have HS10_:=(hb.cell (World.block_lt_of_cell? _ _ (hHeld.2.2.2.2.2.2.2.2.2.2.1))).trans (hHeld.2.2.2.2.2.2.2.2.2.2.1);have HS11_:=(hb.cell (World.block_lt_of_cell? _ _ (hHeld.2.2.2.2.2.2.2.2.2.2.2.1))).trans (hHeld.2.2.2.2.2.2.2.2.2.2.2.1);have HS12_:=(hb.cell (World.block_lt_of_cell? _ _ (hHeld.2.2.2.2.2.2.2.2.2.2.2.2.1))).trans (hHeld.2.2.2.2.2.2.2.2.2.2.2.2.1);have HS13_:=(hb.cell (World.block_lt_of_cell? _ _ (hHeld.2.2.2.2.2.2.2.2.2.2.2.2.2.1))).trans (hHeld.2.2.2.2.2.2.2.2.2.2.2.2.2.1);have HS14_:=(hb.cell (World.block_lt_of_cell? _ _ (hHeld.2.2.2.2.2.2.2.2.2.2.2.2.2.2.1))).trans (hHeld.2.2.2.2.2.2.2.2.2.2.2.2.2.2.1);have HS15_:=(hb.cell (World.block_lt_of_cell? _ _ (hHeld.2.2.2.2.2.2.2.2.2.2.2.2.2.2.2))).trans (hHeld.2.2.2.2.2.2.2.2.2.2.2.2.2.2.2);refine ⟨_,rfl,?_⟩;have n0_:=Aside0.mk (Kd.R_below (by (with_reducible repeat (first|apply Kd.R_alloc|apply Kd.R_drewN|apply Kd.R_drew));exact HO_1.out) hb);have n1_:=Aside0.mk (Kd.R_below (by (with_reducible repeat (first|apply Kd.R_alloc|apply Kd.R_drewN|apply Kd.R_drew));exact HO252.out) hb);have n2_:=Aside0.mk (below_step (by repeat (first|(with_reducible first|exact HB.out|apply below_alloc|apply pw_below_drewN|apply below_drew1)|exact HB.out)) hb);clear HO_1;clear HO252;clear HB;have HO_1:=n0_;have HO252:=n1_;have HB:=n2_;clear n0_ n1_ n2_;(try clear hb);(try clear hb2);(try clear hk);(try clear hi);refine hK.out _ _ ⟨HS0_,HS1_,HS2_,HS3_,HS4_,HS5_,HS6_,HS7_,HS8_,HS9_,HS10_,HS11_,HS12_,HS13_,HS14_,HS15_⟩ (fun hHeld=>?_);clear hK K;refine norm_ (a':=?_) ?_ ?_;rotate_left
           ·
            show Act.put _ (some 53) _ = _
            simp only [Act.put,sqa,sqb,sqc,i64_w,i32_w];rfl
           refine pure_ (i:=10) (N:=some 54) (v:=?_) (a':=?_) (lb 36 2047) rfl rfl (any_of HT_.out (by kernel_rfl)) (fun _ _ _ h=>h) (Or.inl ⟨by rfl,?_⟩) ?_ ?_;rotate_left
           ·
            intro w';go_simp;with_reducible rfl
           rotate_left
           ·
            simp only [Act.put,sqa,sqb,sqc,i64_w,i32_w];rfl
           refine pure_ (i:=11) (N:=some 55) (v:=?_) (a':=?_) (lb 36 4095) rfl rfl (any_of HT_.out (by kernel_rfl)) (fun _ _ _ h=>h) (Or.inl ⟨by rfl,?_⟩) ?_ ?_;rotate_left
           ·
            intro w';go_simp;with_reducible rfl
           rotate_left
           ·
            simp only [Act.put,sqa,sqb,sqc,i64_w,i32_w];rfl
           refine pure_ (i:=12) (N:=some 56) (v:=?_) (a':=?_) (lb 36 8191) rfl rfl (any_of HT_.out (by kernel_rfl)) (fun _ _ _ h=>h) (Or.inl ⟨by rfl,?_⟩) ?_ ?_;rotate_left
           ·
            intro w';go_simp;with_reducible rfl
           rotate_left
           ·
            simp only [Act.put,sqa,sqb,sqc,i64_w,i32_w];rfl
           refine pure_ (i:=13) (N:=some 57) (v:=?_) (a':=?_) (lb 36 16383) rfl rfl (any_of HT_.out (by kernel_rfl)) (fun _ _ _ h=>h) (Or.inl ⟨by rfl,?_⟩) ?_ ?_;rotate_left
           ·
            intro w';go_simp;with_reducible rfl
           rotate_left
           ·
            simp only [Act.put,sqa,sqb,sqc,i64_w,i32_w];rfl
           refine one_ (i:=14) (N:=some 58) (lb 36 32767) rfl rfl (one_of HT_.out (by kernel_rfl)) (by decide) (fun K hK=>?_);refine goes_ Try.func18 (by kernel_rfl) rfl #[.slice (some ad255) t242.length co38] (by rfl) rfl rfl (by (try simp only [List.map_toArray,List.map_cons,List.map_nil]);first|done|rfl|(simp only [List.length_drop,List.length_take];rfl)) ?_;with_reducible refine (overlap_Valid.calls kj1 _ _ t242 true _ ?side1 ?side2 A24.out).mono ?_
           (case side1=>repeat (first|exact (Kd.R_reads' HO_1.out).2.2|(with_reducible refine Kd.C_alloc ?_ _)|(with_reducible refine Kd.C_drewN ?_ _)|(with_reducible refine Kd.C_drew ?_)))
           (case side2=>exact (Kd.R_reads' HO_1.out).2.1)
           rintro e w43 ⟨rfl,hb⟩;have HS0_:=(hb.cell (World.block_lt_of_cell? _ _ (hHeld.1))).trans (hHeld.1);have HS1_:=(hb.cell (World.block_lt_of_cell? _ _ (hHeld.2.1))).trans (hHeld.2.1);have HS2_:=(hb.cell (World.block_lt_of_cell? _ _ (hHeld.2.2.1))).trans (hHeld.2.2.1);have HS3_:=(hb.cell (World.block_lt_of_cell? _ _ (hHeld.2.2.2.1))).trans (hHeld.2.2.2.1);have HS4_:=(hb.cell (World.block_lt_of_cell? _ _ (hHeld.2.2.2.2.1))).trans (hHeld.2.2.2.2.1);have HS5_:=(hb.cell (World.block_lt_of_cell? _ _ (hHeld.2.2.2.2.2.1))).trans (hHeld.2.2.2.2.2.1);have HS6_:=(hb.cell (World.block_lt_of_cell? _ _ (hHeld.2.2.2.2.2.2.1))).trans (hHeld.2.2.2.2.2.2.1);have HS7_:=(hb.cell (World.block_lt_of_cell? _ _ (hHeld.2.2.2.2.2.2.2.1))).trans (hHeld.2.2.2.2.2.2.2.1);have HS8_:=(hb.cell (World.block_lt_of_cell? _ _ (hHeld.2.2.2.2.2.2.2.2.1))).trans (hHeld.2.2.2.2.2.2.2.2.1);have HS9_:=(hb.cell (World.block_lt_of_cell? _ _ (hHeld.2.2.2.2.2.2.2.2.2.1))).trans (hHeld.2.2.2.2.2.2.2.2.2.1);have HS10_:=(hb.cell (World.block_lt_of_cell? _ _ (hHeld.2.2.2.2.2.2.2.2.2.2.1))).trans (hHeld.2.2.2.2.2.2.2.2.2.2.1);have HS11_:=(hb.cell (World.block_lt_of_cell? _ _ (hHeld.2.2.2.2.2.2.2.2.2.2.2.1))).trans (hHeld.2.2.2.2.2.2.2.2.2.2.2.1);have HS12_:=(hb.cell (World.block_lt_of_cell? _ _ (hHeld.2.2.2.2.2.2.2.2.2.2.2.2.1))).trans (hHeld.2.2.2.2.2.2.2.2.2.2.2.2.1);have HS13_:=(hb.cell (World.block_lt_of_cell? _ _ (hHeld.2.2.2.2.2.2.2.2.2.2.2.2.2.1))).trans (hHeld.2.2.2.2.2.2.2.2.2.2.2.2.2.1);have HS14_:=(hb.cell (World.block_lt_of_cell? _ _ (hHeld.2.2.2.2.2.2.2.2.2.2.2.2.2.2.1))).trans (hHeld.2.2.2.2.2.2.2.2.2.2.2.2.2.2.1);have HS15_:=(hb.cell (World.block_lt_of_cell? _ _ (hHeld.2.2.2.2.2.2.2.2.2.2.2.2.2.2.2))).trans (hHeld.2.2.2.2.2.2.2.2.2.2.2.2.2.2.2);refine ⟨_,rfl,?_⟩;have n0_:=Aside0.mk (Kd.R_below (by (with_reducible repeat (first|apply Kd.R_alloc|apply Kd.R_drewN|apply Kd.R_drew));exact HO_1.out) hb);have n1_:=Aside0.mk (Kd.R_below (by (with_reducible repeat (first|apply Kd.R_alloc|apply Kd.R_drewN|apply Kd.R_drew));exact HO252.out) hb);have n2_:=Aside0.mk (below_step (by repeat (first|(with_reducible first|exact HB.out|apply below_alloc|apply pw_below_drewN|apply below_drew1)|exact HB.out)) hb);clear HO_1;clear HO252;clear HB;have HO_1:=n0_;have HO252:=n1_;have HB:=n2_;clear n0_ n1_ n2_;(try clear hb);(try clear hb2);(try clear hk);(try clear hi);refine hK.out _ _ ⟨HS0_,HS1_,HS2_,HS3_,HS4_,HS5_,HS6_,HS7_,HS8_,HS9_,HS10_,HS11_,HS12_,HS13_,HS14_,HS15_⟩ (fun hHeld=>?_);clear hK K;refine norm_ (a':=?_) ?_ ?_;rotate_left
           ·
            show Act.put _ (some 58) _ = _
            simp only [Act.put,sqa,sqb,sqc,i64_w,i32_w];rfl
           refine pure_ (i:=15) (N:=some 59) (v:=?_) (a':=?_) (lb 36 65535) rfl rfl (any_of HT_.out (by kernel_rfl)) (fun _ _ _ h=>h) (Or.inl ⟨by rfl,?_⟩) ?_ ?_;rotate_left
           ·
            intro w';go_simp;with_reducible rfl
           rotate_left
           ·
            simp only [Act.put,sqa,sqb,sqc,i64_w,i32_w];rfl
           refine pure_ (i:=16) (N:=some 60) (v:=?_) (a':=?_) (lb 36 131071) rfl rfl (any_of HT_.out (by kernel_rfl)) (fun _ _ _ h=>h) (Or.inl ⟨by rfl,?_⟩) ?_ ?_;rotate_left
           ·
            intro w';go_simp;with_reducible rfl
           rotate_left
           ·
            simp only [Act.put,sqa,sqb,sqc,i64_w,i32_w];rfl
           refine pure_ (i:=17) (N:=some 61) (v:=?_) (a':=?_) (lb 36 262143) rfl rfl (any_of HT_.out (by kernel_rfl)) (fun _ _ _ h=>h) (Or.inl ⟨by rfl,?_⟩) ?_ ?_;rotate_left
           ·
            intro w';go_simp;with_reducible rfl
           rotate_left
           ·
            simp only [Act.put,sqa,sqb,sqc,i64_w,i32_w];rfl
           refine pure_ (i:=18) (N:=some 62) (v:=?_) (a':=?_) (lb 36 524287) rfl rfl (any_of HT_.out (by kernel_rfl)) (fun _ _ _ h=>h) (Or.inl ⟨by rfl,?_⟩) ?_ ?_;rotate_left
           ·
            intro w';go_simp;with_reducible rfl
           rotate_left
           ·
            simp only [Act.put,sqa,sqb,sqc,i64_w,i32_w];rfl
           refine pure_ (i:=20) (N:=some 64) (v:=?_) (a':=?_) (lb 36 1572863) rfl rfl (any_of HT_.out (by kernel_rfl)) (fun _ _ _ h=>h) (Or.inl ⟨by rfl,?_⟩) ?_ ?_;rotate_left
           ·
            intro w';go_simp;with_reducible rfl
           rotate_left
           ·
            simp only [Act.put,sqa,sqb,sqc,i64_w,i32_w];rfl
           refine pure_ (i:=21) (N:=some 65) (v:=?_) (a':=?_) (lb 36 3670015) rfl rfl (any_of HT_.out (by kernel_rfl)) (fun _ _ _ h=>h) (Or.inl ⟨by rfl,?_⟩) ?_ ?_;rotate_left
           ·
            intro w';go_simp;with_reducible rfl
           rotate_left
           ·
            simp only [Act.put,sqa,sqb,sqc,i64_w,i32_w];rfl
           refine take_ (i:=19) (N:=some 63) (v:=?_) (a':=?_) (lb 36 4194303) rfl rfl (take_ofW HT_.out HW_.out (by kernel_rfl)) (fun _ _ _ h=>h) (Or.inl ⟨by rfl,?_⟩) hHeld ?_ ?_;rotate_left
           ·
            rintro w' ⟨s0,s1,s2,s3,s4,s5,s6,s7,s8,s9,s10,s11,s12,s13,s14,s15⟩;go_simp;with_reducible rfl
           rotate_left
           ·
            simp only [Act.put,sqa,sqb,sqc,i64_w,i32_w];rfl
           refine take_ (i:=22) (N:=some 66) (v:=?_) (a':=?_) (lb 36 8388607) rfl rfl (take_ofW HT_.out HW_.out (by kernel_rfl)) (fun _ _ _ h=>h) (Or.inl ⟨by rfl,?_⟩) hHeld ?_ ?_;rotate_left
           ·
            rintro w' ⟨s0,s1,s2,s3,s4,s5,s6,s7,s8,s9,s10,s11,s12,s13,s14,s15⟩;go_simp;with_reducible rfl
           rotate_left
           ·
            simp only [Act.put,sqa,sqb,sqc,i64_w,i32_w];rfl
           refine one_ (i:=23) (N:=some 67) (lb 36 16777215) rfl rfl (one_of HT_.out (by kernel_rfl)) (by decide) (fun K hK=>?_);refine goes_ Try.func10 (by kernel_rfl) rfl #[.int .i64 3,.agg #[.int .i64 ((rd_T23 t242 0).f0),.string ((rd_T23 t242 0).f1),.int .i64 ((rd_T23 t242 0).f2),.int .i64 ((rd_T23 t242 0).f3)],.agg #[.int .i64 ((rd_T23 t242 1).f0),.string ((rd_T23 t242 1).f1),.int .i64 ((rd_T23 t242 1).f2),.int .i64 ((rd_T23 t242 1).f3)]] (by rfl) rfl rfl (by (try simp only [List.map_toArray,List.map_cons,List.map_nil]);first|done|rfl|(simp only [List.length_drop,List.length_take];rfl)) ?_;with_reducible refine (overlap_Wins.calls 3 ((rd_T23 t242 0).f0) ((rd_T23 t242 0).f1) ((rd_T23 t242 0).f2) ((rd_T23 t242 0).f3) ((rd_T23 t242 1).f0) ((rd_T23 t242 1).f1) ((rd_T23 t242 1).f2) ((rd_T23 t242 1).f3) false _ A28.out).mono ?_
           rintro e w44 ⟨rfl,hb⟩;have HS0_:=(hb.cell (World.block_lt_of_cell? _ _ (hHeld.1))).trans (hHeld.1);have HS1_:=(hb.cell (World.block_lt_of_cell? _ _ (hHeld.2.1))).trans (hHeld.2.1);have HS2_:=(hb.cell (World.block_lt_of_cell? _ _ (hHeld.2.2.1))).trans (hHeld.2.2.1);have HS3_:=(hb.cell (World.block_lt_of_cell? _ _ (hHeld.2.2.2.1))).trans (hHeld.2.2.2.1);have HS4_:=(hb.cell (World.block_lt_of_cell? _ _ (hHeld.2.2.2.2.1))).trans (hHeld.2.2.2.2.1);have HS5_:=(hb.cell (World.block_lt_of_cell? _ _ (hHeld.2.2.2.2.2.1))).trans (hHeld.2.2.2.2.2.1);have HS6_:=(hb.cell (World.block_lt_of_cell? _ _ (hHeld.2.2.2.2.2.2.1))).trans (hHeld.2.2.2.2.2.2.1);have HS7_:=(hb.cell (World.block_lt_of_cell? _ _ (hHeld.2.2.2.2.2.2.2.1))).trans (hHeld.2.2.2.2.2.2.2.1);have HS8_:=(hb.cell (World.block_lt_of_cell? _ _ (hHeld.2.2.2.2.2.2.2.2.1))).trans (hHeld.2.2.2.2.2.2.2.2.1);have HS9_:=(hb.cell (World.block_lt_of_cell? _ _ (hHeld.2.2.2.2.2.2.2.2.2.1))).trans (hHeld.2.2.2.2.2.2.2.2.2.1);have HS10_:=(hb.cell (World.block_lt_of_cell? _ _ (hHeld.2.2.2.2.2.2.2.2.2.2.1))).trans (hHeld.2.2.2.2.2.2.2.2.2.2.1);have HS11_:=(hb.cell (World.block_lt_of_cell? _ _ (hHeld.2.2.2.2.2.2.2.2.2.2.2.1))).trans (hHeld.2.2.2.2.2.2.2.2.2.2.2.1);have HS12_:=(hb.cell (World.block_lt_of_cell? _ _ (hHeld.2.2.2.2.2.2.2.2.2.2.2.2.1))).trans (hHeld.2.2.2.2.2.2.2.2.2.2.2.2.1);have HS13_:=(hb.cell (World.block_lt_of_cell? _ _ (hHeld.2.2.2.2.2.2.2.2.2.2.2.2.2.1))).trans (hHeld.2.2.2.2.2.2.2.2.2.2.2.2.2.1);have HS14_:=(hb.cell (World.block_lt_of_cell? _ _ (hHeld.2.2.2.2.2.2.2.2.2.2.2.2.2.2.1))).trans (hHeld.2.2.2.2.2.2.2.2.2.2.2.2.2.2.1);have HS15_:=(hb.cell (World.block_lt_of_cell? _ _ (hHeld.2.2.2.2.2.2.2.2.2.2.2.2.2.2.2))).trans (hHeld.2.2.2.2.2.2.2.2.2.2.2.2.2.2.2);refine ⟨_,rfl,?_⟩;have n0_:=Aside0.mk (Kd.R_below (by (with_reducible repeat (first|apply Kd.R_alloc|apply Kd.R_drewN|apply Kd.R_drew));exact HO_1.out) hb);have n1_:=Aside0.mk (Kd.R_below (by (with_reducible repeat (first|apply Kd.R_alloc|apply Kd.R_drewN|apply Kd.R_drew));exact HO252.out) hb);have n2_:=Aside0.mk (below_step (by repeat (first|(with_reducible first|exact HB.out|apply below_alloc|apply pw_below_drewN|apply below_drew1)|exact HB.out)) hb);clear HO_1;clear HO252;clear HB;have HO_1:=n0_;have HO252:=n1_;have HB:=n2_;clear n0_ n1_ n2_;(try clear hb);(try clear hb2);(try clear hk);(try clear hi);refine hK.out _ _ ⟨HS0_,HS1_,HS2_,HS3_,HS4_,HS5_,HS6_,HS7_,HS8_,HS9_,HS10_,HS11_,HS12_,HS13_,HS14_,HS15_⟩ (fun hHeld=>?_);clear hK K;refine norm_ (a':=?_) ?_ ?_;rotate_left
           ·
            show Act.put _ (some 67) _ = _
            simp only [Act.put,sqa,sqb,sqc,i64_w,i32_w];rfl
           refine pure_ (i:=24) (N:=some 68) (v:=?_) (a':=?_) (lb 36 33554431) rfl rfl (any_of HT_.out (by kernel_rfl)) (fun _ _ _ h=>h) (Or.inl ⟨by rfl,?_⟩) ?_ ?_;rotate_left
           ·
            intro w';go_simp;with_reducible rfl
           rotate_left
           ·
            simp only [Act.put,sqa,sqb,sqc,i64_w,i32_w];rfl
           refine pure_ (i:=25) (N:=some 69) (v:=?_) (a':=?_) (lb 36 67108863) rfl rfl (any_of HT_.out (by kernel_rfl)) (fun _ _ _ h=>h) (Or.inl ⟨by rfl,?_⟩) ?_ ?_;rotate_left
           ·
            intro w';go_simp;with_reducible rfl
           rotate_left
           ·
            simp only [Act.put,sqa,sqb,sqc,i64_w,i32_w];rfl
           refine pure_ (i:=26) (N:=some 70) (v:=?_) (a':=?_) (lb 36 134217727) rfl rfl (any_of HT_.out (by kernel_rfl)) (fun _ _ _ h=>h) (Or.inl ⟨by rfl,?_⟩) ?_ ?_;rotate_left
           ·
            intro w';go_simp;with_reducible rfl
           rotate_left
           ·
            simp only [Act.put,sqa,sqb,sqc,i64_w,i32_w];rfl
           refine pure_ (i:=27) (N:=some 71) (v:=?_) (a':=?_) (lb 36 268435455) rfl rfl (any_of HT_.out (by kernel_rfl)) (fun _ _ _ h=>h) (Or.inl ⟨by rfl,?_⟩) ?_ ?_;rotate_left
           ·
            intro w';go_simp;with_reducible rfl
           rotate_left
           ·
            simp only [Act.put,sqa,sqb,sqc,i64_w,i32_w];rfl
           refine pure_ (i:=28) (N:=some 72) (v:=?_) (a':=?_) (lb 36 536870911) rfl rfl (any_of HT_.out (by kernel_rfl)) (fun _ _ _ h=>h) (Or.inl ⟨by rfl,?_⟩) ?_ ?_;rotate_left
           ·
            intro w';go_simp;with_reducible rfl
           rotate_left
           ·
            simp only [Act.put,sqa,sqb,sqc,i64_w,i32_w];rfl
           refine pure_ (i:=30) (N:=some 74) (v:=?_) (a':=?_) (lb 36 1610612735) rfl rfl (any_of HT_.out (by kernel_rfl)) (fun _ _ _ h=>h) (Or.inl ⟨by rfl,?_⟩) ?_ ?_;rotate_left
           ·
            intro w';go_simp;with_reducible rfl
           rotate_left
           ·
            simp only [Act.put,sqa,sqb,sqc,i64_w,i32_w];rfl
           refine pure_ (i:=31) (N:=some 75) (v:=?_) (a':=?_) (lb 36 3758096383) rfl rfl (any_of HT_.out (by kernel_rfl)) (fun _ _ _ h=>h) (Or.inl ⟨by rfl,?_⟩) ?_ ?_;rotate_left
           ·
            intro w';go_simp;with_reducible rfl
           rotate_left
           ·
            simp only [Act.put,sqa,sqb,sqc,i64_w,i32_w];rfl
           refine take_ (i:=29) (N:=some 73) (v:=?_) (a':=?_) (lb 36 4294967295) rfl rfl (take_ofW HT_.out HW_.out (by kernel_rfl)) (fun _ _ _ h=>h) (Or.inl ⟨by rfl,?_⟩) hHeld ?_ ?_;rotate_left
           ·
            rintro w' ⟨s0,s1,s2,s3,s4,s5,s6,s7,s8,s9,s10,s11,s12,s13,s14,s15⟩;go_simp;with_reducible rfl
           rotate_left
           ·
            simp only [Act.put,sqa,sqb,sqc,i64_w,i32_w];rfl
           refine take_ (i:=32) (N:=some 76) (v:=?_) (a':=?_) (lb 36 8589934591) rfl rfl (take_ofW HT_.out HW_.out (by kernel_rfl)) (fun _ _ _ h=>h) (Or.inl ⟨by rfl,?_⟩) hHeld ?_ ?_;rotate_left
           ·
            rintro w' ⟨s0,s1,s2,s3,s4,s5,s6,s7,s8,s9,s10,s11,s12,s13,s14,s15⟩;go_simp;with_reducible rfl
           rotate_left
           ·
            simp only [Act.put,sqa,sqb,sqc,i64_w,i32_w];rfl
           refine one_ (i:=33) (N:=some 77) (lb 36 17179869183) rfl rfl (one_of HT_.out (by kernel_rfl)) (by decide) (fun K hK=>?_);refine goes_ Try.func10 (by kernel_rfl) rfl #[.int .i64 3,.agg #[.int .i64 ((rd_T23 t242 1).f0),.string ((rd_T23 t242 1).f1),.int .i64 ((rd_T23 t242 1).f2),.int .i64 ((rd_T23 t242 1).f3)],.agg #[.int .i64 ((rd_T23 t242 0).f0),.string ((rd_T23 t242 0).f1),.int .i64 ((rd_T23 t242 0).f2),.int .i64 ((rd_T23 t242 0).f3)]] (by rfl) rfl rfl (by (try simp only [List.map_toArray,List.map_cons,List.map_nil]);first|done|rfl|(simp only [List.length_drop,List.length_take];rfl)) ?_;with_reducible refine (overlap_Wins.calls 3 ((rd_T23 t242 1).f0) ((rd_T23 t242 1).f1) ((rd_T23 t242 1).f2) ((rd_T23 t242 1).f3) ((rd_T23 t242 0).f0) ((rd_T23 t242 0).f1) ((rd_T23 t242 0).f2) ((rd_T23 t242 0).f3) t260 _ A37.out).mono ?_
           rintro e w45 ⟨rfl,hb⟩;have HS0_:=(hb.cell (World.block_lt_of_cell? _ _ (hHeld.1))).trans (hHeld.1);have HS1_:=(hb.cell (World.block_lt_of_cell? _ _ (hHeld.2.1))).trans (hHeld.2.1);have HS2_:=(hb.cell (World.block_lt_of_cell? _ _ (hHeld.2.2.1))).trans (hHeld.2.2.1);have HS3_:=(hb.cell (World.block_lt_of_cell? _ _ (hHeld.2.2.2.1))).trans (hHeld.2.2.2.1);have HS4_:=(hb.cell (World.block_lt_of_cell? _ _ (hHeld.2.2.2.2.1))).trans (hHeld.2.2.2.2.1);have HS5_:=(hb.cell (World.block_lt_of_cell? _ _ (hHeld.2.2.2.2.2.1))).trans (hHeld.2.2.2.2.2.1);have HS6_:=(hb.cell (World.block_lt_of_cell? _ _ (hHeld.2.2.2.2.2.2.1))).trans (hHeld.2.2.2.2.2.2.1);have HS7_:=(hb.cell (World.block_lt_of_cell? _ _ (hHeld.2.2.2.2.2.2.2.1))).trans (hHeld.2.2.2.2.2.2.2.1);have HS8_:=(hb.cell (World.block_lt_of_cell? _ _ (hHeld.2.2.2.2.2.2.2.2.1))).trans (hHeld.2.2.2.2.2.2.2.2.1);have HS9_:=(hb.cell (World.block_lt_of_cell? _ _ (hHeld.2.2.2.2.2.2.2.2.2.1))).trans (hHeld.2.2.2.2.2.2.2.2.2.1);have HS10_:=(hb.cell (World.block_lt_of_cell? _ _ (hHeld.2.2.2.2.2.2.2.2.2.2.1))).trans (hHeld.2.2.2.2.2.2.2.2.2.2.1);have HS11_:=(hb.cell (World.block_lt_of_cell? _ _ (hHeld.2.2.2.2.2.2.2.2.2.2.2.1))).trans (hHeld.2.2.2.2.2.2.2.2.2.2.2.1);have HS12_:=(hb.cell (World.block_lt_of_cell? _ _ (hHeld.2.2.2.2.2.2.2.2.2.2.2.2.1))).trans (hHeld.2.2.2.2.2.2.2.2.2.2.2.2.1);have HS13_:=(hb.cell (World.block_lt_of_cell? _ _ (hHeld.2.2.2.2.2.2.2.2.2.2.2.2.2.1))).trans (hHeld.2.2.2.2.2.2.2.2.2.2.2.2.2.1);have HS14_:=(hb.cell (World.block_lt_of_cell? _ _ (hHeld.2.2.2.2.2.2.2.2.2.2.2.2.2.2.1))).trans (hHeld.2.2.2.2.2.2.2.2.2.2.2.2.2.2.1);have HS15_:=(hb.cell (World.block_lt_of_cell? _ _ (hHeld.2.2.2.2.2.2.2.2.2.2.2.2.2.2.2))).trans (hHeld.2.2.2.2.2.2.2.2.2.2.2.2.2.2.2);refine ⟨_,rfl,?_⟩;have n0_:=Aside0.mk (Kd.R_below (by (with_reducible repeat (first|apply Kd.R_alloc|apply Kd.R_drewN|apply Kd.R_drew));exact HO_1.out) hb);have n1_:=Aside0.mk (Kd.R_below (by (with_reducible repeat (first|apply Kd.R_alloc|apply Kd.R_drewN|apply Kd.R_drew));exact HO252.out) hb);have n2_:=Aside0.mk (below_step (by repeat (first|(with_reducible first|exact HB.out|apply below_alloc|apply pw_below_drewN|apply below_drew1)|exact HB.out)) hb);clear HO_1;clear HO252;clear HB;have HO_1:=n0_;have HO252:=n1_;have HB:=n2_;clear n0_ n1_ n2_;(try clear hb);(try clear hb2);(try clear hk);(try clear hi);refine hK.out _ _ ⟨HS0_,HS1_,HS2_,HS3_,HS4_,HS5_,HS6_,HS7_,HS8_,HS9_,HS10_,HS11_,HS12_,HS13_,HS14_,HS15_⟩ (fun hHeld=>?_);clear hK K;refine norm_ (a':=?_) ?_ ?_;rotate_left
           ·
            show Act.put _ (some 77) _ = _
            simp only [Act.put,sqa,sqb,sqc,i64_w,i32_w];rfl
           refine pure_ (i:=34) (N:=some 78) (v:=?_) (a':=?_) (lb 36 34359738367) rfl rfl (any_of HT_.out (by kernel_rfl)) (fun _ _ _ h=>h) (Or.inl ⟨by rfl,?_⟩) ?_ ?_;rotate_left
           ·
            intro w';go_simp;with_reducible rfl
           rotate_left
           ·
            simp only [Act.put,sqa,sqb,sqc,i64_w,i32_w];rfl
           refine pure_ (i:=35) (N:=some 0) (v:=?_) (a':=?_) (lb 36 68719476735) rfl rfl (any_of HT_.out (by kernel_rfl)) (fun _ _ _ h=>h) (Or.inl ⟨by rfl,?_⟩) ?_ ?_;rotate_left
           ·
            intro w';go_simp;with_reducible rfl
           rotate_left
           ·
            simp only [Act.put,sqa,sqb,sqc,i64_w,i32_w];rfl
           refine done_ (done_of HT_.out (by kernel_rfl)) ?_;try go_wp2
           go_ret;exact ⟨by first|rfl|(simp [errW_none,errW_some] <;> rfl)|(simp [*,errW_none,errW_some] <;> rfl),by repeat (first|(with_reducible first|exact HB.out|apply below_alloc|apply pw_below_drewN|apply below_drew1)|exact HB.out)⟩
         ·
          rw [if_neg c27] at H;exact absurd H (by simp)
        ·
         rw [if_neg c26] at H;exact absurd H (by simp)
       ·
        replace c25:=Bool.eq_false_iff.mpr c25;subst c25;have H1 : (some false) = some r:=by rw [if_neg (show ¬ (false = true) by decide)] at H;exact H
        clear H;have H:=H1;clear H1;obtain rfl:=Option.some.inj H;obtain ⟨Ao46,co46,eo46⟩:=Kd.R_slice HO_1.out;subst eo46;try go_wp2_with (first|((with_reducible refine gate_callee (f:=19) rfl ?_);refine goesL_ (some 41) rfl rfl Try.func19 (by kernel_rfl) rfl #[.slice Ao46 t242.length co46,.int .i64 1] rfl (by (try simp only [List.map_toArray,List.map_cons,List.map_nil]);first|done|rfl|(simp only [List.length_drop,List.length_take];rfl)) ?_;(with_reducible refine (overlap_Take.calls kj1 _ _ t242 1 t249 t250 _ ?side1 ?side2 A19.out).mono ?_);(case side1=>repeat (first|exact (Kd.R_reads' HO_1.out).2.2|(with_reducible refine Kd.C_alloc ?_ _)|(with_reducible refine Kd.C_drewN ?_ _)|(with_reducible refine Kd.C_drew ?_)));(case side2=>exact (Kd.R_reads' HO_1.out).2.1);rintro e w47 ⟨v251,rfl,ho0,hb⟩;refine ⟨_,rfl,?_⟩;have n0_:=Aside0.mk (Kd.R_elder' (by (with_reducible repeat (first|apply Kd.R_alloc|apply Kd.R_drewN|apply Kd.R_drew));exact HO_1.out) (Kd.R_base ho0) hb);have n1_:=Aside0.mk (Kd.R_lower (Kd.R_new' ho0 (Kd.R_lt (by (with_reducible repeat (first|apply Kd.R_alloc|apply Kd.R_drewN|apply Kd.R_drew));exact HO_1.out))) (below_size (by repeat (first|(with_reducible first|exact HB.out|apply below_alloc|apply pw_below_drewN|apply below_drew1)|exact HB.out))));have n2_:=Aside0.mk (below_step (by repeat (first|(with_reducible first|exact HB.out|apply below_alloc|apply pw_below_drewN|apply below_drew1)|exact HB.out)) hb);clear HO_1;clear HB;have HO_1:=n0_;have HO252:=n1_;have HB:=n2_;clear n0_ n1_ n2_;(try clear hb);(try clear hb2);(try clear hk);(try clear hi);(try clear ho0)))
        have n0_:=Aside0.mk (Kd.R_drew HO_1.out);have n1_:=Aside0.mk (Kd.R_drew HO252.out);have n2_:=Aside0.mk (below_drew1 HB.out);clear HO_1;clear HO252;clear HB;have HO_1:=n0_;have HO252:=n1_;have HB:=n2_;clear n0_ n1_ n2_;obtain ⟨Ao49,co49,eo49⟩:=Kd.R_slice HO252.out;(first|subst eo49|(injection eo49 with f1_ f2_ f3_;have f4_:=f1_.symm;have f5_:=f3_.symm;clear f1_ f2_ f3_;subst f4_;subst f5_))
        refine start_ (n:=36) (S:=fun w'=>True) (ds:=[]) (lb 36 0) (by kernel_rfl) rfl (by kernel_rfl) trivial (fun hHeld=>?_);refine with_tabW intrusionlaw15_lives.tab5 intrusionlaw15_lives.bits5 (fun HT_ HW_=>?_)
        generalize w47.drew = w48 at HO_1 HO252 HB hHeld ⊢;refine pure_ (i:=0) (N:=some 44) (v:=?_) (a':=?_) (lb 36 1) rfl rfl (any_of HT_.out (by kernel_rfl)) (fun _ _ _ h=>h) (Or.inl ⟨by rfl,?_⟩) ?_ ?_;rotate_left
        ·
         intro w';go_simp;with_reducible rfl
        rotate_left
        ·
         simp only [Act.put,sqa,sqb,sqc,i64_w,i32_w];rfl
        refine pure_ (i:=1) (N:=some 45) (v:=?_) (a':=?_) (lb 36 3) rfl rfl (any_of HT_.out (by kernel_rfl)) (fun _ _ _ h=>h) (Or.inl ⟨by rfl,?_⟩) ?_ ?_;rotate_left
        ·
         intro w';go_simp;with_reducible rfl
        rotate_left
        ·
         simp only [Act.put,sqa,sqb,sqc,i64_w,i32_w];rfl
        refine pure_ (i:=2) (N:=some 46) (v:=?_) (a':=?_) (lb 36 7) rfl rfl (any_of HT_.out (by kernel_rfl)) (fun _ _ _ h=>h) (Or.inl ⟨by rfl,?_⟩) ?_ ?_;rotate_left
        ·
         intro w';go_simp;with_reducible rfl
        rotate_left
        ·
         simp only [Act.put,sqa,sqb,sqc,i64_w,i32_w];rfl
        refine pure_ (i:=3) (N:=some 47) (v:=?_) (a':=?_) (lb 36 15) rfl rfl (any_of HT_.out (by kernel_rfl)) (fun _ _ _ h=>h) (Or.inl ⟨by rfl,?_⟩) ?_ ?_;rotate_left
        ·
         intro w';go_simp;with_reducible rfl
        rotate_left
        ·
         simp only [Act.put,sqa,sqb,sqc,i64_w,i32_w];rfl
        refine pure_ (i:=4) (N:=some 48) (v:=?_) (a':=?_) (lb 36 31) rfl rfl (any_of HT_.out (by kernel_rfl)) (fun _ _ _ h=>h) (Or.inl ⟨by rfl,?_⟩) ?_ ?_;rotate_left
        ·
         intro w';go_simp;with_reducible rfl
        rotate_left
        ·
         simp only [Act.put,sqa,sqb,sqc,i64_w,i32_w];rfl
        refine pure_ (i:=5) (N:=some 49) (v:=?_) (a':=?_) (lb 36 63) rfl rfl (any_of HT_.out (by kernel_rfl)) (fun _ _ _ h=>h) (Or.inl ⟨by rfl,?_⟩) ?_ ?_;rotate_left
        ·
         intro w';go_simp;with_reducible rfl
        rotate_left
        ·
         simp only [Act.put,sqa,sqb,sqc,i64_w,i32_w];rfl
        refine pure_ (i:=6) (N:=some 50) (v:=?_) (a':=?_) (lb 36 127) rfl rfl (any_of HT_.out (by kernel_rfl)) (fun _ _ _ h=>h) (Or.inl ⟨by rfl,?_⟩) ?_ ?_;rotate_left
        ·
         intro w';go_simp;with_reducible rfl
        rotate_left
        ·
         simp only [Act.put,sqa,sqb,sqc,i64_w,i32_w];rfl
        refine pure_ (i:=7) (N:=some 51) (v:=?_) (a':=?_) (lb 36 255) rfl rfl (any_of HT_.out (by kernel_rfl)) (fun _ _ _ h=>h) (Or.inl ⟨by rfl,?_⟩) ?_ ?_;rotate_left
        ·
         intro w';go_simp;with_reducible rfl
        rotate_left
        ·
         simp only [Act.put,sqa,sqb,sqc,i64_w,i32_w];rfl
        refine pure_ (i:=8) (N:=some 52) (v:=?_) (a':=?_) (lb 36 511) rfl rfl (any_of HT_.out (by kernel_rfl)) (fun _ _ _ h=>h) (Or.inl ⟨by rfl,?_⟩) ?_ ?_;rotate_left
        ·
         intro w';go_simp;with_reducible rfl
        rotate_left
        ·
         simp only [Act.put,sqa,sqb,sqc,i64_w,i32_w];rfl
        refine one_ (i:=9) (N:=some 53) (lb 36 1023) rfl rfl (one_of HT_.out (by kernel_rfl)) (by decide) (fun K hK=>?_);refine goes_ Try.func23 (by kernel_rfl) rfl #[.slice Ao46 t242.length co46] (by rfl) rfl rfl (by (try simp only [List.map_toArray,List.map_cons,List.map_nil]);first|done|rfl|(simp only [List.length_drop,List.length_take];rfl)) ?_;with_reducible refine (overlap_Size.calls kj1 _ _ t242 t253 _ ?side1 ?side2 A22.out).mono ?_
        (case side1=>repeat (first|exact (Kd.R_reads' HO_1.out).2.2|(with_reducible refine Kd.C_alloc ?_ _)|(with_reducible refine Kd.C_drewN ?_ _)|(with_reducible refine Kd.C_drew ?_)))
        (case side2=>exact (Kd.R_reads' HO_1.out).2.1)
        rintro e w50 ⟨rfl,hb⟩;refine ⟨_,rfl,?_⟩;have n0_:=Aside0.mk (Kd.R_below (by (with_reducible repeat (first|apply Kd.R_alloc|apply Kd.R_drewN|apply Kd.R_drew));exact HO_1.out) hb);have n1_:=Aside0.mk (Kd.R_below (by (with_reducible repeat (first|apply Kd.R_alloc|apply Kd.R_drewN|apply Kd.R_drew));exact HO252.out) hb);have n2_:=Aside0.mk (below_step (by repeat (first|(with_reducible first|exact HB.out|apply below_alloc|apply pw_below_drewN|apply below_drew1)|exact HB.out)) hb);clear HO_1;clear HO252;clear HB;have HO_1:=n0_;have HO252:=n1_;have HB:=n2_;clear n0_ n1_ n2_;(try clear hb);(try clear hb2);(try clear hk);(try clear hi);refine hK.out _ _ trivial (fun hHeld=>?_);clear hK K;refine norm_ (a':=?_) ?_ ?_;rotate_left
        ·
         show Act.put _ (some 53) _ = _
         simp only [Act.put,sqa,sqb,sqc,i64_w,i32_w];rfl
        refine pure_ (i:=10) (N:=some 54) (v:=?_) (a':=?_) (lb 36 2047) rfl rfl (any_of HT_.out (by kernel_rfl)) (fun _ _ _ h=>h) (Or.inl ⟨by rfl,?_⟩) ?_ ?_;rotate_left
        ·
         intro w';go_simp;with_reducible rfl
        rotate_left
        ·
         simp only [Act.put,sqa,sqb,sqc,i64_w,i32_w];rfl
        refine pure_ (i:=11) (N:=some 55) (v:=?_) (a':=?_) (lb 36 4095) rfl rfl (any_of HT_.out (by kernel_rfl)) (fun _ _ _ h=>h) (Or.inl ⟨by rfl,?_⟩) ?_ ?_;rotate_left
        ·
         intro w';go_simp;with_reducible rfl
        rotate_left
        ·
         simp only [Act.put,sqa,sqb,sqc,i64_w,i32_w];rfl
        refine pure_ (i:=12) (N:=some 56) (v:=?_) (a':=?_) (lb 36 8191) rfl rfl (any_of HT_.out (by kernel_rfl)) (fun _ _ _ h=>h) (Or.inl ⟨by rfl,?_⟩) ?_ ?_;rotate_left
        ·
         intro w';go_simp;with_reducible rfl
        rotate_left
        ·
         simp only [Act.put,sqa,sqb,sqc,i64_w,i32_w];rfl
        refine pure_ (i:=13) (N:=some 57) (v:=?_) (a':=?_) (lb 36 16383) rfl rfl (any_of HT_.out (by kernel_rfl)) (fun _ _ _ h=>h) (Or.inl ⟨by rfl,?_⟩) ?_ ?_;rotate_left
        ·
         intro w';go_simp;with_reducible rfl
        rotate_left
        ·
         simp only [Act.put,sqa,sqb,sqc,i64_w,i32_w];rfl
        refine one_ (i:=14) (N:=some 58) (lb 36 32767) rfl rfl (one_of HT_.out (by kernel_rfl)) (by decide) (fun K hK=>?_);refine goes_ Try.func18 (by kernel_rfl) rfl #[.slice Ao46 t242.length co46] (by rfl) rfl rfl (by (try simp only [List.map_toArray,List.map_cons,List.map_nil]);first|done|rfl|(simp only [List.length_drop,List.length_take];rfl)) ?_;with_reducible refine (overlap_Valid.calls kj1 _ _ t242 false _ ?side1 ?side2 A24.out).mono ?_
        (case side1=>repeat (first|exact (Kd.R_reads' HO_1.out).2.2|(with_reducible refine Kd.C_alloc ?_ _)|(with_reducible refine Kd.C_drewN ?_ _)|(with_reducible refine Kd.C_drew ?_)))
        (case side2=>exact (Kd.R_reads' HO_1.out).2.1)
        rintro e w51 ⟨rfl,hb⟩;refine ⟨_,rfl,?_⟩;have n0_:=Aside0.mk (Kd.R_below (by (with_reducible repeat (first|apply Kd.R_alloc|apply Kd.R_drewN|apply Kd.R_drew));exact HO_1.out) hb);have n1_:=Aside0.mk (Kd.R_below (by (with_reducible repeat (first|apply Kd.R_alloc|apply Kd.R_drewN|apply Kd.R_drew));exact HO252.out) hb);have n2_:=Aside0.mk (below_step (by repeat (first|(with_reducible first|exact HB.out|apply below_alloc|apply pw_below_drewN|apply below_drew1)|exact HB.out)) hb);clear HO_1;clear HO252;clear HB;have HO_1:=n0_;have HO252:=n1_;have HB:=n2_;clear n0_ n1_ n2_;(try clear hb);(try clear hb2);(try clear hk);(try clear hi);refine hK.out _ _ trivial (fun hHeld=>?_);clear hK K;refine norm_ (a':=?_) ?_ ?_;rotate_left
        ·
         show Act.put _ (some 58) _ = _
         simp only [Act.put,sqa,sqb,sqc,i64_w,i32_w];rfl
        refine pure_ (i:=15) (N:=some 59) (v:=?_) (a':=?_) (lb 36 65535) rfl rfl (any_of HT_.out (by kernel_rfl)) (fun _ _ _ h=>h) (Or.inl ⟨by rfl,?_⟩) ?_ ?_;rotate_left
        ·
         intro w';go_simp;with_reducible rfl
        rotate_left
        ·
         simp only [Act.put,sqa,sqb,sqc,i64_w,i32_w];rfl
        refine pure_ (i:=16) (N:=some 60) (v:=?_) (a':=?_) (lb 36 131071) rfl rfl (any_of HT_.out (by kernel_rfl)) (fun _ _ _ h=>h) (Or.inl ⟨by rfl,?_⟩) ?_ ?_;rotate_left
        ·
         intro w';go_simp;with_reducible rfl
        rotate_left
        ·
         simp only [Act.put,sqa,sqb,sqc,i64_w,i32_w];rfl
        refine pure_ (i:=17) (N:=some 61) (v:=undef) (a':=?_) (lb 36 262143) rfl rfl (any_of HT_.out (by kernel_rfl)) (fun _ _ _ h=>h) (Or.inr ⟨by rfl,rfl⟩) ?_ ?_;rotate_left
        ·
         simp only [Act.put,sqa,sqb,sqc,i64_w,i32_w];rfl
        refine pure_ (i:=18) (N:=some 62) (v:=undef) (a':=?_) (lb 36 524287) rfl rfl (any_of HT_.out (by kernel_rfl)) (fun _ _ _ h=>h) (Or.inr ⟨by rfl,rfl⟩) ?_ ?_;rotate_left
        ·
         simp only [Act.put,sqa,sqb,sqc,i64_w,i32_w];rfl
        refine pure_ (i:=19) (N:=some 63) (v:=undef) (a':=?_) (lb 36 1048575) rfl rfl (any_of HT_.out (by kernel_rfl)) (fun _ _ _ h=>h) (Or.inr ⟨by rfl,rfl⟩) ?_ ?_;rotate_left
        ·
         simp only [Act.put,sqa,sqb,sqc,i64_w,i32_w];rfl
        refine pure_ (i:=20) (N:=some 64) (v:=undef) (a':=?_) (lb 36 2097151) rfl rfl (any_of HT_.out (by kernel_rfl)) (fun _ _ _ h=>h) (Or.inr ⟨by rfl,rfl⟩) ?_ ?_;rotate_left
        ·
         simp only [Act.put,sqa,sqb,sqc,i64_w,i32_w];rfl
        refine pure_ (i:=21) (N:=some 65) (v:=undef) (a':=?_) (lb 36 4194303) rfl rfl (any_of HT_.out (by kernel_rfl)) (fun _ _ _ h=>h) (Or.inr ⟨by rfl,rfl⟩) ?_ ?_;rotate_left
        ·
         simp only [Act.put,sqa,sqb,sqc,i64_w,i32_w];rfl
        refine pure_ (i:=22) (N:=some 66) (v:=undef) (a':=?_) (lb 36 8388607) rfl rfl (any_of HT_.out (by kernel_rfl)) (fun _ _ _ h=>h) (Or.inr ⟨by rfl,rfl⟩) ?_ ?_;rotate_left
        ·
         simp only [Act.put,sqa,sqb,sqc,i64_w,i32_w];rfl
        refine pure_ (i:=23) (N:=some 67) (v:=undef) (a':=?_) (lb 36 16777215) rfl rfl (any_of HT_.out (by kernel_rfl)) (fun _ _ _ h=>h) (Or.inr ⟨by rfl,rfl⟩) ?_ ?_;rotate_left
        ·
         simp only [Act.put,sqa,sqb,sqc,i64_w,i32_w];rfl
        refine pure_ (i:=24) (N:=some 68) (v:=undef) (a':=?_) (lb 36 33554431) rfl rfl (any_of HT_.out (by kernel_rfl)) (fun _ _ _ h=>h) (Or.inr ⟨by rfl,rfl⟩) ?_ ?_;rotate_left
        ·
         simp only [Act.put,sqa,sqb,sqc,i64_w,i32_w];rfl
        refine pure_ (i:=25) (N:=some 69) (v:=?_) (a':=?_) (lb 36 67108863) rfl rfl (any_of HT_.out (by kernel_rfl)) (fun _ _ _ h=>h) (Or.inl ⟨by rfl,?_⟩) ?_ ?_;rotate_left
        ·
         intro w';go_simp;with_reducible rfl
        rotate_left
        ·
         simp only [Act.put,sqa,sqb,sqc,i64_w,i32_w];rfl
        refine pure_ (i:=26) (N:=some 70) (v:=?_) (a':=?_) (lb 36 134217727) rfl rfl (any_of HT_.out (by kernel_rfl)) (fun _ _ _ h=>h) (Or.inl ⟨by rfl,?_⟩) ?_ ?_;rotate_left
        ·
         intro w';go_simp;with_reducible rfl
        rotate_left
        ·
         simp only [Act.put,sqa,sqb,sqc,i64_w,i32_w];rfl
        refine pure_ (i:=27) (N:=some 71) (v:=undef) (a':=?_) (lb 36 268435455) rfl rfl (any_of HT_.out (by kernel_rfl)) (fun _ _ _ h=>h) (Or.inr ⟨by rfl,rfl⟩) ?_ ?_;rotate_left
        ·
         simp only [Act.put,sqa,sqb,sqc,i64_w,i32_w];rfl
        refine pure_ (i:=28) (N:=some 72) (v:=undef) (a':=?_) (lb 36 536870911) rfl rfl (any_of HT_.out (by kernel_rfl)) (fun _ _ _ h=>h) (Or.inr ⟨by rfl,rfl⟩) ?_ ?_;rotate_left
        ·
         simp only [Act.put,sqa,sqb,sqc,i64_w,i32_w];rfl
        refine pure_ (i:=29) (N:=some 73) (v:=undef) (a':=?_) (lb 36 1073741823) rfl rfl (any_of HT_.out (by kernel_rfl)) (fun _ _ _ h=>h) (Or.inr ⟨by rfl,rfl⟩) ?_ ?_;rotate_left
        ·
         simp only [Act.put,sqa,sqb,sqc,i64_w,i32_w];rfl
        refine pure_ (i:=30) (N:=some 74) (v:=undef) (a':=?_) (lb 36 2147483647) rfl rfl (any_of HT_.out (by kernel_rfl)) (fun _ _ _ h=>h) (Or.inr ⟨by rfl,rfl⟩) ?_ ?_;rotate_left
        ·
         simp only [Act.put,sqa,sqb,sqc,i64_w,i32_w];rfl
        refine pure_ (i:=31) (N:=some 75) (v:=undef) (a':=?_) (lb 36 4294967295) rfl rfl (any_of HT_.out (by kernel_rfl)) (fun _ _ _ h=>h) (Or.inr ⟨by rfl,rfl⟩) ?_ ?_;rotate_left
        ·
         simp only [Act.put,sqa,sqb,sqc,i64_w,i32_w];rfl
        refine pure_ (i:=32) (N:=some 76) (v:=undef) (a':=?_) (lb 36 8589934591) rfl rfl (any_of HT_.out (by kernel_rfl)) (fun _ _ _ h=>h) (Or.inr ⟨by rfl,rfl⟩) ?_ ?_;rotate_left
        ·
         simp only [Act.put,sqa,sqb,sqc,i64_w,i32_w];rfl
        refine pure_ (i:=33) (N:=some 77) (v:=undef) (a':=?_) (lb 36 17179869183) rfl rfl (any_of HT_.out (by kernel_rfl)) (fun _ _ _ h=>h) (Or.inr ⟨by rfl,rfl⟩) ?_ ?_;rotate_left
        ·
         simp only [Act.put,sqa,sqb,sqc,i64_w,i32_w];rfl
        refine pure_ (i:=34) (N:=some 78) (v:=?_) (a':=?_) (lb 36 34359738367) rfl rfl (any_of HT_.out (by kernel_rfl)) (fun _ _ _ h=>h) (Or.inl ⟨by rfl,?_⟩) ?_ ?_;rotate_left
        ·
         intro w';go_simp;with_reducible rfl
        rotate_left
        ·
         simp only [Act.put,sqa,sqb,sqc,i64_w,i32_w];rfl
        refine pure_ (i:=35) (N:=some 0) (v:=?_) (a':=?_) (lb 36 68719476735) rfl rfl (any_of HT_.out (by kernel_rfl)) (fun _ _ _ h=>h) (Or.inl ⟨by rfl,?_⟩) ?_ ?_;rotate_left
        ·
         intro w';go_simp;with_reducible rfl
        rotate_left
        ·
         simp only [Act.put,sqa,sqb,sqc,i64_w,i32_w];rfl
        refine done_ (done_of HT_.out (by kernel_rfl)) ?_;try go_wp2
        go_ret;exact ⟨by first|rfl|(simp [errW_none,errW_some] <;> rfl)|(simp [*,errW_none,errW_some] <;> rfl),by repeat (first|(with_reducible first|exact HB.out|apply below_alloc|apply pw_below_drewN|apply below_drew1)|exact HB.out)⟩
      ·
       rw [if_neg c23] at H;have c23b0 : (t253 == 6) = false:=beq_eq_false_iff_ne.mpr c23;have c23b1 : (t253 != 6) = true:=bne_iff_ne.mpr c23;obtain rfl:=Option.some.inj H;obtain ⟨Ao52,co52,eo52⟩:=Kd.R_slice HO_1.out;subst eo52;try go_wp2_with (first|((with_reducible refine gate_callee (f:=19) rfl ?_);refine goesL_ (some 41) rfl rfl Try.func19 (by kernel_rfl) rfl #[.slice Ao52 t242.length co52,.int .i64 1] rfl (by (try simp only [List.map_toArray,List.map_cons,List.map_nil]);first|done|rfl|(simp only [List.length_drop,List.length_take];rfl)) ?_;(with_reducible refine (overlap_Take.calls kj1 _ _ t242 1 t249 t250 _ ?side1 ?side2 A19.out).mono ?_);(case side1=>repeat (first|exact (Kd.R_reads' HO_1.out).2.2|(with_reducible refine Kd.C_alloc ?_ _)|(with_reducible refine Kd.C_drewN ?_ _)|(with_reducible refine Kd.C_drew ?_)));(case side2=>exact (Kd.R_reads' HO_1.out).2.1);rintro e w53 ⟨v251,rfl,ho0,hb⟩;refine ⟨_,rfl,?_⟩;have n0_:=Aside0.mk (Kd.R_elder' (by (with_reducible repeat (first|apply Kd.R_alloc|apply Kd.R_drewN|apply Kd.R_drew));exact HO_1.out) (Kd.R_base ho0) hb);have n1_:=Aside0.mk (Kd.R_lower (Kd.R_new' ho0 (Kd.R_lt (by (with_reducible repeat (first|apply Kd.R_alloc|apply Kd.R_drewN|apply Kd.R_drew));exact HO_1.out))) (below_size (by repeat (first|(with_reducible first|exact HB.out|apply below_alloc|apply pw_below_drewN|apply below_drew1)|exact HB.out))));have n2_:=Aside0.mk (below_step (by repeat (first|(with_reducible first|exact HB.out|apply below_alloc|apply pw_below_drewN|apply below_drew1)|exact HB.out)) hb);clear HO_1;clear HB;have HO_1:=n0_;have HO252:=n1_;have HB:=n2_;clear n0_ n1_ n2_;(try clear hb);(try clear hb2);(try clear hk);(try clear hi);(try clear ho0)))
       have n0_:=Aside0.mk (Kd.R_drew HO_1.out);have n1_:=Aside0.mk (Kd.R_drew HO252.out);have n2_:=Aside0.mk (below_drew1 HB.out);clear HO_1;clear HO252;clear HB;have HO_1:=n0_;have HO252:=n1_;have HB:=n2_;clear n0_ n1_ n2_;obtain ⟨Ao55,co55,eo55⟩:=Kd.R_slice HO252.out;(first|subst eo55|(injection eo55 with f1_ f2_ f3_;have f4_:=f1_.symm;have f5_:=f3_.symm;clear f1_ f2_ f3_;subst f4_;subst f5_))
       refine start_ (n:=36) (S:=fun w'=>True) (ds:=[]) (lb 36 0) (by kernel_rfl) rfl (by kernel_rfl) trivial (fun hHeld=>?_);refine with_tabW intrusionlaw15_lives.tab5 intrusionlaw15_lives.bits5 (fun HT_ HW_=>?_)
       generalize w53.drew = w54 at HO_1 HO252 HB hHeld ⊢;refine pure_ (i:=0) (N:=some 44) (v:=?_) (a':=?_) (lb 36 1) rfl rfl (any_of HT_.out (by kernel_rfl)) (fun _ _ _ h=>h) (Or.inl ⟨by rfl,?_⟩) ?_ ?_;rotate_left
       ·
        intro w';go_simp;with_reducible rfl
       rotate_left
       ·
        simp only [Act.put,sqa,sqb,sqc,i64_w,i32_w];rfl
       refine pure_ (i:=1) (N:=some 45) (v:=?_) (a':=?_) (lb 36 3) rfl rfl (any_of HT_.out (by kernel_rfl)) (fun _ _ _ h=>h) (Or.inl ⟨by rfl,?_⟩) ?_ ?_;rotate_left
       ·
        intro w';go_simp;with_reducible rfl
       rotate_left
       ·
        simp only [Act.put,sqa,sqb,sqc,i64_w,i32_w];rfl
       refine pure_ (i:=2) (N:=some 46) (v:=?_) (a':=?_) (lb 36 7) rfl rfl (any_of HT_.out (by kernel_rfl)) (fun _ _ _ h=>h) (Or.inl ⟨by rfl,?_⟩) ?_ ?_;rotate_left
       ·
        intro w';go_simp;with_reducible rfl
       rotate_left
       ·
        simp only [Act.put,sqa,sqb,sqc,i64_w,i32_w];rfl
       refine pure_ (i:=3) (N:=some 47) (v:=?_) (a':=?_) (lb 36 15) rfl rfl (any_of HT_.out (by kernel_rfl)) (fun _ _ _ h=>h) (Or.inl ⟨by rfl,?_⟩) ?_ ?_;rotate_left
       ·
        intro w';go_simp;with_reducible rfl
       rotate_left
       ·
        simp only [Act.put,sqa,sqb,sqc,i64_w,i32_w];rfl
       refine pure_ (i:=4) (N:=some 48) (v:=?_) (a':=?_) (lb 36 31) rfl rfl (any_of HT_.out (by kernel_rfl)) (fun _ _ _ h=>h) (Or.inl ⟨by rfl,?_⟩) ?_ ?_;rotate_left
       ·
        intro w';go_simp;with_reducible rfl
       rotate_left
       ·
        simp only [Act.put,sqa,sqb,sqc,i64_w,i32_w];rfl
       refine pure_ (i:=5) (N:=some 49) (v:=?_) (a':=?_) (lb 36 63) rfl rfl (any_of HT_.out (by kernel_rfl)) (fun _ _ _ h=>h) (Or.inl ⟨by rfl,?_⟩) ?_ ?_;rotate_left
       ·
        intro w';go_simp;with_reducible rfl
       rotate_left
       ·
        simp only [Act.put,sqa,sqb,sqc,i64_w,i32_w];rfl
       refine pure_ (i:=6) (N:=some 50) (v:=?_) (a':=?_) (lb 36 127) rfl rfl (any_of HT_.out (by kernel_rfl)) (fun _ _ _ h=>h) (Or.inl ⟨by rfl,?_⟩) ?_ ?_;rotate_left
       ·
        intro w';go_simp;with_reducible rfl
       rotate_left
       ·
        simp only [Act.put,sqa,sqb,sqc,i64_w,i32_w];rfl
       refine pure_ (i:=7) (N:=some 51) (v:=?_) (a':=?_) (lb 36 255) rfl rfl (any_of HT_.out (by kernel_rfl)) (fun _ _ _ h=>h) (Or.inl ⟨by rfl,?_⟩) ?_ ?_;rotate_left
       ·
        intro w';go_simp;with_reducible rfl
       rotate_left
       ·
        simp only [Act.put,sqa,sqb,sqc,i64_w,i32_w];rfl
       refine pure_ (i:=8) (N:=some 52) (v:=?_) (a':=?_) (lb 36 511) rfl rfl (any_of HT_.out (by kernel_rfl)) (fun _ _ _ h=>h) (Or.inl ⟨by rfl,?_⟩) ?_ ?_;rotate_left
       ·
        intro w';go_simp;with_reducible rfl
       rotate_left
       ·
        simp only [Act.put,sqa,sqb,sqc,i64_w,i32_w];rfl
       refine one_ (i:=9) (N:=some 53) (lb 36 1023) rfl rfl (one_of HT_.out (by kernel_rfl)) (by decide) (fun K hK=>?_);refine goes_ Try.func23 (by kernel_rfl) rfl #[.slice Ao52 t242.length co52] (by rfl) rfl rfl (by (try simp only [List.map_toArray,List.map_cons,List.map_nil]);first|done|rfl|(simp only [List.length_drop,List.length_take];rfl)) ?_;with_reducible refine (overlap_Size.calls kj1 _ _ t242 t253 _ ?side1 ?side2 A22.out).mono ?_
       (case side1=>repeat (first|exact (Kd.R_reads' HO_1.out).2.2|(with_reducible refine Kd.C_alloc ?_ _)|(with_reducible refine Kd.C_drewN ?_ _)|(with_reducible refine Kd.C_drew ?_)))
       (case side2=>exact (Kd.R_reads' HO_1.out).2.1)
       rintro e w56 ⟨rfl,hb⟩;refine ⟨_,rfl,?_⟩;have n0_:=Aside0.mk (Kd.R_below (by (with_reducible repeat (first|apply Kd.R_alloc|apply Kd.R_drewN|apply Kd.R_drew));exact HO_1.out) hb);have n1_:=Aside0.mk (Kd.R_below (by (with_reducible repeat (first|apply Kd.R_alloc|apply Kd.R_drewN|apply Kd.R_drew));exact HO252.out) hb);have n2_:=Aside0.mk (below_step (by repeat (first|(with_reducible first|exact HB.out|apply below_alloc|apply pw_below_drewN|apply below_drew1)|exact HB.out)) hb);clear HO_1;clear HO252;clear HB;have HO_1:=n0_;have HO252:=n1_;have HB:=n2_;clear n0_ n1_ n2_;(try clear hb);(try clear hb2);(try clear hk);(try clear hi);refine hK.out _ _ trivial (fun hHeld=>?_);clear hK K;refine norm_ (a':=?_) ?_ ?_;rotate_left
       ·
        show Act.put _ (some 53) _ = _
        simp only [Act.put,sqa,sqb,sqc,i64_w,i32_w];rfl
       refine pure_ (i:=10) (N:=some 54) (v:=?_) (a':=?_) (lb 36 2047) rfl rfl (any_of HT_.out (by kernel_rfl)) (fun _ _ _ h=>h) (Or.inl ⟨by rfl,?_⟩) ?_ ?_;rotate_left
       ·
        intro w';go_simp;with_reducible rfl
       rotate_left
       ·
        simp only [Act.put,sqa,sqb,sqc,i64_w,i32_w];rfl
       refine pure_ (i:=11) (N:=some 55) (v:=?_) (a':=?_) (lb 36 4095) rfl rfl (any_of HT_.out (by kernel_rfl)) (fun _ _ _ h=>h) (Or.inl ⟨by rfl,?_⟩) ?_ ?_;rotate_left
       ·
        intro w';go_simp;with_reducible rfl
       rotate_left
       ·
        simp only [Act.put,sqa,sqb,sqc,i64_w,i32_w];rfl
       refine pure_ (i:=12) (N:=some 56) (v:=?_) (a':=?_) (lb 36 8191) rfl rfl (any_of HT_.out (by kernel_rfl)) (fun _ _ _ h=>h) (Or.inl ⟨by rfl,?_⟩) ?_ ?_;rotate_left
       ·
        intro w';go_simp;with_reducible rfl
       rotate_left
       ·
        simp only [Act.put,sqa,sqb,sqc,i64_w,i32_w];rfl
       refine pure_ (i:=13) (N:=some 57) (v:=undef) (a':=?_) (lb 36 16383) rfl rfl (any_of HT_.out (by kernel_rfl)) (fun _ _ _ h=>h) (Or.inr ⟨by rfl,rfl⟩) ?_ ?_;rotate_left
       ·
        simp only [Act.put,sqa,sqb,sqc,i64_w,i32_w];rfl
       refine pure_ (i:=14) (N:=some 58) (v:=undef) (a':=?_) (lb 36 32767) rfl rfl (any_of HT_.out (by kernel_rfl)) (fun _ _ _ h=>h) (Or.inr ⟨by rfl,rfl⟩) ?_ ?_;rotate_left
       ·
        simp only [Act.put,sqa,sqb,sqc,i64_w,i32_w];rfl
       refine pure_ (i:=15) (N:=some 59) (v:=?_) (a':=?_) (lb 36 65535) rfl rfl (any_of HT_.out (by kernel_rfl)) (fun _ _ _ h=>h) (Or.inl ⟨by rfl,?_⟩) ?_ ?_;rotate_left
       ·
        intro w';go_simp;with_reducible rfl
       rotate_left
       ·
        simp only [Act.put,sqa,sqb,sqc,i64_w,i32_w];rfl
       refine pure_ (i:=16) (N:=some 60) (v:=?_) (a':=?_) (lb 36 131071) rfl rfl (any_of HT_.out (by kernel_rfl)) (fun _ _ _ h=>h) (Or.inl ⟨by rfl,?_⟩) ?_ ?_;rotate_left
       ·
        intro w';go_simp;with_reducible rfl
       rotate_left
       ·
        simp only [Act.put,sqa,sqb,sqc,i64_w,i32_w];rfl
       refine pure_ (i:=17) (N:=some 61) (v:=undef) (a':=?_) (lb 36 262143) rfl rfl (any_of HT_.out (by kernel_rfl)) (fun _ _ _ h=>h) (Or.inr ⟨by rfl,rfl⟩) ?_ ?_;rotate_left
       ·
        simp only [Act.put,sqa,sqb,sqc,i64_w,i32_w];rfl
       refine pure_ (i:=18) (N:=some 62) (v:=undef) (a':=?_) (lb 36 524287) rfl rfl (any_of HT_.out (by kernel_rfl)) (fun _ _ _ h=>h) (Or.inr ⟨by rfl,rfl⟩) ?_ ?_;rotate_left
       ·
        simp only [Act.put,sqa,sqb,sqc,i64_w,i32_w];rfl
       refine pure_ (i:=19) (N:=some 63) (v:=undef) (a':=?_) (lb 36 1048575) rfl rfl (any_of HT_.out (by kernel_rfl)) (fun _ _ _ h=>h) (Or.inr ⟨by rfl,rfl⟩) ?_ ?_;rotate_left
       ·
        simp only [Act.put,sqa,sqb,sqc,i64_w,i32_w];rfl
       refine pure_ (i:=20) (N:=some 64) (v:=undef) (a':=?_) (lb 36 2097151) rfl rfl (any_of HT_.out (by kernel_rfl)) (fun _ _ _ h=>h) (Or.inr ⟨by rfl,rfl⟩) ?_ ?_;rotate_left
       ·
        simp only [Act.put,sqa,sqb,sqc,i64_w,i32_w];rfl
       refine pure_ (i:=21) (N:=some 65) (v:=undef) (a':=?_) (lb 36 4194303) rfl rfl (any_of HT_.out (by kernel_rfl)) (fun _ _ _ h=>h) (Or.inr ⟨by rfl,rfl⟩) ?_ ?_;rotate_left
       ·
        simp only [Act.put,sqa,sqb,sqc,i64_w,i32_w];rfl
       refine pure_ (i:=22) (N:=some 66) (v:=undef) (a':=?_) (lb 36 8388607) rfl rfl (any_of HT_.out (by kernel_rfl)) (fun _ _ _ h=>h) (Or.inr ⟨by rfl,rfl⟩) ?_ ?_;rotate_left
       ·
        simp only [Act.put,sqa,sqb,sqc,i64_w,i32_w];rfl
       refine pure_ (i:=23) (N:=some 67) (v:=undef) (a':=?_) (lb 36 16777215) rfl rfl (any_of HT_.out (by kernel_rfl)) (fun _ _ _ h=>h) (Or.inr ⟨by rfl,rfl⟩) ?_ ?_;rotate_left
       ·
        simp only [Act.put,sqa,sqb,sqc,i64_w,i32_w];rfl
       refine pure_ (i:=24) (N:=some 68) (v:=undef) (a':=?_) (lb 36 33554431) rfl rfl (any_of HT_.out (by kernel_rfl)) (fun _ _ _ h=>h) (Or.inr ⟨by rfl,rfl⟩) ?_ ?_;rotate_left
       ·
        simp only [Act.put,sqa,sqb,sqc,i64_w,i32_w];rfl
       refine pure_ (i:=25) (N:=some 69) (v:=?_) (a':=?_) (lb 36 67108863) rfl rfl (any_of HT_.out (by kernel_rfl)) (fun _ _ _ h=>h) (Or.inl ⟨by rfl,?_⟩) ?_ ?_;rotate_left
       ·
        intro w';go_simp;with_reducible rfl
       rotate_left
       ·
        simp only [Act.put,sqa,sqb,sqc,i64_w,i32_w];rfl
       refine pure_ (i:=26) (N:=some 70) (v:=?_) (a':=?_) (lb 36 134217727) rfl rfl (any_of HT_.out (by kernel_rfl)) (fun _ _ _ h=>h) (Or.inl ⟨by rfl,?_⟩) ?_ ?_;rotate_left
       ·
        intro w';go_simp;with_reducible rfl
       rotate_left
       ·
        simp only [Act.put,sqa,sqb,sqc,i64_w,i32_w];rfl
       refine pure_ (i:=27) (N:=some 71) (v:=undef) (a':=?_) (lb 36 268435455) rfl rfl (any_of HT_.out (by kernel_rfl)) (fun _ _ _ h=>h) (Or.inr ⟨by rfl,rfl⟩) ?_ ?_;rotate_left
       ·
        simp only [Act.put,sqa,sqb,sqc,i64_w,i32_w];rfl
       refine pure_ (i:=28) (N:=some 72) (v:=undef) (a':=?_) (lb 36 536870911) rfl rfl (any_of HT_.out (by kernel_rfl)) (fun _ _ _ h=>h) (Or.inr ⟨by rfl,rfl⟩) ?_ ?_;rotate_left
       ·
        simp only [Act.put,sqa,sqb,sqc,i64_w,i32_w];rfl
       refine pure_ (i:=29) (N:=some 73) (v:=undef) (a':=?_) (lb 36 1073741823) rfl rfl (any_of HT_.out (by kernel_rfl)) (fun _ _ _ h=>h) (Or.inr ⟨by rfl,rfl⟩) ?_ ?_;rotate_left
       ·
        simp only [Act.put,sqa,sqb,sqc,i64_w,i32_w];rfl
       refine pure_ (i:=30) (N:=some 74) (v:=undef) (a':=?_) (lb 36 2147483647) rfl rfl (any_of HT_.out (by kernel_rfl)) (fun _ _ _ h=>h) (Or.inr ⟨by rfl,rfl⟩) ?_ ?_;rotate_left
       ·
        simp only [Act.put,sqa,sqb,sqc,i64_w,i32_w];rfl
       refine pure_ (i:=31) (N:=some 75) (v:=undef) (a':=?_) (lb 36 4294967295) rfl rfl (any_of HT_.out (by kernel_rfl)) (fun _ _ _ h=>h) (Or.inr ⟨by rfl,rfl⟩) ?_ ?_;rotate_left
       ·
        simp only [Act.put,sqa,sqb,sqc,i64_w,i32_w];rfl
       refine pure_ (i:=32) (N:=some 76) (v:=undef) (a':=?_) (lb 36 8589934591) rfl rfl (any_of HT_.out (by kernel_rfl)) (fun _ _ _ h=>h) (Or.inr ⟨by rfl,rfl⟩) ?_ ?_;rotate_left
       ·
        simp only [Act.put,sqa,sqb,sqc,i64_w,i32_w];rfl
       refine pure_ (i:=33) (N:=some 77) (v:=undef) (a':=?_) (lb 36 17179869183) rfl rfl (any_of HT_.out (by kernel_rfl)) (fun _ _ _ h=>h) (Or.inr ⟨by rfl,rfl⟩) ?_ ?_;rotate_left
       ·
        simp only [Act.put,sqa,sqb,sqc,i64_w,i32_w];rfl
       refine pure_ (i:=34) (N:=some 78) (v:=?_) (a':=?_) (lb 36 34359738367) rfl rfl (any_of HT_.out (by kernel_rfl)) (fun _ _ _ h=>h) (Or.inl ⟨by rfl,?_⟩) ?_ ?_;rotate_left
       ·
        intro w';go_simp;with_reducible rfl
       rotate_left
       ·
        simp only [Act.put,sqa,sqb,sqc,i64_w,i32_w];rfl
       refine pure_ (i:=35) (N:=some 0) (v:=?_) (a':=?_) (lb 36 68719476735) rfl rfl (any_of HT_.out (by kernel_rfl)) (fun _ _ _ h=>h) (Or.inl ⟨by rfl,?_⟩) ?_ ?_;rotate_left
       ·
        intro w';go_simp;with_reducible rfl
       rotate_left
       ·
        simp only [Act.put,sqa,sqb,sqc,i64_w,i32_w];rfl
       refine done_ (done_of HT_.out (by kernel_rfl)) ?_;try go_wp2
       go_ret;exact ⟨by first|rfl|(simp [errW_none,errW_some] <;> rfl)|(simp [*,errW_none,errW_some] <;> rfl),by repeat (first|(with_reducible first|exact HB.out|apply below_alloc|apply pw_below_drewN|apply below_drew1)|exact HB.out)⟩
     ·
      rw [if_neg c21] at H;have c21b0 : ((t250.length : Int) == 0) = false:=beq_eq_false_iff_ne.mpr c21;have c21b1 : ((t250.length : Int) != 0) = true:=bne_iff_ne.mpr c21;have c21b2 : ¬ (t250 = []):=fun h_=>c21 (by rw [h_];rfl)
      obtain rfl:=Option.some.inj H;obtain ⟨Ao57,co57,eo57⟩:=Kd.R_slice HO_1.out;subst eo57;try go_wp2_with (first|((with_reducible refine gate_callee (f:=19) rfl ?_);refine goesL_ (some 41) rfl rfl Try.func19 (by kernel_rfl) rfl #[.slice Ao57 t242.length co57,.int .i64 1] rfl (by (try simp only [List.map_toArray,List.map_cons,List.map_nil]);first|done|rfl|(simp only [List.length_drop,List.length_take];rfl)) ?_;(with_reducible refine (overlap_Take.calls kj1 _ _ t242 1 t249 t250 _ ?side1 ?side2 A19.out).mono ?_);(case side1=>repeat (first|exact (Kd.R_reads' HO_1.out).2.2|(with_reducible refine Kd.C_alloc ?_ _)|(with_reducible refine Kd.C_drewN ?_ _)|(with_reducible refine Kd.C_drew ?_)));(case side2=>exact (Kd.R_reads' HO_1.out).2.1);rintro e w58 ⟨v251,rfl,ho0,hb⟩;refine ⟨_,rfl,?_⟩;have n0_:=Aside0.mk (Kd.R_elder' (by (with_reducible repeat (first|apply Kd.R_alloc|apply Kd.R_drewN|apply Kd.R_drew));exact HO_1.out) (Kd.R_base ho0) hb);have n1_:=Aside0.mk (Kd.R_lower (Kd.R_new' ho0 (Kd.R_lt (by (with_reducible repeat (first|apply Kd.R_alloc|apply Kd.R_drewN|apply Kd.R_drew));exact HO_1.out))) (below_size (by repeat (first|(with_reducible first|exact HB.out|apply below_alloc|apply pw_below_drewN|apply below_drew1)|exact HB.out))));have n2_:=Aside0.mk (below_step (by repeat (first|(with_reducible first|exact HB.out|apply below_alloc|apply pw_below_drewN|apply below_drew1)|exact HB.out)) hb);clear HO_1;clear HB;have HO_1:=n0_;have HO252:=n1_;have HB:=n2_;clear n0_ n1_ n2_;(try clear hb);(try clear hb2);(try clear hk);(try clear hi);(try clear ho0)))
      have n0_:=Aside0.mk (Kd.R_drew HO_1.out);have n1_:=Aside0.mk (Kd.R_drew HO252.out);have n2_:=Aside0.mk (below_drew1 HB.out);clear HO_1;clear HO252;clear HB;have HO_1:=n0_;have HO252:=n1_;have HB:=n2_;clear n0_ n1_ n2_;obtain ⟨Ao60,co60,eo60⟩:=Kd.R_slice HO252.out;(first|subst eo60|(injection eo60 with f1_ f2_ f3_;have f4_:=f1_.symm;have f5_:=f3_.symm;clear f1_ f2_ f3_;subst f4_;subst f5_))
      refine start_ (n:=36) (S:=fun w'=>True) (ds:=[]) (lb 36 0) (by kernel_rfl) rfl (by kernel_rfl) trivial (fun hHeld=>?_);refine with_tabW intrusionlaw15_lives.tab5 intrusionlaw15_lives.bits5 (fun HT_ HW_=>?_)
      generalize w58.drew = w59 at HO_1 HO252 HB hHeld ⊢;refine pure_ (i:=0) (N:=some 44) (v:=?_) (a':=?_) (lb 36 1) rfl rfl (any_of HT_.out (by kernel_rfl)) (fun _ _ _ h=>h) (Or.inl ⟨by rfl,?_⟩) ?_ ?_;rotate_left
      ·
       intro w';go_simp;with_reducible rfl
      rotate_left
      ·
       simp only [Act.put,sqa,sqb,sqc,i64_w,i32_w];rfl
      refine pure_ (i:=1) (N:=some 45) (v:=?_) (a':=?_) (lb 36 3) rfl rfl (any_of HT_.out (by kernel_rfl)) (fun _ _ _ h=>h) (Or.inl ⟨by rfl,?_⟩) ?_ ?_;rotate_left
      ·
       intro w';go_simp;with_reducible rfl
      rotate_left
      ·
       simp only [Act.put,sqa,sqb,sqc,i64_w,i32_w];rfl
      refine pure_ (i:=2) (N:=some 46) (v:=?_) (a':=?_) (lb 36 7) rfl rfl (any_of HT_.out (by kernel_rfl)) (fun _ _ _ h=>h) (Or.inl ⟨by rfl,?_⟩) ?_ ?_;rotate_left
      ·
       intro w';go_simp;with_reducible rfl
      rotate_left
      ·
       simp only [Act.put,sqa,sqb,sqc,i64_w,i32_w];rfl
      refine pure_ (i:=3) (N:=some 47) (v:=?_) (a':=?_) (lb 36 15) rfl rfl (any_of HT_.out (by kernel_rfl)) (fun _ _ _ h=>h) (Or.inl ⟨by rfl,?_⟩) ?_ ?_;rotate_left
      ·
       intro w';go_simp;with_reducible rfl
      rotate_left
      ·
       simp only [Act.put,sqa,sqb,sqc,i64_w,i32_w];rfl
      refine pure_ (i:=4) (N:=some 48) (v:=?_) (a':=?_) (lb 36 31) rfl rfl (any_of HT_.out (by kernel_rfl)) (fun _ _ _ h=>h) (Or.inl ⟨by rfl,?_⟩) ?_ ?_;rotate_left
      ·
       intro w';go_simp;with_reducible rfl
      rotate_left
      ·
       simp only [Act.put,sqa,sqb,sqc,i64_w,i32_w];rfl
      refine pure_ (i:=5) (N:=some 49) (v:=?_) (a':=?_) (lb 36 63) rfl rfl (any_of HT_.out (by kernel_rfl)) (fun _ _ _ h=>h) (Or.inl ⟨by rfl,?_⟩) ?_ ?_;rotate_left
      ·
       intro w';go_simp;with_reducible rfl
      rotate_left
      ·
       simp only [Act.put,sqa,sqb,sqc,i64_w,i32_w];rfl
      refine pure_ (i:=6) (N:=some 50) (v:=?_) (a':=?_) (lb 36 127) rfl rfl (any_of HT_.out (by kernel_rfl)) (fun _ _ _ h=>h) (Or.inl ⟨by rfl,?_⟩) ?_ ?_;rotate_left
      ·
       intro w';go_simp;with_reducible rfl
      rotate_left
      ·
       simp only [Act.put,sqa,sqb,sqc,i64_w,i32_w];rfl
      refine pure_ (i:=7) (N:=some 51) (v:=?_) (a':=?_) (lb 36 255) rfl rfl (any_of HT_.out (by kernel_rfl)) (fun _ _ _ h=>h) (Or.inl ⟨by rfl,?_⟩) ?_ ?_;rotate_left
      ·
       intro w';go_simp;with_reducible rfl
      rotate_left
      ·
       simp only [Act.put,sqa,sqb,sqc,i64_w,i32_w];rfl
      refine pure_ (i:=8) (N:=some 52) (v:=undef) (a':=?_) (lb 36 511) rfl rfl (any_of HT_.out (by kernel_rfl)) (fun _ _ _ h=>h) (Or.inr ⟨by rfl,rfl⟩) ?_ ?_;rotate_left
      ·
       simp only [Act.put,sqa,sqb,sqc,i64_w,i32_w];rfl
      refine pure_ (i:=9) (N:=some 53) (v:=undef) (a':=?_) (lb 36 1023) rfl rfl (any_of HT_.out (by kernel_rfl)) (fun _ _ _ h=>h) (Or.inr ⟨by rfl,rfl⟩) ?_ ?_;rotate_left
      ·
       simp only [Act.put,sqa,sqb,sqc,i64_w,i32_w];rfl
      refine pure_ (i:=10) (N:=some 54) (v:=undef) (a':=?_) (lb 36 2047) rfl rfl (any_of HT_.out (by kernel_rfl)) (fun _ _ _ h=>h) (Or.inr ⟨by rfl,rfl⟩) ?_ ?_;rotate_left
      ·
       simp only [Act.put,sqa,sqb,sqc,i64_w,i32_w];rfl
      refine pure_ (i:=11) (N:=some 55) (v:=?_) (a':=?_) (lb 36 4095) rfl rfl (any_of HT_.out (by kernel_rfl)) (fun _ _ _ h=>h) (Or.inl ⟨by rfl,?_⟩) ?_ ?_;rotate_left
      ·
       intro w';go_simp;with_reducible rfl
      rotate_left
      ·
       simp only [Act.put,sqa,sqb,sqc,i64_w,i32_w];rfl
      refine pure_ (i:=12) (N:=some 56) (v:=?_) (a':=?_) (lb 36 8191) rfl rfl (any_of HT_.out (by kernel_rfl)) (fun _ _ _ h=>h) (Or.inl ⟨by rfl,?_⟩) ?_ ?_;rotate_left
      ·
       intro w';go_simp;with_reducible rfl
      rotate_left
      ·
       simp only [Act.put,sqa,sqb,sqc,i64_w,i32_w];rfl
      refine pure_ (i:=13) (N:=some 57) (v:=undef) (a':=?_) (lb 36 16383) rfl rfl (any_of HT_.out (by kernel_rfl)) (fun _ _ _ h=>h) (Or.inr ⟨by rfl,rfl⟩) ?_ ?_;rotate_left
      ·
       simp only [Act.put,sqa,sqb,sqc,i64_w,i32_w];rfl
      refine pure_ (i:=14) (N:=some 58) (v:=undef) (a':=?_) (lb 36 32767) rfl rfl (any_of HT_.out (by kernel_rfl)) (fun _ _ _ h=>h) (Or.inr ⟨by rfl,rfl⟩) ?_ ?_;rotate_left
      ·
       simp only [Act.put,sqa,sqb,sqc,i64_w,i32_w];rfl
      refine pure_ (i:=15) (N:=some 59) (v:=?_) (a':=?_) (lb 36 65535) rfl rfl (any_of HT_.out (by kernel_rfl)) (fun _ _ _ h=>h) (Or.inl ⟨by rfl,?_⟩) ?_ ?_;rotate_left
      ·
       intro w';go_simp;with_reducible rfl
      rotate_left
      ·
       simp only [Act.put,sqa,sqb,sqc,i64_w,i32_w];rfl
      refine pure_ (i:=16) (N:=some 60) (v:=?_) (a':=?_) (lb 36 131071) rfl rfl (any_of HT_.out (by kernel_rfl)) (fun _ _ _ h=>h) (Or.inl ⟨by rfl,?_⟩) ?_ ?_;rotate_left
      ·
       intro w';go_simp;with_reducible rfl
      rotate_left
      ·
       simp only [Act.put,sqa,sqb,sqc,i64_w,i32_w];rfl
      refine pure_ (i:=17) (N:=some 61) (v:=undef) (a':=?_) (lb 36 262143) rfl rfl (any_of HT_.out (by kernel_rfl)) (fun _ _ _ h=>h) (Or.inr ⟨by rfl,rfl⟩) ?_ ?_;rotate_left
      ·
       simp only [Act.put,sqa,sqb,sqc,i64_w,i32_w];rfl
      refine pure_ (i:=18) (N:=some 62) (v:=undef) (a':=?_) (lb 36 524287) rfl rfl (any_of HT_.out (by kernel_rfl)) (fun _ _ _ h=>h) (Or.inr ⟨by rfl,rfl⟩) ?_ ?_;rotate_left
      ·
       simp only [Act.put,sqa,sqb,sqc,i64_w,i32_w];rfl
      refine pure_ (i:=19) (N:=some 63) (v:=undef) (a':=?_) (lb 36 1048575) rfl rfl (any_of HT_.out (by kernel_rfl)) (fun _ _ _ h=>h) (Or.inr ⟨by rfl,rfl⟩) ?_ ?_;rotate_left
      ·
       simp only [Act.put,sqa,sqb,sqc,i64_w,i32_w];rfl
      refine pure_ (i:=20) (N:=some 64) (v:=undef) (a':=?_) (lb 36 2097151) rfl rfl (any_of HT_.out (by kernel_rfl)) (fun _ _ _ h=>h) (Or.inr ⟨by rfl,rfl⟩) ?_ ?_;rotate_left
      ·
       simp only [Act.put,sqa,sqb,sqc,i64_w,i32_w];rfl
      refine pure_ (i:=21) (N:=some 65) (v:=undef) (a':=?_) (lb 36 4194303) rfl rfl (any_of HT_.out (by kernel_rfl)) (fun _ _ _ h=>h) (Or.inr ⟨by rfl,rfl⟩) ?_ ?_;rotate_left
      ·
       simp only [Act.put,sqa,sqb,sqc,i64_w,i32_w];rfl
      refine pure_ (i:=22) (N:=some 66) (v:=undef) (a':=?_) (lb 36 8388607) rfl rfl (any_of HT_.out (by kernel_rfl)) (fun _ _ _ h=>h) (Or.inr ⟨by rfl,rfl⟩) ?_ ?_;rotate_left
      ·
       simp only [Act.put,sqa,sqb,sqc,i64_w,i32_w];rfl
      refine pure_ (i:=23) (N:=some 67) (v:=undef) (a':=?_) (lb 36 16777215) rfl rfl (any_of HT_.out (by kernel_rfl)) (fun _ _ _ h=>h) (Or.inr ⟨by rfl,rfl⟩) ?_ ?_;rotate_left
      ·
       simp only [Act.put,sqa,sqb,sqc,i64_w,i32_w];rfl
      refine pure_ (i:=24) (N:=some 68) (v:=undef) (a':=?_) (lb 36 33554431) rfl rfl (any_of HT_.out (by kernel_rfl)) (fun _ _ _ h=>h) (Or.inr ⟨by rfl,rfl⟩) ?_ ?_;rotate_left
      ·
       simp only [Act.put,sqa,sqb,sqc,i64_w,i32_w];rfl
      refine pure_ (i:=25) (N:=some 69) (v:=?_) (a':=?_) (lb 36 67108863) rfl rfl (any_of HT_.out (by kernel_rfl)) (fun _ _ _ h=>h) (Or.inl ⟨by rfl,?_⟩) ?_ ?_;rotate_left
      ·
       intro w';go_simp;with_reducible rfl
      rotate_left
      ·
       simp only [Act.put,sqa,sqb,sqc,i64_w,i32_w];rfl
      refine pure_ (i:=26) (N:=some 70) (v:=?_) (a':=?_) (lb 36 134217727) rfl rfl (any_of HT_.out (by kernel_rfl)) (fun _ _ _ h=>h) (Or.inl ⟨by rfl,?_⟩) ?_ ?_;rotate_left
      ·
       intro w';go_simp;with_reducible rfl
      rotate_left
      ·
       simp only [Act.put,sqa,sqb,sqc,i64_w,i32_w];rfl
      refine pure_ (i:=27) (N:=some 71) (v:=undef) (a':=?_) (lb 36 268435455) rfl rfl (any_of HT_.out (by kernel_rfl)) (fun _ _ _ h=>h) (Or.inr ⟨by rfl,rfl⟩) ?_ ?_;rotate_left
      ·
       simp only [Act.put,sqa,sqb,sqc,i64_w,i32_w];rfl
      refine pure_ (i:=28) (N:=some 72) (v:=undef) (a':=?_) (lb 36 536870911) rfl rfl (any_of HT_.out (by kernel_rfl)) (fun _ _ _ h=>h) (Or.inr ⟨by rfl,rfl⟩) ?_ ?_;rotate_left
      ·
       simp only [Act.put,sqa,sqb,sqc,i64_w,i32_w];rfl
      refine pure_ (i:=29) (N:=some 73) (v:=undef) (a':=?_) (lb 36 1073741823) rfl rfl (any_of HT_.out (by kernel_rfl)) (fun _ _ _ h=>h) (Or.inr ⟨by rfl,rfl⟩) ?_ ?_;rotate_left
      ·
       simp only [Act.put,sqa,sqb,sqc,i64_w,i32_w];rfl
      refine pure_ (i:=30) (N:=some 74) (v:=undef) (a':=?_) (lb 36 2147483647) rfl rfl (any_of HT_.out (by kernel_rfl)) (fun _ _ _ h=>h) (Or.inr ⟨by rfl,rfl⟩) ?_ ?_;rotate_left
      ·
       simp only [Act.put,sqa,sqb,sqc,i64_w,i32_w];rfl
      refine pure_ (i:=31) (N:=some 75) (v:=undef) (a':=?_) (lb 36 4294967295) rfl rfl (any_of HT_.out (by kernel_rfl)) (fun _ _ _ h=>h) (Or.inr ⟨by rfl,rfl⟩) ?_ ?_;rotate_left
      ·
       simp only [Act.put,sqa,sqb,sqc,i64_w,i32_w];rfl
      refine pure_ (i:=32) (N:=some 76) (v:=undef) (a':=?_) (lb 36 8589934591) rfl rfl (any_of HT_.out (by kernel_rfl)) (fun _ _ _ h=>h) (Or.inr ⟨by rfl,rfl⟩) ?_ ?_;rotate_left
      ·
       simp only [Act.put,sqa,sqb,sqc,i64_w,i32_w];rfl
      refine pure_ (i:=33) (N:=some 77) (v:=undef) (a':=?_) (lb 36 17179869183) rfl rfl (any_of HT_.out (by kernel_rfl)) (fun _ _ _ h=>h) (Or.inr ⟨by rfl,rfl⟩) ?_ ?_;rotate_left
      ·
       simp only [Act.put,sqa,sqb,sqc,i64_w,i32_w];rfl
      refine pure_ (i:=34) (N:=some 78) (v:=?_) (a':=?_) (lb 36 34359738367) rfl rfl (any_of HT_.out (by kernel_rfl)) (fun _ _ _ h=>h) (Or.inl ⟨by rfl,?_⟩) ?_ ?_;rotate_left
      ·
       intro w';go_simp;with_reducible rfl
      rotate_left
      ·
       simp only [Act.put,sqa,sqb,sqc,i64_w,i32_w];rfl
      refine pure_ (i:=35) (N:=some 0) (v:=?_) (a':=?_) (lb 36 68719476735) rfl rfl (any_of HT_.out (by kernel_rfl)) (fun _ _ _ h=>h) (Or.inl ⟨by rfl,?_⟩) ?_ ?_;rotate_left
      ·
       intro w';go_simp;with_reducible rfl
      rotate_left
      ·
       simp only [Act.put,sqa,sqb,sqc,i64_w,i32_w];rfl
      refine done_ (done_of HT_.out (by kernel_rfl)) ?_;try go_wp2
      go_ret;exact ⟨by first|rfl|(simp [errW_none,errW_some] <;> rfl)|(simp [*,errW_none,errW_some] <;> rfl),by repeat (first|(with_reducible first|exact HB.out|apply below_alloc|apply pw_below_drewN|apply below_drew1)|exact HB.out)⟩
    ·
     rw [if_neg c20] at H;have c20b0 : (t249.toList == ([97,98,98,98,98] : List UInt8)) = false:=beq_eq_false_iff_ne.mpr c20;have c20b1 : (t249.toList != ([97,98,98,98,98] : List UInt8)) = true:=bne_iff_ne.mpr c20;obtain rfl:=Option.some.inj H;obtain ⟨Ao61,co61,eo61⟩:=Kd.R_slice HO_1.out;subst eo61;try go_wp2_with (first|((with_reducible refine gate_callee (f:=19) rfl ?_);refine goesL_ (some 41) rfl rfl Try.func19 (by kernel_rfl) rfl #[.slice Ao61 t242.length co61,.int .i64 1] rfl (by (try simp only [List.map_toArray,List.map_cons,List.map_nil]);first|done|rfl|(simp only [List.length_drop,List.length_take];rfl)) ?_;(with_reducible refine (overlap_Take.calls kj1 _ _ t242 1 t249 t250 _ ?side1 ?side2 A19.out).mono ?_);(case side1=>repeat (first|exact (Kd.R_reads' HO_1.out).2.2|(with_reducible refine Kd.C_alloc ?_ _)|(with_reducible refine Kd.C_drewN ?_ _)|(with_reducible refine Kd.C_drew ?_)));(case side2=>exact (Kd.R_reads' HO_1.out).2.1);rintro e w62 ⟨v251,rfl,ho0,hb⟩;refine ⟨_,rfl,?_⟩;have n0_:=Aside0.mk (Kd.R_elder' (by (with_reducible repeat (first|apply Kd.R_alloc|apply Kd.R_drewN|apply Kd.R_drew));exact HO_1.out) (Kd.R_base ho0) hb);have n1_:=Aside0.mk (Kd.R_lower (Kd.R_new' ho0 (Kd.R_lt (by (with_reducible repeat (first|apply Kd.R_alloc|apply Kd.R_drewN|apply Kd.R_drew));exact HO_1.out))) (below_size (by repeat (first|(with_reducible first|exact HB.out|apply below_alloc|apply pw_below_drewN|apply below_drew1)|exact HB.out))));have n2_:=Aside0.mk (below_step (by repeat (first|(with_reducible first|exact HB.out|apply below_alloc|apply pw_below_drewN|apply below_drew1)|exact HB.out)) hb);clear HO_1;clear HB;have HO_1:=n0_;have HO252:=n1_;have HB:=n2_;clear n0_ n1_ n2_;(try clear hb);(try clear hb2);(try clear hk);(try clear hi);(try clear ho0)))
     have n0_:=Aside0.mk (Kd.R_drew HO_1.out);have n1_:=Aside0.mk (Kd.R_drew HO252.out);have n2_:=Aside0.mk (below_drew1 HB.out);clear HO_1;clear HO252;clear HB;have HO_1:=n0_;have HO252:=n1_;have HB:=n2_;clear n0_ n1_ n2_;refine start_ (n:=36) (S:=fun w'=>True) (ds:=[]) (lb 36 0) (by kernel_rfl) rfl (by kernel_rfl) trivial (fun hHeld=>?_);refine with_tabW intrusionlaw15_lives.tab5 intrusionlaw15_lives.bits5 (fun HT_ HW_=>?_)
     generalize w62.drew = w63 at HO_1 HO252 HB hHeld ⊢;refine pure_ (i:=0) (N:=some 44) (v:=?_) (a':=?_) (lb 36 1) rfl rfl (any_of HT_.out (by kernel_rfl)) (fun _ _ _ h=>h) (Or.inl ⟨by rfl,?_⟩) ?_ ?_;rotate_left
     ·
      intro w';go_simp;with_reducible rfl
     rotate_left
     ·
      simp only [Act.put,sqa,sqb,sqc,i64_w,i32_w];rfl
     refine pure_ (i:=1) (N:=some 45) (v:=?_) (a':=?_) (lb 36 3) rfl rfl (any_of HT_.out (by kernel_rfl)) (fun _ _ _ h=>h) (Or.inl ⟨by rfl,?_⟩) ?_ ?_;rotate_left
     ·
      intro w';go_simp;with_reducible rfl
     rotate_left
     ·
      simp only [Act.put,sqa,sqb,sqc,i64_w,i32_w];rfl
     refine pure_ (i:=2) (N:=some 46) (v:=?_) (a':=?_) (lb 36 7) rfl rfl (any_of HT_.out (by kernel_rfl)) (fun _ _ _ h=>h) (Or.inl ⟨by rfl,?_⟩) ?_ ?_;rotate_left
     ·
      intro w';go_simp;with_reducible rfl
     rotate_left
     ·
      simp only [Act.put,sqa,sqb,sqc,i64_w,i32_w];rfl
     refine pure_ (i:=3) (N:=some 47) (v:=undef) (a':=?_) (lb 36 15) rfl rfl (any_of HT_.out (by kernel_rfl)) (fun _ _ _ h=>h) (Or.inr ⟨by rfl,rfl⟩) ?_ ?_;rotate_left
     ·
      simp only [Act.put,sqa,sqb,sqc,i64_w,i32_w];rfl
     refine pure_ (i:=4) (N:=some 48) (v:=undef) (a':=?_) (lb 36 31) rfl rfl (any_of HT_.out (by kernel_rfl)) (fun _ _ _ h=>h) (Or.inr ⟨by rfl,rfl⟩) ?_ ?_;rotate_left
     ·
      simp only [Act.put,sqa,sqb,sqc,i64_w,i32_w];rfl
     refine pure_ (i:=5) (N:=some 49) (v:=undef) (a':=?_) (lb 36 63) rfl rfl (any_of HT_.out (by kernel_rfl)) (fun _ _ _ h=>h) (Or.inr ⟨by rfl,rfl⟩) ?_ ?_;rotate_left
     ·
      simp only [Act.put,sqa,sqb,sqc,i64_w,i32_w];rfl
     refine pure_ (i:=6) (N:=some 50) (v:=?_) (a':=?_) (lb 36 127) rfl rfl (any_of HT_.out (by kernel_rfl)) (fun _ _ _ h=>h) (Or.inl ⟨by rfl,?_⟩) ?_ ?_;rotate_left
     ·
      intro w';go_simp;with_reducible rfl
     rotate_left
     ·
      simp only [Act.put,sqa,sqb,sqc,i64_w,i32_w];rfl
     refine pure_ (i:=7) (N:=some 51) (v:=?_) (a':=?_) (lb 36 255) rfl rfl (any_of HT_.out (by kernel_rfl)) (fun _ _ _ h=>h) (Or.inl ⟨by rfl,?_⟩) ?_ ?_;rotate_left
     ·
      intro w';go_simp;with_reducible rfl
     rotate_left
     ·
      simp only [Act.put,sqa,sqb,sqc,i64_w,i32_w];rfl
     refine pure_ (i:=8) (N:=some 52) (v:=undef) (a':=?_) (lb 36 511) rfl rfl (any_of HT_.out (by kernel_rfl)) (fun _ _ _ h=>h) (Or.inr ⟨by rfl,rfl⟩) ?_ ?_;rotate_left
     ·
      simp only [Act.put,sqa,sqb,sqc,i64_w,i32_w];rfl
     refine pure_ (i:=9) (N:=some 53) (v:=undef) (a':=?_) (lb 36 1023) rfl rfl (any_of HT_.out (by kernel_rfl)) (fun _ _ _ h=>h) (Or.inr ⟨by rfl,rfl⟩) ?_ ?_;rotate_left
     ·
      simp only [Act.put,sqa,sqb,sqc,i64_w,i32_w];rfl
     refine pure_ (i:=10) (N:=some 54) (v:=undef) (a':=?_) (lb 36 2047) rfl rfl (any_of HT_.out (by kernel_rfl)) (fun _ _ _ h=>h) (Or.inr ⟨by rfl,rfl⟩) ?_ ?_;rotate_left
     ·
      simp only [Act.put,sqa,sqb,sqc,i64_w,i32_w];rfl
     refine pure_ (i:=11) (N:=some 55) (v:=?_) (a':=?_) (lb 36 4095) rfl rfl (any_of HT_.out (by kernel_rfl)) (fun _ _ _ h=>h) (Or.inl ⟨by rfl,?_⟩) ?_ ?_;rotate_left
     ·
      intro w';go_simp;with_reducible rfl
     rotate_left
     ·
      simp only [Act.put,sqa,sqb,sqc,i64_w,i32_w];rfl
     refine pure_ (i:=12) (N:=some 56) (v:=?_) (a':=?_) (lb 36 8191) rfl rfl (any_of HT_.out (by kernel_rfl)) (fun _ _ _ h=>h) (Or.inl ⟨by rfl,?_⟩) ?_ ?_;rotate_left
     ·
      intro w';go_simp;with_reducible rfl
     rotate_left
     ·
      simp only [Act.put,sqa,sqb,sqc,i64_w,i32_w];rfl
     refine pure_ (i:=13) (N:=some 57) (v:=undef) (a':=?_) (lb 36 16383) rfl rfl (any_of HT_.out (by kernel_rfl)) (fun _ _ _ h=>h) (Or.inr ⟨by rfl,rfl⟩) ?_ ?_;rotate_left
     ·
      simp only [Act.put,sqa,sqb,sqc,i64_w,i32_w];rfl
     refine pure_ (i:=14) (N:=some 58) (v:=undef) (a':=?_) (lb 36 32767) rfl rfl (any_of HT_.out (by kernel_rfl)) (fun _ _ _ h=>h) (Or.inr ⟨by rfl,rfl⟩) ?_ ?_;rotate_left
     ·
      simp only [Act.put,sqa,sqb,sqc,i64_w,i32_w];rfl
     refine pure_ (i:=15) (N:=some 59) (v:=?_) (a':=?_) (lb 36 65535) rfl rfl (any_of HT_.out (by kernel_rfl)) (fun _ _ _ h=>h) (Or.inl ⟨by rfl,?_⟩) ?_ ?_;rotate_left
     ·
      intro w';go_simp;with_reducible rfl
     rotate_left
     ·
      simp only [Act.put,sqa,sqb,sqc,i64_w,i32_w];rfl
     refine pure_ (i:=16) (N:=some 60) (v:=?_) (a':=?_) (lb 36 131071) rfl rfl (any_of HT_.out (by kernel_rfl)) (fun _ _ _ h=>h) (Or.inl ⟨by rfl,?_⟩) ?_ ?_;rotate_left
     ·
      intro w';go_simp;with_reducible rfl
     rotate_left
     ·
      simp only [Act.put,sqa,sqb,sqc,i64_w,i32_w];rfl
     refine pure_ (i:=17) (N:=some 61) (v:=undef) (a':=?_) (lb 36 262143) rfl rfl (any_of HT_.out (by kernel_rfl)) (fun _ _ _ h=>h) (Or.inr ⟨by rfl,rfl⟩) ?_ ?_;rotate_left
     ·
      simp only [Act.put,sqa,sqb,sqc,i64_w,i32_w];rfl
     refine pure_ (i:=18) (N:=some 62) (v:=undef) (a':=?_) (lb 36 524287) rfl rfl (any_of HT_.out (by kernel_rfl)) (fun _ _ _ h=>h) (Or.inr ⟨by rfl,rfl⟩) ?_ ?_;rotate_left
     ·
      simp only [Act.put,sqa,sqb,sqc,i64_w,i32_w];rfl
     refine pure_ (i:=19) (N:=some 63) (v:=undef) (a':=?_) (lb 36 1048575) rfl rfl (any_of HT_.out (by kernel_rfl)) (fun _ _ _ h=>h) (Or.inr ⟨by rfl,rfl⟩) ?_ ?_;rotate_left
     ·
      simp only [Act.put,sqa,sqb,sqc,i64_w,i32_w];rfl
     refine pure_ (i:=20) (N:=some 64) (v:=undef) (a':=?_) (lb 36 2097151) rfl rfl (any_of HT_.out (by kernel_rfl)) (fun _ _ _ h=>h) (Or.inr ⟨by rfl,rfl⟩) ?_ ?_;rotate_left
     ·
      simp only [Act.put,sqa,sqb,sqc,i64_w,i32_w];rfl
     refine pure_ (i:=21) (N:=some 65) (v:=undef) (a':=?_) (lb 36 4194303) rfl rfl (any_of HT_.out (by kernel_rfl)) (fun _ _ _ h=>h) (Or.inr ⟨by rfl,rfl⟩) ?_ ?_;rotate_left
     ·
      simp only [Act.put,sqa,sqb,sqc,i64_w,i32_w];rfl
     refine pure_ (i:=22) (N:=some 66) (v:=undef) (a':=?_) (lb 36 8388607) rfl rfl (any_of HT_.out (by kernel_rfl)) (fun _ _ _ h=>h) (Or.inr ⟨by rfl,rfl⟩) ?_ ?_;rotate_left
     ·
      simp only [Act.put,sqa,sqb,sqc,i64_w,i32_w];rfl
     refine pure_ (i:=23) (N:=some 67) (v:=undef) (a':=?_) (lb 36 16777215) rfl rfl (any_of HT_.out (by kernel_rfl)) (fun _ _ _ h=>h) (Or.inr ⟨by rfl,rfl⟩) ?_ ?_;rotate_left
     ·
      simp only [Act.put,sqa,sqb,sqc,i64_w,i32_w];rfl
     refine pure_ (i:=24) (N:=some 68) (v:=undef) (a':=?_) (lb 36 33554431) rfl rfl (any_of HT_.out (by kernel_rfl)) (fun _ _ _ h=>h) (Or.inr ⟨by rfl,rfl⟩) ?_ ?_;rotate_left
     ·
      simp only [Act.put,sqa,sqb,sqc,i64_w,i32_w];rfl
     refine pure_ (i:=25) (N:=some 69) (v:=?_) (a':=?_) (lb 36 67108863) rfl rfl (any_of HT_.out (by kernel_rfl)) (fun _ _ _ h=>h) (Or.inl ⟨by rfl,?_⟩) ?_ ?_;rotate_left
     ·
      intro w';go_simp;with_reducible rfl
     rotate_left
     ·
      simp only [Act.put,sqa,sqb,sqc,i64_w,i32_w];rfl
     refine pure_ (i:=26) (N:=some 70) (v:=?_) (a':=?_) (lb 36 134217727) rfl rfl (any_of HT_.out (by kernel_rfl)) (fun _ _ _ h=>h) (Or.inl ⟨by rfl,?_⟩) ?_ ?_;rotate_left
     ·
      intro w';go_simp;with_reducible rfl
     rotate_left
     ·
      simp only [Act.put,sqa,sqb,sqc,i64_w,i32_w];rfl
     refine pure_ (i:=27) (N:=some 71) (v:=undef) (a':=?_) (lb 36 268435455) rfl rfl (any_of HT_.out (by kernel_rfl)) (fun _ _ _ h=>h) (Or.inr ⟨by rfl,rfl⟩) ?_ ?_;rotate_left
     ·
      simp only [Act.put,sqa,sqb,sqc,i64_w,i32_w];rfl
     refine pure_ (i:=28) (N:=some 72) (v:=undef) (a':=?_) (lb 36 536870911) rfl rfl (any_of HT_.out (by kernel_rfl)) (fun _ _ _ h=>h) (Or.inr ⟨by rfl,rfl⟩) ?_ ?_;rotate_left
     ·
      simp only [Act.put,sqa,sqb,sqc,i64_w,i32_w];rfl
     refine pure_ (i:=29) (N:=some 73) (v:=undef) (a':=?_) (lb 36 1073741823) rfl rfl (any_of HT_.out (by kernel_rfl)) (fun _ _ _ h=>h) (Or.inr ⟨by rfl,rfl⟩) ?_ ?_;rotate_left
     ·
      simp only [Act.put,sqa,sqb,sqc,i64_w,i32_w];rfl
     refine pure_ (i:=30) (N:=some 74) (v:=undef) (a':=?_) (lb 36 2147483647) rfl rfl (any_of HT_.out (by kernel_rfl)) (fun _ _ _ h=>h) (Or.inr ⟨by rfl,rfl⟩) ?_ ?_;rotate_left
     ·
      simp only [Act.put,sqa,sqb,sqc,i64_w,i32_w];rfl
     refine pure_ (i:=31) (N:=some 75) (v:=undef) (a':=?_) (lb 36 4294967295) rfl rfl (any_of HT_.out (by kernel_rfl)) (fun _ _ _ h=>h) (Or.inr ⟨by rfl,rfl⟩) ?_ ?_;rotate_left
     ·
      simp only [Act.put,sqa,sqb,sqc,i64_w,i32_w];rfl
     refine pure_ (i:=32) (N:=some 76) (v:=undef) (a':=?_) (lb 36 8589934591) rfl rfl (any_of HT_.out (by kernel_rfl)) (fun _ _ _ h=>h) (Or.inr ⟨by rfl,rfl⟩) ?_ ?_;rotate_left
     ·
      simp only [Act.put,sqa,sqb,sqc,i64_w,i32_w];rfl
     refine pure_ (i:=33) (N:=some 77) (v:=undef) (a':=?_) (lb 36 17179869183) rfl rfl (any_of HT_.out (by kernel_rfl)) (fun _ _ _ h=>h) (Or.inr ⟨by rfl,rfl⟩) ?_ ?_;rotate_left
     ·
      simp only [Act.put,sqa,sqb,sqc,i64_w,i32_w];rfl
     refine pure_ (i:=34) (N:=some 78) (v:=?_) (a':=?_) (lb 36 34359738367) rfl rfl (any_of HT_.out (by kernel_rfl)) (fun _ _ _ h=>h) (Or.inl ⟨by rfl,?_⟩) ?_ ?_;rotate_left
     ·
      intro w';go_simp;with_reducible rfl
     rotate_left
     ·
      simp only [Act.put,sqa,sqb,sqc,i64_w,i32_w];rfl
     refine pure_ (i:=35) (N:=some 0) (v:=?_) (a':=?_) (lb 36 68719476735) rfl rfl (any_of HT_.out (by kernel_rfl)) (fun _ _ _ h=>h) (Or.inl ⟨by rfl,?_⟩) ?_ ?_;rotate_left
     ·
      intro w';go_simp;with_reducible rfl
     rotate_left
     ·
      simp only [Act.put,sqa,sqb,sqc,i64_w,i32_w];rfl
     refine done_ (done_of HT_.out (by kernel_rfl)) ?_;try go_wp2
     go_ret;exact ⟨by first|rfl|(simp [errW_none,errW_some] <;> rfl)|(simp [*,errW_none,errW_some] <;> rfl),by repeat (first|(with_reducible first|exact HB.out|apply below_alloc|apply pw_below_drewN|apply below_drew1)|exact HB.out)⟩

end Go.Proofs.Ytjdjgabahkcjeaa.P
