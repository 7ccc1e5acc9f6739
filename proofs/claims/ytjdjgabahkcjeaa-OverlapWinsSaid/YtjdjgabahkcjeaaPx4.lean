-- Written by a program of the proof's own workplace (gprint.py over the kit's print): a function and its contract.
-- SQUEEZED
import Derived.Test.YtjdjgabahkcjeaaPx0
import Derived.Test.YtjdjgabahkcjeaaPx2
import Derived.Test.YtjdjgabahkcjeaaPx3
namespace Go.Proofs.Ytjdjgabahkcjeaa.P
open Go.RowKit Go.Proofs.YtjdjgabahkcjeaaW.PrintWords Go.Proofs.YtjdjgabahkcjeaaW.PrintLast Go.Proofs.YtjdjgabahkcjeaaW.PrintMore
attribute [local go_sem] max2_int min2_int max_two min_two max_three min_three max_four min_four   -- for this text's walks alone
set_option linter.unusedVariables false
set_option linter.unusedSimpArgs false

attribute [local go_sem high] eqA57
/-! ### overlap_join: function 29 -/
def overlap_join.f (l0 : List (S23)) (a1_0 : Int) (a1_1 : ByteArray) (a1_2 : Int) (a1_3 : Int) : Option ((List (S23))):=if (l0.length : Int) > 0 then (if 0≤(wrap64 ((l0.length : Int) - 1)) then (if (wrap64 ((l0.length : Int) - 1)) < (l0.length : Int) then ((overlap_end.f ((rd_T23 l0 (wrap64 ((l0.length : Int) - 1))).f0) ((rd_T23 l0 (wrap64 ((l0.length : Int) - 1))).f1) ((rd_T23 l0 (wrap64 ((l0.length : Int) - 1))).f2) ((rd_T23 l0 (wrap64 ((l0.length : Int) - 1))).f3)).bind fun t108=>(if t108 = a1_0 then (if (((rd_T23 l0 (wrap64 ((l0.length : Int) - 1))).f2) == a1_2 && (((rd_T23 l0 (wrap64 ((l0.length : Int) - 1))).f3) == a1_3)) = true then (if ((rd_T23 l0 (wrap64 ((l0.length : Int) - 1))).f1).size + a1_1.size≤9223372036854775807 then (if (wrap64 ((l0.length : Int) - 1))≤(l0.length : Int) then ((some (l0.take ((wrap64 ((l0.length : Int) - 1)) : Int).toNat : List (S23))).bind fun y113=>(if y113.length < 3518437208883 then (some (y113 ++ [(⟨(rd_T23 l0 (wrap64 ((l0.length : Int) - 1))).f0,((rd_T23 l0 (wrap64 ((l0.length : Int) - 1))).f1) ++ a1_1,a1_2,a1_3⟩ : S23)])) else (none))) else (none)) else (none)) else (if l0.length < 3518437208883 then (some (l0 ++ [(⟨a1_0,a1_1,a1_2,a1_3⟩ : S23)])) else (none))) else (if l0.length < 3518437208883 then (some (l0 ++ [(⟨a1_0,a1_1,a1_2,a1_3⟩ : S23)])) else (none)))) else (none)) else (none)) else (if l0.length < 3518437208883 then (some (l0 ++ [(⟨a1_0,a1_1,a1_2,a1_3⟩ : S23)])) else (none))
def overlap_join.T2 : Bool × List (List Nat × List Nat):=(true,[([],[]),([0],[0]),([1],[1]),([2],[2]),([2],[2]),([4,2],[2,4]),([3,5,2],[2,3,5]),([6,2],[2,6]),([7,2,2],[2,7]),([2],[2]),([9,2],[2,9]),([8,10,2],[2,8,10]),([2,11],[2,11]),([12,8],[12]),([13],[13]),([13],[13]),([15,13],[13,15]),([14,16,13],[13,14,16]),([17,13],[13,17]),([18,13],[13,18]),([13],[13]),([13],[13]),([21,13],[13,21]),([20,22,13],[13,20,22]),([23,13],[13,23]),([24,13],[13,24]),([19,25,13],[13,19,25]),([13],[13]),([27,13],[13,27]),([13],[13]),([29,13],[13,29]),([28,30,13],[13,28,30]),([26,31,13],[13,26,31]),([13,32],[13,32])])
def overlap_join.B2 : List Nat:=[0,1,3,7,7,23,63,127,255,7,519,2047,4095,8191,16383,16383,49151,131071,262143,524287,16383,16383,2113535,7356415,15745023,32522239,67108863,16383,134234111,16383,536887295,2013282303,4294967295,8589934591]
theorem overlap_join.tab2 : rtab .any (opsOf Try.f29 2) = overlap_join.T2:=by kernel_rfl
theorem overlap_join.bits2 : waitsOk overlap_join.T2.2 overlap_join.B2 = true:=by kernel_rfl
section
variable {P : Program} {ops : Array Oper} {o : Oper} {a : Act} {Q : Exit→Act→World→Prop} {Kc : Act→World→Prop}
theorem overlap_join.store_step_ {W w1 : World} (hw : Region.wanted o (yielded ops a.tmps) = true) (hN : o.dst = none)
  (hrun : (execOp a.eval o).run P W = .ok .skip w1) (h : ∀ w',w' = w1→Kc a w') : if Region.wanted o (yielded ops a.tmps) = true then Oper.wp P o a W Kc Q else Kc (a.put o.dst undef) W:=by
 rw [if_pos hw];unfold Oper.wp
 rw [hrun];show Kc (a.put o.dst undef) w1
 rw [hN];exact h _ rfl
end
set_option maxHeartbeats 8000000 in
set_option maxRecDepth 100000 in
theorem overlap_join.calls (P0_ : Nat→Prop) (u9000_ : Value) (l0 : List (S23)) (a1_0 : Int) (a1_1 : ByteArray) (a1_2 : Int) (a1_3 : Int) (r : List (S23)) (w0 w : World) (hB : Below w0.heap.size w0 w) (ho0 : Kd.R k23 23 w w0.heap.size P0_ u9000_ l0) (h : overlap_join.f l0 a1_0 a1_1 a1_2 a1_3 = some r) :
  Calls Try.prog 29 #[u9000_,.agg #[.int .i64 a1_0,.string a1_1,.int .i64 a1_2,.int .i64 a1_3]] w fun e w'=>∃ v0_ : Value,e = .returned (v0_)∧Kd.R k23 23 w' w0.heap.size (fun k_=>(P0_ k_∨w.heap.size≤k_)) v0_ r∧Below w0.heap.size w0 w'∧Kept w w' (fun k_=>P0_ k_):=by
 have hu23:=Try.underlying23;have hu57:=Try.underlying57;have HO0:=Aside0.mk (show Kd.R k23 23 w w0.heap.size (fun k_=>(P0_ k_∨w.heap.size≤k_)) u9000_ l0 from Kd.R_mono ho0 (fun k_ hk=>(.inl hk)));have HK:=Aside0.mk (Kept.refl w (fun k_=>P0_ k_));have HW0:=Aside0.mk hB.size;have HB:=Aside0.mk hB;clear hB;have H : (if (l0.length : Int) > 0 then (if 0≤(wrap64 ((l0.length : Int) - 1)) then (if (wrap64 ((l0.length : Int) - 1)) < (l0.length : Int) then ((overlap_end.f ((rd_T23 l0 (wrap64 ((l0.length : Int) - 1))).f0) ((rd_T23 l0 (wrap64 ((l0.length : Int) - 1))).f1) ((rd_T23 l0 (wrap64 ((l0.length : Int) - 1))).f2) ((rd_T23 l0 (wrap64 ((l0.length : Int) - 1))).f3)).bind fun t108=>(if t108 = a1_0 then (if (((rd_T23 l0 (wrap64 ((l0.length : Int) - 1))).f2) == a1_2 && (((rd_T23 l0 (wrap64 ((l0.length : Int) - 1))).f3) == a1_3)) = true then (if ((rd_T23 l0 (wrap64 ((l0.length : Int) - 1))).f1).size + a1_1.size≤9223372036854775807 then (if (wrap64 ((l0.length : Int) - 1))≤(l0.length : Int) then ((some (l0.take ((wrap64 ((l0.length : Int) - 1)) : Int).toNat : List (S23))).bind fun y113=>(if y113.length < 3518437208883 then (some (y113 ++ [(⟨(rd_T23 l0 (wrap64 ((l0.length : Int) - 1))).f0,((rd_T23 l0 (wrap64 ((l0.length : Int) - 1))).f1) ++ a1_1,a1_2,a1_3⟩ : S23)])) else (none))) else (none)) else (none)) else (if l0.length < 3518437208883 then (some (l0 ++ [(⟨a1_0,a1_1,a1_2,a1_3⟩ : S23)])) else (none))) else (if l0.length < 3518437208883 then (some (l0 ++ [(⟨a1_0,a1_1,a1_2,a1_3⟩ : S23)])) else (none)))) else (none)) else (none)) else (if l0.length < 3518437208883 then (some (l0 ++ [(⟨a1_0,a1_1,a1_2,a1_3⟩ : S23)])) else (none))) = some r:=h;clear h;by_cases c3 : (l0.length : Int) > 0
 ·
  rw [if_pos c3] at H;have c3b0 : decide (0 < (l0.length : Int)) = true:=decide_eq_true c3;have c3b1 : decide (0 < l0.length) = true:=decide_eq_true (by omega);clear c3;obtain ⟨ji4,hji4⟩ : ∃ j_ : Int,(wrap64 ((l0.length : Int) - 1)) = j_:=⟨_,rfl⟩;replace H : (if 0≤(ji4) then (if (ji4) < (l0.length : Int) then ((overlap_end.f ((rd_T23 l0 (ji4)).f0) ((rd_T23 l0 (ji4)).f1) ((rd_T23 l0 (ji4)).f2) ((rd_T23 l0 (ji4)).f3)).bind fun t108=>(if t108 = a1_0 then (if (((rd_T23 l0 (ji4)).f2) == a1_2 && (((rd_T23 l0 (ji4)).f3) == a1_3)) = true then (if ((rd_T23 l0 (ji4)).f1).size + a1_1.size≤9223372036854775807 then (if (ji4)≤(l0.length : Int) then ((some (l0.take ((ji4) : Int).toNat : List (S23))).bind fun y113=>(if y113.length < 3518437208883 then (some (y113 ++ [(⟨(rd_T23 l0 (ji4)).f0,((rd_T23 l0 (ji4)).f1) ++ a1_1,a1_2,a1_3⟩ : S23)])) else (none))) else (none)) else (none)) else (if l0.length < 3518437208883 then (some (l0 ++ [(⟨a1_0,a1_1,a1_2,a1_3⟩ : S23)])) else (none))) else (if l0.length < 3518437208883 then (some (l0 ++ [(⟨a1_0,a1_1,a1_2,a1_3⟩ : S23)])) else (none)))) else (none)) else (none)) = some r:=by first|(rw [hji4] at H;exact H)|(simp only [hji4] at H ⊢;exact H)
  have hji4w : (IntKind.i64.wrap ((l0.length : Int) - 1)) = ji4:=(i64_w _).trans hji4;by_cases c5 : 0≤(ji4)
  ·
   rw [if_pos c5] at H;have c5b0 : decide (0≤(ji4)) = true:=decide_eq_true c5;clear c5;by_cases c6 : (ji4) < (l0.length : Int)
   ·
    rw [if_pos c6] at H;have c6b0 : decide ((ji4) < (l0.length : Int)) = true:=decide_eq_true c6;clear c6;replace H:=Option.bind_eq_some_iff.mp H;obtain ⟨t108,A70,H⟩:=H;replace H : (if t108 = a1_0 then (if (((rd_T23 l0 (ji4)).f2) == a1_2 && (((rd_T23 l0 (ji4)).f3) == a1_3)) = true then (if ((rd_T23 l0 (ji4)).f1).size + a1_1.size≤9223372036854775807 then (if (ji4)≤(l0.length : Int) then ((some (l0.take ((ji4) : Int).toNat : List (S23))).bind fun y113=>(if y113.length < 3518437208883 then (some (y113 ++ [(⟨(rd_T23 l0 (ji4)).f0,((rd_T23 l0 (ji4)).f1) ++ a1_1,a1_2,a1_3⟩ : S23)])) else (none))) else (none)) else (none)) else (if l0.length < 3518437208883 then (some (l0 ++ [(⟨a1_0,a1_1,a1_2,a1_3⟩ : S23)])) else (none))) else (if l0.length < 3518437208883 then (some (l0 ++ [(⟨a1_0,a1_1,a1_2,a1_3⟩ : S23)])) else (none))) = some r:=H;have A7:=Aside0.mk A70;clear A70;by_cases c8 : t108 = a1_0
    ·
     rw [if_pos c8] at H;have c8b0 : (t108 == a1_0) = true:=beq_iff_eq.mpr c8;have c8b1 : (t108 != a1_0) = false:=bne_eq_false_iff_eq.mpr c8;clear c8;by_cases c9 : (((rd_T23 l0 (ji4)).f2) == a1_2 && (((rd_T23 l0 (ji4)).f3) == a1_3)) = true
     ·
      rw [if_pos c9] at H;have c9b0 : (((rd_T23 l0 (ji4)).f2) == a1_2 && (((rd_T23 l0 (ji4)).f3) == a1_3)) = true:=c9;(try (have c9b1 : decide (((rd_T23 l0 (ji4)).f2) = a1_2 && (((rd_T23 l0 (ji4)).f3) == a1_3)) = true:=by simpa using c9));(try (have c9b2 : (((rd_T23 l0 (ji4)).f2) == a1_2 && (((rd_T23 l0 (ji4)).f3) == a1_3)) = true:=by simpa using c9));clear c9;by_cases c10 : ((rd_T23 l0 (ji4)).f1).size + a1_1.size≤9223372036854775807
      ·
       rw [if_pos c10] at H;have c10b0:=eq_true c10;have c10b1 : decide (((rd_T23 l0 (ji4)).f1).size + a1_1.size≤9223372036854775807) = true:=decide_eq_true c10;try have c10b2 : (9223372036854775807 < ((rd_T23 l0 (ji4)).f1).size + a1_1.size) = False:=eq_false (Nat.not_lt.2 c10)
       by_cases c11 : (ji4)≤(l0.length : Int)
       ·
        rw [if_pos c11] at H;have c11b0:=eq_true c11;have c11b1 : decide ((ji4)≤(l0.length : Int)) = true:=decide_eq_true c11;clear c11;obtain ⟨y113,hy113⟩ : ∃ y_ : List (S23),y_ = (l0.take ((ji4) : Int).toNat):=⟨_,rfl⟩;replace H : (if y113.length < 3518437208883 then (some (y113 ++ [(⟨(rd_T23 l0 (ji4)).f0,((rd_T23 l0 (ji4)).f1) ++ a1_1,a1_2,a1_3⟩ : S23)])) else (none)) = some r:=by first|(rw [hy113];with_reducible exact H)|(have H2_:=(Option.bind_some _ _).symm.trans H;rw [hy113];with_reducible exact H2_)|(have H2_:=(Option.bind_some _ _).symm.trans H;with_reducible exact H2_)|with_reducible exact H|(rw [hy113];exact H)|exact H
        have Ny113:=Aside0.mk hy113;clear hy113;by_cases c12 : y113.length < 3518437208883
        ·
         rw [if_pos c12] at H;have LMc12:=Aside0.mk c12;clear c12;obtain ⟨y116,hy116⟩ : ∃ y_ : List (S23),y_ = (y113 ++ [(⟨(rd_T23 l0 (ji4)).f0,((rd_T23 l0 (ji4)).f1) ++ a1_1,a1_2,a1_3⟩ : S23)]):=⟨_,rfl⟩;replace H : (some y116) = some r:=by first|(rw [hy116];with_reducible exact H)|(have H2_:=(Option.bind_some _ _).symm.trans H;rw [hy116];with_reducible exact H2_)|(have H2_:=(Option.bind_some _ _).symm.trans H;with_reducible exact H2_)|with_reducible exact H|(rw [hy116];exact H)|exact H
         have Ny116:=Aside0.mk hy116;clear hy116;obtain rfl:=Option.some.inj H;go_enter Try.func29,Try.ntmps29
         try go_wp2_with (first|((with_reducible refine gate_dst (N:=3) rfl ?_);refine box_event ?hg (N:=3) ?hd (cs:=#[.int .i64 a1_0,.string a1_1,.int .i64 a1_2,.int .i64 a1_3]) (t:=23) ?hr ?_;(case hd=>rfl);(case hg=>rfl);(case hr=>first|(go_simp;done)|(go_simp;rfl));intro gb106 hg w13 hbox hb;have n0_:=Aside0.mk (Kd.R_below (Kd.R_elderB (by (with_reducible repeat (first|apply Kd.R_alloc|apply Kd.R_drewN|apply Kd.R_drew));exact HO0.out) gb106 (Nat.le_of_eq hg.symm)) hb);have n1_:=Aside0.mk (Kept.below (S:=(fun k_=>P0_ k_)) (by repeat (first|(with_reducible first|exact HK.out|apply Kept.alloc|apply Kept.drewN|apply Kept.drew)|exact HK.out)) hb);have n2_:=Aside0.mk (below_step (by repeat (first|(with_reducible first|exact HB.out|apply below_alloc|apply pw_below_drewN|apply below_drew1)|exact HB.out)) hb);have n3_:=Aside0.mk (hbox);have n4_:=Aside0.mk ((by rw [hg];exact (by first|exact HK.out.1|exact (show Kept w _ (fun k_=>P0_ k_) from by repeat (first|(with_reducible first|exact HK.out|apply Kept.alloc|apply Kept.drewN|apply Kept.drew)|exact HK.out)).1) : w.heap.size≤gb106));have n5_:=Aside0.mk ((by rw [hg];exact (below_size (by repeat (first|(with_reducible first|exact HB.out|apply below_alloc|apply pw_below_drewN|apply below_drew1)|exact HB.out))) : w0.heap.size≤gb106));clear HO0;clear HK;clear HB;have HO0:=n0_;have HK:=n1_;have HB:=n2_;have BK106:=n3_;have GW106:=n4_;have GE106:=n5_;clear n0_ n1_ n2_ n3_ n4_ n5_;clear hb hbox hg;obtain ⟨Ao14,co14,eo14⟩:=Kd.R_slice HO0.out;subst eo14))
         have n0_:=Aside0.mk (Kd.R_drew HO0.out);have n1_:=Aside0.mk (blk_drew BK106.out);have n2_:=Aside0.mk (Kept.drew HK.out);have n3_:=Aside0.mk (below_drew1 HB.out);clear HO0;clear BK106;clear HK;clear HB;have HO0:=n0_;have BK106:=n1_;have HK:=n2_;have HB:=n3_;clear n0_ n1_ n2_ n3_;have p107 : 0≤((ji4) : Int):=of_decide_eq_true (by first|(with_reducible assumption)|assumption);have q107 : (ji4) < (l0.length : Int):=of_decide_eq_true (by first|(with_reducible assumption)|assumption);obtain ⟨ad107,e107,hx107_0,hx107_1,hx107_2,hx107_3⟩:=at_T23 (Kd.R_reads' HO0.out).2.2 (ji4) p107 q107;cases e107;replace p107:=eq_true p107;replace q107:=eq_true q107;have p109 : 0≤((ji4) : Int):=of_decide_eq_true (by first|(with_reducible assumption)|assumption);have q109 : (ji4) < (l0.length : Int):=of_decide_eq_true (by first|(with_reducible assumption)|assumption);obtain ⟨ad109,e109,hx109_0,hx109_1,hx109_2,hx109_3⟩:=at_T23 (Kd.R_reads' HO0.out).2.2 (ji4) p109 q109;obtain rfl : ad107 = ad109:=(by injection e109);replace p109:=eq_true p109;replace q109:=eq_true q109;have p110 : 0≤((ji4) : Int):=of_decide_eq_true (by first|(with_reducible assumption)|assumption);have q110 : (ji4) < (l0.length : Int):=of_decide_eq_true (by first|(with_reducible assumption)|assumption);obtain ⟨ad110,e110,hx110_0,hx110_1,hx110_2,hx110_3⟩:=at_T23 (Kd.R_reads' HO0.out).2.2 (ji4) p110 q110;obtain rfl : ad107 = ad110:=(by injection e110);replace p110:=eq_true p110;replace q110:=eq_true q110;refine start_ (n:=34) (S:=fun w'=>w'.cell? ⟨gb106,0,none⟩ = some (.int .i64 a1_0)∧w'.cell? ⟨gb106,1,none⟩ = some (.string a1_1)∧w'.cell? ⟨gb106,2,none⟩ = some (.int .i64 a1_2)∧w'.cell? ⟨gb106,3,none⟩ = some (.int .i64 a1_3)∧w'.cell? (ad107.add (((ji4)).toNat * 4)) = some (.int .i64 ((rd_T23 l0 (ji4)).f0))∧w'.cell? ⟨(ad107.add (((ji4)).toNat * 4)).block,(ad107.add (((ji4)).toNat * 4)).off + 1,none⟩ = some (.string ((rd_T23 l0 (ji4)).f1))∧w'.cell? ⟨(ad107.add (((ji4)).toNat * 4)).block,(ad107.add (((ji4)).toNat * 4)).off + 2,none⟩ = some (.int .i64 ((rd_T23 l0 (ji4)).f2))∧w'.cell? ⟨(ad107.add (((ji4)).toNat * 4)).block,(ad107.add (((ji4)).toNat * 4)).off + 3,none⟩ = some (.int .i64 ((rd_T23 l0 (ji4)).f3))∧w'.cell? (ad107.add (((ji4)).toNat * 4)) = some (.int .i64 ((rd_T23 l0 (ji4)).f0))∧w'.cell? ⟨(ad107.add (((ji4)).toNat * 4)).block,(ad107.add (((ji4)).toNat * 4)).off + 1,none⟩ = some (.string ((rd_T23 l0 (ji4)).f1))∧w'.cell? ⟨(ad107.add (((ji4)).toNat * 4)).block,(ad107.add (((ji4)).toNat * 4)).off + 2,none⟩ = some (.int .i64 ((rd_T23 l0 (ji4)).f2))∧w'.cell? ⟨(ad107.add (((ji4)).toNat * 4)).block,(ad107.add (((ji4)).toNat * 4)).off + 3,none⟩ = some (.int .i64 ((rd_T23 l0 (ji4)).f3))∧w'.cell? (ad107.add (((ji4)).toNat * 4)) = some (.int .i64 ((rd_T23 l0 (ji4)).f0))∧w'.cell? ⟨(ad107.add (((ji4)).toNat * 4)).block,(ad107.add (((ji4)).toNat * 4)).off + 1,none⟩ = some (.string ((rd_T23 l0 (ji4)).f1))∧w'.cell? ⟨(ad107.add (((ji4)).toNat * 4)).block,(ad107.add (((ji4)).toNat * 4)).off + 2,none⟩ = some (.int .i64 ((rd_T23 l0 (ji4)).f2))∧w'.cell? ⟨(ad107.add (((ji4)).toNat * 4)).block,(ad107.add (((ji4)).toNat * 4)).off + 3,none⟩ = some (.int .i64 ((rd_T23 l0 (ji4)).f3))) (ds:=[]) (lb 34 0) (by kernel_rfl) rfl (by kernel_rfl) ⟨(blk_cell BK106.out 0).trans rfl,(blk_cell BK106.out 1).trans rfl,(blk_cell BK106.out 2).trans rfl,(blk_cell BK106.out 3).trans rfl,hx107_0,hx107_1,hx107_2,hx107_3,hx109_0,hx109_1,hx109_2,hx109_3,hx110_0,hx110_1,hx110_2,hx110_3⟩ (fun hHeld=>?_);refine with_tabW overlap_join.tab2 overlap_join.bits2 (fun HT_ HW_=>?_)
         generalize w13.drew = w15 at HO0 BK106 HK HB hx107_0 hx107_1 hx107_2 hx107_3 hx109_0 hx109_1 hx109_2 hx109_3 hx110_0 hx110_1 hx110_2 hx110_3 hHeld ⊢;refine pure_ (i:=0) (N:=some 8) (v:=?_) (a':=?_) (lb 34 1) rfl rfl (any_of HT_.out (by kernel_rfl)) (fun _ _ _ h=>h) (Or.inl ⟨by rfl,?_⟩) ?_ ?_;rotate_left
         ·
          intro w';go_simp;with_reducible rfl
         rotate_left
         ·
          simp only [Act.put,sqa,sqb,sqc,i64_w,i32_w];rfl
         refine pure_ (i:=1) (N:=some 9) (v:=?_) (a':=?_) (lb 34 3) rfl rfl (any_of HT_.out (by kernel_rfl)) (fun _ _ _ h=>h) (Or.inl ⟨by rfl,?_⟩) ?_ ?_;rotate_left
         ·
          intro w';go_simp;with_reducible rfl
         rotate_left
         ·
          simp only [Act.put,sqa,sqb,sqc,i64_w,i32_w];rfl
         refine pure_ (i:=2) (N:=some 10) (v:=?_) (a':=?_) (lb 34 7) rfl rfl (any_of HT_.out (by kernel_rfl)) (fun _ _ _ h=>h) (Or.inl ⟨by rfl,?_⟩) ?_ ?_;rotate_left
         ·
          intro w';go_simp;with_reducible rfl
         rotate_left
         ·
          simp only [Act.put,sqa,sqb,sqc,i64_w,i32_w];rfl
         refine pure_ (i:=3) (N:=some 11) (v:=?_) (a':=?_) (lb 34 15) rfl rfl (any_of HT_.out (by kernel_rfl)) (fun _ _ _ h=>h) (Or.inl ⟨by rfl,?_⟩) ?_ ?_;rotate_left
         ·
          intro w';go_simp;with_reducible rfl
         rotate_left
         ·
          simp only [Act.put,sqa,sqb,sqc,i64_w,i32_w];rfl
         refine pure_ (i:=4) (N:=some 12) (v:=?_) (a':=?_) (lb 34 31) rfl rfl (any_of HT_.out (by kernel_rfl)) (fun _ _ _ h=>h) (Or.inl ⟨by rfl,?_⟩) ?_ ?_;rotate_left
         ·
          intro w';go_simp;with_reducible rfl
         rotate_left
         ·
          simp only [Act.put,sqa,sqb,sqc,i64_w,i32_w];rfl
         refine pure_ (i:=5) (N:=some 13) (v:=?_) (a':=?_) (lb 34 63) rfl rfl (any_of HT_.out (by kernel_rfl)) (fun _ _ _ h=>h) (Or.inl ⟨by rfl,?_⟩) ?_ ?_;rotate_left
         ·
          intro w';go_simp;with_reducible rfl
         rotate_left
         ·
          simp only [Act.put,sqa,sqb,sqc,i64_w,i32_w];rfl
         refine pure_ (i:=6) (N:=some 14) (v:=?_) (a':=?_) (lb 34 127) rfl rfl (any_of HT_.out (by kernel_rfl)) (fun _ _ _ h=>h) (Or.inl ⟨by rfl,?_⟩) ?_ ?_;rotate_left
         ·
          intro w';go_simp;with_reducible rfl
         rotate_left
         ·
          simp only [Act.put,sqa,sqb,sqc,i64_w,i32_w];rfl
         refine pure_ (i:=9) (N:=some 17) (v:=?_) (a':=?_) (lb 34 639) rfl rfl (any_of HT_.out (by kernel_rfl)) (fun _ _ _ h=>h) (Or.inl ⟨by rfl,?_⟩) ?_ ?_;rotate_left
         ·
          intro w';go_simp;with_reducible rfl
         rotate_left
         ·
          simp only [Act.put,sqa,sqb,sqc,i64_w,i32_w];rfl
         refine take_ (i:=7) (N:=some 15) (v:=?_) (a':=?_) (lb 34 767) rfl rfl (take_ofW HT_.out HW_.out (by kernel_rfl)) (fun _ _ _ h=>h) (Or.inl ⟨by rfl,?_⟩) hHeld ?_ ?_;rotate_left
         ·
          rintro w' ⟨s0,s1,s2,s3,s4,s5,s6,s7,s8,s9,s10,s11,s12,s13,s14,s15⟩;go_simp;with_reducible rfl
         rotate_left
         ·
          simp only [Act.put,sqa,sqb,sqc,i64_w,i32_w];rfl
         refine take_ (i:=10) (N:=some 18) (v:=?_) (a':=?_) (lb 34 1791) rfl rfl (take_ofW HT_.out HW_.out (by kernel_rfl)) (fun _ _ _ h=>h) (Or.inl ⟨by rfl,?_⟩) hHeld ?_ ?_;rotate_left
         ·
          rintro w' ⟨s0,s1,s2,s3,s4,s5,s6,s7,s8,s9,s10,s11,s12,s13,s14,s15⟩;go_simp;with_reducible rfl
         rotate_left
         ·
          simp only [Act.put,sqa,sqb,sqc,i64_w,i32_w];rfl
         refine one_ (i:=8) (N:=some 16) (lb 34 2047) rfl rfl (one_of HT_.out (by kernel_rfl)) (by decide) (fun K hK=>?_);refine goes_ Try.func28 (by kernel_rfl) rfl #[.agg #[.int .i64 ((rd_T23 l0 (ji4)).f0),.string ((rd_T23 l0 (ji4)).f1),.int .i64 ((rd_T23 l0 (ji4)).f2),.int .i64 ((rd_T23 l0 (ji4)).f3)]] (by rfl) rfl rfl (by (try simp only [List.map_toArray,List.map_cons,List.map_nil]);first|done|(simp only [hji4];rfl)|rfl|(simp only [List.length_drop,List.length_take];rfl)) ?_;with_reducible refine (overlap_end.calls ((rd_T23 l0 (ji4)).f0) ((rd_T23 l0 (ji4)).f1) ((rd_T23 l0 (ji4)).f2) ((rd_T23 l0 (ji4)).f3) t108 _ A7.out).mono ?_
         rintro e w16 ⟨rfl,hb⟩;have HS4_:=(hb.cell (World.block_lt_of_cell? _ _ (hHeld.2.2.2.2.1))).trans (hHeld.2.2.2.2.1);have HS5_:=(hb.cell (World.block_lt_of_cell? _ _ (hHeld.2.2.2.2.2.1))).trans (hHeld.2.2.2.2.2.1);have HS6_:=(hb.cell (World.block_lt_of_cell? _ _ (hHeld.2.2.2.2.2.2.1))).trans (hHeld.2.2.2.2.2.2.1);have HS7_:=(hb.cell (World.block_lt_of_cell? _ _ (hHeld.2.2.2.2.2.2.2.1))).trans (hHeld.2.2.2.2.2.2.2.1);have HS8_:=(hb.cell (World.block_lt_of_cell? _ _ (hHeld.2.2.2.2.2.2.2.2.1))).trans (hHeld.2.2.2.2.2.2.2.2.1);have HS9_:=(hb.cell (World.block_lt_of_cell? _ _ (hHeld.2.2.2.2.2.2.2.2.2.1))).trans (hHeld.2.2.2.2.2.2.2.2.2.1);have HS10_:=(hb.cell (World.block_lt_of_cell? _ _ (hHeld.2.2.2.2.2.2.2.2.2.2.1))).trans (hHeld.2.2.2.2.2.2.2.2.2.2.1);have HS11_:=(hb.cell (World.block_lt_of_cell? _ _ (hHeld.2.2.2.2.2.2.2.2.2.2.2.1))).trans (hHeld.2.2.2.2.2.2.2.2.2.2.2.1);have HS12_:=(hb.cell (World.block_lt_of_cell? _ _ (hHeld.2.2.2.2.2.2.2.2.2.2.2.2.1))).trans (hHeld.2.2.2.2.2.2.2.2.2.2.2.2.1);have HS13_:=(hb.cell (World.block_lt_of_cell? _ _ (hHeld.2.2.2.2.2.2.2.2.2.2.2.2.2.1))).trans (hHeld.2.2.2.2.2.2.2.2.2.2.2.2.2.1);have HS14_:=(hb.cell (World.block_lt_of_cell? _ _ (hHeld.2.2.2.2.2.2.2.2.2.2.2.2.2.2.1))).trans (hHeld.2.2.2.2.2.2.2.2.2.2.2.2.2.2.1);have HS15_:=(hb.cell (World.block_lt_of_cell? _ _ (hHeld.2.2.2.2.2.2.2.2.2.2.2.2.2.2.2))).trans (hHeld.2.2.2.2.2.2.2.2.2.2.2.2.2.2.2);refine ⟨_,rfl,?_⟩;have n0_:=Aside0.mk (Kd.R_below (by (with_reducible repeat (first|apply Kd.R_alloc|apply Kd.R_drewN|apply Kd.R_drew));exact HO0.out) hb);have n1_:=Aside0.mk (blk_below (g:=gb106) (o:=.cells #[.int .i64 a1_0,.string a1_1,.int .i64 a1_2,.int .i64 a1_3] 23 (0,0)) (by (with_reducible repeat (first|refine blk_drewN ?_ _|refine blk_drew ?_|refine blk_alloc ?_ _));exact BK106.out) hb);have n2_:=Aside0.mk (Kept.below (S:=(fun k_=>P0_ k_)) (by repeat (first|(with_reducible first|exact HK.out|apply Kept.alloc|apply Kept.drewN|apply Kept.drew|refine Kept.setCell ?_ (.inr GW106.out) _)|exact HK.out)) hb);have n3_:=Aside0.mk (below_step (by repeat (first|(with_reducible first|exact HB.out|apply below_alloc|apply pw_below_drewN|apply below_drew1|refine below_set ?_ GE106.out)|exact HB.out)) hb);clear HO0;clear BK106;clear HK;clear HB;have HO0:=n0_;have BK106:=n1_;have HK:=n2_;have HB:=n3_;clear n0_ n1_ n2_ n3_;(try clear hb);(try clear hb2);(try clear hk);(try clear hi);refine hK.out _ _ ⟨(blk_cell BK106.out 0).trans rfl,(blk_cell BK106.out 1).trans rfl,(blk_cell BK106.out 2).trans rfl,(blk_cell BK106.out 3).trans rfl,HS4_,HS5_,HS6_,HS7_,HS8_,HS9_,HS10_,HS11_,HS12_,HS13_,HS14_,HS15_⟩ (fun hHeld=>?_);clear hK K;refine norm_ (a':=?_) ?_ ?_;rotate_left
         ·
          show Act.put _ (some 16) _ = _
          simp only [Act.put,sqa,sqb,sqc,i64_w,i32_w];rfl
         refine pure_ (i:=11) (N:=some 19) (v:=?_) (a':=?_) (lb 34 4095) rfl rfl (any_of HT_.out (by kernel_rfl)) (fun _ _ _ h=>h) (Or.inl ⟨by rfl,?_⟩) ?_ ?_;rotate_left
         ·
          intro w';go_simp;with_reducible rfl
         rotate_left
         ·
          simp only [Act.put,sqa,sqb,sqc,i64_w,i32_w];rfl
         refine pure_ (i:=12) (N:=some 20) (v:=?_) (a':=?_) (lb 34 8191) rfl rfl (any_of HT_.out (by kernel_rfl)) (fun _ _ _ h=>h) (Or.inl ⟨by rfl,?_⟩) ?_ ?_;rotate_left
         ·
          intro w';go_simp;with_reducible rfl
         rotate_left
         ·
          simp only [Act.put,sqa,sqb,sqc,i64_w,i32_w];rfl
         refine pure_ (i:=13) (N:=some 21) (v:=?_) (a':=?_) (lb 34 16383) rfl rfl (any_of HT_.out (by kernel_rfl)) (fun _ _ _ h=>h) (Or.inl ⟨by rfl,?_⟩) ?_ ?_;rotate_left
         ·
          intro w';go_simp;with_reducible rfl
         rotate_left
         ·
          simp only [Act.put,sqa,sqb,sqc,i64_w,i32_w];rfl
         refine pure_ (i:=14) (N:=some 22) (v:=?_) (a':=?_) (lb 34 32767) rfl rfl (any_of HT_.out (by kernel_rfl)) (fun _ _ _ h=>h) (Or.inl ⟨by rfl,?_⟩) ?_ ?_;rotate_left
         ·
          intro w';go_simp;with_reducible rfl
         rotate_left
         ·
          simp only [Act.put,sqa,sqb,sqc,i64_w,i32_w];rfl
         refine pure_ (i:=15) (N:=some 23) (v:=?_) (a':=?_) (lb 34 65535) rfl rfl (any_of HT_.out (by kernel_rfl)) (fun _ _ _ h=>h) (Or.inl ⟨by rfl,?_⟩) ?_ ?_;rotate_left
         ·
          intro w';go_simp;with_reducible rfl
         rotate_left
         ·
          simp only [Act.put,sqa,sqb,sqc,i64_w,i32_w];rfl
         refine pure_ (i:=16) (N:=some 24) (v:=?_) (a':=?_) (lb 34 131071) rfl rfl (any_of HT_.out (by kernel_rfl)) (fun _ _ _ h=>h) (Or.inl ⟨by rfl,?_⟩) ?_ ?_;rotate_left
         ·
          intro w';go_simp;with_reducible rfl
         rotate_left
         ·
          simp only [Act.put,sqa,sqb,sqc,i64_w,i32_w];rfl
         refine pure_ (i:=17) (N:=some 25) (v:=?_) (a':=?_) (lb 34 262143) rfl rfl (any_of HT_.out (by kernel_rfl)) (fun _ _ _ h=>h) (Or.inl ⟨by rfl,?_⟩) ?_ ?_;rotate_left
         ·
          intro w';go_simp;with_reducible rfl
         rotate_left
         ·
          simp only [Act.put,sqa,sqb,sqc,i64_w,i32_w];rfl
         refine pure_ (i:=18) (N:=some 26) (v:=?_) (a':=?_) (lb 34 524287) rfl rfl (any_of HT_.out (by kernel_rfl)) (fun _ _ _ h=>h) (Or.inl ⟨by rfl,?_⟩) ?_ ?_;rotate_left
         ·
          intro w';go_simp;with_reducible rfl
         rotate_left
         ·
          simp only [Act.put,sqa,sqb,sqc,i64_w,i32_w];rfl
         refine pure_ (i:=20) (N:=some 28) (v:=?_) (a':=?_) (lb 34 1572863) rfl rfl (any_of HT_.out (by kernel_rfl)) (fun _ _ _ h=>h) (Or.inl ⟨by rfl,?_⟩) ?_ ?_;rotate_left
         ·
          intro w';go_simp;with_reducible rfl
         rotate_left
         ·
          simp only [Act.put,sqa,sqb,sqc,i64_w,i32_w];rfl
         refine pure_ (i:=21) (N:=some 29) (v:=?_) (a':=?_) (lb 34 3670015) rfl rfl (any_of HT_.out (by kernel_rfl)) (fun _ _ _ h=>h) (Or.inl ⟨by rfl,?_⟩) ?_ ?_;rotate_left
         ·
          intro w';go_simp;with_reducible rfl
         rotate_left
         ·
          simp only [Act.put,sqa,sqb,sqc,i64_w,i32_w];rfl
         refine pure_ (i:=22) (N:=some 30) (v:=?_) (a':=?_) (lb 34 7864319) rfl rfl (any_of HT_.out (by kernel_rfl)) (fun _ _ _ h=>h) (Or.inl ⟨by rfl,?_⟩) ?_ ?_;rotate_left
         ·
          intro w';go_simp;with_reducible rfl
         rotate_left
         ·
          simp only [Act.put,sqa,sqb,sqc,i64_w,i32_w];rfl
         refine pure_ (i:=23) (N:=some 31) (v:=?_) (a':=?_) (lb 34 16252927) rfl rfl (any_of HT_.out (by kernel_rfl)) (fun _ _ _ h=>h) (Or.inl ⟨by rfl,?_⟩) ?_ ?_;rotate_left
         ·
          intro w';go_simp;with_reducible rfl
         rotate_left
         ·
          simp only [Act.put,sqa,sqb,sqc,i64_w,i32_w];rfl
         refine pure_ (i:=24) (N:=some 32) (v:=?_) (a':=?_) (lb 34 33030143) rfl rfl (any_of HT_.out (by kernel_rfl)) (fun _ _ _ h=>h) (Or.inl ⟨by rfl,?_⟩) ?_ ?_;rotate_left
         ·
          intro w';go_simp;with_reducible rfl
         rotate_left
         ·
          simp only [Act.put,sqa,sqb,sqc,i64_w,i32_w];rfl
         refine pure_ (i:=27) (N:=some 35) (v:=?_) (a':=?_) (lb 34 167247871) rfl rfl (any_of HT_.out (by kernel_rfl)) (fun _ _ _ h=>h) (Or.inl ⟨by rfl,?_⟩) ?_ ?_;rotate_left
         ·
          intro w';go_simp;with_reducible rfl
         rotate_left
         ·
          simp only [Act.put,sqa,sqb,sqc,i64_w,i32_w];rfl
         refine pure_ (i:=29) (N:=some 37) (v:=?_) (a':=?_) (lb 34 704118783) rfl rfl (any_of HT_.out (by kernel_rfl)) (fun _ _ _ h=>h) (Or.inl ⟨by rfl,?_⟩) ?_ ?_;rotate_left
         ·
          intro w';go_simp;with_reducible rfl
         rotate_left
         ·
          simp only [Act.put,sqa,sqb,sqc,i64_w,i32_w];rfl
         refine take_ (i:=19) (N:=some 27) (v:=?_) (a':=?_) (lb 34 704643071) rfl rfl (take_ofW HT_.out HW_.out (by kernel_rfl)) (fun _ _ _ h=>h) (Or.inl ⟨by rfl,?_⟩) hHeld ?_ ?_;rotate_left
         ·
          rintro w' ⟨s0,s1,s2,s3,s4,s5,s6,s7,s8,s9,s10,s11,s12,s13,s14,s15⟩;go_simp;with_reducible rfl
         rotate_left
         ·
          simp only [Act.put,sqa,sqb,sqc,i64_w,i32_w];rfl
         refine take_ (i:=25) (N:=some 33) (v:=?_) (a':=?_) (lb 34 738197503) rfl rfl (take_ofW HT_.out HW_.out (by kernel_rfl)) (fun _ _ _ h=>h) (Or.inl ⟨by rfl,?_⟩) hHeld ?_ ?_;rotate_left
         ·
          rintro w' ⟨s0,s1,s2,s3,s4,s5,s6,s7,s8,s9,s10,s11,s12,s13,s14,s15⟩;go_simp;with_reducible rfl
         rotate_left
         ·
          simp only [Act.put,sqa,sqb,sqc,i64_w,i32_w];rfl
         refine pure_ (i:=26) (N:=some 34) (v:=?_) (a':=?_) (lb 34 805306367) rfl rfl (any_of HT_.out (by kernel_rfl)) (fun _ _ _ h=>h) (Or.inl ⟨by rfl,?_⟩) ?_ ?_;rotate_left
         ·
          intro w';go_simp;with_reducible rfl
         rotate_left
         ·
          simp only [Act.put,sqa,sqb,sqc,i64_w,i32_w];rfl
         refine take_ (i:=28) (N:=some 36) (v:=?_) (a':=?_) (lb 34 1073741823) rfl rfl (take_ofW HT_.out HW_.out (by kernel_rfl)) (fun _ _ _ h=>h) (Or.inl ⟨by rfl,?_⟩) hHeld ?_ ?_;rotate_left
         ·
          rintro w' ⟨s0,s1,s2,s3,s4,s5,s6,s7,s8,s9,s10,s11,s12,s13,s14,s15⟩;go_simp;with_reducible rfl
         rotate_left
         ·
          simp only [Act.put,sqa,sqb,sqc,i64_w,i32_w];rfl
         refine take_ (i:=30) (N:=some 38) (v:=?_) (a':=?_) (lb 34 2147483647) rfl rfl (take_ofW HT_.out HW_.out (by kernel_rfl)) (fun _ _ _ h=>h) (Or.inl ⟨by rfl,?_⟩) hHeld ?_ ?_;rotate_left
         ·
          rintro w' ⟨s0,s1,s2,s3,s4,s5,s6,s7,s8,s9,s10,s11,s12,s13,s14,s15⟩;go_simp;with_reducible rfl
         rotate_left
         ·
          simp only [Act.put,sqa,sqb,sqc,i64_w,i32_w];rfl
         refine pure_ (i:=31) (N:=some 39) (v:=?_) (a':=?_) (lb 34 4294967295) rfl rfl (any_of HT_.out (by kernel_rfl)) (fun _ _ _ h=>h) (Or.inl ⟨by rfl,?_⟩) ?_ ?_;rotate_left
         ·
          intro w';go_simp;with_reducible rfl
         rotate_left
         ·
          simp only [Act.put,sqa,sqb,sqc,i64_w,i32_w];rfl
         refine pure_ (i:=32) (N:=some 40) (v:=?_) (a':=?_) (lb 34 8589934591) rfl rfl (any_of HT_.out (by kernel_rfl)) (fun _ _ _ h=>h) (Or.inl ⟨by rfl,?_⟩) ?_ ?_;rotate_left
         ·
          intro w';go_simp;with_reducible rfl
         rotate_left
         ·
          simp only [Act.put,sqa,sqb,sqc,i64_w,i32_w];rfl
         refine pure_ (i:=33) (N:=some 41) (v:=?_) (a':=?_) (lb 34 17179869183) rfl rfl (any_of HT_.out (by kernel_rfl)) (fun _ _ _ h=>h) (Or.inl ⟨by rfl,?_⟩) ?_ ?_;rotate_left
         ·
          intro w';go_simp;with_reducible rfl
         rotate_left
         ·
          simp only [Act.put,sqa,sqb,sqc,i64_w,i32_w];rfl
         refine done_ (done_of HT_.out (by kernel_rfl)) ?_;have p111 : 0≤((ji4) : Int):=of_decide_eq_true (by first|(with_reducible assumption)|assumption);have q111 : (ji4) < (l0.length : Int):=of_decide_eq_true (by first|(with_reducible assumption)|assumption);obtain ⟨ad111,e111,hx111_0,hx111_1,hx111_2,hx111_3⟩:=at_T23 (Kd.R_reads' HO0.out).2.2 (ji4) p111 q111;obtain rfl : ad107 = ad111:=(by injection e111);replace p111:=eq_true p111;replace q111:=eq_true q111;have p112 : 0≤((ji4) : Int):=of_decide_eq_true (by first|(with_reducible assumption)|assumption);have q112 : (ji4) < (l0.length : Int):=of_decide_eq_true (by first|(with_reducible assumption)|assumption);obtain ⟨ad112,e112,hx112_0,hx112_1,hx112_2,hx112_3⟩:=at_T23 (Kd.R_reads' HO0.out).2.2 (ji4) p112 q112;obtain rfl : ad107 = ad112:=(by injection e112);replace p112:=eq_true p112;replace q112:=eq_true q112;have hcz17_0 : w16.cell? ⟨gb106,0,none⟩ = some (.int .i64 a1_0):=(blk_cell BK106.out 0).trans rfl;have hcz17_1 : w16.cell? ⟨gb106,1,none⟩ = some (.string a1_1):=(blk_cell BK106.out 1).trans rfl;have hcz17_2 : w16.cell? ⟨gb106,2,none⟩ = some (.int .i64 a1_2):=(blk_cell BK106.out 2).trans rfl;have hcz17_3 : w16.cell? ⟨gb106,3,none⟩ = some (.int .i64 a1_3):=(blk_cell BK106.out 3).trans rfl;have hfz17_0:=blk_frozen BK106.out 0;have hfz17_1:=blk_frozen BK106.out 1;have hfz17_2:=blk_frozen BK106.out 2;have hfz17_3:=blk_frozen BK106.out 3;try (go_wp2_with fail)
         have n0_:=Aside0.mk (Kd.R_drew HO0.out);have n1_:=Aside0.mk (blk_drew BK106.out);have n2_:=Aside0.mk (Kept.drew HK.out);have n3_:=Aside0.mk (below_drew1 HB.out);clear HO0;clear BK106;clear HK;clear HB;have HO0:=n0_;have BK106:=n1_;have HK:=n2_;have HB:=n3_;clear n0_ n1_ n2_ n3_;(try clear hcz17_0);(try clear hcz17_1);(try clear hcz17_2);(try clear hcz17_3);(try clear hfz17_0);(try clear hfz17_1);(try clear hfz17_2);(try clear hfz17_3);(try clear hx107_0);(try clear hx107_1);(try clear hx107_2);(try clear hx107_3);(try clear hx109_0);(try clear hx109_1);(try clear hx109_2);(try clear hx109_3);(try clear hx110_0);(try clear hx110_1);(try clear hx110_2);(try clear hx110_3);(try clear hx111_0);(try clear hx111_1);(try clear hx111_2);(try clear hx111_3);(try clear hx112_0);(try clear hx112_1);(try clear hx112_2);(try clear hx112_3);obtain ⟨adx,exx,hxx_0,hxx_1,_,_⟩:=at_T23 (Kd.R_reads' HO0.out).2.2 (ji4) (of_decide_eq_true (by assumption)) (of_decide_eq_true (by assumption));obtain rfl : ad107 = adx:=(by injection exx);refine start_ (n:=19) (S:=fun w'=>w'.cell? (ad107.add (((ji4)).toNat * 4)) = some (.int .i64 ((rd_T23 l0 (ji4)).f0))∧w'.cell? ⟨(ad107.add (((ji4)).toNat * 4)).block,(ad107.add (((ji4)).toNat * 4)).off + 1,none⟩ = some (.string ((rd_T23 l0 (ji4)).f1))∧w'.cell? ⟨gb106,1,none⟩ = some (.string a1_1)) (ds:=[18]) (lb 19 0) (by kernel_rfl) rfl (by kernel_rfl) ⟨hxx_0,hxx_1,(blk_cell BK106.out 1).trans rfl⟩ (fun hHeld=>?_);generalize w16.drew = wd at HO0 BK106 HK HB hxx_0 hxx_1 hHeld ⊢;refine pure_ (i:=0) (N:=some 42) (v:=?_) (a':=?_) (lb 19 1) rfl rfl (by kernel_rfl) (fun _ _ _ h=>h) (Or.inl ⟨by rfl,?_⟩) ?_ ?_;rotate_left
         ·
          intro w';go_simp;with_reducible rfl
         rotate_left
         ·
          simp only [Act.put,sqa,sqb,sqc,i64_w,i32_w];rfl
         refine pure_ (i:=1) (N:=some 43) (v:=?_) (a':=?_) (lb 19 3) rfl rfl (by kernel_rfl) (fun _ _ _ h=>h) (Or.inl ⟨by rfl,?_⟩) ?_ ?_;rotate_left
         ·
          intro w';go_simp;with_reducible rfl
         rotate_left
         ·
          simp only [Act.put,sqa,sqb,sqc,i64_w,i32_w];rfl
         refine pure_ (i:=2) (N:=some 44) (v:=?_) (a':=?_) (lb 19 7) rfl rfl (by kernel_rfl) (fun _ _ _ h=>h) (Or.inl ⟨by rfl,?_⟩) ?_ ?_;rotate_left
         ·
          intro w';go_simp;with_reducible rfl
         rotate_left
         ·
          simp only [Act.put,sqa,sqb,sqc,i64_w,i32_w];rfl
         refine pure_ (i:=3) (N:=some 45) (v:=?_) (a':=?_) (lb 19 15) rfl rfl (by kernel_rfl) (fun _ _ _ h=>h) (Or.inl ⟨by rfl,?_⟩) ?_ ?_;rotate_left
         ·
          intro w';go_simp;with_reducible rfl
         rotate_left
         ·
          simp only [Act.put,sqa,sqb,sqc,i64_w,i32_w];rfl
         refine pure_ (i:=4) (N:=some 46) (v:=?_) (a':=?_) (lb 19 31) rfl rfl (by kernel_rfl) (fun _ _ _ h=>h) (Or.inl ⟨by rfl,?_⟩) ?_ ?_;rotate_left
         ·
          intro w';go_simp;with_reducible rfl
         rotate_left
         ·
          simp only [Act.put,sqa,sqb,sqc,i64_w,i32_w];rfl
         refine pure_ (i:=6) (N:=some 48) (v:=?_) (a':=?_) (lb 19 95) rfl rfl (by kernel_rfl) (fun _ _ _ h=>h) (Or.inl ⟨by rfl,?_⟩) ?_ ?_;rotate_left
         ·
          intro w';go_simp;with_reducible rfl
         rotate_left
         ·
          simp only [Act.put,sqa,sqb,sqc,i64_w,i32_w];rfl
         refine pure_ (i:=7) (N:=some 49) (v:=?_) (a':=?_) (lb 19 223) rfl rfl (by kernel_rfl) (fun _ _ _ h=>h) (Or.inl ⟨by rfl,?_⟩) ?_ ?_;rotate_left
         ·
          intro w';go_simp;with_reducible rfl
         rotate_left
         ·
          simp only [Act.put,sqa,sqb,sqc,i64_w,i32_w];rfl
         refine pure_ (i:=8) (N:=some 50) (v:=?_) (a':=?_) (lb 19 479) rfl rfl (by kernel_rfl) (fun _ _ _ h=>h) (Or.inl ⟨by rfl,?_⟩) ?_ ?_;rotate_left
         ·
          intro w';go_simp;with_reducible rfl
         rotate_left
         ·
          simp only [Act.put,sqa,sqb,sqc,i64_w,i32_w];rfl
         refine pure_ (i:=9) (N:=some 51) (v:=?_) (a':=?_) (lb 19 991) rfl rfl (by kernel_rfl) (fun _ _ _ h=>h) (Or.inl ⟨by rfl,?_⟩) ?_ ?_;rotate_left
         ·
          intro w';go_simp;with_reducible rfl
         rotate_left
         ·
          simp only [Act.put,sqa,sqb,sqc,i64_w,i32_w];rfl
         refine pure_ (i:=10) (N:=some 52) (v:=?_) (a':=?_) (lb 19 2015) rfl rfl (by kernel_rfl) (fun _ _ _ h=>h) (Or.inl ⟨by rfl,?_⟩) ?_ ?_;rotate_left
         ·
          intro w';go_simp;with_reducible rfl
         rotate_left
         ·
          simp only [Act.put,sqa,sqb,sqc,i64_w,i32_w];rfl
         refine pure_ (i:=12) (N:=some 54) (v:=?_) (a':=?_) (lb 19 6111) rfl rfl (by kernel_rfl) (fun _ _ _ h=>h) (Or.inl ⟨by rfl,?_⟩) ?_ ?_;rotate_left
         ·
          intro w';go_simp;with_reducible rfl
         rotate_left
         ·
          simp only [Act.put,sqa,sqb,sqc,i64_w,i32_w];rfl
         refine take_ (i:=5) (N:=some 47) (v:=?_) (a':=?_) (lb 19 6143) rfl rfl (by kernel_rfl) (fun _ _ _ h=>h) (Or.inl ⟨by rfl,?_⟩) hHeld ?_ ?_;rotate_left
         ·
          rintro w' ⟨s0,s1,s2⟩;go_simp;with_reducible rfl
         rotate_left
         ·
          simp only [Act.put,sqa,sqb,sqc,i64_w,i32_w];rfl
         refine take_ (i:=11) (N:=some 53) (v:=?_) (a':=?_) (lb 19 8191) rfl rfl (by kernel_rfl) (fun _ _ _ h=>h) (Or.inl ⟨by rfl,?_⟩) hHeld ?_ ?_;rotate_left
         ·
          rintro w' ⟨s0,s1,s2⟩;go_simp;with_reducible rfl
         rotate_left
         ·
          simp only [Act.put,sqa,sqb,sqc,i64_w,i32_w];rfl
         refine take_ (i:=13) (N:=some 55) (v:=?_) (a':=?_) (lb 19 16383) rfl rfl (by kernel_rfl) (fun _ _ _ h=>h) (Or.inl ⟨by rfl,?_⟩) hHeld ?_ ?_;rotate_left
         ·
          rintro w' ⟨s0,s1,s2⟩;go_simp;with_reducible rfl
         rotate_left
         ·
          simp only [Act.put,sqa,sqb,sqc,i64_w,i32_w];rfl
         refine pure_ (i:=14) (N:=some 56) (v:=?_) (a':=?_) (lb 19 32767) rfl rfl (by kernel_rfl) (fun _ _ _ h=>h) (Or.inl ⟨by rfl,?_⟩) ?_ ?_;rotate_left
         ·
          intro w';go_simp;with_reducible rfl
         rotate_left
         ·
          simp only [Act.put,sqa,sqb,sqc,i64_w,i32_w];rfl
         refine pure_ (i:=15) (N:=some 57) (v:=?_) (a':=?_) (lb 19 65535) rfl rfl (by kernel_rfl) (fun _ _ _ h=>h) (Or.inl ⟨by rfl,?_⟩) ?_ ?_;rotate_left
         ·
          intro w';go_simp;with_reducible rfl
         rotate_left
         ·
          simp only [Act.put,sqa,sqb,sqc,i64_w,i32_w];rfl
         have hcz_0 : wd.cell? ⟨gb106,0,none⟩ = some (.int .i64 a1_0):=(blk_cell BK106.out 0).trans rfl;have hcz_1 : wd.cell? ⟨gb106,1,none⟩ = some (.string a1_1):=(blk_cell BK106.out 1).trans rfl;have hfz_0:=blk_frozen BK106.out 0;have hfz_1:=blk_frozen BK106.out 1;refine one_ (i:=16) (N:=none) (lb 19 131071) rfl rfl (by kernel_rfl) (by decide) (fun K hK=>?_);refine overlap_join.store_step_ (w1:=(wd.setCell ⟨gb106,0,none⟩ (.int .i64 ((rd_T23 l0 (ji4)).f0)))) rfl rfl ?_ ?_
         ·
          first|(go_simp;done)|(go_simp;rfl)
         intro w18 hw;have n0_ : Aside0 (Kd.R k23 23 w18 w0.heap.size (fun k_=>(P0_ k_∨w.heap.size≤k_)∧k_≠gb106) (.slice (some ad107) l0.length co14) l0):=⟨(by rw [hw];exact (by (with_reducible repeat (first|apply Kd.R_alloc|apply Kd.R_drewN|apply Kd.R_drew));exact Kd.R_mono (Kd.R_far (p:=⟨gb106,0,none⟩) (Kd.R_mono HO0.out (fun k_ hk=>(⟨hk,hk.2⟩ : _∧k_≠gb106))) (fun _ hk=>hk.2) (.int .i64 ((rd_T23 l0 (ji4)).f0))) (fun _ hk=>⟨hk.1.1,hk.1.2⟩)))⟩;have n1_ : Aside0 (w18.heap[gb106]? = some (.cells #[.int .i64 ((rd_T23 l0 (ji4)).f0),.string a1_1,.int .i64 a1_2,.int .i64 a1_3] 23 (0,0))):=⟨(by rw [hw];exact (by (with_reducible repeat (first|refine blk_drewN ?_ _|refine blk_drew ?_|refine blk_alloc ?_ _));refine blk_put (cs:=#[.int .i64 a1_0,.string a1_1,.int .i64 a1_2,.int .i64 a1_3]) ?_ 0 _ rfl;(with_reducible repeat (first|refine blk_drewN ?_ _|refine blk_drew ?_|refine blk_alloc ?_ _));exact BK106.out))⟩;have n2_ : Aside0 (Kept w w18 (fun k_=>P0_ k_)):=⟨(by rw [hw];exact (by repeat (first|(with_reducible first|exact HK.out|apply Kept.alloc|apply Kept.drewN|apply Kept.drew|refine Kept.setCell ?_ (.inr GW106.out) _)|exact HK.out)))⟩;have n3_ : Aside0 (Below w0.heap.size w0 w18):=⟨(by rw [hw];exact (by repeat (first|(with_reducible first|exact HB.out|apply below_alloc|apply pw_below_drewN|apply below_drew1|refine below_set ?_ GE106.out)|exact HB.out)))⟩;clear hw;clear HO0;clear BK106;clear HK;clear HB;have HO0:=n0_;have BK106:=n1_;have HK:=n2_;have HB:=n3_;clear n0_ n1_ n2_ n3_;have hcz19_0 : w18.cell? ⟨gb106,0,none⟩ = some (.int .i64 ((rd_T23 l0 (ji4)).f0)):=(blk_cell BK106.out 0).trans rfl;have hcz19_1 : w18.cell? ⟨gb106,1,none⟩ = some (.string a1_1):=(blk_cell BK106.out 1).trans rfl;have hcz19_2 : w18.cell? ⟨gb106,2,none⟩ = some (.int .i64 a1_2):=(blk_cell BK106.out 2).trans rfl;have hcz19_3 : w18.cell? ⟨gb106,3,none⟩ = some (.int .i64 a1_3):=(blk_cell BK106.out 3).trans rfl;have hfz19_0:=blk_frozen BK106.out 0;have hfz19_1:=blk_frozen BK106.out 1;have hfz19_2:=blk_frozen BK106.out 2;have hfz19_3:=blk_frozen BK106.out 3
         clear hxx_0 hxx_1 hcz_0 hcz_1 hfz_0 hfz_1;obtain ⟨adx,exx,hxx_0,hxx_1,_,_⟩:=at_T23 (Kd.R_reads' HO0.out).2.2 (ji4) (of_decide_eq_true (by assumption)) (of_decide_eq_true (by assumption));obtain rfl : ad107 = adx:=(by injection exx);refine hK.out _ _ ⟨hxx_0,hxx_1,(blk_cell BK106.out 1).trans rfl⟩ (fun hHeld=>?_);refine pure_ (i:=17) (N:=some 58) (v:=?_) (a':=?_) (lb 19 262143) rfl rfl (by kernel_rfl) (fun _ _ _ h=>h) (Or.inl ⟨by rfl,?_⟩) ?_ ?_;rotate_left
         ·
          intro w';go_simp;with_reducible rfl
         rotate_left
         ·
          simp only [Act.put,sqa,sqb,sqc,i64_w,i32_w];rfl
         refine last_ (i:=18) (N:=none) (lb 19 524287) rfl rfl (by kernel_rfl) (by decide) (fun K hK=>?_);refine overlap_join.store_step_ (w1:=(w18.setCell ⟨gb106,1,none⟩ (.string (((rd_T23 l0 (ji4)).f1) ++ a1_1)))) rfl rfl ?_ ?_
         ·
          first|(go_simp;done)|(go_simp;rfl)
         intro w20 hw;clear hxx_0 hxx_1;have n0_ : Aside0 (Kd.R k23 23 w20 w0.heap.size (fun k_=>(P0_ k_∨w.heap.size≤k_)∧k_≠gb106) (.slice (some ad107) l0.length co14) l0):=⟨(by rw [hw];exact (by (with_reducible repeat (first|apply Kd.R_alloc|apply Kd.R_drewN|apply Kd.R_drew));exact Kd.R_mono (Kd.R_far (p:=⟨gb106,1,none⟩) (Kd.R_mono HO0.out (fun k_ hk=>(⟨hk,hk.2⟩ : _∧k_≠gb106))) (fun _ hk=>hk.2) (.string (((rd_T23 l0 (ji4)).f1) ++ a1_1))) (fun _ hk=>⟨hk.1.1,hk.1.2⟩)))⟩;have n1_ : Aside0 (w20.heap[gb106]? = some (.cells #[.int .i64 ((rd_T23 l0 (ji4)).f0),.string (((rd_T23 l0 (ji4)).f1) ++ a1_1),.int .i64 a1_2,.int .i64 a1_3] 23 (0,0))):=⟨(by rw [hw];exact (by (with_reducible repeat (first|refine blk_drewN ?_ _|refine blk_drew ?_|refine blk_alloc ?_ _));refine blk_put (cs:=#[.int .i64 ((rd_T23 l0 (ji4)).f0),.string a1_1,.int .i64 a1_2,.int .i64 a1_3]) ?_ 1 _ rfl;(with_reducible repeat (first|refine blk_drewN ?_ _|refine blk_drew ?_|refine blk_alloc ?_ _));exact BK106.out))⟩;have n2_ : Aside0 (Kept w w20 (fun k_=>P0_ k_)):=⟨(by rw [hw];exact (by repeat (first|(with_reducible first|exact HK.out|apply Kept.alloc|apply Kept.drewN|apply Kept.drew|refine Kept.setCell ?_ (.inr GW106.out) _)|exact HK.out)))⟩;have n3_ : Aside0 (Below w0.heap.size w0 w20):=⟨(by rw [hw];exact (by repeat (first|(with_reducible first|exact HB.out|apply below_alloc|apply pw_below_drewN|apply below_drew1|refine below_set ?_ GE106.out)|exact HB.out)))⟩;clear hw;clear HO0;clear BK106;clear HK;clear HB;have HO0:=n0_;have BK106:=n1_;have HK:=n2_;have HB:=n3_;clear n0_ n1_ n2_ n3_;have q21 : ((ji4) : Int)≤((l0.length : Int) : Int):=of_decide_eq_true (by first|(with_reducible assumption)|assumption);obtain ⟨i021,hi021,_,hsz21,_⟩:=info_parts info23;have hcut21:=cut_to (P:=Try.prog) 26 23 .i64 Try.underlying26 hi021 (some ad107) l0.length co14 (ji4) (of_decide_eq_true (by first|(with_reducible assumption)|assumption)) q21 (Kd.R_reads' HO0.out).2.1;have hr21:=Kd.R_take (m:=((ji4) : Int).toNat) HO0.out (by omega);have hy21 : y113.length = ((ji4) : Int).toNat:=(by rw [Ny113.out,List.length_take];omega);rw [← Ny113.out] at hr21;rw [← hy21] at hr21 hcut21;clear hy21 hi021 hsz21 HO0;have HO115:=Aside0.mk hr21;clear hr21;replace q21:=eq_true q21;have hcz22_0 : w20.cell? ⟨gb106,0,none⟩ = some (.int .i64 ((rd_T23 l0 (ji4)).f0)):=(blk_cell BK106.out 0).trans rfl;have hcz22_1 : w20.cell? ⟨gb106,1,none⟩ = some (.string (((rd_T23 l0 (ji4)).f1) ++ a1_1)):=(blk_cell BK106.out 1).trans rfl;have hcz22_2 : w20.cell? ⟨gb106,2,none⟩ = some (.int .i64 a1_2):=(blk_cell BK106.out 2).trans rfl;have hcz22_3 : w20.cell? ⟨gb106,3,none⟩ = some (.int .i64 a1_3):=(blk_cell BK106.out 3).trans rfl;have hfz22_0:=blk_frozen BK106.out 0;have hfz22_1:=blk_frozen BK106.out 1;have hfz22_2:=blk_frozen BK106.out 2;have hfz22_3:=blk_frozen BK106.out 3
         refine hK.out _ _ ?_;refine done_ (by kernel_rfl) ?_;go_wp2_with (first|((with_reducible refine gate_builtin (b:=.append) (xs:=#[.tmp 63,.tmp 65]) rfl ?_);at_builtin;refine Kd.R_append k23 (w0:=w0) w0.heap.size rfl (.tmp 63) (.tmp 65) 26 23 (.agg #[(.int .i64 0),(.string ⟨#[]⟩),(.int .i64 0),(.int .i64 0)]) 40 rfl Try.underlying26 info23 rfl (by decide) (by omega) (.slice (some ad107) y113.length co14) y113 (⟨(rd_T23 l0 (ji4)).f0,((rd_T23 l0 (ji4)).f1) ++ a1_1,a1_2,a1_3⟩ : S23) [.int .i64 ((rd_T23 l0 (ji4)).f0),.string (((rd_T23 l0 (ji4)).f1) ++ a1_1),.int .i64 a1_2,.int .i64 a1_3] (fun k_=>(P0_ k_∨w.heap.size≤k_)∧k_≠gb106) (fun _=>False) rfl rfl ?aP (fun _ hk=>hk.elim) ?aF ?aO ?aB ?aS ?aL ?_;(case aP=>exact k23_mkM _ _ _ (⟨(rd_T23 l0 (ji4)).f0,((rd_T23 l0 (ji4)).f1) ++ a1_1,a1_2,a1_3⟩ : S23));(case aB=>exact (by repeat (first|(with_reducible first|exact HB.out|apply below_alloc|apply pw_below_drewN|apply below_drew1|refine below_set ?_ GE106.out)|exact HB.out)));(case aF=>exact (fun k_ hk=>⟨(.inr (Nat.le_trans (by first|exact HK.out.1|exact (show Kept w _ (fun k_=>P0_ k_) from by repeat (first|(with_reducible first|exact HK.out|apply Kept.alloc|apply Kept.drewN|apply Kept.drew|refine Kept.setCell ?_ (.inr GW106.out) _)|exact HK.out)).1) hk)),Kd.freshB (g:=gb106) (o:=.cells #[.int .i64 ((rd_T23 l0 (ji4)).f0),.string (((rd_T23 l0 (ji4)).f1) ++ a1_1),.int .i64 a1_2,.int .i64 a1_3] 23 (0,0)) (by (with_reducible repeat (first|refine blk_drewN ?_ _|refine blk_drew ?_|refine blk_alloc ?_ _));exact BK106.out) k_ hk⟩));(case aO=>exact (by (with_reducible repeat (first|apply Kd.R_alloc|apply Kd.R_drewN|apply Kd.R_drew));exact HO115.out));(case aS=>exact (below_size (by repeat (first|(with_reducible first|exact HB.out|apply below_alloc|apply pw_below_drewN|apply below_drew1|refine below_set ?_ GE106.out)|exact HB.out))));(case aL=>have:=LMc12.out;omega);intro v117 w23 ho hb hg hat;rw [← Ny116.out] at ho;have n0_:=Aside0.mk (blk_grown (g:=gb106) (o:=.cells #[.int .i64 ((rd_T23 l0 (ji4)).f0),.string (((rd_T23 l0 (ji4)).f1) ++ a1_1),.int .i64 a1_2,.int .i64 a1_3] 23 (0,0)) (by (with_reducible repeat (first|refine blk_drewN ?_ _|refine blk_drew ?_|refine blk_alloc ?_ _));exact BK106.out) hg (Kd.R_away HO115.out (fun _ hk=>hk.2)));have n1_:=Aside0.mk (hb);have n2_:=Aside0.mk (Kept.of_grown (S:=(fun k_=>P0_ k_)) hg (by repeat (first|(with_reducible first|exact HK.out|apply Kept.alloc|apply Kept.drewN|apply Kept.drew|refine Kept.setCell ?_ (.inr GW106.out) _)|exact HK.out)) (fun k_ e_=>(HO115.out.1 k_ e_).1));have n3_:=Aside0.mk (ho);clear BK106;clear HB;clear HK;clear HO115;have BK106:=n0_;have HB:=n1_;have HK:=n2_;have HO118:=n3_;clear n0_ n1_ n2_ n3_;clear ho hb hg hat));go_ret;exact ⟨_,by first|rfl|(simp [errW_none,errW_some] <;> rfl)|(simp only [← hji4];first|rfl|(simp [errW_none,errW_some] <;> rfl))|(simp [*,errW_none,errW_some] <;> rfl),by (with_reducible repeat (first|apply Kd.R_alloc|apply Kd.R_drewN|apply Kd.R_drew));exact Kd.R_mono HO118.out (fun _ hk=>hk.1),by repeat (first|(with_reducible first|exact HB.out|apply below_alloc|apply pw_below_drewN|apply below_drew1|refine below_set ?_ GE106.out)|exact HB.out),by repeat (first|(with_reducible first|exact HK.out|apply Kept.alloc|apply Kept.drewN|apply Kept.drew|refine Kept.setCell ?_ (.inr GW106.out) _)|exact HK.out)⟩
        ·
         rw [if_neg c12] at H;exact absurd H (by simp)
       ·
        rw [if_neg c11] at H;exact absurd H (by simp)
      ·
       rw [if_neg c10] at H;exact absurd H (by simp)
     ·
      rw [if_neg c9] at H;have c9b0 : (((rd_T23 l0 (ji4)).f2) == a1_2 && (((rd_T23 l0 (ji4)).f3) == a1_3)) = false:=by simpa using c9
      (try (have c9b1 : decide (((rd_T23 l0 (ji4)).f2) = a1_2 && (((rd_T23 l0 (ji4)).f3) == a1_3)) = false:=by simpa using c9));(try (have c9b2 : (((rd_T23 l0 (ji4)).f2) == a1_2 && (((rd_T23 l0 (ji4)).f3) == a1_3)) = false:=by simpa using c9));(try (have c9b3 : ¬ (((rd_T23 l0 (ji4)).f2) = a1_2 && (((rd_T23 l0 (ji4)).f3) == a1_3)):=by simpa using c9));clear c9;by_cases c24 : l0.length < 3518437208883
      ·
       rw [if_pos c24] at H;have LMc24:=Aside0.mk c24;clear c24;obtain ⟨y119,hy119⟩ : ∃ y_ : List (S23),y_ = (l0 ++ [(⟨a1_0,a1_1,a1_2,a1_3⟩ : S23)]):=⟨_,rfl⟩;replace H : (some y119) = some r:=by first|(rw [hy119];with_reducible exact H)|(have H2_:=(Option.bind_some _ _).symm.trans H;rw [hy119];with_reducible exact H2_)|(have H2_:=(Option.bind_some _ _).symm.trans H;with_reducible exact H2_)|with_reducible exact H|(rw [hy119];exact H)|exact H
       have Ny119:=Aside0.mk hy119;clear hy119;obtain rfl:=Option.some.inj H;go_enter Try.func29,Try.ntmps29
       try go_wp2_with (first|((with_reducible refine gate_dst (N:=3) rfl ?_);refine box_event ?hg (N:=3) ?hd (cs:=#[.int .i64 a1_0,.string a1_1,.int .i64 a1_2,.int .i64 a1_3]) (t:=23) ?hr ?_;(case hd=>rfl);(case hg=>rfl);(case hr=>first|(go_simp;done)|(go_simp;rfl));intro gb106 hg w25 hbox hb;have n0_:=Aside0.mk (Kd.R_below (Kd.R_elderB (by (with_reducible repeat (first|apply Kd.R_alloc|apply Kd.R_drewN|apply Kd.R_drew));exact HO0.out) gb106 (Nat.le_of_eq hg.symm)) hb);have n1_:=Aside0.mk (Kept.below (S:=(fun k_=>P0_ k_)) (by repeat (first|(with_reducible first|exact HK.out|apply Kept.alloc|apply Kept.drewN|apply Kept.drew)|exact HK.out)) hb);have n2_:=Aside0.mk (below_step (by repeat (first|(with_reducible first|exact HB.out|apply below_alloc|apply pw_below_drewN|apply below_drew1)|exact HB.out)) hb);have n3_:=Aside0.mk (hbox);have n4_:=Aside0.mk ((by rw [hg];exact (by first|exact HK.out.1|exact (show Kept w _ (fun k_=>P0_ k_) from by repeat (first|(with_reducible first|exact HK.out|apply Kept.alloc|apply Kept.drewN|apply Kept.drew)|exact HK.out)).1) : w.heap.size≤gb106));have n5_:=Aside0.mk ((by rw [hg];exact (below_size (by repeat (first|(with_reducible first|exact HB.out|apply below_alloc|apply pw_below_drewN|apply below_drew1)|exact HB.out))) : w0.heap.size≤gb106));clear HO0;clear HK;clear HB;have HO0:=n0_;have HK:=n1_;have HB:=n2_;have BK106:=n3_;have GW106:=n4_;have GE106:=n5_;clear n0_ n1_ n2_ n3_ n4_ n5_;clear hb hbox hg;obtain ⟨Ao26,co26,eo26⟩:=Kd.R_slice HO0.out;subst eo26))
       have n0_:=Aside0.mk (Kd.R_drew HO0.out);have n1_:=Aside0.mk (blk_drew BK106.out);have n2_:=Aside0.mk (Kept.drew HK.out);have n3_:=Aside0.mk (below_drew1 HB.out);clear HO0;clear BK106;clear HK;clear HB;have HO0:=n0_;have BK106:=n1_;have HK:=n2_;have HB:=n3_;clear n0_ n1_ n2_ n3_;have p107 : 0≤((ji4) : Int):=of_decide_eq_true (by first|(with_reducible assumption)|assumption);have q107 : (ji4) < (l0.length : Int):=of_decide_eq_true (by first|(with_reducible assumption)|assumption);obtain ⟨ad107,e107,hx107_0,hx107_1,hx107_2,hx107_3⟩:=at_T23 (Kd.R_reads' HO0.out).2.2 (ji4) p107 q107;cases e107;replace p107:=eq_true p107;replace q107:=eq_true q107;have p109 : 0≤((ji4) : Int):=of_decide_eq_true (by first|(with_reducible assumption)|assumption);have q109 : (ji4) < (l0.length : Int):=of_decide_eq_true (by first|(with_reducible assumption)|assumption);obtain ⟨ad109,e109,hx109_0,hx109_1,hx109_2,hx109_3⟩:=at_T23 (Kd.R_reads' HO0.out).2.2 (ji4) p109 q109;obtain rfl : ad107 = ad109:=(by injection e109);replace p109:=eq_true p109;replace q109:=eq_true q109;have p110 : 0≤((ji4) : Int):=of_decide_eq_true (by first|(with_reducible assumption)|assumption);have q110 : (ji4) < (l0.length : Int):=of_decide_eq_true (by first|(with_reducible assumption)|assumption);obtain ⟨ad110,e110,hx110_0,hx110_1,hx110_2,hx110_3⟩:=at_T23 (Kd.R_reads' HO0.out).2.2 (ji4) p110 q110;obtain rfl : ad107 = ad110:=(by injection e110);replace p110:=eq_true p110;replace q110:=eq_true q110;refine start_ (n:=34) (S:=fun w'=>w'.cell? ⟨gb106,0,none⟩ = some (.int .i64 a1_0)∧w'.cell? ⟨gb106,1,none⟩ = some (.string a1_1)∧w'.cell? ⟨gb106,2,none⟩ = some (.int .i64 a1_2)∧w'.cell? ⟨gb106,3,none⟩ = some (.int .i64 a1_3)∧w'.cell? (ad107.add (((ji4)).toNat * 4)) = some (.int .i64 ((rd_T23 l0 (ji4)).f0))∧w'.cell? ⟨(ad107.add (((ji4)).toNat * 4)).block,(ad107.add (((ji4)).toNat * 4)).off + 1,none⟩ = some (.string ((rd_T23 l0 (ji4)).f1))∧w'.cell? ⟨(ad107.add (((ji4)).toNat * 4)).block,(ad107.add (((ji4)).toNat * 4)).off + 2,none⟩ = some (.int .i64 ((rd_T23 l0 (ji4)).f2))∧w'.cell? ⟨(ad107.add (((ji4)).toNat * 4)).block,(ad107.add (((ji4)).toNat * 4)).off + 3,none⟩ = some (.int .i64 ((rd_T23 l0 (ji4)).f3))∧w'.cell? (ad107.add (((ji4)).toNat * 4)) = some (.int .i64 ((rd_T23 l0 (ji4)).f0))∧w'.cell? ⟨(ad107.add (((ji4)).toNat * 4)).block,(ad107.add (((ji4)).toNat * 4)).off + 1,none⟩ = some (.string ((rd_T23 l0 (ji4)).f1))∧w'.cell? ⟨(ad107.add (((ji4)).toNat * 4)).block,(ad107.add (((ji4)).toNat * 4)).off + 2,none⟩ = some (.int .i64 ((rd_T23 l0 (ji4)).f2))∧w'.cell? ⟨(ad107.add (((ji4)).toNat * 4)).block,(ad107.add (((ji4)).toNat * 4)).off + 3,none⟩ = some (.int .i64 ((rd_T23 l0 (ji4)).f3))∧w'.cell? (ad107.add (((ji4)).toNat * 4)) = some (.int .i64 ((rd_T23 l0 (ji4)).f0))∧w'.cell? ⟨(ad107.add (((ji4)).toNat * 4)).block,(ad107.add (((ji4)).toNat * 4)).off + 1,none⟩ = some (.string ((rd_T23 l0 (ji4)).f1))∧w'.cell? ⟨(ad107.add (((ji4)).toNat * 4)).block,(ad107.add (((ji4)).toNat * 4)).off + 2,none⟩ = some (.int .i64 ((rd_T23 l0 (ji4)).f2))∧w'.cell? ⟨(ad107.add (((ji4)).toNat * 4)).block,(ad107.add (((ji4)).toNat * 4)).off + 3,none⟩ = some (.int .i64 ((rd_T23 l0 (ji4)).f3))) (ds:=[]) (lb 34 0) (by kernel_rfl) rfl (by kernel_rfl) ⟨(blk_cell BK106.out 0).trans rfl,(blk_cell BK106.out 1).trans rfl,(blk_cell BK106.out 2).trans rfl,(blk_cell BK106.out 3).trans rfl,hx107_0,hx107_1,hx107_2,hx107_3,hx109_0,hx109_1,hx109_2,hx109_3,hx110_0,hx110_1,hx110_2,hx110_3⟩ (fun hHeld=>?_);refine with_tabW overlap_join.tab2 overlap_join.bits2 (fun HT_ HW_=>?_)
       generalize w25.drew = w27 at HO0 BK106 HK HB hx107_0 hx107_1 hx107_2 hx107_3 hx109_0 hx109_1 hx109_2 hx109_3 hx110_0 hx110_1 hx110_2 hx110_3 hHeld ⊢;refine pure_ (i:=0) (N:=some 8) (v:=?_) (a':=?_) (lb 34 1) rfl rfl (any_of HT_.out (by kernel_rfl)) (fun _ _ _ h=>h) (Or.inl ⟨by rfl,?_⟩) ?_ ?_;rotate_left
       ·
        intro w';go_simp;with_reducible rfl
       rotate_left
       ·
        simp only [Act.put,sqa,sqb,sqc,i64_w,i32_w];rfl
       refine pure_ (i:=1) (N:=some 9) (v:=?_) (a':=?_) (lb 34 3) rfl rfl (any_of HT_.out (by kernel_rfl)) (fun _ _ _ h=>h) (Or.inl ⟨by rfl,?_⟩) ?_ ?_;rotate_left
       ·
        intro w';go_simp;with_reducible rfl
       rotate_left
       ·
        simp only [Act.put,sqa,sqb,sqc,i64_w,i32_w];rfl
       refine pure_ (i:=2) (N:=some 10) (v:=?_) (a':=?_) (lb 34 7) rfl rfl (any_of HT_.out (by kernel_rfl)) (fun _ _ _ h=>h) (Or.inl ⟨by rfl,?_⟩) ?_ ?_;rotate_left
       ·
        intro w';go_simp;with_reducible rfl
       rotate_left
       ·
        simp only [Act.put,sqa,sqb,sqc,i64_w,i32_w];rfl
       refine pure_ (i:=3) (N:=some 11) (v:=?_) (a':=?_) (lb 34 15) rfl rfl (any_of HT_.out (by kernel_rfl)) (fun _ _ _ h=>h) (Or.inl ⟨by rfl,?_⟩) ?_ ?_;rotate_left
       ·
        intro w';go_simp;with_reducible rfl
       rotate_left
       ·
        simp only [Act.put,sqa,sqb,sqc,i64_w,i32_w];rfl
       refine pure_ (i:=4) (N:=some 12) (v:=?_) (a':=?_) (lb 34 31) rfl rfl (any_of HT_.out (by kernel_rfl)) (fun _ _ _ h=>h) (Or.inl ⟨by rfl,?_⟩) ?_ ?_;rotate_left
       ·
        intro w';go_simp;with_reducible rfl
       rotate_left
       ·
        simp only [Act.put,sqa,sqb,sqc,i64_w,i32_w];rfl
       refine pure_ (i:=5) (N:=some 13) (v:=?_) (a':=?_) (lb 34 63) rfl rfl (any_of HT_.out (by kernel_rfl)) (fun _ _ _ h=>h) (Or.inl ⟨by rfl,?_⟩) ?_ ?_;rotate_left
       ·
        intro w';go_simp;with_reducible rfl
       rotate_left
       ·
        simp only [Act.put,sqa,sqb,sqc,i64_w,i32_w];rfl
       refine pure_ (i:=6) (N:=some 14) (v:=?_) (a':=?_) (lb 34 127) rfl rfl (any_of HT_.out (by kernel_rfl)) (fun _ _ _ h=>h) (Or.inl ⟨by rfl,?_⟩) ?_ ?_;rotate_left
       ·
        intro w';go_simp;with_reducible rfl
       rotate_left
       ·
        simp only [Act.put,sqa,sqb,sqc,i64_w,i32_w];rfl
       refine pure_ (i:=9) (N:=some 17) (v:=?_) (a':=?_) (lb 34 639) rfl rfl (any_of HT_.out (by kernel_rfl)) (fun _ _ _ h=>h) (Or.inl ⟨by rfl,?_⟩) ?_ ?_;rotate_left
       ·
        intro w';go_simp;with_reducible rfl
       rotate_left
       ·
        simp only [Act.put,sqa,sqb,sqc,i64_w,i32_w];rfl
       refine take_ (i:=7) (N:=some 15) (v:=?_) (a':=?_) (lb 34 767) rfl rfl (take_ofW HT_.out HW_.out (by kernel_rfl)) (fun _ _ _ h=>h) (Or.inl ⟨by rfl,?_⟩) hHeld ?_ ?_;rotate_left
       ·
        rintro w' ⟨s0,s1,s2,s3,s4,s5,s6,s7,s8,s9,s10,s11,s12,s13,s14,s15⟩;go_simp;with_reducible rfl
       rotate_left
       ·
        simp only [Act.put,sqa,sqb,sqc,i64_w,i32_w];rfl
       refine take_ (i:=10) (N:=some 18) (v:=?_) (a':=?_) (lb 34 1791) rfl rfl (take_ofW HT_.out HW_.out (by kernel_rfl)) (fun _ _ _ h=>h) (Or.inl ⟨by rfl,?_⟩) hHeld ?_ ?_;rotate_left
       ·
        rintro w' ⟨s0,s1,s2,s3,s4,s5,s6,s7,s8,s9,s10,s11,s12,s13,s14,s15⟩;go_simp;with_reducible rfl
       rotate_left
       ·
        simp only [Act.put,sqa,sqb,sqc,i64_w,i32_w];rfl
       refine one_ (i:=8) (N:=some 16) (lb 34 2047) rfl rfl (one_of HT_.out (by kernel_rfl)) (by decide) (fun K hK=>?_);refine goes_ Try.func28 (by kernel_rfl) rfl #[.agg #[.int .i64 ((rd_T23 l0 (ji4)).f0),.string ((rd_T23 l0 (ji4)).f1),.int .i64 ((rd_T23 l0 (ji4)).f2),.int .i64 ((rd_T23 l0 (ji4)).f3)]] (by rfl) rfl rfl (by (try simp only [List.map_toArray,List.map_cons,List.map_nil]);first|done|(simp only [hji4];rfl)|rfl|(simp only [List.length_drop,List.length_take];rfl)) ?_;with_reducible refine (overlap_end.calls ((rd_T23 l0 (ji4)).f0) ((rd_T23 l0 (ji4)).f1) ((rd_T23 l0 (ji4)).f2) ((rd_T23 l0 (ji4)).f3) t108 _ A7.out).mono ?_
       rintro e w28 ⟨rfl,hb⟩;have HS4_:=(hb.cell (World.block_lt_of_cell? _ _ (hHeld.2.2.2.2.1))).trans (hHeld.2.2.2.2.1);have HS5_:=(hb.cell (World.block_lt_of_cell? _ _ (hHeld.2.2.2.2.2.1))).trans (hHeld.2.2.2.2.2.1);have HS6_:=(hb.cell (World.block_lt_of_cell? _ _ (hHeld.2.2.2.2.2.2.1))).trans (hHeld.2.2.2.2.2.2.1);have HS7_:=(hb.cell (World.block_lt_of_cell? _ _ (hHeld.2.2.2.2.2.2.2.1))).trans (hHeld.2.2.2.2.2.2.2.1);have HS8_:=(hb.cell (World.block_lt_of_cell? _ _ (hHeld.2.2.2.2.2.2.2.2.1))).trans (hHeld.2.2.2.2.2.2.2.2.1);have HS9_:=(hb.cell (World.block_lt_of_cell? _ _ (hHeld.2.2.2.2.2.2.2.2.2.1))).trans (hHeld.2.2.2.2.2.2.2.2.2.1);have HS10_:=(hb.cell (World.block_lt_of_cell? _ _ (hHeld.2.2.2.2.2.2.2.2.2.2.1))).trans (hHeld.2.2.2.2.2.2.2.2.2.2.1);have HS11_:=(hb.cell (World.block_lt_of_cell? _ _ (hHeld.2.2.2.2.2.2.2.2.2.2.2.1))).trans (hHeld.2.2.2.2.2.2.2.2.2.2.2.1);have HS12_:=(hb.cell (World.block_lt_of_cell? _ _ (hHeld.2.2.2.2.2.2.2.2.2.2.2.2.1))).trans (hHeld.2.2.2.2.2.2.2.2.2.2.2.2.1);have HS13_:=(hb.cell (World.block_lt_of_cell? _ _ (hHeld.2.2.2.2.2.2.2.2.2.2.2.2.2.1))).trans (hHeld.2.2.2.2.2.2.2.2.2.2.2.2.2.1);have HS14_:=(hb.cell (World.block_lt_of_cell? _ _ (hHeld.2.2.2.2.2.2.2.2.2.2.2.2.2.2.1))).trans (hHeld.2.2.2.2.2.2.2.2.2.2.2.2.2.2.1);have HS15_:=(hb.cell (World.block_lt_of_cell? _ _ (hHeld.2.2.2.2.2.2.2.2.2.2.2.2.2.2.2))).trans (hHeld.2.2.2.2.2.2.2.2.2.2.2.2.2.2.2);refine ⟨_,rfl,?_⟩;have n0_:=Aside0.mk (Kd.R_below (by (with_reducible repeat (first|apply Kd.R_alloc|apply Kd.R_drewN|apply Kd.R_drew));exact HO0.out) hb);have n1_:=Aside0.mk (blk_below (g:=gb106) (o:=.cells #[.int .i64 a1_0,.string a1_1,.int .i64 a1_2,.int .i64 a1_3] 23 (0,0)) (by (with_reducible repeat (first|refine blk_drewN ?_ _|refine blk_drew ?_|refine blk_alloc ?_ _));exact BK106.out) hb);have n2_:=Aside0.mk (Kept.below (S:=(fun k_=>P0_ k_)) (by repeat (first|(with_reducible first|exact HK.out|apply Kept.alloc|apply Kept.drewN|apply Kept.drew|refine Kept.setCell ?_ (.inr GW106.out) _)|exact HK.out)) hb);have n3_:=Aside0.mk (below_step (by repeat (first|(with_reducible first|exact HB.out|apply below_alloc|apply pw_below_drewN|apply below_drew1|refine below_set ?_ GE106.out)|exact HB.out)) hb);clear HO0;clear BK106;clear HK;clear HB;have HO0:=n0_;have BK106:=n1_;have HK:=n2_;have HB:=n3_;clear n0_ n1_ n2_ n3_;(try clear hb);(try clear hb2);(try clear hk);(try clear hi);refine hK.out _ _ ⟨(blk_cell BK106.out 0).trans rfl,(blk_cell BK106.out 1).trans rfl,(blk_cell BK106.out 2).trans rfl,(blk_cell BK106.out 3).trans rfl,HS4_,HS5_,HS6_,HS7_,HS8_,HS9_,HS10_,HS11_,HS12_,HS13_,HS14_,HS15_⟩ (fun hHeld=>?_);clear hK K;refine norm_ (a':=?_) ?_ ?_;rotate_left
       ·
        show Act.put _ (some 16) _ = _
        simp only [Act.put,sqa,sqb,sqc,i64_w,i32_w];rfl
       refine pure_ (i:=11) (N:=some 19) (v:=?_) (a':=?_) (lb 34 4095) rfl rfl (any_of HT_.out (by kernel_rfl)) (fun _ _ _ h=>h) (Or.inl ⟨by rfl,?_⟩) ?_ ?_;rotate_left
       ·
        intro w';go_simp;with_reducible rfl
       rotate_left
       ·
        simp only [Act.put,sqa,sqb,sqc,i64_w,i32_w];rfl
       refine pure_ (i:=12) (N:=some 20) (v:=?_) (a':=?_) (lb 34 8191) rfl rfl (any_of HT_.out (by kernel_rfl)) (fun _ _ _ h=>h) (Or.inl ⟨by rfl,?_⟩) ?_ ?_;rotate_left
       ·
        intro w';go_simp;with_reducible rfl
       rotate_left
       ·
        simp only [Act.put,sqa,sqb,sqc,i64_w,i32_w];rfl
       refine pure_ (i:=13) (N:=some 21) (v:=?_) (a':=?_) (lb 34 16383) rfl rfl (any_of HT_.out (by kernel_rfl)) (fun _ _ _ h=>h) (Or.inl ⟨by rfl,?_⟩) ?_ ?_;rotate_left
       ·
        intro w';go_simp;with_reducible rfl
       rotate_left
       ·
        simp only [Act.put,sqa,sqb,sqc,i64_w,i32_w];rfl
       refine pure_ (i:=14) (N:=some 22) (v:=?_) (a':=?_) (lb 34 32767) rfl rfl (any_of HT_.out (by kernel_rfl)) (fun _ _ _ h=>h) (Or.inl ⟨by rfl,?_⟩) ?_ ?_;rotate_left
       ·
        intro w';go_simp;with_reducible rfl
       rotate_left
       ·
        simp only [Act.put,sqa,sqb,sqc,i64_w,i32_w];rfl
       refine pure_ (i:=15) (N:=some 23) (v:=?_) (a':=?_) (lb 34 65535) rfl rfl (any_of HT_.out (by kernel_rfl)) (fun _ _ _ h=>h) (Or.inl ⟨by rfl,?_⟩) ?_ ?_;rotate_left
       ·
        intro w';go_simp;with_reducible rfl
       rotate_left
       ·
        simp only [Act.put,sqa,sqb,sqc,i64_w,i32_w];rfl
       refine pure_ (i:=16) (N:=some 24) (v:=?_) (a':=?_) (lb 34 131071) rfl rfl (any_of HT_.out (by kernel_rfl)) (fun _ _ _ h=>h) (Or.inl ⟨by rfl,?_⟩) ?_ ?_;rotate_left
       ·
        intro w';go_simp;with_reducible rfl
       rotate_left
       ·
        simp only [Act.put,sqa,sqb,sqc,i64_w,i32_w];rfl
       refine pure_ (i:=17) (N:=some 25) (v:=?_) (a':=?_) (lb 34 262143) rfl rfl (any_of HT_.out (by kernel_rfl)) (fun _ _ _ h=>h) (Or.inl ⟨by rfl,?_⟩) ?_ ?_;rotate_left
       ·
        intro w';go_simp;with_reducible rfl
       rotate_left
       ·
        simp only [Act.put,sqa,sqb,sqc,i64_w,i32_w];rfl
       refine pure_ (i:=18) (N:=some 26) (v:=?_) (a':=?_) (lb 34 524287) rfl rfl (any_of HT_.out (by kernel_rfl)) (fun _ _ _ h=>h) (Or.inl ⟨by rfl,?_⟩) ?_ ?_;rotate_left
       ·
        intro w';go_simp;with_reducible rfl
       rotate_left
       ·
        simp only [Act.put,sqa,sqb,sqc,i64_w,i32_w];rfl
       refine pure_ (i:=20) (N:=some 28) (v:=?_) (a':=?_) (lb 34 1572863) rfl rfl (any_of HT_.out (by kernel_rfl)) (fun _ _ _ h=>h) (Or.inl ⟨by rfl,?_⟩) ?_ ?_;rotate_left
       ·
        intro w';go_simp;with_reducible rfl
       rotate_left
       ·
        simp only [Act.put,sqa,sqb,sqc,i64_w,i32_w];rfl
       refine pure_ (i:=21) (N:=some 29) (v:=?_) (a':=?_) (lb 34 3670015) rfl rfl (any_of HT_.out (by kernel_rfl)) (fun _ _ _ h=>h) (Or.inl ⟨by rfl,?_⟩) ?_ ?_;rotate_left
       ·
        intro w';go_simp;with_reducible rfl
       rotate_left
       ·
        simp only [Act.put,sqa,sqb,sqc,i64_w,i32_w];rfl
       refine pure_ (i:=22) (N:=some 30) (v:=?_) (a':=?_) (lb 34 7864319) rfl rfl (any_of HT_.out (by kernel_rfl)) (fun _ _ _ h=>h) (Or.inl ⟨by rfl,?_⟩) ?_ ?_;rotate_left
       ·
        intro w';go_simp;with_reducible rfl
       rotate_left
       ·
        simp only [Act.put,sqa,sqb,sqc,i64_w,i32_w];rfl
       refine pure_ (i:=23) (N:=some 31) (v:=?_) (a':=?_) (lb 34 16252927) rfl rfl (any_of HT_.out (by kernel_rfl)) (fun _ _ _ h=>h) (Or.inl ⟨by rfl,?_⟩) ?_ ?_;rotate_left
       ·
        intro w';go_simp;with_reducible rfl
       rotate_left
       ·
        simp only [Act.put,sqa,sqb,sqc,i64_w,i32_w];rfl
       refine pure_ (i:=24) (N:=some 32) (v:=?_) (a':=?_) (lb 34 33030143) rfl rfl (any_of HT_.out (by kernel_rfl)) (fun _ _ _ h=>h) (Or.inl ⟨by rfl,?_⟩) ?_ ?_;rotate_left
       ·
        intro w';go_simp;with_reducible rfl
       rotate_left
       ·
        simp only [Act.put,sqa,sqb,sqc,i64_w,i32_w];rfl
       refine pure_ (i:=27) (N:=some 35) (v:=?_) (a':=?_) (lb 34 167247871) rfl rfl (any_of HT_.out (by kernel_rfl)) (fun _ _ _ h=>h) (Or.inl ⟨by rfl,?_⟩) ?_ ?_;rotate_left
       ·
        intro w';go_simp;with_reducible rfl
       rotate_left
       ·
        simp only [Act.put,sqa,sqb,sqc,i64_w,i32_w];rfl
       refine pure_ (i:=29) (N:=some 37) (v:=?_) (a':=?_) (lb 34 704118783) rfl rfl (any_of HT_.out (by kernel_rfl)) (fun _ _ _ h=>h) (Or.inl ⟨by rfl,?_⟩) ?_ ?_;rotate_left
       ·
        intro w';go_simp;with_reducible rfl
       rotate_left
       ·
        simp only [Act.put,sqa,sqb,sqc,i64_w,i32_w];rfl
       refine take_ (i:=19) (N:=some 27) (v:=?_) (a':=?_) (lb 34 704643071) rfl rfl (take_ofW HT_.out HW_.out (by kernel_rfl)) (fun _ _ _ h=>h) (Or.inl ⟨by rfl,?_⟩) hHeld ?_ ?_;rotate_left
       ·
        rintro w' ⟨s0,s1,s2,s3,s4,s5,s6,s7,s8,s9,s10,s11,s12,s13,s14,s15⟩;go_simp;with_reducible rfl
       rotate_left
       ·
        simp only [Act.put,sqa,sqb,sqc,i64_w,i32_w];rfl
       refine take_ (i:=25) (N:=some 33) (v:=?_) (a':=?_) (lb 34 738197503) rfl rfl (take_ofW HT_.out HW_.out (by kernel_rfl)) (fun _ _ _ h=>h) (Or.inl ⟨by rfl,?_⟩) hHeld ?_ ?_;rotate_left
       ·
        rintro w' ⟨s0,s1,s2,s3,s4,s5,s6,s7,s8,s9,s10,s11,s12,s13,s14,s15⟩;go_simp;with_reducible rfl
       rotate_left
       ·
        simp only [Act.put,sqa,sqb,sqc,i64_w,i32_w];rfl
       refine pure_ (i:=26) (N:=some 34) (v:=?_) (a':=?_) (lb 34 805306367) rfl rfl (any_of HT_.out (by kernel_rfl)) (fun _ _ _ h=>h) (Or.inl ⟨by rfl,?_⟩) ?_ ?_;rotate_left
       ·
        intro w';go_simp;with_reducible rfl
       rotate_left
       ·
        simp only [Act.put,sqa,sqb,sqc,i64_w,i32_w];rfl
       refine take_ (i:=28) (N:=some 36) (v:=?_) (a':=?_) (lb 34 1073741823) rfl rfl (take_ofW HT_.out HW_.out (by kernel_rfl)) (fun _ _ _ h=>h) (Or.inl ⟨by rfl,?_⟩) hHeld ?_ ?_;rotate_left
       ·
        rintro w' ⟨s0,s1,s2,s3,s4,s5,s6,s7,s8,s9,s10,s11,s12,s13,s14,s15⟩;go_simp;with_reducible rfl
       rotate_left
       ·
        simp only [Act.put,sqa,sqb,sqc,i64_w,i32_w];rfl
       refine take_ (i:=30) (N:=some 38) (v:=?_) (a':=?_) (lb 34 2147483647) rfl rfl (take_ofW HT_.out HW_.out (by kernel_rfl)) (fun _ _ _ h=>h) (Or.inl ⟨by rfl,?_⟩) hHeld ?_ ?_;rotate_left
       ·
        rintro w' ⟨s0,s1,s2,s3,s4,s5,s6,s7,s8,s9,s10,s11,s12,s13,s14,s15⟩;go_simp;with_reducible rfl
       rotate_left
       ·
        simp only [Act.put,sqa,sqb,sqc,i64_w,i32_w];rfl
       refine pure_ (i:=31) (N:=some 39) (v:=?_) (a':=?_) (lb 34 4294967295) rfl rfl (any_of HT_.out (by kernel_rfl)) (fun _ _ _ h=>h) (Or.inl ⟨by rfl,?_⟩) ?_ ?_;rotate_left
       ·
        intro w';go_simp;with_reducible rfl
       rotate_left
       ·
        simp only [Act.put,sqa,sqb,sqc,i64_w,i32_w];rfl
       refine pure_ (i:=32) (N:=some 40) (v:=?_) (a':=?_) (lb 34 8589934591) rfl rfl (any_of HT_.out (by kernel_rfl)) (fun _ _ _ h=>h) (Or.inl ⟨by rfl,?_⟩) ?_ ?_;rotate_left
       ·
        intro w';go_simp;with_reducible rfl
       rotate_left
       ·
        simp only [Act.put,sqa,sqb,sqc,i64_w,i32_w];rfl
       refine pure_ (i:=33) (N:=some 41) (v:=?_) (a':=?_) (lb 34 17179869183) rfl rfl (any_of HT_.out (by kernel_rfl)) (fun _ _ _ h=>h) (Or.inl ⟨by rfl,?_⟩) ?_ ?_;rotate_left
       ·
        intro w';go_simp;with_reducible rfl
       rotate_left
       ·
        simp only [Act.put,sqa,sqb,sqc,i64_w,i32_w];rfl
       refine done_ (done_of HT_.out (by kernel_rfl)) ?_;have hcz29_0 : w28.cell? ⟨gb106,0,none⟩ = some (.int .i64 a1_0):=(blk_cell BK106.out 0).trans rfl;have hcz29_1 : w28.cell? ⟨gb106,1,none⟩ = some (.string a1_1):=(blk_cell BK106.out 1).trans rfl;have hcz29_2 : w28.cell? ⟨gb106,2,none⟩ = some (.int .i64 a1_2):=(blk_cell BK106.out 2).trans rfl;have hcz29_3 : w28.cell? ⟨gb106,3,none⟩ = some (.int .i64 a1_3):=(blk_cell BK106.out 3).trans rfl;have hfz29_0:=blk_frozen BK106.out 0;have hfz29_1:=blk_frozen BK106.out 1;have hfz29_2:=blk_frozen BK106.out 2;have hfz29_3:=blk_frozen BK106.out 3;try go_wp2_with (first|((with_reducible refine gate_builtin (b:=.append) (xs:=#[.tmp 63,.tmp 65]) rfl ?_);at_builtin;refine Kd.R_append k23 (w0:=w0) w0.heap.size rfl (.tmp 63) (.tmp 65) 26 23 (.agg #[(.int .i64 0),(.string ⟨#[]⟩),(.int .i64 0),(.int .i64 0)]) 40 rfl Try.underlying26 info23 rfl (by decide) (by omega) (.slice (some ad107) l0.length co26) l0 (⟨a1_0,a1_1,a1_2,a1_3⟩ : S23) [.int .i64 a1_0,.string a1_1,.int .i64 a1_2,.int .i64 a1_3] (fun k_=>(P0_ k_∨w.heap.size≤k_)∧k_≠gb106) (fun _=>False) rfl rfl ?aP (fun _ hk=>hk.elim) ?aF ?aO ?aB ?aS ?aL ?_;(case aP=>exact k23_mkM _ _ _ (⟨a1_0,a1_1,a1_2,a1_3⟩ : S23));(case aB=>exact (by repeat (first|(with_reducible first|exact HB.out|apply below_alloc|apply pw_below_drewN|apply below_drew1|refine below_set ?_ GE106.out)|exact HB.out)));(case aF=>exact (fun k_ hk=>⟨(.inr (Nat.le_trans (by first|exact HK.out.1|exact (show Kept w _ (fun k_=>P0_ k_) from by repeat (first|(with_reducible first|exact HK.out|apply Kept.alloc|apply Kept.drewN|apply Kept.drew|refine Kept.setCell ?_ (.inr GW106.out) _)|exact HK.out)).1) hk)),Kd.freshB (g:=gb106) (o:=.cells #[.int .i64 a1_0,.string a1_1,.int .i64 a1_2,.int .i64 a1_3] 23 (0,0)) (by (with_reducible repeat (first|refine blk_drewN ?_ _|refine blk_drew ?_|refine blk_alloc ?_ _));exact BK106.out) k_ hk⟩));(case aO=>exact (by (with_reducible repeat (first|apply Kd.R_alloc|apply Kd.R_drewN|apply Kd.R_drew));exact HO0.out));(case aS=>exact (below_size (by repeat (first|(with_reducible first|exact HB.out|apply below_alloc|apply pw_below_drewN|apply below_drew1|refine below_set ?_ GE106.out)|exact HB.out))));(case aL=>have:=LMc24.out;omega);intro v120 w30 ho hb hg hat;rw [← Ny119.out] at ho;have n0_:=Aside0.mk (blk_grown (g:=gb106) (o:=.cells #[.int .i64 a1_0,.string a1_1,.int .i64 a1_2,.int .i64 a1_3] 23 (0,0)) (by (with_reducible repeat (first|refine blk_drewN ?_ _|refine blk_drew ?_|refine blk_alloc ?_ _));exact BK106.out) hg (Kd.R_away HO0.out (fun _ hk=>hk.2)));have n1_:=Aside0.mk (hb);have n2_:=Aside0.mk (Kept.of_grown (S:=(fun k_=>P0_ k_)) hg (by repeat (first|(with_reducible first|exact HK.out|apply Kept.alloc|apply Kept.drewN|apply Kept.drew|refine Kept.setCell ?_ (.inr GW106.out) _)|exact HK.out)) (fun k_ e_=>(HO0.out.1 k_ e_).1));have n3_:=Aside0.mk (ho);clear BK106;clear HB;clear HK;clear HO0;have BK106:=n0_;have HB:=n1_;have HK:=n2_;have HO121:=n3_;clear n0_ n1_ n2_ n3_;clear ho hb hg hat))
       go_ret;exact ⟨_,by first|rfl|(simp [errW_none,errW_some] <;> rfl)|(simp only [← hji4];first|rfl|(simp [errW_none,errW_some] <;> rfl))|(simp [*,errW_none,errW_some] <;> rfl),by (with_reducible repeat (first|apply Kd.R_alloc|apply Kd.R_drewN|apply Kd.R_drew));exact Kd.R_mono HO121.out (fun _ hk=>hk.1),by repeat (first|(with_reducible first|exact HB.out|apply below_alloc|apply pw_below_drewN|apply below_drew1|refine below_set ?_ GE106.out)|exact HB.out),by repeat (first|(with_reducible first|exact HK.out|apply Kept.alloc|apply Kept.drewN|apply Kept.drew|refine Kept.setCell ?_ (.inr GW106.out) _)|exact HK.out)⟩
      ·
       rw [if_neg c24] at H;exact absurd H (by simp)
    ·
     rw [if_neg c8] at H;have c8b0 : (t108 == a1_0) = false:=beq_eq_false_iff_ne.mpr c8;have c8b1 : (t108 != a1_0) = true:=bne_iff_ne.mpr c8;by_cases c31 : l0.length < 3518437208883
     ·
      rw [if_pos c31] at H;have LMc31:=Aside0.mk c31;clear c31;obtain ⟨y122,hy122⟩ : ∃ y_ : List (S23),y_ = (l0 ++ [(⟨a1_0,a1_1,a1_2,a1_3⟩ : S23)]):=⟨_,rfl⟩;replace H : (some y122) = some r:=by first|(rw [hy122];with_reducible exact H)|(have H2_:=(Option.bind_some _ _).symm.trans H;rw [hy122];with_reducible exact H2_)|(have H2_:=(Option.bind_some _ _).symm.trans H;with_reducible exact H2_)|with_reducible exact H|(rw [hy122];exact H)|exact H
      have Ny122:=Aside0.mk hy122;clear hy122;obtain rfl:=Option.some.inj H;go_enter Try.func29,Try.ntmps29
      try go_wp2_with (first|((with_reducible refine gate_dst (N:=3) rfl ?_);refine box_event ?hg (N:=3) ?hd (cs:=#[.int .i64 a1_0,.string a1_1,.int .i64 a1_2,.int .i64 a1_3]) (t:=23) ?hr ?_;(case hd=>rfl);(case hg=>rfl);(case hr=>first|(go_simp;done)|(go_simp;rfl));intro gb106 hg w32 hbox hb;have n0_:=Aside0.mk (Kd.R_below (Kd.R_elderB (by (with_reducible repeat (first|apply Kd.R_alloc|apply Kd.R_drewN|apply Kd.R_drew));exact HO0.out) gb106 (Nat.le_of_eq hg.symm)) hb);have n1_:=Aside0.mk (Kept.below (S:=(fun k_=>P0_ k_)) (by repeat (first|(with_reducible first|exact HK.out|apply Kept.alloc|apply Kept.drewN|apply Kept.drew)|exact HK.out)) hb);have n2_:=Aside0.mk (below_step (by repeat (first|(with_reducible first|exact HB.out|apply below_alloc|apply pw_below_drewN|apply below_drew1)|exact HB.out)) hb);have n3_:=Aside0.mk (hbox);have n4_:=Aside0.mk ((by rw [hg];exact (by first|exact HK.out.1|exact (show Kept w _ (fun k_=>P0_ k_) from by repeat (first|(with_reducible first|exact HK.out|apply Kept.alloc|apply Kept.drewN|apply Kept.drew)|exact HK.out)).1) : w.heap.size≤gb106));have n5_:=Aside0.mk ((by rw [hg];exact (below_size (by repeat (first|(with_reducible first|exact HB.out|apply below_alloc|apply pw_below_drewN|apply below_drew1)|exact HB.out))) : w0.heap.size≤gb106));clear HO0;clear HK;clear HB;have HO0:=n0_;have HK:=n1_;have HB:=n2_;have BK106:=n3_;have GW106:=n4_;have GE106:=n5_;clear n0_ n1_ n2_ n3_ n4_ n5_;clear hb hbox hg;obtain ⟨Ao33,co33,eo33⟩:=Kd.R_slice HO0.out;subst eo33))
      have n0_:=Aside0.mk (Kd.R_drew HO0.out);have n1_:=Aside0.mk (blk_drew BK106.out);have n2_:=Aside0.mk (Kept.drew HK.out);have n3_:=Aside0.mk (below_drew1 HB.out);clear HO0;clear BK106;clear HK;clear HB;have HO0:=n0_;have BK106:=n1_;have HK:=n2_;have HB:=n3_;clear n0_ n1_ n2_ n3_;have p107 : 0≤((ji4) : Int):=of_decide_eq_true (by first|(with_reducible assumption)|assumption);have q107 : (ji4) < (l0.length : Int):=of_decide_eq_true (by first|(with_reducible assumption)|assumption);obtain ⟨ad107,e107,hx107_0,hx107_1,hx107_2,hx107_3⟩:=at_T23 (Kd.R_reads' HO0.out).2.2 (ji4) p107 q107;cases e107;replace p107:=eq_true p107;replace q107:=eq_true q107;refine start_ (n:=34) (S:=fun w'=>w'.cell? ⟨gb106,0,none⟩ = some (.int .i64 a1_0)∧w'.cell? ⟨gb106,1,none⟩ = some (.string a1_1)∧w'.cell? ⟨gb106,2,none⟩ = some (.int .i64 a1_2)∧w'.cell? ⟨gb106,3,none⟩ = some (.int .i64 a1_3)∧w'.cell? (ad107.add (((ji4)).toNat * 4)) = some (.int .i64 ((rd_T23 l0 (ji4)).f0))∧w'.cell? ⟨(ad107.add (((ji4)).toNat * 4)).block,(ad107.add (((ji4)).toNat * 4)).off + 1,none⟩ = some (.string ((rd_T23 l0 (ji4)).f1))∧w'.cell? ⟨(ad107.add (((ji4)).toNat * 4)).block,(ad107.add (((ji4)).toNat * 4)).off + 2,none⟩ = some (.int .i64 ((rd_T23 l0 (ji4)).f2))∧w'.cell? ⟨(ad107.add (((ji4)).toNat * 4)).block,(ad107.add (((ji4)).toNat * 4)).off + 3,none⟩ = some (.int .i64 ((rd_T23 l0 (ji4)).f3))) (ds:=[]) (lb 34 0) (by kernel_rfl) rfl (by kernel_rfl) ⟨(blk_cell BK106.out 0).trans rfl,(blk_cell BK106.out 1).trans rfl,(blk_cell BK106.out 2).trans rfl,(blk_cell BK106.out 3).trans rfl,hx107_0,hx107_1,hx107_2,hx107_3⟩ (fun hHeld=>?_);refine with_tabW overlap_join.tab2 overlap_join.bits2 (fun HT_ HW_=>?_)
      generalize w32.drew = w34 at HO0 BK106 HK HB hx107_0 hx107_1 hx107_2 hx107_3 hHeld ⊢;refine pure_ (i:=0) (N:=some 8) (v:=?_) (a':=?_) (lb 34 1) rfl rfl (any_of HT_.out (by kernel_rfl)) (fun _ _ _ h=>h) (Or.inl ⟨by rfl,?_⟩) ?_ ?_;rotate_left
      ·
       intro w';go_simp;with_reducible rfl
      rotate_left
      ·
       simp only [Act.put,sqa,sqb,sqc,i64_w,i32_w];rfl
      refine pure_ (i:=1) (N:=some 9) (v:=?_) (a':=?_) (lb 34 3) rfl rfl (any_of HT_.out (by kernel_rfl)) (fun _ _ _ h=>h) (Or.inl ⟨by rfl,?_⟩) ?_ ?_;rotate_left
      ·
       intro w';go_simp;with_reducible rfl
      rotate_left
      ·
       simp only [Act.put,sqa,sqb,sqc,i64_w,i32_w];rfl
      refine pure_ (i:=2) (N:=some 10) (v:=?_) (a':=?_) (lb 34 7) rfl rfl (any_of HT_.out (by kernel_rfl)) (fun _ _ _ h=>h) (Or.inl ⟨by rfl,?_⟩) ?_ ?_;rotate_left
      ·
       intro w';go_simp;with_reducible rfl
      rotate_left
      ·
       simp only [Act.put,sqa,sqb,sqc,i64_w,i32_w];rfl
      refine pure_ (i:=3) (N:=some 11) (v:=?_) (a':=?_) (lb 34 15) rfl rfl (any_of HT_.out (by kernel_rfl)) (fun _ _ _ h=>h) (Or.inl ⟨by rfl,?_⟩) ?_ ?_;rotate_left
      ·
       intro w';go_simp;with_reducible rfl
      rotate_left
      ·
       simp only [Act.put,sqa,sqb,sqc,i64_w,i32_w];rfl
      refine pure_ (i:=4) (N:=some 12) (v:=?_) (a':=?_) (lb 34 31) rfl rfl (any_of HT_.out (by kernel_rfl)) (fun _ _ _ h=>h) (Or.inl ⟨by rfl,?_⟩) ?_ ?_;rotate_left
      ·
       intro w';go_simp;with_reducible rfl
      rotate_left
      ·
       simp only [Act.put,sqa,sqb,sqc,i64_w,i32_w];rfl
      refine pure_ (i:=5) (N:=some 13) (v:=?_) (a':=?_) (lb 34 63) rfl rfl (any_of HT_.out (by kernel_rfl)) (fun _ _ _ h=>h) (Or.inl ⟨by rfl,?_⟩) ?_ ?_;rotate_left
      ·
       intro w';go_simp;with_reducible rfl
      rotate_left
      ·
       simp only [Act.put,sqa,sqb,sqc,i64_w,i32_w];rfl
      refine pure_ (i:=6) (N:=some 14) (v:=?_) (a':=?_) (lb 34 127) rfl rfl (any_of HT_.out (by kernel_rfl)) (fun _ _ _ h=>h) (Or.inl ⟨by rfl,?_⟩) ?_ ?_;rotate_left
      ·
       intro w';go_simp;with_reducible rfl
      rotate_left
      ·
       simp only [Act.put,sqa,sqb,sqc,i64_w,i32_w];rfl
      refine pure_ (i:=9) (N:=some 17) (v:=?_) (a':=?_) (lb 34 639) rfl rfl (any_of HT_.out (by kernel_rfl)) (fun _ _ _ h=>h) (Or.inl ⟨by rfl,?_⟩) ?_ ?_;rotate_left
      ·
       intro w';go_simp;with_reducible rfl
      rotate_left
      ·
       simp only [Act.put,sqa,sqb,sqc,i64_w,i32_w];rfl
      refine take_ (i:=7) (N:=some 15) (v:=?_) (a':=?_) (lb 34 767) rfl rfl (take_ofW HT_.out HW_.out (by kernel_rfl)) (fun _ _ _ h=>h) (Or.inl ⟨by rfl,?_⟩) hHeld ?_ ?_;rotate_left
      ·
       rintro w' ⟨s0,s1,s2,s3,s4,s5,s6,s7⟩;go_simp;with_reducible rfl
      rotate_left
      ·
       simp only [Act.put,sqa,sqb,sqc,i64_w,i32_w];rfl
      refine take_ (i:=10) (N:=some 18) (v:=?_) (a':=?_) (lb 34 1791) rfl rfl (take_ofW HT_.out HW_.out (by kernel_rfl)) (fun _ _ _ h=>h) (Or.inl ⟨by rfl,?_⟩) hHeld ?_ ?_;rotate_left
      ·
       rintro w' ⟨s0,s1,s2,s3,s4,s5,s6,s7⟩;go_simp;with_reducible rfl
      rotate_left
      ·
       simp only [Act.put,sqa,sqb,sqc,i64_w,i32_w];rfl
      refine one_ (i:=8) (N:=some 16) (lb 34 2047) rfl rfl (one_of HT_.out (by kernel_rfl)) (by decide) (fun K hK=>?_);refine goes_ Try.func28 (by kernel_rfl) rfl #[.agg #[.int .i64 ((rd_T23 l0 (ji4)).f0),.string ((rd_T23 l0 (ji4)).f1),.int .i64 ((rd_T23 l0 (ji4)).f2),.int .i64 ((rd_T23 l0 (ji4)).f3)]] (by rfl) rfl rfl (by (try simp only [List.map_toArray,List.map_cons,List.map_nil]);first|done|(simp only [hji4];rfl)|rfl|(simp only [List.length_drop,List.length_take];rfl)) ?_;with_reducible refine (overlap_end.calls ((rd_T23 l0 (ji4)).f0) ((rd_T23 l0 (ji4)).f1) ((rd_T23 l0 (ji4)).f2) ((rd_T23 l0 (ji4)).f3) t108 _ A7.out).mono ?_
      rintro e w35 ⟨rfl,hb⟩;have HS4_:=(hb.cell (World.block_lt_of_cell? _ _ (hHeld.2.2.2.2.1))).trans (hHeld.2.2.2.2.1);have HS5_:=(hb.cell (World.block_lt_of_cell? _ _ (hHeld.2.2.2.2.2.1))).trans (hHeld.2.2.2.2.2.1);have HS6_:=(hb.cell (World.block_lt_of_cell? _ _ (hHeld.2.2.2.2.2.2.1))).trans (hHeld.2.2.2.2.2.2.1);have HS7_:=(hb.cell (World.block_lt_of_cell? _ _ (hHeld.2.2.2.2.2.2.2))).trans (hHeld.2.2.2.2.2.2.2);refine ⟨_,rfl,?_⟩;have n0_:=Aside0.mk (Kd.R_below (by (with_reducible repeat (first|apply Kd.R_alloc|apply Kd.R_drewN|apply Kd.R_drew));exact HO0.out) hb);have n1_:=Aside0.mk (blk_below (g:=gb106) (o:=.cells #[.int .i64 a1_0,.string a1_1,.int .i64 a1_2,.int .i64 a1_3] 23 (0,0)) (by (with_reducible repeat (first|refine blk_drewN ?_ _|refine blk_drew ?_|refine blk_alloc ?_ _));exact BK106.out) hb);have n2_:=Aside0.mk (Kept.below (S:=(fun k_=>P0_ k_)) (by repeat (first|(with_reducible first|exact HK.out|apply Kept.alloc|apply Kept.drewN|apply Kept.drew|refine Kept.setCell ?_ (.inr GW106.out) _)|exact HK.out)) hb);have n3_:=Aside0.mk (below_step (by repeat (first|(with_reducible first|exact HB.out|apply below_alloc|apply pw_below_drewN|apply below_drew1|refine below_set ?_ GE106.out)|exact HB.out)) hb);clear HO0;clear BK106;clear HK;clear HB;have HO0:=n0_;have BK106:=n1_;have HK:=n2_;have HB:=n3_;clear n0_ n1_ n2_ n3_;(try clear hb);(try clear hb2);(try clear hk);(try clear hi);refine hK.out _ _ ⟨(blk_cell BK106.out 0).trans rfl,(blk_cell BK106.out 1).trans rfl,(blk_cell BK106.out 2).trans rfl,(blk_cell BK106.out 3).trans rfl,HS4_,HS5_,HS6_,HS7_⟩ (fun hHeld=>?_);clear hK K;refine norm_ (a':=?_) ?_ ?_;rotate_left
      ·
       show Act.put _ (some 16) _ = _
       simp only [Act.put,sqa,sqb,sqc,i64_w,i32_w];rfl
      refine pure_ (i:=11) (N:=some 19) (v:=?_) (a':=?_) (lb 34 4095) rfl rfl (any_of HT_.out (by kernel_rfl)) (fun _ _ _ h=>h) (Or.inl ⟨by rfl,?_⟩) ?_ ?_;rotate_left
      ·
       intro w';go_simp;with_reducible rfl
      rotate_left
      ·
       simp only [Act.put,sqa,sqb,sqc,i64_w,i32_w];rfl
      refine pure_ (i:=12) (N:=some 20) (v:=?_) (a':=?_) (lb 34 8191) rfl rfl (any_of HT_.out (by kernel_rfl)) (fun _ _ _ h=>h) (Or.inl ⟨by rfl,?_⟩) ?_ ?_;rotate_left
      ·
       intro w';go_simp;with_reducible rfl
      rotate_left
      ·
       simp only [Act.put,sqa,sqb,sqc,i64_w,i32_w];rfl
      refine pure_ (i:=13) (N:=some 21) (v:=?_) (a':=?_) (lb 34 16383) rfl rfl (any_of HT_.out (by kernel_rfl)) (fun _ _ _ h=>h) (Or.inl ⟨by rfl,?_⟩) ?_ ?_;rotate_left
      ·
       intro w';go_simp;with_reducible rfl
      rotate_left
      ·
       simp only [Act.put,sqa,sqb,sqc,i64_w,i32_w];rfl
      refine pure_ (i:=14) (N:=some 22) (v:=undef) (a':=?_) (lb 34 32767) rfl rfl (any_of HT_.out (by kernel_rfl)) (fun _ _ _ h=>h) (Or.inr ⟨by rfl,rfl⟩) ?_ ?_;rotate_left
      ·
       simp only [Act.put,sqa,sqb,sqc,i64_w,i32_w];rfl
      refine pure_ (i:=15) (N:=some 23) (v:=undef) (a':=?_) (lb 34 65535) rfl rfl (any_of HT_.out (by kernel_rfl)) (fun _ _ _ h=>h) (Or.inr ⟨by rfl,rfl⟩) ?_ ?_;rotate_left
      ·
       simp only [Act.put,sqa,sqb,sqc,i64_w,i32_w];rfl
      refine pure_ (i:=16) (N:=some 24) (v:=undef) (a':=?_) (lb 34 131071) rfl rfl (any_of HT_.out (by kernel_rfl)) (fun _ _ _ h=>h) (Or.inr ⟨by rfl,rfl⟩) ?_ ?_;rotate_left
      ·
       simp only [Act.put,sqa,sqb,sqc,i64_w,i32_w];rfl
      refine pure_ (i:=17) (N:=some 25) (v:=undef) (a':=?_) (lb 34 262143) rfl rfl (any_of HT_.out (by kernel_rfl)) (fun _ _ _ h=>h) (Or.inr ⟨by rfl,rfl⟩) ?_ ?_;rotate_left
      ·
       simp only [Act.put,sqa,sqb,sqc,i64_w,i32_w];rfl
      refine pure_ (i:=18) (N:=some 26) (v:=undef) (a':=?_) (lb 34 524287) rfl rfl (any_of HT_.out (by kernel_rfl)) (fun _ _ _ h=>h) (Or.inr ⟨by rfl,rfl⟩) ?_ ?_;rotate_left
      ·
       simp only [Act.put,sqa,sqb,sqc,i64_w,i32_w];rfl
      refine pure_ (i:=19) (N:=some 27) (v:=undef) (a':=?_) (lb 34 1048575) rfl rfl (any_of HT_.out (by kernel_rfl)) (fun _ _ _ h=>h) (Or.inr ⟨by rfl,rfl⟩) ?_ ?_;rotate_left
      ·
       simp only [Act.put,sqa,sqb,sqc,i64_w,i32_w];rfl
      refine pure_ (i:=20) (N:=some 28) (v:=undef) (a':=?_) (lb 34 2097151) rfl rfl (any_of HT_.out (by kernel_rfl)) (fun _ _ _ h=>h) (Or.inr ⟨by rfl,rfl⟩) ?_ ?_;rotate_left
      ·
       simp only [Act.put,sqa,sqb,sqc,i64_w,i32_w];rfl
      refine pure_ (i:=21) (N:=some 29) (v:=undef) (a':=?_) (lb 34 4194303) rfl rfl (any_of HT_.out (by kernel_rfl)) (fun _ _ _ h=>h) (Or.inr ⟨by rfl,rfl⟩) ?_ ?_;rotate_left
      ·
       simp only [Act.put,sqa,sqb,sqc,i64_w,i32_w];rfl
      refine pure_ (i:=22) (N:=some 30) (v:=undef) (a':=?_) (lb 34 8388607) rfl rfl (any_of HT_.out (by kernel_rfl)) (fun _ _ _ h=>h) (Or.inr ⟨by rfl,rfl⟩) ?_ ?_;rotate_left
      ·
       simp only [Act.put,sqa,sqb,sqc,i64_w,i32_w];rfl
      refine pure_ (i:=23) (N:=some 31) (v:=undef) (a':=?_) (lb 34 16777215) rfl rfl (any_of HT_.out (by kernel_rfl)) (fun _ _ _ h=>h) (Or.inr ⟨by rfl,rfl⟩) ?_ ?_;rotate_left
      ·
       simp only [Act.put,sqa,sqb,sqc,i64_w,i32_w];rfl
      refine pure_ (i:=24) (N:=some 32) (v:=undef) (a':=?_) (lb 34 33554431) rfl rfl (any_of HT_.out (by kernel_rfl)) (fun _ _ _ h=>h) (Or.inr ⟨by rfl,rfl⟩) ?_ ?_;rotate_left
      ·
       simp only [Act.put,sqa,sqb,sqc,i64_w,i32_w];rfl
      refine pure_ (i:=25) (N:=some 33) (v:=undef) (a':=?_) (lb 34 67108863) rfl rfl (any_of HT_.out (by kernel_rfl)) (fun _ _ _ h=>h) (Or.inr ⟨by rfl,rfl⟩) ?_ ?_;rotate_left
      ·
       simp only [Act.put,sqa,sqb,sqc,i64_w,i32_w];rfl
      refine pure_ (i:=26) (N:=some 34) (v:=undef) (a':=?_) (lb 34 134217727) rfl rfl (any_of HT_.out (by kernel_rfl)) (fun _ _ _ h=>h) (Or.inr ⟨by rfl,rfl⟩) ?_ ?_;rotate_left
      ·
       simp only [Act.put,sqa,sqb,sqc,i64_w,i32_w];rfl
      refine pure_ (i:=27) (N:=some 35) (v:=undef) (a':=?_) (lb 34 268435455) rfl rfl (any_of HT_.out (by kernel_rfl)) (fun _ _ _ h=>h) (Or.inr ⟨by rfl,rfl⟩) ?_ ?_;rotate_left
      ·
       simp only [Act.put,sqa,sqb,sqc,i64_w,i32_w];rfl
      refine pure_ (i:=28) (N:=some 36) (v:=undef) (a':=?_) (lb 34 536870911) rfl rfl (any_of HT_.out (by kernel_rfl)) (fun _ _ _ h=>h) (Or.inr ⟨by rfl,rfl⟩) ?_ ?_;rotate_left
      ·
       simp only [Act.put,sqa,sqb,sqc,i64_w,i32_w];rfl
      refine pure_ (i:=29) (N:=some 37) (v:=undef) (a':=?_) (lb 34 1073741823) rfl rfl (any_of HT_.out (by kernel_rfl)) (fun _ _ _ h=>h) (Or.inr ⟨by rfl,rfl⟩) ?_ ?_;rotate_left
      ·
       simp only [Act.put,sqa,sqb,sqc,i64_w,i32_w];rfl
      refine pure_ (i:=30) (N:=some 38) (v:=undef) (a':=?_) (lb 34 2147483647) rfl rfl (any_of HT_.out (by kernel_rfl)) (fun _ _ _ h=>h) (Or.inr ⟨by rfl,rfl⟩) ?_ ?_;rotate_left
      ·
       simp only [Act.put,sqa,sqb,sqc,i64_w,i32_w];rfl
      refine pure_ (i:=31) (N:=some 39) (v:=undef) (a':=?_) (lb 34 4294967295) rfl rfl (any_of HT_.out (by kernel_rfl)) (fun _ _ _ h=>h) (Or.inr ⟨by rfl,rfl⟩) ?_ ?_;rotate_left
      ·
       simp only [Act.put,sqa,sqb,sqc,i64_w,i32_w];rfl
      refine pure_ (i:=32) (N:=some 40) (v:=undef) (a':=?_) (lb 34 8589934591) rfl rfl (any_of HT_.out (by kernel_rfl)) (fun _ _ _ h=>h) (Or.inr ⟨by rfl,rfl⟩) ?_ ?_;rotate_left
      ·
       simp only [Act.put,sqa,sqb,sqc,i64_w,i32_w];rfl
      refine pure_ (i:=33) (N:=some 41) (v:=?_) (a':=?_) (lb 34 17179869183) rfl rfl (any_of HT_.out (by kernel_rfl)) (fun _ _ _ h=>h) (Or.inl ⟨by rfl,?_⟩) ?_ ?_;rotate_left
      ·
       intro w';go_simp;with_reducible rfl
      rotate_left
      ·
       simp only [Act.put,sqa,sqb,sqc,i64_w,i32_w];rfl
      refine done_ (done_of HT_.out (by kernel_rfl)) ?_;have hcz36_0 : w35.cell? ⟨gb106,0,none⟩ = some (.int .i64 a1_0):=(blk_cell BK106.out 0).trans rfl;have hcz36_1 : w35.cell? ⟨gb106,1,none⟩ = some (.string a1_1):=(blk_cell BK106.out 1).trans rfl;have hcz36_2 : w35.cell? ⟨gb106,2,none⟩ = some (.int .i64 a1_2):=(blk_cell BK106.out 2).trans rfl;have hcz36_3 : w35.cell? ⟨gb106,3,none⟩ = some (.int .i64 a1_3):=(blk_cell BK106.out 3).trans rfl;have hfz36_0:=blk_frozen BK106.out 0;have hfz36_1:=blk_frozen BK106.out 1;have hfz36_2:=blk_frozen BK106.out 2;have hfz36_3:=blk_frozen BK106.out 3;try go_wp2_with (first|((with_reducible refine gate_builtin (b:=.append) (xs:=#[.tmp 63,.tmp 65]) rfl ?_);at_builtin;refine Kd.R_append k23 (w0:=w0) w0.heap.size rfl (.tmp 63) (.tmp 65) 26 23 (.agg #[(.int .i64 0),(.string ⟨#[]⟩),(.int .i64 0),(.int .i64 0)]) 40 rfl Try.underlying26 info23 rfl (by decide) (by omega) (.slice (some ad107) l0.length co33) l0 (⟨a1_0,a1_1,a1_2,a1_3⟩ : S23) [.int .i64 a1_0,.string a1_1,.int .i64 a1_2,.int .i64 a1_3] (fun k_=>(P0_ k_∨w.heap.size≤k_)∧k_≠gb106) (fun _=>False) rfl rfl ?aP (fun _ hk=>hk.elim) ?aF ?aO ?aB ?aS ?aL ?_;(case aP=>exact k23_mkM _ _ _ (⟨a1_0,a1_1,a1_2,a1_3⟩ : S23));(case aB=>exact (by repeat (first|(with_reducible first|exact HB.out|apply below_alloc|apply pw_below_drewN|apply below_drew1|refine below_set ?_ GE106.out)|exact HB.out)));(case aF=>exact (fun k_ hk=>⟨(.inr (Nat.le_trans (by first|exact HK.out.1|exact (show Kept w _ (fun k_=>P0_ k_) from by repeat (first|(with_reducible first|exact HK.out|apply Kept.alloc|apply Kept.drewN|apply Kept.drew|refine Kept.setCell ?_ (.inr GW106.out) _)|exact HK.out)).1) hk)),Kd.freshB (g:=gb106) (o:=.cells #[.int .i64 a1_0,.string a1_1,.int .i64 a1_2,.int .i64 a1_3] 23 (0,0)) (by (with_reducible repeat (first|refine blk_drewN ?_ _|refine blk_drew ?_|refine blk_alloc ?_ _));exact BK106.out) k_ hk⟩));(case aO=>exact (by (with_reducible repeat (first|apply Kd.R_alloc|apply Kd.R_drewN|apply Kd.R_drew));exact HO0.out));(case aS=>exact (below_size (by repeat (first|(with_reducible first|exact HB.out|apply below_alloc|apply pw_below_drewN|apply below_drew1|refine below_set ?_ GE106.out)|exact HB.out))));(case aL=>have:=LMc31.out;omega);intro v123 w37 ho hb hg hat;rw [← Ny122.out] at ho;have n0_:=Aside0.mk (blk_grown (g:=gb106) (o:=.cells #[.int .i64 a1_0,.string a1_1,.int .i64 a1_2,.int .i64 a1_3] 23 (0,0)) (by (with_reducible repeat (first|refine blk_drewN ?_ _|refine blk_drew ?_|refine blk_alloc ?_ _));exact BK106.out) hg (Kd.R_away HO0.out (fun _ hk=>hk.2)));have n1_:=Aside0.mk (hb);have n2_:=Aside0.mk (Kept.of_grown (S:=(fun k_=>P0_ k_)) hg (by repeat (first|(with_reducible first|exact HK.out|apply Kept.alloc|apply Kept.drewN|apply Kept.drew|refine Kept.setCell ?_ (.inr GW106.out) _)|exact HK.out)) (fun k_ e_=>(HO0.out.1 k_ e_).1));have n3_:=Aside0.mk (ho);clear BK106;clear HB;clear HK;clear HO0;have BK106:=n0_;have HB:=n1_;have HK:=n2_;have HO124:=n3_;clear n0_ n1_ n2_ n3_;clear ho hb hg hat))
      go_ret;exact ⟨_,by first|rfl|(simp [errW_none,errW_some] <;> rfl)|(simp only [← hji4];first|rfl|(simp [errW_none,errW_some] <;> rfl))|(simp [*,errW_none,errW_some] <;> rfl),by (with_reducible repeat (first|apply Kd.R_alloc|apply Kd.R_drewN|apply Kd.R_drew));exact Kd.R_mono HO124.out (fun _ hk=>hk.1),by repeat (first|(with_reducible first|exact HB.out|apply below_alloc|apply pw_below_drewN|apply below_drew1|refine below_set ?_ GE106.out)|exact HB.out),by repeat (first|(with_reducible first|exact HK.out|apply Kept.alloc|apply Kept.drewN|apply Kept.drew|refine Kept.setCell ?_ (.inr GW106.out) _)|exact HK.out)⟩
     ·
      rw [if_neg c31] at H;exact absurd H (by simp)
   ·
    rw [if_neg c6] at H;exact absurd H (by simp)
  ·
   rw [if_neg c5] at H;exact absurd H (by simp)
 ·
  rw [if_neg c3] at H;have c3b0 : decide (0 < (l0.length : Int)) = false:=decide_eq_false c3;have c3b1 : decide (0 < l0.length) = false:=decide_eq_false (by omega);clear c3;by_cases c38 : l0.length < 3518437208883
  ·
   rw [if_pos c38] at H;have LMc38:=Aside0.mk c38;clear c38;obtain ⟨y125,hy125⟩ : ∃ y_ : List (S23),y_ = (l0 ++ [(⟨a1_0,a1_1,a1_2,a1_3⟩ : S23)]):=⟨_,rfl⟩;replace H : (some y125) = some r:=by first|(rw [hy125];with_reducible exact H)|(have H2_:=(Option.bind_some _ _).symm.trans H;rw [hy125];with_reducible exact H2_)|(have H2_:=(Option.bind_some _ _).symm.trans H;with_reducible exact H2_)|with_reducible exact H|(rw [hy125];exact H)|exact H
   have Ny125:=Aside0.mk hy125;clear hy125;obtain rfl:=Option.some.inj H;go_enter Try.func29,Try.ntmps29
   try go_wp2_with (first|((with_reducible refine gate_dst (N:=3) rfl ?_);refine box_event ?hg (N:=3) ?hd (cs:=#[.int .i64 a1_0,.string a1_1,.int .i64 a1_2,.int .i64 a1_3]) (t:=23) ?hr ?_;(case hd=>rfl);(case hg=>rfl);(case hr=>first|(go_simp;done)|(go_simp;rfl));intro gb106 hg w39 hbox hb;have n0_:=Aside0.mk (Kd.R_below (Kd.R_elderB (by (with_reducible repeat (first|apply Kd.R_alloc|apply Kd.R_drewN|apply Kd.R_drew));exact HO0.out) gb106 (Nat.le_of_eq hg.symm)) hb);have n1_:=Aside0.mk (Kept.below (S:=(fun k_=>P0_ k_)) (by repeat (first|(with_reducible first|exact HK.out|apply Kept.alloc|apply Kept.drewN|apply Kept.drew)|exact HK.out)) hb);have n2_:=Aside0.mk (below_step (by repeat (first|(with_reducible first|exact HB.out|apply below_alloc|apply pw_below_drewN|apply below_drew1)|exact HB.out)) hb);have n3_:=Aside0.mk (hbox);have n4_:=Aside0.mk ((by rw [hg];exact (by first|exact HK.out.1|exact (show Kept w _ (fun k_=>P0_ k_) from by repeat (first|(with_reducible first|exact HK.out|apply Kept.alloc|apply Kept.drewN|apply Kept.drew)|exact HK.out)).1) : w.heap.size≤gb106));have n5_:=Aside0.mk ((by rw [hg];exact (below_size (by repeat (first|(with_reducible first|exact HB.out|apply below_alloc|apply pw_below_drewN|apply below_drew1)|exact HB.out))) : w0.heap.size≤gb106));clear HO0;clear HK;clear HB;have HO0:=n0_;have HK:=n1_;have HB:=n2_;have BK106:=n3_;have GW106:=n4_;have GE106:=n5_;clear n0_ n1_ n2_ n3_ n4_ n5_;clear hb hbox hg;obtain ⟨Ao40,co40,eo40⟩:=Kd.R_slice HO0.out;subst eo40))
   have n0_:=Aside0.mk (Kd.R_drew HO0.out);have n1_:=Aside0.mk (blk_drew BK106.out);have n2_:=Aside0.mk (Kept.drew HK.out);have n3_:=Aside0.mk (below_drew1 HB.out);clear HO0;clear BK106;clear HK;clear HB;have HO0:=n0_;have BK106:=n1_;have HK:=n2_;have HB:=n3_;clear n0_ n1_ n2_ n3_;refine start_ (n:=34) (S:=fun w'=>True) (ds:=[]) (lb 34 0) (by kernel_rfl) rfl (by kernel_rfl) trivial (fun hHeld=>?_);refine with_tabW overlap_join.tab2 overlap_join.bits2 (fun HT_ HW_=>?_)
   generalize w39.drew = w41 at HO0 BK106 HK HB hHeld ⊢;refine pure_ (i:=0) (N:=some 8) (v:=?_) (a':=?_) (lb 34 1) rfl rfl (any_of HT_.out (by kernel_rfl)) (fun _ _ _ h=>h) (Or.inl ⟨by rfl,?_⟩) ?_ ?_;rotate_left
   ·
    intro w';go_simp;with_reducible rfl
   rotate_left
   ·
    simp only [Act.put,sqa,sqb,sqc,i64_w,i32_w];rfl
   refine pure_ (i:=1) (N:=some 9) (v:=?_) (a':=?_) (lb 34 3) rfl rfl (any_of HT_.out (by kernel_rfl)) (fun _ _ _ h=>h) (Or.inl ⟨by rfl,?_⟩) ?_ ?_;rotate_left
   ·
    intro w';go_simp;with_reducible rfl
   rotate_left
   ·
    simp only [Act.put,sqa,sqb,sqc,i64_w,i32_w];rfl
   refine pure_ (i:=2) (N:=some 10) (v:=?_) (a':=?_) (lb 34 7) rfl rfl (any_of HT_.out (by kernel_rfl)) (fun _ _ _ h=>h) (Or.inl ⟨by rfl,?_⟩) ?_ ?_;rotate_left
   ·
    intro w';go_simp;with_reducible rfl
   rotate_left
   ·
    simp only [Act.put,sqa,sqb,sqc,i64_w,i32_w];rfl
   refine pure_ (i:=3) (N:=some 11) (v:=undef) (a':=?_) (lb 34 15) rfl rfl (any_of HT_.out (by kernel_rfl)) (fun _ _ _ h=>h) (Or.inr ⟨by rfl,rfl⟩) ?_ ?_;rotate_left
   ·
    simp only [Act.put,sqa,sqb,sqc,i64_w,i32_w];rfl
   refine pure_ (i:=4) (N:=some 12) (v:=undef) (a':=?_) (lb 34 31) rfl rfl (any_of HT_.out (by kernel_rfl)) (fun _ _ _ h=>h) (Or.inr ⟨by rfl,rfl⟩) ?_ ?_;rotate_left
   ·
    simp only [Act.put,sqa,sqb,sqc,i64_w,i32_w];rfl
   refine pure_ (i:=5) (N:=some 13) (v:=undef) (a':=?_) (lb 34 63) rfl rfl (any_of HT_.out (by kernel_rfl)) (fun _ _ _ h=>h) (Or.inr ⟨by rfl,rfl⟩) ?_ ?_;rotate_left
   ·
    simp only [Act.put,sqa,sqb,sqc,i64_w,i32_w];rfl
   refine pure_ (i:=6) (N:=some 14) (v:=undef) (a':=?_) (lb 34 127) rfl rfl (any_of HT_.out (by kernel_rfl)) (fun _ _ _ h=>h) (Or.inr ⟨by rfl,rfl⟩) ?_ ?_;rotate_left
   ·
    simp only [Act.put,sqa,sqb,sqc,i64_w,i32_w];rfl
   refine pure_ (i:=7) (N:=some 15) (v:=undef) (a':=?_) (lb 34 255) rfl rfl (any_of HT_.out (by kernel_rfl)) (fun _ _ _ h=>h) (Or.inr ⟨by rfl,rfl⟩) ?_ ?_;rotate_left
   ·
    simp only [Act.put,sqa,sqb,sqc,i64_w,i32_w];rfl
   refine pure_ (i:=8) (N:=some 16) (v:=undef) (a':=?_) (lb 34 511) rfl rfl (any_of HT_.out (by kernel_rfl)) (fun _ _ _ h=>h) (Or.inr ⟨by rfl,rfl⟩) ?_ ?_;rotate_left
   ·
    simp only [Act.put,sqa,sqb,sqc,i64_w,i32_w];rfl
   refine pure_ (i:=9) (N:=some 17) (v:=undef) (a':=?_) (lb 34 1023) rfl rfl (any_of HT_.out (by kernel_rfl)) (fun _ _ _ h=>h) (Or.inr ⟨by rfl,rfl⟩) ?_ ?_;rotate_left
   ·
    simp only [Act.put,sqa,sqb,sqc,i64_w,i32_w];rfl
   refine pure_ (i:=10) (N:=some 18) (v:=undef) (a':=?_) (lb 34 2047) rfl rfl (any_of HT_.out (by kernel_rfl)) (fun _ _ _ h=>h) (Or.inr ⟨by rfl,rfl⟩) ?_ ?_;rotate_left
   ·
    simp only [Act.put,sqa,sqb,sqc,i64_w,i32_w];rfl
   refine pure_ (i:=11) (N:=some 19) (v:=undef) (a':=?_) (lb 34 4095) rfl rfl (any_of HT_.out (by kernel_rfl)) (fun _ _ _ h=>h) (Or.inr ⟨by rfl,rfl⟩) ?_ ?_;rotate_left
   ·
    simp only [Act.put,sqa,sqb,sqc,i64_w,i32_w];rfl
   refine pure_ (i:=12) (N:=some 20) (v:=?_) (a':=?_) (lb 34 8191) rfl rfl (any_of HT_.out (by kernel_rfl)) (fun _ _ _ h=>h) (Or.inl ⟨by rfl,?_⟩) ?_ ?_;rotate_left
   ·
    intro w';go_simp;with_reducible rfl
   rotate_left
   ·
    simp only [Act.put,sqa,sqb,sqc,i64_w,i32_w];rfl
   refine pure_ (i:=13) (N:=some 21) (v:=?_) (a':=?_) (lb 34 16383) rfl rfl (any_of HT_.out (by kernel_rfl)) (fun _ _ _ h=>h) (Or.inl ⟨by rfl,?_⟩) ?_ ?_;rotate_left
   ·
    intro w';go_simp;with_reducible rfl
   rotate_left
   ·
    simp only [Act.put,sqa,sqb,sqc,i64_w,i32_w];rfl
   refine pure_ (i:=14) (N:=some 22) (v:=undef) (a':=?_) (lb 34 32767) rfl rfl (any_of HT_.out (by kernel_rfl)) (fun _ _ _ h=>h) (Or.inr ⟨by rfl,rfl⟩) ?_ ?_;rotate_left
   ·
    simp only [Act.put,sqa,sqb,sqc,i64_w,i32_w];rfl
   refine pure_ (i:=15) (N:=some 23) (v:=undef) (a':=?_) (lb 34 65535) rfl rfl (any_of HT_.out (by kernel_rfl)) (fun _ _ _ h=>h) (Or.inr ⟨by rfl,rfl⟩) ?_ ?_;rotate_left
   ·
    simp only [Act.put,sqa,sqb,sqc,i64_w,i32_w];rfl
   refine pure_ (i:=16) (N:=some 24) (v:=undef) (a':=?_) (lb 34 131071) rfl rfl (any_of HT_.out (by kernel_rfl)) (fun _ _ _ h=>h) (Or.inr ⟨by rfl,rfl⟩) ?_ ?_;rotate_left
   ·
    simp only [Act.put,sqa,sqb,sqc,i64_w,i32_w];rfl
   refine pure_ (i:=17) (N:=some 25) (v:=undef) (a':=?_) (lb 34 262143) rfl rfl (any_of HT_.out (by kernel_rfl)) (fun _ _ _ h=>h) (Or.inr ⟨by rfl,rfl⟩) ?_ ?_;rotate_left
   ·
    simp only [Act.put,sqa,sqb,sqc,i64_w,i32_w];rfl
   refine pure_ (i:=18) (N:=some 26) (v:=undef) (a':=?_) (lb 34 524287) rfl rfl (any_of HT_.out (by kernel_rfl)) (fun _ _ _ h=>h) (Or.inr ⟨by rfl,rfl⟩) ?_ ?_;rotate_left
   ·
    simp only [Act.put,sqa,sqb,sqc,i64_w,i32_w];rfl
   refine pure_ (i:=19) (N:=some 27) (v:=undef) (a':=?_) (lb 34 1048575) rfl rfl (any_of HT_.out (by kernel_rfl)) (fun _ _ _ h=>h) (Or.inr ⟨by rfl,rfl⟩) ?_ ?_;rotate_left
   ·
    simp only [Act.put,sqa,sqb,sqc,i64_w,i32_w];rfl
   refine pure_ (i:=20) (N:=some 28) (v:=undef) (a':=?_) (lb 34 2097151) rfl rfl (any_of HT_.out (by kernel_rfl)) (fun _ _ _ h=>h) (Or.inr ⟨by rfl,rfl⟩) ?_ ?_;rotate_left
   ·
    simp only [Act.put,sqa,sqb,sqc,i64_w,i32_w];rfl
   refine pure_ (i:=21) (N:=some 29) (v:=undef) (a':=?_) (lb 34 4194303) rfl rfl (any_of HT_.out (by kernel_rfl)) (fun _ _ _ h=>h) (Or.inr ⟨by rfl,rfl⟩) ?_ ?_;rotate_left
   ·
    simp only [Act.put,sqa,sqb,sqc,i64_w,i32_w];rfl
   refine pure_ (i:=22) (N:=some 30) (v:=undef) (a':=?_) (lb 34 8388607) rfl rfl (any_of HT_.out (by kernel_rfl)) (fun _ _ _ h=>h) (Or.inr ⟨by rfl,rfl⟩) ?_ ?_;rotate_left
   ·
    simp only [Act.put,sqa,sqb,sqc,i64_w,i32_w];rfl
   refine pure_ (i:=23) (N:=some 31) (v:=undef) (a':=?_) (lb 34 16777215) rfl rfl (any_of HT_.out (by kernel_rfl)) (fun _ _ _ h=>h) (Or.inr ⟨by rfl,rfl⟩) ?_ ?_;rotate_left
   ·
    simp only [Act.put,sqa,sqb,sqc,i64_w,i32_w];rfl
   refine pure_ (i:=24) (N:=some 32) (v:=undef) (a':=?_) (lb 34 33554431) rfl rfl (any_of HT_.out (by kernel_rfl)) (fun _ _ _ h=>h) (Or.inr ⟨by rfl,rfl⟩) ?_ ?_;rotate_left
   ·
    simp only [Act.put,sqa,sqb,sqc,i64_w,i32_w];rfl
   refine pure_ (i:=25) (N:=some 33) (v:=undef) (a':=?_) (lb 34 67108863) rfl rfl (any_of HT_.out (by kernel_rfl)) (fun _ _ _ h=>h) (Or.inr ⟨by rfl,rfl⟩) ?_ ?_;rotate_left
   ·
    simp only [Act.put,sqa,sqb,sqc,i64_w,i32_w];rfl
   refine pure_ (i:=26) (N:=some 34) (v:=undef) (a':=?_) (lb 34 134217727) rfl rfl (any_of HT_.out (by kernel_rfl)) (fun _ _ _ h=>h) (Or.inr ⟨by rfl,rfl⟩) ?_ ?_;rotate_left
   ·
    simp only [Act.put,sqa,sqb,sqc,i64_w,i32_w];rfl
   refine pure_ (i:=27) (N:=some 35) (v:=undef) (a':=?_) (lb 34 268435455) rfl rfl (any_of HT_.out (by kernel_rfl)) (fun _ _ _ h=>h) (Or.inr ⟨by rfl,rfl⟩) ?_ ?_;rotate_left
   ·
    simp only [Act.put,sqa,sqb,sqc,i64_w,i32_w];rfl
   refine pure_ (i:=28) (N:=some 36) (v:=undef) (a':=?_) (lb 34 536870911) rfl rfl (any_of HT_.out (by kernel_rfl)) (fun _ _ _ h=>h) (Or.inr ⟨by rfl,rfl⟩) ?_ ?_;rotate_left
   ·
    simp only [Act.put,sqa,sqb,sqc,i64_w,i32_w];rfl
   refine pure_ (i:=29) (N:=some 37) (v:=undef) (a':=?_) (lb 34 1073741823) rfl rfl (any_of HT_.out (by kernel_rfl)) (fun _ _ _ h=>h) (Or.inr ⟨by rfl,rfl⟩) ?_ ?_;rotate_left
   ·
    simp only [Act.put,sqa,sqb,sqc,i64_w,i32_w];rfl
   refine pure_ (i:=30) (N:=some 38) (v:=undef) (a':=?_) (lb 34 2147483647) rfl rfl (any_of HT_.out (by kernel_rfl)) (fun _ _ _ h=>h) (Or.inr ⟨by rfl,rfl⟩) ?_ ?_;rotate_left
   ·
    simp only [Act.put,sqa,sqb,sqc,i64_w,i32_w];rfl
   refine pure_ (i:=31) (N:=some 39) (v:=undef) (a':=?_) (lb 34 4294967295) rfl rfl (any_of HT_.out (by kernel_rfl)) (fun _ _ _ h=>h) (Or.inr ⟨by rfl,rfl⟩) ?_ ?_;rotate_left
   ·
    simp only [Act.put,sqa,sqb,sqc,i64_w,i32_w];rfl
   refine pure_ (i:=32) (N:=some 40) (v:=undef) (a':=?_) (lb 34 8589934591) rfl rfl (any_of HT_.out (by kernel_rfl)) (fun _ _ _ h=>h) (Or.inr ⟨by rfl,rfl⟩) ?_ ?_;rotate_left
   ·
    simp only [Act.put,sqa,sqb,sqc,i64_w,i32_w];rfl
   refine pure_ (i:=33) (N:=some 41) (v:=?_) (a':=?_) (lb 34 17179869183) rfl rfl (any_of HT_.out (by kernel_rfl)) (fun _ _ _ h=>h) (Or.inl ⟨by rfl,?_⟩) ?_ ?_;rotate_left
   ·
    intro w';go_simp;with_reducible rfl
   rotate_left
   ·
    simp only [Act.put,sqa,sqb,sqc,i64_w,i32_w];rfl
   refine done_ (done_of HT_.out (by kernel_rfl)) ?_;have hcz42_0 : w41.cell? ⟨gb106,0,none⟩ = some (.int .i64 a1_0):=(blk_cell BK106.out 0).trans rfl;have hcz42_1 : w41.cell? ⟨gb106,1,none⟩ = some (.string a1_1):=(blk_cell BK106.out 1).trans rfl;have hcz42_2 : w41.cell? ⟨gb106,2,none⟩ = some (.int .i64 a1_2):=(blk_cell BK106.out 2).trans rfl;have hcz42_3 : w41.cell? ⟨gb106,3,none⟩ = some (.int .i64 a1_3):=(blk_cell BK106.out 3).trans rfl;have hfz42_0:=blk_frozen BK106.out 0;have hfz42_1:=blk_frozen BK106.out 1;have hfz42_2:=blk_frozen BK106.out 2;have hfz42_3:=blk_frozen BK106.out 3;try go_wp2_with (first|((with_reducible refine gate_builtin (b:=.append) (xs:=#[.tmp 63,.tmp 65]) rfl ?_);at_builtin;refine Kd.R_append k23 (w0:=w0) w0.heap.size rfl (.tmp 63) (.tmp 65) 26 23 (.agg #[(.int .i64 0),(.string ⟨#[]⟩),(.int .i64 0),(.int .i64 0)]) 40 rfl Try.underlying26 info23 rfl (by decide) (by omega) (.slice Ao40 l0.length co40) l0 (⟨a1_0,a1_1,a1_2,a1_3⟩ : S23) [.int .i64 a1_0,.string a1_1,.int .i64 a1_2,.int .i64 a1_3] (fun k_=>(P0_ k_∨w.heap.size≤k_)∧k_≠gb106) (fun _=>False) rfl rfl ?aP (fun _ hk=>hk.elim) ?aF ?aO ?aB ?aS ?aL ?_;(case aP=>exact k23_mkM _ _ _ (⟨a1_0,a1_1,a1_2,a1_3⟩ : S23));(case aB=>exact (by repeat (first|(with_reducible first|exact HB.out|apply below_alloc|apply pw_below_drewN|apply below_drew1|refine below_set ?_ GE106.out)|exact HB.out)));(case aF=>exact (fun k_ hk=>⟨(.inr (Nat.le_trans (by first|exact HK.out.1|exact (show Kept w _ (fun k_=>P0_ k_) from by repeat (first|(with_reducible first|exact HK.out|apply Kept.alloc|apply Kept.drewN|apply Kept.drew|refine Kept.setCell ?_ (.inr GW106.out) _)|exact HK.out)).1) hk)),Kd.freshB (g:=gb106) (o:=.cells #[.int .i64 a1_0,.string a1_1,.int .i64 a1_2,.int .i64 a1_3] 23 (0,0)) (by (with_reducible repeat (first|refine blk_drewN ?_ _|refine blk_drew ?_|refine blk_alloc ?_ _));exact BK106.out) k_ hk⟩));(case aO=>exact (by (with_reducible repeat (first|apply Kd.R_alloc|apply Kd.R_drewN|apply Kd.R_drew));exact HO0.out));(case aS=>exact (below_size (by repeat (first|(with_reducible first|exact HB.out|apply below_alloc|apply pw_below_drewN|apply below_drew1|refine below_set ?_ GE106.out)|exact HB.out))));(case aL=>have:=LMc38.out;omega);intro v126 w43 ho hb hg hat;rw [← Ny125.out] at ho;have n0_:=Aside0.mk (blk_grown (g:=gb106) (o:=.cells #[.int .i64 a1_0,.string a1_1,.int .i64 a1_2,.int .i64 a1_3] 23 (0,0)) (by (with_reducible repeat (first|refine blk_drewN ?_ _|refine blk_drew ?_|refine blk_alloc ?_ _));exact BK106.out) hg (Kd.R_away HO0.out (fun _ hk=>hk.2)));have n1_:=Aside0.mk (hb);have n2_:=Aside0.mk (Kept.of_grown (S:=(fun k_=>P0_ k_)) hg (by repeat (first|(with_reducible first|exact HK.out|apply Kept.alloc|apply Kept.drewN|apply Kept.drew|refine Kept.setCell ?_ (.inr GW106.out) _)|exact HK.out)) (fun k_ e_=>(HO0.out.1 k_ e_).1));have n3_:=Aside0.mk (ho);clear BK106;clear HB;clear HK;clear HO0;have BK106:=n0_;have HB:=n1_;have HK:=n2_;have HO127:=n3_;clear n0_ n1_ n2_ n3_;clear ho hb hg hat))
   go_ret;exact ⟨_,by first|rfl|(simp [errW_none,errW_some] <;> rfl)|(simp [*,errW_none,errW_some] <;> rfl),by (with_reducible repeat (first|apply Kd.R_alloc|apply Kd.R_drewN|apply Kd.R_drew));exact Kd.R_mono HO127.out (fun _ hk=>hk.1),by repeat (first|(with_reducible first|exact HB.out|apply below_alloc|apply pw_below_drewN|apply below_drew1|refine below_set ?_ GE106.out)|exact HB.out),by repeat (first|(with_reducible first|exact HK.out|apply Kept.alloc|apply Kept.drewN|apply Kept.drew|refine Kept.setCell ?_ (.inr GW106.out) _)|exact HK.out)⟩
  ·
   rw [if_neg c38] at H;exact absurd H (by simp)

end Go.Proofs.Ytjdjgabahkcjeaa.P
