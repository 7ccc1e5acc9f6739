import Derived.Test.YtgbmbihajkjbmaaTlB
set_option linter.all false
/- Contracts of chapter 32: extensions, hellos, chains. -/
namespace Go.Proofs.Ytgbmbihajkjbmaa.Fx
open Go Go.Fw Go.Ov Go.Tl
/-- A function value that treats an extension. -/
def Treats (g : FuncId) (F : EF) : Prop := ∀ (k : Nat) (x : Rd) (e : Ev), x.1.length ≤ 1099511627776 → HSpec P [] g [.int .i64 (k : Int), .loc 0 0, .loc 1 0] [(0, .box (rdC x)), (1, .box (evC e))] (.bool (F k x e).1) [(0, .box (rdC (F k x e).2.2)), (1, .box (evC (F k x e).2.1))]
theorem Treats.at2 {g : FuncId} {F : EF} (h : Treats g F) (k : Nat) (x : Rd) (e : Ev) (hx : x.1.length ≤ 1099511627776) (i j : Nat) (hij : i ≠ j) : HSpec P [] g [.int .i64 (k : Int), .loc i 0, .loc j 0] [(i, .box (rdC x)), (j, .box (evC e))] (.bool (F k x e).1) [(i, .box (rdC (F k x e).2.2)), (j, .box (evC (F k x e).2.1))] :=
  HSpec.at2 (h k x e hx) 0 1 i j (by simp only [AV.renL, AV.ren, two_a (show 0 ≠ 1 by decide) hij, two_b (show 0 ≠ 1 by decide) hij]) (by simp only [renH, Chunk.ren, AV.renL, AV.ren, two_a (show 0 ≠ 1 by decide) hij, two_b (show 0 ≠ 1 by decide) hij]) (by simp only [AV.ren])
    (by simp only [renH, Chunk.ren, AV.renL, AV.ren, two_a (show 0 ≠ 1 by decide) hij, two_b (show 0 ≠ 1 by decide) hij])
set_option maxRecDepth 8000 in
theorem ext_at (g : FuncId) (F : EF) (hF : Treats g F) (r : Rd) (e : Ev) (hr : r.1.length ≤ 1099511627776) : HSpec P [] 59 [.loc 0 0, .fn g [.loc 1 0]] [(0, .box (rdC r)), (1, .box (evC e))] (.tup []) [(0, .box (rdC (extM F r e).1)), (1, .box (evC (extM F r e).2))] := by
  have hal := allM_len 2 r
  refine fspec_intro hT [(0, .box (rdC r)), (1, .box (evC e))] [(0, .box (rdC (extM F r e).1)), (1, .box (evC (extM F r e).2))] 2 2 Try.func59 (by decide) rfl rfl (by kernel_rfl) rfl rfl ?_
  refine Tri.seq ?_
  refine Tri.seq (Tri.reg hT ?_)
  refine (Tri.cond ⟨fun h1 => ?_, fun h1 => ?_⟩)
  · refine Tri.ret ?_
    have q := of_decide_eq_true h1; have eM : extM F r e = (r, e) := if_pos q; rw [eM]; exact ⟨rfl, rfl, rfl, trivial⟩
  · refine (Tri.skip ?_)
    have q0 := of_decide_eq_false h1; have eM : extM F r e = (((allM 2 r).2.1, (extE F r e).2.2.2 || (extE F r e).1.2), (extE F r e).2.2.1) := if_neg q0; rw [eM]
    refine Tri.seq (Tri.regM hT [1] ?_)
    refine ⟨_, Le.refl _, .inl (.inr (OpTri.hcall 10 rfl rfl rfl (f64_spec r 2 hr (by decide) 0 9 (by decide)) trivial ⟨rfl, trivial⟩ rfl ?_))⟩
    refine Tri.seq (Tri.regM hT [0] ?_)
    refine ⟨_, Le.refl _, .inl (.inr (OpTri.makeS rfl rfl ?_))⟩
    refine Tri.seq (Tri.block ?_)
    refine (Tri.loop (ι := XSt) (fun s => ⟨74, 2, 60, [(0, .loc 0 0), (1, .fn g [.loc 1 0]), (4, .loc 9 0), (5, .ex (mapV 19))], [(0, .box [.str (allM 2 r).2.1, .bool s.2.2.2]), (1, .box (evC s.2.2.1)), (9, .box (rdC s.1)), (19, .ext (setX s.2.1))], []⟩) (fun s => s.1.1.length ≤ 1099511627776 ∧ extI F s = extE F r e) (fun s => s.1.1.length) (((allM 2 r).1, [], e, (allM 2 r).2.2)) ?_ ?_ ?_)
    · exact ⟨Nat.le_trans hal.1 hr, rfl⟩
    · exact Le.weak rfl rfl rfl rfl ⟨(by first | rfl | exact iv1 (by (try simp only [decide_eq_true_eq, decide_eq_false_iff_not, toNat_cast] at *); omega)), (by first | rfl | exact iv1 (by (try simp only [decide_eq_true_eq, decide_eq_false_iff_not, toNat_cast] at *); omega)), (by first | rfl | exact iv1 (by (try simp only [decide_eq_true_eq, decide_eq_false_iff_not, toNat_cast] at *); omega)), (by first | rfl | exact iv1 (by (try simp only [decide_eq_true_eq, decide_eq_false_iff_not, toNat_cast] at *); omega)), trivial⟩ ⟨rfl, rfl, rfl, rfl, trivial⟩
    · intro ⟨l, met, e1, rb⟩ hi; obtain ⟨hl, hi2⟩ := hi; change l.1.length ≤ _ at hl; have h1l := numM_len 2 l; have h2l := listM_len 2 (numM 2 l).2
      refine Tri.seq ?_
      refine Tri.seq (Tri.reg hT ?_)
      refine ⟨_, [], trivial, rfl, rfl, fun h => ⟨rfl, rfl, rfl⟩, ?_⟩
      refine ⟨_, [], trivial, rfl, rfl, fun h => ⟨h, rfl, rfl, rfl⟩, ?_⟩
      refine ⟨_, [], trivial, rfl, rfl, fun h => ⟨h, rfl, rfl, rfl⟩, ?_⟩
      refine ⟨_, [], trivial, rfl, rfl, fun h => ⟨h, rfl, rfl, rfl⟩, ?_⟩
      refine ⟨_, [], trivial, rfl, rfl, fun h => ⟨h, rfl, rfl, rfl⟩, ?_⟩
      refine ⟨⟨fun hc => hc, fun _ => trivial⟩, ?_⟩
      refine (Tri.cond ⟨fun h2 => ?_, fun h2 => ?_⟩)
      · refine (Tri.skip ?_)
        refine (Tri.block ?_)
        have hm : more l = true := (more_if l).symm.trans h2; have hgo := ext_go (F := F) (s := (l, met, e1, rb)) hm; have hdec := ext_dec F (l, met, e1, rb) hm
        refine Tri.le (⟨74, 2, 80, [(0, .loc 0 0), (1, .fn g [.loc 1 0]), (4, .loc 9 0), (5, .ex (mapV 19))], [(0, .box [.str (allM 2 r).2.1, .bool rb]), (1, .box (evC e1)), (9, .box (rdC l)), (19, .ext (setX met))], []⟩) (Le.weak rfl rfl rfl rfl ⟨(by first | rfl | exact iv1 (by (try simp only [decide_eq_true_eq, decide_eq_false_iff_not, toNat_cast] at *); omega)), (by first | rfl | exact iv1 (by (try simp only [decide_eq_true_eq, decide_eq_false_iff_not, toNat_cast] at *); omega)), (by first | rfl | exact iv1 (by (try simp only [decide_eq_true_eq, decide_eq_false_iff_not, toNat_cast] at *); omega)), (by first | rfl | exact iv1 (by (try simp only [decide_eq_true_eq, decide_eq_false_iff_not, toNat_cast] at *); omega)), trivial⟩ ⟨rfl, rfl, rfl, rfl, trivial⟩) ?_
        refine Tri.seq (Tri.reg hT ?_)
        refine .inl (.inr (.inl ⟨_, _, (by exact ⟨rfl, trivial⟩), f56_spec l 2 hl (by decide) _, (by rfl), ?_⟩))
        refine Tri.seq (Tri.reg hT ?_)
        refine .inl (.inr (.inl ⟨_, _, (by exact ⟨rfl, trivial⟩), f58_spec (numM 2 l).2 2 (by omega) (by decide) _, (by rfl), ?_⟩))
        refine Tri.seq (Tri.regM hT [8] ?_)
        refine ⟨_, [], trivial, rfl, rfl, fun h => ⟨rfl, rfl, rfl⟩, ?_⟩
        refine ⟨_, [], trivial, rfl, rfl, fun h => ⟨rfl, rfl, rfl⟩, ?_⟩
        refine ⟨_, Le.refl _, .inl (.inr (OpTri.lookS Try.underlying102 Try.underlying3 Try.zeroValue4 rfl rfl rfl (fun h => ⟨h, rfl⟩) (fun h => ⟨h, rfl⟩) rfl ?_))⟩
        refine ⟨_, [], trivial, rfl, rfl, fun h => ⟨h, rfl, rfl, rfl⟩, ?_⟩
        refine ⟨⟨fun hc => hc, fun _ => trivial⟩, ?_⟩
        refine (Tri.cond ⟨fun h3 => ?_, fun h3 => ?_⟩)
        · have hc : (!(extD l).2.2 && !(met.contains ((numM 2 l).1 : Int))) = true := (by rw [← ifb]; exact h3); have hnew : met.contains ((numM 2 l).1 : Int) = false := (by have := (Bool.and_eq_true_iff.1 hc).2; simpa using this); have hst : extStep F (l, met, e1, rb) = ((extD l).2, met ++ [((numM 2 l).1 : Int)], (F (numM 2 l).1 ((extD l).1, false) e1).2.1, or (!(F (numM 2 l).1 ((extD l).1, false) e1).1) rb) := if_pos hc; rw [hst] at hgo hdec
          refine Tri.seq (Tri.regM hT [2] ?_)
          refine ⟨_, Le.refl _, .inl (.inr (OpTri.updS Try.underlying102 Try.underlying3 rfl rfl rfl ⟨trivial, rfl⟩ ⟨trivial, rfl⟩ rfl hnew ?_))⟩
          refine (Tri.regM hT [4] ?_)
          refine ⟨_, Le.refl _, .inl (.inr (OpTri.hcall 1 rfl rfl rfl (hF.at2 (numM 2 l).1 ((extD l).1, false) e1 (Nat.le_trans h2l.1 (Nat.le_trans h1l hl)) 86 1 (by decide)) trivial ⟨rfl, rfl, trivial⟩ rfl ?_))⟩
          refine ⟨_, [], trivial, rfl, rfl, fun h => ⟨rfl, rfl, rfl⟩, ?_⟩
          refine ⟨_, [], trivial, rfl, rfl, fun h => ⟨h, rfl, rfl, rfl⟩, ?_⟩
          refine ⟨_, [], trivial, rfl, rfl, fun h => ⟨h, rfl, rfl, rfl⟩, ?_⟩
          refine ⟨_, [], trivial, rfl, rfl, fun h => ⟨h, rfl, rfl, rfl⟩, ?_⟩
          refine ⟨⟨fun _ => trivial, fun hc => (gn hc)⟩, ?_⟩
          exact ⟨((extD l).2, met ++ [((numM 2 l).1 : Int)], (F (numM 2 l).1 ((extD l).1, false) e1).2.1, or (!(F (numM 2 l).1 ((extD l).1, false) e1).1) rb), ⟨Nat.le_trans h2l.2 (Nat.le_trans h1l hl), hgo.trans hi2⟩, hdec, Le.weak rfl rfl rfl rfl ⟨(by first | rfl | exact iv1 (by (try simp only [decide_eq_true_eq, decide_eq_false_iff_not, toNat_cast] at *); omega)), (by first | rfl | exact iv1 (by (try simp only [decide_eq_true_eq, decide_eq_false_iff_not, toNat_cast] at *); omega)), (by first | rfl | exact iv1 (by (try simp only [decide_eq_true_eq, decide_eq_false_iff_not, toNat_cast] at *); omega)), (by first | rfl | exact iv1 (by (try simp only [decide_eq_true_eq, decide_eq_false_iff_not, toNat_cast] at *); omega)), trivial⟩ ⟨congrArg (fun b => some (Chunk.box [.str (allM 2 r).2.1, .bool b])) (ifo _ _), rfl, rfl, rfl, trivial⟩⟩
        · refine (Tri.skip ?_)
          have hc : ¬ (!(extD l).2.2 && !(met.contains ((numM 2 l).1 : Int))) = true := (by rw [← ifb]; exact fun k => by have k2 := h3.symm.trans k; cases k2); have hst : extStep F (l, met, e1, rb) = ((extD l).2, met, e1, rb) := if_neg hc; rw [hst] at hgo hdec
          exact ⟨((extD l).2, met, e1, rb), ⟨Nat.le_trans h2l.2 (Nat.le_trans h1l hl), hgo.trans hi2⟩, hdec, Le.weak rfl rfl rfl rfl ⟨(by first | rfl | exact iv1 (by (try simp only [decide_eq_true_eq, decide_eq_false_iff_not, toNat_cast] at *); omega)), (by first | rfl | exact iv1 (by (try simp only [decide_eq_true_eq, decide_eq_false_iff_not, toNat_cast] at *); omega)), (by first | rfl | exact iv1 (by (try simp only [decide_eq_true_eq, decide_eq_false_iff_not, toNat_cast] at *); omega)), (by first | rfl | exact iv1 (by (try simp only [decide_eq_true_eq, decide_eq_false_iff_not, toNat_cast] at *); omega)), trivial⟩ ⟨rfl, rfl, rfl, rfl, trivial⟩⟩
      · refine Tri.exit ?_
        have hm : more l = false := (more_if l).symm.trans h2; have e0 : extE F r e = (l, met, e1, rb) := hi2.symm.trans (ext_stop (s := (l, met, e1, rb)) hm); rw [e0]
        refine (Tri.reg hT ?_)
        refine ⟨_, [], trivial, rfl, rfl, fun h => ⟨rfl, rfl, rfl⟩, ?_⟩
        refine ⟨_, [], trivial, rfl, rfl, fun h => ⟨h, rfl, rfl, rfl⟩, ?_⟩
        refine ⟨_, [], trivial, rfl, rfl, fun h => ⟨h, rfl, rfl, rfl⟩, ?_⟩
        refine ⟨_, [], trivial, rfl, rfl, fun h => ⟨h, rfl, rfl, rfl⟩, ?_⟩
        refine ⟨⟨fun _ => trivial, fun hc => (gn hc)⟩, ?_⟩
        exact ⟨rfl, congrArg (fun b => some (Chunk.box [.str (allM 2 r).2.1, .bool b])) (ifo _ _), rfl, trivial⟩
theorem f59_spec (g : FuncId) (F : EF) (hF : Treats g F) (r : Rd) (e : Ev) (hr : r.1.length ≤ 1099511627776) (i j : Nat) (hij : i ≠ j) : HSpec P [] 59 [.loc i 0, .fn g [.loc j 0]] [(i, .box (rdC r)), (j, .box (evC e))] (.tup []) [(i, .box (rdC (extM F r e).1)), (j, .box (evC (extM F r e).2))] :=
  HSpec.at2 (ext_at g F hF r e hr) 0 1 i j (by simp only [AV.renL, AV.ren, two_a (show 0 ≠ 1 by decide) hij, two_b (show 0 ≠ 1 by decide) hij]) (by simp only [renH, Chunk.ren, AV.renL, AV.ren, two_a (show 0 ≠ 1 by decide) hij, two_b (show 0 ≠ 1 by decide) hij]) (by simp only [AV.ren, AV.renL])
    (by simp only [renH, Chunk.ren, AV.renL, AV.ren, two_a (show 0 ≠ 1 by decide) hij, two_b (show 0 ≠ 1 by decide) hij])
set_option maxRecDepth 8000 in
theorem f44_spec (r : Rd) (hr : r.1.length ≤ 1099511627776) (id : Nat) : CSpec P [] 44 [.loc id 0] (oneU id (rdC r) (some (rdC (cliM r).1))) (.agg (evC (cliM r).2)) := by
  have l1 := numM_len 2 r
  have l2 := (takeM_len 32 (numM 2 r).2).2.2
  have l3 := (listM_len 1 (takeM 32 (numM 2 r).2).2).2
  have l4 := (listM_len 2 (helloR r)).2
  have l5 := (listM_len 1 (listM 2 (helloR r)).2).2
  have l3' : (helloR r).1.length = (listM 1 (takeM 32 (numM 2 r).2).2).2.1.length := rfl
  have eC : cliM r = extM cliF (listM 1 (listM 2 (helloR r)).2).2 (1, ((numM 2 r).1 : Int), []) := by unfold cliM; exact Eq.refl _
  rw [eC]
  clear eC
  refine cspec_intro hT Try.func44 (by decide) rfl rfl (by kernel_rfl) rfl (fun _ => rfl) (fun _ => rfl) (fun _ => rfl) (fun _ => rfl) ?_ id
  refine Tri.seq (Tri.reg hT ?_)
  refine Tri.seq (Tri.reg hT ?_)
  refine .inl (.inr (.inl ⟨_, _, (by exact ⟨rfl, trivial⟩), f56_spec r 2 hr (by decide) _, (by rfl), ?_⟩))
  refine Tri.seq (Tri.reg hT ?_)
  refine .inl (.inr (.inl ⟨_, _, (by exact ⟨rfl, trivial⟩), f57_spec (numM 2 r).2 32 (by omega) (by decide) _, (by rfl), ?_⟩))
  refine Tri.seq (Tri.reg hT ?_)
  refine .inl (.inr (.inl ⟨_, _, (by exact ⟨rfl, trivial⟩), f58_spec (takeM 32 (numM 2 r).2).2 1 (by omega) (by decide) _, (by rfl), ?_⟩))
  refine Tri.seq (Tri.reg hT ?_)
  refine .inl (.inr (.inl ⟨_, _, (by exact ⟨rfl, trivial⟩), f58_spec (helloR r) 2 (by omega) (by decide) _, (by rfl), ?_⟩))
  refine Tri.seq (Tri.reg hT ?_)
  refine .inl (.inr (.inl ⟨_, _, (by exact ⟨rfl, trivial⟩), f58_spec (listM 2 (helloR r)).2 1 (by omega) (by decide) _, (by rfl), ?_⟩))
  refine Tri.seq (Tri.regM hT [2] ?_)
  refine ⟨_, Le.refl _, .inl (.inr (OpTri.hcall 1 rfl rfl rfl (f59_spec 60 cliF cli_at (listM 1 (listM 2 (helloR r)).2).2 (1, ((numM 2 r).1 : Int), []) (by omega) 0 5 (by decide)) trivial ⟨rfl, rfl, trivial⟩ rfl ?_))⟩
  refine Tri.seq (Tri.reg hT ?_)
  refine Tri.ret ?_
  exact ⟨rfl, rfl, trivial⟩
set_option maxRecDepth 8000 in
theorem f45_spec (r : Rd) (hr : r.1.length ≤ 1099511627776) (id : Nat) : CSpec P [] 45 [.loc id 0] (oneU id (rdC r) (some (rdC (srvM r).1))) (.agg (evC (srvM r).2)) := by
  have l1 := numM_len 2 r
  have l2 := (takeM_len 32 (numM 2 r).2).2.2
  have l3 := (listM_len 1 (takeM 32 (numM 2 r).2).2).2
  have l4 := (takeM_len 3 (helloR r)).2.2
  have l3' : (helloR r).1.length = (listM 1 (takeM 32 (numM 2 r).2).2).2.1.length := rfl
  have eC : srvM r = extM srvF (takeM 3 (helloR r)).2 (2, ((numM 2 r).1 : Int), []) := by unfold srvM; exact Eq.refl _
  rw [eC]
  clear eC
  refine cspec_intro hT Try.func45 (by decide) rfl rfl (by kernel_rfl) rfl (fun _ => rfl) (fun _ => rfl) (fun _ => rfl) (fun _ => rfl) ?_ id
  refine Tri.seq (Tri.reg hT ?_)
  refine Tri.seq (Tri.reg hT ?_)
  refine .inl (.inr (.inl ⟨_, _, (by exact ⟨rfl, trivial⟩), f56_spec r 2 hr (by decide) _, (by rfl), ?_⟩))
  refine Tri.seq (Tri.reg hT ?_)
  refine .inl (.inr (.inl ⟨_, _, (by exact ⟨rfl, trivial⟩), f57_spec (numM 2 r).2 32 (by omega) (by decide) _, (by rfl), ?_⟩))
  refine Tri.seq (Tri.reg hT ?_)
  refine .inl (.inr (.inl ⟨_, _, (by exact ⟨rfl, trivial⟩), f58_spec (takeM 32 (numM 2 r).2).2 1 (by omega) (by decide) _, (by rfl), ?_⟩))
  refine Tri.seq (Tri.reg hT ?_)
  refine .inl (.inr (.inl ⟨_, _, (by exact ⟨rfl, trivial⟩), f57_spec (helloR r) 3 (by omega) (by decide) _, (by rfl), ?_⟩))
  refine Tri.seq (Tri.regM hT [2] ?_)
  refine ⟨_, Le.refl _, .inl (.inr (OpTri.hcall 1 rfl rfl rfl (f59_spec 63 srvF srv_at (takeM 3 (helloR r)).2 (2, ((numM 2 r).1 : Int), []) (by omega) 0 5 (by decide)) trivial ⟨rfl, rfl, trivial⟩ rfl ?_))⟩
  refine Tri.seq (Tri.reg hT ?_)
  refine Tri.ret ?_
  exact ⟨rfl, rfl, trivial⟩
end Go.Proofs.Ytgbmbihajkjbmaa.Fx
