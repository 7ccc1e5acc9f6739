import Derived.Test.YtgbmbihajkjbmaaTlA
import Derived.Test.YtgbmbihajkjbmaaGTl1
import Derived.Test.YtgbmbihajkjbmaaGFw8
set_option linter.all false
/- Contracts of chapter 32: names, versions. -/
namespace Go.Proofs.Ytgbmbihajkjbmaa.Fx
open Go Go.Fw Go.Ov Go.Tl
abbrev evC (e : Ev) : List AV := [.int .i64 e.1, .int .i64 e.2.1, .str e.2.2, .nils]
theorem allM_len (k : Nat) (r : Rd) : (allM k r).1.1.length ≤ r.1.length ∧ (allM k r).2.1.length ≤ r.1.length := listM_len k r
theorem ifd (a : Bool) : (if a = true then true else false) = a := by cases a <;> rfl
theorem neE {l : List UInt8} : decide (l ≠ ({ data := #[] } : ByteArray).data.toList) = decide (l ≠ []) := rfl
theorem more_if (r : Rd) : (if decide (r.1 ≠ ({ data := #[] } : ByteArray).data.toList) = true then !r.2 else false) = more r := by rw [neE, ifb]; rfl
theorem zeq {n : Nat} : decide ((n : Int) = 0) = decide (n = 0) := by rw [decide_eq_decide]; omega
set_option maxRecDepth 8000 in
theorem name_at (x : Rd) (e : Ev) (hx : x.1.length ≤ 1099511627776) : HSpec P [] 61 [.loc 0 0, .loc 1 0] [(0, .box (rdC x)), (1, .box (evC e))] (.bool (nameM x e).1) [(0, .box (rdC (nameM x e).2.2)), (1, .box (evC (nameM x e).2.1))] := by
  have hal := allM_len 2 x
  refine fspec_intro hT [(0, .box (rdC x)), (1, .box (evC e))] [(0, .box (rdC (nameM x e).2.2)), (1, .box (evC (nameM x e).2.1))] 2 2 Try.func61 (by decide) rfl rfl (by kernel_rfl) rfl rfl ?_
  refine Tri.seq (Tri.reg hT ?_)
  refine Tri.seq (Tri.regM hT [1] ?_)
  refine ⟨_, Le.refl _, .inl (.inr (OpTri.hcall 10 rfl rfl rfl (f64_spec x 2 hx (by decide) 0 5 (by decide)) trivial ⟨rfl, trivial⟩ rfl ?_))⟩
  refine Tri.seq (Tri.reg hT ?_)
  refine Tri.seq (Tri.block ?_)
  refine (Tri.loop (ι := NSt) (fun s => ⟨56, 2, 60, [(0, .loc 0 0), (1, .loc 1 0), (5, .loc 5 0), (6, .bool s.2.1)], [(0, .box (rdC (allM 2 x).2)), (1, .box (evC (e.1, e.2.1, s.2.2))), (5, .box (rdC s.1))], []⟩) (fun s => s.1.1.length ≤ 1099511627776 ∧ nameI s = nameI ((allM 2 x).1, false, e.2.2)) (fun s => s.1.1.length) (((allM 2 x).1, false, e.2.2)) ?_ ?_ ?_)
  · exact ⟨Nat.le_trans hal.1 hx, rfl⟩
  · exact Le.weak rfl rfl rfl rfl ⟨(by first | rfl | exact iv1 (by (try simp only [decide_eq_true_eq, decide_eq_false_iff_not, toNat_cast] at *); omega)), (by first | rfl | exact iv1 (by (try simp only [decide_eq_true_eq, decide_eq_false_iff_not, toNat_cast] at *); omega)), (by first | rfl | exact iv1 (by (try simp only [decide_eq_true_eq, decide_eq_false_iff_not, toNat_cast] at *); omega)), (by first | rfl | exact iv1 (by (try simp only [decide_eq_true_eq, decide_eq_false_iff_not, toNat_cast] at *); omega)), trivial⟩ ⟨rfl, rfl, rfl, trivial⟩
  · intro ⟨l, found, nm⟩ hi; obtain ⟨hl, hi2⟩ := hi; change l.1.length ≤ _ at hl; have h1l := numM_len 1 l; have h2l := listM_len 2 (numM 1 l).2
    refine Tri.seq ?_
    refine Tri.seq (Tri.reg hT ?_)
    refine ⟨_, [], trivial, rfl, rfl, fun h => ⟨rfl, rfl, rfl⟩, ?_⟩
    refine ⟨_, [], trivial, rfl, rfl, fun h => ⟨h, rfl, rfl, rfl⟩, ?_⟩
    refine ⟨_, [], trivial, rfl, rfl, fun h => ⟨h, rfl, rfl, rfl⟩, ?_⟩
    refine ⟨_, [], trivial, rfl, rfl, fun h => ⟨h, rfl, rfl, rfl⟩, ?_⟩
    refine ⟨_, [], trivial, rfl, rfl, fun h => ⟨h, rfl, rfl, rfl⟩, ?_⟩
    refine ⟨⟨fun hc => hc, fun _ => trivial⟩, ?_⟩
    refine (Tri.cond ⟨fun h1 => ?_, fun h1 => ?_⟩)
    · refine (Tri.skip ?_)
      refine (Tri.block ?_)
      have hm : more l = true := (more_if l).symm.trans h1; have hgo := name_go (s := (l, found, nm)) hm; have hdec := name_dec (l, found, nm) hm
      refine Tri.le (⟨56, 2, 80, [(0, .loc 0 0), (1, .loc 1 0), (5, .loc 5 0), (6, .bool found)], [(0, .box (rdC (allM 2 x).2)), (1, .box (evC (e.1, e.2.1, nm))), (5, .box (rdC l))], []⟩) (Le.weak rfl rfl rfl rfl ⟨(by first | rfl | exact iv1 (by (try simp only [decide_eq_true_eq, decide_eq_false_iff_not, toNat_cast] at *); omega)), (by first | rfl | exact iv1 (by (try simp only [decide_eq_true_eq, decide_eq_false_iff_not, toNat_cast] at *); omega)), (by first | rfl | exact iv1 (by (try simp only [decide_eq_true_eq, decide_eq_false_iff_not, toNat_cast] at *); omega)), (by first | rfl | exact iv1 (by (try simp only [decide_eq_true_eq, decide_eq_false_iff_not, toNat_cast] at *); omega)), trivial⟩ ⟨rfl, rfl, rfl, trivial⟩) ?_
      refine Tri.seq (Tri.reg hT ?_)
      refine .inl (.inr (.inl ⟨_, _, (by exact ⟨rfl, trivial⟩), f56_spec l 1 hl (by decide) _, (by rfl), ?_⟩))
      refine Tri.seq (Tri.reg hT ?_)
      refine .inl (.inr (.inl ⟨_, _, (by exact ⟨rfl, trivial⟩), f58_spec (numM 1 l).2 2 (by omega) (by decide) _, (by rfl), ?_⟩))
      refine Tri.seq (Tri.reg hT ?_)
      refine ⟨_, [], trivial, rfl, rfl, fun h => ⟨rfl, rfl, rfl⟩, ?_⟩
      refine ⟨_, [], trivial, rfl, rfl, fun h => ⟨h, rfl, rfl, rfl⟩, ?_⟩
      refine ⟨⟨fun hc => hc, fun _ => trivial⟩, ?_⟩
      refine ⟨_, [], trivial, rfl, rfl, fun h => ⟨rfl, rfl, rfl⟩, ?_⟩
      refine ⟨_, [], trivial, rfl, rfl, fun h => ⟨h, rfl, rfl, rfl⟩, ?_⟩
      refine ⟨_, [], trivial, rfl, rfl, fun h => ⟨h, rfl, rfl, rfl⟩, ?_⟩
      refine ⟨_, [], trivial, rfl, rfl, fun h => ⟨h, rfl, rfl, rfl⟩, ?_⟩
      refine ⟨_, [], trivial, rfl, rfl, fun h => ⟨h, rfl, rfl, rfl⟩, ?_⟩
      refine ⟨⟨fun hc => hc, fun _ => trivial⟩, ?_⟩
      refine (Tri.cond ⟨fun h2 => ?_, fun h2 => ?_⟩)
      · have hc : (decide ((numM 1 l).1 = 0) && !found && !(listM 2 (numM 1 l).2).2.2) = true := (by rw [← ifb, ← ifb, ← zeq]; exact h2); have hst : nameStep (l, found, nm) = ((listM 2 (numM 1 l).2).2, true, (listM 2 (numM 1 l).2).1) := if_pos hc; rw [hst] at hgo hdec
        refine (Tri.reg hT ?_)
        exact ⟨((listM 2 (numM 1 l).2).2, true, (listM 2 (numM 1 l).2).1), ⟨by show (listM 2 (numM 1 l).2).2.1.length ≤ _; omega, hgo.trans hi2⟩, hdec, Le.weak rfl rfl rfl rfl ⟨(by first | rfl | exact iv1 (by (try simp only [decide_eq_true_eq, decide_eq_false_iff_not, toNat_cast] at *); omega)), (by first | rfl | exact iv1 (by (try simp only [decide_eq_true_eq, decide_eq_false_iff_not, toNat_cast] at *); omega)), (by first | rfl | exact iv1 (by (try simp only [decide_eq_true_eq, decide_eq_false_iff_not, toNat_cast] at *); omega)), (by first | rfl | exact iv1 (by (try simp only [decide_eq_true_eq, decide_eq_false_iff_not, toNat_cast] at *); omega)), trivial⟩ ⟨rfl, rfl, rfl, trivial⟩⟩
      · refine (Tri.skip ?_)
        have hc : ¬ (decide ((numM 1 l).1 = 0) && !found && !(listM 2 (numM 1 l).2).2.2) = true := (by rw [← ifb, ← ifb, ← zeq]; exact fun k => by have k2 := h2.symm.trans k; cases k2); have hst : nameStep (l, found, nm) = ((listM 2 (numM 1 l).2).2, found, nm) := if_neg hc; rw [hst] at hgo hdec
        exact ⟨((listM 2 (numM 1 l).2).2, found, nm), ⟨by show (listM 2 (numM 1 l).2).2.1.length ≤ _; omega, hgo.trans hi2⟩, hdec, Le.weak rfl rfl rfl rfl ⟨(by first | rfl | exact iv1 (by (try simp only [decide_eq_true_eq, decide_eq_false_iff_not, toNat_cast] at *); omega)), (by first | rfl | exact iv1 (by (try simp only [decide_eq_true_eq, decide_eq_false_iff_not, toNat_cast] at *); omega)), (by first | rfl | exact iv1 (by (try simp only [decide_eq_true_eq, decide_eq_false_iff_not, toNat_cast] at *); omega)), (by first | rfl | exact iv1 (by (try simp only [decide_eq_true_eq, decide_eq_false_iff_not, toNat_cast] at *); omega)), trivial⟩ ⟨rfl, rfl, rfl, trivial⟩⟩
    · refine Tri.exit ?_
      refine Tri.seq (Tri.reg hT ?_)
      refine ⟨_, [], trivial, rfl, rfl, fun h => ⟨rfl, rfl, rfl⟩, ?_⟩
      refine ⟨_, [], trivial, rfl, rfl, fun h => ⟨h, rfl, rfl, rfl⟩, ?_⟩
      refine ⟨_, [], trivial, rfl, rfl, fun h => ⟨h, rfl, rfl, rfl⟩, ?_⟩
      refine ⟨_, [], trivial, rfl, rfl, fun h => ⟨h, rfl, rfl, rfl⟩, ?_⟩
      refine ⟨_, [], trivial, rfl, rfl, fun h => ⟨h, rfl, rfl, rfl⟩, ?_⟩
      refine ⟨⟨fun hc => hc, fun _ => trivial⟩, ?_⟩
      refine Tri.ret ?_
      have hm : more l = false := (more_if l).symm.trans h1; have e0 : nameI ((allM 2 x).1, false, e.2.2) = (l, found, nm) := hi2.symm.trans (name_stop (s := (l, found, nm)) hm); have eM : nameM x e = (!(allM 2 x).2.2 && !l.2, (e.1, e.2.1, nm), (allM 2 x).2) := (by unfold nameM; rw [e0]); rw [eM]; exact ⟨congrArg AV.bool (ifb _ _), rfl, rfl, trivial⟩
theorem f61_spec (x : Rd) (e : Ev) (hx : x.1.length ≤ 1099511627776) (i j : Nat) (hij : i ≠ j) : HSpec P [] 61 [.loc i 0, .loc j 0] [(i, .box (rdC x)), (j, .box (evC e))] (.bool (nameM x e).1) [(i, .box (rdC (nameM x e).2.2)), (j, .box (evC (nameM x e).2.1))] :=
  HSpec.at2 (name_at x e hx) 0 1 i j (by simp only [AV.renL, AV.ren, two_a (show 0 ≠ 1 by decide) hij, two_b (show 0 ≠ 1 by decide) hij]) (by simp only [renH, Chunk.ren, AV.renL, AV.ren, two_a (show 0 ≠ 1 by decide) hij, two_b (show 0 ≠ 1 by decide) hij]) (by simp only [AV.ren])
    (by simp only [renH, Chunk.ren, AV.renL, AV.ren, two_a (show 0 ≠ 1 by decide) hij, two_b (show 0 ≠ 1 by decide) hij])
set_option maxRecDepth 8000 in
theorem versions_at (x : Rd) (e : Ev) (hx : x.1.length ≤ 1099511627776) : HSpec P [] 62 [.loc 0 0, .loc 1 0] [(0, .box (rdC x)), (1, .box (evC e))] (.bool (versM x e).1) [(0, .box (rdC (versM x e).2.2)), (1, .box (evC (versM x e).2.1))] := by
  have hal := allM_len 1 x
  refine fspec_intro hT [(0, .box (rdC x)), (1, .box (evC e))] [(0, .box (rdC (versM x e).2.2)), (1, .box (evC (versM x e).2.1))] 2 2 Try.func62 (by decide) rfl rfl (by kernel_rfl) rfl rfl ?_
  refine Tri.seq (Tri.reg hT ?_)
  refine Tri.seq (Tri.regM hT [1] ?_)
  refine ⟨_, Le.refl _, .inl (.inr (OpTri.hcall 10 rfl rfl rfl (f64_spec x 1 hx (by decide) 0 5 (by decide)) trivial ⟨rfl, trivial⟩ rfl ?_))⟩
  refine Tri.seq (Tri.reg hT ?_)
  refine Tri.seq (Tri.block ?_)
  refine (Tri.loop (ι := VSt) (fun s => ⟨45, 2, 60, [(0, .loc 0 0), (1, .loc 1 0), (5, .loc 5 0), (6, .int .i64 (s.2 : Int))], [(0, .box (rdC (allM 1 x).2)), (1, .box (evC e)), (5, .box (rdC s.1))], []⟩) (fun s => s.1.1.length ≤ 1099511627776 ∧ versI s = versI ((allM 1 x).1, 0)) (fun s => s.1.1.length) (((allM 1 x).1, 0)) ?_ ?_ ?_)
  · exact ⟨Nat.le_trans hal.1 hx, rfl⟩
  · exact Le.weak rfl rfl rfl rfl ⟨(by first | rfl | exact iv1 (by (try simp only [decide_eq_true_eq, decide_eq_false_iff_not, toNat_cast] at *); omega)), (by first | rfl | exact iv1 (by (try simp only [decide_eq_true_eq, decide_eq_false_iff_not, toNat_cast] at *); omega)), (by first | rfl | exact iv1 (by (try simp only [decide_eq_true_eq, decide_eq_false_iff_not, toNat_cast] at *); omega)), (by first | rfl | exact iv1 (by (try simp only [decide_eq_true_eq, decide_eq_false_iff_not, toNat_cast] at *); omega)), trivial⟩ ⟨rfl, rfl, rfl, trivial⟩
  · intro ⟨l, g⟩ hi; obtain ⟨hl, hi2⟩ := hi; change l.1.length ≤ _ at hl; have h1l := numM_len 2 l
    refine Tri.seq ?_
    refine Tri.seq (Tri.reg hT ?_)
    refine (Tri.cond ⟨fun h1 => ?_, fun h1 => ?_⟩)
    · refine (Tri.skip ?_)
      refine (Tri.block ?_)
      have hm : decide (2 ≤ l.1.length) = true := decide_eq_true (by have := of_decide_eq_true h1; change (l.1.length : Int) ≥ 2 at this; omega); have hgo := vers_go (s := (l, g)) hm; have hdec := vers_dec (l, g) hm
      refine Tri.le (⟨45, 2, 80, [(0, .loc 0 0), (1, .loc 1 0), (5, .loc 5 0), (6, .int .i64 (g : Int))], [(0, .box (rdC (allM 1 x).2)), (1, .box (evC e)), (5, .box (rdC l))], []⟩) (Le.weak rfl rfl rfl rfl ⟨(by first | rfl | exact iv1 (by (try simp only [decide_eq_true_eq, decide_eq_false_iff_not, toNat_cast] at *); omega)), (by first | rfl | exact iv1 (by (try simp only [decide_eq_true_eq, decide_eq_false_iff_not, toNat_cast] at *); omega)), (by first | rfl | exact iv1 (by (try simp only [decide_eq_true_eq, decide_eq_false_iff_not, toNat_cast] at *); omega)), (by first | rfl | exact iv1 (by (try simp only [decide_eq_true_eq, decide_eq_false_iff_not, toNat_cast] at *); omega)), trivial⟩ ⟨rfl, rfl, rfl, trivial⟩) ?_
      refine Tri.seq (Tri.reg hT ?_)
      refine .inl (.inr (.inl ⟨_, _, (by exact ⟨rfl, trivial⟩), f56_spec l 2 hl (by decide) _, (by rfl), ?_⟩))
      refine Tri.seq (Tri.reg hT ?_)
      refine ⟨_, [], trivial, rfl, rfl, fun h => ⟨rfl, rfl, rfl⟩, ?_⟩
      refine ⟨_, [], trivial, rfl, rfl, fun h => ⟨h, rfl, rfl, rfl⟩, ?_⟩
      refine ⟨⟨fun hc => hc, fun _ => trivial⟩, ?_⟩
      refine (Tri.cond ⟨fun h2 => ?_, fun h2 => ?_⟩)
      · refine (Tri.reg hT ?_)
        have hc : 768 ≤ (numM 2 l).1 ∧ (numM 2 l).1 ≤ 772 := (by rw [ifb] at h2; have := Bool.and_eq_true_iff.1 h2; have k1 := of_decide_eq_true this.1; have k2 := of_decide_eq_true this.2; omega); have hst : versStep (l, g) = ((numM 2 l).2, max g (numM 2 l).1) := (by unfold versStep; rw [if_pos hc]); rw [hst] at hgo hdec
        exact ⟨((numM 2 l).2, max g (numM 2 l).1), ⟨by show (numM 2 l).2.1.length ≤ _; omega, hgo.trans hi2⟩, hdec, Le.weak rfl rfl rfl rfl ⟨(by first | rfl | exact iv1 (by (try simp only [decide_eq_true_eq, decide_eq_false_iff_not, toNat_cast] at *); omega)), (by first | rfl | exact iv1 (by (try simp only [decide_eq_true_eq, decide_eq_false_iff_not, toNat_cast] at *); omega)), (by first | rfl | exact iv1 (by (try simp only [decide_eq_true_eq, decide_eq_false_iff_not, toNat_cast] at *); omega)), congrArg (AV.int .i64) (by show max (g : Int) ((numM 2 l).1 : Int) = _; omega), trivial⟩ ⟨rfl, rfl, rfl, trivial⟩⟩
      · refine (Tri.skip ?_)
        have hc : ¬ (768 ≤ (numM 2 l).1 ∧ (numM 2 l).1 ≤ 772) := (by rw [ifb] at h2; intro k; rw [decide_eq_true (by omega), decide_eq_true (by omega)] at h2; cases h2); have hst : versStep (l, g) = ((numM 2 l).2, g) := (by unfold versStep; rw [if_neg hc]); rw [hst] at hgo hdec
        exact ⟨((numM 2 l).2, g), ⟨by show (numM 2 l).2.1.length ≤ _; omega, hgo.trans hi2⟩, hdec, Le.weak rfl rfl rfl rfl ⟨(by first | rfl | exact iv1 (by (try simp only [decide_eq_true_eq, decide_eq_false_iff_not, toNat_cast] at *); omega)), (by first | rfl | exact iv1 (by (try simp only [decide_eq_true_eq, decide_eq_false_iff_not, toNat_cast] at *); omega)), (by first | rfl | exact iv1 (by (try simp only [decide_eq_true_eq, decide_eq_false_iff_not, toNat_cast] at *); omega)), (by first | rfl | exact iv1 (by (try simp only [decide_eq_true_eq, decide_eq_false_iff_not, toNat_cast] at *); omega)), trivial⟩ ⟨rfl, rfl, rfl, trivial⟩⟩
    · refine Tri.exit ?_
      have hm : decide (2 ≤ l.1.length) = false := decide_eq_false (by have := of_decide_eq_false h1; change ¬ (l.1.length : Int) ≥ 2 at this; omega); have e0 : versI ((allM 1 x).1, 0) = (l, g) := hi2.symm.trans (vers_stop (s := (l, g)) hm); have eM : versM x e = (!(allM 1 x).2.2 && decide (l.1 = []), (e.1, if g > 0 then (g : Int) else e.2.1, e.2.2), (allM 1 x).2) := (by unfold versM; rw [e0]); rw [eM]
      refine Tri.le (⟨45, 2, 80, [(0, .loc 0 0), (1, .loc 1 0), (5, .loc 5 0), (6, .int .i64 (g : Int))], [(0, .box (rdC (allM 1 x).2)), (1, .box (evC e)), (5, .box (rdC l))], []⟩) (Le.weak rfl rfl rfl rfl ⟨(by first | rfl | exact iv1 (by (try simp only [decide_eq_true_eq, decide_eq_false_iff_not, toNat_cast] at *); omega)), (by first | rfl | exact iv1 (by (try simp only [decide_eq_true_eq, decide_eq_false_iff_not, toNat_cast] at *); omega)), (by first | rfl | exact iv1 (by (try simp only [decide_eq_true_eq, decide_eq_false_iff_not, toNat_cast] at *); omega)), (by first | rfl | exact iv1 (by (try simp only [decide_eq_true_eq, decide_eq_false_iff_not, toNat_cast] at *); omega)), trivial⟩ ⟨rfl, rfl, rfl, trivial⟩) ?_
      refine Tri.seq ?_
      refine Tri.seq (Tri.reg hT ?_)
      refine (Tri.cond ⟨fun h3 => ?_, fun h3 => ?_⟩)
      · refine (Tri.reg hT ?_)
        refine Tri.seq (Tri.reg hT ?_)
        refine ⟨_, [], trivial, rfl, rfl, fun h => ⟨rfl, rfl, rfl⟩, ?_⟩
        refine ⟨_, [], trivial, rfl, rfl, fun h => ⟨h, rfl, rfl, rfl⟩, ?_⟩
        refine ⟨_, [], trivial, rfl, rfl, fun h => ⟨h, rfl, rfl, rfl⟩, ?_⟩
        refine ⟨_, [], trivial, rfl, rfl, fun h => ⟨h, rfl, rfl, rfl⟩, ?_⟩
        refine ⟨_, [], trivial, rfl, rfl, fun h => ⟨h, rfl, rfl, rfl⟩, ?_⟩
        refine ⟨⟨fun hc => hc, fun _ => trivial⟩, ?_⟩
        refine Tri.ret ?_
        exact ⟨congrArg AV.bool (ifb _ _), rfl, congrArg (fun v => some (Chunk.box [.int .i64 e.1, .int .i64 v, .str e.2.2, .nils])) (if_pos (by have := of_decide_eq_true h3; omega)).symm, trivial⟩
      · refine (Tri.skip ?_)
        refine Tri.seq (Tri.reg hT ?_)
        refine ⟨_, [], trivial, rfl, rfl, fun h => ⟨rfl, rfl, rfl⟩, ?_⟩
        refine ⟨_, [], trivial, rfl, rfl, fun h => ⟨h, rfl, rfl, rfl⟩, ?_⟩
        refine ⟨_, [], trivial, rfl, rfl, fun h => ⟨h, rfl, rfl, rfl⟩, ?_⟩
        refine ⟨_, [], trivial, rfl, rfl, fun h => ⟨h, rfl, rfl, rfl⟩, ?_⟩
        refine ⟨_, [], trivial, rfl, rfl, fun h => ⟨h, rfl, rfl, rfl⟩, ?_⟩
        refine ⟨⟨fun hc => hc, fun _ => trivial⟩, ?_⟩
        refine Tri.ret ?_
        exact ⟨congrArg AV.bool (ifb _ _), rfl, congrArg (fun v => some (Chunk.box [.int .i64 e.1, .int .i64 v, .str e.2.2, .nils])) (if_neg (by have := of_decide_eq_false h3; omega)).symm, trivial⟩
theorem f62_spec (x : Rd) (e : Ev) (hx : x.1.length ≤ 1099511627776) (i j : Nat) (hij : i ≠ j) : HSpec P [] 62 [.loc i 0, .loc j 0] [(i, .box (rdC x)), (j, .box (evC e))] (.bool (versM x e).1) [(i, .box (rdC (versM x e).2.2)), (j, .box (evC (versM x e).2.1))] :=
  HSpec.at2 (versions_at x e hx) 0 1 i j (by simp only [AV.renL, AV.ren, two_a (show 0 ≠ 1 by decide) hij, two_b (show 0 ≠ 1 by decide) hij]) (by simp only [renH, Chunk.ren, AV.renL, AV.ren, two_a (show 0 ≠ 1 by decide) hij, two_b (show 0 ≠ 1 by decide) hij]) (by simp only [AV.ren])
    (by simp only [renH, Chunk.ren, AV.renL, AV.ren, two_a (show 0 ≠ 1 by decide) hij, two_b (show 0 ≠ 1 by decide) hij])
/-! ### what the hellos do with an extension -/
set_option maxRecDepth 8000 in
theorem cli_at (k : Nat) (x : Rd) (e : Ev) (hx : x.1.length ≤ 1099511627776) : HSpec P [] 60 [.int .i64 (k : Int), .loc 0 0, .loc 1 0] [(0, .box (rdC x)), (1, .box (evC e))] (.bool (cliF k x e).1) [(0, .box (rdC (cliF k x e).2.2)), (1, .box (evC (cliF k x e).2.1))] := by
  refine fspec_intro hT [(0, .box (rdC x)), (1, .box (evC e))] [(0, .box (rdC (cliF k x e).2.2)), (1, .box (evC (cliF k x e).2.1))] 2 2 Try.func60 (by decide) rfl rfl (by kernel_rfl) rfl rfl ?_
  refine Tri.seq (Tri.reg hT ?_)
  refine Tri.seq ?_
  refine Tri.seq (Tri.reg hT ?_)
  refine (Tri.block ?_)
  refine Tri.seq (Tri.reg hT ?_)
  refine (Tri.cond ⟨fun h1 => ?_, fun h1 => ?_⟩)
  · have eF : cliF k x e = nameM x e := if_pos (by have := of_decide_eq_true h1; omega); rw [eF]
    refine Tri.seq (Tri.regM hT [1] ?_)
    refine ⟨_, Le.refl _, .inl (.inr (OpTri.hcall 1 rfl rfl rfl (f61_spec x e hx 0 1 (by decide)) trivial ⟨rfl, rfl, trivial⟩ rfl ?_))⟩
    refine Tri.ret ?_
    exact ⟨rfl, rfl, rfl, trivial⟩
  · refine Tri.seq (Tri.reg hT ?_)
    refine (Tri.cond ⟨fun h2 => ?_, fun h2 => ?_⟩)
    · have eF : cliF k x e = versM x e := (if_neg (by have := of_decide_eq_false h1; omega)).trans (if_pos (by have := of_decide_eq_true h2; omega)); rw [eF]
      refine Tri.seq (Tri.regM hT [1] ?_)
      refine ⟨_, Le.refl _, .inl (.inr (OpTri.hcall 1 rfl rfl rfl (f62_spec x e hx 0 1 (by decide)) trivial ⟨rfl, rfl, trivial⟩ rfl ?_))⟩
      refine Tri.ret ?_
      exact ⟨rfl, rfl, rfl, trivial⟩
    · refine (Tri.skip ?_)
      have eF : cliF k x e = (true, e, x) := (if_neg (by have := of_decide_eq_false h1; omega)).trans (if_neg (by have := of_decide_eq_false h2; omega)); rw [eF]
      refine Tri.seq (Tri.reg hT ?_)
      refine Tri.ret ?_
      exact ⟨rfl, rfl, rfl, trivial⟩
set_option maxRecDepth 8000 in
theorem srv_at (k : Nat) (x : Rd) (e : Ev) (hx : x.1.length ≤ 1099511627776) : HSpec P [] 63 [.int .i64 (k : Int), .loc 0 0, .loc 1 0] [(0, .box (rdC x)), (1, .box (evC e))] (.bool (srvF k x e).1) [(0, .box (rdC (srvF k x e).2.2)), (1, .box (evC (srvF k x e).2.1))] := by
  refine fspec_intro hT [(0, .box (rdC x)), (1, .box (evC e))] [(0, .box (rdC (srvF k x e).2.2)), (1, .box (evC (srvF k x e).2.1))] 2 2 Try.func63 (by decide) rfl rfl (by kernel_rfl) rfl rfl ?_
  refine Tri.seq (Tri.reg hT ?_)
  refine Tri.seq ?_
  refine Tri.seq (Tri.reg hT ?_)
  refine (Tri.cond ⟨fun h1 => ?_, fun h1 => ?_⟩)
  · have eF : srvF k x e = (true, e, x) := if_pos (by have := of_decide_eq_true h1; omega); rw [eF]
    refine Tri.seq (Tri.reg hT ?_)
    refine Tri.ret ?_
    exact ⟨rfl, rfl, rfl, trivial⟩
  · refine (Tri.skip ?_)
    have eF : srvF k x e = (!(numM 2 x).2.2 && decide ((numM 2 x).2.1 = []), (e.1, ((numM 2 x).1 : Int), e.2.2), (numM 2 x).2) := if_neg (by have := of_decide_eq_false h1; omega); rw [eF]
    refine Tri.seq (Tri.reg hT ?_)
    refine .inl (.inr (.inl ⟨_, _, (by exact ⟨rfl, trivial⟩), f56_spec x 2 hx (by decide) _, (by rfl), ?_⟩))
    refine Tri.seq (Tri.reg hT ?_)
    refine ⟨_, [], trivial, rfl, rfl, fun h => ⟨rfl, rfl, rfl⟩, ?_⟩
    refine ⟨_, [], trivial, rfl, rfl, fun h => ⟨h, rfl, rfl, rfl⟩, ?_⟩
    refine ⟨_, [], trivial, rfl, rfl, fun h => ⟨h, rfl, rfl, rfl⟩, ?_⟩
    refine ⟨_, [], trivial, rfl, rfl, fun h => ⟨h, rfl, rfl, rfl⟩, ?_⟩
    refine ⟨_, [], trivial, rfl, rfl, fun h => ⟨h, rfl, rfl, rfl⟩, ?_⟩
    refine ⟨⟨fun hc => hc, fun _ => trivial⟩, ?_⟩
    refine Tri.ret ?_
    exact ⟨congrArg AV.bool (ifb _ _), rfl, rfl, trivial⟩
end Go.Proofs.Ytgbmbihajkjbmaa.Fx
