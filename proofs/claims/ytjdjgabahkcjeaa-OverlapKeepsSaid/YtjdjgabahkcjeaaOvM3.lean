/- Chapter 15: the statement OverlapKeeps. -/
import Derived.Test.YtjdjgabahkcjeaaOvL
import Derived.Test.YtjdjgabahkcjeaaOv9
set_option linter.all false
namespace Go.Proofs.Ytjdjgabahkcjeaa.Fx
open Go Go.Fw Go.Ov
theorem two_f {s t : List UInt8} (h1 : t.length ≤ s.length) (h2 : s.take t.length = t) : (if decide ((s.length : Int) < (t.length : Int)) = true then true else decide (List.drop (Int.toNat 0) (s.take (t.length : Int).toNat) ≠ t)) = false := by
  rw [if_neg (by simp; omega), toNat_cast, h2]
  exact decide_eq_false (fun h => h rfl)
theorem three_f {s t : List UInt8} {pol : Int} (h1 : t.length ≤ s.length) (h2 : pol = 2 → s.take t.length = t) : (if decide ((s.length : Int) < (t.length : Int)) = true then true else if decide (pol = 2) = true then decide (List.drop (Int.toNat 0) (s.take (t.length : Int).toNat) ≠ t) else false) = false := by
  rw [if_neg (by simp; omega)]
  by_cases h : pol = 2
  · rw [if_pos (decide_eq_true h), toNat_cast, h2 h]
    exact decide_eq_false (fun h => h rfl)
  · rw [if_neg (by simpa using h)]
theorem guard3k {a b c : Bool} (h : (if (if (!a) = true then true else b) = true then true else !c) = false) : a = true ∧ b = false ∧ c = true := by
  cases a <;> cases b <;> cases c <;> simp_all
theorem guard2k {a b : Bool} (h : gd (if (!a) = true then true else b) false = true) : a = true ∧ b = false := by
  cases a <;> cases b <;> simp_all [gd]
theorem f7_spec (l : List Pc) (p : Pc) (pol : Int) (hg : l.length ≤ 140737488355328) : PSpec P [] 7 [.list pT l, pv p, .int .i64 pol] (.bool true) := by
  refine pspec_intro hT Try.func7 (by decide) rfl rfl (by kernel_rfl) rfl ?_
  refine Tri.seq (Tri.reg hT ?_)
  refine Tri.seq ?_
  refine Tri.seq (Tri.reg hT ?_)
  refine .inl (.inl ⟨_, fun _ => rfl, f12_spec, ?_⟩)
  refine (Tri.cond ⟨fun h1 => ?_, fun h1 => ?_⟩)
  · exact absurd h1 (by simp)
  · refine (Tri.skip ?_)
    refine Tri.seq ?_
    refine Tri.seq (Tri.reg hT ?_)
    refine .inl (.inl ⟨_, fun _ => rfl, f13_spec l 40 300 hg (by decide) (by decide) (by decide) (by decide), ?_⟩)
    refine ⟨_, [], trivial, rfl, rfl, fun h => ⟨rfl, rfl, rfl⟩, ?_⟩
    refine ⟨_, [], trivial, rfl, rfl, fun h => ⟨h, rfl, rfl, rfl⟩, ?_⟩
    refine ⟨_, [], trivial, rfl, rfl, fun h => ⟨h, rfl, rfl, rfl⟩, ?_⟩
    refine ⟨_, [], trivial, rfl, rfl, fun h => ⟨h, rfl, rfl, rfl⟩, ?_⟩
    refine ⟨⟨fun _ => trivial, fun hc => (gn hc)⟩, ?_⟩
    refine ⟨_, [], trivial, rfl, rfl, fun h => ⟨rfl, rfl, rfl⟩, ?_⟩
    refine ⟨_, [], trivial, rfl, rfl, fun h => ⟨h, (.inl ⟨_, fun _ => rfl, f18_spec l (by have := few_of (many := 40) (most := 300) (guard2k h).1; omega), rfl, rfl, rfl⟩)⟩, ?_⟩
    refine ⟨_, [], trivial, rfl, rfl, fun h => ⟨h, rfl, rfl, rfl⟩, ?_⟩
    refine ⟨⟨fun _ => trivial, fun hc => (gn hc)⟩, ?_⟩
    refine (Tri.cond ⟨fun h2 => ?_, fun h2 => ?_⟩)
    · refine Tri.seq (Tri.reg hT ?_)
      refine Tri.ret ?_
      exact ⟨rfl, trivial⟩
    · refine (Tri.skip ?_)
      have g := guard3k h2; have hf := few_of (many := 40) (most := 300) g.1; have hp : ¬ ((pd p).length : Int) > 200 := of_decide_eq_false g.2.1; have hv : Valid l := of_decide_eq_true g.2.2; have hsm := insR_small (l := l) (p := p) (pol := pol) (by omega)
      refine Tri.seq (Tri.reg hT ?_)
      refine .inl (.inl ⟨_, fun _ => rfl, f15_spec l p pol (by omega) hv (by omega), ?_⟩)
      refine Tri.seq ?_
      refine Tri.seq (Tri.reg hT ?_)
      refine (Tri.cond ⟨fun h3 => ?_, fun h3 => ?_⟩)
      · refine Tri.seq (Tri.reg hT ?_)
        refine ⟨_, [], trivial, rfl, rfl, fun h => ⟨rfl, rfl, rfl⟩, ?_⟩
        refine ⟨_, [], trivial, rfl, rfl, fun h => ⟨h, rfl, rfl, rfl⟩, ?_⟩
        refine ⟨⟨fun hc => hc, fun _ => trivial⟩, ?_⟩
        refine Tri.ret ?_
        have er := insR_err (of_decide_eq_true h3); exact ⟨congrArg AV.bool (by rw [er.1, er.2]; rfl), trivial⟩
      · refine (Tri.skip ?_)
        refine Tri.seq ?_
        have G := insGood hv (by omega) (show (insR l p pol).2.2 = 0 from Classical.byContradiction fun hn => absurd (decide_eq_true hn) (by rw [show decide ((insR l p pol).2.2 ≠ 0) = false from h3]; simp)); generalize hx : (insR l p pol).1 = x at G hsm; generalize hn : (insR l p pol).2.1 = n at G; obtain ⟨G1, G2, G3, G4, G5, G6, G7, G8, G9⟩ := G; have hpe : (pd p).length = p.2.1.length := rfl
        refine Tri.seq (Tri.drw hT hm 50 (by kernel_rfl) ?_)
        refine .inl ⟨_, fun _ => rfl, f18_spec x (by omega), ?_⟩
        refine ⟨_, [], trivial, rfl, rfl, fun h => ⟨rfl, rfl, rfl⟩, ?_⟩
        refine ⟨_, [], trivial, rfl, rfl, fun h => ⟨h, rfl, rfl, rfl⟩, ?_⟩
        refine ⟨⟨fun _ => trivial, fun hc => (gn hc)⟩, ?_⟩
        refine ⟨_, [], trivial, rfl, rfl, fun h => ⟨rfl, rfl, rfl⟩, ?_⟩
        refine ⟨_, [], trivial, rfl, rfl, fun h => ⟨rfl, rfl, rfl⟩, ?_⟩
        refine ⟨_, [], trivial, rfl, rfl, fun h => ⟨h, rfl, rfl, rfl⟩, ?_⟩
        refine ⟨_, [], trivial, rfl, rfl, fun h => ⟨h, rfl, rfl, rfl⟩, ?_⟩
        refine ⟨_, [], trivial, rfl, rfl, fun h => ⟨h, h, rfl, rfl, rfl⟩, ?_⟩
        refine ⟨⟨fun _ => trivial, fun hc => (gn hc)⟩, ?_⟩
        refine ⟨_, [], trivial, rfl, rfl, fun h => ⟨rfl, rfl, rfl⟩, ?_⟩
        refine ⟨_, [], trivial, rfl, rfl, fun h => ⟨h, (.inl ⟨_, fun _ => rfl, f23_spec x (by omega) (by omega), rfl, rfl, rfl⟩)⟩, ?_⟩
        refine ⟨_, [], trivial, rfl, rfl, fun h => ⟨rfl, rfl, rfl⟩, ?_⟩
        refine ⟨_, [], trivial, rfl, rfl, fun h => ⟨h, (.inl ⟨_, fun _ => rfl, f23_spec l (by omega) (by omega), rfl, rfl, rfl⟩)⟩, ?_⟩
        refine ⟨_, [], trivial, rfl, rfl, fun h => ⟨h, h, rfl, rfl, rfl⟩, ?_⟩
        refine ⟨⟨fun _ => trivial, fun hc => (gn hc)⟩, ?_⟩
        refine ⟨_, [], trivial, rfl, rfl, fun h => ⟨rfl, rfl, rfl⟩, ?_⟩
        refine ⟨_, [], trivial, rfl, rfl, fun h => ⟨h, (.inl ⟨_, fun _ => rfl, f23_spec x (by omega) (by omega), rfl, rfl, rfl⟩)⟩, ?_⟩
        refine ⟨_, [], trivial, rfl, rfl, fun h => ⟨rfl, rfl, rfl⟩, ?_⟩
        refine ⟨_, [], trivial, rfl, rfl, fun h => ⟨h, rfl, rfl, rfl⟩, ?_⟩
        refine ⟨_, [], trivial, rfl, rfl, fun h => ⟨h, rfl, rfl, rfl⟩, ?_⟩
        refine ⟨_, [], trivial, rfl, rfl, fun h => ⟨h, h, rfl, rfl, rfl⟩, ?_⟩
        refine ⟨⟨fun _ => trivial, fun hc => (gn hc)⟩, ?_⟩
        refine ⟨_, [], trivial, rfl, rfl, fun h => ⟨rfl, rfl, rfl⟩, ?_⟩
        refine ⟨_, [], trivial, rfl, rfl, fun h => ⟨h, (.inl ⟨_, fun _ => rfl, f23_spec x (by omega) (by omega), rfl, rfl, rfl⟩)⟩, ?_⟩
        refine ⟨_, [], trivial, rfl, rfl, fun h => ⟨rfl, rfl, rfl⟩, ?_⟩
        refine ⟨_, [], trivial, rfl, rfl, fun h => ⟨h, (.inl ⟨_, fun _ => rfl, f23_spec l (by omega) (by omega), rfl, rfl, rfl⟩)⟩, ?_⟩
        refine ⟨_, [], trivial, rfl, rfl, fun h => ⟨rfl, rfl, rfl⟩, ?_⟩
        refine ⟨_, [], trivial, rfl, rfl, fun h => ⟨h, rfl, rfl, rfl⟩, ?_⟩
        refine ⟨_, [], trivial, rfl, rfl, fun h => ⟨h, rfl, rfl, rfl⟩, ?_⟩
        refine ⟨_, [], trivial, rfl, rfl, fun h => ⟨h, h, rfl, rfl, rfl⟩, ?_⟩
        refine ⟨_, [], trivial, rfl, rfl, fun h => ⟨h, h, rfl, rfl, rfl⟩, ?_⟩
        refine ⟨⟨fun _ => trivial, fun hc => (gn hc)⟩, ?_⟩
        refine ⟨_, [], trivial, rfl, rfl, fun h => ⟨rfl, rfl, rfl⟩, ?_⟩
        refine ⟨_, [], trivial, rfl, rfl, fun h => ⟨h, rfl, rfl, rfl⟩, ?_⟩
        refine ⟨_, [], trivial, rfl, rfl, fun h => ⟨h, rfl, rfl, rfl⟩, ?_⟩
        refine ⟨_, [], trivial, rfl, rfl, fun h => ⟨h, rfl, rfl, rfl⟩, ?_⟩
        refine ⟨_, [], trivial, rfl, rfl, fun h => ⟨rfl, rfl, rfl⟩, ?_⟩
        refine ⟨_, [], trivial, rfl, rfl, fun h => ⟨h, rfl, rfl, rfl⟩, ?_⟩
        refine ⟨_, [], trivial, rfl, rfl, fun h => ⟨h, rfl, rfl, rfl⟩, ?_⟩
        refine ⟨_, [], trivial, rfl, rfl, fun h => ⟨h, ⟨fun hc => ga h hc, fun _ => trivial⟩, rfl, rfl, rfl⟩, ?_⟩
        refine ⟨⟨fun _ => trivial, fun hc => (gn hc)⟩, ?_⟩
        refine ⟨by kernel_rfl, ?_⟩
        refine (Tri.cond ⟨fun h4 => ?_, fun h4 => ?_⟩)
        · exact absurd h4 (by rw [wrapId (by omega)]; simp [G1]; omega)
        · refine (Tri.skip ?_)
          refine Tri.join (True) (⟨176, 0, 0, [(0, .list pT l), (2, .int .i64 pol), (7, .list pT x)], [], []⟩) ?_ fun hp5 => ?_
          · refine Tri.seq (Tri.reg hT ?_)
            refine (Tri.cond ⟨fun h5 => ?_, fun h5 => ?_⟩)
            · have G7' : p.2.1.length ≤ (takeF x p.1).1.length := G7
              refine Tri.seq (Tri.reg hT ?_)
              refine .inl (.inl ⟨_, fun _ => rfl, f19_spec x p.1 (by omega) (valid_inB G1) (by omega), ?_⟩)
              refine Tri.seq (Tri.drw hT hm 20 (by kernel_rfl) ?_)
              refine ⟨_, [], trivial, rfl, rfl, fun h => ⟨rfl, rfl, rfl⟩, ?_⟩
              refine ⟨_, [], trivial, rfl, rfl, fun h => ⟨h, rfl, rfl, rfl⟩, ?_⟩
              refine ⟨_, [], trivial, rfl, rfl, fun h => ⟨h, rfl, rfl, rfl⟩, ?_⟩
              refine ⟨_, [], trivial, rfl, rfl, fun h => ⟨rfl, rfl, rfl⟩, ?_⟩
              refine ⟨_, [], trivial, rfl, rfl, fun h => ⟨rfl, rfl, rfl⟩, ?_⟩
              refine ⟨_, [], trivial, rfl, rfl, fun h => ⟨h, rfl, rfl, rfl⟩, ?_⟩
              refine ⟨_, [], trivial, rfl, rfl, fun h => ⟨h, rfl, rfl, rfl⟩, ?_⟩
              refine ⟨_, [], trivial, rfl, rfl, fun h => ⟨h, h, by omega, rfl, rfl, rfl⟩, ?_⟩
              refine ⟨_, [], trivial, rfl, rfl, fun h => ⟨rfl, rfl, rfl⟩, ?_⟩
              refine ⟨_, [], trivial, rfl, rfl, fun h => ⟨h, rfl, rfl, rfl⟩, ?_⟩
              refine ⟨_, [], trivial, rfl, rfl, fun h => ⟨h, h, rfl, rfl, rfl⟩, ?_⟩
              refine ⟨_, [], trivial, rfl, rfl, fun h => ⟨h, ⟨fun hc => ga h hc, fun _ => trivial⟩, rfl, rfl, rfl⟩, ?_⟩
              refine ⟨⟨fun _ => trivial, fun hc => (gn hc)⟩, ?_⟩
              refine ⟨by kernel_rfl, ?_⟩
              refine (Tri.cond ⟨fun h6 => ?_, fun h6 => ?_⟩)
              · exact absurd ((three_f G7' G8).symm.trans h6) (by simp)
              · refine (Tri.skip ?_)
                exact ⟨trivial, Le.weak rfl rfl rfl rfl ⟨(by first | rfl | exact iv1 (by (try simp only [decide_eq_true_eq, decide_eq_false_iff_not, toNat_cast] at *); omega)), (by first | rfl | exact iv1 (by (try simp only [decide_eq_true_eq, decide_eq_false_iff_not, toNat_cast] at *); omega)), (by first | rfl | exact iv1 (by (try simp only [decide_eq_true_eq, decide_eq_false_iff_not, toNat_cast] at *); omega)), trivial⟩ trivial⟩
            · refine (Tri.skip ?_)
              exact ⟨trivial, Le.weak rfl rfl rfl rfl ⟨(by first | rfl | exact iv1 (by (try simp only [decide_eq_true_eq, decide_eq_false_iff_not, toNat_cast] at *); omega)), (by first | rfl | exact iv1 (by (try simp only [decide_eq_true_eq, decide_eq_false_iff_not, toNat_cast] at *); omega)), (by first | rfl | exact iv1 (by (try simp only [decide_eq_true_eq, decide_eq_false_iff_not, toNat_cast] at *); omega)), trivial⟩ trivial⟩
          · refine Tri.seq ?_
            refine Tri.seq (Tri.reg hT ?_)
            refine ⟨_, [], trivial, rfl, rfl, fun h => ⟨rfl, rfl, rfl⟩, ?_⟩
            refine ⟨_, [], trivial, rfl, rfl, fun h => ⟨h, rfl, rfl, rfl⟩, ?_⟩
            refine ⟨⟨fun hc => hc, fun _ => trivial⟩, ?_⟩
            refine (Tri.cond ⟨fun h7 => ?_, fun h7 => ?_⟩)
            · refine Tri.seq (Tri.reg hT ?_)
              refine Tri.ret ?_
              exact ⟨rfl, trivial⟩
            · refine (Tri.skip ?_)
              refine Tri.seq ?_
              refine Tri.seq (Tri.reg hT ?_)
              refine (Tri.block ?_)
              refine (Tri.loop (ι := Nat) (fun i => ⟨176, 0, 0, [(0, .list pT l), (7, .list pT x), (12, .int .i64 (i : Int))], [], []⟩) (fun i => i ≤ l.length) (fun i => l.length - i) (0) ?_ ?_ ?_)
              · exact Nat.zero_le _
              · exact Le.weak rfl rfl rfl rfl ⟨(by first | rfl | exact iv1 (by (try simp only [decide_eq_true_eq, decide_eq_false_iff_not, toNat_cast] at *); omega)), (by first | rfl | exact iv1 (by (try simp only [decide_eq_true_eq, decide_eq_false_iff_not, toNat_cast] at *); omega)), (by first | rfl | exact iv1 (by (try simp only [decide_eq_true_eq, decide_eq_false_iff_not, toNat_cast] at *); omega)), trivial⟩ trivial
              · intro i hi
                refine Tri.seq ?_
                refine Tri.seq (Tri.reg hT ?_)
                refine (Tri.cond ⟨fun h8 => ?_, fun h8 => ?_⟩)
                · refine (Tri.skip ?_)
                  refine Tri.seq (Tri.block ?_)
                  have hi' := i_lt h8; have hpol : pol = 5 ∨ pol = 1 := (by simp only [Bool.if_false_right, Bool.decide_eq_true, Bool.and_eq_false_iff, decide_eq_false_iff_not, ne_eq, Classical.not_not] at h7; exact h7); have K := G9 hpol _ (getD_mem (d := Ty.dflt pT) hi'); have K1 : (l.getD i (Ty.dflt pT)).2.1.length ≤ (takeF x (l.getD i (Ty.dflt pT)).1).1.length := K.1
                  refine Tri.seq (Tri.reg hT ?_)
                  refine ⟨(by first | ((try simp only [decide_eq_true_eq, decide_eq_false_iff_not, toNat_cast] at *); omega) | decide), ?_⟩
                  refine .inl (.inl ⟨_, fun _ => rfl, f19_spec x (l.getD i (Ty.dflt pT)).1 (by omega) (valid_inB G1) (by omega), ?_⟩)
                  refine Tri.seq (Tri.drw hT hm 25 (by kernel_rfl) ?_)
                  refine ⟨(by first | ((try simp only [decide_eq_true_eq, decide_eq_false_iff_not, toNat_cast] at *); omega) | decide), ?_⟩
                  refine ⟨_, [], trivial, rfl, rfl, fun h => ⟨rfl, rfl, rfl⟩, ?_⟩
                  refine ⟨_, [], trivial, rfl, rfl, fun h => ⟨rfl, rfl, rfl⟩, ?_⟩
                  refine ⟨_, [], trivial, rfl, rfl, fun h => ⟨rfl, rfl, rfl⟩, ?_⟩
                  refine ⟨_, [], trivial, rfl, rfl, fun h => ⟨h, h, (by first | ((try simp only [decide_eq_true_eq, decide_eq_false_iff_not, toNat_cast] at *); omega) | decide), rfl, rfl, rfl⟩, ?_⟩
                  refine ⟨_, [], trivial, rfl, rfl, fun h => ⟨h, rfl, rfl, rfl⟩, ?_⟩
                  refine ⟨_, [], trivial, rfl, rfl, fun h => ⟨h, rfl, rfl, rfl⟩, ?_⟩
                  refine ⟨_, [], trivial, rfl, rfl, fun h => ⟨h, rfl, rfl, rfl⟩, ?_⟩
                  refine ⟨_, [], trivial, rfl, rfl, fun h => ⟨h, h, by rw [toNat_cast]; omega, rfl, rfl, rfl⟩, ?_⟩
                  refine ⟨_, [], trivial, rfl, rfl, fun h => ⟨rfl, rfl, rfl⟩, ?_⟩
                  refine ⟨_, [], trivial, rfl, rfl, fun h => ⟨rfl, rfl, rfl⟩, ?_⟩
                  refine ⟨_, [], trivial, rfl, rfl, fun h => ⟨h, h, (by first | ((try simp only [decide_eq_true_eq, decide_eq_false_iff_not, toNat_cast] at *); omega) | decide), rfl, rfl, rfl⟩, ?_⟩
                  refine ⟨_, [], trivial, rfl, rfl, fun h => ⟨h, rfl, rfl, rfl⟩, ?_⟩
                  refine ⟨_, [], trivial, rfl, rfl, fun h => ⟨h, rfl, rfl, rfl⟩, ?_⟩
                  refine ⟨_, [], trivial, rfl, rfl, fun h => ⟨h, h, rfl, rfl, rfl⟩, ?_⟩
                  refine ⟨⟨fun _ => trivial, fun hc => (gn hc)⟩, ?_⟩
                  refine ⟨by kernel_rfl, ?_⟩
                  refine (Tri.cond ⟨fun h9 => ?_, fun h9 => ?_⟩)
                  · exact absurd ((two_f K1 K.2).symm.trans h9) (by simp)
                  · refine (Tri.skip ?_)
                    refine (Tri.reg hT ?_)
                    exact ⟨i + 1, hi', by (try simp only [decide_eq_true_eq, decide_eq_false_iff_not, toNat_cast] at *); omega, Le.weak rfl rfl rfl rfl ⟨(by first | rfl | exact iv1 (by (try simp only [decide_eq_true_eq, decide_eq_false_iff_not, toNat_cast] at *); omega)), (by first | rfl | exact iv1 (by (try simp only [decide_eq_true_eq, decide_eq_false_iff_not, toNat_cast] at *); omega)), (by first | rfl | exact iv1 (by (try simp only [decide_eq_true_eq, decide_eq_false_iff_not, toNat_cast] at *); omega)), trivial⟩ trivial⟩
                · refine Tri.exit ?_
                  refine Tri.seq (Tri.reg hT ?_)
                  refine Tri.ret ?_
                  exact ⟨rfl, trivial⟩
end Go.Proofs.Ytjdjgabahkcjeaa.Fx
