import Derived.Test.YtngmadndlmceoaaLxR
import Derived.Test.YtngmadndlmceoaaGLx3
set_option linter.all false
/- Contracts of chapter 04: the round trip. -/
namespace Go.Proofs.Ytngmadndlmceoaa.Fx
open Go Go.Fw Go.Ov Go.Lx
set_option maxRecDepth 8000 in
theorem f8_spec (l : List Tk) (hl : l.length ≤ 140737488355328) : PSpec P [] 8 [.list tT l] (.bool true) := by
  refine pspec_intro hT Try.func8 (by decide) rfl rfl (by kernel_rfl) rfl ?_
  refine Tri.seq (Tri.reg hT ?_)
  refine Tri.seq ?_
  refine Tri.seq (Tri.reg hT ?_)
  refine .inl (.inl ⟨_, fun _ => rfl, f25_spec l hl, ?_⟩)
  refine (Tri.cond ⟨fun h1 => ?_, fun h1 => ?_⟩)
  · refine Tri.seq (Tri.reg hT ?_)
    refine .inl (.inl ⟨_, fun _ => rfl, f9_spec, ?_⟩)
    refine Tri.ret ?_
    exact ⟨rfl, trivial⟩
  · refine (Tri.skip ?_)
    refine Tri.seq (Tri.reg hT ?_)
    refine .inl (.inl ⟨_, fun _ => rfl, f26_spec l h1, ?_⟩)
    refine Tri.seq ?_
    refine Tri.seq (Tri.reg hT ?_)
    refine (Tri.cond ⟨fun h2 => ?_, fun h2 => ?_⟩)
    · refine Tri.seq (Tri.reg hT ?_)
      refine .inl (.inl ⟨_, fun _ => rfl, f9_spec, ?_⟩)
      refine Tri.ret ?_
      exact ⟨rfl, trivial⟩
    · refine (Tri.skip ?_)
      have hn := notLong h1; obtain ⟨R, eR, hR⟩ : ∃ R, scanS (printS l) = (R, 0, 0) ∧ RT l R (printS l).length := ⟨_, print_read l (by have := of_decide_eq_false h2; omega), RT.mk' _ _⟩; have kS : PSpec P [] 12 [.str (printS l)] (scanAV (R, 0, 0)) := eR ▸ f12_spec (printS l); have hRl := hR.len
      refine Tri.seq (Tri.reg hT ?_)
      refine .inl (.inl ⟨_, fun _ => rfl, kS, ?_⟩)
      refine Tri.seq ?_
      refine Tri.seq (Tri.reg hT ?_)
      refine ⟨_, [], trivial, rfl, rfl, fun h => ⟨rfl, rfl, rfl⟩, ?_⟩
      refine ⟨_, [], trivial, rfl, rfl, fun h => ⟨h, rfl, rfl, rfl⟩, ?_⟩
      refine ⟨_, [], trivial, rfl, rfl, fun h => ⟨h, rfl, rfl, rfl⟩, ?_⟩
      refine ⟨⟨fun _ => trivial, fun hc => (gn hc)⟩, ?_⟩
      refine (Tri.cond ⟨fun h3 => ?_, fun h3 => ?_⟩)
      · have q : (R.length : Int) = 0 := of_decide_eq_true h3; exact absurd q (by omega)
      · refine (Tri.skip ?_)
        refine Tri.seq (Tri.reg hT ?_)
        refine Tri.seq ?_
        refine Tri.seq (Tri.reg hT ?_)
        refine (Tri.block ?_)
        refine (Tri.loop (ι := Nat) (fun i => ⟨119, 0, 60, [(0, .list tT l), (3, .str (printS l)), (4, .list tT R), (7, .int .i64 (kOf l i : Int)), (8, .int .i64 (i : Int))], [], []⟩) (fun i => i ≤ l.length) (fun i => l.length - i) (0) ?_ ?_ ?_)
        · exact Nat.zero_le _
        · exact Le.weak rfl rfl rfl rfl ⟨(by first | rfl | exact iv1 (by (try simp only [decide_eq_true_eq, decide_eq_false_iff_not, toNat_cast] at *); omega)), (by first | rfl | exact iv1 (by (try simp only [decide_eq_true_eq, decide_eq_false_iff_not, toNat_cast] at *); omega)), (by first | rfl | exact iv1 (by (try simp only [decide_eq_true_eq, decide_eq_false_iff_not, toNat_cast] at *); omega)), (by first | rfl | exact iv1 (by (try simp only [decide_eq_true_eq, decide_eq_false_iff_not, toNat_cast] at *); omega)), (by first | rfl | exact iv1 (by (try simp only [decide_eq_true_eq, decide_eq_false_iff_not, toNat_cast] at *); omega)), trivial⟩ trivial
        · intro i hi
          refine Tri.seq ?_
          refine Tri.seq (Tri.reg hT ?_)
          refine (Tri.cond ⟨fun h4 => ?_, fun h4 => ?_⟩)
          · refine (Tri.skip ?_)
            refine Tri.seq (Tri.block ?_)
            refine Tri.seq ?_
            have hlt : i < l.length := i_lt h4; have w1 : IntKind.i64.wrap ((i : Int) + 1) = ((i + 1 : Nat) : Int) := (by rw [wrapId (by omega)]; omega); have hkl := kOf_le l i; have hkn := kOf_next hlt
            refine Tri.le (⟨119, 0, 80, [(0, .list tT l), (3, .str (printS l)), (4, .list tT R), (7, .int .i64 (kOf l i : Int)), (8, .int .i64 (i : Int))], [], []⟩) (Le.weak rfl rfl rfl rfl ⟨(by first | rfl | exact iv1 (by (try simp only [decide_eq_true_eq, decide_eq_false_iff_not, toNat_cast] at *); omega)), (by first | rfl | exact iv1 (by (try simp only [decide_eq_true_eq, decide_eq_false_iff_not, toNat_cast] at *); omega)), (by first | rfl | exact iv1 (by (try simp only [decide_eq_true_eq, decide_eq_false_iff_not, toNat_cast] at *); omega)), (by first | rfl | exact iv1 (by (try simp only [decide_eq_true_eq, decide_eq_false_iff_not, toNat_cast] at *); omega)), (by first | rfl | exact iv1 (by (try simp only [decide_eq_true_eq, decide_eq_false_iff_not, toNat_cast] at *); omega)), trivial⟩ trivial) ?_
            refine Tri.seq (Tri.reg hT ?_)
            refine ⟨(by first | ((try simp only [decide_eq_true_eq, decide_eq_false_iff_not, toNat_cast] at *); omega) | decide), ?_⟩
            refine .inl (.inl ⟨_, fun _ => rfl, f28_spec _ (by rw [toNat_cast]; have := hn.2 i hlt; omega), ?_⟩)
            refine (Tri.cond ⟨fun h5 => ?_, fun h5 => ?_⟩)
            · refine Tri.exit ?_
              refine (Tri.reg hT ?_)
              rw [toNat_cast] at h5; rw [if_neg (by simpa using h5), Nat.add_zero] at hkn
              exact ⟨i + 1, hlt, (by omega), Le.weak rfl rfl rfl rfl ⟨(by first | rfl | exact iv1 (by (try simp only [decide_eq_true_eq, decide_eq_false_iff_not, toNat_cast] at *); omega)), (by first | rfl | exact iv1 (by (try simp only [decide_eq_true_eq, decide_eq_false_iff_not, toNat_cast] at *); omega)), (by first | rfl | exact iv1 (by (try simp only [decide_eq_true_eq, decide_eq_false_iff_not, toNat_cast] at *); omega)), congrArg (fun n : Nat => AV.int .i64 (n : Int)) hkn.symm, congrArg (AV.int .i64) w1, trivial⟩ trivial⟩
            · refine (Tri.skip ?_)
              refine Tri.seq ?_
              rw [toNat_cast] at h5; have ho : okT (l.getD i (Ty.dflt tT)) = true := (by simpa using h5); rw [if_pos ho] at hkn; obtain ⟨a1, a2, a3, a4⟩ := hR.at_ i hlt ho
              refine Tri.seq (Tri.drw hT hm 48 (by kernel_rfl) ?_)
              refine ⟨_, [], trivial, rfl, rfl, fun h => ⟨rfl, rfl, rfl⟩, ?_⟩
              refine ⟨_, [], trivial, rfl, rfl, fun h => ⟨rfl, rfl, rfl⟩, ?_⟩
              refine ⟨_, [], trivial, rfl, rfl, fun h => ⟨h, h, (by first | ((try simp only [decide_eq_true_eq, decide_eq_false_iff_not, toNat_cast] at *); omega) | decide), rfl, rfl, rfl⟩, ?_⟩
              refine ⟨_, [], trivial, rfl, rfl, fun h => ⟨h, rfl, rfl, rfl⟩, ?_⟩
              refine ⟨_, [], trivial, rfl, rfl, fun h => ⟨h, rfl, rfl, rfl⟩, ?_⟩
              refine ⟨_, [], trivial, rfl, rfl, fun h => ⟨rfl, rfl, rfl⟩, ?_⟩
              refine ⟨_, [], trivial, rfl, rfl, fun h => ⟨rfl, rfl, rfl⟩, ?_⟩
              refine ⟨_, [], trivial, rfl, rfl, fun h => ⟨h, h, (by first | ((try simp only [decide_eq_true_eq, decide_eq_false_iff_not, toNat_cast] at *); omega) | decide), rfl, rfl, rfl⟩, ?_⟩
              refine ⟨_, [], trivial, rfl, rfl, fun h => ⟨h, rfl, rfl, rfl⟩, ?_⟩
              refine ⟨_, [], trivial, rfl, rfl, fun h => ⟨h, rfl, rfl, rfl⟩, ?_⟩
              refine ⟨_, [], trivial, rfl, rfl, fun h => ⟨h, h, rfl, rfl, rfl⟩, ?_⟩
              refine ⟨⟨fun _ => trivial, fun hc => (gn hc)⟩, ?_⟩
              refine ⟨_, [], trivial, rfl, rfl, fun h => ⟨rfl, rfl, rfl⟩, ?_⟩
              refine ⟨_, [], trivial, rfl, rfl, fun h => ⟨rfl, rfl, rfl⟩, ?_⟩
              refine ⟨_, [], trivial, rfl, rfl, fun h => ⟨h, h, (by first | ((try simp only [decide_eq_true_eq, decide_eq_false_iff_not, toNat_cast] at *); omega) | decide), rfl, rfl, rfl⟩, ?_⟩
              refine ⟨_, [], trivial, rfl, rfl, fun h => ⟨h, rfl, rfl, rfl⟩, ?_⟩
              refine ⟨_, [], trivial, rfl, rfl, fun h => ⟨h, rfl, rfl, rfl⟩, ?_⟩
              refine ⟨_, [], trivial, rfl, rfl, fun h => ⟨rfl, rfl, rfl⟩, ?_⟩
              refine ⟨_, [], trivial, rfl, rfl, fun h => ⟨rfl, rfl, rfl⟩, ?_⟩
              refine ⟨_, [], trivial, rfl, rfl, fun h => ⟨h, h, (by first | ((try simp only [decide_eq_true_eq, decide_eq_false_iff_not, toNat_cast] at *); omega) | decide), rfl, rfl, rfl⟩, ?_⟩
              refine ⟨_, [], trivial, rfl, rfl, fun h => ⟨h, rfl, rfl, rfl⟩, ?_⟩
              refine ⟨_, [], trivial, rfl, rfl, fun h => ⟨h, rfl, rfl, rfl⟩, ?_⟩
              refine ⟨_, [], trivial, rfl, rfl, fun h => ⟨h, h, rfl, rfl, rfl⟩, ?_⟩
              refine ⟨⟨fun _ => trivial, fun hc => (gn hc)⟩, ?_⟩
              refine ⟨_, [], trivial, rfl, rfl, fun h => ⟨rfl, rfl, rfl⟩, ?_⟩
              refine ⟨_, [], trivial, rfl, rfl, fun h => ⟨h, rfl, rfl, rfl⟩, ?_⟩
              refine ⟨_, [], trivial, rfl, rfl, fun h => ⟨h, rfl, rfl, rfl⟩, ?_⟩
              refine ⟨_, [], trivial, rfl, rfl, fun h => ⟨rfl, rfl, rfl⟩, ?_⟩
              refine ⟨_, [], trivial, rfl, rfl, fun h => ⟨rfl, rfl, rfl⟩, ?_⟩
              refine ⟨_, [], trivial, rfl, rfl, fun h => ⟨h, h, (by first | ((try simp only [decide_eq_true_eq, decide_eq_false_iff_not, toNat_cast] at *); omega) | decide), rfl, rfl, rfl⟩, ?_⟩
              refine ⟨_, [], trivial, rfl, rfl, fun h => ⟨h, rfl, rfl, rfl⟩, ?_⟩
              refine ⟨_, [], trivial, rfl, rfl, fun h => ⟨h, rfl, rfl, rfl⟩, ?_⟩
              refine ⟨_, [], trivial, rfl, rfl, fun h => ⟨rfl, rfl, rfl⟩, ?_⟩
              refine ⟨_, [], trivial, rfl, rfl, fun h => ⟨rfl, rfl, rfl⟩, ?_⟩
              refine ⟨_, [], trivial, rfl, rfl, fun h => ⟨h, rfl, rfl, rfl⟩, ?_⟩
              refine ⟨_, [], trivial, rfl, rfl, fun h => ⟨h, h, by have := of_decide_eq_true (show decide ((kOf l i : Int) > 0) = true from (Bool.and_eq_true_iff.1 h).2); rw [wrapId (by omega)]; omega, rfl, rfl, rfl⟩, ?_⟩
              refine ⟨_, [], trivial, rfl, rfl, fun h => ⟨h, rfl, rfl, rfl⟩, ?_⟩
              refine ⟨_, [], trivial, rfl, rfl, fun h => ⟨h, rfl, rfl, rfl⟩, ?_⟩
              refine ⟨_, [], trivial, rfl, rfl, fun h => ⟨h, h, rfl, rfl, rfl⟩, ?_⟩
              refine ⟨_, [], trivial, rfl, rfl, fun h => ⟨h, ⟨fun hc => ga h hc, fun _ => trivial⟩, rfl, rfl, rfl⟩, ?_⟩
              refine ⟨⟨fun _ => trivial, fun hc => (gn hc)⟩, ?_⟩
              refine ⟨by kernel_rfl, ?_⟩
              refine (Tri.cond ⟨fun h6 => ?_, fun h6 => ?_⟩)
              · exfalso; have q1 : decide ((kOf l i : Int) ≥ (R.length : Int)) = false := decide_eq_false (by omega); simp only [toNat_cast, a2, a3, q1, ne_eq, not_true_eq_false, decide_false, if_false, Bool.false_eq_true] at h6; by_cases hk0 : 0 < kOf l i; rw [decide_eq_true (show (kOf l i : Int) > 0 by omega), if_pos rfl, show IntKind.i64.wrap ((kOf l i : Int) - 1) = ((kOf l i - 1 : Nat) : Int) by rw [wrapId (by omega)]; omega, toNat_cast] at h6; have h7 := of_decide_eq_true h6; have := a4 hk0; omega; rw [decide_eq_false (show ¬ (kOf l i : Int) > 0 by omega)] at h6; cases h6
              · refine (Tri.skip ?_)
                refine (Tri.reg hT ?_)
                refine (Tri.reg hT ?_)
                exact ⟨i + 1, hlt, (by omega), Le.weak rfl rfl rfl rfl ⟨(by first | rfl | exact iv1 (by (try simp only [decide_eq_true_eq, decide_eq_false_iff_not, toNat_cast] at *); omega)), (by first | rfl | exact iv1 (by (try simp only [decide_eq_true_eq, decide_eq_false_iff_not, toNat_cast] at *); omega)), (by first | rfl | exact iv1 (by (try simp only [decide_eq_true_eq, decide_eq_false_iff_not, toNat_cast] at *); omega)), congrArg (AV.int .i64) (by rw [hkn, wrapId (by omega)]; omega), congrArg (AV.int .i64) w1, trivial⟩ trivial⟩
          · refine Tri.exit ?_
            have hN : i = l.length := (by have := of_decide_eq_false h4; omega); subst hN; have hkl := kOf_le l l.length; have hke := kOf_end l; rw [hke]; have hlast := hR.last; have wR : IntKind.i64.wrap ((R.length : Int) - 1) = (((l.filter okT).length : Nat) : Int) := (by rw [wrapId (by omega)]; omega)
            refine Tri.seq (Tri.reg hT ?_)
            refine ⟨_, [], trivial, rfl, rfl, fun h => ⟨rfl, rfl, rfl⟩, ?_⟩
            refine ⟨_, [], trivial, rfl, rfl, fun h => ⟨rfl, rfl, rfl⟩, ?_⟩
            refine ⟨_, [], trivial, rfl, rfl, fun h => ⟨h, h, (by first | ((try simp only [decide_eq_true_eq, decide_eq_false_iff_not, toNat_cast] at *); omega) | decide), rfl, rfl, rfl⟩, ?_⟩
            refine ⟨_, [], trivial, rfl, rfl, fun h => ⟨h, rfl, rfl, rfl⟩, ?_⟩
            refine ⟨_, [], trivial, rfl, rfl, fun h => ⟨h, rfl, rfl, rfl⟩, ?_⟩
            refine ⟨_, [], trivial, rfl, rfl, fun h => ⟨h, rfl, rfl, rfl⟩, ?_⟩
            refine ⟨⟨fun hc => hc, fun _ => trivial⟩, ?_⟩
            refine ⟨_, [], trivial, rfl, rfl, fun h => ⟨rfl, rfl, rfl⟩, ?_⟩
            refine ⟨_, [], trivial, rfl, rfl, fun h => ⟨rfl, rfl, rfl⟩, ?_⟩
            refine ⟨_, [], trivial, rfl, rfl, fun h => ⟨h, h, (by first | ((try simp only [decide_eq_true_eq, decide_eq_false_iff_not, toNat_cast] at *); omega) | decide), rfl, rfl, rfl⟩, ?_⟩
            refine ⟨_, [], trivial, rfl, rfl, fun h => ⟨h, rfl, rfl, rfl⟩, ?_⟩
            refine ⟨_, [], trivial, rfl, rfl, fun h => ⟨h, rfl, rfl, rfl⟩, ?_⟩
            refine ⟨_, [], trivial, rfl, rfl, fun h => ⟨rfl, rfl, rfl⟩, ?_⟩
            refine ⟨_, [], trivial, rfl, rfl, fun h => ⟨h, rfl, rfl, rfl⟩, ?_⟩
            refine ⟨_, [], trivial, rfl, rfl, fun h => ⟨h, h, rfl, rfl, rfl⟩, ?_⟩
            refine ⟨⟨fun hc => hc, fun _ => trivial⟩, ?_⟩
            refine ⟨_, [], trivial, rfl, rfl, fun h => (.inl ⟨_, fun _ => rfl, f9_spec, rfl, rfl, rfl⟩), ?_⟩
            refine ⟨⟨fun hc => hc, fun _ => trivial⟩, ?_⟩
            refine Tri.ret ?_
            exact ⟨congrArg AV.bool (by rw [wR, toNat_cast, hlast]; simp), trivial⟩
end Go.Proofs.Ytngmadndlmceoaa.Fx
