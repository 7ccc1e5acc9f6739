import Derived.Test.YtngmadndlmceoaaLxH
import Derived.Test.YtngmadndlmceoaaGLx1
set_option linter.all false
/- Contracts of chapter 04: the reference's marks. -/
namespace Go.Proofs.Ytngmadndlmceoaa.Fx
open Go Go.Fw Go.Ov Go.Lx
set_option maxHeartbeats 400000 in
set_option maxRecDepth 8000 in
theorem f45_spec (s : List UInt8) (hs : s.length ≤ 140737488351232) : PSpec P [] 45 [.str s] (.str (markR s)) := by
  refine pspec_intro hT Try.func45 (by decide) rfl rfl (by kernel_rfl) rfl ?_
  refine Tri.seq (Tri.reg hT ?_)
  refine Tri.seq (Tri.reg hT ?_)
  refine Tri.seq ?_
  refine Tri.seq (Tri.reg hT ?_)
  refine (Tri.block ?_)
  refine (Tri.loop (ι := Nat) (fun i => ⟨38, 0, 40, [(0, .str s), (3, .list .str mkL), (4, .int .i64 (i : Int))], [], []⟩) (fun i => i ≤ 17 ∧ ∀ j, j < i → okM s (mkL.getD j []) = false) (fun i => 17 - i) (0) ?_ ?_ ?_)
  · exact ⟨Nat.zero_le _, fun j hj => absurd hj (Nat.not_lt_zero _)⟩
  · exact Le.trans (Le.freeze 3 _ _ rfl rfl (Nat.le_refl _)) (Le.weak rfl rfl rfl rfl ⟨(by first | rfl | exact iv1 (by (try simp only [decide_eq_true_eq, decide_eq_false_iff_not, toNat_cast] at *); omega)), (by first | rfl | exact iv1 (by (try simp only [decide_eq_true_eq, decide_eq_false_iff_not, toNat_cast] at *); omega)), (by first | rfl | exact iv1 (by (try simp only [decide_eq_true_eq, decide_eq_false_iff_not, toNat_cast] at *); omega)), trivial⟩ trivial)
  · intro i hi
    refine Tri.seq ?_
    refine Tri.seq (Tri.reg hT ?_)
    refine (Tri.cond ⟨fun h1 => ?_, fun h1 => ?_⟩)
    · refine (Tri.skip ?_)
      refine Tri.seq (Tri.block ?_)
      have hi' : i < 17 := (by have := of_decide_eq_true h1; have e : mkL.length = 17 := rfl; omega); have hil : 0 ≤ (i : Int) ∧ (i : Int) < (mkL.length : Int) := (by have e : mkL.length = 17 := rfl; omega)
      refine Tri.seq (Tri.drw hT hm 22 (by kernel_rfl) ?_)
      refine ⟨hil, ?_⟩
      refine ⟨_, [], trivial, rfl, rfl, fun h => ⟨rfl, rfl, rfl⟩, ?_⟩
      refine ⟨_, [], trivial, rfl, rfl, fun h => ⟨rfl, rfl, rfl⟩, ?_⟩
      refine ⟨_, [], trivial, rfl, rfl, fun h => ⟨rfl, rfl, rfl⟩, ?_⟩
      refine ⟨_, [], trivial, rfl, rfl, fun h => ⟨h, h, hil, rfl, rfl, rfl⟩, ?_⟩
      refine ⟨_, [], trivial, rfl, rfl, fun h => ⟨h, rfl, rfl, rfl⟩, ?_⟩
      refine ⟨_, [], trivial, rfl, rfl, fun h => ⟨h, rfl, rfl, rfl⟩, ?_⟩
      refine ⟨_, [], trivial, rfl, rfl, fun h => ⟨h, h, by have h9 := of_decide_eq_true (show decide ((s.length : Int) ≥ ((mkL.getD (i : Int).toNat []).length : Int)) = true from h); exact ⟨Int.le_refl _, Int.natCast_nonneg _, h9⟩, rfl, rfl, rfl⟩, ?_⟩
      refine ⟨_, [], trivial, rfl, rfl, fun h => ⟨rfl, rfl, rfl⟩, ?_⟩
      refine ⟨_, [], trivial, rfl, rfl, fun h => ⟨rfl, rfl, rfl⟩, ?_⟩
      refine ⟨_, [], trivial, rfl, rfl, fun h => ⟨h, h, hil, rfl, rfl, rfl⟩, ?_⟩
      refine ⟨_, [], trivial, rfl, rfl, fun h => ⟨h, rfl, rfl, rfl⟩, ?_⟩
      refine ⟨_, [], trivial, rfl, rfl, fun h => ⟨h, h, rfl, rfl, rfl⟩, ?_⟩
      refine ⟨⟨fun hc => hc, fun _ => trivial⟩, ?_⟩
      refine ⟨by kernel_rfl, ?_⟩
      refine (Tri.cond ⟨fun h2 => ?_, fun h2 => ?_⟩)
      · refine Tri.seq (Tri.reg hT ?_)
        refine ⟨hil, ?_⟩
        refine Tri.ret ?_
        have hm : okM s (mkL.getD i []) = true := (okM_eq s (mkL.getD i [])).symm.trans h2; exact ⟨congrArg AV.str (markR_at (by have e : mkL.length = 17 := rfl; omega) hm hi.2).symm, trivial⟩
      · refine (Tri.skip ?_)
        refine (Tri.reg hT ?_)
        have hm : okM s (mkL.getD i []) = false := (okM_eq s (mkL.getD i [])).symm.trans h2
        exact ⟨i + 1, ⟨by omega, fun j hj => by rcases Nat.lt_or_ge j i with h9 | h9; exact hi.2 j h9; obtain rfl : j = i := (by omega); exact hm⟩, (by omega), Le.weak rfl rfl rfl rfl ⟨(by first | rfl | exact iv1 (by (try simp only [decide_eq_true_eq, decide_eq_false_iff_not, toNat_cast] at *); omega)), (by first | rfl | exact iv1 (by (try simp only [decide_eq_true_eq, decide_eq_false_iff_not, toNat_cast] at *); omega)), (by first | rfl | exact iv1 (by (try simp only [decide_eq_true_eq, decide_eq_false_iff_not, toNat_cast] at *); omega)), trivial⟩ trivial⟩
    · refine Tri.exit ?_
      refine Tri.seq (Tri.reg hT ?_)
      refine Tri.ret ?_
      have h9 : ¬ (i : Int) < (mkL.length : Int) := of_decide_eq_false h1; exact ⟨congrArg AV.str (markR_none (fun j hj => hi.2 j (by omega))).symm, trivial⟩
end Go.Proofs.Ytngmadndlmceoaa.Fx
