import Derived.Test.YtngmadndlmceoaaLxH
import Derived.Test.YtngmadndlmceoaaGLx1
set_option linter.all false
/- Contracts of chapter 04: lists of tokens. -/
namespace Go.Proofs.Ytngmadndlmceoaa.Fx
open Go Go.Fw Go.Ov Go.Lx
theorem f15_spec (xs ys : List Tk) (hl : xs.length ≤ 140737488355328) : PSpec P [] 15 [.list tT xs, .list tT ys] (.bool (decide (xs = ys))) := by
  refine pspec_intro hT Try.func15 (by decide) rfl rfl (by kernel_rfl) rfl ?_
  refine Tri.seq (Tri.reg hT ?_)
  refine Tri.seq ?_
  refine Tri.seq (Tri.reg hT ?_)
  refine (Tri.cond ⟨fun h1 => ?_, fun h1 => ?_⟩)
  · refine Tri.seq (Tri.reg hT ?_)
    refine Tri.ret ?_
    have h1' := of_decide_eq_true h1; exact ⟨congrArg AV.bool (decide_eq_false fun e => h1' (by rw [e])).symm, trivial⟩
  · refine (Tri.skip ?_)
    refine Tri.seq ?_
    refine Tri.seq (Tri.reg hT ?_)
    refine (Tri.block ?_)
    refine (Tri.loop (ι := Nat) (fun i => ⟨26, 0, 0, [(0, .list tT xs), (1, .list tT ys), (5, .int .i64 (i : Int))], [], []⟩) (fun i => i ≤ xs.length ∧ ∀ j, j < i → xs.getD j (Ty.dflt tT) = ys.getD j (Ty.dflt tT)) (fun i => xs.length - i) (0) ?_ ?_ ?_)
    · exact ⟨Nat.zero_le _, fun j hj => by omega⟩
    · exact Le.weak rfl rfl rfl rfl ⟨(by first | rfl | exact iv1 (by (try simp only [decide_eq_true_eq, decide_eq_false_iff_not, toNat_cast] at *); omega)), (by first | rfl | exact iv1 (by (try simp only [decide_eq_true_eq, decide_eq_false_iff_not, toNat_cast] at *); omega)), (by first | rfl | exact iv1 (by (try simp only [decide_eq_true_eq, decide_eq_false_iff_not, toNat_cast] at *); omega)), trivial⟩ trivial
    · intro i hi
      refine Tri.seq ?_
      refine Tri.seq (Tri.reg hT ?_)
      refine (Tri.cond ⟨fun h2 => ?_, fun h2 => ?_⟩)
      · refine (Tri.skip ?_)
        refine Tri.seq (Tri.block ?_)
        refine Tri.seq (Tri.drw hT hm 9 (by kernel_rfl) ?_)
        refine ⟨by have := of_decide_eq_true h2; omega, ?_⟩
        refine ⟨by have := of_decide_eq_true h2; have := of_decide_eq_false h1; omega, ?_⟩
        refine ⟨by kernel_rfl, ?_⟩
        refine (Tri.cond ⟨fun h3 => ?_, fun h3 => ?_⟩)
        · refine Tri.seq (Tri.reg hT ?_)
          refine Tri.ret ?_
          rw [teq, toNat_cast] at h3; exact ⟨congrArg AV.bool (decide_eq_false fun e => by rw [e] at h3; simp at h3).symm, trivial⟩
        · refine (Tri.skip ?_)
          refine (Tri.reg hT ?_)
          have h2' := of_decide_eq_true h2; rw [teq, toNat_cast] at h3
          exact ⟨i + 1, ⟨by omega, fun j hj => by rcases Nat.lt_or_ge j i with h | h; exact hi.2 j h; obtain rfl : j = i := (by omega); simpa using h3⟩, (by omega), Le.weak rfl rfl rfl rfl ⟨(by first | rfl | exact iv1 (by (try simp only [decide_eq_true_eq, decide_eq_false_iff_not, toNat_cast] at *); omega)), (by first | rfl | exact iv1 (by (try simp only [decide_eq_true_eq, decide_eq_false_iff_not, toNat_cast] at *); omega)), (by first | rfl | exact iv1 (by (try simp only [decide_eq_true_eq, decide_eq_false_iff_not, toNat_cast] at *); omega)), trivial⟩ trivial⟩
      · refine Tri.exit ?_
        refine Tri.seq (Tri.reg hT ?_)
        refine Tri.ret ?_
        have h1' := of_decide_eq_false h1; have h2' := of_decide_eq_false h2; exact ⟨congrArg AV.bool (decide_eq_true (ext_getD (Ty.dflt tT) (by omega) (fun j hj => hi.2 j (by omega)))).symm, trivial⟩
theorem f25_spec (l : List Tk) (hl : l.length ≤ 140737488355328) : PSpec P [] 25 [.list tT l] (.bool (longT l)) := by
  refine pspec_intro hT Try.func25 (by decide) rfl rfl (by kernel_rfl) rfl ?_
  refine Tri.seq (Tri.reg hT ?_)
  refine Tri.seq ?_
  refine Tri.seq (Tri.reg hT ?_)
  refine (Tri.cond ⟨fun h1 => ?_, fun h1 => ?_⟩)
  · refine Tri.seq (Tri.reg hT ?_)
    refine Tri.ret ?_
    have h1' := of_decide_eq_true h1; exact ⟨congrArg AV.bool (by unfold longT; rw [decide_eq_true (show l.length > 40 by omega)]; rfl), trivial⟩
  · refine (Tri.skip ?_)
    refine Tri.seq ?_
    refine Tri.seq (Tri.reg hT ?_)
    refine (Tri.block ?_)
    refine (Tri.loop (ι := Nat) (fun i => ⟨20, 0, 0, [(0, .list tT l), (3, .int .i64 (i : Int))], [], []⟩) (fun i => i ≤ l.length ∧ ∀ j, j < i → (l.getD j (Ty.dflt tT)).2.1.length ≤ 300) (fun i => l.length - i) (0) ?_ ?_ ?_)
    · exact ⟨Nat.zero_le _, fun j hj => absurd hj (Nat.not_lt_zero _)⟩
    · exact Le.weak rfl rfl rfl rfl ⟨(by first | rfl | exact iv1 (by (try simp only [decide_eq_true_eq, decide_eq_false_iff_not, toNat_cast] at *); omega)), (by first | rfl | exact iv1 (by (try simp only [decide_eq_true_eq, decide_eq_false_iff_not, toNat_cast] at *); omega)), trivial⟩ trivial
    · intro i hi
      refine Tri.seq ?_
      refine Tri.seq (Tri.reg hT ?_)
      refine (Tri.cond ⟨fun h2 => ?_, fun h2 => ?_⟩)
      · refine (Tri.skip ?_)
        refine Tri.seq (Tri.block ?_)
        refine Tri.seq (Tri.reg hT ?_)
        refine ⟨by have := of_decide_eq_true h2; omega, ?_⟩
        refine (Tri.cond ⟨fun h3 => ?_, fun h3 => ?_⟩)
        · refine Tri.seq (Tri.reg hT ?_)
          refine Tri.ret ?_
          have h3' := of_decide_eq_true h3; rw [toNat_cast] at h3'; exact ⟨congrArg AV.bool (longT_at (i_lt h2) (by omega)).symm, trivial⟩
        · refine (Tri.skip ?_)
          refine (Tri.reg hT ?_)
          have h3' := of_decide_eq_false h3; rw [toNat_cast] at h3'; have hlt := i_lt h2
          exact ⟨i + 1, ⟨hlt, fun j hj => by rcases Nat.lt_or_ge j i with h9 | h9; exact hi.2 j h9; obtain rfl : j = i := (by omega); omega⟩, (by omega), Le.weak rfl rfl rfl rfl ⟨(by first | rfl | exact iv1 (by (try simp only [decide_eq_true_eq, decide_eq_false_iff_not, toNat_cast] at *); omega)), (by first | rfl | exact iv1 (by (try simp only [decide_eq_true_eq, decide_eq_false_iff_not, toNat_cast] at *); omega)), trivial⟩ trivial⟩
      · refine Tri.exit ?_
        refine Tri.seq (Tri.reg hT ?_)
        refine Tri.ret ?_
        have h1' := of_decide_eq_false h1; have h2' := of_decide_eq_false h2; exact ⟨congrArg AV.bool (longT_no (by omega) (fun j hj => hi.2 j (by omega))).symm, trivial⟩
end Go.Proofs.Ytngmadndlmceoaa.Fx
