import Derived.Test.YtngmadndlmceoaaFxT
import Derived.Test.YtngmadndlmceoaaGLx1
set_option linter.all false
/- Contracts of chapter 04: kinds of characters, while. -/
namespace Go.Proofs.Ytngmadndlmceoaa.Fx
open Go Go.Fw Go.Ov Go.Lx
theorem f36_spec (c : Int) (hc : 0 ≤ c ∧ c < 256) : PSpec P [] 36 [.int .u8 c] (.int .i64 (classC c)) := by
  have w : IntKind.i32.wrap c = c := by
    have e : (2:Int)^32 = 4294967296 := by decide
    have e2 : (2:Int)^31 = 2147483648 := by decide
    unfold IntKind.wrap
    simp only [IntKind.signed, IntKind.bits]
    first
      | (simp only [e, e2]; split <;> omega)
      | (simp [e, e2]; omega)
  refine pspec_intro hT Try.func36 (by decide) rfl rfl (by kernel_rfl) rfl ?_
  refine Tri.seq (Tri.reg hT ?_)
  refine Tri.seq ?_
  refine Tri.seq (Tri.reg hT ?_)
  refine (Tri.block ?_)
  refine Tri.seq (Tri.reg hT ?_)
  refine ⟨_, [], trivial, rfl, rfl, fun h => ⟨rfl, rfl, rfl⟩, ?_⟩
  refine ⟨_, [], trivial, rfl, rfl, fun h => ⟨h, rfl, rfl, rfl⟩, ?_⟩
  refine ⟨⟨fun _ => trivial, fun hc => (gn hc)⟩, ?_⟩
  refine ⟨_, [], trivial, rfl, rfl, fun h => ⟨rfl, rfl, rfl⟩, ?_⟩
  refine ⟨_, [], trivial, rfl, rfl, fun h => ⟨h, rfl, rfl, rfl⟩, ?_⟩
  refine ⟨⟨fun _ => trivial, fun hc => (gn hc)⟩, ?_⟩
  refine ⟨_, [], trivial, rfl, rfl, fun h => ⟨rfl, rfl, rfl⟩, ?_⟩
  refine ⟨_, [], trivial, rfl, rfl, fun h => ⟨h, rfl, rfl, rfl⟩, ?_⟩
  refine ⟨⟨fun _ => trivial, fun hc => (gn hc)⟩, ?_⟩
  refine (Tri.cond ⟨fun h1 => ?_, fun h1 => ?_⟩)
  · refine Tri.seq (Tri.reg hT ?_)
    refine Tri.ret ?_
    rw [w] at h1; simp at h1; exact ⟨congrArg (AV.int .i64) (by unfold classC isSpace isLetter isDigit isDot; simp only [decide_eq_true_eq]; (repeat' split) <;> omega), trivial⟩
  · refine Tri.seq (Tri.reg hT ?_)
    refine ⟨_, [], trivial, rfl, rfl, fun h => ⟨rfl, rfl, rfl⟩, ?_⟩
    refine ⟨_, [], trivial, rfl, rfl, fun h => ⟨h, rfl, rfl, rfl⟩, ?_⟩
    refine ⟨⟨fun hc => hc, fun _ => trivial⟩, ?_⟩
    refine ⟨_, [], trivial, rfl, rfl, fun h => ⟨rfl, rfl, rfl⟩, ?_⟩
    refine ⟨_, [], trivial, rfl, rfl, fun h => ⟨h, rfl, rfl, rfl⟩, ?_⟩
    refine ⟨_, [], trivial, rfl, rfl, fun h => ⟨h, rfl, rfl, rfl⟩, ?_⟩
    refine ⟨_, [], trivial, rfl, rfl, fun h => ⟨rfl, rfl, rfl⟩, ?_⟩
    refine ⟨_, [], trivial, rfl, rfl, fun h => ⟨h, rfl, rfl, rfl⟩, ?_⟩
    refine ⟨_, [], trivial, rfl, rfl, fun h => ⟨h, ⟨fun hc => ga h hc, fun _ => trivial⟩, rfl, rfl, rfl⟩, ?_⟩
    refine ⟨⟨fun _ => trivial, fun hc => (gn hc)⟩, ?_⟩
    refine (Tri.cond ⟨fun h2 => ?_, fun h2 => ?_⟩)
    · refine Tri.seq (Tri.reg hT ?_)
      refine Tri.ret ?_
      rw [w] at h1 h2; simp at h1 h2; exact ⟨congrArg (AV.int .i64) (by unfold classC isSpace isLetter isDigit isDot; simp only [decide_eq_true_eq]; (repeat' split) <;> omega), trivial⟩
    · refine Tri.seq (Tri.reg hT ?_)
      refine ⟨_, [], trivial, rfl, rfl, fun h => ⟨rfl, rfl, rfl⟩, ?_⟩
      refine ⟨_, [], trivial, rfl, rfl, fun h => ⟨h, rfl, rfl, rfl⟩, ?_⟩
      refine ⟨⟨fun hc => hc, fun _ => trivial⟩, ?_⟩
      refine (Tri.cond ⟨fun h3 => ?_, fun h3 => ?_⟩)
      · refine Tri.seq (Tri.reg hT ?_)
        refine Tri.ret ?_
        rw [w] at h1 h2 h3; simp at h1 h2 h3; exact ⟨congrArg (AV.int .i64) (by unfold classC isSpace isLetter isDigit isDot; simp only [decide_eq_true_eq]; (repeat' split) <;> omega), trivial⟩
      · refine Tri.seq (Tri.reg hT ?_)
        refine ⟨_, [], trivial, rfl, rfl, fun h => ⟨rfl, rfl, rfl⟩, ?_⟩
        refine ⟨_, [], trivial, rfl, rfl, fun h => ⟨h, rfl, rfl, rfl⟩, ?_⟩
        refine ⟨⟨fun _ => trivial, fun hc => (gn hc)⟩, ?_⟩
        refine ⟨_, [], trivial, rfl, rfl, fun h => ⟨rfl, rfl, rfl⟩, ?_⟩
        refine ⟨_, [], trivial, rfl, rfl, fun h => ⟨h, rfl, rfl, rfl⟩, ?_⟩
        refine ⟨⟨fun _ => trivial, fun hc => (gn hc)⟩, ?_⟩
        refine ⟨_, [], trivial, rfl, rfl, fun h => ⟨rfl, rfl, rfl⟩, ?_⟩
        refine ⟨_, [], trivial, rfl, rfl, fun h => ⟨h, rfl, rfl, rfl⟩, ?_⟩
        refine ⟨⟨fun _ => trivial, fun hc => (gn hc)⟩, ?_⟩
        refine (Tri.cond ⟨fun h4 => ?_, fun h4 => ?_⟩)
        · refine Tri.seq (Tri.reg hT ?_)
          refine Tri.ret ?_
          rw [w] at h1 h2 h3 h4; simp at h1 h2 h3 h4; exact ⟨congrArg (AV.int .i64) (by unfold classC isSpace isLetter isDigit isDot; simp only [decide_eq_true_eq]; (repeat' split) <;> omega), trivial⟩
        · refine (Tri.skip ?_)
          refine Tri.seq (Tri.reg hT ?_)
          refine Tri.ret ?_
          rw [w] at h1 h2 h3 h4; simp at h1 h2 h3 h4; exact ⟨congrArg (AV.int .i64) (by unfold classC isSpace isLetter isDigit isDot; simp only [decide_eq_true_eq]; (repeat' split) <;> omega), trivial⟩
theorem f37_spec (c : Int) : PSpec P [] 37 [.int .u8 c] (.bool (isDigit c)) := by
  refine pspec_intro hT Try.func37 (by decide) rfl rfl (by kernel_rfl) rfl ?_
  refine Tri.seq (Tri.reg hT ?_)
  refine Tri.seq (Tri.reg hT ?_)
  refine ⟨_, [], trivial, rfl, rfl, fun h => ⟨rfl, rfl, rfl⟩, ?_⟩
  refine ⟨_, [], trivial, rfl, rfl, fun h => ⟨h, rfl, rfl, rfl⟩, ?_⟩
  refine ⟨⟨fun hc => hc, fun _ => trivial⟩, ?_⟩
  refine Tri.ret ?_
  exact ⟨congrArg AV.bool (by unfold isDigit; by_cases q : 48 ≤ c <;> simp [q]), trivial⟩
theorem f47_spec (c : Int) : PSpec P [] 47 [.int .u8 c] (.bool (decide (c ≠ 10))) := by
  refine pspec_intro hT Try.func47 (by decide) rfl rfl (by kernel_rfl) rfl ?_
  refine Tri.seq (Tri.reg hT ?_)
  refine Tri.seq (Tri.reg hT ?_)
  refine Tri.ret ?_
  exact ⟨rfl, trivial⟩
theorem f38_spec (g : FuncId) (p : Int → Bool) (hg : ∀ c, 0 ≤ c ∧ c < 256 → PSpec P [] g [.int .u8 c] (.bool (p c))) (s : List UInt8) (a : Nat) (ha : a ≤ s.length) (hs : s.length ≤ 140737488351232) :
    PSpec P [] 38 [.str s, .int .i64 (a : Int), .fn g []] (.int .i64 ((whileS p s a : Nat) : Int)) := by
  refine pspec_intro hT Try.func38 (by decide) rfl rfl (by kernel_rfl) rfl ?_
  refine Tri.seq (Tri.reg hT ?_)
  refine Tri.seq (Tri.block ?_)
  refine (Tri.loop (ι := Nat) (fun i => ⟨21, 0, 0, [(0, .str s), (1, .int .i64 (i : Int)), (2, .fn g [])], [], []⟩) (fun i => i ≤ s.length ∧ whileS p s i = whileS p s a) (fun i => s.length - i) (a) ?_ ?_ ?_)
  · exact ⟨ha, rfl⟩
  · exact Le.weak rfl rfl rfl rfl ⟨(by first | rfl | exact iv1 (by (try simp only [decide_eq_true_eq, decide_eq_false_iff_not, toNat_cast] at *); omega)), (by first | rfl | exact iv1 (by (try simp only [decide_eq_true_eq, decide_eq_false_iff_not, toNat_cast] at *); omega)), (by first | rfl | exact iv1 (by (try simp only [decide_eq_true_eq, decide_eq_false_iff_not, toNat_cast] at *); omega)), trivial⟩ trivial
  · intro i hi
    refine Tri.seq ?_
    refine Tri.seq (Tri.reg hT ?_)
    refine ⟨_, [], trivial, rfl, rfl, fun h => ⟨rfl, rfl, rfl⟩, ?_⟩
    refine ⟨_, [], trivial, rfl, rfl, fun h => ⟨rfl, rfl, rfl⟩, ?_⟩
    refine ⟨_, [], trivial, rfl, rfl, fun h => ⟨rfl, rfl, rfl⟩, ?_⟩
    refine ⟨_, [], trivial, rfl, rfl, fun h => ⟨h, h, by have := of_decide_eq_true h; omega, rfl, rfl, rfl⟩, ?_⟩
    refine ⟨_, [], trivial, rfl, rfl, fun h => ⟨h, h, (.inl ⟨_, fun _ => rfl, hg (ch s i) (ch_rng s i), rfl, rfl, rfl⟩)⟩, ?_⟩
    refine ⟨⟨fun hc => hc, fun _ => trivial⟩, ?_⟩
    refine (Tri.cond ⟨fun h1 => ?_, fun h1 => ?_⟩)
    · refine (Tri.skip ?_)
      refine (Tri.block ?_)
      refine (Tri.reg hT ?_)
      have hlt : i < s.length := (by have := of_decide_eq_true (gl' h1); omega); have hp : p (ch s i) = true := gr' h1
      exact ⟨i + 1, ⟨hlt, (whileS_next hlt hp).symm.trans hi.2⟩, (by omega), Le.weak rfl rfl rfl rfl ⟨(by first | rfl | exact iv1 (by (try simp only [decide_eq_true_eq, decide_eq_false_iff_not, toNat_cast] at *); omega)), (by first | rfl | exact iv1 (by (try simp only [decide_eq_true_eq, decide_eq_false_iff_not, toNat_cast] at *); omega)), (by first | rfl | exact iv1 (by (try simp only [decide_eq_true_eq, decide_eq_false_iff_not, toNat_cast] at *); omega)), trivial⟩ trivial⟩
    · refine Tri.exit ?_
      refine Tri.seq (Tri.reg hT ?_)
      refine Tri.ret ?_
      have hn : ¬ (i < s.length ∧ p (ch s i) = true) := (by rintro ⟨q1, q2⟩; have q3 : (i : Int) < (s.length : Int) := (by omega); have q4 : decide ((i : Int) < (s.length : Int)) = true := decide_eq_true q3; rw [q4] at h1; exact absurd (h1.symm.trans q2) (by decide)); exact ⟨congrArg (fun z : Nat => AV.int .i64 (z : Int)) ((whileS_end hn).symm.trans hi.2), trivial⟩
end Go.Proofs.Ytngmadndlmceoaa.Fx
