import Derived.Test.YtngmadndlmceoaaLxC
import Derived.Test.YtngmadndlmceoaaGLx1
set_option linter.all false
/- Contracts of chapter 04: where tokens begin. -/
namespace Go.Proofs.Ytngmadndlmceoaa.Fx
open Go Go.Fw Go.Ov Go.Lx
theorem f31_spec (s : List UInt8) (a : Nat) (ha : a ≤ s.length) (hs : s.length ≤ 140737488351232) : PSpec P [] 31 [.str s, .int .i64 (a : Int)] (.int .i64 ((skipS s a : Nat) : Int)) := by
  refine pspec_intro hT Try.func31 (by decide) rfl rfl (by kernel_rfl) rfl ?_
  refine Tri.seq (Tri.reg hT ?_)
  refine Tri.seq (Tri.block ?_)
  refine (Tri.loop (ι := Nat) (fun i => ⟨27, 0, 0, [(0, .str s), (1, .int .i64 (i : Int))], [], []⟩) (fun i => i ≤ s.length ∧ skipS s i = skipS s a) (fun i => s.length - i) (a) ?_ ?_ ?_)
  · exact ⟨ha, rfl⟩
  · exact Le.weak rfl rfl rfl rfl ⟨(by first | rfl | exact iv1 (by (try simp only [decide_eq_true_eq, decide_eq_false_iff_not, toNat_cast] at *); omega)), (by first | rfl | exact iv1 (by (try simp only [decide_eq_true_eq, decide_eq_false_iff_not, toNat_cast] at *); omega)), trivial⟩ trivial
  · intro i hi
    refine Tri.seq ?_
    refine Tri.seq (Tri.reg hT ?_)
    refine (Tri.cond ⟨fun h1 => ?_, fun h1 => ?_⟩)
    · refine (Tri.skip ?_)
      refine (Tri.block ?_)
      refine (Tri.block ?_)
      have hlt := i_lt h1; have hsk := skipS_eq hlt
      refine Tri.seq (Tri.reg hT ?_)
      refine ⟨by have := of_decide_eq_true h1; omega, ?_⟩
      refine .inl (.inl ⟨_, fun _ => rfl, f36_spec (ch s i) (ch_rng s i), ?_⟩)
      refine (Tri.cond ⟨fun h2 => ?_, fun h2 => ?_⟩)
      · refine (Tri.reg hT ?_)
        have hsp : isSpace (ch s i) = true := (class1 _).mp (of_decide_eq_true h2); rw [if_pos hsp] at hsk
        exact ⟨i + 1, ⟨hlt, hsk.symm.trans hi.2⟩, (by omega), Le.weak rfl rfl rfl rfl ⟨(by first | rfl | exact iv1 (by (try simp only [decide_eq_true_eq, decide_eq_false_iff_not, toNat_cast] at *); omega)), (by first | rfl | exact iv1 (by (try simp only [decide_eq_true_eq, decide_eq_false_iff_not, toNat_cast] at *); omega)), trivial⟩ trivial⟩
      · refine Tri.seq (Tri.reg hT ?_)
        refine ⟨by omega, ?_⟩
        refine (Tri.cond ⟨fun h3 => ?_, fun h3 => ?_⟩)
        · have hsp : ¬ isSpace (ch s i) = true := fun h => of_decide_eq_false h2 ((class1 _).mpr h); rw [if_neg hsp] at hsk; have hc : ch s i = 35 := of_decide_eq_true h3; have hw := while_com hlt hc; rw [if_pos hc] at hsk
          refine (Tri.reg hT ?_)
          refine .inl (.inl ⟨_, fun _ => rfl, f38_spec 47 noNl (fun c _ => f47_spec c) s i (by omega) hs, ?_⟩)
          exact ⟨whileS noNl s i, ⟨hw.2, hsk.symm.trans hi.2⟩, (by omega), Le.weak rfl rfl rfl rfl ⟨(by first | rfl | exact iv1 (by (try simp only [decide_eq_true_eq, decide_eq_false_iff_not, toNat_cast] at *); omega)), (by first | rfl | exact iv1 (by (try simp only [decide_eq_true_eq, decide_eq_false_iff_not, toNat_cast] at *); omega)), trivial⟩ trivial⟩
        · refine Tri.seq (Tri.reg hT ?_)
          refine Tri.ret ?_
          have hsp : ¬ isSpace (ch s i) = true := fun h => of_decide_eq_false h2 ((class1 _).mpr h); have hc : ¬ ch s i = 35 := of_decide_eq_false h3; rw [if_neg hsp, if_neg hc] at hsk; exact ⟨congrArg (fun z : Nat => AV.int .i64 (z : Int)) (hsk.symm.trans hi.2), trivial⟩
    · refine Tri.exit ?_
      refine Tri.seq (Tri.reg hT ?_)
      refine Tri.ret ?_
      have h9 := of_decide_eq_false h1; have hsk := skipS_end (s := s) (a := i) (by omega); exact ⟨congrArg (fun z : Nat => AV.int .i64 (z : Int)) (hsk.symm.trans hi.2), trivial⟩
theorem f33_spec (s : List UInt8) (a : Nat) (ha : a ≤ s.length) (hs : s.length ≤ 140737488351232) : PSpec P [] 33 [.str s, .int .i64 (a : Int)] (.int .i64 ((skipS s a : Nat) : Int)) := by
  refine pspec_intro hT Try.func33 (by decide) rfl rfl (by kernel_rfl) rfl ?_
  refine Tri.seq (Tri.reg hT ?_)
  refine Tri.seq (Tri.block ?_)
  refine (Tri.loop (ι := Nat) (fun i => ⟨45, 0, 0, [(0, .str s), (1, .int .i64 (i : Int))], [], []⟩) (fun i => i ≤ s.length ∧ skipS s i = skipS s a) (fun i => s.length - i) (a) ?_ ?_ ?_)
  · exact ⟨ha, rfl⟩
  · exact Le.weak rfl rfl rfl rfl ⟨(by first | rfl | exact iv1 (by (try simp only [decide_eq_true_eq, decide_eq_false_iff_not, toNat_cast] at *); omega)), (by first | rfl | exact iv1 (by (try simp only [decide_eq_true_eq, decide_eq_false_iff_not, toNat_cast] at *); omega)), trivial⟩ trivial
  · intro i hi
    refine Tri.seq ?_
    refine Tri.seq (Tri.reg hT ?_)
    refine (Tri.cond ⟨fun h1 => ?_, fun h1 => ?_⟩)
    · refine (Tri.skip ?_)
      refine (Tri.block ?_)
      have hlt := i_lt h1; have hsk := skipS_eq hlt
      refine Tri.seq (Tri.reg hT ?_)
      refine ⟨by have := of_decide_eq_true h1; omega, ?_⟩
      refine Tri.seq ?_
      refine Tri.seq (Tri.reg hT ?_)
      refine (Tri.cond ⟨fun h2 => ?_, fun h2 => ?_⟩)
      · refine Tri.seq (Tri.block ?_)
        refine (Tri.loop (ι := Nat) (fun j => ⟨45, 0, 0, [(0, .str s), (1, .int .i64 (j : Int))], [], []⟩) (fun j => i ≤ j ∧ j ≤ s.length ∧ whileS noNl s j = whileS noNl s i) (fun j => s.length - j) (i) ?_ ?_ ?_)
        · exact ⟨Nat.le_refl _, by omega, rfl⟩
        · exact Le.weak rfl rfl rfl rfl ⟨(by first | rfl | exact iv1 (by (try simp only [decide_eq_true_eq, decide_eq_false_iff_not, toNat_cast] at *); omega)), (by first | rfl | exact iv1 (by (try simp only [decide_eq_true_eq, decide_eq_false_iff_not, toNat_cast] at *); omega)), trivial⟩ trivial
        · intro j hj
          refine Tri.seq ?_
          refine Tri.seq (Tri.reg hT ?_)
          refine ⟨_, [], trivial, rfl, rfl, fun h => ⟨rfl, rfl, rfl⟩, ?_⟩
          refine ⟨_, [], trivial, rfl, rfl, fun h => ⟨rfl, rfl, rfl⟩, ?_⟩
          refine ⟨_, [], trivial, rfl, rfl, fun h => ⟨h, h, by have := of_decide_eq_true h; omega, rfl, rfl, rfl⟩, ?_⟩
          refine ⟨_, [], trivial, rfl, rfl, fun h => ⟨h, rfl, rfl, rfl⟩, ?_⟩
          refine ⟨⟨fun hc => hc, fun _ => trivial⟩, ?_⟩
          refine (Tri.cond ⟨fun h3 => ?_, fun h3 => ?_⟩)
          · refine (Tri.skip ?_)
            refine (Tri.block ?_)
            refine (Tri.reg hT ?_)
            have h3' : j < s.length := (by have := of_decide_eq_true (gl' h3); omega); have hp : noNl (ch s j) = true := gr' h3
            exact ⟨j + 1, ⟨by omega, h3', (whileS_next h3' hp).symm.trans hj.2.2⟩, (by omega), Le.weak rfl rfl rfl rfl ⟨(by first | rfl | exact iv1 (by (try simp only [decide_eq_true_eq, decide_eq_false_iff_not, toNat_cast] at *); omega)), (by first | rfl | exact iv1 (by (try simp only [decide_eq_true_eq, decide_eq_false_iff_not, toNat_cast] at *); omega)), trivial⟩ trivial⟩
          · refine Tri.exit ?_
            refine Tri.exit ?_
            have hc : ch s i = 35 := of_decide_eq_true h2; have hsp : ¬ isSpace (ch s i) = true := (by rw [hc]; decide); rw [if_neg hsp, if_pos hc] at hsk; have hw := while_com hlt hc; have hn : ¬ (j < s.length ∧ noNl (ch s j) = true) := (by rintro ⟨q1, q2⟩; have q4 : decide ((j : Int) < (s.length : Int)) = true := decide_eq_true (by omega); rw [q4] at h3; exact absurd (h3.symm.trans q2) (by decide)); have ej : whileS noNl s i = j := hj.2.2.symm.trans (whileS_end hn)
            exact ⟨j, ⟨hj.2.1, by rw [ej] at hsk; exact hsk.symm.trans hi.2⟩, (by omega), Le.weak rfl rfl rfl rfl ⟨(by first | rfl | exact iv1 (by (try simp only [decide_eq_true_eq, decide_eq_false_iff_not, toNat_cast] at *); omega)), (by first | rfl | exact iv1 (by (try simp only [decide_eq_true_eq, decide_eq_false_iff_not, toNat_cast] at *); omega)), trivial⟩ trivial⟩
      · refine (Tri.skip ?_)
        refine Tri.seq ?_
        refine Tri.seq (Tri.reg hT ?_)
        refine ⟨_, [], trivial, rfl, rfl, fun h => ⟨rfl, rfl, rfl⟩, ?_⟩
        refine ⟨_, [], trivial, rfl, rfl, fun h => ⟨h, rfl, rfl, rfl⟩, ?_⟩
        refine ⟨⟨fun hc => hc, fun _ => trivial⟩, ?_⟩
        refine ⟨_, [], trivial, rfl, rfl, fun h => ⟨rfl, rfl, rfl⟩, ?_⟩
        refine ⟨_, [], trivial, rfl, rfl, fun h => ⟨h, rfl, rfl, rfl⟩, ?_⟩
        refine ⟨⟨fun hc => hc, fun _ => trivial⟩, ?_⟩
        refine ⟨_, [], trivial, rfl, rfl, fun h => ⟨rfl, rfl, rfl⟩, ?_⟩
        refine ⟨_, [], trivial, rfl, rfl, fun h => ⟨h, rfl, rfl, rfl⟩, ?_⟩
        refine ⟨⟨fun hc => hc, fun _ => trivial⟩, ?_⟩
        refine (Tri.cond ⟨fun h4 => ?_, fun h4 => ?_⟩)
        · refine Tri.seq (Tri.reg hT ?_)
          refine Tri.ret ?_
          have hc : ¬ ch s i = 35 := of_decide_eq_false h2; have hsp : ¬ isSpace (ch s i) = true := (by change (if (if (if decide (ch s i ≠ 32) = true then decide (ch s i ≠ 9) else false) = true then decide (ch s i ≠ 10) else false) = true then decide (ch s i ≠ 13) else false) = true at h4; unfold isSpace; simp at h4 ⊢; omega); rw [if_neg hsp, if_neg hc] at hsk; exact ⟨congrArg (fun z : Nat => AV.int .i64 (z : Int)) (hsk.symm.trans hi.2), trivial⟩
        · refine (Tri.skip ?_)
          refine (Tri.reg hT ?_)
          have hsp : isSpace (ch s i) = true := (by change (if (if (if decide (ch s i ≠ 32) = true then decide (ch s i ≠ 9) else false) = true then decide (ch s i ≠ 10) else false) = true then decide (ch s i ≠ 13) else false) = false at h4; unfold isSpace; simp at h4 ⊢; omega); rw [if_pos hsp] at hsk
          exact ⟨i + 1, ⟨hlt, hsk.symm.trans hi.2⟩, (by omega), Le.weak rfl rfl rfl rfl ⟨(by first | rfl | exact iv1 (by (try simp only [decide_eq_true_eq, decide_eq_false_iff_not, toNat_cast] at *); omega)), (by first | rfl | exact iv1 (by (try simp only [decide_eq_true_eq, decide_eq_false_iff_not, toNat_cast] at *); omega)), trivial⟩ trivial⟩
    · refine Tri.exit ?_
      refine Tri.seq (Tri.reg hT ?_)
      refine Tri.ret ?_
      have h9 := of_decide_eq_false h1; have hsk := skipS_end (s := s) (a := i) (by omega); exact ⟨congrArg (fun z : Nat => AV.int .i64 (z : Int)) (hsk.symm.trans hi.2), trivial⟩
end Go.Proofs.Ytngmadndlmceoaa.Fx
