import Derived.Test.YtjdjgabahkcjeaaPx10w
set_option linter.unusedVariables false
set_option linter.unusedSimpArgs false
namespace Go.Proofs.Ytjdjgabahkcjeaa.Pure
open Go.RowKit Go.Proofs.Ytjdjgabahkcjeaa.P Go.Proofs.YtjdjgabahkcjeaaW.PrintWords Go.Proofs.YtjdjgabahkcjeaaW.PrintLast Go.Proofs.YtjdjgabahkcjeaaW.PrintMore

/-- The example of this chapter's statements answers as the document fixes it. -/
theorem lives_f : intrusionlaw15_lives.f 40 = some true := by kernel_rfl
/-- OverlapWins: both functions compute the same Boolean. -/
theorem OverlapWins : intrusionlaw15_OverlapWins.Pure := by
  intro a0 a1 a2 h0 h1 h2
  refine ⟨40, ?_⟩
  unfold intrusionlaw15_OverlapWins.f
  have e : intrusionref15_Wins.f a0 a1.f0 a1.f1 a1.f2 a1.f3 a2.f0 a2.f1 a2.f2 a2.f3 = overlap_Wins.f a0 a1.f0 a1.f1 a1.f2 a1.f3 a2.f0 a2.f1 a2.f2 a2.f3 := rfl
  rw [e, lives_f]
  have e2 : ∃ b, overlap_Wins.f a0 a1.f0 a1.f1 a1.f2 a1.f3 a2.f0 a2.f1 a2.f2 a2.f3 = some b := by
    unfold overlap_Wins.f
    repeat' split
    all_goals exact ⟨_, rfl⟩
  obtain ⟨b, e2⟩ := e2
  rw [e2]
  simp [Option.bind]
end Go.Proofs.Ytjdjgabahkcjeaa.Pure
