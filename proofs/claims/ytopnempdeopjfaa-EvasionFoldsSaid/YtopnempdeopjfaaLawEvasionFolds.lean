import Derived.Test.YtopnempdeopjfaaEvP
import Derived.Test.YtopnempdeopjfaaRw
set_option linter.all false
/- Proved: for every list of pieces and every two policies, the statement EvasionFolds of intrusionlaw24 returns true and does not panic. No condition beyond those of the given statement. -/
namespace Go.Proofs.Ytopnempdeopjfaa
open Go Go.Fw Go.Proofs.Ytopnempdeopjfaa.Fx

abbrev argsEvasionFolds : List (Bool × Ty) := [(false, (.list (.cons (.int .i64) (.cons .str (.cons (.int .i64) (.cons (.int .i64) .nil)))))), (false, (.int .i64)), (false, (.int .i64))]
theorem liftedEvasionFolds (os : Os) (started : os.Started) (H : Type) (enc : TypeId × Value → H) :
    ReturnsInHanded {} Try.checked os 13 .any (Rows.evasionFoldsSpec.pre6 enc Try.prog Try.f13 Rows.evasionFoldsRow.domain false) (Rows.evasionFoldsSpec.post enc Try.prog Try.f13 false true false false) := by
  refine returnsInHanded_of_change_sized (C := Try.checked) own started (by kernel_rfl) Try.func13
    (ChangeSpec.witness6 (enc := enc) (C := Try.checked) false ⟨#[], #[.slice none 0 0, .int .i64 0, .int .i64 0], []⟩ 8 (by kernel_rfl) (by kernel_rfl) (by kernel_rfl) (by kernel_rfl)) ?_
  intro W base args ds gs before hval hW _ hsz _
  refine law_calls (l := argsEvasionFolds) (tb := 4) laidOut (by kernel_rfl) rfl Try.underlying4 rfl (fun ds h => by match ds, h with | [_, _, _], _ => exact ⟨rfl, rfl, rfl⟩) ?_ hval hW hsz glOK_nil
  rintro ⟨l, pol, oth, _⟩ ⟨hl, _⟩
  exact f13_spec l pol oth (Nat.le_trans hl.1 (by decide))
theorem evasionFolds_row : Rows.EvasionFoldsSaid :=
  OpenClaim.holds_of_wide 13 Try.f13 rfl rfl rfl rfl rfl rfl rfl ⟨rfl, rfl, rfl, rfl, rfl⟩ rfl rfl rfl rfl rfl (by kernel_rfl) Try.func13 (by kernel_rfl)
    (of_decide_eq_true (by kernel_rfl)) (by unfold Func.isWrapper; first | (rw [if_pos (by decide +kernel)]; kernel_rfl) | (rw [if_neg (by decide +kernel)]; exact ⟨rfl, rfl⟩))
    (fun os started H enc _ => liftedEvasionFolds os started H enc)
theorem evasionFolds_holds : Rows.EvasionFoldsSaid := evasionFolds_row
#print axioms evasionFolds_holds
end Go.Proofs.Ytopnempdeopjfaa
