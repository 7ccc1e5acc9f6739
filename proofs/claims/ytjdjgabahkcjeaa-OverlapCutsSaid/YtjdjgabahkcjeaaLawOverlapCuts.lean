/- Proved: for every list of pieces and every offset, the statement OverlapCuts of intrusionlaw15 returns true and does not panic. No condition beyond those of the given statement. -/
import Derived.Test.YtjdjgabahkcjeaaOvM2
import Derived.Test.YtjdjgabahkcjeaaRw
set_option linter.all false
namespace Go.Proofs.Ytjdjgabahkcjeaa
open Go Go.Fw Go.Proofs.Ytjdjgabahkcjeaa.Fx

abbrev argsOverlapCuts : List (Bool × Ty) := [(false, (.list (.cons (.int .i64) (.cons .str (.cons (.int .i64) (.cons (.int .i64) .nil)))))), (false, (.int .i64))]
theorem liftedOverlapCuts (os : Os) (started : os.Started) (H : Type) (enc : TypeId × Value → H) :
    ReturnsInHanded {} Try.checked os 8 .any (Rows.overlapCutsSpec.pre6 enc Try.prog Try.f8 Rows.overlapCutsRow.domain false) (Rows.overlapCutsSpec.post enc Try.prog Try.f8 false true false false) := by
  refine returnsInHanded_of_change_sized (C := Try.checked) own started (by kernel_rfl) Try.func8
    (ChangeSpec.witness6 (enc := enc) (C := Try.checked) false ⟨#[], #[.slice none 0 0, .int .i64 0], []⟩ 8 (by kernel_rfl) (by kernel_rfl) (by kernel_rfl) (by kernel_rfl)) ?_
  intro W base args ds gs before hval hW _ hsz _
  refine law_calls (l := argsOverlapCuts) (tb := 4) laidOut (by kernel_rfl) rfl Try.underlying4 rfl (fun ds h => by match ds, h with | [_, _], _ => exact ⟨rfl, rfl, rfl⟩) ?_ hval hW hsz glOK_nil
  rintro ⟨l, a, _⟩ ⟨hl, _, _⟩
  exact f8_spec l a (Nat.le_trans hl.1 (by decide))
theorem overlapCuts_row : Rows.OverlapCutsSaid :=
  OpenClaim.holds_of_wide 8 Try.f8 rfl rfl rfl rfl rfl rfl rfl ⟨rfl, rfl, rfl, rfl, rfl⟩ rfl rfl rfl rfl rfl (by kernel_rfl) Try.func8 (by kernel_rfl)
    (of_decide_eq_true (by kernel_rfl)) (by unfold Func.isWrapper; first | (rw [if_pos (by decide +kernel)]; kernel_rfl) | (rw [if_neg (by decide +kernel)]; exact ⟨rfl, rfl⟩))
    (fun os started H enc _ => liftedOverlapCuts os started H enc)
theorem overlapCuts_holds : Rows.OverlapCutsSaid := overlapCuts_row
#print axioms overlapCuts_holds
end Go.Proofs.Ytjdjgabahkcjeaa
