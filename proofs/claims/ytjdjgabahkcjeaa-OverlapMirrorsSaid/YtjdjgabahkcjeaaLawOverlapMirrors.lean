/- Proved: for every two pieces, the statement OverlapMirrors of intrusionlaw15 returns true and does not panic. No condition beyond those of the given statement. -/
import Derived.Test.YtjdjgabahkcjeaaOvM4
import Derived.Test.YtjdjgabahkcjeaaRw
set_option linter.all false
namespace Go.Proofs.Ytjdjgabahkcjeaa
open Go Go.Fw Go.Proofs.Ytjdjgabahkcjeaa.Fx

abbrev argsOverlapMirrors : List (Bool × Ty) := [(true, (.cons (.int .i64) (.cons .str (.cons (.int .i64) (.cons (.int .i64) .nil))))), (true, (.cons (.int .i64) (.cons .str (.cons (.int .i64) (.cons (.int .i64) .nil)))))]
theorem liftedOverlapMirrors (os : Os) (started : os.Started) (H : Type) (enc : TypeId × Value → H) :
    ReturnsInHanded {} Try.checked os 9 .any (Rows.overlapMirrorsSpec.pre6 enc Try.prog Try.f9 Rows.overlapMirrorsRow.domain false) (Rows.overlapMirrorsSpec.post enc Try.prog Try.f9 false true false false) := by
  refine returnsInHanded_of_change_sized (C := Try.checked) own started (by kernel_rfl) Try.func9
    (ChangeSpec.witness6 (enc := enc) (C := Try.checked) false ⟨#[], #[.agg #[.int .i64 0, .string .empty, .int .i64 0, .int .i64 0], .agg #[.int .i64 0, .string .empty, .int .i64 0, .int .i64 0]], []⟩ 8 (by kernel_rfl) (by kernel_rfl) (by kernel_rfl) (by kernel_rfl)) ?_
  intro W base args ds gs before hval hW _ hsz _
  refine law_calls (l := argsOverlapMirrors) (tb := 4) laidOut (by kernel_rfl) rfl Try.underlying4 rfl (fun ds h => by match ds, h with | [_, _], _ => exact ⟨rfl, rfl, rfl⟩) ?_ hval hW hsz glOK_nil
  rintro ⟨p, q, _⟩ _
  exact f9_spec p q
theorem overlapMirrors_row : Rows.OverlapMirrorsSaid :=
  OpenClaim.holds_of_wide 9 Try.f9 rfl rfl rfl rfl rfl rfl rfl ⟨rfl, rfl, rfl, rfl, rfl⟩ rfl rfl rfl rfl rfl (by kernel_rfl) Try.func9 (by kernel_rfl)
    (of_decide_eq_true (by kernel_rfl)) (by unfold Func.isWrapper; first | (rw [if_pos (by decide +kernel)]; kernel_rfl) | (rw [if_neg (by decide +kernel)]; exact ⟨rfl, rfl⟩))
    (fun os started H enc _ => liftedOverlapMirrors os started H enc)
theorem overlapMirrors_holds : Rows.OverlapMirrorsSaid := overlapMirrors_row
#print axioms overlapMirrors_holds
end Go.Proofs.Ytjdjgabahkcjeaa
