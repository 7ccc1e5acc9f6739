/- Proved: for every list of pieces and every policy, the statement OverlapBytes of intrusionlaw15 returns true and does not panic. No condition beyond those of the given statement. -/
import Derived.Test.YtjdjgabahkcjeaaOvM5
import Derived.Test.YtjdjgabahkcjeaaRw
set_option linter.all false
namespace Go.Proofs.Ytjdjgabahkcjeaa
open Go Go.Fw Go.Proofs.Ytjdjgabahkcjeaa.Fx

abbrev argsOverlapBytes : List (Bool × Ty) := [(false, (.list (.cons (.int .i64) (.cons .str (.cons (.int .i64) (.cons (.int .i64) .nil)))))), (false, (.int .i64))]
theorem liftedOverlapBytes (os : Os) (started : os.Started) (H : Type) (enc : TypeId × Value → H) :
    ReturnsInHanded {} Try.checked os 6 .any (Rows.overlapBytesSpec.pre6 enc Try.prog Try.f6 Rows.overlapBytesRow.domain false) (Rows.overlapBytesSpec.post enc Try.prog Try.f6 false true false false) := by
  refine returnsInHanded_of_change_sized (C := Try.checked) own started (by kernel_rfl) Try.func6
    (ChangeSpec.witness6 (enc := enc) (C := Try.checked) false ⟨#[], #[.slice none 0 0, .int .i64 0], []⟩ 8 (by kernel_rfl) (by kernel_rfl) (by kernel_rfl) (by kernel_rfl)) ?_
  intro W base args ds gs before hval hW _ hsz _
  refine law_calls (l := argsOverlapBytes) (tb := 4) laidOut (by kernel_rfl) rfl Try.underlying4 rfl (fun ds h => by match ds, h with | [_, _], _ => exact ⟨rfl, rfl, rfl⟩) ?_ hval hW hsz glOK_nil
  rintro ⟨l, pol, _⟩ ⟨hl, _, _⟩
  exact f6_spec l pol (Nat.le_trans hl.1 (by decide))
theorem overlapBytes_row : Rows.OverlapBytesSaid :=
  OpenClaim.holds_of_wide 6 Try.f6 rfl rfl rfl rfl rfl rfl rfl ⟨rfl, rfl, rfl, rfl, rfl⟩ rfl rfl rfl rfl rfl (by kernel_rfl) Try.func6 (by kernel_rfl)
    (of_decide_eq_true (by kernel_rfl)) (by unfold Func.isWrapper; first | (rw [if_pos (by decide +kernel)]; kernel_rfl) | (rw [if_neg (by decide +kernel)]; exact ⟨rfl, rfl⟩))
    (fun os started H enc _ => liftedOverlapBytes os started H enc)
theorem overlapBytes_holds : Rows.OverlapBytesSaid := overlapBytes_row
#print axioms overlapBytes_holds
end Go.Proofs.Ytjdjgabahkcjeaa
