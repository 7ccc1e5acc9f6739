/- Proved: for every list of pieces, every piece and every policy, the statement OverlapKeeps of intrusionlaw15 returns true and does not panic. No condition beyond those of the given statement. -/
import Derived.Test.YtjdjgabahkcjeaaOvM3
import Derived.Test.YtjdjgabahkcjeaaRw
set_option linter.all false
namespace Go.Proofs.Ytjdjgabahkcjeaa
open Go Go.Fw Go.Proofs.Ytjdjgabahkcjeaa.Fx

abbrev argsOverlapKeeps : List (Bool × Ty) := [(false, (.list (.cons (.int .i64) (.cons .str (.cons (.int .i64) (.cons (.int .i64) .nil)))))), (true, (.cons (.int .i64) (.cons .str (.cons (.int .i64) (.cons (.int .i64) .nil))))), (false, (.int .i64))]
theorem liftedOverlapKeeps (os : Os) (started : os.Started) (H : Type) (enc : TypeId × Value → H) :
    ReturnsInHanded {} Try.checked os 7 .any (Rows.overlapKeepsSpec.pre6 enc Try.prog Try.f7 Rows.overlapKeepsRow.domain false) (Rows.overlapKeepsSpec.post enc Try.prog Try.f7 false true false false) := by
  refine returnsInHanded_of_change_sized (C := Try.checked) own started (by kernel_rfl) Try.func7
    (ChangeSpec.witness6 (enc := enc) (C := Try.checked) false ⟨#[], #[.slice none 0 0, .agg #[.int .i64 0, .string .empty, .int .i64 0, .int .i64 0], .int .i64 0], []⟩ 8 (by kernel_rfl) (by kernel_rfl) (by kernel_rfl) (by kernel_rfl)) ?_
  intro W base args ds gs before hval hW _ hsz _
  refine law_calls (l := argsOverlapKeeps) (tb := 4) laidOut (by kernel_rfl) rfl Try.underlying4 rfl (fun ds h => by match ds, h with | [_, _, _], _ => exact ⟨rfl, rfl, rfl⟩) ?_ hval hW hsz glOK_nil
  rintro ⟨l, p, pol, _⟩ ⟨hl, _, _, _⟩
  exact f7_spec l p pol (Nat.le_trans hl.1 (by decide))
theorem overlapKeeps_row : Rows.OverlapKeepsSaid :=
  OpenClaim.holds_of_wide 7 Try.f7 rfl rfl rfl rfl rfl rfl rfl ⟨rfl, rfl, rfl, rfl, rfl⟩ rfl rfl rfl rfl rfl (by kernel_rfl) Try.func7 (by kernel_rfl)
    (of_decide_eq_true (by kernel_rfl)) (by unfold Func.isWrapper; first | (rw [if_pos (by decide +kernel)]; kernel_rfl) | (rw [if_neg (by decide +kernel)]; exact ⟨rfl, rfl⟩))
    (fun os started H enc _ => liftedOverlapKeeps os started H enc)
theorem overlapKeeps_holds : Rows.OverlapKeepsSaid := overlapKeeps_row
#print axioms overlapKeeps_holds
end Go.Proofs.Ytjdjgabahkcjeaa
