/- Proved: for every list of pieces, every piece and every policy, the statement OverlapInserts of intrusionlaw15 returns true and does not panic. No condition beyond those of the given statement. -/
import Derived.Test.YtjdjgabahkcjeaaOvM1
import Derived.Test.YtjdjgabahkcjeaaRw
set_option linter.all false
namespace Go.Proofs.Ytjdjgabahkcjeaa
open Go Go.Fw Go.Proofs.Ytjdjgabahkcjeaa.Fx

abbrev argsOverlapInserts : List (Bool × Ty) := [(false, (.list (.cons (.int .i64) (.cons .str (.cons (.int .i64) (.cons (.int .i64) .nil)))))), (true, (.cons (.int .i64) (.cons .str (.cons (.int .i64) (.cons (.int .i64) .nil))))), (false, (.int .i64))]
theorem liftedOverlapInserts (os : Os) (started : os.Started) (H : Type) (enc : TypeId × Value → H) :
    ReturnsInHanded {} Try.checked os 4 .any (Rows.overlapInsertsSpec.pre6 enc Try.prog Try.f4 Rows.overlapInsertsRow.domain false) (Rows.overlapInsertsSpec.post enc Try.prog Try.f4 false true false false) := by
  refine returnsInHanded_of_change_sized (C := Try.checked) own started (by kernel_rfl) Try.func4
    (ChangeSpec.witness6 (enc := enc) (C := Try.checked) false ⟨#[], #[.slice none 0 0, .agg #[.int .i64 0, .string .empty, .int .i64 0, .int .i64 0], .int .i64 0], []⟩ 8 (by kernel_rfl) (by kernel_rfl) (by kernel_rfl) (by kernel_rfl)) ?_
  intro W base args ds gs before hval hW _ hsz _
  refine law_calls (l := argsOverlapInserts) (tb := 4) laidOut (by kernel_rfl) rfl Try.underlying4 rfl (fun ds h => by match ds, h with | [_, _, _], _ => exact ⟨rfl, rfl, rfl⟩) ?_ hval hW hsz glOK_nil
  rintro ⟨l, p, pol, _⟩ ⟨hl, _, _, _⟩
  exact f4_spec l p pol (Nat.le_trans hl.1 (by decide))
theorem overlapInserts_row : Rows.OverlapInsertsSaid :=
  OpenClaim.holds_of_wide 4 Try.f4 rfl rfl rfl rfl rfl rfl rfl ⟨rfl, rfl, rfl, rfl, rfl⟩ rfl rfl rfl rfl rfl (by kernel_rfl) Try.func4 (by kernel_rfl)
    (of_decide_eq_true (by kernel_rfl)) (by unfold Func.isWrapper; first | (rw [if_pos (by decide +kernel)]; kernel_rfl) | (rw [if_neg (by decide +kernel)]; exact ⟨rfl, rfl⟩))
    (fun os started H enc _ => liftedOverlapInserts os started H enc)
theorem overlapInserts_holds : Rows.OverlapInsertsSaid := overlapInserts_row
#print axioms overlapInserts_holds
end Go.Proofs.Ytjdjgabahkcjeaa
