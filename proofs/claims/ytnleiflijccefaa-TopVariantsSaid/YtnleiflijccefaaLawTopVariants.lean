import Derived.Test.YtnleiflijccefaaEvV
import Derived.Test.YtnleiflijccefaaRw
set_option linter.all false
/- Proved: for every list of pieces, every policy and every number, the statement TopVariants of intrusiontop returns true and does not panic. No condition beyond those of the given statement. -/
namespace Go.Proofs.Ytnleiflijccefaa
open Go Go.Fw Go.Proofs.Ytnleiflijccefaa.Fx

abbrev argsTopVariants : List (Bool × Ty) := [(false, (.list (.cons (.int .i64) (.cons .str (.cons (.int .i64) (.cons (.int .i64) .nil)))))), (false, (.int .i64)), (false, (.int .u32))]
theorem liftedTopVariants (os : Os) (started : os.Started) (H : Type) (enc : TypeId × Value → H) :
    ReturnsInHanded {} Try.checked os 4 .any (Rows.topVariantsSpec.pre6 enc Try.prog Try.f4 Rows.topVariantsRow.domain false) (Rows.topVariantsSpec.post enc Try.prog Try.f4 false true false false) := by
  refine returnsInHanded_of_change_sized (C := Try.checked) own started (by kernel_rfl) Try.func4
    (ChangeSpec.witness6 (enc := enc) (C := Try.checked) false ⟨#[], #[.slice none 0 0, .int .i64 0, .int .u32 0], []⟩ 8 (by kernel_rfl) (by kernel_rfl) (by kernel_rfl) (by kernel_rfl)) ?_
  intro W base args ds gs before hval hW _ hsz _
  refine law_calls (l := argsTopVariants) (tb := 4) laidOut (by kernel_rfl) rfl Try.underlying4 rfl (fun ds h => by match ds, h with | [_, _, _], _ => exact ⟨rfl, rfl, rfl⟩) ?_ hval hW hsz glOK_nil
  rintro ⟨l, pol, isn, _⟩ ⟨hl, _⟩
  exact f4_spec l pol isn hl.1
theorem topVariants_row : Rows.TopVariantsSaid :=
  OpenClaim.holds_of_wide 4 Try.f4 rfl rfl rfl rfl rfl rfl rfl ⟨rfl, rfl, rfl, rfl, rfl⟩ rfl rfl rfl rfl rfl (by kernel_rfl) Try.func4 (by kernel_rfl)
    (of_decide_eq_true (by kernel_rfl)) (by unfold Func.isWrapper; first | (rw [if_pos (by decide +kernel)]; kernel_rfl) | (rw [if_neg (by decide +kernel)]; exact ⟨rfl, rfl⟩))
    (fun os started H enc _ => liftedTopVariants os started H enc)
theorem topVariants_holds : Rows.TopVariantsSaid := topVariants_row
#print axioms topVariants_holds
end Go.Proofs.Ytnleiflijccefaa
