import Derived.Test.YtopnempdeopjfaaEvN
import Derived.Test.YtopnempdeopjfaaRw
set_option linter.all false
/- Proved: for every list of pieces and every policy, the statement EvasionVariants of intrusionlaw24 returns true and does not panic. No condition beyond those of the given statement. -/
namespace Go.Proofs.Ytopnempdeopjfaa
open Go Go.Fw Go.Proofs.Ytopnempdeopjfaa.Fx

abbrev argsEvasionVariants : List (Bool × Ty) := [(false, (.list (.cons (.int .i64) (.cons .str (.cons (.int .i64) (.cons (.int .i64) .nil)))))), (false, (.int .i64))]
theorem liftedEvasionVariants (os : Os) (started : os.Started) (H : Type) (enc : TypeId × Value → H) :
    ReturnsInHanded {} Try.checked os 9 .any (Rows.evasionVariantsSpec.pre6 enc Try.prog Try.f9 Rows.evasionVariantsRow.domain false) (Rows.evasionVariantsSpec.post enc Try.prog Try.f9 false true false false) := by
  refine returnsInHanded_of_change_sized (C := Try.checked) own started (by kernel_rfl) Try.func9
    (ChangeSpec.witness6 (enc := enc) (C := Try.checked) false ⟨#[], #[.slice none 0 0, .int .i64 0], []⟩ 8 (by kernel_rfl) (by kernel_rfl) (by kernel_rfl) (by kernel_rfl)) ?_
  intro W base args ds gs before hval hW _ hsz _
  refine law_calls (l := argsEvasionVariants) (tb := 4) laidOut (by kernel_rfl) rfl Try.underlying4 rfl (fun ds h => by match ds, h with | [_, _], _ => exact ⟨rfl, rfl, rfl⟩) ?_ hval hW hsz glOK_nil
  rintro ⟨l, pol, _⟩ ⟨hl, _⟩
  exact f9_spec l pol (Nat.le_trans hl.1 (by decide))
theorem evasionVariants_row : Rows.EvasionVariantsSaid :=
  OpenClaim.holds_of_wide 9 Try.f9 rfl rfl rfl rfl rfl rfl rfl ⟨rfl, rfl, rfl, rfl, rfl⟩ rfl rfl rfl rfl rfl (by kernel_rfl) Try.func9 (by kernel_rfl)
    (of_decide_eq_true (by kernel_rfl)) (by unfold Func.isWrapper; first | (rw [if_pos (by decide +kernel)]; kernel_rfl) | (rw [if_neg (by decide +kernel)]; exact ⟨rfl, rfl⟩))
    (fun os started H enc _ => liftedEvasionVariants os started H enc)
theorem evasionVariants_holds : Rows.EvasionVariantsSaid := evasionVariants_row
#print axioms evasionVariants_holds
end Go.Proofs.Ytopnempdeopjfaa
