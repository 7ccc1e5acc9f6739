import Derived.Test.YtopnempdeopjfaaEvO
import Derived.Test.YtopnempdeopjfaaRw
set_option linter.all false
/- Proved: for every text and every list of cuts, the statement EvasionAgrees of intrusionlaw24 returns true and does not panic. No condition beyond those of the given statement. -/
namespace Go.Proofs.Ytopnempdeopjfaa
open Go Go.Fw Go.Proofs.Ytopnempdeopjfaa.Fx

abbrev argsEvasionAgrees : List (Bool × Ty) := [(false, .str), (false, (.list (.cons (.int .i64) (.cons (.int .i64) .nil))))]
theorem liftedEvasionAgrees (os : Os) (started : os.Started) (H : Type) (enc : TypeId × Value → H) :
    ReturnsInHanded {} Try.checked os 12 .any (Rows.evasionAgreesSpec.pre6 enc Try.prog Try.f12 Rows.evasionAgreesRow.domain false) (Rows.evasionAgreesSpec.post enc Try.prog Try.f12 false true false false) := by
  refine returnsInHanded_of_change_sized (C := Try.checked) own started (by kernel_rfl) Try.func12
    (ChangeSpec.witness6 (enc := enc) (C := Try.checked) false ⟨#[], #[.string .empty, .slice none 0 0], []⟩ 8 (by kernel_rfl) (by kernel_rfl) (by kernel_rfl) (by kernel_rfl)) ?_
  intro W base args ds gs before hval hW _ hsz _
  refine law_calls (l := argsEvasionAgrees) (tb := 4) laidOut (by kernel_rfl) rfl Try.underlying4 rfl (fun ds h => by match ds, h with | [_, _], _ => exact ⟨rfl, rfl, rfl⟩) ?_ hval hW hsz glOK_nil
  rintro ⟨T, cuts, _⟩ ⟨hT, hc, _⟩
  exact f12_spec T cuts hT hc.1
theorem evasionAgrees_row : Rows.EvasionAgreesSaid :=
  OpenClaim.holds_of_wide 12 Try.f12 rfl rfl rfl rfl rfl rfl rfl ⟨rfl, rfl, rfl, rfl, rfl⟩ rfl rfl rfl rfl rfl (by kernel_rfl) Try.func12 (by kernel_rfl)
    (of_decide_eq_true (by kernel_rfl)) (by unfold Func.isWrapper; first | (rw [if_pos (by decide +kernel)]; kernel_rfl) | (rw [if_neg (by decide +kernel)]; exact ⟨rfl, rfl⟩))
    (fun os started H enc _ => liftedEvasionAgrees os started H enc)
theorem evasionAgrees_holds : Rows.EvasionAgreesSaid := evasionAgrees_row
#print axioms evasionAgrees_holds
end Go.Proofs.Ytopnempdeopjfaa
