import Derived.Test.YtopnempdeopjfaaEvQ
import Derived.Test.YtopnempdeopjfaaRw
set_option linter.all false
/- Proved: for every list of pieces, the statement EvasionSilent of intrusionlaw24 returns true and does not panic. No condition beyond those of the given statement. -/
namespace Go.Proofs.Ytopnempdeopjfaa
open Go Go.Fw Go.Proofs.Ytopnempdeopjfaa.Fx

abbrev argsEvasionSilent : List (Bool × Ty) := [(false, (.list (.cons (.int .i64) (.cons .str (.cons (.int .i64) (.cons (.int .i64) .nil))))))]
theorem liftedEvasionSilent (os : Os) (started : os.Started) (H : Type) (enc : TypeId × Value → H) :
    ReturnsInHanded {} Try.checked os 11 .any (Rows.evasionSilentSpec.pre6 enc Try.prog Try.f11 Rows.evasionSilentRow.domain false) (Rows.evasionSilentSpec.post enc Try.prog Try.f11 false true false false) := by
  refine returnsInHanded_of_change_sized (C := Try.checked) own started (by kernel_rfl) Try.func11
    (ChangeSpec.witness6 (enc := enc) (C := Try.checked) false ⟨#[], #[.slice none 0 0], []⟩ 8 (by kernel_rfl) (by kernel_rfl) (by kernel_rfl) (by kernel_rfl)) ?_
  intro W base args ds gs before hval hW _ hsz _
  refine law_calls (l := argsEvasionSilent) (tb := 4) laidOut (by kernel_rfl) rfl Try.underlying4 rfl (fun ds h => by match ds, h with | [_], _ => exact ⟨rfl, rfl, rfl⟩) ?_ hval hW hsz glOK_nil
  rintro ⟨l, _⟩ ⟨hl, _⟩
  exact f11_spec l (Nat.le_trans hl.1 (by decide))
theorem evasionSilent_row : Rows.EvasionSilentSaid :=
  OpenClaim.holds_of_wide 11 Try.f11 rfl rfl rfl rfl rfl rfl rfl ⟨rfl, rfl, rfl, rfl, rfl⟩ rfl rfl rfl rfl rfl (by kernel_rfl) Try.func11 (by kernel_rfl)
    (of_decide_eq_true (by kernel_rfl)) (by unfold Func.isWrapper; first | (rw [if_pos (by decide +kernel)]; kernel_rfl) | (rw [if_neg (by decide +kernel)]; exact ⟨rfl, rfl⟩))
    (fun os started H enc _ => liftedEvasionSilent os started H enc)
theorem evasionSilent_holds : Rows.EvasionSilentSaid := evasionSilent_row
#print axioms evasionSilent_holds
end Go.Proofs.Ytopnempdeopjfaa
