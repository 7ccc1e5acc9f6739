import Derived.Test.YtgbmbihajkjbmaaTlO
import Derived.Test.YtgbmbihajkjbmaaRw
set_option linter.all false
/- Proved: for every text and every size, the statement TlsCuts of intrusionlaw32 returns true and does not panic. No condition beyond those of the given statement. -/
namespace Go.Proofs.Ytgbmbihajkjbmaa
open Go Go.Fw Go.Proofs.Ytgbmbihajkjbmaa.Fx

abbrev argsTlsCuts : List (Bool × Ty) := [(false, .str), (false, (.int .i64))]
set_option maxRecDepth 65536 in
theorem liftedTlsCuts (os : Os) (started : os.Started) (H : Type) (enc : TypeId × Value → H) :
    ReturnsInHanded {} Try.checked os 5 .any (Rows.tlsCutsSpec.pre6 enc Try.prog Try.f5 Rows.tlsCutsRow.domain false) (Rows.tlsCutsSpec.post enc Try.prog Try.f5 false true false false) := by
  refine returnsInHanded_of_change_sized (C := Try.checked) own started (by kernel_rfl) Try.func5
    (ChangeSpec.witness6 (enc := enc) (C := Try.checked) false ⟨#[], #[.string .empty, .int .i64 0], []⟩ 8 (by kernel_rfl) (by kernel_rfl) (by kernel_rfl) (by kernel_rfl)) ?_
  intro W base args ds gs before hval hW _ hsz _
  refine law_calls (l := argsTlsCuts) (tb := 4) laidOut (by kernel_rfl) rfl Try.underlying4 rfl (fun ds h => by match ds, h with | [_, _], _ => exact ⟨rfl, rfl, rfl⟩) ?_ hval hW hsz glOK_nil
  rintro ⟨s, z, _⟩ _
  exact f5_spec s z
theorem tlsCuts_row : Rows.TlsCutsSaid :=
  OpenClaim.holds_of_wide 5 Try.f5 rfl rfl rfl rfl rfl rfl rfl ⟨rfl, rfl, rfl, rfl, rfl⟩ rfl rfl rfl rfl rfl (by kernel_rfl) Try.func5 (by kernel_rfl)
    (of_decide_eq_true (by kernel_rfl)) (by unfold Func.isWrapper; first | (rw [if_pos (by decide +kernel)]; kernel_rfl) | (rw [if_neg (by decide +kernel)]; exact ⟨rfl, rfl⟩))
    (fun os started H enc _ => liftedTlsCuts os started H enc)
theorem tlsCuts_holds : Rows.TlsCutsSaid := tlsCuts_row
#print axioms tlsCuts_holds
end Go.Proofs.Ytgbmbihajkjbmaa
