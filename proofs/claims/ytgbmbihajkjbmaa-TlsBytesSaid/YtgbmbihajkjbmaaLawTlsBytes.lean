import Derived.Test.YtgbmbihajkjbmaaTlL
import Derived.Test.YtgbmbihajkjbmaaRw
set_option linter.all false
/- Proved: for every text, the statement TlsBytes of intrusionlaw32 returns true and does not panic. No condition beyond those of the given statement. -/
namespace Go.Proofs.Ytgbmbihajkjbmaa
open Go Go.Fw Go.Proofs.Ytgbmbihajkjbmaa.Fx

abbrev argsTlsBytes : List (Bool × Ty) := [(false, .str)]
set_option maxRecDepth 65536 in
theorem liftedTlsBytes (os : Os) (started : os.Started) (H : Type) (enc : TypeId × Value → H) :
    ReturnsInHanded {} Try.checked os 7 .any (Rows.tlsBytesSpec.pre6 enc Try.prog Try.f7 Rows.tlsBytesRow.domain false) (Rows.tlsBytesSpec.post enc Try.prog Try.f7 false true false false) := by
  refine returnsInHanded_of_change_sized (C := Try.checked) own started (by kernel_rfl) Try.func7
    (ChangeSpec.witness6 (enc := enc) (C := Try.checked) false ⟨#[], #[.string .empty], []⟩ 8 (by kernel_rfl) (by kernel_rfl) (by kernel_rfl) (by kernel_rfl)) ?_
  intro W base args ds gs before hval hW _ hsz _
  refine law_calls (l := argsTlsBytes) (tb := 4) laidOut (by kernel_rfl) rfl Try.underlying4 rfl (fun ds h => by match ds, h with | [_], _ => exact ⟨rfl, rfl, rfl⟩) ?_ hval hW hsz glOK_nil
  rintro ⟨s, _⟩ _
  exact f7_spec s
theorem tlsBytes_row : Rows.TlsBytesSaid :=
  OpenClaim.holds_of_wide 7 Try.f7 rfl rfl rfl rfl rfl rfl rfl ⟨rfl, rfl, rfl, rfl, rfl⟩ rfl rfl rfl rfl rfl (by kernel_rfl) Try.func7 (by kernel_rfl)
    (of_decide_eq_true (by kernel_rfl)) (by unfold Func.isWrapper; first | (rw [if_pos (by decide +kernel)]; kernel_rfl) | (rw [if_neg (by decide +kernel)]; exact ⟨rfl, rfl⟩))
    (fun os started H enc _ => liftedTlsBytes os started H enc)
theorem tlsBytes_holds : Rows.TlsBytesSaid := tlsBytes_row
#print axioms tlsBytes_holds
end Go.Proofs.Ytgbmbihajkjbmaa
