import Derived.Test.YtgbmbihajkjbmaaTlR
import Derived.Test.YtgbmbihajkjbmaaRw
set_option linter.all false
/- Proved: for every version, name, list of certificates and number, the statement TlsBuilds of intrusionlaw32 returns true and does not panic. No condition beyond those of the given statement. -/
namespace Go.Proofs.Ytgbmbihajkjbmaa
open Go Go.Fw Go.Proofs.Ytgbmbihajkjbmaa.Fx

abbrev argsTlsBuilds : List (Bool × Ty) := [(false, (.int .i64)), (false, .str), (false, (.list .str)), (false, (.int .i64))]
set_option maxRecDepth 65536 in
theorem liftedTlsBuilds (os : Os) (started : os.Started) (H : Type) (enc : TypeId × Value → H) :
    ReturnsInHanded {} Try.checked os 4 .any (Rows.tlsBuildsSpec.pre6 enc Try.prog Try.f4 Rows.tlsBuildsRow.domain false) (Rows.tlsBuildsSpec.post enc Try.prog Try.f4 false true false false) := by
  refine returnsInHanded_of_change_sized (C := Try.checked) own started (by kernel_rfl) Try.func4
    (ChangeSpec.witness6 (enc := enc) (C := Try.checked) false ⟨#[], #[.int .i64 0, .string .empty, .slice none 0 0, .int .i64 0], []⟩ 8 (by kernel_rfl) (by kernel_rfl) (by kernel_rfl) (by kernel_rfl)) ?_
  intro W base args ds gs before hval hW _ hsz _
  refine law_calls (l := argsTlsBuilds) (tb := 4) laidOut (by kernel_rfl) rfl Try.underlying4 rfl (fun ds h => by match ds, h with | [_, _, _, _], _ => exact ⟨rfl, rfl, rfl⟩) ?_ hval hW hsz glOK_nil
  rintro ⟨v, name, l, n, _⟩ _
  exact f4_spec v name l n
theorem tlsBuilds_row : Rows.TlsBuildsSaid :=
  OpenClaim.holds_of_wide 4 Try.f4 rfl rfl rfl rfl rfl rfl rfl ⟨rfl, rfl, rfl, rfl, rfl⟩ rfl rfl rfl rfl rfl (by kernel_rfl) Try.func4 (by kernel_rfl)
    (of_decide_eq_true (by kernel_rfl)) (by unfold Func.isWrapper; first | (rw [if_pos (by decide +kernel)]; kernel_rfl) | (rw [if_neg (by decide +kernel)]; exact ⟨rfl, rfl⟩))
    (fun os started H enc _ => liftedTlsBuilds os started H enc)
theorem tlsBuilds_holds : Rows.TlsBuildsSaid := tlsBuilds_row
#print axioms tlsBuilds_holds
end Go.Proofs.Ytgbmbihajkjbmaa
