import Derived.Test.YtgbmbihajkjbmaaTlS
import Derived.Test.YtgbmbihajkjbmaaRw
set_option linter.all false
/- Proved: for every version, name, list of certificates and size, the statement TlsReads of intrusionlaw32 returns true and does not panic. No condition beyond those of the given statement. -/
namespace Go.Proofs.Ytgbmbihajkjbmaa
open Go Go.Fw Go.Proofs.Ytgbmbihajkjbmaa.Fx

abbrev argsTlsReads : List (Bool × Ty) := [(false, (.int .u8)), (false, .str), (false, (.list .str)), (false, (.int .i64))]
set_option maxRecDepth 65536 in
theorem liftedTlsReads (os : Os) (started : os.Started) (H : Type) (enc : TypeId × Value → H) :
    ReturnsInHanded {} Try.checked os 8 .any (Rows.tlsReadsSpec.pre6 enc Try.prog Try.f8 Rows.tlsReadsRow.domain false) (Rows.tlsReadsSpec.post enc Try.prog Try.f8 false true false false) := by
  refine returnsInHanded_of_change_sized (C := Try.checked) own started (by kernel_rfl) Try.func8
    (ChangeSpec.witness6 (enc := enc) (C := Try.checked) false ⟨#[], #[.int .u8 0, .string .empty, .slice none 0 0, .int .i64 0], []⟩ 8 (by kernel_rfl) (by kernel_rfl) (by kernel_rfl) (by kernel_rfl)) ?_
  intro W base args ds gs before hval hW _ hsz _
  refine law_calls (l := argsTlsReads) (tb := 4) laidOut (by kernel_rfl) rfl Try.underlying4 rfl (fun ds h => by match ds, h with | [_, _, _, _], _ => exact ⟨rfl, rfl, rfl⟩) ?_ hval hW hsz glOK_nil
  rintro ⟨v, name, l, z, _⟩ ⟨hv, _⟩
  exact f8_spec v name l z (u8_rng hv)
theorem tlsReads_row : Rows.TlsReadsSaid :=
  OpenClaim.holds_of_wide 8 Try.f8 rfl rfl rfl rfl rfl rfl rfl ⟨rfl, rfl, rfl, rfl, rfl⟩ rfl rfl rfl rfl rfl (by kernel_rfl) Try.func8 (by kernel_rfl)
    (of_decide_eq_true (by kernel_rfl)) (by unfold Func.isWrapper; first | (rw [if_pos (by decide +kernel)]; kernel_rfl) | (rw [if_neg (by decide +kernel)]; exact ⟨rfl, rfl⟩))
    (fun os started H enc _ => liftedTlsReads os started H enc)
theorem tlsReads_holds : Rows.TlsReadsSaid := tlsReads_row
#print axioms tlsReads_holds
end Go.Proofs.Ytgbmbihajkjbmaa
