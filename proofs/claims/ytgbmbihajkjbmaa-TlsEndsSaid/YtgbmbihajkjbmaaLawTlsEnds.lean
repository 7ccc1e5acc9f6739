import Derived.Test.YtgbmbihajkjbmaaTlN
import Derived.Test.YtgbmbihajkjbmaaRw
set_option linter.all false
/- Proved: for every text and every number, the statement TlsEnds of intrusionlaw32 returns true and does not panic. No condition beyond those of the given statement. -/
namespace Go.Proofs.Ytgbmbihajkjbmaa
open Go Go.Fw Go.Proofs.Ytgbmbihajkjbmaa.Fx

abbrev argsTlsEnds : List (Bool × Ty) := [(false, .str), (false, (.int .u16))]
set_option maxRecDepth 65536 in
theorem liftedTlsEnds (os : Os) (started : os.Started) (H : Type) (enc : TypeId × Value → H) :
    ReturnsInHanded {} Try.checked os 9 .any (Rows.tlsEndsSpec.pre6 enc Try.prog Try.f9 Rows.tlsEndsRow.domain false) (Rows.tlsEndsSpec.post enc Try.prog Try.f9 false true false false) := by
  refine returnsInHanded_of_change_sized (C := Try.checked) own started (by kernel_rfl) Try.func9
    (ChangeSpec.witness6 (enc := enc) (C := Try.checked) false ⟨#[], #[.string .empty, .int .u16 0], []⟩ 8 (by kernel_rfl) (by kernel_rfl) (by kernel_rfl) (by kernel_rfl)) ?_
  intro W base args ds gs before hval hW _ hsz _
  refine law_calls (l := argsTlsEnds) (tb := 4) laidOut (by kernel_rfl) rfl Try.underlying4 rfl (fun ds h => by match ds, h with | [_, _], _ => exact ⟨rfl, rfl, rfl⟩) ?_ hval hW hsz glOK_nil
  rintro ⟨s, n, _⟩ ⟨_, hn, _⟩
  exact f9_spec s n (u16_rng hn)
theorem tlsEnds_row : Rows.TlsEndsSaid :=
  OpenClaim.holds_of_wide 9 Try.f9 rfl rfl rfl rfl rfl rfl rfl ⟨rfl, rfl, rfl, rfl, rfl⟩ rfl rfl rfl rfl rfl (by kernel_rfl) Try.func9 (by kernel_rfl)
    (of_decide_eq_true (by kernel_rfl)) (by unfold Func.isWrapper; first | (rw [if_pos (by decide +kernel)]; kernel_rfl) | (rw [if_neg (by decide +kernel)]; exact ⟨rfl, rfl⟩))
    (fun os started H enc _ => liftedTlsEnds os started H enc)
theorem tlsEnds_holds : Rows.TlsEndsSaid := tlsEnds_row
#print axioms tlsEnds_holds
end Go.Proofs.Ytgbmbihajkjbmaa
