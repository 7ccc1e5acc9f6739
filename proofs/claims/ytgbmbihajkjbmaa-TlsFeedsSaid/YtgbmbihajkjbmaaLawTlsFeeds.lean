import Derived.Test.YtgbmbihajkjbmaaTlW
import Derived.Test.YtgbmbihajkjbmaaRw
set_option linter.all false
/- Proved: for every list of texts, the statement TlsFeeds of intrusionlaw32 returns true and does not panic. No condition beyond those of the given statement. -/
namespace Go.Proofs.Ytgbmbihajkjbmaa
open Go Go.Fw Go.Proofs.Ytgbmbihajkjbmaa.Fx

abbrev argsTlsFeeds : List (Bool × Ty) := [(false, (.list .str))]
set_option maxRecDepth 65536 in
theorem liftedTlsFeeds (os : Os) (started : os.Started) (H : Type) (enc : TypeId × Value → H) :
    ReturnsInHanded {} Try.checked os 3 .any (Rows.tlsFeedsSpec.pre6 enc Try.prog Try.f3 Rows.tlsFeedsRow.domain false) (Rows.tlsFeedsSpec.post enc Try.prog Try.f3 false true false false) := by
  refine returnsInHanded_of_change_sized (C := Try.checked) own started (by kernel_rfl) Try.func3
    (ChangeSpec.witness6 (enc := enc) (C := Try.checked) false ⟨#[], #[.slice none 0 0], []⟩ 8 (by kernel_rfl) (by kernel_rfl) (by kernel_rfl) (by kernel_rfl)) ?_
  intro W base args ds gs before hval hW _ hsz _
  refine law_calls (l := argsTlsFeeds) (tb := 4) laidOut (by kernel_rfl) rfl Try.underlying4 rfl (fun ds h => by match ds, h with | [_], _ => exact ⟨rfl, rfl, rfl⟩) ?_ hval hW hsz glOK_nil
  rintro ⟨l, _⟩ _
  exact f3_spec l
theorem tlsFeeds_row : Rows.TlsFeedsSaid :=
  OpenClaim.holds_of_wide 3 Try.f3 rfl rfl rfl rfl rfl rfl rfl ⟨rfl, rfl, rfl, rfl, rfl⟩ rfl rfl rfl rfl rfl (by kernel_rfl) Try.func3 (by kernel_rfl)
    (of_decide_eq_true (by kernel_rfl)) (by unfold Func.isWrapper; first | (rw [if_pos (by decide +kernel)]; kernel_rfl) | (rw [if_neg (by decide +kernel)]; exact ⟨rfl, rfl⟩))
    (fun os started H enc _ => liftedTlsFeeds os started H enc)
theorem tlsFeeds_holds : Rows.TlsFeedsSaid := tlsFeeds_row
#print axioms tlsFeeds_holds
end Go.Proofs.Ytgbmbihajkjbmaa
