import Derived.Test.YtgbmbihajkjbmaaTlM
import Derived.Test.YtgbmbihajkjbmaaRw
set_option linter.all false
/- Proved: for every text, every list of cuts and every size, the statement TlsSplit of intrusionlaw32 returns true and does not panic. No condition beyond those of the given statement. -/
namespace Go.Proofs.Ytgbmbihajkjbmaa
open Go Go.Fw Go.Proofs.Ytgbmbihajkjbmaa.Fx

abbrev argsTlsSplit : List (Bool × Ty) := [(false, .str), (false, (.list (.int .u16))), (false, (.int .i64))]
set_option maxRecDepth 65536 in
theorem liftedTlsSplit (os : Os) (started : os.Started) (H : Type) (enc : TypeId × Value → H) :
    ReturnsInHanded {} Try.checked os 6 .any (Rows.tlsSplitSpec.pre6 enc Try.prog Try.f6 Rows.tlsSplitRow.domain false) (Rows.tlsSplitSpec.post enc Try.prog Try.f6 false true false false) := by
  refine returnsInHanded_of_change_sized (C := Try.checked) own started (by kernel_rfl) Try.func6
    (ChangeSpec.witness6 (enc := enc) (C := Try.checked) false ⟨#[], #[.string .empty, .slice none 0 0, .int .i64 0], []⟩ 8 (by kernel_rfl) (by kernel_rfl) (by kernel_rfl) (by kernel_rfl)) ?_
  intro W base args ds gs before hval hW _ hsz _
  refine law_calls (l := argsTlsSplit) (tb := 4) laidOut (by kernel_rfl) rfl Try.underlying4 rfl (fun ds h => by match ds, h with | [_, _, _], _ => exact ⟨rfl, rfl, rfl⟩) ?_ hval hW hsz glOK_nil
  rintro ⟨s, l, z, _⟩ ⟨_, hl, _⟩
  exact f6_spec s l z (Nat.le_trans (slen_of hl) (by decide)) (u16s_rng hl)
theorem tlsSplit_row : Rows.TlsSplitSaid :=
  OpenClaim.holds_of_wide 6 Try.f6 rfl rfl rfl rfl rfl rfl rfl ⟨rfl, rfl, rfl, rfl, rfl⟩ rfl rfl rfl rfl rfl (by kernel_rfl) Try.func6 (by kernel_rfl)
    (of_decide_eq_true (by kernel_rfl)) (by unfold Func.isWrapper; first | (rw [if_pos (by decide +kernel)]; kernel_rfl) | (rw [if_neg (by decide +kernel)]; exact ⟨rfl, rfl⟩))
    (fun os started H enc _ => liftedTlsSplit os started H enc)
theorem tlsSplit_holds : Rows.TlsSplitSaid := tlsSplit_row
#print axioms tlsSplit_holds
end Go.Proofs.Ytgbmbihajkjbmaa
