/- Proved: for every call, the statement StreamNone of intrusionlaw20 returns true and does not panic. No condition beyond those of the given statement. -/
import Derived.Test.YtnleiflijccefaaStN
import Derived.Test.YtnleiflijccefaaRw
set_option linter.all false
namespace Go.Proofs.Ytnleiflijccefaa
open Go Go.Fw Go.Proofs.Ytnleiflijccefaa.Fx

abbrev argsStreamNone : List (Bool × Ty) := [(true, (.cons (.int .i64) (.cons (.int .i64) (.cons .str .nil))))]
theorem liftedStreamNone (os : Os) (started : os.Started) (H : Type) (enc : TypeId × Value → H) :
    ReturnsInHanded {} Try.checked os 14 .any (Rows.streamNoneSpec.pre6 enc Try.prog Try.f14 Rows.streamNoneRow.domain false) (Rows.streamNoneSpec.post enc Try.prog Try.f14 false true false false) := by
  refine returnsInHanded_of_change_sized (C := Try.checked) own started (by kernel_rfl) Try.func14
    (ChangeSpec.witness6 (enc := enc) (C := Try.checked) false ⟨#[], #[.agg #[.int .i64 0, .int .i64 0, .string .empty]], []⟩ 8 (by kernel_rfl) (by kernel_rfl) (by kernel_rfl) (by kernel_rfl)) ?_
  intro W base args ds gs before hval hW _ hsz _
  refine law_calls (l := argsStreamNone) (tb := 4) laidOut (by kernel_rfl) rfl Try.underlying4 rfl (fun ds h => by match ds, h with | [_], _ => exact ⟨rfl, rfl, rfl⟩) ?_ hval hW hsz glOK_nil
  rintro ⟨c, _⟩ _
  exact f14_spec c
theorem streamNone_row : Rows.StreamNoneSaid :=
  OpenClaim.holds_of_wide 14 Try.f14 rfl rfl rfl rfl rfl rfl rfl ⟨rfl, rfl, rfl, rfl, rfl⟩ rfl rfl rfl rfl rfl (by kernel_rfl) Try.func14 (by kernel_rfl)
    (of_decide_eq_true (by kernel_rfl)) (by unfold Func.isWrapper; first | (rw [if_pos (by decide +kernel)]; kernel_rfl) | (rw [if_neg (by decide +kernel)]; exact ⟨rfl, rfl⟩))
    (fun os started H enc _ => liftedStreamNone os started H enc)
theorem streamNone_holds : Rows.StreamNoneSaid := streamNone_row
#print axioms streamNone_holds
end Go.Proofs.Ytnleiflijccefaa
