import Derived.Test.YtnleiflijccefaaStC
import Derived.Test.YtnleiflijccefaaRw
set_option linter.all false
/- Proved: for every start and every list of calls, the statement StreamCalls of intrusionlaw20 returns true and does not panic. No condition beyond those of the given statement. -/
namespace Go.Proofs.Ytnleiflijccefaa
open Go Go.Fw Go.Proofs.Ytnleiflijccefaa.Fx

abbrev argsStreamCalls : List (Bool × Ty) := [(true, (.cons (.int .u32) (.cons (.int .i64) (.cons (.int .i64) .nil)))), (false, (.list (.cons (.int .i64) (.cons (.int .i64) (.cons .str .nil)))))]
theorem liftedStreamCalls (os : Os) (started : os.Started) (H : Type) (enc : TypeId × Value → H) :
    ReturnsInHanded {} Try.checked os 11 .any (Rows.streamCallsSpec.pre6 enc Try.prog Try.f11 Rows.streamCallsRow.domain false) (Rows.streamCallsSpec.post enc Try.prog Try.f11 false true false false) := by
  refine returnsInHanded_of_change_sized (C := Try.checked) own started (by kernel_rfl) Try.func11
    (ChangeSpec.witness6 (enc := enc) (C := Try.checked) false ⟨#[], #[.agg #[.int .u32 0, .int .i64 0, .int .i64 0], .slice none 0 0], []⟩ 8 (by kernel_rfl) (by kernel_rfl) (by kernel_rfl) (by kernel_rfl)) ?_
  intro W base args ds gs before hval hW _ hsz _
  refine law_calls (l := argsStreamCalls) (tb := 4) laidOut (by kernel_rfl) rfl Try.underlying4 rfl (fun ds h => by match ds, h with | [_, _], _ => exact ⟨rfl, rfl, rfl⟩) ?_ hval hW hsz glOK_nil
  rintro ⟨x, l, _⟩ ⟨_, hl, _⟩
  exact f11_spec x l hl.1
theorem streamCalls_row : Rows.StreamCallsSaid :=
  OpenClaim.holds_of_wide 11 Try.f11 rfl rfl rfl rfl rfl rfl rfl ⟨rfl, rfl, rfl, rfl, rfl⟩ rfl rfl rfl rfl rfl (by kernel_rfl) Try.func11 (by kernel_rfl)
    (of_decide_eq_true (by kernel_rfl)) (by unfold Func.isWrapper; first | (rw [if_pos (by decide +kernel)]; kernel_rfl) | (rw [if_neg (by decide +kernel)]; exact ⟨rfl, rfl⟩))
    (fun os started H enc _ => liftedStreamCalls os started H enc)
theorem streamCalls_holds : Rows.StreamCallsSaid := streamCalls_row
#print axioms streamCalls_holds
end Go.Proofs.Ytnleiflijccefaa
