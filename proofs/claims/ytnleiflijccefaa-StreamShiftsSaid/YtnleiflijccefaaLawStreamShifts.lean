/- Proved: for every start, every difference and every list of calls, the statement StreamShifts of intrusionlaw20 returns true and does not panic. No condition beyond those of the given statement. -/
import Derived.Test.YtnleiflijccefaaStH
import Derived.Test.YtnleiflijccefaaRw
set_option linter.all false
namespace Go.Proofs.Ytnleiflijccefaa
open Go Go.Fw Go.Proofs.Ytnleiflijccefaa.Fx

abbrev argsStreamShifts : List (Bool × Ty) := [(true, (.cons (.int .u32) (.cons (.int .i64) (.cons (.int .i64) .nil)))), (false, (.int .u32)), (false, (.list (.cons (.int .i64) (.cons (.int .i64) (.cons .str .nil)))))]
theorem liftedStreamShifts (os : Os) (started : os.Started) (H : Type) (enc : TypeId × Value → H) :
    ReturnsInHanded {} Try.checked os 8 .any (Rows.streamShiftsSpec.pre6 enc Try.prog Try.f8 Rows.streamShiftsRow.domain false) (Rows.streamShiftsSpec.post enc Try.prog Try.f8 false true false false) := by
  refine returnsInHanded_of_change_sized (C := Try.checked) own started (by kernel_rfl) Try.func8
    (ChangeSpec.witness6 (enc := enc) (C := Try.checked) false ⟨#[], #[.agg #[.int .u32 0, .int .i64 0, .int .i64 0], .int .u32 0, .slice none 0 0], []⟩ 8 (by kernel_rfl) (by kernel_rfl) (by kernel_rfl) (by kernel_rfl)) ?_
  intro W base args ds gs before hval hW _ hsz _
  refine law_calls (l := argsStreamShifts) (tb := 4) laidOut (by kernel_rfl) rfl Try.underlying4 rfl (fun ds h => by match ds, h with | [_, _, _], _ => exact ⟨rfl, rfl, rfl⟩) ?_ hval hW hsz glOK_nil
  rintro ⟨x, by_, l, _⟩ ⟨_, _, hl, _⟩
  exact f8_spec x by_ l hl.1
theorem streamShifts_row : Rows.StreamShiftsSaid :=
  OpenClaim.holds_of_wide 8 Try.f8 rfl rfl rfl rfl rfl rfl rfl ⟨rfl, rfl, rfl, rfl, rfl⟩ rfl rfl rfl rfl rfl (by kernel_rfl) Try.func8 (by kernel_rfl)
    (of_decide_eq_true (by kernel_rfl)) (by unfold Func.isWrapper; first | (rw [if_pos (by decide +kernel)]; kernel_rfl) | (rw [if_neg (by decide +kernel)]; exact ⟨rfl, rfl⟩))
    (fun os started H enc _ => liftedStreamShifts os started H enc)
theorem streamShifts_holds : Rows.StreamShiftsSaid := streamShifts_row
#print axioms streamShifts_holds
end Go.Proofs.Ytnleiflijccefaa
