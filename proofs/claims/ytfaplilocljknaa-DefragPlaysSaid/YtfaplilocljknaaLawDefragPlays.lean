import Derived.Test.YtfaplilocljknaaDfR
import Derived.Test.YtfaplilocljknaaRw
set_option linter.all false
/- Proved: for every timeout and every list of steps, the statement DefragPlays of intrusionlaw16 returns true and does not panic. No condition beyond those of the given statement. -/
namespace Go.Proofs.Ytfaplilocljknaa
open Go Go.Fw Go.Proofs.Ytfaplilocljknaa.Fx

abbrev argsDefragPlays : List (Bool × Ty) := [(false, (.int .i64)), (false, (.list (.cons (.int .i64) (.cons (.int .i64) (.cons (.int .i64) (.cons (.cons (.cons .bool (.cons (.int .u64) (.cons (.int .u64) .nil))) (.cons (.cons .bool (.cons (.int .u64) (.cons (.int .u64) .nil))) (.cons (.int .i64) (.cons (.int .i64) (.cons (.int .i64) (.cons (.int .i64) (.cons .bool (.cons .str .nil)))))))) .nil))))))]
set_option maxRecDepth 65536 in
theorem liftedDefragPlays (os : Os) (started : os.Started) (H : Type) (enc : TypeId × Value → H) :
    ReturnsInHanded {} Try.checked os 4 .any (Rows.defragPlaysSpec.pre6 enc Try.prog Try.f4 Rows.defragPlaysRow.domain false) (Rows.defragPlaysSpec.post enc Try.prog Try.f4 false true false false) := by
  refine returnsInHanded_of_change_sized (C := Try.checked) own started (by kernel_rfl) Try.func4
    (ChangeSpec.witness6 (enc := enc) (C := Try.checked) false ⟨#[], #[.int .i64 0, .slice none 0 0], []⟩ 8 (by kernel_rfl) (by kernel_rfl) (by kernel_rfl) (by kernel_rfl)) ?_
  intro W base args ds gs before hval hW _ hsz _
  refine law_calls (l := argsDefragPlays) (tb := 4) laidOut (by kernel_rfl) rfl Try.underlying4 rfl (fun ds h => by match ds, h with | [_, _], _ => exact ⟨rfl, rfl, rfl⟩) ?_ hval hW hsz glOK_nil
  rintro ⟨t, l, _⟩ ⟨_, hl, _⟩
  exact f4_spec t l
theorem defragPlays_row : Rows.DefragPlaysSaid :=
  OpenClaim.holds_of_wide 4 Try.f4 rfl rfl rfl rfl rfl rfl rfl ⟨rfl, rfl, rfl, rfl, rfl⟩ rfl rfl rfl rfl rfl (by kernel_rfl) Try.func4 (by kernel_rfl)
    (of_decide_eq_true (by kernel_rfl)) (by unfold Func.isWrapper; first | (rw [if_pos (by decide +kernel)]; kernel_rfl) | (rw [if_neg (by decide +kernel)]; exact ⟨rfl, rfl⟩))
    (fun os started H enc _ => liftedDefragPlays os started H enc)
theorem defragPlays_holds : Rows.DefragPlaysSaid := defragPlays_row
#print axioms defragPlays_holds
end Go.Proofs.Ytfaplilocljknaa
