import Derived.Test.YtfaplilocljknaaDfI
import Derived.Test.YtfaplilocljknaaRw
set_option linter.all false
/- Proved: for every text, every policy and every order, the statement DefragOrders of intrusionlaw16 returns true and does not panic. No condition beyond those of the given statement. -/
namespace Go.Proofs.Ytfaplilocljknaa
open Go Go.Fw Go.Proofs.Ytfaplilocljknaa.Fx

abbrev argsDefragOrders : List (Bool × Ty) := [(false, .str), (false, (.int .u8)), (false, (.list (.int .u8)))]
set_option maxRecDepth 65536 in
theorem liftedDefragOrders (os : Os) (started : os.Started) (H : Type) (enc : TypeId × Value → H) :
    ReturnsInHanded {} Try.checked os 3 .any (Rows.defragOrdersSpec.pre6 enc Try.prog Try.f3 Rows.defragOrdersRow.domain false) (Rows.defragOrdersSpec.post enc Try.prog Try.f3 false true false false) := by
  refine returnsInHanded_of_change_sized (C := Try.checked) own started (by kernel_rfl) Try.func3
    (ChangeSpec.witness6 (enc := enc) (C := Try.checked) false ⟨#[], #[.string .empty, .int .u8 0, .slice none 0 0], []⟩ 8 (by kernel_rfl) (by kernel_rfl) (by kernel_rfl) (by kernel_rfl)) ?_
  intro W base args ds gs before hval hW _ hsz _
  refine law_calls (l := argsDefragOrders) (tb := 4) laidOut (by kernel_rfl) rfl Try.underlying4 rfl (fun ds h => by match ds, h with | [_, _, _], _ => exact ⟨rfl, rfl, rfl⟩) ?_ hval hW hsz glOK_nil
  rintro ⟨D, pol, o, _⟩ ⟨hD, hp, ho, _⟩
  have k8 : ∀ y : Int, (Lit.int .u8 y).wf = true → 0 ≤ y ∧ y < 256 := fun y h => by simp [Lit.wf, IntKind.min, IntKind.max, IntKind.signed, IntKind.bits] at h; omega
  exact f3_spec D pol o (k8 pol hp) (fun y hy => k8 y (ho.2 y hy))
theorem defragOrders_row : Rows.DefragOrdersSaid :=
  OpenClaim.holds_of_wide 3 Try.f3 rfl rfl rfl rfl rfl rfl rfl ⟨rfl, rfl, rfl, rfl, rfl⟩ rfl rfl rfl rfl rfl (by kernel_rfl) Try.func3 (by kernel_rfl)
    (of_decide_eq_true (by kernel_rfl)) (by unfold Func.isWrapper; first | (rw [if_pos (by decide +kernel)]; kernel_rfl) | (rw [if_neg (by decide +kernel)]; exact ⟨rfl, rfl⟩))
    (fun os started H enc _ => liftedDefragOrders os started H enc)
theorem defragOrders_holds : Rows.DefragOrdersSaid := defragOrders_row
#print axioms defragOrders_holds
end Go.Proofs.Ytfaplilocljknaa
