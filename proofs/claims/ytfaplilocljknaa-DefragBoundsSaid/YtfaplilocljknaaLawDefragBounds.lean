import Derived.Test.YtfaplilocljknaaDfH
import Derived.Test.YtfaplilocljknaaRw
set_option linter.all false
/- Proved: for every list of numbers and every policy, the statement DefragBounds of intrusionlaw16 returns true and does not panic. No condition beyond those of the given statement. -/
namespace Go.Proofs.Ytfaplilocljknaa
open Go Go.Fw Go.Proofs.Ytfaplilocljknaa.Fx

abbrev argsDefragBounds : List (Bool × Ty) := [(false, (.list (.int .u16))), (false, (.int .u8))]
set_option maxRecDepth 65536 in
theorem liftedDefragBounds (os : Os) (started : os.Started) (H : Type) (enc : TypeId × Value → H) :
    ReturnsInHanded {} Try.checked os 5 .any (Rows.defragBoundsSpec.pre6 enc Try.prog Try.f5 Rows.defragBoundsRow.domain false) (Rows.defragBoundsSpec.post enc Try.prog Try.f5 false true false false) := by
  refine returnsInHanded_of_change_sized (C := Try.checked) own started (by kernel_rfl) Try.func5
    (ChangeSpec.witness6 (enc := enc) (C := Try.checked) false ⟨#[], #[.slice none 0 0, .int .u8 0], []⟩ 8 (by kernel_rfl) (by kernel_rfl) (by kernel_rfl) (by kernel_rfl)) ?_
  intro W base args ds gs before hval hW _ hsz _
  refine law_calls (l := argsDefragBounds) (tb := 4) laidOut (by kernel_rfl) rfl Try.underlying4 rfl (fun ds h => by match ds, h with | [_, _], _ => exact ⟨rfl, rfl, rfl⟩) ?_ hval hW hsz glOK_nil
  rintro ⟨l, pol, _⟩ ⟨hl, hp, _⟩
  have k16 : ∀ y : Int, (Lit.int .u16 y).wf = true → 0 ≤ y ∧ y < 65536 := fun y h => by simp only [Lit.wf, Bool.and_eq_true, decide_eq_true_eq] at h; have h1 : IntKind.u16.min = 0 := (by decide); have h2 : IntKind.u16.max = 65535 := (by decide); omega
  have k8 : ∀ y : Int, (Lit.int .u8 y).wf = true → 0 ≤ y ∧ y < 256 := fun y h => by simp [Lit.wf, IntKind.min, IntKind.max, IntKind.signed, IntKind.bits] at h; omega
  exact f5_spec l pol (fun y hy => k16 y (hl.2 y hy)) (k8 pol hp)
theorem defragBounds_row : Rows.DefragBoundsSaid :=
  OpenClaim.holds_of_wide 5 Try.f5 rfl rfl rfl rfl rfl rfl rfl ⟨rfl, rfl, rfl, rfl, rfl⟩ rfl rfl rfl rfl rfl (by kernel_rfl) Try.func5 (by kernel_rfl)
    (of_decide_eq_true (by kernel_rfl)) (by unfold Func.isWrapper; first | (rw [if_pos (by decide +kernel)]; kernel_rfl) | (rw [if_neg (by decide +kernel)]; exact ⟨rfl, rfl⟩))
    (fun os started H enc _ => liftedDefragBounds os started H enc)
theorem defragBounds_holds : Rows.DefragBoundsSaid := defragBounds_row
#print axioms defragBounds_holds
end Go.Proofs.Ytfaplilocljknaa
