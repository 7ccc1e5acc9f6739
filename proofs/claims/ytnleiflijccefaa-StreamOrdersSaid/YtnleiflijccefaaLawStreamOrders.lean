/- Proved: for every start, every text, every order and every size, the statement StreamOrders of intrusionlaw20 returns true and does not panic. No condition beyond those of the given statement. -/
import Derived.Test.YtnleiflijccefaaStO
import Derived.Test.YtnleiflijccefaaRw
set_option linter.all false
namespace Go.Proofs.Ytnleiflijccefaa
open Go Go.Fw Go.Proofs.Ytnleiflijccefaa.Fx

abbrev argsStreamOrders : List (Bool × Ty) := [(true, (.cons (.int .u32) (.cons (.int .i64) (.cons (.int .i64) .nil)))), (false, .str), (false, (.list (.int .u8))), (false, (.int .u8))]
theorem liftedStreamOrders (os : Os) (started : os.Started) (H : Type) (enc : TypeId × Value → H) :
    ReturnsInHanded {} Try.checked os 12 .any (Rows.streamOrdersSpec.pre6 enc Try.prog Try.f12 Rows.streamOrdersRow.domain false) (Rows.streamOrdersSpec.post enc Try.prog Try.f12 false true false false) := by
  refine returnsInHanded_of_change_sized (C := Try.checked) own started (by kernel_rfl) Try.func12
    (ChangeSpec.witness6 (enc := enc) (C := Try.checked) false ⟨#[], #[.agg #[.int .u32 0, .int .i64 0, .int .i64 0], .string .empty, .slice none 0 0, .int .u8 0], []⟩ 8 (by kernel_rfl) (by kernel_rfl) (by kernel_rfl) (by kernel_rfl)) ?_
  intro W base args ds gs before hval hW _ hsz _
  refine law_calls (l := argsStreamOrders) (tb := 4) laidOut (by kernel_rfl) rfl Try.underlying4 rfl (fun ds h => by match ds, h with | [_, _, _, _], _ => exact ⟨rfl, rfl, rfl⟩) ?_ hval hW hsz glOK_nil
  rintro ⟨x, T, o, sz, _⟩ ⟨_, hT, ho, hsz, _⟩
  have key : ∀ y : Int, (Lit.int .u8 y).wf = true → 0 ≤ y ∧ y < 256 := fun y h => by simp [Lit.wf, IntKind.min, IntKind.max, IntKind.signed, IntKind.bits] at h; omega
  exact f12_spec x T o ho.1 (fun y hy => key y (ho.2 y hy)) sz (key sz hsz) hT
theorem streamOrders_row : Rows.StreamOrdersSaid :=
  OpenClaim.holds_of_wide 12 Try.f12 rfl rfl rfl rfl rfl rfl rfl ⟨rfl, rfl, rfl, rfl, rfl⟩ rfl rfl rfl rfl rfl (by kernel_rfl) Try.func12 (by kernel_rfl)
    (of_decide_eq_true (by kernel_rfl)) (by unfold Func.isWrapper; first | (rw [if_pos (by decide +kernel)]; kernel_rfl) | (rw [if_neg (by decide +kernel)]; exact ⟨rfl, rfl⟩))
    (fun os started H enc _ => liftedStreamOrders os started H enc)
theorem streamOrders_holds : Rows.StreamOrdersSaid := streamOrders_row
#print axioms streamOrders_holds
end Go.Proofs.Ytnleiflijccefaa
