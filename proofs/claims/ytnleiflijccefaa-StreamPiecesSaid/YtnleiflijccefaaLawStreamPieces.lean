/- Proved: for every start and every list of calls, the statement StreamPieces of intrusionlaw20 returns true and does not panic. No condition beyond those of the given statement. -/
import Derived.Test.YtnleiflijccefaaStP
import Derived.Test.YtnleiflijccefaaRw
set_option linter.all false
namespace Go.Proofs.Ytnleiflijccefaa
open Go Go.Fw Go.Proofs.Ytnleiflijccefaa.Fx

abbrev argsStreamPieces : List (Bool × Ty) := [(true, (.cons (.int .u32) (.cons (.int .i64) (.cons (.int .i64) .nil)))), (false, (.list (.cons (.int .i64) (.cons (.int .i64) (.cons .str .nil)))))]
theorem liftedStreamPieces (os : Os) (started : os.Started) (H : Type) (enc : TypeId × Value → H) :
    ReturnsInHanded {} Try.checked os 9 .any (Rows.streamPiecesSpec.pre6 enc Try.prog Try.f9 Rows.streamPiecesRow.domain false) (Rows.streamPiecesSpec.post enc Try.prog Try.f9 false true false false) := by
  refine returnsInHanded_of_change_sized (C := Try.checked) own started (by kernel_rfl) Try.func9
    (ChangeSpec.witness6 (enc := enc) (C := Try.checked) false ⟨#[], #[.agg #[.int .u32 0, .int .i64 0, .int .i64 0], .slice none 0 0], []⟩ 8 (by kernel_rfl) (by kernel_rfl) (by kernel_rfl) (by kernel_rfl)) ?_
  intro W base args ds gs before hval hW _ hsz _
  refine law_calls (l := argsStreamPieces) (tb := 4) laidOut (by kernel_rfl) rfl Try.underlying4 rfl (fun ds h => by match ds, h with | [_, _], _ => exact ⟨rfl, rfl, rfl⟩) ?_ hval hW hsz glOK_nil
  rintro ⟨x, l, _⟩ ⟨_, hl, _⟩
  exact f9_spec x l hl.1
theorem streamPieces_row : Rows.StreamPiecesSaid :=
  OpenClaim.holds_of_wide 9 Try.f9 rfl rfl rfl rfl rfl rfl rfl ⟨rfl, rfl, rfl, rfl, rfl⟩ rfl rfl rfl rfl rfl (by kernel_rfl) Try.func9 (by kernel_rfl)
    (of_decide_eq_true (by kernel_rfl)) (by unfold Func.isWrapper; first | (rw [if_pos (by decide +kernel)]; kernel_rfl) | (rw [if_neg (by decide +kernel)]; exact ⟨rfl, rfl⟩))
    (fun os started H enc _ => liftedStreamPieces os started H enc)
theorem streamPieces_holds : Rows.StreamPiecesSaid := streamPieces_row
#print axioms streamPieces_holds
end Go.Proofs.Ytnleiflijccefaa
