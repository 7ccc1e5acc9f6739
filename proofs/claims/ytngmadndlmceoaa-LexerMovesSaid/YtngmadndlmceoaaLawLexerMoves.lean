import Derived.Test.YtngmadndlmceoaaLxV
import Derived.Test.YtngmadndlmceoaaRw
set_option linter.all false
/- Proved: for every text and every list of calls, the statement LexerMoves of intrusionlaw04 returns true and does not panic. No condition beyond those of the given statement. -/
namespace Go.Proofs.Ytngmadndlmceoaa
open Go Go.Fw Go.Proofs.Ytngmadndlmceoaa.Fx

abbrev argsLexerMoves : List (Bool × Ty) := [(false, .str), (false, (.list (.cons (.int .i64) (.cons .str .nil))))]
theorem liftedLexerMoves (os : Os) (started : os.Started) (H : Type) (enc : TypeId × Value → H) :
    ReturnsInHanded {} Try.checked os 6 .any (Rows.lexerMovesSpec.pre6 enc Try.prog Try.f6 Rows.lexerMovesRow.domain false) (Rows.lexerMovesSpec.post enc Try.prog Try.f6 false true false false) := by
  refine returnsInHanded_of_change_sized (C := Try.checked) own started (by kernel_rfl) Try.func6
    (ChangeSpec.witness6 (enc := enc) (C := Try.checked) false ⟨#[], #[.string .empty, .slice none 0 0], []⟩ 8 (by kernel_rfl) (by kernel_rfl) (by kernel_rfl) (by kernel_rfl)) ?_
  intro W base args ds gs before hval hW _ hsz _
  refine law_calls (l := argsLexerMoves) (tb := 4) laidOut (by kernel_rfl) rfl Try.underlying4 rfl (fun ds h => by match ds, h with | [_, _], _ => exact ⟨rfl, rfl, rfl⟩) ?_ hval hW hsz glOK_nil
  rintro ⟨s, l, _⟩ ⟨_, hl, _⟩
  exact f6_spec s l (Nat.le_trans (slen_of hl) (by decide))
theorem lexerMoves_row : Rows.LexerMovesSaid :=
  OpenClaim.holds_of_wide 6 Try.f6 rfl rfl rfl rfl rfl rfl rfl ⟨rfl, rfl, rfl, rfl, rfl⟩ rfl rfl rfl rfl rfl (by kernel_rfl) Try.func6 (by kernel_rfl)
    (of_decide_eq_true (by kernel_rfl)) (by unfold Func.isWrapper; first | (rw [if_pos (by decide +kernel)]; kernel_rfl) | (rw [if_neg (by decide +kernel)]; exact ⟨rfl, rfl⟩))
    (fun os started H enc _ => liftedLexerMoves os started H enc)
theorem lexerMoves_holds : Rows.LexerMovesSaid := lexerMoves_row
#print axioms lexerMoves_holds
end Go.Proofs.Ytngmadndlmceoaa
