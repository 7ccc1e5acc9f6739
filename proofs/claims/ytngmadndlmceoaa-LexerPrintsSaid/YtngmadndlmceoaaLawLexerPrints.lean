import Derived.Test.YtngmadndlmceoaaLxR
import Derived.Test.YtngmadndlmceoaaRw
set_option linter.all false
/- Proved: for every list of tokens, the statement LexerPrints of intrusionlaw04 returns true and does not panic. No condition beyond those of the given statement. -/
namespace Go.Proofs.Ytngmadndlmceoaa
open Go Go.Fw Go.Proofs.Ytngmadndlmceoaa.Fx

abbrev argsLexerPrints : List (Bool × Ty) := [(false, (.list (.cons (.int .i64) (.cons .str (.cons (.int .i64) .nil)))))]
theorem liftedLexerPrints (os : Os) (started : os.Started) (H : Type) (enc : TypeId × Value → H) :
    ReturnsInHanded {} Try.checked os 7 .any (Rows.lexerPrintsSpec.pre6 enc Try.prog Try.f7 Rows.lexerPrintsRow.domain false) (Rows.lexerPrintsSpec.post enc Try.prog Try.f7 false true false false) := by
  refine returnsInHanded_of_change_sized (C := Try.checked) own started (by kernel_rfl) Try.func7
    (ChangeSpec.witness6 (enc := enc) (C := Try.checked) false ⟨#[], #[.slice none 0 0], []⟩ 8 (by kernel_rfl) (by kernel_rfl) (by kernel_rfl) (by kernel_rfl)) ?_
  intro W base args ds gs before hval hW _ hsz _
  refine law_calls (l := argsLexerPrints) (tb := 4) laidOut (by kernel_rfl) rfl Try.underlying4 rfl (fun ds h => by match ds, h with | [_], _ => exact ⟨rfl, rfl, rfl⟩) ?_ hval hW hsz glOK_nil
  rintro ⟨l, _⟩ ⟨hl, _⟩
  exact f7_spec l (Nat.le_trans (slen_of hl) (by decide))
theorem lexerPrints_row : Rows.LexerPrintsSaid :=
  OpenClaim.holds_of_wide 7 Try.f7 rfl rfl rfl rfl rfl rfl rfl ⟨rfl, rfl, rfl, rfl, rfl⟩ rfl rfl rfl rfl rfl (by kernel_rfl) Try.func7 (by kernel_rfl)
    (of_decide_eq_true (by kernel_rfl)) (by unfold Func.isWrapper; first | (rw [if_pos (by decide +kernel)]; kernel_rfl) | (rw [if_neg (by decide +kernel)]; exact ⟨rfl, rfl⟩))
    (fun os started H enc _ => liftedLexerPrints os started H enc)
theorem lexerPrints_holds : Rows.LexerPrintsSaid := lexerPrints_row
#print axioms lexerPrints_holds
end Go.Proofs.Ytngmadndlmceoaa
