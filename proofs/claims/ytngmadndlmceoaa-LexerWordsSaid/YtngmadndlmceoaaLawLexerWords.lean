import Derived.Test.YtngmadndlmceoaaLxR
import Derived.Test.YtngmadndlmceoaaRw
set_option linter.all false
/- Proved: for every text, the statement LexerWords of intrusionlaw04 returns true and does not panic. No condition beyond those of the given statement. -/
namespace Go.Proofs.Ytngmadndlmceoaa
open Go Go.Fw Go.Proofs.Ytngmadndlmceoaa.Fx

abbrev argsLexerWords : List (Bool × Ty) := [(false, .str)]
theorem liftedLexerWords (os : Os) (started : os.Started) (H : Type) (enc : TypeId × Value → H) :
    ReturnsInHanded {} Try.checked os 5 .any (Rows.lexerWordsSpec.pre6 enc Try.prog Try.f5 Rows.lexerWordsRow.domain false) (Rows.lexerWordsSpec.post enc Try.prog Try.f5 false true false false) := by
  refine returnsInHanded_of_change_sized (C := Try.checked) own started (by kernel_rfl) Try.func5
    (ChangeSpec.witness6 (enc := enc) (C := Try.checked) false ⟨#[], #[.string .empty], []⟩ 8 (by kernel_rfl) (by kernel_rfl) (by kernel_rfl) (by kernel_rfl)) ?_
  intro W base args ds gs before hval hW _ hsz _
  refine law_calls (l := argsLexerWords) (tb := 4) laidOut (by kernel_rfl) rfl Try.underlying4 rfl (fun ds h => by match ds, h with | [_], _ => exact ⟨rfl, rfl, rfl⟩) ?_ hval hW hsz glOK_nil
  rintro ⟨s, _⟩ _
  exact f5_spec s
theorem lexerWords_row : Rows.LexerWordsSaid :=
  OpenClaim.holds_of_wide 5 Try.f5 rfl rfl rfl rfl rfl rfl rfl ⟨rfl, rfl, rfl, rfl, rfl⟩ rfl rfl rfl rfl rfl (by kernel_rfl) Try.func5 (by kernel_rfl)
    (of_decide_eq_true (by kernel_rfl)) (by unfold Func.isWrapper; first | (rw [if_pos (by decide +kernel)]; kernel_rfl) | (rw [if_neg (by decide +kernel)]; exact ⟨rfl, rfl⟩))
    (fun os started H enc _ => liftedLexerWords os started H enc)
theorem lexerWords_holds : Rows.LexerWordsSaid := lexerWords_row
#print axioms lexerWords_holds
end Go.Proofs.Ytngmadndlmceoaa
