import Derived.Test.YtngmadndlmceoaaLxR
import Derived.Test.YtngmadndlmceoaaRw
set_option linter.all false
/- Proved: for every text, the statement LexerScans of intrusionlaw04 returns true and does not panic. No condition beyond those of the given statement. -/
namespace Go.Proofs.Ytngmadndlmceoaa
open Go Go.Fw Go.Proofs.Ytngmadndlmceoaa.Fx

abbrev argsLexerScans : List (Bool × Ty) := [(false, .str)]
theorem liftedLexerScans (os : Os) (started : os.Started) (H : Type) (enc : TypeId × Value → H) :
    ReturnsInHanded {} Try.checked os 4 .any (Rows.lexerScansSpec.pre6 enc Try.prog Try.f4 Rows.lexerScansRow.domain false) (Rows.lexerScansSpec.post enc Try.prog Try.f4 false true false false) := by
  refine returnsInHanded_of_change_sized (C := Try.checked) own started (by kernel_rfl) Try.func4
    (ChangeSpec.witness6 (enc := enc) (C := Try.checked) false ⟨#[], #[.string .empty], []⟩ 8 (by kernel_rfl) (by kernel_rfl) (by kernel_rfl) (by kernel_rfl)) ?_
  intro W base args ds gs before hval hW _ hsz _
  refine law_calls (l := argsLexerScans) (tb := 4) laidOut (by kernel_rfl) rfl Try.underlying4 rfl (fun ds h => by match ds, h with | [_], _ => exact ⟨rfl, rfl, rfl⟩) ?_ hval hW hsz glOK_nil
  rintro ⟨s, _⟩ _
  exact f4_spec s
theorem lexerScans_row : Rows.LexerScansSaid :=
  OpenClaim.holds_of_wide 4 Try.f4 rfl rfl rfl rfl rfl rfl rfl ⟨rfl, rfl, rfl, rfl, rfl⟩ rfl rfl rfl rfl rfl (by kernel_rfl) Try.func4 (by kernel_rfl)
    (of_decide_eq_true (by kernel_rfl)) (by unfold Func.isWrapper; first | (rw [if_pos (by decide +kernel)]; kernel_rfl) | (rw [if_neg (by decide +kernel)]; exact ⟨rfl, rfl⟩))
    (fun os started H enc _ => liftedLexerScans os started H enc)
theorem lexerScans_holds : Rows.LexerScansSaid := lexerScans_row
#print axioms lexerScans_holds
end Go.Proofs.Ytngmadndlmceoaa
