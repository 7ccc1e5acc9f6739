import Derived.Test.YtngmadndlmceoaaLxS
import Derived.Test.YtngmadndlmceoaaRw
set_option linter.all false
/- Proved: for every list of tokens, the statement LexerRoundTrip of intrusionlaw04 returns true and does not panic. No condition beyond those of the given statement. -/
namespace Go.Proofs.Ytngmadndlmceoaa
open Go Go.Fw Go.Proofs.Ytngmadndlmceoaa.Fx

abbrev argsLexerRoundTrip : List (Bool × Ty) := [(false, (.list (.cons (.int .i64) (.cons .str (.cons (.int .i64) .nil)))))]
theorem liftedLexerRoundTrip (os : Os) (started : os.Started) (H : Type) (enc : TypeId × Value → H) :
    ReturnsInHanded {} Try.checked os 8 .any (Rows.lexerRoundTripSpec.pre6 enc Try.prog Try.f8 Rows.lexerRoundTripRow.domain false) (Rows.lexerRoundTripSpec.post enc Try.prog Try.f8 false true false false) := by
  refine returnsInHanded_of_change_sized (C := Try.checked) own started (by kernel_rfl) Try.func8
    (ChangeSpec.witness6 (enc := enc) (C := Try.checked) false ⟨#[], #[.slice none 0 0], []⟩ 8 (by kernel_rfl) (by kernel_rfl) (by kernel_rfl) (by kernel_rfl)) ?_
  intro W base args ds gs before hval hW _ hsz _
  refine law_calls (l := argsLexerRoundTrip) (tb := 4) laidOut (by kernel_rfl) rfl Try.underlying4 rfl (fun ds h => by match ds, h with | [_], _ => exact ⟨rfl, rfl, rfl⟩) ?_ hval hW hsz glOK_nil
  rintro ⟨l, _⟩ ⟨hl, _⟩
  exact f8_spec l (Nat.le_trans (slen_of hl) (by decide))
theorem lexerRoundTrip_row : Rows.LexerRoundTripSaid :=
  OpenClaim.holds_of_wide 8 Try.f8 rfl rfl rfl rfl rfl rfl rfl ⟨rfl, rfl, rfl, rfl, rfl⟩ rfl rfl rfl rfl rfl (by kernel_rfl) Try.func8 (by kernel_rfl)
    (of_decide_eq_true (by kernel_rfl)) (by unfold Func.isWrapper; first | (rw [if_pos (by decide +kernel)]; kernel_rfl) | (rw [if_neg (by decide +kernel)]; exact ⟨rfl, rfl⟩))
    (fun os started H enc _ => liftedLexerRoundTrip os started H enc)
theorem lexerRoundTrip_holds : Rows.LexerRoundTripSaid := lexerRoundTrip_row
#print axioms lexerRoundTrip_holds
end Go.Proofs.Ytngmadndlmceoaa
