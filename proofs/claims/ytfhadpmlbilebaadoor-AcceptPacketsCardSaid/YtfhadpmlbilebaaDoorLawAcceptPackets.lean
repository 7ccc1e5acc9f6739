/- Proved: for all flags and every packet, the statement AcceptPackets of intrusionlaw19 returns true and does not panic. No condition beyond those of the given statement. -/
import Derived.Test.YtfhadpmlbilebaaDoorRw
import Derived.Test.YtfhadpmlbilebaaDoorTie
import Derived.Test.YtfhadpmlbilebaaDoorCards
set_option linter.all false
namespace Go.Proofs.YtfhadpmlbilebaaDoor
open Go Go.Fw Go.Proofs.YtfhadpmlbilebaaDoor.Fx

abbrev argsAcceptPackets : List (Bool × Ty) := [(true, (.cons (.int .i64) (.cons (.int .i64) (.cons .bool .nil)))), (true, (.cons .str (.cons (.cons (.cons .bool (.cons (.int .u64) (.cons (.int .u64) .nil))) (.cons (.int .i64) .nil)) (.cons (.int .i64) (.cons (.int .i64) (.cons (.int .i64) (.cons (.int .i64) (.cons .bool (.cons (.int .i64) (.cons (.list (.cons (.int .i64) (.cons (.int .i64) (.cons (.int .i64) .nil)))) .nil))))))))))]
theorem liftedAcceptPackets (os : Os) (started : os.Started) (H : Type) (enc : TypeId × Value → H) :
    ReturnsInHanded {} Tryd.checked os 3 .any (fun w args => (Rows.acceptPacketsSpec.pre enc Tryd.prog Tryd.f3 Rows.acceptPacketsRow.domain false w args ∧ laidMet Tryd.prog theLaid w) ∧ sizedMet enc Tryd.prog Tryd.f3 (OpenSpec.ofChange Rows.acceptPacketsSpec) false w args)
      (Rows.acceptPacketsSpec.post enc Tryd.prog Tryd.f3 false true false false) := by
  refine returnsInHanded_of_change_and (C := Tryd.checked) (X := fun w _ => laidMet Tryd.prog theLaid w) (fun _ _ _ hh h => h.of_heap hh) own started (by kernel_rfl) Tryd.func3
    (ChangeSpec.witness_shaped (enc := enc) (C := Tryd.checked) (os := os) (X := fun w _ => laidMet Tryd.prog theLaid w) false (laidWorld os) #[.agg #[.int .i64 0, .int .i64 0, .bool false], .agg #[.string .empty, .bool false, .int .u64 0, .int .u64 0, .int .i64 0, .int .i64 0, .int .i64 0, .int .i64 0, .int .i64 0, .bool false, .int .i64 0, .slice none 0 0]] 8 rfl (World.shaped_of_RefB (by kernel_rfl) (by kernel_rfl)) (by kernel_rfl) (by kernel_rfl) (by kernel_rfl) (laid_met os _)) ?_
  intro W base args ds gs before hval hW _ hsz hL _
  refine law_calls (l := argsAcceptPackets) (tb := 4) laidOut (by kernel_rfl) rfl Tryd.underlying4 rfl (fun ds h => by match ds, h with | [_, _], _ => exact ⟨rfl, rfl, rfl⟩) ?_ hval hW hsz (gl_of_laid hL)
  rintro ⟨⟨f, t, r, _⟩, ⟨nm, ⟨⟨v6, ahi, alo, _⟩, ln, _⟩, pol, frag, hops, win, stamps, val, sv, _⟩, _⟩ _
  exact f3_spec f t r nm v6 ahi alo ln pol frag hops win stamps val sv (flags_eq f)
theorem acceptPackets_row : Rows.AcceptPacketsSaid :=
  OpenClaim.holds_of_wide 3 Tryd.f3 rfl rfl rfl rfl rfl rfl rfl ⟨rfl, rfl, rfl, rfl, rfl⟩ rfl rfl rfl rfl rfl (by kernel_rfl) Tryd.func3 (by kernel_rfl)
    (of_decide_eq_true (by kernel_rfl)) (by unfold Func.isWrapper; first | (rw [if_pos (by decide +kernel)]; kernel_rfl) | (rw [if_neg (by decide +kernel)]; exact ⟨rfl, rfl⟩))
    (fun os started H enc _ => liftedAcceptPackets os started H enc)
theorem acceptPackets_holds : Rows.AcceptPacketsCardSaid :=
  Claim7.holds_tied_plain_at .later [] [.data] true (true, "08e97c089f51678cac24f7211fe1c2ce0652b76e637cab8d21ad2956079cc1ab") false
    acceptPackets_row (fun _ h => by cases h) (by kernel_rfl) (fun _ h => by cases h) acceptPackets_row_tie rfl ⟨rfl, rfl⟩ (by kernel_rfl) rfl
    (fun f fn hf hfn => by
      obtain rfl : f = 3 := Option.some.inj ((show Tryd.prog.funcNamed "intrusion/intrusionlaw19.AcceptPackets" = some 3 by kernel_rfl).symm.trans hf) |>.symm
      obtain rfl : fn = Tryd.f3 := (Option.some.inj (Tryd.func3.symm.trans hfn)).symm
      exact ⟨by kernel_rfl, fun j t ht => by
        have key : ((List.range Tryd.f3.params.size).all fun j => match Tryd.f3.params[j]? with | some t => !Tryd.prog.wantsStandIn t | none => true) = true := by kernel_rfl
        have hj : j < Tryd.f3.params.size := (Array.getElem?_eq_some_iff.1 ht).1
        have := List.all_eq_true.1 key j (List.mem_range.2 hj)
        rw [ht] at this
        show Tryd.prog.wantsStandIn t = false
        simpa using this⟩)
    (by kernel_rfl)
#print axioms acceptPackets_holds
end Go.Proofs.YtfhadpmlbilebaaDoor
