/- Proved: for every sequence number, length and view, the statement AcceptWithin of intrusionlaw19 returns true and does not panic. No condition beyond those of the given statement. -/
import Derived.Test.YtfhadpmlbilebaaDoorRw
import Derived.Test.YtfhadpmlbilebaaDoorTie
import Derived.Test.YtfhadpmlbilebaaDoorCards
set_option linter.all false
namespace Go.Proofs.YtfhadpmlbilebaaDoor
open Go Go.Fw Go.Proofs.YtfhadpmlbilebaaDoor.Fx

abbrev argsAcceptWithin : List (Bool × Ty) := [(false, (.int .u32)), (false, (.int .i64)), (true, (.cons .bool (.cons (.int .u32) (.cons (.int .u32) (.cons (.int .i64) (.cons .bool (.cons (.int .u32) .nil)))))))]
theorem liftedAcceptWithin (os : Os) (started : os.Started) (H : Type) (enc : TypeId × Value → H) :
    ReturnsInHanded {} Tryd.checked os 5 .any (fun w args => (Rows.acceptWithinSpec.pre enc Tryd.prog Tryd.f5 Rows.acceptWithinRow.domain false w args ∧ laidMet Tryd.prog theLaid w) ∧ sizedMet enc Tryd.prog Tryd.f5 (OpenSpec.ofChange Rows.acceptWithinSpec) false w args)
      (Rows.acceptWithinSpec.post enc Tryd.prog Tryd.f5 false true false false) := by
  refine returnsInHanded_of_change_and (C := Tryd.checked) (X := fun w _ => laidMet Tryd.prog theLaid w) (fun _ _ _ hh h => h.of_heap hh) own started (by kernel_rfl) Tryd.func5
    (ChangeSpec.witness_shaped (enc := enc) (C := Tryd.checked) (os := os) (X := fun w _ => laidMet Tryd.prog theLaid w) false (laidWorld os) #[.int .u32 0, .int .i64 0, .agg #[.bool false, .int .u32 0, .int .u32 0, .int .i64 0, .bool false, .int .u32 0]] 8 rfl (World.shaped_of_RefB (by kernel_rfl) (by kernel_rfl)) (by kernel_rfl) (by kernel_rfl) (by kernel_rfl) (laid_met os _)) ?_
  intro W base args ds gs before hval hW _ hsz hL _
  refine law_calls (l := argsAcceptWithin) (tb := 4) laidOut (by kernel_rfl) rfl Tryd.underlying4 rfl (fun ds h => by match ds, h with | [_, _, _], _ => exact ⟨rfl, rfl, rfl⟩) ?_ hval hW hsz (gl_of_laid hL)
  rintro ⟨s, n, ⟨op, nx, sn, w, st, stamp, _⟩, _⟩ ⟨gs, _, ⟨_, gn, _, _, _, _, _⟩, _⟩
  exact f5_spec s n op nx sn w st stamp (within_eq (u32_of gs) (u32_of gn))
theorem acceptWithin_row : Rows.AcceptWithinSaid :=
  OpenClaim.holds_of_wide 5 Tryd.f5 rfl rfl rfl rfl rfl rfl rfl ⟨rfl, rfl, rfl, rfl, rfl⟩ rfl rfl rfl rfl rfl (by kernel_rfl) Tryd.func5 (by kernel_rfl)
    (of_decide_eq_true (by kernel_rfl)) (by unfold Func.isWrapper; first | (rw [if_pos (by decide +kernel)]; kernel_rfl) | (rw [if_neg (by decide +kernel)]; exact ⟨rfl, rfl⟩))
    (fun os started H enc _ => liftedAcceptWithin os started H enc)
theorem acceptWithin_holds : Rows.AcceptWithinCardSaid :=
  Claim7.holds_tied_plain_at .later [] [.data] true (true, "08e97c089f51678cac24f7211fe1c2ce0652b76e637cab8d21ad2956079cc1ab") false
    acceptWithin_row (fun _ h => by cases h) (by kernel_rfl) (fun _ h => by cases h) acceptWithin_row_tie rfl ⟨rfl, rfl⟩ (by kernel_rfl) rfl
    (fun f fn hf hfn => by
      obtain rfl : f = 5 := Option.some.inj ((show Tryd.prog.funcNamed "intrusion/intrusionlaw19.AcceptWithin" = some 5 by kernel_rfl).symm.trans hf) |>.symm
      obtain rfl : fn = Tryd.f5 := (Option.some.inj (Tryd.func5.symm.trans hfn)).symm
      exact ⟨by kernel_rfl, fun j t ht => by
        have key : ((List.range Tryd.f5.params.size).all fun j => match Tryd.f5.params[j]? with | some t => !Tryd.prog.wantsStandIn t | none => true) = true := by kernel_rfl
        have hj : j < Tryd.f5.params.size := (Array.getElem?_eq_some_iff.1 ht).1
        have := List.all_eq_true.1 key j (List.mem_range.2 hj)
        rw [ht] at this
        show Tryd.prog.wantsStandIn t = false
        simpa using this⟩)
    (by kernel_rfl)
#print axioms acceptWithin_holds
end Go.Proofs.YtfhadpmlbilebaaDoor
