/- Proved: for every sequence number, every two sizes and every next number, the statement AcceptCounts of intrusionlaw19 returns true and does not panic. No condition beyond those of the given statement. -/
import Derived.Test.YtfhadpmlbilebaaDoorRw
import Derived.Test.YtfhadpmlbilebaaDoorTie
import Derived.Test.YtfhadpmlbilebaaDoorCards
set_option linter.all false
namespace Go.Proofs.YtfhadpmlbilebaaDoor
open Go Go.Fw Go.Proofs.YtfhadpmlbilebaaDoor.Fx

abbrev argsAcceptCounts : List (Bool × Ty) := [(false, (.int .u32)), (true, (.cons (.int .u8) (.cons (.int .u8) .nil))), (false, (.int .u32))]
theorem liftedAcceptCounts (os : Os) (started : os.Started) (H : Type) (enc : TypeId × Value → H) :
    ReturnsInHanded {} Tryd.checked os 6 .any (fun w args => (Rows.acceptCountsSpec.pre enc Tryd.prog Tryd.f6 Rows.acceptCountsRow.domain false w args ∧ laidMet Tryd.prog theLaid w) ∧ sizedMet enc Tryd.prog Tryd.f6 (OpenSpec.ofChange Rows.acceptCountsSpec) false w args)
      (Rows.acceptCountsSpec.post enc Tryd.prog Tryd.f6 false true false false) := by
  refine returnsInHanded_of_change_and (C := Tryd.checked) (X := fun w _ => laidMet Tryd.prog theLaid w) (fun _ _ _ hh h => h.of_heap hh) own started (by kernel_rfl) Tryd.func6
    (ChangeSpec.witness_shaped (enc := enc) (C := Tryd.checked) (os := os) (X := fun w _ => laidMet Tryd.prog theLaid w) false (laidWorld os) #[.int .u32 0, .agg #[.int .u8 0, .int .u8 0], .int .u32 0] 8 rfl (World.shaped_of_RefB (by kernel_rfl) (by kernel_rfl)) (by kernel_rfl) (by kernel_rfl) (by kernel_rfl) (laid_met os _)) ?_
  intro W base args ds gs before hval hW _ hsz hL _
  refine law_calls (l := argsAcceptCounts) (tb := 4) laidOut (by kernel_rfl) rfl Tryd.underlying4 rfl (fun ds h => by match ds, h with | [_, _, _], _ => exact ⟨rfl, rfl, rfl⟩) ?_ hval hW hsz (gl_of_laid hL)
  rintro ⟨s, ⟨z0, z1, _⟩, nx, _⟩ ⟨gs, ⟨g0, g1, _⟩, gn, _⟩
  obtain ⟨m0, e0, h0⟩ := u8_of g0
  obtain ⟨m1, e1, h1⟩ := u8_of g1
  subst e0
  subst e1
  exact f6_spec s nx m0 m1 h0 h1 (counts_eq s nx _ _ (Nat.mod_lt _ (by decide)) (Nat.mod_lt _ (by decide)) (u32_of gs) (u32_of gn))
theorem acceptCounts_row : Rows.AcceptCountsSaid :=
  OpenClaim.holds_of_wide 6 Tryd.f6 rfl rfl rfl rfl rfl rfl rfl ⟨rfl, rfl, rfl, rfl, rfl⟩ rfl rfl rfl rfl rfl (by kernel_rfl) Tryd.func6 (by kernel_rfl)
    (of_decide_eq_true (by kernel_rfl)) (by unfold Func.isWrapper; first | (rw [if_pos (by decide +kernel)]; kernel_rfl) | (rw [if_neg (by decide +kernel)]; exact ⟨rfl, rfl⟩))
    (fun os started H enc _ => liftedAcceptCounts os started H enc)
theorem acceptCounts_holds : Rows.AcceptCountsCardSaid :=
  Claim7.holds_tied_plain_at .later [] [.data] true (true, "08e97c089f51678cac24f7211fe1c2ce0652b76e637cab8d21ad2956079cc1ab") false
    acceptCounts_row (fun _ h => by cases h) (by kernel_rfl) (fun _ h => by cases h) acceptCounts_row_tie rfl ⟨rfl, rfl⟩ (by kernel_rfl) rfl
    (fun f fn hf hfn => by
      obtain rfl : f = 6 := Option.some.inj ((show Tryd.prog.funcNamed "intrusion/intrusionlaw19.AcceptCounts" = some 6 by kernel_rfl).symm.trans hf) |>.symm
      obtain rfl : fn = Tryd.f6 := (Option.some.inj (Tryd.func6.symm.trans hfn)).symm
      exact ⟨by kernel_rfl, fun j t ht => by
        have key : ((List.range Tryd.f6.params.size).all fun j => match Tryd.f6.params[j]? with | some t => !Tryd.prog.wantsStandIn t | none => true) = true := by kernel_rfl
        have hj : j < Tryd.f6.params.size := (Array.getElem?_eq_some_iff.1 ht).1
        have := List.all_eq_true.1 key j (List.mem_range.2 hj)
        rw [ht] at this
        show Tryd.prog.wantsStandIn t = false
        simpa using this⟩)
    (by kernel_rfl)
#print axioms acceptCounts_holds
end Go.Proofs.YtfhadpmlbilebaaDoor
