/- Proved: for every segment, view and two shifts, the statement AcceptShifts of intrusionlaw19 returns true and does not panic. No condition beyond those of the given statement. -/
import Derived.Test.YtfhadpmlbilebaaDoorRw
import Derived.Test.YtfhadpmlbilebaaDoorTie
import Derived.Test.YtfhadpmlbilebaaDoorCards
set_option linter.all false
namespace Go.Proofs.YtfhadpmlbilebaaDoor
open Go Go.Fw Go.Proofs.YtfhadpmlbilebaaDoor.Fx

abbrev argsAcceptShifts : List (Bool × Ty) := [(true, (.cons (.int .i64) (.cons (.int .i64) (.cons (.int .u32) (.cons (.int .u32) (.cons (.int .i64) (.cons (.int .i64) (.cons (.int .i64) (.cons (.list (.cons (.int .i64) (.cons .str .nil))) (.cons .str .nil)))))))))), (true, (.cons .bool (.cons (.int .u32) (.cons (.int .u32) (.cons (.int .i64) (.cons .bool (.cons (.int .u32) .nil))))))), (true, (.cons (.int .u32) (.cons (.int .u32) .nil)))]
theorem liftedAcceptShifts (os : Os) (started : os.Started) (H : Type) (enc : TypeId × Value → H) :
    ReturnsInHanded {} Tryd.checked os 7 .any (fun w args => (Rows.acceptShiftsSpec.pre enc Tryd.prog Tryd.f7 Rows.acceptShiftsRow.domain false w args ∧ laidMet Tryd.prog theLaid w) ∧ sizedMet enc Tryd.prog Tryd.f7 (OpenSpec.ofChange Rows.acceptShiftsSpec) false w args)
      (Rows.acceptShiftsSpec.post enc Tryd.prog Tryd.f7 false true false false) := by
  refine returnsInHanded_of_change_and (C := Tryd.checked) (X := fun w _ => laidMet Tryd.prog theLaid w) (fun _ _ _ hh h => h.of_heap hh) own started (by kernel_rfl) Tryd.func7
    (ChangeSpec.witness_shaped (enc := enc) (C := Tryd.checked) (os := os) (X := fun w _ => laidMet Tryd.prog theLaid w) false (laidWorld os) #[.agg #[.int .i64 0, .int .i64 0, .int .u32 0, .int .u32 0, .int .i64 0, .int .i64 0, .int .i64 0, .slice none 0 0, .string .empty], .agg #[.bool false, .int .u32 0, .int .u32 0, .int .i64 0, .bool false, .int .u32 0], .agg #[.int .u32 0, .int .u32 0]] 8 rfl (World.shaped_of_RefB (by kernel_rfl) (by kernel_rfl)) (by kernel_rfl) (by kernel_rfl) (by kernel_rfl) (laid_met os _)) ?_
  intro W base args ds gs before hval hW _ hsz hL _
  refine law_calls (l := argsAcceptShifts) (tb := 4) laidOut (by kernel_rfl) rfl Tryd.underlying4 rfl (fun ds h => by match ds, h with | [_, _, _], _ => exact ⟨rfl, rfl, rfl⟩) ?_ hval hW hsz (gl_of_laid hL)
  rintro ⟨⟨a, b, s, k, f, w', u, o, p, _⟩, ⟨op, nx, sn, w, st, stamp, _⟩, ⟨b0, b1, _⟩, _⟩ ⟨⟨_, _, gs, _, _, _, _, go, _, _⟩, ⟨_, gn, _, _, _, _, _⟩, _, _⟩
  exact f7_spec a b s k f w' u o p op nx sn w st stamp b0 b1 (len_of go) (fun _ => seg_shift b0 b1 (u32_of gs) (u32_of gn))
theorem acceptShifts_row : Rows.AcceptShiftsSaid :=
  OpenClaim.holds_of_wide 7 Tryd.f7 rfl rfl rfl rfl rfl rfl rfl ⟨rfl, rfl, rfl, rfl, rfl⟩ rfl rfl rfl rfl rfl (by kernel_rfl) Tryd.func7 (by kernel_rfl)
    (of_decide_eq_true (by kernel_rfl)) (by unfold Func.isWrapper; first | (rw [if_pos (by decide +kernel)]; kernel_rfl) | (rw [if_neg (by decide +kernel)]; exact ⟨rfl, rfl⟩))
    (fun os started H enc _ => liftedAcceptShifts os started H enc)
theorem acceptShifts_holds : Rows.AcceptShiftsCardSaid :=
  Claim7.holds_tied_plain_at .later [] [.data] true (true, "08e97c089f51678cac24f7211fe1c2ce0652b76e637cab8d21ad2956079cc1ab") false
    acceptShifts_row (fun _ h => by cases h) (by kernel_rfl) (fun _ h => by cases h) acceptShifts_row_tie rfl ⟨rfl, rfl⟩ (by kernel_rfl) rfl
    (fun f fn hf hfn => by
      obtain rfl : f = 7 := Option.some.inj ((show Tryd.prog.funcNamed "intrusion/intrusionlaw19.AcceptShifts" = some 7 by kernel_rfl).symm.trans hf) |>.symm
      obtain rfl : fn = Tryd.f7 := (Option.some.inj (Tryd.func7.symm.trans hfn)).symm
      exact ⟨by kernel_rfl, fun j t ht => by
        have key : ((List.range Tryd.f7.params.size).all fun j => match Tryd.f7.params[j]? with | some t => !Tryd.prog.wantsStandIn t | none => true) = true := by kernel_rfl
        have hj : j < Tryd.f7.params.size := (Array.getElem?_eq_some_iff.1 ht).1
        have := List.all_eq_true.1 key j (List.mem_range.2 hj)
        rw [ht] at this
        show Tryd.prog.wantsStandIn t = false
        simpa using this⟩)
    (by kernel_rfl)
#print axioms acceptShifts_holds
end Go.Proofs.YtfhadpmlbilebaaDoor
