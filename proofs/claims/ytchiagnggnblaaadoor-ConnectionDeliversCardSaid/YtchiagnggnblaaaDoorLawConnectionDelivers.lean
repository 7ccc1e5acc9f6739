import Derived.Test.YtchiagnggnblaaaDoorCnZ
import Derived.Test.YtchiagnggnblaaaDoorRw
import Derived.Test.YtchiagnggnblaaaDoorTie
import Derived.Test.YtchiagnggnblaaaDoorCards
set_option linter.all false
/- Proved: for every text, all cuts, all initial sequence numbers and every policy, the statement ConnectionDelivers of intrusionlaw21 returns true and does not panic. No condition beyond those of the given statement. -/
namespace Go.Proofs.YtchiagnggnblaaaDoor
open Go Go.Fw Go.Proofs.YtchiagnggnblaaaDoor.Fx

abbrev argsConnectionDelivers : List (Bool × Ty) := [(false, .str), (false, (.list (.cons (.int .i64) (.cons (.int .i64) .nil)))), (true, (.cons (.cons (.int .u32) (.cons (.int .u32) .nil)) (.cons (.int .i64) .nil)))]
set_option maxRecDepth 16000 in
theorem liftedConnectionDelivers (os : Os) (started : os.Started) (H : Type) (enc : TypeId × Value → H) :
    ReturnsInHanded {} Tryd.checked os 3 .any (fun w args => (Rows.connectionDeliversSpec.pre enc Tryd.prog Tryd.f3 Rows.connectionDeliversRow.domain false w args ∧ laidMet Tryd.prog theLaid w) ∧ sizedMet enc Tryd.prog Tryd.f3 (OpenSpec.ofChange Rows.connectionDeliversSpec) false w args)
      (Rows.connectionDeliversSpec.post enc Tryd.prog Tryd.f3 false true false false) := by
  refine returnsInHanded_of_change_and (C := Tryd.checked) (X := fun w _ => laidMet Tryd.prog theLaid w) (fun _ _ _ hh h => h.of_heap hh) own started (by kernel_rfl) Tryd.func3
    (ChangeSpec.witness_shaped (enc := enc) (C := Tryd.checked) (os := os) (X := fun w _ => laidMet Tryd.prog theLaid w) false (laidWorld os) #[.string .empty, .slice none 0 0, .agg #[.int .u32 0, .int .u32 0, .int .i64 0]] 8 rfl (World.shaped_of_RefB (by kernel_rfl) (by kernel_rfl)) (by kernel_rfl) (by kernel_rfl) (by kernel_rfl) (laid_met os _)) ?_
  intro W base args ds gs before hval hW _ hsz hL _
  refine law_calls (l := argsConnectionDelivers) (tb := 4) laidOut (by kernel_rfl) rfl Tryd.underlying4 rfl (fun ds h => by match ds, h with | [_, _, _], _ => exact ⟨rfl, rfl, rfl⟩) ?_ hval hW hsz (gl_of_laid hL)
  rintro ⟨s, l, ⟨⟨f0, f1, _⟩, pol, _⟩, _⟩ ⟨_, gl, _, _⟩
  exact Ac.f3_spec s l f0 f1 pol (len_ok gl)
theorem connectionDelivers_row : Rows.ConnectionDeliversSaid :=
  OpenClaim.holds_of_wide 3 Tryd.f3 rfl rfl rfl rfl rfl rfl rfl ⟨rfl, rfl, rfl, rfl, rfl⟩ rfl rfl rfl rfl rfl (by kernel_rfl) Tryd.func3 (by kernel_rfl)
    (of_decide_eq_true (by kernel_rfl)) (by unfold Func.isWrapper; first | (rw [if_pos (by decide +kernel)]; kernel_rfl) | (rw [if_neg (by decide +kernel)]; exact ⟨rfl, rfl⟩))
    (fun os started H enc _ => liftedConnectionDelivers os started H enc)
theorem connectionDelivers_holds : Rows.ConnectionDeliversCardSaid :=
  Claim7.holds_tied_plain_at .later [] [.data] true (true, "2603f26126b3dd7bd0096c27de42724fbd66d1143d38b3d16ac71cca85edd443") false
    connectionDelivers_row (fun _ h => by cases h) (by kernel_rfl) (fun _ h => by cases h) connectionDelivers_row_tie rfl ⟨rfl, rfl⟩ (by kernel_rfl) rfl
    (fun f fn hf hfn => by
      obtain rfl : f = 3 := Option.some.inj ((show Tryd.prog.funcNamed "intrusion/intrusionlaw21.ConnectionDelivers" = some 3 by kernel_rfl).symm.trans hf) |>.symm
      obtain rfl : fn = Tryd.f3 := (Option.some.inj (Tryd.func3.symm.trans hfn)).symm
      exact ⟨by kernel_rfl, fun j t ht => by
        have key : ((List.range Tryd.f3.params.size).all fun j => match Tryd.f3.params[j]? with | some t => !Tryd.prog.wantsStandIn t | none => true) = true := by kernel_rfl
        have hj : j < Tryd.f3.params.size := (Array.getElem?_eq_some_iff.1 ht).1
        have := List.all_eq_true.1 key j (List.mem_range.2 hj)
        rw [ht] at this
        show Tryd.prog.wantsStandIn t = false
        simpa using this⟩)
    (by kernel_rfl)
#print axioms connectionDelivers_holds
end Go.Proofs.YtchiagnggnblaaaDoor
