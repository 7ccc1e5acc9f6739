import Derived.Test.YtchiagnggnblaaaDoorCnSc
import Derived.Test.YtchiagnggnblaaaDoorRw
import Derived.Test.YtchiagnggnblaaaDoorTie
import Derived.Test.YtchiagnggnblaaaDoorCards
set_option linter.all false
/- Proved: for every client, every server, all segments and every two shifts, the statement ConnectionShifts of intrusionlaw21 returns true and does not panic. No condition beyond those of the given statement. -/
namespace Go.Proofs.YtchiagnggnblaaaDoor
open Go Go.Fw Go.Proofs.YtchiagnggnblaaaDoor.Fx

abbrev argsConnectionShifts : List (Bool × Ty) := [(true, (.cons .str (.cons (.cons (.cons .bool (.cons (.int .u64) (.cons (.int .u64) .nil))) (.cons (.int .i64) .nil)) (.cons (.int .i64) (.cons (.int .i64) (.cons (.int .i64) (.cons (.int .i64) (.cons .bool (.cons (.int .i64) (.cons (.list (.cons (.int .i64) (.cons (.int .i64) (.cons (.int .i64) .nil)))) .nil)))))))))), (true, (.cons .str (.cons (.cons (.cons .bool (.cons (.int .u64) (.cons (.int .u64) .nil))) (.cons (.int .i64) .nil)) (.cons (.int .i64) (.cons (.int .i64) (.cons (.int .i64) (.cons (.int .i64) (.cons .bool (.cons (.int .i64) (.cons (.list (.cons (.int .i64) (.cons (.int .i64) (.cons (.int .i64) .nil)))) .nil)))))))))), (true, (.cons (.list (.cons (.int .i64) (.cons (.cons (.int .i64) (.cons (.int .i64) (.cons (.int .u32) (.cons (.int .u32) (.cons (.int .i64) (.cons (.int .i64) (.cons (.int .i64) (.cons (.list (.cons (.int .i64) (.cons .str .nil))) (.cons .str .nil))))))))) .nil))) (.cons (.cons (.int .u32) (.cons (.int .u32) .nil)) .nil)))]
set_option maxRecDepth 16000 in
theorem liftedConnectionShifts (os : Os) (started : os.Started) (H : Type) (enc : TypeId × Value → H) :
    ReturnsInHanded {} Tryd.checked os 6 .any (fun w args => (Rows.connectionShiftsSpec.pre enc Tryd.prog Tryd.f6 Rows.connectionShiftsRow.domain false w args ∧ laidMet Tryd.prog theLaid w) ∧ sizedMet enc Tryd.prog Tryd.f6 (OpenSpec.ofChange Rows.connectionShiftsSpec) false w args)
      (Rows.connectionShiftsSpec.post enc Tryd.prog Tryd.f6 false true false false) := by
  refine returnsInHanded_of_change_and (C := Tryd.checked) (X := fun w _ => laidMet Tryd.prog theLaid w) (fun _ _ _ hh h => h.of_heap hh) own started (by kernel_rfl) Tryd.func6
    (ChangeSpec.witness_shaped (enc := enc) (C := Tryd.checked) (os := os) (X := fun w _ => laidMet Tryd.prog theLaid w) false (laidWorld os) #[.agg #[.string .empty, .bool false, .int .u64 0, .int .u64 0, .int .i64 0, .int .i64 0, .int .i64 0, .int .i64 0, .int .i64 0, .bool false, .int .i64 0, .slice none 0 0], .agg #[.string .empty, .bool false, .int .u64 0, .int .u64 0, .int .i64 0, .int .i64 0, .int .i64 0, .int .i64 0, .int .i64 0, .bool false, .int .i64 0, .slice none 0 0], .agg #[.slice none 0 0, .int .u32 0, .int .u32 0]] 8 rfl (World.shaped_of_RefB (by kernel_rfl) (by kernel_rfl)) (by kernel_rfl) (by kernel_rfl) (by kernel_rfl) (laid_met os _)) ?_
  intro W base args ds gs before hval hW _ hsz hL _
  refine law_calls (l := argsConnectionShifts) (tb := 4) laidOut (by kernel_rfl) rfl Tryd.underlying4 rfl (fun ds h => by match ds, h with | [_, _, _], _ => exact ⟨rfl, rfl, rfl⟩) ?_ hval hW hsz (gl_of_laid hL)
  rintro ⟨⟨cm, ⟨⟨c6, ch, clo, _⟩, cn, _⟩, cp, cf, co, cw, cs, cv, csv, _⟩, ⟨zm, ⟨⟨z6, zh, zlo, _⟩, zn, _⟩, zp, zf, zo, zw, zs, zv, zsv, _⟩, ⟨l, ⟨b0, b1, _⟩, _⟩, _⟩ ⟨_, _, ⟨gl, _, _⟩, _⟩
  exact Ac.f6_spec { nm := zm, v6 := z6, hi := zh, lo := zlo, ln := zn, pol := zp, frag := zf, hops := zo, win := zw, stamps := zs, val := zv, sv := zsv, isn := 0, high := 0, stamped := false, stamp := 0 } { nm := cm, v6 := c6, hi := ch, lo := clo, ln := cn, pol := cp, frag := cf, hops := co, win := cw, stamps := cs, val := cv, sv := csv, isn := 0, high := 0, stamped := false, stamp := 0 } ⟨rfl, rfl, rfl, rfl⟩ ⟨rfl, rfl, rfl, rfl⟩ l (len_ok gl) b0 b1 (fun e he => ⟨u32_of (gl.2 e he).2.1.2.2.1, u32_of (gl.2 e he).2.1.2.2.2.1⟩)
theorem connectionShifts_row : Rows.ConnectionShiftsSaid :=
  OpenClaim.holds_of_wide 6 Tryd.f6 rfl rfl rfl rfl rfl rfl rfl ⟨rfl, rfl, rfl, rfl, rfl⟩ rfl rfl rfl rfl rfl (by kernel_rfl) Tryd.func6 (by kernel_rfl)
    (of_decide_eq_true (by kernel_rfl)) (by unfold Func.isWrapper; first | (rw [if_pos (by decide +kernel)]; kernel_rfl) | (rw [if_neg (by decide +kernel)]; exact ⟨rfl, rfl⟩))
    (fun os started H enc _ => liftedConnectionShifts os started H enc)
theorem connectionShifts_holds : Rows.ConnectionShiftsCardSaid :=
  Claim7.holds_tied_plain_at .later [] [.data] true (true, "2603f26126b3dd7bd0096c27de42724fbd66d1143d38b3d16ac71cca85edd443") false
    connectionShifts_row (fun _ h => by cases h) (by kernel_rfl) (fun _ h => by cases h) connectionShifts_row_tie rfl ⟨rfl, rfl⟩ (by kernel_rfl) rfl
    (fun f fn hf hfn => by
      obtain rfl : f = 6 := Option.some.inj ((show Tryd.prog.funcNamed "intrusion/intrusionlaw21.ConnectionShifts" = some 6 by kernel_rfl).symm.trans hf) |>.symm
      obtain rfl : fn = Tryd.f6 := (Option.some.inj (Tryd.func6.symm.trans hfn)).symm
      exact ⟨by kernel_rfl, fun j t ht => by
        have key : ((List.range Tryd.f6.params.size).all fun j => match Tryd.f6.params[j]? with | some t => !Tryd.prog.wantsStandIn t | none => true) = true := by kernel_rfl
        have hj : j < Tryd.f6.params.size := (Array.getElem?_eq_some_iff.1 ht).1
        have := List.all_eq_true.1 key j (List.mem_range.2 hj)
        rw [ht] at this
        show Tryd.prog.wantsStandIn t = false
        simpa using this⟩)
    (by kernel_rfl)
#print axioms connectionShifts_holds
end Go.Proofs.YtchiagnggnblaaaDoor
