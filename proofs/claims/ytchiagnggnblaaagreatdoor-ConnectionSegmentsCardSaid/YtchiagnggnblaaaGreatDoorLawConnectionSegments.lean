import Derived.Test.YtchiagnggnblaaaGreatDoorSgL
import Derived.Test.YtchiagnggnblaaaGreatDoorRw
import Derived.Test.YtchiagnggnblaaaGreatDoorTie
import Derived.Test.YtchiagnggnblaaaGreatDoorCards
set_option linter.all false
/- Proved: for every client, every server and all segments, the statement ConnectionSegments of intrusionlaw21 returns true and does not panic. No condition beyond those of the given statement. -/
namespace Go.Proofs.YtchiagnggnblaaaGreatDoor
open Go Go.Fw Go.Proofs.YtchiagnggnblaaaGreatDoor.Fx

abbrev argsConnectionSegments : List (Bool × Ty) := [(true, (.cons .str (.cons (.cons (.cons .bool (.cons (.int .u64) (.cons (.int .u64) .nil))) (.cons (.int .i64) .nil)) (.cons (.int .i64) (.cons (.int .i64) (.cons (.int .i64) (.cons (.int .i64) (.cons .bool (.cons (.int .i64) (.cons (.list (.cons (.int .i64) (.cons (.int .i64) (.cons (.int .i64) .nil)))) .nil)))))))))), (true, (.cons .str (.cons (.cons (.cons .bool (.cons (.int .u64) (.cons (.int .u64) .nil))) (.cons (.int .i64) .nil)) (.cons (.int .i64) (.cons (.int .i64) (.cons (.int .i64) (.cons (.int .i64) (.cons .bool (.cons (.int .i64) (.cons (.list (.cons (.int .i64) (.cons (.int .i64) (.cons (.int .i64) .nil)))) .nil)))))))))), (false, (.list (.cons (.int .i64) (.cons (.cons (.int .i64) (.cons (.int .i64) (.cons (.int .u32) (.cons (.int .u32) (.cons (.int .i64) (.cons (.int .i64) (.cons (.int .i64) (.cons (.list (.cons (.int .i64) (.cons .str .nil))) (.cons .str .nil))))))))) .nil))))]
set_option maxRecDepth 16000 in
theorem liftedConnectionSegments (os : Os) (started : os.Started) (H : Type) (enc : TypeId × Value → H) :
    ReturnsInHanded {} Tryz.checked os 3 .any (fun w args => (Rows.connectionSegmentsSpec.pre enc Tryz.prog Tryz.f3 Rows.connectionSegmentsRow.domain false w args ∧ laidMet Tryz.prog theLaid w) ∧ sizedMet enc Tryz.prog Tryz.f3 (OpenSpec.ofChange Rows.connectionSegmentsSpec) false w args)
      (Rows.connectionSegmentsSpec.post enc Tryz.prog Tryz.f3 false true false false) := by
  refine returnsInHanded_of_change_and (C := Tryz.checked) (X := fun w _ => laidMet Tryz.prog theLaid w) (fun _ _ _ hh h => h.of_heap hh) own started (by kernel_rfl) Tryz.func3
    (ChangeSpec.witness_shaped (enc := enc) (C := Tryz.checked) (os := os) (X := fun w _ => laidMet Tryz.prog theLaid w) false (laidWorld os) #[.agg #[.string .empty, .bool false, .int .u64 0, .int .u64 0, .int .i64 0, .int .i64 0, .int .i64 0, .int .i64 0, .int .i64 0, .bool false, .int .i64 0, .slice none 0 0], .agg #[.string .empty, .bool false, .int .u64 0, .int .u64 0, .int .i64 0, .int .i64 0, .int .i64 0, .int .i64 0, .int .i64 0, .bool false, .int .i64 0, .slice none 0 0], .slice none 0 0] 8 rfl (World.shaped_of_RefB (by kernel_rfl) (by kernel_rfl)) (by kernel_rfl) (by kernel_rfl) (by kernel_rfl) (laid_met os _)) ?_
  intro W base args ds gs before hval hW _ hsz hL _
  refine law_calls (l := argsConnectionSegments) (tb := 4) laidOut (by kernel_rfl) rfl Tryz.underlying4 rfl (fun ds h => by match ds, h with | [_, _, _], _ => exact ⟨rfl, rfl, rfl⟩) ?_ hval hW hsz (gl_of_laid hL)
  rintro ⟨⟨cm, ⟨⟨c6, ch, clo, _⟩, cn, _⟩, cp, cf, co, cw, cs, cv, csv, _⟩, ⟨zm, ⟨⟨z6, zh, zlo, _⟩, zn, _⟩, zp, zf, zo, zw, zs, zv, zsv, _⟩, l, _⟩ ⟨_, _, gl, _⟩
  exact Ac.f3_spec { nm := zm, v6 := z6, hi := zh, lo := zlo, ln := zn, pol := zp, frag := zf, hops := zo, win := zw, stamps := zs, val := zv, sv := zsv, isn := 0, high := 0, stamped := false, stamp := 0 } { nm := cm, v6 := c6, hi := ch, lo := clo, ln := cn, pol := cp, frag := cf, hops := co, win := cw, stamps := cs, val := cv, sv := csv, isn := 0, high := 0, stamped := false, stamp := 0 } ⟨rfl, rfl, rfl, rfl⟩ ⟨rfl, rfl, rfl, rfl⟩ l (len_ok gl) (fun e he => u32_of (gl.2 e he).2.1.2.2.1)
theorem connectionSegments_row : Rows.ConnectionSegmentsSaid :=
  OpenClaim.holds_of_wide 3 Tryz.f3 rfl rfl rfl rfl rfl rfl rfl ⟨rfl, rfl, rfl, rfl, rfl⟩ rfl rfl rfl rfl rfl (by kernel_rfl) Tryz.func3 (by kernel_rfl)
    (of_decide_eq_true (by kernel_rfl)) (by unfold Func.isWrapper; first | (rw [if_pos (by decide +kernel)]; kernel_rfl) | (rw [if_neg (by decide +kernel)]; exact ⟨rfl, rfl⟩))
    (fun os started H enc _ => liftedConnectionSegments os started H enc)
theorem connectionSegments_holds : Rows.ConnectionSegmentsCardSaid :=
  Claim7.holds_tied_plain_at .later [] [.data] true (true, "576aa4585e20431edbcf385a5c2d4409c88260c9d78c6ddff12c6d153e049a95") false
    connectionSegments_row (fun _ h => by cases h) (by kernel_rfl) (fun _ h => by cases h) connectionSegments_row_tie rfl ⟨rfl, rfl⟩ (by kernel_rfl) rfl
    (fun f fn hf hfn => by
      obtain rfl : f = 3 := Option.some.inj ((show Tryz.prog.funcNamed "intrusion/intrusionlaw21.ConnectionSegments" = some 3 by kernel_rfl).symm.trans hf) |>.symm
      obtain rfl : fn = Tryz.f3 := (Option.some.inj (Tryz.func3.symm.trans hfn)).symm
      exact ⟨by kernel_rfl, fun j t ht => by
        have key : ((List.range Tryz.f3.params.size).all fun j => match Tryz.f3.params[j]? with | some t => !Tryz.prog.wantsStandIn t | none => true) = true := by kernel_rfl
        have hj : j < Tryz.f3.params.size := (Array.getElem?_eq_some_iff.1 ht).1
        have := List.all_eq_true.1 key j (List.mem_range.2 hj)
        rw [ht] at this
        show Tryz.prog.wantsStandIn t = false
        simpa using this⟩)
    (by kernel_rfl)
#print axioms connectionSegments_holds
end Go.Proofs.YtchiagnggnblaaaGreatDoor
