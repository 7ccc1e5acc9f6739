import Derived.Test.YtchiagnggnblaaaDoorCnW
import Derived.Test.YtchiagnggnblaaaDoorRw
import Derived.Test.YtchiagnggnblaaaDoorTie
import Derived.Test.YtchiagnggnblaaaDoorCards
set_option linter.all false
/- Proved: for every client, every server and all segments, the statement ConnectionOffsets of intrusionlaw21 returns true and does not panic. No condition beyond those of the given statement. -/
namespace Go.Proofs.YtchiagnggnblaaaDoor
open Go Go.Fw Go.Proofs.YtchiagnggnblaaaDoor.Fx

abbrev argsConnectionOffsets : List (Bool × Ty) := [(true, (.cons .str (.cons (.cons (.cons .bool (.cons (.int .u64) (.cons (.int .u64) .nil))) (.cons (.int .i64) .nil)) (.cons (.int .i64) (.cons (.int .i64) (.cons (.int .i64) (.cons (.int .i64) (.cons .bool (.cons (.int .i64) (.cons (.list (.cons (.int .i64) (.cons (.int .i64) (.cons (.int .i64) .nil)))) .nil)))))))))), (true, (.cons .str (.cons (.cons (.cons .bool (.cons (.int .u64) (.cons (.int .u64) .nil))) (.cons (.int .i64) .nil)) (.cons (.int .i64) (.cons (.int .i64) (.cons (.int .i64) (.cons (.int .i64) (.cons .bool (.cons (.int .i64) (.cons (.list (.cons (.int .i64) (.cons (.int .i64) (.cons (.int .i64) .nil)))) .nil)))))))))), (false, (.list (.cons (.int .i64) (.cons (.cons (.int .i64) (.cons (.int .i64) (.cons (.int .u32) (.cons (.int .u32) (.cons (.int .i64) (.cons (.int .i64) (.cons (.int .i64) (.cons (.list (.cons (.int .i64) (.cons .str .nil))) (.cons .str .nil))))))))) .nil))))]
set_option maxRecDepth 16000 in
theorem liftedConnectionOffsets (os : Os) (started : os.Started) (H : Type) (enc : TypeId × Value → H) :
    ReturnsInHanded {} Tryd.checked os 4 .any (fun w args => (Rows.connectionOffsetsSpec.pre enc Tryd.prog Tryd.f4 Rows.connectionOffsetsRow.domain false w args ∧ laidMet Tryd.prog theLaid w) ∧ sizedMet enc Tryd.prog Tryd.f4 (OpenSpec.ofChange Rows.connectionOffsetsSpec) false w args)
      (Rows.connectionOffsetsSpec.post enc Tryd.prog Tryd.f4 false true false false) := by
  refine returnsInHanded_of_change_and (C := Tryd.checked) (X := fun w _ => laidMet Tryd.prog theLaid w) (fun _ _ _ hh h => h.of_heap hh) own started (by kernel_rfl) Tryd.func4
    (ChangeSpec.witness_shaped (enc := enc) (C := Tryd.checked) (os := os) (X := fun w _ => laidMet Tryd.prog theLaid w) false (laidWorld os) #[.agg #[.string .empty, .bool false, .int .u64 0, .int .u64 0, .int .i64 0, .int .i64 0, .int .i64 0, .int .i64 0, .int .i64 0, .bool false, .int .i64 0, .slice none 0 0], .agg #[.string .empty, .bool false, .int .u64 0, .int .u64 0, .int .i64 0, .int .i64 0, .int .i64 0, .int .i64 0, .int .i64 0, .bool false, .int .i64 0, .slice none 0 0], .slice none 0 0] 8 rfl (World.shaped_of_RefB (by kernel_rfl) (by kernel_rfl)) (by kernel_rfl) (by kernel_rfl) (by kernel_rfl) (laid_met os _)) ?_
  intro W base args ds gs before hval hW _ hsz hL _
  refine law_calls (l := argsConnectionOffsets) (tb := 4) laidOut (by kernel_rfl) rfl Tryd.underlying4 rfl (fun ds h => by match ds, h with | [_, _, _], _ => exact ⟨rfl, rfl, rfl⟩) ?_ hval hW hsz (gl_of_laid hL)
  rintro ⟨⟨cm, ⟨⟨c6, ch, clo, _⟩, cn, _⟩, cp, cf, co, cw, cs, cv, csv, _⟩, ⟨zm, ⟨⟨z6, zh, zlo, _⟩, zn, _⟩, zp, zf, zo, zw, zs, zv, zsv, _⟩, l, _⟩ ⟨_, _, gl, _⟩
  exact Ac.f4_spec { nm := zm, v6 := z6, hi := zh, lo := zlo, ln := zn, pol := zp, frag := zf, hops := zo, win := zw, stamps := zs, val := zv, sv := zsv, isn := 0, high := 0, stamped := false, stamp := 0 } { nm := cm, v6 := c6, hi := ch, lo := clo, ln := cn, pol := cp, frag := cf, hops := co, win := cw, stamps := cs, val := cv, sv := csv, isn := 0, high := 0, stamped := false, stamp := 0 } ⟨rfl, rfl, rfl, rfl⟩ ⟨rfl, rfl, rfl, rfl⟩ l (len_ok gl)
theorem connectionOffsets_row : Rows.ConnectionOffsetsSaid :=
  OpenClaim.holds_of_wide 4 Tryd.f4 rfl rfl rfl rfl rfl rfl rfl ⟨rfl, rfl, rfl, rfl, rfl⟩ rfl rfl rfl rfl rfl (by kernel_rfl) Tryd.func4 (by kernel_rfl)
    (of_decide_eq_true (by kernel_rfl)) (by unfold Func.isWrapper; first | (rw [if_pos (by decide +kernel)]; kernel_rfl) | (rw [if_neg (by decide +kernel)]; exact ⟨rfl, rfl⟩))
    (fun os started H enc _ => liftedConnectionOffsets os started H enc)
theorem connectionOffsets_holds : Rows.ConnectionOffsetsCardSaid :=
  Claim7.holds_tied_plain_at .later [] [.data] true (true, "2603f26126b3dd7bd0096c27de42724fbd66d1143d38b3d16ac71cca85edd443") false
    connectionOffsets_row (fun _ h => by cases h) (by kernel_rfl) (fun _ h => by cases h) connectionOffsets_row_tie rfl ⟨rfl, rfl⟩ (by kernel_rfl) rfl
    (fun f fn hf hfn => by
      obtain rfl : f = 4 := Option.some.inj ((show Tryd.prog.funcNamed "intrusion/intrusionlaw21.ConnectionOffsets" = some 4 by kernel_rfl).symm.trans hf) |>.symm
      obtain rfl : fn = Tryd.f4 := (Option.some.inj (Tryd.func4.symm.trans hfn)).symm
      exact ⟨by kernel_rfl, fun j t ht => by
        have key : ((List.range Tryd.f4.params.size).all fun j => match Tryd.f4.params[j]? with | some t => !Tryd.prog.wantsStandIn t | none => true) = true := by kernel_rfl
        have hj : j < Tryd.f4.params.size := (Array.getElem?_eq_some_iff.1 ht).1
        have := List.all_eq_true.1 key j (List.mem_range.2 hj)
        rw [ht] at this
        show Tryd.prog.wantsStandIn t = false
        simpa using this⟩)
    (by kernel_rfl)
#print axioms connectionOffsets_holds
end Go.Proofs.YtchiagnggnblaaaDoor
