import Derived.Test.YtngmadndlmceoaaLxG
import Derived.Test.YtngmadndlmceoaaLxB
import Derived.Test.YtngmadndlmceoaaGLx1
set_option linter.all false
/- Contracts of chapter 04: the reference's strings. -/
namespace Go.Proofs.Ytngmadndlmceoaa.Fx
open Go Go.Fw Go.Ov Go.Lx
abbrev litAV (r : List UInt8 × Nat × Int) : AV := .tup [.str r.1, .int .i64 (r.2.1 : Int), .int .i64 r.2.2]
set_option maxRecDepth 8000 in
theorem f51_spec (s : List UInt8) (f : Nat) (hf : f < s.length) (hs : s.length ≤ 1099511627776) : PSpec P [] 51 [.str s, .int .i64 (f : Int)] (litAV (litR s f)) := by
  have wf : IntKind.i64.wrap ((f : Int) + 1) = ((f + 1 : Nat) : Int) := by rw [wrapId (by omega)]; omega
  refine pspec_intro hT Try.func51 (by decide) rfl rfl (by kernel_rfl) rfl ?_
  refine Tri.seq (Tri.reg hT ?_)
  refine Tri.seq (Tri.reg hT ?_)
  refine Tri.seq (Tri.reg hT ?_)
  refine Tri.seq (Tri.block ?_)
  refine (Tri.loop (ι := List UInt8 × Nat) (fun x => ⟨90, 0, 20, [(0, .str s), (1, .int .i64 (f : Int)), (7, .own 7 x.1.length), (8, .int .i64 (x.2 : Int))], [(7, .arr (.int .u8) (intsOf x.1))], []⟩) (fun x => x.2 ≤ s.length ∧ x.1.length ≤ x.2 ∧ litS s x.1 x.2 = litS s [] (f + 1)) (fun x => s.length - x.2) (([], f + 1)) ?_ ?_ ?_)
  · exact ⟨hf, Nat.zero_le _, rfl⟩
  · exact Le.trans (Le.own 7 (.int .u8) rfl) (Le.weak rfl rfl rfl rfl ⟨(by first | rfl | exact iv1 (by (try simp only [decide_eq_true_eq, decide_eq_false_iff_not, toNat_cast] at *); omega)), (by first | rfl | exact iv1 (by (try simp only [decide_eq_true_eq, decide_eq_false_iff_not, toNat_cast] at *); omega)), (by first | rfl | exact iv1 (by (try simp only [decide_eq_true_eq, decide_eq_false_iff_not, toNat_cast] at *); omega)), congrArg (AV.int .i64) wf, trivial⟩ ⟨rfl, trivial⟩)
  · intro ⟨acc, a⟩ hi; obtain ⟨hi1, hi2, hi3⟩ := hi; change a ≤ s.length at hi1; change acc.length ≤ a at hi2; change litS s acc a = litS s [] (f + 1) at hi3; have hg := litS_eq (acc := acc) hi1; change Tri P _ _ ⟨90, 0, 20, [(0, .str s), (1, .int .i64 (f : Int)), (7, .own 7 acc.length), (8, .int .i64 (a : Int))], [(7, .arr (.int .u8) (intsOf acc))], []⟩
    refine Tri.seq ?_
    refine Tri.seq (Tri.reg hT ?_)
    refine (Tri.cond ⟨fun h1 => ?_, fun h1 => ?_⟩)
    · refine (Tri.skip ?_)
      refine (Tri.block ?_)
      have hlt : a < s.length := i_lt h1; have w1 : IntKind.i64.wrap ((a : Int) + 1) = ((a + 1 : Nat) : Int) := (by rw [wrapId (by omega)]; omega); have w2 : IntKind.i64.wrap ((a : Int) + 2) = ((a + 2 : Nat) : Int) := (by rw [wrapId (by omega)]; omega); rw [if_neg (by omega)] at hg
      refine Tri.seq (Tri.reg hT ?_)
      refine ⟨by omega, ?_⟩
      refine Tri.seq ?_
      refine Tri.seq (Tri.reg hT ?_)
      refine (Tri.cond ⟨fun h2 => ?_, fun h2 => ?_⟩)
      · have c2 : ch s a = 34 := of_decide_eq_true h2; rw [if_pos c2] at hg; have e0 := litR_yes (hi3.symm.trans hg)
        refine Tri.seq ?_
        refine Tri.seq (Tri.reg hT ?_)
        refine (Tri.cond ⟨fun h3 => ?_, fun h3 => ?_⟩)
        · refine Tri.seq (Tri.reg hT ?_)
          refine Tri.ret ?_
          have e := e0.trans (if_pos (by have := of_decide_eq_true h3; omega)); exact ⟨by rw [e]; rfl, trivial⟩
        · refine (Tri.skip ?_)
          refine Tri.seq (Tri.reg hT ?_)
          refine ⟨by rw [intsOf_len]; exact Nat.le_refl _, ?_⟩
          refine Tri.ret ?_
          have e := e0.trans (if_neg (by have := of_decide_eq_false h3; omega)); have eb : List.map Fw.byteOf ((intsOf acc).take acc.length) = acc := (by rw [List.take_of_length_le (by rw [intsOf_len]; exact Nat.le_refl _), bytes_back]); exact ⟨by rw [e]; show AV.tup [.str (List.map Fw.byteOf ((intsOf acc).take acc.length)), .int .i64 (IntKind.i64.wrap ((a : Int) + 1)), .int .i64 0] = _; rw [eb, w1], trivial⟩
      · refine (Tri.skip ?_)
        have c2 : ¬ ch s a = 34 := of_decide_eq_false h2; rw [if_neg c2] at hg
        refine Tri.seq ?_
        refine Tri.seq (Tri.reg hT ?_)
        refine (Tri.cond ⟨fun h4 => ?_, fun h4 => ?_⟩)
        · have c4 : ch s a = 92 := of_decide_eq_true h4; rw [if_pos c4] at hg
          refine Tri.seq ?_
          refine Tri.seq (Tri.reg hT ?_)
          refine ⟨_, [], trivial, rfl, rfl, fun h => ⟨rfl, rfl, rfl⟩, ?_⟩
          refine ⟨_, [], trivial, rfl, rfl, fun h => ⟨rfl, rfl, rfl⟩, ?_⟩
          refine ⟨_, [], trivial, rfl, rfl, fun h => ⟨h, rfl, rfl, rfl⟩, ?_⟩
          refine ⟨_, [], trivial, rfl, rfl, fun h => ⟨h, h, by simp [gd] at h; rw [w1] at h ⊢; omega, rfl, rfl, rfl⟩, ?_⟩
          refine ⟨_, [], trivial, rfl, rfl, fun h => ⟨h, (.inl ⟨_, fun _ => rfl, f30_spec .., rfl, rfl, rfl⟩)⟩, ?_⟩
          refine ⟨_, [], trivial, rfl, rfl, fun h => ⟨h, rfl, rfl, rfl⟩, ?_⟩
          refine ⟨⟨fun _ => trivial, fun hc => (gn hc)⟩, ?_⟩
          refine (Tri.cond ⟨fun h5 => ?_, fun h5 => ?_⟩)
          · refine Tri.seq (Tri.reg hT ?_)
            refine Tri.ret ?_
            rw [w1, toNat_cast] at h5; have b : a + 1 ≥ s.length ∨ ¬ special (ch s (a + 1)) := (by by_cases q : a + 1 ≥ s.length; exact .inl q; have q2 : decide (((a + 1 : Nat) : Int) ≥ (s.length : Int)) = false := decide_eq_false (by omega); rw [q2] at h5; exact .inr (fun hh => by rw [show decide (((s.getD (a + 1) 0).toNat : Int) = 34 ∨ ((s.getD (a + 1) 0).toNat : Int) = 92 ∨ ((s.getD (a + 1) 0).toNat : Int) = 124) = true from decide_eq_true hh] at h5; exact absurd h5 (by decide))); rw [if_pos b] at hg; have e := litR_no (hi3.symm.trans hg); exact ⟨by rw [e]; show AV.tup [.str [], .int .i64 (IntKind.i64.wrap ((a : Int) + 1)), .int .i64 14] = _; rw [w1], trivial⟩
          · refine (Tri.skip ?_)
            rw [w1, toNat_cast] at h5; have q : ¬ a + 1 ≥ s.length := (fun q => by rw [decide_eq_true (show ((a + 1 : Nat) : Int) ≥ (s.length : Int) by omega)] at h5; simp at h5); have q3 : special (ch s (a + 1)) := (by have q2 : decide (((a + 1 : Nat) : Int) ≥ (s.length : Int)) = false := decide_eq_false (by omega); rw [q2] at h5; exact Classical.byContradiction (fun hh => by rw [show decide (((s.getD (a + 1) 0).toNat : Int) = 34 ∨ ((s.getD (a + 1) 0).toNat : Int) = 92 ∨ ((s.getD (a + 1) 0).toNat : Int) = 124) = false from decide_eq_false hh] at h5; exact absurd h5 (by decide))); rw [if_neg (fun hh => by rcases hh with hh | hh; exact q hh; exact hh q3)] at hg
            refine Tri.seq (Tri.reg hT ?_)
            refine ⟨by rw [w1]; omega, ?_⟩
            refine ⟨(Nat.le_refl _), by show _ ≤ (intsOf acc).length ∧ (_ + 1) * 1 ≤ _ ∧ _ + 1 ≤ _; rw [intsOf_len]; omega, ?_⟩
            refine Tri.seq (Tri.reg hT ?_)
            refine Tri.exit ?_
            exact ⟨(acc ++ [s.getD (a + 1) 0], a + 2), ⟨by show a + 2 ≤ s.length; omega, by show (acc ++ [s.getD (a + 1) 0]).length ≤ a + 2; rw [List.length_append]; show acc.length + 1 ≤ a + 2; omega, hg.symm.trans hi3⟩, (by show s.length - (a + 2) < s.length - a; omega), Le.weak rfl rfl rfl rfl ⟨(by first | rfl | exact iv1 (by (try simp only [decide_eq_true_eq, decide_eq_false_iff_not, toNat_cast] at *); omega)), (by first | rfl | exact iv1 (by (try simp only [decide_eq_true_eq, decide_eq_false_iff_not, toNat_cast] at *); omega)), congrArg (AV.own 7) (by rw [List.length_append]; rfl), congrArg (AV.int .i64) w2, trivial⟩ ⟨congrArg (fun l => some (Chunk.arr (.int .u8) l)) (by rw [w1, toNat_cast]; exact own_one acc _), trivial⟩⟩
        · refine (Tri.skip ?_)
          have c4 : ¬ ch s a = 92 := of_decide_eq_false h4; rw [if_neg c4] at hg
          refine Tri.seq ?_
          refine Tri.seq (Tri.reg hT ?_)
          refine (Tri.cond ⟨fun h6 => ?_, fun h6 => ?_⟩)
          · have c6 : ch s a = 124 := of_decide_eq_true h6; rw [if_pos c6] at hg; have kc := f58_spec s (a + 1) (by omega) hs; rw [← w1] at kc
            refine Tri.seq (Tri.reg hT ?_)
            refine .inl (.inl ⟨_, fun _ => rfl, kc, ?_⟩)
            refine Tri.seq ?_
            refine Tri.seq (Tri.reg hT ?_)
            refine (Tri.cond ⟨fun h7 => ?_, fun h7 => ?_⟩)
            · refine Tri.seq (Tri.reg hT ?_)
              refine Tri.ret ?_
              have g7 : (grpS s [] (a + 1)).2.2 = false := (by simpa using h7); rw [if_pos g7] at hg; have e := litR_no (hi3.symm.trans hg); exact ⟨by rw [e]; rfl, trivial⟩
            · refine (Tri.skip ?_)
              have g7 : (grpS s [] (a + 1)).2.2 = true := (by simpa using h7); rw [if_neg (by rw [g7]; decide)] at hg; have gk := grpS_ok (by omega) g7
              refine Tri.seq (Tri.reg hT ?_)
              refine ⟨by show _ ≤ (intsOf acc).length ∧ (_ + (intsOf (grpS s [] (a + 1)).1).length) * 1 ≤ _ ∧ _ + (intsOf (grpS s [] (a + 1)).1).length ≤ _; rw [intsOf_len, intsOf_len]; omega, ?_⟩
              refine Tri.seq (Tri.reg hT ?_)
              refine Tri.exit ?_
              exact ⟨(acc ++ (grpS s [] (a + 1)).1, (grpS s [] (a + 1)).2.1), ⟨gk.2.1, by show (acc ++ (grpS s [] (a + 1)).1).length ≤ (grpS s [] (a + 1)).2.1; rw [List.length_append]; omega, hg.symm.trans hi3⟩, (by show s.length - (grpS s [] (a + 1)).2.1 < s.length - a; omega), Le.weak rfl rfl rfl rfl ⟨(by first | rfl | exact iv1 (by (try simp only [decide_eq_true_eq, decide_eq_false_iff_not, toNat_cast] at *); omega)), (by first | rfl | exact iv1 (by (try simp only [decide_eq_true_eq, decide_eq_false_iff_not, toNat_cast] at *); omega)), congrArg (AV.own 7) (by show acc.length + (intsOf (grpS s [] (a + 1)).1).length = _; rw [intsOf_len, List.length_append]), (by first | rfl | exact iv1 (by (try simp only [decide_eq_true_eq, decide_eq_false_iff_not, toNat_cast] at *); omega)), trivial⟩ ⟨congrArg (fun l => some (Chunk.arr (.int .u8) l)) (own_more acc _), trivial⟩⟩
          · refine (Tri.skip ?_)
            have c6 : ¬ ch s a = 124 := of_decide_eq_false h6; rw [if_neg c6] at hg
            refine Tri.seq ?_
            refine Tri.seq (Tri.reg hT ?_)
            refine ⟨_, [], trivial, rfl, rfl, fun h => ⟨rfl, rfl, rfl⟩, ?_⟩
            refine ⟨_, [], trivial, rfl, rfl, fun h => ⟨h, rfl, rfl, rfl⟩, ?_⟩
            refine ⟨⟨fun _ => trivial, fun hc => (gn hc)⟩, ?_⟩
            refine (Tri.cond ⟨fun h8 => ?_, fun h8 => ?_⟩)
            · refine Tri.seq (Tri.reg hT ?_)
              refine Tri.ret ?_
              have b : ch s a < 32 ∨ ch s a > 126 := (by change (if decide (ch s a < 32) = true then true else decide (ch s a > 126)) = true at h8; simpa using h8); rw [if_pos b] at hg; have e := litR_no (hi3.symm.trans hg); exact ⟨by rw [e]; rfl, trivial⟩
            · refine (Tri.skip ?_)
              have b : ¬ (ch s a < 32 ∨ ch s a > 126) := (by change (if decide (ch s a < 32) = true then true else decide (ch s a > 126)) = false at h8; simp at h8; omega); rw [if_neg b] at hg
              refine Tri.seq (Tri.reg hT ?_)
              refine ⟨(Nat.le_refl _), by show _ ≤ (intsOf acc).length ∧ (_ + 1) * 1 ≤ _ ∧ _ + 1 ≤ _; rw [intsOf_len]; omega, ?_⟩
              refine (Tri.reg hT ?_)
              exact ⟨(acc ++ [s.getD a 0], a + 1), ⟨by show a + 1 ≤ s.length; omega, by show (acc ++ [s.getD a 0]).length ≤ a + 1; rw [List.length_append]; show acc.length + 1 ≤ a + 1; omega, hg.symm.trans hi3⟩, (by show s.length - (a + 1) < s.length - a; omega), Le.weak rfl rfl rfl rfl ⟨(by first | rfl | exact iv1 (by (try simp only [decide_eq_true_eq, decide_eq_false_iff_not, toNat_cast] at *); omega)), (by first | rfl | exact iv1 (by (try simp only [decide_eq_true_eq, decide_eq_false_iff_not, toNat_cast] at *); omega)), congrArg (AV.own 7) (by rw [List.length_append]; rfl), congrArg (AV.int .i64) w1, trivial⟩ ⟨congrArg (fun l => some (Chunk.arr (.int .u8) l)) (own_one acc _), trivial⟩⟩
    · refine Tri.exit ?_
      refine Tri.seq (Tri.reg hT ?_)
      refine Tri.ret ?_
      have h9 := of_decide_eq_false h1; rw [if_pos (by omega)] at hg; have e := litR_no (hi3.symm.trans hg); exact ⟨by rw [e, show a = s.length by omega]; rfl, trivial⟩
end Go.Proofs.Ytngmadndlmceoaa.Fx
