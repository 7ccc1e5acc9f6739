import Derived.Test.YtngmadndlmceoaaLxE
set_option linter.all false
/- Contracts of chapter 04: groups of bytes. -/
namespace Go.Proofs.Ytngmadndlmceoaa.Fx
open Go Go.Fw Go.Ov Go.Lx
set_option maxRecDepth 8000 in
theorem f56_spec (s : List UInt8) (a0 : Nat) (ha : a0 ≤ s.length) (hs : s.length ≤ 1099511627776) : PSpec P [] 56 [.str s, .int .i64 (a0 : Int)] (.tup [.str (grpS s [] a0).1, .int .i64 ((grpS s [] a0).2.1 : Int), .bool (grpS s [] a0).2.2]) := by
  refine pspec_intro hT Try.func56 (by decide) rfl rfl (by kernel_rfl) rfl ?_
  refine Tri.seq (Tri.reg hT ?_)
  refine Tri.seq (Tri.reg hT ?_)
  refine (Tri.block ?_)
  refine (Tri.loop (ι := List UInt8 × Nat) (fun x => ⟨80, 0, 20, [(0, .str s), (1, .int .i64 (x.2 : Int)), (7, .own 4 x.1.length)], [(4, .arr (.int .u8) (intsOf x.1))], []⟩) (fun x => x.2 ≤ s.length ∧ x.1.length ≤ x.2 ∧ grpS s x.1 x.2 = grpS s [] a0) (fun x => s.length - x.2) (([], a0)) ?_ ?_ ?_)
  · exact ⟨ha, Nat.zero_le _, rfl⟩
  · exact Le.trans (Le.own 7 (.int .u8) rfl) (Le.weak rfl rfl rfl rfl ⟨(by first | rfl | exact iv1 (by (try simp only [decide_eq_true_eq, decide_eq_false_iff_not, toNat_cast] at *); omega)), (by first | rfl | exact iv1 (by (try simp only [decide_eq_true_eq, decide_eq_false_iff_not, toNat_cast] at *); omega)), (by first | rfl | exact iv1 (by (try simp only [decide_eq_true_eq, decide_eq_false_iff_not, toNat_cast] at *); omega)), trivial⟩ ⟨rfl, trivial⟩)
  · intro ⟨acc, a⟩ hi; obtain ⟨hi1, hi2, hi3⟩ := hi; change a ≤ s.length at hi1; change acc.length ≤ a at hi2; change grpS s acc a = grpS s [] a0 at hi3; have hg := grpS_eq (acc := acc) hi1; change Tri P _ _ ⟨80, 0, 20, [(0, .str s), (1, .int .i64 (a : Int)), (7, .own 4 acc.length)], [(4, .arr (.int .u8) (intsOf acc))], []⟩
    refine (Tri.block ?_)
    refine Tri.seq ?_
    refine Tri.seq (Tri.reg hT ?_)
    refine (Tri.block ?_)
    refine (Tri.loop (ι := Nat) (fun k => ⟨80, 0, 30, [(0, .str s), (1, .int .i64 (a : Int)), (7, .own 4 acc.length), (9, .int .i64 (k : Int))], [(4, .arr (.int .u8) (intsOf acc))], []⟩) (fun k => k ≤ 2 ∧ ∀ j, j < k → noHex s (a + j) = false) (fun k => 2 - k) (0) ?_ ?_ ?_)
    · exact ⟨Nat.zero_le _, fun j hj => absurd hj (Nat.not_lt_zero _)⟩
    · exact Le.weak rfl rfl rfl rfl ⟨(by first | rfl | exact iv1 (by (try simp only [decide_eq_true_eq, decide_eq_false_iff_not, toNat_cast] at *); omega)), (by first | rfl | exact iv1 (by (try simp only [decide_eq_true_eq, decide_eq_false_iff_not, toNat_cast] at *); omega)), (by first | rfl | exact iv1 (by (try simp only [decide_eq_true_eq, decide_eq_false_iff_not, toNat_cast] at *); omega)), (by first | rfl | exact iv1 (by (try simp only [decide_eq_true_eq, decide_eq_false_iff_not, toNat_cast] at *); omega)), trivial⟩ ⟨rfl, trivial⟩
    · intro k hk
      refine Tri.seq (Tri.reg hT ?_)
      refine Tri.seq (Tri.cond ⟨fun h1 => ?_, fun h1 => ?_⟩)
      · refine (Tri.skip ?_)
        refine Tri.seq (Tri.block ?_)
        refine Tri.seq (Tri.reg hT ?_)
        have hk' : k < 2 := (by have := of_decide_eq_true h1; omega); have w : IntKind.i64.wrap ((a : Int) + (k : Int)) = ((a + k : Nat) : Int) := (by rw [wrapId (by omega)]; omega)
        refine Tri.seq (Tri.reg hT ?_)
        refine ⟨_, [], trivial, rfl, rfl, fun h => ⟨rfl, rfl, rfl⟩, ?_⟩
        refine ⟨_, [], trivial, rfl, rfl, fun h => ⟨rfl, rfl, rfl⟩, ?_⟩
        refine ⟨_, [], trivial, rfl, rfl, fun h => ⟨rfl, rfl, rfl⟩, ?_⟩
        refine ⟨_, [], trivial, rfl, rfl, fun h => ⟨h, h, rfl, rfl, rfl⟩, ?_⟩
        refine ⟨_, [], trivial, rfl, rfl, fun h => ⟨h, h, by simp [gd] at h; omega, rfl, rfl, rfl⟩, ?_⟩
        refine ⟨_, [], trivial, rfl, rfl, fun h => ⟨h, (.inl ⟨_, fun _ => rfl, f61_spec _ (ch_rng s _), rfl, rfl, rfl⟩)⟩, ?_⟩
        refine ⟨_, [], trivial, rfl, rfl, fun h => ⟨h, rfl, rfl, rfl⟩, ?_⟩
        refine ⟨⟨fun _ => trivial, fun hc => (gn hc)⟩, ?_⟩
        refine (Tri.cond ⟨fun h2 => ?_, fun h2 => ?_⟩)
        · refine Tri.seq (Tri.reg hT ?_)
          refine Tri.ret ?_
          rw [w, toNat_cast] at h2; have e2 : noHex s (a + k) = true := (noHex_eq s (a + k)).symm.trans h2; have hak : a + k ≤ s.length := (by rcases (by omega : k = 0 ∨ k = 1) with rfl | rfl; omega; have := noHex_lt (hk.2 0 (by omega)); omega); have e : grpS s [] a0 = ([], a + k, false) := (by rw [← hi3, hg]; rcases (by omega : k = 0 ∨ k = 1) with rfl | rfl; exact if_pos e2; have n0 : ¬ noHex s a = true := (by have := hk.2 0 (by omega); rw [show a + 0 = a from rfl] at this; rw [this]; decide); rw [if_neg n0, if_pos e2]); exact ⟨by rw [e]; show AV.tup [.str [], .int .i64 (min (IntKind.i64.wrap ((a : Int) + (k : Int))) (s.length : Int)), .bool false] = _; rw [w, show min ((a + k : Nat) : Int) (s.length : Int) = ((a + k : Nat) : Int) by omega], trivial⟩
        · refine (Tri.skip ?_)
          refine (Tri.reg hT ?_)
          rw [w, toNat_cast] at h2; have e2 : noHex s (a + k) = false := (noHex_eq s (a + k)).symm.trans h2
          exact ⟨k + 1, ⟨by omega, fun j hj => by rcases Nat.lt_or_ge j k with h9 | h9; exact hk.2 j h9; obtain rfl : j = k := (by omega); exact e2⟩, (by omega), Le.weak rfl rfl rfl rfl ⟨(by first | rfl | exact iv1 (by (try simp only [decide_eq_true_eq, decide_eq_false_iff_not, toNat_cast] at *); omega)), (by first | rfl | exact iv1 (by (try simp only [decide_eq_true_eq, decide_eq_false_iff_not, toNat_cast] at *); omega)), (by first | rfl | exact iv1 (by (try simp only [decide_eq_true_eq, decide_eq_false_iff_not, toNat_cast] at *); omega)), (by first | rfl | exact iv1 (by (try simp only [decide_eq_true_eq, decide_eq_false_iff_not, toNat_cast] at *); omega)), trivial⟩ ⟨rfl, trivial⟩⟩
      · refine Tri.exit ?_
        have n0 : noHex s a = false := hk.2 0 (by have := of_decide_eq_false h1; omega); have n1 : noHex s (a + 1) = false := hk.2 1 (by have := of_decide_eq_false h1; omega); have l0 := noHex_lt n0; have l1 := noHex_lt n1; have w1 : IntKind.i64.wrap ((a : Int) + 1) = ((a + 1 : Nat) : Int) := (by rw [wrapId (by omega)]; omega); have w2 : IntKind.i64.wrap ((a : Int) + 2) = ((a + 2 : Nat) : Int) := (by rw [wrapId (by omega)]; omega); have w3 : IntKind.i64.wrap (((a + 2 : Nat) : Int) + 1) = ((a + 3 : Nat) : Int) := (by rw [wrapId (by omega)]; omega); rw [if_neg (by rw [n0]; decide), if_neg (by rw [n1]; decide)] at hg
        refine Tri.seq (Tri.drw hT hm 14 (by kernel_rfl) ?_)
        refine ⟨by omega, ?_⟩
        refine .inl ⟨_, fun _ => rfl, f61_spec _ (ch_rng s _), ?_⟩
        refine ⟨(by decide), ?_⟩
        refine ⟨by rw [w1]; omega, ?_⟩
        refine .inl ⟨_, fun _ => rfl, f61_spec _ (ch_rng s _), ?_⟩
        refine ⟨by kernel_rfl, ?_⟩
        refine ⟨(Nat.le_refl _), by show _ ≤ (intsOf acc).length ∧ (_ + 1) * 1 ≤ _ ∧ _ + 1 ≤ _; rw [intsOf_len]; omega, ?_⟩
        have r0 := hexC_rng (ch s a); have r1 := hexC_rng (ch s (a + 1)); have eX : IntKind.u8.wrap (bitop IntKind.i64 BinOp.or (IntKind.i64.wrap (hexC (ch s a) * 2 ^ min (Int.toNat 4) IntKind.i64.bits)) (hexC ((s.getD (IntKind.i64.wrap ((a : Int) + 1)).toNat 0).toNat : Int))) = ((twoHex s a).toNat : Int) := (by rw [twoHex_nat n0 n1, w1, toNat_cast]; exact or_hex ⟨l0.2, r0.2⟩ ⟨l1.2, r1.2⟩); have hL : (intsOf acc).take acc.length = intsOf acc := (by rw [← intsOf_len acc, List.take_length]); have eY : (intsOf acc).take acc.length ++ [((twoHex s a).toNat : Int)] = intsOf (acc ++ [twoHex s a]) := (by rw [hL, intsOf_app]; rfl); rw [← eX] at eY
        refine Tri.le (⟨80, 0, 60, [(0, .str s), (1, .int .i64 (a : Int)), (7, .own 4 (acc.length + 1))], [(4, .arr (.int .u8) (intsOf (acc ++ [twoHex s a])))], []⟩) (Le.weak rfl rfl rfl rfl ⟨(by first | rfl | exact iv1 (by (try simp only [decide_eq_true_eq, decide_eq_false_iff_not, toNat_cast] at *); omega)), (by first | rfl | exact iv1 (by (try simp only [decide_eq_true_eq, decide_eq_false_iff_not, toNat_cast] at *); omega)), (by first | rfl | exact iv1 (by (try simp only [decide_eq_true_eq, decide_eq_false_iff_not, toNat_cast] at *); omega)), trivial⟩ ⟨congrArg (fun l => some (Chunk.arr (.int .u8) l)) eY, trivial⟩) ?_
        refine Tri.seq (Tri.reg hT ?_)
        refine Tri.seq (Tri.block ?_)
        refine Tri.seq (Tri.reg hT ?_)
        refine ⟨_, [], trivial, rfl, rfl, fun h => ⟨rfl, rfl, rfl⟩, ?_⟩
        refine ⟨_, [], trivial, rfl, rfl, fun h => ⟨rfl, rfl, rfl⟩, ?_⟩
        refine ⟨_, [], trivial, rfl, rfl, fun h => ⟨h, h, by simp [gd] at h; rw [w2] at h ⊢; omega, rfl, rfl, rfl⟩, ?_⟩
        refine ⟨_, [], trivial, rfl, rfl, fun h => ⟨h, rfl, rfl, rfl⟩, ?_⟩
        refine ⟨⟨fun hc => hc, fun _ => trivial⟩, ?_⟩
        refine (Tri.cond ⟨fun h3 => ?_, fun h3 => ?_⟩)
        · refine Tri.seq (Tri.reg hT ?_)
          refine ⟨by rw [intsOf_len, List.length_append]; exact Nat.le_refl _, ?_⟩
          refine Tri.ret ?_
          rw [w2, toNat_cast] at h3; have h3' := gand_t h3; have e : grpS s [] a0 = (acc ++ [twoHex s a], a + 3, true) := (by rw [← hi3, hg]; exact if_pos ⟨by omega, h3'.2⟩); have eb : List.map Fw.byteOf ((intsOf (acc ++ [twoHex s a])).take (acc.length + 1)) = acc ++ [twoHex s a] := (by rw [List.take_of_length_le (by rw [intsOf_len, List.length_append]; exact Nat.le_refl _), bytes_back]); exact ⟨by rw [e]; show AV.tup [.str (List.map Fw.byteOf ((intsOf (acc ++ [twoHex s a])).take (acc.length + 1))), .int .i64 (IntKind.i64.wrap (IntKind.i64.wrap ((a : Int) + 2) + 1)), .bool true] = _; rw [eb, w2, w3], trivial⟩
        · refine Tri.seq (Tri.reg hT ?_)
          refine ⟨_, [], trivial, rfl, rfl, fun h => ⟨rfl, rfl, rfl⟩, ?_⟩
          refine ⟨_, [], trivial, rfl, rfl, fun h => ⟨rfl, rfl, rfl⟩, ?_⟩
          refine ⟨_, [], trivial, rfl, rfl, fun h => ⟨h, h, by simp [gd] at h; rw [w2] at h ⊢; omega, rfl, rfl, rfl⟩, ?_⟩
          refine ⟨_, [], trivial, rfl, rfl, fun h => ⟨h, rfl, rfl, rfl⟩, ?_⟩
          refine ⟨⟨fun _ => trivial, fun hc => (gn hc)⟩, ?_⟩
          refine (Tri.cond ⟨fun h4 => ?_, fun h4 => ?_⟩)
          · refine Tri.seq (Tri.reg hT ?_)
            refine Tri.ret ?_
            rw [w2, toNat_cast] at h3 h4; have h3' := gand_f h3; have h4' : a + 2 ≥ s.length ∨ ch s (a + 2) ≠ 32 := (by by_cases q : a + 2 ≥ s.length; exact .inl q; have q2 : decide (((a + 2 : Nat) : Int) ≥ (s.length : Int)) = false := decide_eq_false (by omega); rw [q2] at h4; exact .inr (of_decide_eq_true h4)); have e : grpS s [] a0 = ([], a + 2, false) := (by rw [← hi3, hg, if_neg (fun hh => h3' ⟨by omega, hh.2⟩), if_pos h4']); exact ⟨by rw [e]; show AV.tup [.str [], .int .i64 (IntKind.i64.wrap ((a : Int) + 2)), .bool false] = _; rw [w2], trivial⟩
          · refine (Tri.skip ?_)
            refine (Tri.reg hT ?_)
            rw [w2, toNat_cast] at h3 h4; have h3' := gand_f h3; have q : ¬ a + 2 ≥ s.length := (fun q => by rw [decide_eq_true (show ((a + 2 : Nat) : Int) ≥ (s.length : Int) by omega)] at h4; simp at h4); have q3 : ch s (a + 2) = 32 := (by have q2 : decide (((a + 2 : Nat) : Int) ≥ (s.length : Int)) = false := decide_eq_false (by omega); rw [q2] at h4; exact Classical.byContradiction (fun hh => of_decide_eq_false h4 hh)); rw [if_neg (fun hh => h3' ⟨by omega, hh.2⟩), if_neg (fun hh => by rcases hh with hh | hh; exact q hh; exact hh q3)] at hg
            exact ⟨(acc ++ [twoHex s a], a + 3), ⟨by show a + 3 ≤ s.length; omega, by show (acc ++ [twoHex s a]).length ≤ a + 3; rw [List.length_append]; show acc.length + 1 ≤ a + 3; omega, hg.symm.trans hi3⟩, (by show s.length - (a + 3) < s.length - a; omega), Le.weak rfl rfl rfl rfl ⟨(by first | rfl | exact iv1 (by (try simp only [decide_eq_true_eq, decide_eq_false_iff_not, toNat_cast] at *); omega)), congrArg (AV.int .i64) (by rw [w2, w3]), congrArg (AV.own 4) (by rw [List.length_append]; rfl), trivial⟩ ⟨rfl, trivial⟩⟩
end Go.Proofs.Ytngmadndlmceoaa.Fx
