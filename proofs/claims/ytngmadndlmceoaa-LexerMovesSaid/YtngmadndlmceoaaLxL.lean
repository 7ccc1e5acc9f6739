import Derived.Test.YtngmadndlmceoaaLxK
import Derived.Test.YtngmadndlmceoaaLxI
import Derived.Test.YtngmadndlmceoaaGLx2
import Derived.Shelf.Small.Strs
set_option linter.all false
/- Contracts of chapter 04: the program's marks, tokens. -/
namespace Go.Proofs.Ytngmadndlmceoaa.Fx
open Go Go.Fw Go.Ov Go.Lx Go.Shelf
theorem f57_spec (s : List UInt8) (c : Int) : PSpec P [] 57 [.str s, .int .u8 c] (.int .i64 (Go.Lib.indexByte s c.toNat.toUInt8)) :=
  PSpec.of_calls (entered_of Try.lays137.f137 (by kernel_rfl) rfl) fun φ R w vs hr _ => by
    simp only [RepVs, RepV] at hr
    obtain ⟨_, _, rfl, rfl, _, _, rfl, rfl, rfl⟩ := hr
    refine (Go.Proofs.Any.strings_IndexByte Try.lays137 (bs s) c w).mono ?_
    rintro e w' ⟨rfl, rfl⟩
    exact ⟨_, rfl, Go.RowKit.Below.refl _ _, by simp [RepV, bs]⟩
theorem byteBack (b : UInt8) : (((b.toNat : Nat) : Int)).toNat.toUInt8 = b := by
  rw [Int.toNat_natCast]
  exact UInt8.ofNat_toNat
theorem f50_spec (s : List UInt8) (a : Nat) (ha : a < s.length) (hs : s.length ≤ 140737488351232) : PSpec P [] 50 [.str s, .int .i64 (a : Int)] (.str (markR (s.drop a))) := by
  have w2 : IntKind.i64.wrap ((a : Int) + 2) = ((a + 2 : Nat) : Int) := by rw [wrapId (by omega)]; omega
  have w1 : IntKind.i64.wrap ((a : Int) + 1) = ((a + 1 : Nat) : Int) := by rw [wrapId (by omega)]; omega
  have key : ∀ {b : Bool}, (decide (Go.Lib.indexByte [40, 41, 91, 93, 123, 125, 44, 59, 33, 61, 60, 62, 38, 43] ((((s.getD a 0).toNat : Nat) : Int)).toNat.toUInt8 ≥ 0)) = b → b = oneM.contains (s.getD a 0) := fun h => by
    rw [← h, byteBack, Bool.eq_iff_iff, decide_eq_true_eq]
    exact Iff.of_eq (idx_mem _ _)
  rw [← markP_eq ha]
  refine pspec_intro hT Try.func50 (by decide) rfl rfl (by kernel_rfl) rfl ?_
  refine Tri.seq (Tri.reg hT ?_)
  refine Tri.seq ?_
  refine Tri.seq (Tri.reg hT ?_)
  refine (Tri.cond ⟨fun h1 => ?_, fun h1 => ?_⟩)
  · rw [w2] at h1; have l2 : a + 2 ≤ s.length := (by have := of_decide_eq_true h1; omega)
    refine Tri.seq (Tri.reg hT ?_)
    refine ⟨by rw [w2]; omega, ?_⟩
    refine Tri.seq (Tri.reg hT ?_)
    refine ⟨_, [], trivial, rfl, rfl, fun h => ⟨rfl, rfl, rfl⟩, ?_⟩
    refine ⟨_, [], trivial, rfl, rfl, fun h => ⟨h, rfl, rfl, rfl⟩, ?_⟩
    refine ⟨⟨fun _ => trivial, fun hc => (gn hc)⟩, ?_⟩
    refine ⟨_, [], trivial, rfl, rfl, fun h => ⟨rfl, rfl, rfl⟩, ?_⟩
    refine ⟨_, [], trivial, rfl, rfl, fun h => ⟨h, rfl, rfl, rfl⟩, ?_⟩
    refine ⟨⟨fun _ => trivial, fun hc => (gn hc)⟩, ?_⟩
    refine (Tri.cond ⟨fun h2 => ?_, fun h2 => ?_⟩)
    · refine Tri.seq (Tri.reg hT ?_)
      refine Tri.ret ?_
      rw [w2, toNat_cast, toNat_cast] at h2; have k : two ((s.take (a + 2)).drop a) := (by unfold two; revert h2; generalize (s.take (a + 2)).drop a = t; by_cases q1 : t = [45, 62] <;> by_cases q2 : t = [60, 62] <;> by_cases q3 : t = [60, 61] <;> simp [q1, q2, q3]); have e : markP s a = (s.take (a + 2)).drop a := (by unfold markP; exact if_pos ⟨l2, k⟩); exact ⟨by rw [e, w2]; rfl, trivial⟩
    · refine (Tri.skip ?_)
      refine Tri.seq ?_
      skip
      refine Tri.seq (Tri.reg hT ?_)
      refine ⟨(by first | ((try simp only [decide_eq_true_eq, decide_eq_false_iff_not, toNat_cast] at *); omega) | decide), ?_⟩
      refine .inl (.inl ⟨_, fun _ => rfl, f57_spec _ _, ?_⟩)
      refine (Tri.cond ⟨fun h3 => ?_, fun h3 => ?_⟩)
      · refine Tri.seq (Tri.reg hT ?_)
        refine ⟨by rw [w1]; omega, ?_⟩
        refine Tri.ret ?_
        rw [w2, toNat_cast, toNat_cast] at h2; have k : ¬ two ((s.take (a + 2)).drop a) := (by unfold two; revert h2; generalize (s.take (a + 2)).drop a = t; by_cases q1 : t = [45, 62] <;> by_cases q2 : t = [60, 62] <;> by_cases q3 : t = [60, 61] <;> simp [q1, q2, q3]); have e : markP s a = (s.take (a + 1)).drop a := (by unfold markP; exact (if_neg (fun h => k h.2)).trans (if_pos (key h3).symm)); exact ⟨by rw [e, w1]; rfl, trivial⟩
      · refine (Tri.skip ?_)
        refine Tri.seq (Tri.reg hT ?_)
        refine Tri.ret ?_
        rw [w2, toNat_cast, toNat_cast] at h2; have k : ¬ two ((s.take (a + 2)).drop a) := (by unfold two; revert h2; generalize (s.take (a + 2)).drop a = t; by_cases q1 : t = [45, 62] <;> by_cases q2 : t = [60, 62] <;> by_cases q3 : t = [60, 61] <;> simp [q1, q2, q3]); have e : markP s a = [] := (by unfold markP; exact (if_neg (fun h => k h.2)).trans (if_neg (by rw [← key h3]; decide))); exact ⟨by rw [e]; rfl, trivial⟩
  · refine (Tri.skip ?_)
    refine Tri.seq ?_
    skip
    refine Tri.seq (Tri.reg hT ?_)
    refine ⟨(by first | ((try simp only [decide_eq_true_eq, decide_eq_false_iff_not, toNat_cast] at *); omega) | decide), ?_⟩
    refine .inl (.inl ⟨_, fun _ => rfl, f57_spec _ _, ?_⟩)
    refine (Tri.cond ⟨fun h4 => ?_, fun h4 => ?_⟩)
    · refine Tri.seq (Tri.reg hT ?_)
      refine ⟨by rw [w1]; omega, ?_⟩
      refine Tri.ret ?_
      rw [w2] at h1; have e : markP s a = (s.take (a + 1)).drop a := (by unfold markP; exact (if_neg (fun h => of_decide_eq_false h1 (by omega))).trans (if_pos (key h4).symm)); exact ⟨by rw [e, w1]; rfl, trivial⟩
    · refine (Tri.skip ?_)
      refine Tri.seq (Tri.reg hT ?_)
      refine Tri.ret ?_
      rw [w2] at h1; have e : markP s a = [] := (by unfold markP; exact (if_neg (fun h => of_decide_eq_false h1 (by omega))).trans (if_neg (by rw [← key h4]; decide))); exact ⟨by rw [e]; rfl, trivial⟩
abbrev tokAV (s : List UInt8) (a : Nat) : AV := .tup [tv (if (tokM s a).2.1 = 0 then (tokM s a).1.1 else (0, [], (a : Int), ())), .int .i64 ((tokM s a).1.2 : Int), .int .i64 (tokM s a).2.1, .int .i64 ((tokM s a).2.2 : Int)]
abbrev tokRV (s : List UInt8) (a : Nat) : AV := .tup [tv (tokM s a).1.1, .int .i64 (if (tokM s a).2.1 = 0 then ((tokM s a).1.2 : Int) else ((tokM s a).2.2 : Int)), .int .i64 (tokM s a).2.1]
theorem tokM_w (s : List UInt8) (a : Nat) (h : inWordB (ch s a) = true) : tokM s a = if (whileS inWordB s a : Nat) - a > 80 then (((0, [], 0, ()), 0), (3, a)) else (((1, (s.take (whileS inWordB s a)).drop a, (a : Int), ()), whileS inWordB s a), (0, 0)) := if_pos h
theorem tokM_v (s : List UInt8) (a : Nat) (h : ¬ inWordB (ch s a) = true) (h2 : ch s a = 36) : tokM s a = if nameB ((s.take (whileS inNameB s (a + 1))).drop (a + 1)) = true then (((3, (s.take (whileS inNameB s (a + 1))).drop (a + 1), (a : Int), ()), whileS inNameB s (a + 1)), (0, 0)) else (((0, [], 0, ()), 0), (5, a)) := (if_neg h).trans (if_pos h2)
theorem tokM_s (s : List UInt8) (a : Nat) (h : ¬ inWordB (ch s a) = true) (h2 : ¬ ch s a = 36) (h3 : ch s a = 34) : tokM s a = if (litR s a).2.2 = 0 then (((2, (litR s a).1, (a : Int), ()), (litR s a).2.1), (0, 0)) else (((0, [], 0, ()), 0), ((litR s a).2.2, (litR s a).2.1)) := (if_neg h).trans ((if_neg h2).trans (if_pos h3))
theorem tokM_m (s : List UInt8) (a : Nat) (h : ¬ inWordB (ch s a) = true) (h2 : ¬ ch s a = 36) (h3 : ¬ ch s a = 34) : tokM s a = if markR (s.drop a) = [] then (((0, [], 0, ()), 0), (14, a)) else (((4, markR (s.drop a), (a : Int), ()), a + (markR (s.drop a)).length), (0, 0)) := (if_neg h).trans ((if_neg h2).trans (if_neg h3))
set_option maxRecDepth 8000 in
theorem f32_spec (s : List UInt8) (a : Nat) (ha : a < s.length) (hs : s.length ≤ 1099511627776) : PSpec P [] 32 [.str s, .int .i64 (a : Int)] (tokAV s a) := by
  have w1 : IntKind.i64.wrap ((a : Int) + 1) = ((a + 1 : Nat) : Int) := by rw [wrapId (by omega)]; omega
  have hw := whileS_le inWordB s a
  have hn := whileS_le inNameB s (a + 1)
  refine pspec_intro hT Try.func32 (by decide) rfl rfl (by kernel_rfl) rfl ?_
  refine Tri.seq (Tri.reg hT ?_)
  refine Tri.seq (Tri.reg hT ?_)
  refine Tri.seq ?_
  refine Tri.seq (Tri.reg hT ?_)
  refine ⟨by omega, ?_⟩
  refine (Tri.block ?_)
  refine Tri.seq (Tri.reg hT ?_)
  refine .inl (.inl ⟨_, fun _ => rfl, f48_spec (ch s a) (ch_rng s a), ?_⟩)
  refine (Tri.cond ⟨fun h1 => ?_, fun h1 => ?_⟩)
  · have e0 := tokM_w s a h1
    refine Tri.seq (Tri.reg hT ?_)
    refine .inl (.inl ⟨_, fun _ => rfl, f38_spec 48 inWordB (fun c hc => f48_spec c hc) s a (by omega) (by omega), ?_⟩)
    refine Tri.seq ?_
    refine Tri.seq (Tri.reg hT ?_)
    refine (Tri.cond ⟨fun h2 => ?_, fun h2 => ?_⟩)
    · refine Tri.seq (Tri.reg hT ?_)
      refine Tri.ret ?_
      rw [wrapId (by omega)] at h2; have e := e0.trans (if_pos (by have := of_decide_eq_true h2; omega)); exact ⟨by unfold tokAV; rw [e]; rfl, trivial⟩
    · refine (Tri.skip ?_)
      refine Tri.seq (Tri.drw hT hm 6 (by kernel_rfl) ?_)
      refine ⟨by omega, ?_⟩
      refine ⟨by kernel_rfl, ?_⟩
      refine Tri.seq (Tri.reg hT ?_)
      refine Tri.ret ?_
      rw [wrapId (by omega)] at h2; have e := e0.trans (if_neg (by have := of_decide_eq_false h2; omega)); exact ⟨by unfold tokAV; rw [e]; rfl, trivial⟩
  · refine Tri.seq (Tri.reg hT ?_)
    refine (Tri.cond ⟨fun h3 => ?_, fun h3 => ?_⟩)
    · have n1 : ¬ inWordB (ch s a) = true := (by rw [show inWordB (ch s a) = false from h1]; decide); have e0 := tokM_v s a n1 (of_decide_eq_true h3); have kc := f38_spec 39 inNameB (fun c hc => f39_spec c hc) s (a + 1) (by omega) (by omega); rw [← w1] at kc
      refine Tri.seq (Tri.reg hT ?_)
      refine .inl (.inl ⟨_, fun _ => rfl, kc, ?_⟩)
      refine Tri.seq ?_
      refine Tri.seq (Tri.reg hT ?_)
      refine ⟨by rw [w1]; have := hn.2 (by omega); omega, ?_⟩
      refine .inl (.inl ⟨_, fun _ => rfl, f18_spec _ (by rw [List.length_drop, List.length_take]; omega), ?_⟩)
      refine (Tri.cond ⟨fun h4 => ?_, fun h4 => ?_⟩)
      · refine Tri.seq (Tri.reg hT ?_)
        refine Tri.ret ?_
        rw [w1, toNat_cast, toNat_cast] at h4; have e := e0.trans (if_neg (by intro q; rw [q] at h4; exact absurd h4 (by decide))); exact ⟨by unfold tokAV; rw [e]; rfl, trivial⟩
      · refine (Tri.skip ?_)
        refine Tri.seq (Tri.drw hT hm 7 (by kernel_rfl) ?_)
        refine ⟨by rw [w1]; have := hn.2 (by omega); omega, ?_⟩
        refine ⟨by kernel_rfl, ?_⟩
        refine Tri.seq (Tri.reg hT ?_)
        refine Tri.ret ?_
        rw [w1, toNat_cast, toNat_cast] at h4; have e := e0.trans (if_pos (by revert h4; cases nameB ((s.take (whileS inNameB s (a + 1))).drop (a + 1)) <;> simp)); exact ⟨by unfold tokAV; rw [e, w1]; rfl, trivial⟩
    · refine Tri.seq (Tri.reg hT ?_)
      refine (Tri.cond ⟨fun h5 => ?_, fun h5 => ?_⟩)
      · have n1 : ¬ inWordB (ch s a) = true := (by rw [show inWordB (ch s a) = false from h1]; decide); have e0 := tokM_s s a n1 (of_decide_eq_false h3) (of_decide_eq_true h5); have kc := f49_spec s (a + 1) (by omega) hs; rw [← w1] at kc
        refine Tri.seq (Tri.reg hT ?_)
        refine .inl (.inl ⟨_, fun _ => rfl, kc, ?_⟩)
        refine Tri.seq ?_
        refine Tri.seq (Tri.reg hT ?_)
        refine (Tri.cond ⟨fun h6 => ?_, fun h6 => ?_⟩)
        · refine Tri.seq (Tri.reg hT ?_)
          refine Tri.ret ?_
          have g6 : (litS s [] (a + 1)).2.2 = false := (by simpa using h6); have er : litR s a = ([], (litS s [] (a + 1)).2.1, 14) := (by unfold litR; rw [g6]; rfl); have e := e0.trans (if_neg (by rw [er]; show ¬ ((14 : Int) = 0); decide)); exact ⟨by unfold tokAV; rw [e, er]; rfl, trivial⟩
        · refine (Tri.skip ?_)
          refine Tri.seq ?_
          refine Tri.seq (Tri.reg hT ?_)
          refine (Tri.cond ⟨fun h7 => ?_, fun h7 => ?_⟩)
          · refine Tri.seq (Tri.reg hT ?_)
            refine Tri.ret ?_
            have g6 : (litS s [] (a + 1)).2.2 = true := (by simpa using h6); have er : litR s a = ([], a, 3) := (by unfold litR; rw [if_pos g6, if_pos (by have := of_decide_eq_true h7; omega)]); have e := e0.trans (if_neg (by rw [er]; show ¬ ((3 : Int) = 0); decide)); exact ⟨by unfold tokAV; rw [e, er]; rfl, trivial⟩
          · refine (Tri.skip ?_)
            refine Tri.seq (Tri.reg hT ?_)
            refine Tri.seq (Tri.reg hT ?_)
            refine Tri.ret ?_
            have g6 : (litS s [] (a + 1)).2.2 = true := (by simpa using h6); have er : litR s a = ((litS s [] (a + 1)).1, (litS s [] (a + 1)).2.1, 0) := (by unfold litR; rw [if_pos g6, if_neg (by have := of_decide_eq_false h7; omega)]); have e := e0.trans (if_pos (by rw [er])); exact ⟨by unfold tokAV; rw [e, er]; rfl, trivial⟩
      · refine (Tri.skip ?_)
        refine Tri.seq ?_
        have n1 : ¬ inWordB (ch s a) = true := (by rw [show inWordB (ch s a) = false from h1]; decide); have e0 := tokM_m s a n1 (of_decide_eq_false h3) (of_decide_eq_false h5)
        refine Tri.seq (Tri.reg hT ?_)
        refine .inl (.inl ⟨_, fun _ => rfl, f50_spec s a ha (by omega), ?_⟩)
        refine Tri.seq (Tri.reg hT ?_)
        refine (Tri.cond ⟨fun h8 => ?_, fun h8 => ?_⟩)
        · refine Tri.seq (Tri.reg hT ?_)
          refine Tri.seq (Tri.reg hT ?_)
          refine Tri.ret ?_
          have k := of_decide_eq_true h8; have hl := markR_len k; have e := e0.trans (if_neg k); have w3 : IntKind.i64.wrap ((a : Int) + ((markR (s.drop a)).length : Int)) = ((a + (markR (s.drop a)).length : Nat) : Int) := (by rw [List.length_drop] at hl; rw [wrapId (by omega)]; omega); exact ⟨by unfold tokAV; rw [e, w3]; rfl, trivial⟩
        · refine (Tri.skip ?_)
          refine Tri.seq (Tri.reg hT ?_)
          refine Tri.ret ?_
          have k := of_decide_eq_false h8; have e := e0.trans (if_pos (Classical.not_not.1 k)); exact ⟨by unfold tokAV; rw [e]; rfl, trivial⟩
set_option maxRecDepth 8000 in
theorem f34_spec (s : List UInt8) (a : Nat) (ha : a < s.length) (hs : s.length ≤ 1099511627776) : PSpec P [] 34 [.str s, .int .i64 (a : Int)] (tokRV s a) := by
  have w1 : IntKind.i64.wrap ((a : Int) + 1) = ((a + 1 : Nat) : Int) := by rw [wrapId (by omega)]; omega
  have hw := whileS_le inWordB s a
  have hn := whileS_le inNameB s (a + 1)
  refine pspec_intro hT Try.func34 (by decide) rfl rfl (by kernel_rfl) rfl ?_
  refine Tri.seq (Tri.reg hT ?_)
  refine Tri.seq (Tri.reg hT ?_)
  refine ⟨by omega, ?_⟩
  refine Tri.seq (Tri.reg hT ?_)
  refine Tri.seq ?_
  refine Tri.seq (Tri.reg hT ?_)
  refine .inl (.inl ⟨_, fun _ => rfl, f46_spec (ch s a), ?_⟩)
  refine (Tri.cond ⟨fun h1 => ?_, fun h1 => ?_⟩)
  · refine Tri.seq (Tri.block ?_)
    refine (Tri.loop (ι := Nat) (fun i => ⟨110, 0, 30, [(0, .str s), (1, .int .i64 (a : Int)), (4, .loc 0 0), (8, .int .i64 (i : Int))], [(0, .box [.int .i64 0, .str [], .int .i64 0])], []⟩) (fun i => i ≤ s.length ∧ whileS inWordB s i = whileS inWordB s a) (fun i => s.length - i) (a) ?_ ?_ ?_)
    · exact ⟨by omega, rfl⟩
    · exact Le.weak rfl rfl rfl rfl ⟨(by first | rfl | exact iv1 (by (try simp only [decide_eq_true_eq, decide_eq_false_iff_not, toNat_cast] at *); omega)), (by first | rfl | exact iv1 (by (try simp only [decide_eq_true_eq, decide_eq_false_iff_not, toNat_cast] at *); omega)), (by first | rfl | exact iv1 (by (try simp only [decide_eq_true_eq, decide_eq_false_iff_not, toNat_cast] at *); omega)), (by first | rfl | exact iv1 (by (try simp only [decide_eq_true_eq, decide_eq_false_iff_not, toNat_cast] at *); omega)), trivial⟩ ⟨rfl, trivial⟩
    · intro i hi
      refine Tri.seq ?_
      refine Tri.seq (Tri.reg hT ?_)
      refine ⟨_, [], trivial, rfl, rfl, fun h => ⟨rfl, rfl, rfl⟩, ?_⟩
      refine ⟨_, [], trivial, rfl, rfl, fun h => ⟨rfl, rfl, rfl⟩, ?_⟩
      refine ⟨_, [], trivial, rfl, rfl, fun h => ⟨h, h, by have := of_decide_eq_true h; omega, rfl, rfl, rfl⟩, ?_⟩
      refine ⟨_, [], trivial, rfl, rfl, fun h => ⟨h, (.inl ⟨_, fun _ => rfl, f46_spec (ch s i), rfl, rfl, rfl⟩)⟩, ?_⟩
      refine ⟨⟨fun hc => hc, fun _ => trivial⟩, ?_⟩
      refine (Tri.cond ⟨fun h2 => ?_, fun h2 => ?_⟩)
      · refine (Tri.skip ?_)
        refine (Tri.block ?_)
        refine (Tri.reg hT ?_)
        have hlt : i < s.length := (by have := of_decide_eq_true (gl' h2); omega); have hp : inWordB (ch s i) = true := gr' h2
        exact ⟨i + 1, ⟨hlt, (whileS_next hlt hp).symm.trans hi.2⟩, (by omega), Le.weak rfl rfl rfl rfl ⟨(by first | rfl | exact iv1 (by (try simp only [decide_eq_true_eq, decide_eq_false_iff_not, toNat_cast] at *); omega)), (by first | rfl | exact iv1 (by (try simp only [decide_eq_true_eq, decide_eq_false_iff_not, toNat_cast] at *); omega)), (by first | rfl | exact iv1 (by (try simp only [decide_eq_true_eq, decide_eq_false_iff_not, toNat_cast] at *); omega)), (by first | rfl | exact iv1 (by (try simp only [decide_eq_true_eq, decide_eq_false_iff_not, toNat_cast] at *); omega)), trivial⟩ ⟨rfl, trivial⟩⟩
      · refine Tri.exit ?_
        refine Tri.seq ?_
        have hn2 : ¬ (i < s.length ∧ inWordB (ch s i) = true) := (by rintro ⟨q1, q2⟩; have q3 : (i : Int) < (s.length : Int) := (by omega); have q4 : decide ((i : Int) < (s.length : Int)) = true := decide_eq_true q3; rw [q4] at h2; exact absurd (h2.symm.trans q2) (by decide)); have ei : i = whileS inWordB s a := ((whileS_end hn2).symm.trans hi.2); have e0 := tokM_w s a h1
        refine Tri.seq (Tri.reg hT ?_)
        refine (Tri.cond ⟨fun h3 => ?_, fun h3 => ?_⟩)
        · refine Tri.seq (Tri.reg hT ?_)
          refine Tri.ret ?_
          rw [wrapId (by omega)] at h3; have e := e0.trans (if_pos (by have := of_decide_eq_true h3; omega)); exact ⟨by unfold tokRV; rw [e]; rfl, trivial⟩
        · refine (Tri.skip ?_)
          refine Tri.seq (Tri.reg hT ?_)
          refine ⟨by omega, ?_⟩
          refine Tri.ret ?_
          rw [wrapId (by omega)] at h3; have e := e0.trans (if_neg (by have := of_decide_eq_false h3; omega)); exact ⟨by unfold tokRV; rw [e, ← ei]; rfl, trivial⟩
  · refine (Tri.skip ?_)
    refine Tri.seq ?_
    refine Tri.seq (Tri.reg hT ?_)
    refine (Tri.cond ⟨fun h4 => ?_, fun h4 => ?_⟩)
    · refine Tri.seq (Tri.reg hT ?_)
      refine Tri.seq (Tri.block ?_)
      refine (Tri.loop (ι := Nat) (fun i => ⟨110, 0, 30, [(0, .str s), (1, .int .i64 (a : Int)), (4, .loc 0 0), (8, .int .i64 (i : Int))], [(0, .box [.int .i64 0, .str [], .int .i64 0])], []⟩) (fun i => i ≤ s.length ∧ whileS inNameB s i = whileS inNameB s (a + 1)) (fun i => s.length - i) (a + 1) ?_ ?_ ?_)
      · exact ⟨by omega, rfl⟩
      · exact Le.weak rfl rfl rfl rfl ⟨(by first | rfl | exact iv1 (by (try simp only [decide_eq_true_eq, decide_eq_false_iff_not, toNat_cast] at *); omega)), (by first | rfl | exact iv1 (by (try simp only [decide_eq_true_eq, decide_eq_false_iff_not, toNat_cast] at *); omega)), (by first | rfl | exact iv1 (by (try simp only [decide_eq_true_eq, decide_eq_false_iff_not, toNat_cast] at *); omega)), congrArg (AV.int .i64) w1, trivial⟩ ⟨rfl, trivial⟩
      · intro i hi
        refine Tri.seq ?_
        refine Tri.seq (Tri.reg hT ?_)
        refine ⟨_, [], trivial, rfl, rfl, fun h => ⟨rfl, rfl, rfl⟩, ?_⟩
        refine ⟨_, [], trivial, rfl, rfl, fun h => ⟨rfl, rfl, rfl⟩, ?_⟩
        refine ⟨_, [], trivial, rfl, rfl, fun h => ⟨h, h, by have := of_decide_eq_true h; omega, rfl, rfl, rfl⟩, ?_⟩
        refine ⟨_, [], trivial, rfl, rfl, fun h => ⟨h, (.inl ⟨_, fun _ => rfl, f41_spec (ch s i), rfl, rfl, rfl⟩)⟩, ?_⟩
        refine ⟨⟨fun hc => hc, fun _ => trivial⟩, ?_⟩
        refine (Tri.cond ⟨fun h5 => ?_, fun h5 => ?_⟩)
        · refine (Tri.skip ?_)
          refine (Tri.block ?_)
          refine (Tri.reg hT ?_)
          have hlt : i < s.length := (by have := of_decide_eq_true (gl' h5); omega); have hp : inNameB (ch s i) = true := gr' h5
          exact ⟨i + 1, ⟨hlt, (whileS_next hlt hp).symm.trans hi.2⟩, (by omega), Le.weak rfl rfl rfl rfl ⟨(by first | rfl | exact iv1 (by (try simp only [decide_eq_true_eq, decide_eq_false_iff_not, toNat_cast] at *); omega)), (by first | rfl | exact iv1 (by (try simp only [decide_eq_true_eq, decide_eq_false_iff_not, toNat_cast] at *); omega)), (by first | rfl | exact iv1 (by (try simp only [decide_eq_true_eq, decide_eq_false_iff_not, toNat_cast] at *); omega)), (by first | rfl | exact iv1 (by (try simp only [decide_eq_true_eq, decide_eq_false_iff_not, toNat_cast] at *); omega)), trivial⟩ ⟨rfl, trivial⟩⟩
        · refine Tri.exit ?_
          refine Tri.seq ?_
          have hn2 : ¬ (i < s.length ∧ inNameB (ch s i) = true) := (by rintro ⟨q1, q2⟩; have q3 : (i : Int) < (s.length : Int) := (by omega); have q4 : decide ((i : Int) < (s.length : Int)) = true := decide_eq_true q3; rw [q4] at h5; exact absurd (h5.symm.trans q2) (by decide)); have ei : i = whileS inNameB s (a + 1) := ((whileS_end hn2).symm.trans hi.2); have n1 : ¬ inWordB (ch s a) = true := (by rw [show inWordB (ch s a) = false from h1]; decide); have e0 := tokM_v s a n1 (of_decide_eq_true h4)
          refine Tri.seq (Tri.reg hT ?_)
          refine ⟨by rw [w1]; omega, ?_⟩
          refine .inl (.inl ⟨_, fun _ => rfl, f19_spec _ (by rw [List.length_drop, List.length_take]; omega), ?_⟩)
          refine (Tri.cond ⟨fun h6 => ?_, fun h6 => ?_⟩)
          · refine Tri.seq (Tri.reg hT ?_)
            refine Tri.ret ?_
            rw [w1, toNat_cast, toNat_cast, ei] at h6; have e := e0.trans (if_neg (by intro q; rw [q] at h6; exact absurd h6 (by decide))); exact ⟨by unfold tokRV; rw [e]; rfl, trivial⟩
          · refine (Tri.skip ?_)
            refine Tri.seq (Tri.reg hT ?_)
            refine ⟨by rw [w1]; omega, ?_⟩
            refine Tri.ret ?_
            rw [w1, toNat_cast, toNat_cast, ei] at h6; have e := e0.trans (if_pos (by revert h6; cases nameB ((s.take (whileS inNameB s (a + 1))).drop (a + 1)) <;> simp)); exact ⟨by unfold tokRV; rw [e, w1, ← ei]; rfl, trivial⟩
    · refine (Tri.skip ?_)
      refine Tri.seq ?_
      refine Tri.seq (Tri.reg hT ?_)
      refine (Tri.cond ⟨fun h7 => ?_, fun h7 => ?_⟩)
      · have n1 : ¬ inWordB (ch s a) = true := (by rw [show inWordB (ch s a) = false from h1]; decide); have e0 := tokM_s s a n1 (of_decide_eq_false h4) (of_decide_eq_true h7)
        refine Tri.seq (Tri.reg hT ?_)
        refine .inl (.inl ⟨_, fun _ => rfl, f51_spec s a ha hs, ?_⟩)
        refine Tri.seq ?_
        refine Tri.seq (Tri.reg hT ?_)
        refine (Tri.cond ⟨fun h8 => ?_, fun h8 => ?_⟩)
        · refine Tri.seq (Tri.reg hT ?_)
          refine Tri.ret ?_
          have k := of_decide_eq_true h8; have e := e0.trans (if_neg k); exact ⟨by unfold tokRV; rw [e, if_neg k]; rfl, trivial⟩
        · refine (Tri.skip ?_)
          refine Tri.seq (Tri.reg hT ?_)
          refine Tri.ret ?_
          have k := Classical.not_not.1 (of_decide_eq_false h8); have e := e0.trans (if_pos k); exact ⟨by unfold tokRV; rw [e]; rfl, trivial⟩
      · refine (Tri.skip ?_)
        have n1 : ¬ inWordB (ch s a) = true := (by rw [show inWordB (ch s a) = false from h1]; decide); have e0 := tokM_m s a n1 (of_decide_eq_false h4) (of_decide_eq_false h7)
        refine Tri.seq (Tri.reg hT ?_)
        refine ⟨by omega, ?_⟩
        refine .inl (.inl ⟨_, fun _ => rfl, f45_spec _ (by rw [List.length_drop, List.length_take]; omega), ?_⟩)
        refine Tri.seq ?_
        refine Tri.seq (Tri.reg hT ?_)
        refine (Tri.cond ⟨fun h9 => ?_, fun h9 => ?_⟩)
        · refine Tri.seq (Tri.reg hT ?_)
          refine Tri.ret ?_
          rw [toNat_cast] at h9; have eq0 : List.take (s.length : Int).toNat s = s := (by rw [toNat_cast, List.take_length]); rw [eq0] at h9; have k := of_decide_eq_true h9; have e := e0.trans (if_pos k); exact ⟨by unfold tokRV; rw [e]; rfl, trivial⟩
        · refine (Tri.skip ?_)
          refine Tri.seq (Tri.reg hT ?_)
          refine Tri.ret ?_
          rw [toNat_cast] at h9; have eq0 : List.take (s.length : Int).toNat s = s := (by rw [toNat_cast, List.take_length]); rw [eq0] at h9; have k := of_decide_eq_false h9; have hl := markR_len k; have e := e0.trans (if_neg k); have w3 : IntKind.i64.wrap ((a : Int) + ((markR (s.drop a)).length : Int)) = ((a + (markR (s.drop a)).length : Nat) : Int) := (by rw [List.length_drop] at hl; rw [wrapId (by omega)]; omega); exact ⟨by unfold tokRV; rw [e, toNat_cast, eq0, w3]; rfl, trivial⟩
end Go.Proofs.Ytngmadndlmceoaa.Fx
