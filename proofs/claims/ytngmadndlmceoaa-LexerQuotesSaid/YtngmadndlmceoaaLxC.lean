import Derived.Test.YtngmadndlmceoaaLxB
set_option linter.all false
/- Contracts of chapter 04: numbers. -/
namespace Go.Proofs.Ytngmadndlmceoaa.Fx
open Go Go.Fw Go.Ov Go.Lx
theorem f16_spec (s : List UInt8) (hs : s.length ≤ 140737488351232) : PSpec P [] 16 [.str s] (.tup [.int .i64 (numS s).1, .bool (numS s).2]) := by
  refine pspec_intro hT Try.func16 (by decide) rfl rfl (by kernel_rfl) rfl ?_
  refine Tri.seq (Tri.reg hT ?_)
  refine Tri.seq ?_
  refine Tri.seq (Tri.reg hT ?_)
  refine ⟨_, [], trivial, rfl, rfl, fun h => ⟨rfl, rfl, rfl⟩, ?_⟩
  refine ⟨_, [], trivial, rfl, rfl, fun h => ⟨h, rfl, rfl, rfl⟩, ?_⟩
  refine ⟨_, [], trivial, rfl, rfl, fun h => ⟨h, rfl, rfl, rfl⟩, ?_⟩
  refine ⟨⟨fun _ => trivial, fun hc => (gn hc)⟩, ?_⟩
  refine ⟨_, [], trivial, rfl, rfl, fun h => ⟨rfl, rfl, rfl⟩, ?_⟩
  refine ⟨_, [], trivial, rfl, rfl, fun h => ⟨h, by simp [gd] at h; have := List.length_pos_iff.2 h.1; omega, rfl, rfl, rfl⟩, ?_⟩
  refine ⟨_, [], trivial, rfl, rfl, fun h => ⟨h, rfl, rfl, rfl⟩, ?_⟩
  refine ⟨_, [], trivial, rfl, rfl, fun h => ⟨h, rfl, rfl, rfl⟩, ?_⟩
  refine ⟨_, [], trivial, rfl, rfl, fun h => ⟨rfl, rfl, rfl⟩, ?_⟩
  refine ⟨_, [], trivial, rfl, rfl, fun h => ⟨h, rfl, rfl, rfl⟩, ?_⟩
  refine ⟨_, [], trivial, rfl, rfl, fun h => ⟨h, ⟨fun hc => ga h hc, fun _ => trivial⟩, rfl, rfl, rfl⟩, ?_⟩
  refine ⟨⟨fun _ => trivial, fun hc => (gn hc)⟩, ?_⟩
  refine (Tri.cond ⟨fun h1 => ?_, fun h1 => ?_⟩)
  · refine Tri.seq (Tri.reg hT ?_)
    refine Tri.ret ?_
    have hb : numBad s = true := (bad_prog s).symm.trans h1; exact ⟨congrArg (fun z : Int × Bool => AV.tup [.int .i64 z.1, .bool z.2]) (numS_bad hb).symm, trivial⟩
  · refine (Tri.skip ?_)
    refine Tri.seq (Tri.reg hT ?_)
    have hb : numBad s = false := (bad_prog s).symm.trans h1; have hlen := numBad_len hb
    refine Tri.seq ?_
    refine Tri.seq (Tri.reg hT ?_)
    refine (Tri.block ?_)
    refine (Tri.loop (ι := Nat) (fun i => ⟨44, 0, 0, [(0, .str s), (4, .int .i64 (numV s i)), (22, .str s), (23, .int .i64 s.length), (24, .int .i64 (i : Int))], [], []⟩) (fun i => i ≤ s.length ∧ ∀ j, j < i → isDigit (ch s j) = true) (fun i => s.length - i) (0) ?_ ?_ ?_)
    · exact ⟨Nat.zero_le _, fun j hj => absurd hj (Nat.not_lt_zero _)⟩
    · exact Le.weak rfl rfl rfl rfl ⟨(by first | rfl | exact iv1 (by (try simp only [decide_eq_true_eq, decide_eq_false_iff_not, toNat_cast] at *); omega)), (by first | rfl | exact iv1 (by (try simp only [decide_eq_true_eq, decide_eq_false_iff_not, toNat_cast] at *); omega)), (by first | rfl | exact iv1 (by (try simp only [decide_eq_true_eq, decide_eq_false_iff_not, toNat_cast] at *); omega)), (by first | rfl | exact iv1 (by (try simp only [decide_eq_true_eq, decide_eq_false_iff_not, toNat_cast] at *); omega)), (by first | rfl | exact iv1 (by (try simp only [decide_eq_true_eq, decide_eq_false_iff_not, toNat_cast] at *); omega)), trivial⟩ trivial
    · intro i hi
      refine Tri.seq (Tri.reg hT ?_)
      refine Tri.seq (Tri.cond ⟨fun h2 => ?_, fun h2 => ?_⟩)
      · refine (Tri.skip ?_)
        refine Tri.seq (Tri.block ?_)
        refine Tri.seq (Tri.reg hT ?_)
        refine Tri.seq ?_
        refine Tri.seq (Tri.reg hT ?_)
        refine ⟨by have := of_decide_eq_true h2; omega, ?_⟩
        refine .inl (.inl ⟨_, fun _ => rfl, f36_spec (ch s i) (ch_rng s i), ?_⟩)
        refine (Tri.cond ⟨fun h3 => ?_, fun h3 => ?_⟩)
        · refine Tri.seq (Tri.reg hT ?_)
          refine Tri.ret ?_
          have hd : isDigit (ch s i) = false := (by have := of_decide_eq_true h3; cases hq : isDigit (ch s i) with | false => rfl | true => exact absurd ((class3 _).mpr hq) this); exact ⟨congrArg (fun z : Int × Bool => AV.tup [.int .i64 z.1, .bool z.2]) (numS_no hb (i_lt h2) hd).symm, trivial⟩
        · refine (Tri.skip ?_)
          refine (Tri.reg hT ?_)
          refine ⟨by have := of_decide_eq_true h2; omega, ?_⟩
          refine (Tri.reg hT ?_)
          have hlt := i_lt h2; have hd : isDigit (ch s i) = true := (by have h9 := of_decide_eq_false h3; have h8 : classC (ch s i) = 3 := Classical.byContradiction h9; exact (class3 _).mp h8); have hr := of_decide_eq_true hd; have hv := numV_lt hi.1 (by omega) hi.2; have w1 : IntKind.i64.wrap (numV s i * 10) = numV s i * 10 := wrapId (by omega); have w2 : IntKind.u8.wrap (ch s i - 48) = ch s i - 48 := wrap_u8 (by omega); have w3 : IntKind.i64.wrap (ch s i - 48) = ch s i - 48 := wrapId (by omega); have w4 : IntKind.i64.wrap (numV s i * 10 + (ch s i - 48)) = numV s (i + 1) := (by rw [numV_next hlt]; exact wrapId (by omega))
          exact ⟨i + 1, ⟨hlt, fun j hj => by rcases Nat.lt_or_ge j i with h9 | h9; exact hi.2 j h9; obtain rfl : j = i := (by omega); exact hd⟩, (by omega), Le.weak rfl rfl rfl rfl ⟨(by first | rfl | exact iv1 (by (try simp only [decide_eq_true_eq, decide_eq_false_iff_not, toNat_cast] at *); omega)), congrArg (AV.int .i64) (by show IntKind.i64.wrap (IntKind.i64.wrap (numV s i * 10) + IntKind.i64.wrap (IntKind.u8.wrap (ch s i - 48))) = _; rw [w1, w2, w3, w4]), (by first | rfl | exact iv1 (by (try simp only [decide_eq_true_eq, decide_eq_false_iff_not, toNat_cast] at *); omega)), (by first | rfl | exact iv1 (by (try simp only [decide_eq_true_eq, decide_eq_false_iff_not, toNat_cast] at *); omega)), (by first | rfl | exact iv1 (by (try simp only [decide_eq_true_eq, decide_eq_false_iff_not, toNat_cast] at *); omega)), trivial⟩ trivial⟩
      · refine Tri.exit ?_
        refine Tri.seq ?_
        refine Tri.seq (Tri.reg hT ?_)
        refine (Tri.cond ⟨fun h4 => ?_, fun h4 => ?_⟩)
        · refine Tri.seq (Tri.reg hT ?_)
          refine Tri.ret ?_
          have h9 := of_decide_eq_false h2; have e : i = s.length := (by have := hi.1; omega); subst e; have e2 := numS_yes hb hi.2; have h4' := of_decide_eq_true h4; exact ⟨congrArg (fun z : Int × Bool => AV.tup [.int .i64 z.1, .bool z.2]) (e2.trans (if_pos h4')).symm, trivial⟩
        · refine (Tri.skip ?_)
          refine Tri.seq (Tri.reg hT ?_)
          refine Tri.ret ?_
          have h9 := of_decide_eq_false h2; have e : i = s.length := (by have := hi.1; omega); subst e; have e2 := numS_yes hb hi.2; have h4' := of_decide_eq_false h4; exact ⟨congrArg (fun z : Int × Bool => AV.tup [.int .i64 z.1, .bool z.2]) (e2.trans (if_neg h4')).symm, trivial⟩
theorem f17_spec (s : List UInt8) (hs : s.length ≤ 140737488351232) : PSpec P [] 17 [.str s] (.tup [.int .i64 (numS s).1, .bool (numS s).2]) := by
  refine pspec_intro hT Try.func17 (by decide) rfl rfl (by kernel_rfl) rfl ?_
  refine Tri.seq (Tri.reg hT ?_)
  refine Tri.seq ?_
  refine Tri.seq (Tri.reg hT ?_)
  refine ⟨_, [], trivial, rfl, rfl, fun h => ⟨rfl, rfl, rfl⟩, ?_⟩
  refine ⟨_, [], trivial, rfl, rfl, fun h => ⟨h, rfl, rfl, rfl⟩, ?_⟩
  refine ⟨_, [], trivial, rfl, rfl, fun h => ⟨h, rfl, rfl, rfl⟩, ?_⟩
  refine ⟨⟨fun _ => trivial, fun hc => (gn hc)⟩, ?_⟩
  refine ⟨_, [], trivial, rfl, rfl, fun h => ⟨rfl, rfl, rfl⟩, ?_⟩
  refine ⟨_, [], trivial, rfl, rfl, fun h => ⟨h, by simp [gd] at h; have := List.length_pos_iff.2 h.1; omega, rfl, rfl, rfl⟩, ?_⟩
  refine ⟨_, [], trivial, rfl, rfl, fun h => ⟨h, rfl, rfl, rfl⟩, ?_⟩
  refine ⟨_, [], trivial, rfl, rfl, fun h => ⟨h, rfl, rfl, rfl⟩, ?_⟩
  refine ⟨_, [], trivial, rfl, rfl, fun h => ⟨rfl, rfl, rfl⟩, ?_⟩
  refine ⟨_, [], trivial, rfl, rfl, fun h => ⟨h, rfl, rfl, rfl⟩, ?_⟩
  refine ⟨_, [], trivial, rfl, rfl, fun h => ⟨h, rfl, rfl, rfl⟩, ?_⟩
  refine ⟨_, [], trivial, rfl, rfl, fun h => ⟨h, ⟨fun hc => ga h hc, fun _ => trivial⟩, rfl, rfl, rfl⟩, ?_⟩
  refine ⟨⟨fun _ => trivial, fun hc => (gn hc)⟩, ?_⟩
  refine (Tri.cond ⟨fun h1 => ?_, fun h1 => ?_⟩)
  · refine Tri.seq (Tri.reg hT ?_)
    refine Tri.ret ?_
    have hb : numBad s = true := (bad_ref s).symm.trans h1; exact ⟨congrArg (fun z : Int × Bool => AV.tup [.int .i64 z.1, .bool z.2]) (numS_bad hb).symm, trivial⟩
  · refine (Tri.skip ?_)
    refine Tri.seq (Tri.reg hT ?_)
    have hb : numBad s = false := (bad_ref s).symm.trans h1; have hlen := numBad_len hb
    refine Tri.seq ?_
    refine Tri.seq (Tri.reg hT ?_)
    refine (Tri.block ?_)
    refine (Tri.loop (ι := Nat) (fun i => ⟨45, 0, 0, [(0, .str s), (4, .int .i64 (numV s i)), (5, .int .i64 (i : Int))], [], []⟩) (fun i => i ≤ s.length ∧ ∀ j, j < i → isDigit (ch s j) = true) (fun i => s.length - i) (0) ?_ ?_ ?_)
    · exact ⟨Nat.zero_le _, fun j hj => absurd hj (Nat.not_lt_zero _)⟩
    · exact Le.weak rfl rfl rfl rfl ⟨(by first | rfl | exact iv1 (by (try simp only [decide_eq_true_eq, decide_eq_false_iff_not, toNat_cast] at *); omega)), (by first | rfl | exact iv1 (by (try simp only [decide_eq_true_eq, decide_eq_false_iff_not, toNat_cast] at *); omega)), (by first | rfl | exact iv1 (by (try simp only [decide_eq_true_eq, decide_eq_false_iff_not, toNat_cast] at *); omega)), trivial⟩ trivial
    · intro i hi
      refine Tri.seq ?_
      refine Tri.seq (Tri.reg hT ?_)
      refine (Tri.cond ⟨fun h2 => ?_, fun h2 => ?_⟩)
      · refine (Tri.skip ?_)
        refine Tri.seq (Tri.block ?_)
        refine Tri.seq ?_
        refine Tri.seq (Tri.reg hT ?_)
        refine ⟨by have := of_decide_eq_true h2; omega, ?_⟩
        refine .inl (.inl ⟨_, fun _ => rfl, f37_spec (ch s i), ?_⟩)
        refine (Tri.cond ⟨fun h3 => ?_, fun h3 => ?_⟩)
        · refine Tri.seq (Tri.reg hT ?_)
          refine Tri.ret ?_
          have hd : isDigit (ch s i) = false := (by simpa using h3); exact ⟨congrArg (fun z : Int × Bool => AV.tup [.int .i64 z.1, .bool z.2]) (numS_no hb (i_lt h2) hd).symm, trivial⟩
        · refine (Tri.skip ?_)
          refine (Tri.reg hT ?_)
          refine ⟨by have := of_decide_eq_true h2; omega, ?_⟩
          refine (Tri.reg hT ?_)
          have hlt := i_lt h2; have hd : isDigit (ch s i) = true := (by simpa using h3); have hr := of_decide_eq_true hd; have hv := numV_lt hi.1 (by omega) hi.2; have w1 : IntKind.i64.wrap (numV s i * 10) = numV s i * 10 := wrapId (by omega); have w2 : IntKind.i64.wrap (ch s i) = ch s i := wrapId (by omega); have w3 : IntKind.i64.wrap (numV s i * 10 + ch s i) = numV s i * 10 + ch s i := wrapId (by omega); have w4 : IntKind.i64.wrap (numV s i * 10 + ch s i - 48) = numV s (i + 1) := (by rw [numV_next hlt, wrapId (by omega)]; omega)
          exact ⟨i + 1, ⟨hlt, fun j hj => by rcases Nat.lt_or_ge j i with h9 | h9; exact hi.2 j h9; obtain rfl : j = i := (by omega); exact hd⟩, (by omega), Le.weak rfl rfl rfl rfl ⟨(by first | rfl | exact iv1 (by (try simp only [decide_eq_true_eq, decide_eq_false_iff_not, toNat_cast] at *); omega)), congrArg (AV.int .i64) (by show IntKind.i64.wrap (IntKind.i64.wrap (IntKind.i64.wrap (numV s i * 10) + IntKind.i64.wrap (ch s i)) - 48) = _; rw [w1, w2, w3, w4]), (by first | rfl | exact iv1 (by (try simp only [decide_eq_true_eq, decide_eq_false_iff_not, toNat_cast] at *); omega)), trivial⟩ trivial⟩
      · refine Tri.exit ?_
        refine Tri.seq ?_
        refine Tri.seq (Tri.reg hT ?_)
        refine (Tri.cond ⟨fun h4 => ?_, fun h4 => ?_⟩)
        · refine Tri.seq (Tri.reg hT ?_)
          refine Tri.ret ?_
          have h9 := of_decide_eq_false h2; have e : i = s.length := (by have := hi.1; omega); subst e; have e2 := numS_yes hb hi.2; have h4' := of_decide_eq_true h4; exact ⟨congrArg (fun z : Int × Bool => AV.tup [.int .i64 z.1, .bool z.2]) (e2.trans (if_pos h4')).symm, trivial⟩
        · refine (Tri.skip ?_)
          refine Tri.seq (Tri.reg hT ?_)
          refine Tri.ret ?_
          have h9 := of_decide_eq_false h2; have e : i = s.length := (by have := hi.1; omega); subst e; have e2 := numS_yes hb hi.2; have h4' := of_decide_eq_false h4; exact ⟨congrArg (fun z : Int × Bool => AV.tup [.int .i64 z.1, .bool z.2]) (e2.trans (if_neg h4')).symm, trivial⟩
end Go.Proofs.Ytngmadndlmceoaa.Fx
