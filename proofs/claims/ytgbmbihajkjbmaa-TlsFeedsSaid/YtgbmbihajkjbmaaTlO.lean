import Derived.Test.YtgbmbihajkjbmaaTlL
import Derived.Test.YtgbmbihajkjbmaaGTl2
set_option linter.all false
/- Contracts of chapter 32: the reference's records. -/
namespace Go.Proofs.Ytgbmbihajkjbmaa.Fx
open Go Go.Fw Go.Ov Go.Tl Go.Shelf
theorem f49_spec (k : Nat) (hk : k ≤ 7) : PSpec P [] 49 [.int .i64 (k : Int)] (.int .i64 ((256 ^ k : Nat) : Int)) := by
  refine pspec_intro hT Try.func49 (by decide) rfl rfl (by kernel_rfl) rfl ?_
  refine Tri.seq (Tri.reg hT ?_)
  refine Tri.seq (Tri.reg hT ?_)
  refine Tri.seq ?_
  refine Tri.seq (Tri.reg hT ?_)
  refine (Tri.block ?_)
  refine (Tri.loop (ι := Nat) (fun i => ⟨13, 0, 20, [(0, .int .i64 (k : Int)), (3, .int .i64 ((256 ^ i : Nat) : Int)), (4, .int .i64 (i : Int))], [], []⟩) (fun i => i ≤ k) (fun i => k - i) (0) ?_ ?_ ?_)
  · exact Nat.zero_le _
  · exact Le.weak rfl rfl rfl rfl ⟨(by first | rfl | exact iv1 (by (try simp only [decide_eq_true_eq, decide_eq_false_iff_not, toNat_cast] at *); omega)), (by first | rfl | exact iv1 (by (try simp only [decide_eq_true_eq, decide_eq_false_iff_not, toNat_cast] at *); omega)), (by first | rfl | exact iv1 (by (try simp only [decide_eq_true_eq, decide_eq_false_iff_not, toNat_cast] at *); omega)), trivial⟩ trivial
  · intro i hi
    refine Tri.seq ?_
    refine Tri.seq (Tri.reg hT ?_)
    refine (Tri.cond ⟨fun h1 => ?_, fun h1 => ?_⟩)
    · refine (Tri.skip ?_)
      refine Tri.seq (Tri.block ?_)
      have hlt : i < k := (by have := of_decide_eq_true h1; omega); have w1 : IntKind.i64.wrap ((i : Int) + 1) = ((i + 1 : Nat) : Int) := (by rw [wrapId (by omega)]; omega)
      refine (Tri.reg hT ?_)
      refine (Tri.reg hT ?_)
      exact ⟨i + 1, hlt, (by omega), Le.weak rfl rfl rfl rfl ⟨(by first | rfl | exact iv1 (by (try simp only [decide_eq_true_eq, decide_eq_false_iff_not, toNat_cast] at *); omega)), congrArg (AV.int .i64) (pw_step hlt hk), congrArg (AV.int .i64) w1, trivial⟩ trivial⟩
    · refine Tri.exit ?_
      refine Tri.seq (Tri.reg hT ?_)
      refine Tri.ret ?_
      have hN : i = k := (by have := of_decide_eq_false h1; omega); exact ⟨by rw [hN]; rfl, trivial⟩
theorem put_at (n k : Nat) (hk : 1 ≤ k ∧ k ≤ 7) (hn : n ≤ 4611686018427387904) (ih : ∀ m, k = m + 1 → 1 ≤ m → PSpec P [] 38 [.int .i64 ((n / 256 : Nat) : Int), .int .i64 (m : Int)] (.str (putM (n / 256) m))) : PSpec P [] 38 [.int .i64 (n : Int), .int .i64 (k : Int)] (.str (putM n k)) := by
  refine pspec_intro hT Try.func38 (by decide) rfl rfl (by kernel_rfl) rfl ?_
  refine Tri.seq (Tri.reg hT ?_)
  refine Tri.seq ?_
  refine Tri.seq (Tri.reg hT ?_)
  refine ⟨_, [], trivial, rfl, rfl, fun h => ⟨rfl, rfl, rfl⟩, ?_⟩
  refine ⟨_, [], trivial, rfl, rfl, fun h => ⟨h, rfl, rfl, rfl⟩, ?_⟩
  refine ⟨⟨fun _ => trivial, fun hc => (gn hc)⟩, ?_⟩
  refine ⟨_, [], trivial, rfl, rfl, fun h => ⟨rfl, rfl, rfl⟩, ?_⟩
  refine ⟨_, [], trivial, rfl, rfl, fun h => ⟨h, rfl, rfl, rfl⟩, ?_⟩
  refine ⟨⟨fun _ => trivial, fun hc => (gn hc)⟩, ?_⟩
  refine ⟨_, [], trivial, rfl, rfl, fun h => ⟨rfl, rfl, rfl⟩, ?_⟩
  refine ⟨_, [], trivial, rfl, rfl, fun h => ⟨rfl, rfl, rfl⟩, ?_⟩
  refine ⟨_, [], trivial, rfl, rfl, fun h => ⟨h, (.inl ⟨_, fun _ => rfl, f49_spec k hk.2, rfl, rfl, rfl⟩)⟩, ?_⟩
  refine ⟨_, [], trivial, rfl, rfl, fun h => ⟨h, h, rfl, rfl, rfl⟩, ?_⟩
  refine ⟨⟨fun _ => trivial, fun hc => (gn hc)⟩, ?_⟩
  refine (Tri.cond ⟨fun h1 => ?_, fun h1 => ?_⟩)
  · have q : ¬ n < 256 ^ k := (by rw [ifo, ifo, ifo, Bool.or_eq_true, Bool.or_eq_true, Bool.or_eq_true] at h1; rcases h1 with ((h1 | h1) | h1) | h1; exact absurd (of_decide_eq_true h1) (by omega); exact absurd (of_decide_eq_true h1) (by omega); exact absurd (of_decide_eq_true h1) (by omega); have := of_decide_eq_true h1; generalize 256 ^ k = Q at *; omega); have eM : putM n k = [] := if_neg q; rw [eM]
    refine Tri.seq (Tri.reg hT ?_)
    refine Tri.ret ?_
    exact ⟨rfl, trivial⟩
  · refine (Tri.skip ?_)
    refine Tri.seq ?_
    have q : n < 256 ^ k := (by rw [ifo, ifo, ifo] at h1; have := of_decide_eq_false (Bool.or_eq_false_iff.1 h1).2; generalize 256 ^ k = Q at *; omega)
    refine Tri.seq (Tri.reg hT ?_)
    refine (Tri.cond ⟨fun h2 => ?_, fun h2 => ?_⟩)
    · refine Tri.seq (Tri.reg hT ?_)
      refine ⟨by exact Nat.le_refl _, ?_⟩
      refine Tri.ret ?_
      have hk1 : k = 1 := (by have := of_decide_eq_true h2; omega); subst hk1; exact ⟨congrArg AV.str (by rw [put_1 q]; show [Fw.byteOf (IntKind.u8.wrap (n : Int))] = _; rw [wrap8, Nat.mod_eq_of_lt (by omega)]; rfl), trivial⟩
    · refine (Tri.skip ?_)
      obtain ⟨m, hm1, hm2⟩ : ∃ m, k = m + 1 ∧ 1 ≤ m := ⟨k - 1, by have := of_decide_eq_false h2; omega⟩; have ihm := ih m hm1 hm2; subst hm1; have hpl := putM_len (n / 256) m; rw [put_s q]; rw [show (m : Int) = IntKind.i64.wrap (((m + 1 : Nat) : Int) - 1) from by rw [wrapId (by omega)]; omega] at ihm; have hq : (n : Int).tdiv 256 = ((n / 256 : Nat) : Int) := (Int.ofNat_tdiv n 256).symm; have hr : (n : Int).tmod 256 = ((n % 256 : Nat) : Int) := (Int.ofNat_tmod n 256).symm; rw [show ((n / 256 : Nat) : Int) = IntKind.i64.wrap ((n : Int).tdiv 256) from by rw [hq, wrapId (by omega)]] at ihm
      refine Tri.seq (Tri.drw hT hm 11 (by kernel_rfl) ?_)
      refine ⟨(by decide), ?_⟩
      refine .inl ⟨_, fun _ => rfl, ihm, ?_⟩
      refine ⟨(by decide), ?_⟩
      refine ⟨by exact Nat.le_refl _, ?_⟩
      refine ⟨by show _ + 1 ≤ _; omega, ?_⟩
      refine ⟨by kernel_rfl, ?_⟩
      refine Tri.ret ?_
      exact ⟨congrArg AV.str (by show putM (n / 256) m ++ [Fw.byteOf (IntKind.u8.wrap ((n : Int).tmod 256))] = _; rw [hr, wrap8, Nat.mod_mod]; rfl), trivial⟩
theorem f38_spec : ∀ (k : Nat), 1 ≤ k → k ≤ 7 → ∀ (n : Nat), n ≤ 4611686018427387904 → PSpec P [] 38 [.int .i64 (n : Int), .int .i64 (k : Int)] (.str (putM n k))
  | 0, h, _, _, _ => absurd h (by decide)
  | k + 1, h1, h7, n, hn => put_at n (k + 1) ⟨h1, h7⟩ hn (fun m e hm => by have e : k = m := Nat.succ.inj e; subst e; exact f38_spec k hm (by omega) (n / 256) (Nat.le_trans (Nat.div_le_self n 256) hn))
set_option maxRecDepth 8000 in
theorem f42_spec (kind size : Nat) (s : List UInt8) (hz : 0 < size ∧ size ≤ 16384) (hs : s.length ≤ 1099511627776) : PSpec P [] 42 [.int .u8 (kind : Int), .str s, .int .i64 (size : Int)] (.str (cutM kind size s)) := by
  refine pspec_intro hT Try.func42 (by decide) rfl rfl (by kernel_rfl) rfl ?_
  refine Tri.seq (Tri.reg hT ?_)
  refine Tri.seq (Tri.reg hT ?_)
  refine Tri.seq (Tri.block ?_)
  refine (Tri.loop (ι := List UInt8 × List UInt8) (fun x => ⟨31, 0, 40, [(0, .int .u8 (kind : Int)), (1, .str x.1), (2, .int .i64 (size : Int)), (7, .str x.2)], [], []⟩) (fun x => x.1.length ≤ s.length ∧ x.2.length + 6 * x.1.length ≤ 6 * s.length ∧ x.2 ++ cutM kind size x.1 = cutM kind size s) (fun x => x.1.length) ((s, [])) ?_ ?_ ?_)
  · exact ⟨Nat.le_refl _, by show 0 + 6 * s.length ≤ _; omega, rfl⟩
  · exact Le.weak rfl rfl rfl rfl ⟨(by first | rfl | exact iv1 (by (try simp only [decide_eq_true_eq, decide_eq_false_iff_not, toNat_cast] at *); omega)), (by first | rfl | exact iv1 (by (try simp only [decide_eq_true_eq, decide_eq_false_iff_not, toNat_cast] at *); omega)), (by first | rfl | exact iv1 (by (try simp only [decide_eq_true_eq, decide_eq_false_iff_not, toNat_cast] at *); omega)), (by first | rfl | exact iv1 (by (try simp only [decide_eq_true_eq, decide_eq_false_iff_not, toNat_cast] at *); omega)), trivial⟩ trivial
  · intro ⟨r, out⟩ hi; obtain ⟨hl, hlen, hi2⟩ := hi; change r.length ≤ _ at hl; change out.length + 6 * r.length ≤ _ at hlen; change out ++ cutM kind size r = _ at hi2
    refine Tri.seq ?_
    refine Tri.seq (Tri.reg hT ?_)
    refine (Tri.cond ⟨fun h1 => ?_, fun h1 => ?_⟩)
    · refine (Tri.skip ?_)
      refine (Tri.block ?_)
      refine Tri.seq (Tri.reg hT ?_)
      have hne : r ≠ [] := of_decide_eq_true h1; have hp := List.length_pos_iff.2 hne; have hq := cutM_eq kind size hz.1 r; rw [if_neg hne] at hq; have hpl := putM_len (min r.length size) 2; have htl : (r.take (min r.length size)).length = min r.length size := (by rw [List.length_take]; omega); have hpc : ([UInt8.ofNat kind, 3, 3] ++ putM (min r.length size) 2 ++ r.take (min r.length size)).length ≤ 5 + min r.length size := (by simp only [List.length_append, List.length_cons, List.length_nil, htl]; omega)
      refine Tri.le (⟨31, 0, 60, [(0, .int .u8 (kind : Int)), (1, .str r), (2, .int .i64 (size : Int)), (7, .str out), (8, .int .i64 ((min r.length size : Nat) : Int))], [], []⟩) (Le.weak rfl rfl rfl rfl ⟨(by first | rfl | exact iv1 (by (try simp only [decide_eq_true_eq, decide_eq_false_iff_not, toNat_cast] at *); omega)), (by first | rfl | exact iv1 (by (try simp only [decide_eq_true_eq, decide_eq_false_iff_not, toNat_cast] at *); omega)), (by first | rfl | exact iv1 (by (try simp only [decide_eq_true_eq, decide_eq_false_iff_not, toNat_cast] at *); omega)), (by first | rfl | exact iv1 (by (try simp only [decide_eq_true_eq, decide_eq_false_iff_not, toNat_cast] at *); omega)), congrArg (AV.int .i64) (by show min (size : Int) (r.length : Int) = _; omega), trivial⟩ trivial) ?_
      refine Tri.seq (Tri.drw hT hm 12 (by kernel_rfl) ?_)
      refine ⟨by exact Nat.le_refl _, ?_⟩
      refine ⟨by show _ + 3 ≤ _; omega, ?_⟩
      refine .inl ⟨_, fun _ => rfl, f38_spec 2 (by decide) (by decide) (min r.length size) (by omega), ?_⟩
      refine ⟨by rw [List.length_append]; show _ + 3 + _ ≤ _; omega, ?_⟩
      refine ⟨by omega, ?_⟩
      refine ⟨by rw [List.length_append, List.length_append]; show _ + 3 + _ + _ ≤ _; rw [toNat_cast, List.length_drop, List.length_take]; omega, ?_⟩
      refine ⟨by kernel_rfl, ?_⟩
      refine (Tri.reg hT ?_)
      refine ⟨by omega, ?_⟩
      exact ⟨(r.drop (min r.length size), out ++ ([UInt8.ofNat kind, 3, 3] ++ putM (min r.length size) 2 ++ r.take (min r.length size))), ⟨by show (r.drop (min r.length size)).length ≤ _; rw [List.length_drop]; omega, by show (out ++ ([UInt8.ofNat kind, 3, 3] ++ putM (min r.length size) 2 ++ r.take (min r.length size))).length + 6 * (r.drop (min r.length size)).length ≤ _; rw [List.length_append, List.length_drop]; omega, by show (out ++ ([UInt8.ofNat kind, 3, 3] ++ putM (min r.length size) 2 ++ r.take (min r.length size))) ++ _ = _; rw [List.append_assoc, ← hq]; exact hi2⟩, (by show (r.drop (min r.length size)).length < r.length; rw [List.length_drop]; omega), Le.weak rfl rfl rfl rfl ⟨(by first | rfl | exact iv1 (by (try simp only [decide_eq_true_eq, decide_eq_false_iff_not, toNat_cast] at *); omega)), congrArg AV.str (by rw [toNat_cast, toNat_cast, List.take_length]), (by first | rfl | exact iv1 (by (try simp only [decide_eq_true_eq, decide_eq_false_iff_not, toNat_cast] at *); omega)), congrArg AV.str (by show ((out ++ [UInt8.ofNat kind, 3, 3]) ++ putM (min r.length size) 2) ++ r.take (min r.length size) = out ++ _; simp only [List.append_assoc]), trivial⟩ trivial⟩
    · refine Tri.exit ?_
      refine Tri.seq (Tri.reg hT ?_)
      refine Tri.ret ?_
      have hr0 : r = [] := Classical.not_not.1 (of_decide_eq_false h1); rw [hr0] at hi2; have e0 : cutM kind size [] = [] := (by rw [cutM_eq kind size hz.1, if_pos rfl]); rw [e0, List.append_nil] at hi2; exact ⟨congrArg AV.str hi2, trivial⟩
theorem f26_spec (s : List UInt8) (size : Int) (hs : s.length ≤ 1099511627776) : PSpec P [] 26 [.str s, .int .i64 size] (.str (cutM 22 (min (max size 1) 16384).toNat s)) := by
  have e : ((min (max size 1) 16384).toNat : Int) = min (max size 1) 16384 := by omega
  have k := f42_spec 22 (min (max size 1) 16384).toNat s (by omega) hs
  rw [e] at k
  refine pspec_intro hT Try.func26 (by decide) rfl rfl (by kernel_rfl) rfl ?_
  refine Tri.seq (Tri.reg hT ?_)
  refine Tri.seq (Tri.reg hT ?_)
  refine .inl (.inl ⟨_, fun _ => rfl, k, ?_⟩)
  refine Tri.ret ?_
  exact ⟨rfl, trivial⟩
theorem short_of {s : List UInt8} (h : gd (if decide ((s.length : Int) > 20000) = true then true else false) false = true) : s.length ≤ 1099511627776 := by
  by_cases q : decide ((s.length : Int) > 20000) = true
  · rw [if_pos q] at h; cases h
  · have := of_decide_eq_false (Bool.eq_false_iff.2 q); omega
theorem f5_spec (s : List UInt8) (size : Int) : PSpec P [] 5 [.str s, .int .i64 size] (.bool true) := by
  refine pspec_intro hT Try.func5 (by decide) rfl rfl (by kernel_rfl) rfl ?_
  refine Tri.seq (Tri.reg hT ?_)
  refine Tri.seq (Tri.reg hT ?_)
  refine ⟨_, [], trivial, rfl, rfl, fun h => (.inl ⟨_, fun _ => rfl, f11_spec, rfl, rfl, rfl⟩), ?_⟩
  refine ⟨⟨fun hc => hc, fun _ => trivial⟩, ?_⟩
  refine ⟨_, [], trivial, rfl, rfl, fun h => ⟨rfl, rfl, rfl⟩, ?_⟩
  refine ⟨_, [], trivial, rfl, rfl, fun h => ⟨rfl, rfl, rfl⟩, ?_⟩
  refine ⟨_, [], trivial, rfl, rfl, fun h => ⟨h, h, (.inl ⟨_, fun _ => rfl, f25_spec s size (short_of h), rfl, rfl, rfl⟩)⟩, ?_⟩
  refine ⟨_, [], trivial, rfl, rfl, fun h => ⟨rfl, rfl, rfl⟩, ?_⟩
  refine ⟨_, [], trivial, rfl, rfl, fun h => ⟨rfl, rfl, rfl⟩, ?_⟩
  refine ⟨_, [], trivial, rfl, rfl, fun h => ⟨h, h, (.inl ⟨_, fun _ => rfl, f26_spec s size (short_of h), rfl, rfl, rfl⟩)⟩, ?_⟩
  refine ⟨_, [], trivial, rfl, rfl, fun h => ⟨h, h, rfl, rfl, rfl⟩, ?_⟩
  refine ⟨_, [], trivial, rfl, rfl, fun h => ⟨h, rfl, rfl, rfl⟩, ?_⟩
  refine ⟨_, [], trivial, rfl, rfl, fun h => (.inl ⟨_, fun _ => rfl, f11_spec, rfl, rfl, rfl⟩), ?_⟩
  refine ⟨_, [], trivial, rfl, rfl, fun h => ⟨h, ⟨fun hc => ga h hc, fun _ => trivial⟩, rfl, rfl, rfl⟩, ?_⟩
  refine ⟨⟨fun _ => trivial, fun hc => (gn hc)⟩, ?_⟩
  refine Tri.ret ?_
  exact ⟨congrArg AV.bool (by simp), trivial⟩
end Go.Proofs.Ytgbmbihajkjbmaa.Fx
