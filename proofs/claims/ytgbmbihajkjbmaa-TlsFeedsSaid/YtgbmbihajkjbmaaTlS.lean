import Derived.Test.YtgbmbihajkjbmaaTlL
import Derived.Test.YtgbmbihajkjbmaaGTl3
set_option linter.all false
/- Contracts of chapter 32: TlsReads. -/
namespace Go.Proofs.Ytgbmbihajkjbmaa.Fx
open Go Go.Fw Go.Ov Go.Tl Go.Shelf
theorem u8_rng {x : Int} (h : Fw.Good (.int .u8) x) : 0 ≤ x ∧ x < 256 := by
  have h : (Lit.int .u8 x).wf = true := h
  simp [Lit.wf, IntKind.min, IntKind.max, IntKind.signed, IntKind.bits] at h
  omega
theorem encL_next {l : List (List UInt8)} {i : Nat} (h : i < l.length) : encL (l.take (i + 1)) = encL (l.take i) ++ putM (l.getD i []).length 3 ++ l.getD i [] := by
  unfold encL
  rw [List.take_succ, List.map_append, List.flatten_append, List.getD_eq_getElem?_getD]
  simp [h]
theorem short_take {l : List (List UInt8)} {i : Nat} (h : ∀ j, j < i → (l.getD j []).length ≤ 500) : ∀ s ∈ l.take i, s.length ≤ 500 := fun s hs => by
  obtain ⟨j, hj, rfl⟩ := List.getElem_of_mem hs
  have hj2 : j < i ∧ j < l.length := by rw [List.length_take] at hj; omega
  have := h j hj2.1
  rw [List.getD_eq_getElem?_getD] at this
  simpa [hj2.2] using this
theorem msgRf_len (kd : Nat) (body : List UInt8) : (msgRf kd body).length ≤ 6 * (4 + body.length) := by
  have h1 := cutM_len 22 16384 (by decide) _ ([UInt8.ofNat kd] ++ (szM body 3).1) (Nat.le_refl _)
  have h2 := sz_len body 3
  rw [show ([UInt8.ofNat kd] ++ (szM body 3).1).length = 1 + (szM body 3).1.length from by rw [List.length_append]; rfl] at h1
  unfold msgRf
  split
  · omega
  · exact Nat.zero_le _
theorem reads_len (v : Int) {name : List UInt8} (hn : name.length ≤ 2000) {l : List (List UInt8)} (h6 : l.length ≤ 6) (h : ∀ s ∈ l, s.length ≤ 500) : (clientB v name ++ serverB v ++ chainB l).length ≤ 1000000 := by
  rw [List.length_append, List.length_append, client_same _ (by omega), server_same, chain_same (fun i hi => Nat.le_trans (h _ (getD_mem hi)) (by decide)), List.take_of_length_le h6, chR_enc]
  have a1 := msgRf_len 1 (clRf (clampV v) name)
  have a2 := msgRf_len 2 (srvRf (clampV v))
  have a3 := msgRf_len 11 (szM (encL l) 3).1
  have a4 := clRf_short (clampV v) name
  have a5 := srvRf_short (clampV v)
  have a6 := sz_len (encL l) 3
  have a7 := encL_len l h
  have a8 : l.length * 503 ≤ 6 * 503 := Nat.mul_le_mul_right _ h6
  omega
set_option maxRecDepth 8000 in
theorem f8_spec (ver : Int) (name : List UInt8) (l : List (List UInt8)) (size : Int) (hver : 0 ≤ ver ∧ ver < 256) : PSpec P [] 8 [.int .u8 ver, .str name, .list .str l, .int .i64 size] (.bool true) := by
  refine pspec_intro hT Try.func8 (by decide) rfl rfl (by kernel_rfl) rfl ?_
  refine Tri.seq (Tri.reg hT ?_)
  refine Tri.seq ?_
  refine Tri.seq (Tri.reg hT ?_)
  refine ⟨_, [], trivial, rfl, rfl, fun h => ⟨rfl, rfl, rfl⟩, ?_⟩
  refine ⟨_, [], trivial, rfl, rfl, fun h => ⟨h, rfl, rfl, rfl⟩, ?_⟩
  refine ⟨_, [], trivial, rfl, rfl, fun h => ⟨h, rfl, rfl, rfl⟩, ?_⟩
  refine ⟨⟨fun _ => trivial, fun hc => (gn hc)⟩, ?_⟩
  refine (Tri.cond ⟨fun h1 => ?_, fun h1 => ?_⟩)
  · refine Tri.seq (Tri.reg hT ?_)
    refine .inl (.inl ⟨_, fun _ => rfl, f11_spec, ?_⟩)
    refine Tri.ret ?_
    exact ⟨rfl, trivial⟩
  · refine (Tri.skip ?_)
    have hb : name.length ≤ 2000 ∧ l.length ≤ 6 := (by rw [ifo] at h1; have := Bool.or_eq_false_iff.1 h1; have q1 := of_decide_eq_false this.1; have q2 := of_decide_eq_false this.2; omega); obtain ⟨hn, h6⟩ := hb
    refine Tri.seq (Tri.reg hT ?_)
    refine Tri.seq ?_
    refine Tri.seq (Tri.reg hT ?_)
    refine (Tri.block ?_)
    refine (Tri.loop (ι := Nat) (fun i => ⟨103, 0, 60, [(0, .int .u8 ver), (1, .str name), (2, .list .str l), (3, .int .i64 size), (9, .str (encL (l.take i))), (24, .int .i64 (l.length : Int)), (25, .int .i64 (i : Int))], [], []⟩) (fun i => i ≤ l.length ∧ ∀ j, j < i → (l.getD j []).length ≤ 500) (fun i => l.length - i) (0) ?_ ?_ ?_)
    · exact ⟨Nat.zero_le _, fun j hj => absurd hj (Nat.not_lt_zero j)⟩
    · exact Le.weak rfl rfl rfl rfl ⟨(by first | rfl | exact iv1 (by (try simp only [decide_eq_true_eq, decide_eq_false_iff_not, toNat_cast] at *); omega)), (by first | rfl | exact iv1 (by (try simp only [decide_eq_true_eq, decide_eq_false_iff_not, toNat_cast] at *); omega)), (by first | rfl | exact iv1 (by (try simp only [decide_eq_true_eq, decide_eq_false_iff_not, toNat_cast] at *); omega)), (by first | rfl | exact iv1 (by (try simp only [decide_eq_true_eq, decide_eq_false_iff_not, toNat_cast] at *); omega)), (by first | rfl | exact iv1 (by (try simp only [decide_eq_true_eq, decide_eq_false_iff_not, toNat_cast] at *); omega)), (by first | rfl | exact iv1 (by (try simp only [decide_eq_true_eq, decide_eq_false_iff_not, toNat_cast] at *); omega)), (by first | rfl | exact iv1 (by (try simp only [decide_eq_true_eq, decide_eq_false_iff_not, toNat_cast] at *); omega)), trivial⟩ trivial
    · intro i hi
      refine Tri.seq (Tri.reg hT ?_)
      refine Tri.seq (Tri.cond ⟨fun h2 => ?_, fun h2 => ?_⟩)
      · refine (Tri.skip ?_)
        refine Tri.seq (Tri.block ?_)
        refine Tri.seq (Tri.reg hT ?_)
        refine Tri.seq ?_
        have hlt : i < l.length := (by have := of_decide_eq_true h2; omega); have w1 : IntKind.i64.wrap ((i : Int) + 1) = ((i + 1 : Nat) : Int) := (by rw [wrapId (by omega)]; omega); have hel := encL_len (l.take i) (short_take hi.2); rw [List.length_take] at hel; have hel2 : (min i l.length) * 503 ≤ 6 * 503 := Nat.mul_le_mul_right _ (by omega); have hpl := putM_len (l.getD i []).length 3
        refine Tri.le (⟨103, 0, 80, [(0, .int .u8 ver), (1, .str name), (2, .list .str l), (3, .int .i64 size), (9, .str (encL (l.take i))), (10, .int .i64 (i : Int)), (24, .int .i64 (l.length : Int)), (25, .int .i64 (i : Int))], [], []⟩) (Le.weak rfl rfl rfl rfl ⟨(by first | rfl | exact iv1 (by (try simp only [decide_eq_true_eq, decide_eq_false_iff_not, toNat_cast] at *); omega)), (by first | rfl | exact iv1 (by (try simp only [decide_eq_true_eq, decide_eq_false_iff_not, toNat_cast] at *); omega)), (by first | rfl | exact iv1 (by (try simp only [decide_eq_true_eq, decide_eq_false_iff_not, toNat_cast] at *); omega)), (by first | rfl | exact iv1 (by (try simp only [decide_eq_true_eq, decide_eq_false_iff_not, toNat_cast] at *); omega)), (by first | rfl | exact iv1 (by (try simp only [decide_eq_true_eq, decide_eq_false_iff_not, toNat_cast] at *); omega)), (by first | rfl | exact iv1 (by (try simp only [decide_eq_true_eq, decide_eq_false_iff_not, toNat_cast] at *); omega)), (by first | rfl | exact iv1 (by (try simp only [decide_eq_true_eq, decide_eq_false_iff_not, toNat_cast] at *); omega)), (by first | rfl | exact iv1 (by (try simp only [decide_eq_true_eq, decide_eq_false_iff_not, toNat_cast] at *); omega)), trivial⟩ trivial) ?_
        refine Tri.seq (Tri.reg hT ?_)
        refine ⟨by omega, ?_⟩
        refine (Tri.cond ⟨fun h3 => ?_, fun h3 => ?_⟩)
        · refine Tri.seq (Tri.reg hT ?_)
          refine .inl (.inl ⟨_, fun _ => rfl, f11_spec, ?_⟩)
          refine Tri.ret ?_
          exact ⟨rfl, trivial⟩
        · refine (Tri.skip ?_)
          have h500 : (l.getD i []).length ≤ 500 := (by have q := of_decide_eq_false h3; rw [toNat_cast] at q; change ¬ ((l.getD i []).length : Int) > 500 at q; omega)
          refine (Tri.drw hT hm 13 (by kernel_rfl) ?_)
          refine ⟨by omega, ?_⟩
          refine .inl ⟨_, fun _ => rfl, f28_spec (l.getD ((i : Int)).toNat []).length 3 (by decide) (by rw [toNat_cast]; omega), ?_⟩
          refine ⟨by rw [toNat_cast]; omega, ?_⟩
          refine ⟨by omega, ?_⟩
          refine ⟨by rw [List.length_append, toNat_cast]; show _ + _ + (l.getD i []).length ≤ _; omega, ?_⟩
          refine ⟨by kernel_rfl, ?_⟩
          refine (Tri.reg hT ?_)
          exact ⟨i + 1, ⟨hlt, fun j hj => by rcases Nat.lt_succ_iff_lt_or_eq.1 hj with q | q; exact hi.2 j q; rw [q]; exact h500⟩, (by omega), Le.weak rfl rfl rfl rfl ⟨(by first | rfl | exact iv1 (by (try simp only [decide_eq_true_eq, decide_eq_false_iff_not, toNat_cast] at *); omega)), (by first | rfl | exact iv1 (by (try simp only [decide_eq_true_eq, decide_eq_false_iff_not, toNat_cast] at *); omega)), (by first | rfl | exact iv1 (by (try simp only [decide_eq_true_eq, decide_eq_false_iff_not, toNat_cast] at *); omega)), (by first | rfl | exact iv1 (by (try simp only [decide_eq_true_eq, decide_eq_false_iff_not, toNat_cast] at *); omega)), congrArg AV.str (by rw [encL_next hlt]; rfl), (by first | rfl | exact iv1 (by (try simp only [decide_eq_true_eq, decide_eq_false_iff_not, toNat_cast] at *); omega)), congrArg (AV.int .i64) w1, trivial⟩ trivial⟩
      · refine Tri.exit ?_
        have hN : i = l.length := (by have := of_decide_eq_false h2; omega); subst hN; obtain ⟨m, hm'⟩ : ∃ m : Nat, ver = (m : Int) := ⟨ver.toNat, by omega⟩; subst hm'; have hall : ∀ x ∈ l, x.length ≤ 500 := (by have := short_take hi.2; rw [List.take_length] at this; exact this); have hv : IntKind.i64.wrap (768 + IntKind.i64.wrap ((m : Int).tmod 5)) = ((768 + m % 5 : Nat) : Int) := (by rw [show (m : Int).tmod 5 = ((m % 5 : Nat) : Int) from (Int.ofNat_tmod m 5).symm, show IntKind.i64.wrap ((m % 5 : Nat) : Int) = ((m % 5 : Nat) : Int) from wrapId (by omega), wrapId (by omega)]; omega); have hw : 768 ≤ 768 + m % 5 ∧ 768 + m % 5 ≤ 772 := (by omega); have fr := feed_reads hw hn h6 hall; have hel := encL_len l hall; have hel2 : l.length * 503 ≤ 6 * 503 := Nat.mul_le_mul_right _ h6
        refine Tri.seq (Tri.reg hT ?_)
        refine ⟨(by decide), ?_⟩
        skip
        refine Tri.le (⟨103, 0, 80, [(1, .str name), (2, .list .str l), (3, .int .i64 size), (9, .str (encL l)), (11, .int .i64 ((768 + m % 5 : Nat) : Int))], [], []⟩) (Le.weak rfl rfl rfl rfl ⟨(by first | rfl | exact iv1 (by (try simp only [decide_eq_true_eq, decide_eq_false_iff_not, toNat_cast] at *); omega)), (by first | rfl | exact iv1 (by (try simp only [decide_eq_true_eq, decide_eq_false_iff_not, toNat_cast] at *); omega)), (by first | rfl | exact iv1 (by (try simp only [decide_eq_true_eq, decide_eq_false_iff_not, toNat_cast] at *); omega)), congrArg AV.str (by rw [List.take_length]), congrArg (AV.int .i64) hv, trivial⟩ trivial) ?_
        refine Tri.seq (Tri.reg hT ?_)
        refine Tri.seq ?_
        refine Tri.le _ (Le.freeze 12 87 3 rfl rfl (Nat.le_refl _)) ?_; generalize 768 + m % 5 = w at *; have hl3 : (clientB (w : Int) name ++ serverB (w : Int) ++ chainB l).length ≤ 1000000 := reads_len (w : Int) hn h6 hall; rw [List.length_append, List.length_append] at hl3
        refine Tri.seq (Tri.reg hT ?_)
        refine .inl (.inl ⟨_, fun _ => rfl, f17_spec _ name (by omega), ?_⟩)
        refine .inl (.inl ⟨_, fun _ => rfl, f19_spec _, ?_⟩)
        refine ⟨by omega, ?_⟩
        refine .inl (.inl ⟨_, fun _ => rfl, f21_spec l (by omega) (fun i hi => Nat.le_trans (hall _ (getD_mem hi)) (by decide)), ?_⟩)
        refine ⟨by rw [List.length_append]; omega, ?_⟩
        refine .inl (.inl ⟨_, fun _ => rfl, f27_spec _ (by rw [List.length_append, List.length_append]; omega), ?_⟩)
        refine .inl (.inl ⟨_, fun _ => rfl, f14_spec _ _ (by rw [fr]; show 3 ≤ _; omega) (feedM_sm p0 _).1.hla, ?_⟩)
        refine (Tri.cond ⟨fun h4 => ?_, fun h4 => ?_⟩)
        · exfalso; rw [fr] at h4; simp at h4
        · refine (Tri.skip ?_)
          have kp := f28_spec ((encL l).length + 3) 3 (by decide) (by omega); rw [show (((encL l).length + 3 : Nat) : Int) = IntKind.i64.wrap (((encL l).length : Int) + 3) from by rw [wrapId (by omega)]; omega] at kp; have p1 := putM_len ((encL l).length + 3) 3; have p2 := putM_len (encL l).length 3
          refine Tri.seq (Tri.reg hT ?_)
          refine .inl (.inl ⟨_, fun _ => rfl, kp, ?_⟩)
          refine ⟨by show 1 + _ ≤ _; omega, ?_⟩
          refine .inl (.inl ⟨_, fun _ => rfl, f28_spec (encL l).length 3 (by decide) (by omega), ?_⟩)
          refine ⟨by rw [List.length_append]; show 1 + _ + _ ≤ _; omega, ?_⟩
          refine ⟨by rw [List.length_append, List.length_append]; show 1 + _ + _ + _ ≤ _; omega, ?_⟩
          obtain ⟨M, hMM⟩ : ∃ M, M = ([11] ++ putM ((encL l).length + 3) 3 ++ putM (encL l).length 3 ++ encL l) := ⟨_, rfl⟩; have hM : M.length ≤ 10000 := (by rw [hMM, List.length_append, List.length_append, List.length_append]; show 1 + _ + _ + _ ≤ _; omega); have ft := feed_twice (size := (min (max size 1) 16384).toNat) (by omega) (by omega) h6 hall M hMM; have fc := cutM_len 22 (min (max size 1) 16384).toNat (by omega) _ (M ++ [14, 0, 0, 0] ++ M) (Nat.le_refl _); have fl : (M ++ [14, 0, 0, 0] ++ M).length = M.length + 4 + M.length := (by rw [List.length_append, List.length_append]; rfl); rw [fl] at fc
          refine Tri.le (⟨103, 0, 130, [(3, .int .i64 size), (12, .list eT [(1, (w : Int), name, [], ()), (2, (w : Int), [], [], ()), (3, 0, [], l, ())]), (13, .str M)], [], []⟩) (Le.weak rfl rfl rfl rfl ⟨(by first | rfl | exact iv1 (by (try simp only [decide_eq_true_eq, decide_eq_false_iff_not, toNat_cast] at *); omega)), (by first | rfl | exact iv1 (by (try simp only [decide_eq_true_eq, decide_eq_false_iff_not, toNat_cast] at *); omega)), congrArg AV.str hMM.symm, trivial⟩ trivial) ?_
          refine Tri.seq (Tri.drwM hT hm 14 [14] (by kernel_rfl) ?_)
          refine ⟨by show _ + 4 ≤ _; omega, ?_⟩
          refine ⟨by rw [List.length_append]; show _ + 4 + _ ≤ _; omega, ?_⟩
          refine .inl ⟨_, fun _ => rfl, f25_spec (M ++ [14, 0, 0, 0] ++ M) size (by omega), ?_⟩
          refine .inl ⟨_, fun _ => rfl, f27_spec _ (by omega), ?_⟩
          refine ⟨by show (0 : Int) ≤ 2 ∧ (2 : Int) < ((3 : Nat) : Int); omega, ?_⟩
          refine ⟨by show (0 : Int) ≤ 2 ∧ (2 : Int) < ((3 : Nat) : Int); omega, ?_⟩
          refine ⟨by kernel_rfl, ?_⟩
          refine ⟨_, Le.freeze 98 143 2 rfl rfl (Nat.le_refl _), .inl (.inl ?_)⟩
          refine .inl (.inl ⟨_, fun _ => rfl, f14_spec _ _ (by rw [ft]; show 2 ≤ _; omega) (feedM_sm p0 _).1.hla, ?_⟩)
          refine ⟨_, [], trivial, rfl, rfl, fun h => (.inl ⟨_, fun _ => rfl, f11_spec, rfl, rfl, rfl⟩), ?_⟩
          refine ⟨⟨fun hc => hc, fun _ => trivial⟩, ?_⟩
          refine Tri.ret ?_
          exact ⟨congrArg AV.bool (by rw [ft]; simp), trivial⟩
end Go.Proofs.Ytgbmbihajkjbmaa.Fx
