import Derived.Test.YtgbmbihajkjbmaaTlP
set_option linter.all false
/- Contracts of chapter 32: the reference's Client, Chain; TlsBuilds. -/
namespace Go.Proofs.Ytgbmbihajkjbmaa.Fx
open Go Go.Fw Go.Ov Go.Tl Go.Shelf
theorem cly_len (v : Nat) (name : List UInt8) : (cly v name).length ≤ name.length + 16 := by
  have := clx_len name
  unfold cly
  split
  · rw [List.length_append]; show _ + 7 ≤ _; omega
  · omega
theorem clRf_len (v : Nat) (name : List UInt8) : (clRf v name).length ≤ name.length + 100 := by
  have := putM_len (min v 771) 2
  have h1 := cly_len v name
  have h2 := sz_len (cly v name) 2
  unfold clRf
  split <;> simp only [List.length_append, List.length_replicate, List.length_cons, List.length_nil] <;> omega
set_option maxRecDepth 8000 in
theorem f18_spec (version : Int) (name : List UInt8) (hn : name.length ≤ 20000) : PSpec P [] 18 [.int .i64 version, .str name] (.str (msgRf 1 (clRf (clampV version) name))) := by
  have hv := clampV_rng version
  have he := clampV_eq version
  have p16 : (256 : Nat) ^ 2 = 65536 := by decide
  have kp := f38_spec 2 (by decide) (by decide) (min (clampV version) 771) (by omega)
  rw [show ((min (clampV version) 771 : Nat) : Int) = min ((clampV version : Nat) : Int) 771 from by omega] at kp
  have hp := putM_len (min (clampV version) 771) 2
  have hl := clRf_len (clampV version) name
  have hx := clx_len name
  have hy := cly_len (clampV version) name
  have l1 := sz_len name 2
  have l2 := sz_len ([0] ++ (szM name 2).1) 2
  have l3 := sz_len (szM ([0] ++ (szM name 2).1) 2).1 2
  have l4 := sz_len (cly (clampV version) name) 2
  have l0 : ([0] ++ (szM name 2).1 : List UInt8).length = 1 + (szM name 2).1.length := by rw [List.length_append]; rfl
  rw [l0] at l2
  have e1 : (szM name 2).2 = true := by rw [sz_ok (by decide) (by omega)]
  have e2 : (szM ([0] ++ (szM name 2).1) 2).2 = true := by rw [sz_ok (by decide) (by omega)]
  have e3 : (szM (szM ([0] ++ (szM name 2).1) 2).1 2).2 = true := by rw [sz_ok (by decide) (by omega)]
  have e4 : (szM (cly (clampV version) name) 2).2 = true := by rw [sz_ok (by decide) (by omega)]
  refine pspec_intro hT Try.func18 (by decide) rfl rfl (by kernel_rfl) rfl ?_
  refine Tri.seq (Tri.reg hT ?_)
  refine Tri.seq (Tri.reg hT ?_)
  skip
  refine Tri.le (⟨71, 0, 20, [(0, .int .i64 ((clampV version : Nat) : Int)), (1, .str name)], [], []⟩) (Le.weak rfl rfl rfl rfl ⟨congrArg (AV.int .i64) he.symm, (by first | rfl | exact iv1 (by (try simp only [decide_eq_true_eq, decide_eq_false_iff_not, toNat_cast] at *); omega)), trivial⟩ trivial) ?_
  refine Tri.seq (Tri.reg hT ?_)
  refine Tri.seq ?_
  refine Tri.seq (Tri.reg hT ?_)
  refine (Tri.cond ⟨fun h1 => ?_, fun h1 => ?_⟩)
  · refine Tri.seq (Tri.reg hT ?_)
    refine .inl (.inl ⟨_, fun _ => rfl, f37_spec name 2 (by decide) (by omega), ?_⟩)
    refine Tri.seq (Tri.reg hT ?_)
    refine ⟨by show 1 + _ ≤ _; omega, ?_⟩
    refine .inl (.inl ⟨_, fun _ => rfl, f37_spec ([0] ++ (szM name 2).1) 2 (by decide) (by omega), ?_⟩)
    refine Tri.seq (Tri.reg hT ?_)
    refine .inl (.inl ⟨_, fun _ => rfl, f37_spec (szM ([0] ++ (szM name 2).1) 2).1 2 (by decide) (by omega), ?_⟩)
    refine Tri.seq ?_
    refine Tri.seq (Tri.reg hT ?_)
    refine ⟨_, [], trivial, rfl, rfl, fun h => ⟨rfl, rfl, rfl⟩, ?_⟩
    refine ⟨_, [], trivial, rfl, rfl, fun h => ⟨h, rfl, rfl, rfl⟩, ?_⟩
    refine ⟨⟨fun _ => trivial, fun hc => (gn hc)⟩, ?_⟩
    refine ⟨_, [], trivial, rfl, rfl, fun h => ⟨rfl, rfl, rfl⟩, ?_⟩
    refine ⟨_, [], trivial, rfl, rfl, fun h => ⟨h, rfl, rfl, rfl⟩, ?_⟩
    refine ⟨⟨fun _ => trivial, fun hc => (gn hc)⟩, ?_⟩
    refine (Tri.cond ⟨fun h2 => ?_, fun h2 => ?_⟩)
    · exfalso; rw [ifo, ifo, e1, e2, e3] at h2; cases h2
    · refine (Tri.skip ?_)
      refine (Tri.reg hT ?_)
      refine ⟨by show 2 + _ ≤ _; omega, ?_⟩
      refine Tri.seq ?_
      skip
      refine Tri.le (⟨71, 0, 60, [(0, .int .i64 ((clampV version : Nat) : Int)), (5, .str (clx name))], [], []⟩) (Le.weak rfl rfl rfl rfl ⟨(by first | rfl | exact iv1 (by (try simp only [decide_eq_true_eq, decide_eq_false_iff_not, toNat_cast] at *); omega)), congrArg AV.str (by unfold clx; first | (rw [if_pos (of_decide_eq_true h1)]; try rfl) | (rw [if_neg (of_decide_eq_false h1)]; try rfl)), trivial⟩ trivial) ?_
      refine Tri.seq (Tri.reg hT ?_)
      refine (Tri.cond ⟨fun h3 => ?_, fun h3 => ?_⟩)
      · refine (Tri.reg hT ?_)
        refine ⟨by show _ + 7 ≤ _; omega, ?_⟩
        skip
        refine Tri.le (⟨71, 0, 90, [(0, .int .i64 ((clampV version : Nat) : Int)), (5, .str (cly (clampV version) name))], [], []⟩) (Le.weak rfl rfl rfl rfl ⟨(by first | rfl | exact iv1 (by (try simp only [decide_eq_true_eq, decide_eq_false_iff_not, toNat_cast] at *); omega)), congrArg AV.str (by unfold cly; first | (rw [if_pos (cv (by assumption))]; try rfl) | (rw [if_neg (cw (by assumption))]; try rfl)), trivial⟩ trivial) ?_
        refine Tri.seq (Tri.reg hT ?_)
        refine .inl (.inl ⟨_, fun _ => rfl, kp, ?_⟩)
        refine ⟨by show _ + 32 ≤ _; omega, ?_⟩
        refine ⟨by rw [List.length_append]; show _ + 32 + 7 ≤ _; omega, ?_⟩
        refine Tri.seq ?_
        refine Tri.seq (Tri.reg hT ?_)
        refine (Tri.cond ⟨fun h4 => ?_, fun h4 => ?_⟩)
        · refine Tri.seq (Tri.reg hT ?_)
          refine .inl (.inl ⟨_, fun _ => rfl, f37_spec (cly (clampV version) name) 2 (by decide) (by omega), ?_⟩)
          refine Tri.seq ?_
          refine Tri.seq (Tri.reg hT ?_)
          refine (Tri.cond ⟨fun h5 => ?_, fun h5 => ?_⟩)
          · exfalso; rw [e4] at h5; cases h5
          · refine (Tri.skip ?_)
            refine (Tri.reg hT ?_)
            refine ⟨by rw [List.length_append, List.length_append]; show _ + 32 + 7 + _ ≤ _; omega, ?_⟩
            skip
            refine Tri.le (⟨71, 0, 150, [(12, .str (clRf (clampV version) name))], [], []⟩) (Le.weak rfl rfl rfl rfl ⟨congrArg AV.str (by unfold clRf; first | (rw [if_pos (of_decide_eq_true (by assumption))]; try rfl) | (rw [if_neg (of_decide_eq_false (by assumption)), List.append_nil]; try rfl)), trivial⟩ trivial) ?_
            refine Tri.seq (Tri.reg hT ?_)
            refine .inl (.inl ⟨_, fun _ => rfl, f39_spec 1 (clRf (clampV version) name) (by omega), ?_⟩)
            refine Tri.ret ?_
            exact ⟨rfl, trivial⟩
        · refine (Tri.skip ?_)
          skip
          refine Tri.le (⟨71, 0, 150, [(12, .str (clRf (clampV version) name))], [], []⟩) (Le.weak rfl rfl rfl rfl ⟨congrArg AV.str (by unfold clRf; first | (rw [if_pos (of_decide_eq_true (by assumption))]; try rfl) | (rw [if_neg (of_decide_eq_false (by assumption)), List.append_nil]; try rfl)), trivial⟩ trivial) ?_
          refine Tri.seq (Tri.reg hT ?_)
          refine .inl (.inl ⟨_, fun _ => rfl, f39_spec 1 (clRf (clampV version) name) (by omega), ?_⟩)
          refine Tri.ret ?_
          exact ⟨rfl, trivial⟩
      · refine (Tri.skip ?_)
        skip
        refine Tri.le (⟨71, 0, 90, [(0, .int .i64 ((clampV version : Nat) : Int)), (5, .str (cly (clampV version) name))], [], []⟩) (Le.weak rfl rfl rfl rfl ⟨(by first | rfl | exact iv1 (by (try simp only [decide_eq_true_eq, decide_eq_false_iff_not, toNat_cast] at *); omega)), congrArg AV.str (by unfold cly; first | (rw [if_pos (cv (by assumption))]; try rfl) | (rw [if_neg (cw (by assumption))]; try rfl)), trivial⟩ trivial) ?_
        refine Tri.seq (Tri.reg hT ?_)
        refine .inl (.inl ⟨_, fun _ => rfl, kp, ?_⟩)
        refine ⟨by show _ + 32 ≤ _; omega, ?_⟩
        refine ⟨by rw [List.length_append]; show _ + 32 + 7 ≤ _; omega, ?_⟩
        refine Tri.seq ?_
        refine Tri.seq (Tri.reg hT ?_)
        refine (Tri.cond ⟨fun h6 => ?_, fun h6 => ?_⟩)
        · refine Tri.seq (Tri.reg hT ?_)
          refine .inl (.inl ⟨_, fun _ => rfl, f37_spec (cly (clampV version) name) 2 (by decide) (by omega), ?_⟩)
          refine Tri.seq ?_
          refine Tri.seq (Tri.reg hT ?_)
          refine (Tri.cond ⟨fun h7 => ?_, fun h7 => ?_⟩)
          · exfalso; rw [e4] at h7; cases h7
          · refine (Tri.skip ?_)
            refine (Tri.reg hT ?_)
            refine ⟨by rw [List.length_append, List.length_append]; show _ + 32 + 7 + _ ≤ _; omega, ?_⟩
            skip
            refine Tri.le (⟨71, 0, 150, [(12, .str (clRf (clampV version) name))], [], []⟩) (Le.weak rfl rfl rfl rfl ⟨congrArg AV.str (by unfold clRf; first | (rw [if_pos (of_decide_eq_true (by assumption))]; try rfl) | (rw [if_neg (of_decide_eq_false (by assumption)), List.append_nil]; try rfl)), trivial⟩ trivial) ?_
            refine Tri.seq (Tri.reg hT ?_)
            refine .inl (.inl ⟨_, fun _ => rfl, f39_spec 1 (clRf (clampV version) name) (by omega), ?_⟩)
            refine Tri.ret ?_
            exact ⟨rfl, trivial⟩
        · refine (Tri.skip ?_)
          skip
          refine Tri.le (⟨71, 0, 150, [(12, .str (clRf (clampV version) name))], [], []⟩) (Le.weak rfl rfl rfl rfl ⟨congrArg AV.str (by unfold clRf; first | (rw [if_pos (of_decide_eq_true (by assumption))]; try rfl) | (rw [if_neg (of_decide_eq_false (by assumption)), List.append_nil]; try rfl)), trivial⟩ trivial) ?_
          refine Tri.seq (Tri.reg hT ?_)
          refine .inl (.inl ⟨_, fun _ => rfl, f39_spec 1 (clRf (clampV version) name) (by omega), ?_⟩)
          refine Tri.ret ?_
          exact ⟨rfl, trivial⟩
  · refine (Tri.skip ?_)
    refine Tri.seq ?_
    skip
    refine Tri.le (⟨71, 0, 60, [(0, .int .i64 ((clampV version : Nat) : Int)), (5, .str (clx name))], [], []⟩) (Le.weak rfl rfl rfl rfl ⟨(by first | rfl | exact iv1 (by (try simp only [decide_eq_true_eq, decide_eq_false_iff_not, toNat_cast] at *); omega)), congrArg AV.str (by unfold clx; first | (rw [if_pos (of_decide_eq_true h1)]; try rfl) | (rw [if_neg (of_decide_eq_false h1)]; try rfl)), trivial⟩ trivial) ?_
    refine Tri.seq (Tri.reg hT ?_)
    refine (Tri.cond ⟨fun h8 => ?_, fun h8 => ?_⟩)
    · refine (Tri.reg hT ?_)
      refine ⟨by show _ + 7 ≤ _; omega, ?_⟩
      skip
      refine Tri.le (⟨71, 0, 90, [(0, .int .i64 ((clampV version : Nat) : Int)), (5, .str (cly (clampV version) name))], [], []⟩) (Le.weak rfl rfl rfl rfl ⟨(by first | rfl | exact iv1 (by (try simp only [decide_eq_true_eq, decide_eq_false_iff_not, toNat_cast] at *); omega)), congrArg AV.str (by unfold cly; first | (rw [if_pos (cv (by assumption))]; try rfl) | (rw [if_neg (cw (by assumption))]; try rfl)), trivial⟩ trivial) ?_
      refine Tri.seq (Tri.reg hT ?_)
      refine .inl (.inl ⟨_, fun _ => rfl, kp, ?_⟩)
      refine ⟨by show _ + 32 ≤ _; omega, ?_⟩
      refine ⟨by rw [List.length_append]; show _ + 32 + 7 ≤ _; omega, ?_⟩
      refine Tri.seq ?_
      refine Tri.seq (Tri.reg hT ?_)
      refine (Tri.cond ⟨fun h9 => ?_, fun h9 => ?_⟩)
      · refine Tri.seq (Tri.reg hT ?_)
        refine .inl (.inl ⟨_, fun _ => rfl, f37_spec (cly (clampV version) name) 2 (by decide) (by omega), ?_⟩)
        refine Tri.seq ?_
        refine Tri.seq (Tri.reg hT ?_)
        refine (Tri.cond ⟨fun h10 => ?_, fun h10 => ?_⟩)
        · exfalso; rw [e4] at h10; cases h10
        · refine (Tri.skip ?_)
          refine (Tri.reg hT ?_)
          refine ⟨by rw [List.length_append, List.length_append]; show _ + 32 + 7 + _ ≤ _; omega, ?_⟩
          skip
          refine Tri.le (⟨71, 0, 150, [(12, .str (clRf (clampV version) name))], [], []⟩) (Le.weak rfl rfl rfl rfl ⟨congrArg AV.str (by unfold clRf; first | (rw [if_pos (of_decide_eq_true (by assumption))]; try rfl) | (rw [if_neg (of_decide_eq_false (by assumption)), List.append_nil]; try rfl)), trivial⟩ trivial) ?_
          refine Tri.seq (Tri.reg hT ?_)
          refine .inl (.inl ⟨_, fun _ => rfl, f39_spec 1 (clRf (clampV version) name) (by omega), ?_⟩)
          refine Tri.ret ?_
          exact ⟨rfl, trivial⟩
      · refine (Tri.skip ?_)
        skip
        refine Tri.le (⟨71, 0, 150, [(12, .str (clRf (clampV version) name))], [], []⟩) (Le.weak rfl rfl rfl rfl ⟨congrArg AV.str (by unfold clRf; first | (rw [if_pos (of_decide_eq_true (by assumption))]; try rfl) | (rw [if_neg (of_decide_eq_false (by assumption)), List.append_nil]; try rfl)), trivial⟩ trivial) ?_
        refine Tri.seq (Tri.reg hT ?_)
        refine .inl (.inl ⟨_, fun _ => rfl, f39_spec 1 (clRf (clampV version) name) (by omega), ?_⟩)
        refine Tri.ret ?_
        exact ⟨rfl, trivial⟩
    · refine (Tri.skip ?_)
      skip
      refine Tri.le (⟨71, 0, 90, [(0, .int .i64 ((clampV version : Nat) : Int)), (5, .str (cly (clampV version) name))], [], []⟩) (Le.weak rfl rfl rfl rfl ⟨(by first | rfl | exact iv1 (by (try simp only [decide_eq_true_eq, decide_eq_false_iff_not, toNat_cast] at *); omega)), congrArg AV.str (by unfold cly; first | (rw [if_pos (cv (by assumption))]; try rfl) | (rw [if_neg (cw (by assumption))]; try rfl)), trivial⟩ trivial) ?_
      refine Tri.seq (Tri.reg hT ?_)
      refine .inl (.inl ⟨_, fun _ => rfl, kp, ?_⟩)
      refine ⟨by show _ + 32 ≤ _; omega, ?_⟩
      refine ⟨by rw [List.length_append]; show _ + 32 + 7 ≤ _; omega, ?_⟩
      refine Tri.seq ?_
      refine Tri.seq (Tri.reg hT ?_)
      refine (Tri.cond ⟨fun h11 => ?_, fun h11 => ?_⟩)
      · refine Tri.seq (Tri.reg hT ?_)
        refine .inl (.inl ⟨_, fun _ => rfl, f37_spec (cly (clampV version) name) 2 (by decide) (by omega), ?_⟩)
        refine Tri.seq ?_
        refine Tri.seq (Tri.reg hT ?_)
        refine (Tri.cond ⟨fun h12 => ?_, fun h12 => ?_⟩)
        · exfalso; rw [e4] at h12; cases h12
        · refine (Tri.skip ?_)
          refine (Tri.reg hT ?_)
          refine ⟨by rw [List.length_append, List.length_append]; show _ + 32 + 7 + _ ≤ _; omega, ?_⟩
          skip
          refine Tri.le (⟨71, 0, 150, [(12, .str (clRf (clampV version) name))], [], []⟩) (Le.weak rfl rfl rfl rfl ⟨congrArg AV.str (by unfold clRf; first | (rw [if_pos (of_decide_eq_true (by assumption))]; try rfl) | (rw [if_neg (of_decide_eq_false (by assumption)), List.append_nil]; try rfl)), trivial⟩ trivial) ?_
          refine Tri.seq (Tri.reg hT ?_)
          refine .inl (.inl ⟨_, fun _ => rfl, f39_spec 1 (clRf (clampV version) name) (by omega), ?_⟩)
          refine Tri.ret ?_
          exact ⟨rfl, trivial⟩
      · refine (Tri.skip ?_)
        skip
        refine Tri.le (⟨71, 0, 150, [(12, .str (clRf (clampV version) name))], [], []⟩) (Le.weak rfl rfl rfl rfl ⟨congrArg AV.str (by unfold clRf; first | (rw [if_pos (of_decide_eq_true (by assumption))]; try rfl) | (rw [if_neg (of_decide_eq_false (by assumption)), List.append_nil]; try rfl)), trivial⟩ trivial) ?_
        refine Tri.seq (Tri.reg hT ?_)
        refine .inl (.inl ⟨_, fun _ => rfl, f39_spec 1 (clRf (clampV version) name) (by omega), ?_⟩)
        refine Tri.ret ?_
        exact ⟨rfl, trivial⟩
theorem chR_take (l : List (List UInt8)) {i : Nat} (h : i = min l.length 6) : chR l i = chR (l.take 6) (l.take 6).length := by
  unfold chR
  rw [List.take_length, h]
  rcases Nat.le_total l.length 6 with q | q
  · rw [Nat.min_eq_left q, List.take_length, List.take_of_length_le q]
  · rw [Nat.min_eq_right q]
set_option maxRecDepth 8000 in
theorem f22_spec (l : List (List UInt8)) (hl : l.length ≤ 1099511627776) (hb : ∀ i, i < l.length → (l.getD i []).length ≤ 20000) : PSpec P [] 22 [.list .str l] (.str (msgRf 11 (szM (chR (l.take 6) (l.take 6).length) 3).1)) := by
  have p24 : (256 : Nat) ^ 3 = 16777216 := by decide
  refine pspec_intro hT Try.func22 (by decide) rfl rfl (by kernel_rfl) rfl ?_
  refine Tri.seq (Tri.reg hT ?_)
  refine Tri.seq (Tri.reg hT ?_)
  refine Tri.seq ?_
  refine Tri.seq (Tri.reg hT ?_)
  refine (Tri.block ?_)
  refine (Tri.loop (ι := Nat) (fun i => ⟨41, 0, 20, [(0, .list .str l), (3, .str (chR l i)), (4, .int .i64 (i : Int))], [], []⟩) (fun i => i ≤ l.length ∧ i ≤ 6) (fun i => l.length - i) (0) ?_ ?_ ?_)
  · exact ⟨Nat.zero_le _, Nat.zero_le _⟩
  · exact Le.weak rfl rfl rfl rfl ⟨(by first | rfl | exact iv1 (by (try simp only [decide_eq_true_eq, decide_eq_false_iff_not, toNat_cast] at *); omega)), (by first | rfl | exact iv1 (by (try simp only [decide_eq_true_eq, decide_eq_false_iff_not, toNat_cast] at *); omega)), (by first | rfl | exact iv1 (by (try simp only [decide_eq_true_eq, decide_eq_false_iff_not, toNat_cast] at *); omega)), trivial⟩ trivial
  · intro i hi; have hcl := chR_len hb i hi.1; have hi6 : i * 20003 ≤ 6 * 20003 := Nat.mul_le_mul_right _ hi.2
    refine Tri.seq ?_
    refine Tri.seq (Tri.reg hT ?_)
    refine ⟨_, [], trivial, rfl, rfl, fun h => ⟨rfl, rfl, rfl⟩, ?_⟩
    refine ⟨_, [], trivial, rfl, rfl, fun h => ⟨h, rfl, rfl, rfl⟩, ?_⟩
    refine ⟨⟨fun hc => hc, fun _ => trivial⟩, ?_⟩
    refine (Tri.cond ⟨fun h1 => ?_, fun h1 => ?_⟩)
    · refine (Tri.skip ?_)
      refine Tri.seq (Tri.block ?_)
      have hlt : i < l.length ∧ i < 6 := (by rw [ifb, Bool.and_eq_true] at h1; have q1 := of_decide_eq_true h1.1; have q2 := of_decide_eq_true h1.2; omega); have w1 : IntKind.i64.wrap ((i : Int) + 1) = ((i + 1 : Nat) : Int) := (by rw [wrapId (by omega)]; omega); have hx := hb i hlt.1; have hs := sz_len (l.getD i []) 3; have e1 : (szM (l.getD i []) 3).2 = true := (by rw [sz_ok (by decide) (by omega)])
      refine Tri.le (⟨41, 0, 40, [(0, .list .str l), (3, .str (chR l i)), (4, .int .i64 (i : Int))], [], []⟩) (Le.weak rfl rfl rfl rfl ⟨(by first | rfl | exact iv1 (by (try simp only [decide_eq_true_eq, decide_eq_false_iff_not, toNat_cast] at *); omega)), (by first | rfl | exact iv1 (by (try simp only [decide_eq_true_eq, decide_eq_false_iff_not, toNat_cast] at *); omega)), (by first | rfl | exact iv1 (by (try simp only [decide_eq_true_eq, decide_eq_false_iff_not, toNat_cast] at *); omega)), trivial⟩ trivial) ?_
      refine Tri.seq (Tri.reg hT ?_)
      refine ⟨by omega, ?_⟩
      refine .inl (.inl ⟨_, fun _ => rfl, f37_spec (l.getD i []) 3 (by decide) (by omega), ?_⟩)
      refine Tri.seq ?_
      refine Tri.seq (Tri.reg hT ?_)
      refine (Tri.cond ⟨fun h2 => ?_, fun h2 => ?_⟩)
      · exfalso; rw [e1] at h2; cases h2
      · refine (Tri.skip ?_)
        refine (Tri.reg hT ?_)
        refine ⟨by omega, ?_⟩
        refine (Tri.reg hT ?_)
        exact ⟨i + 1, ⟨hlt.1, hlt.2⟩, (by omega), Le.weak rfl rfl rfl rfl ⟨(by first | rfl | exact iv1 (by (try simp only [decide_eq_true_eq, decide_eq_false_iff_not, toNat_cast] at *); omega)), congrArg AV.str (chR_next hlt.1).symm, congrArg (AV.int .i64) w1, trivial⟩ trivial⟩
    · refine Tri.exit ?_
      have hN : i = min l.length 6 := (by rw [ifb] at h1; rcases Bool.and_eq_false_iff.1 h1 with q | q; have := of_decide_eq_false q; have := hi.1; have := hi.2; omega; have := of_decide_eq_false q; have := hi.1; have := hi.2; omega); have eN := chR_take l hN; have e2 : (szM (chR (l.take 6) (l.take 6).length) 3).2 = true := (by rw [← eN, sz_ok (by decide) (by omega)]); have hs := sz_len (chR (l.take 6) (l.take 6).length) 3; rw [eN] at hcl
      refine Tri.le (⟨41, 0, 60, [(3, .str (chR (l.take 6) (l.take 6).length))], [], []⟩) (Le.weak rfl rfl rfl rfl ⟨congrArg AV.str eN, trivial⟩ trivial) ?_
      refine Tri.seq (Tri.reg hT ?_)
      refine .inl (.inl ⟨_, fun _ => rfl, f37_spec (chR (l.take 6) (l.take 6).length) 3 (by decide) (by omega), ?_⟩)
      refine Tri.seq ?_
      refine Tri.seq (Tri.reg hT ?_)
      refine (Tri.cond ⟨fun h3 => ?_, fun h3 => ?_⟩)
      · exfalso; rw [e2] at h3; cases h3
      · refine (Tri.skip ?_)
        refine Tri.seq (Tri.reg hT ?_)
        refine .inl (.inl ⟨_, fun _ => rfl, f39_spec 11 (szM (chR (l.take 6) (l.take 6).length) 3).1 (by omega), ?_⟩)
        refine Tri.ret ?_
        exact ⟨rfl, trivial⟩
end Go.Proofs.Ytgbmbihajkjbmaa.Fx
