import Derived.Test.YtgbmbihajkjbmaaTlL
import Derived.Test.YtgbmbihajkjbmaaGTl2
set_option linter.all false
/- Contracts of chapter 32: ends. -/
namespace Go.Proofs.Ytgbmbihajkjbmaa.Fx
open Go Go.Fw Go.Ov Go.Tl Go.Shelf
theorem cl97 : (clientB 771 [97]).length ≤ 1000 := by decide +kernel
theorem and_tt {a b : Bool} (h : (if a = true then b else false) = true) : a = true ∧ b = true := by cases a <;> simp_all
set_option maxRecDepth 8000 in
theorem f9_spec (s : List UInt8) (n : Int) (hn : 0 ≤ n ∧ n < 65536) : PSpec P [] 9 [.str s, .int .u16 n] (.bool true) := by
  have wn : IntKind.i64.wrap n = n := wrapId (by omega)
  have hz : (List.replicate (min (max (IntKind.i64.wrap n) 0) 1048576).toNat (0 : UInt8)).length = n.toNat := by rw [List.length_replicate, wn]; omega
  have hdl := cutM_len 23 16384 (by decide) _ (List.replicate (min (max (IntKind.i64.wrap n) 0) 1048576).toNat (0 : UInt8)) (Nat.le_refl _)
  rw [hz] at hdl
  obtain ⟨m, hm⟩ := client_cut 771 [97]
  obtain ⟨ks, hk1, hk2⟩ := feed_data m (List.replicate (min (max (IntKind.i64.wrap n) 0) 1048576).toNat (0 : UInt8))
  rw [← hm] at hk1
  rw [hz] at hk2
  have hcl := cl97
  have k27 := f27_spec ([20, 3, 3, 0, 1, 1] ++ clientB 771 [97] ++ cutM 23 16384 (List.replicate (min (max (IntKind.i64.wrap n) 0) 1048576).toNat (0 : UInt8))) (by rw [List.length_append, List.length_append]; show 6 + _ + _ ≤ _; omega)
  rw [show (feedM p0 ([20, 3, 3, 0, 1, 1] ++ clientB 771 [97] ++ cutM 23 16384 (List.replicate (min (max (IntKind.i64.wrap n) 0) 1048576).toNat (0 : UInt8)))).2 = ks.map datD from hk1] at k27
  have hkl : (ks.map datD).length ≤ 1000000 := by
    rw [← hk1]
    have := feedM_cnt p0 ([20, 3, 3, 0, 1, 1] ++ clientB 771 [97] ++ cutM 23 16384 (List.replicate (min (max (IntKind.i64.wrap n) 0) 1048576).toNat (0 : UInt8)))
    rw [List.length_append, List.length_append] at this
    change _ ≤ 0 + (6 + _ + _) + 0 + 1 at this
    exact Nat.le_trans this (by omega)
  have hkl2 : ks.length ≤ 1000000 := by rw [List.length_map] at hkl; exact hkl
  refine pspec_intro hT Try.func9 (by decide) rfl rfl (by kernel_rfl) rfl ?_
  refine Tri.seq (Tri.reg hT ?_)
  refine Tri.seq ?_
  refine Tri.seq (Tri.reg hT ?_)
  refine (Tri.cond ⟨fun h1 => ?_, fun h1 => ?_⟩)
  · refine Tri.seq (Tri.reg hT ?_)
    refine .inl (.inl ⟨_, fun _ => rfl, f11_spec, ?_⟩)
    refine Tri.ret ?_
    exact ⟨rfl, trivial⟩
  · refine (Tri.skip ?_)
    have h6 : s.length ≤ 6000 := (by have := of_decide_eq_false h1; omega); have hL : (feedM p0 (s ++ cutM 23 16384 (List.replicate (min (max (IntKind.i64.wrap n) 0) 1048576).toNat (0 : UInt8)))).2.length ≤ 1000000 := (by have := feedM_cnt p0 (s ++ cutM 23 16384 (List.replicate (min (max (IntKind.i64.wrap n) 0) 1048576).toNat (0 : UInt8))); rw [List.length_append] at this; change _ ≤ 0 + (s.length + _) + 0 + 1 at this; exact Nat.le_trans this (by omega))
    refine Tri.seq (Tri.reg hT ?_)
    refine .inl (.inl ⟨_, fun _ => rfl, f23_spec _, ?_⟩)
    refine ⟨by show _ + _ ≤ _; omega, ?_⟩
    refine .inl (.inl ⟨_, fun _ => rfl, f27_spec _ (by rw [List.length_append]; omega), ?_⟩)
    refine Tri.seq ?_
    have hEL := feed_el (s ++ cutM 23 16384 (List.replicate (min (max (IntKind.i64.wrap n) 0) 1048576).toNat (0 : UInt8))); generalize hLe : (feedM p0 (s ++ cutM 23 16384 (List.replicate (min (max (IntKind.i64.wrap n) 0) 1048576).toNat (0 : UInt8)))).2 = L at *
    refine Tri.seq (Tri.reg hT ?_)
    refine (Tri.block ?_)
    refine (Tri.loop (ι := Nat) (fun i => ⟨72, 0, 60, [(0, .str s), (1, .int .u16 n), (5, .list eT L), (21, .int .i64 (L.length : Int)), (22, .int .i64 (i : Int))], [], []⟩) (fun i => i ≤ L.length) (fun i => L.length - i) (0) ?_ ?_ ?_)
    · exact Nat.zero_le _
    · exact Le.weak rfl rfl rfl rfl ⟨(by first | rfl | exact iv1 (by (try simp only [decide_eq_true_eq, decide_eq_false_iff_not, toNat_cast] at *); omega)), (by first | rfl | exact iv1 (by (try simp only [decide_eq_true_eq, decide_eq_false_iff_not, toNat_cast] at *); omega)), (by first | rfl | exact iv1 (by (try simp only [decide_eq_true_eq, decide_eq_false_iff_not, toNat_cast] at *); omega)), (by first | rfl | exact iv1 (by (try simp only [decide_eq_true_eq, decide_eq_false_iff_not, toNat_cast] at *); omega)), (by first | rfl | exact iv1 (by (try simp only [decide_eq_true_eq, decide_eq_false_iff_not, toNat_cast] at *); omega)), trivial⟩ trivial
    · intro i hi
      refine Tri.seq (Tri.reg hT ?_)
      refine Tri.seq (Tri.cond ⟨fun h2 => ?_, fun h2 => ?_⟩)
      · refine (Tri.skip ?_)
        refine Tri.seq (Tri.block ?_)
        refine Tri.seq (Tri.reg hT ?_)
        have hlt : i < L.length := (by have := of_decide_eq_true h2; omega); have w1 : IntKind.i64.wrap ((i : Int) + 1) = ((i + 1 : Nat) : Int) := (by rw [wrapId (by omega)]; omega)
        refine Tri.le (⟨72, 0, 80, [(0, .str s), (1, .int .u16 n), (5, .list eT L), (6, .int .i64 (i : Int)), (21, .int .i64 (L.length : Int)), (22, .int .i64 (i : Int))], [], []⟩) (Le.weak rfl rfl rfl rfl ⟨(by first | rfl | exact iv1 (by (try simp only [decide_eq_true_eq, decide_eq_false_iff_not, toNat_cast] at *); omega)), (by first | rfl | exact iv1 (by (try simp only [decide_eq_true_eq, decide_eq_false_iff_not, toNat_cast] at *); omega)), (by first | rfl | exact iv1 (by (try simp only [decide_eq_true_eq, decide_eq_false_iff_not, toNat_cast] at *); omega)), (by first | rfl | exact iv1 (by (try simp only [decide_eq_true_eq, decide_eq_false_iff_not, toNat_cast] at *); omega)), (by first | rfl | exact iv1 (by (try simp only [decide_eq_true_eq, decide_eq_false_iff_not, toNat_cast] at *); omega)), (by first | rfl | exact iv1 (by (try simp only [decide_eq_true_eq, decide_eq_false_iff_not, toNat_cast] at *); omega)), trivial⟩ trivial) ?_
        refine Tri.seq (Tri.reg hT ?_)
        refine ⟨by omega, ?_⟩
        refine ⟨_, [], trivial, rfl, rfl, fun h => ⟨rfl, rfl, rfl⟩, ?_⟩
        refine ⟨_, [], trivial, rfl, rfl, fun h => ⟨rfl, rfl, rfl⟩, ?_⟩
        refine ⟨_, [], trivial, rfl, rfl, fun h => ⟨h, rfl, rfl, rfl⟩, ?_⟩
        refine ⟨_, [], trivial, rfl, rfl, fun h => ⟨h, rfl, rfl, rfl⟩, ?_⟩
        refine ⟨_, [], trivial, rfl, rfl, fun h => ⟨h, h, rfl, rfl, rfl⟩, ?_⟩
        refine ⟨⟨fun hc => hc, fun _ => trivial⟩, ?_⟩
        refine (Tri.cond ⟨fun h3 => ?_, fun h3 => ?_⟩)
        · exfalso; obtain ⟨q1, q2⟩ := and_tt h3; have q3 := of_decide_eq_true q1; rw [toNat_cast] at q3; have q4 := hEL.at hlt q3; exact of_decide_eq_true q2 (by rw [wrapId (by omega)]; omega)
        · refine (Tri.skip ?_)
          refine (Tri.reg hT ?_)
          exact ⟨i + 1, hlt, (by omega), Le.weak rfl rfl rfl rfl ⟨(by first | rfl | exact iv1 (by (try simp only [decide_eq_true_eq, decide_eq_false_iff_not, toNat_cast] at *); omega)), (by first | rfl | exact iv1 (by (try simp only [decide_eq_true_eq, decide_eq_false_iff_not, toNat_cast] at *); omega)), (by first | rfl | exact iv1 (by (try simp only [decide_eq_true_eq, decide_eq_false_iff_not, toNat_cast] at *); omega)), (by first | rfl | exact iv1 (by (try simp only [decide_eq_true_eq, decide_eq_false_iff_not, toNat_cast] at *); omega)), congrArg (AV.int .i64) w1, trivial⟩ trivial⟩
      · refine Tri.exit ?_
        refine Tri.seq (Tri.reg hT ?_)
        refine Tri.seq (Tri.reg hT ?_)
        refine .inl (.inl ⟨_, fun _ => rfl, f17_spec 771 [97] (by decide), ?_⟩)
        refine ⟨by show 6 + _ ≤ _; omega, ?_⟩
        refine .inl (.inl ⟨_, fun _ => rfl, f23_spec _, ?_⟩)
        refine ⟨by rw [List.length_append]; show 6 + _ + _ ≤ _; omega, ?_⟩
        refine .inl (.inl ⟨_, fun _ => rfl, k27, ?_⟩)
        refine Tri.seq ?_
        refine Tri.seq (Tri.reg hT ?_)
        refine (Tri.block ?_)
        refine (Tri.loop (ι := Nat) (fun i => ⟨72, 0, 100, [(0, .str s), (1, .int .u16 n), (7, .int .i64 ((ks.take i).sum : Int)), (8, .list eT (ks.map datD)), (47, .int .i64 ((ks.map datD).length : Int)), (48, .int .i64 (i : Int))], [], []⟩) (fun i => i ≤ (ks.map datD).length) (fun i => (ks.map datD).length - i) (0) ?_ ?_ ?_)
        · exact Nat.zero_le _
        · exact Le.weak rfl rfl rfl rfl ⟨(by first | rfl | exact iv1 (by (try simp only [decide_eq_true_eq, decide_eq_false_iff_not, toNat_cast] at *); omega)), (by first | rfl | exact iv1 (by (try simp only [decide_eq_true_eq, decide_eq_false_iff_not, toNat_cast] at *); omega)), (by first | rfl | exact iv1 (by (try simp only [decide_eq_true_eq, decide_eq_false_iff_not, toNat_cast] at *); omega)), (by first | rfl | exact iv1 (by (try simp only [decide_eq_true_eq, decide_eq_false_iff_not, toNat_cast] at *); omega)), (by first | rfl | exact iv1 (by (try simp only [decide_eq_true_eq, decide_eq_false_iff_not, toNat_cast] at *); omega)), (by first | rfl | exact iv1 (by (try simp only [decide_eq_true_eq, decide_eq_false_iff_not, toNat_cast] at *); omega)), trivial⟩ trivial
        · intro j hj
          refine Tri.seq (Tri.reg hT ?_)
          refine Tri.seq (Tri.cond ⟨fun h4 => ?_, fun h4 => ?_⟩)
          · refine (Tri.skip ?_)
            refine Tri.seq (Tri.block ?_)
            refine Tri.seq (Tri.reg hT ?_)
            refine Tri.seq ?_
            have hlt : j < (ks.map datD).length := (by have := of_decide_eq_true h4; omega); have hltk : j < ks.length := (by rw [List.length_map] at hlt; exact hlt); have w2 : IntKind.i64.wrap ((j : Int) + 1) = ((j + 1 : Nat) : Int) := (by rw [wrapId (by omega)]; omega); have e1 := map_datD hltk
            refine Tri.le (⟨72, 0, 110, [(0, .str s), (1, .int .u16 n), (7, .int .i64 ((ks.take j).sum : Int)), (8, .list eT (ks.map datD)), (9, .int .i64 (j : Int)), (47, .int .i64 ((ks.map datD).length : Int)), (48, .int .i64 (j : Int))], [], []⟩) (Le.weak rfl rfl rfl rfl ⟨(by first | rfl | exact iv1 (by (try simp only [decide_eq_true_eq, decide_eq_false_iff_not, toNat_cast] at *); omega)), (by first | rfl | exact iv1 (by (try simp only [decide_eq_true_eq, decide_eq_false_iff_not, toNat_cast] at *); omega)), (by first | rfl | exact iv1 (by (try simp only [decide_eq_true_eq, decide_eq_false_iff_not, toNat_cast] at *); omega)), (by first | rfl | exact iv1 (by (try simp only [decide_eq_true_eq, decide_eq_false_iff_not, toNat_cast] at *); omega)), (by first | rfl | exact iv1 (by (try simp only [decide_eq_true_eq, decide_eq_false_iff_not, toNat_cast] at *); omega)), (by first | rfl | exact iv1 (by (try simp only [decide_eq_true_eq, decide_eq_false_iff_not, toNat_cast] at *); omega)), (by first | rfl | exact iv1 (by (try simp only [decide_eq_true_eq, decide_eq_false_iff_not, toNat_cast] at *); omega)), trivial⟩ trivial) ?_
            refine Tri.seq (Tri.reg hT ?_)
            refine ⟨by omega, ?_⟩
            refine (Tri.cond ⟨fun h5 => ?_, fun h5 => ?_⟩)
            · exfalso; exact of_decide_eq_true h5 (by rw [toNat_cast, e1]; rfl)
            · refine (Tri.skip ?_)
              refine (Tri.reg hT ?_)
              refine ⟨by omega, ?_⟩
              refine (Tri.reg hT ?_)
              have e2 := sum_take_next hltk; have e3 := sum_take_le ks (j + 1)
              exact ⟨j + 1, hlt, (by omega), Le.weak rfl rfl rfl rfl ⟨(by first | rfl | exact iv1 (by (try simp only [decide_eq_true_eq, decide_eq_false_iff_not, toNat_cast] at *); omega)), (by first | rfl | exact iv1 (by (try simp only [decide_eq_true_eq, decide_eq_false_iff_not, toNat_cast] at *); omega)), congrArg (AV.int .i64) (by rw [toNat_cast, e1]; show IntKind.i64.wrap (((ks.take j).sum : Int) + (ks.getD j 0 : Int)) = _; rw [wrapId (by omega)]; omega), (by first | rfl | exact iv1 (by (try simp only [decide_eq_true_eq, decide_eq_false_iff_not, toNat_cast] at *); omega)), (by first | rfl | exact iv1 (by (try simp only [decide_eq_true_eq, decide_eq_false_iff_not, toNat_cast] at *); omega)), congrArg (AV.int .i64) w2, trivial⟩ trivial⟩
          · refine Tri.exit ?_
            refine Tri.seq (Tri.reg hT ?_)
            refine ⟨_, [], trivial, rfl, rfl, fun h => (.inl ⟨_, fun _ => rfl, f11_spec, rfl, rfl, rfl⟩), ?_⟩
            refine ⟨⟨fun hc => hc, fun _ => trivial⟩, ?_⟩
            refine Tri.ret ?_
            have hN : j = ks.length := (by have := of_decide_eq_false h4; rw [List.length_map] at hj this; omega); exact ⟨congrArg AV.bool (if_pos (decide_eq_true (by rw [hN, List.take_length, wn]; omega))), trivial⟩
end Go.Proofs.Ytgbmbihajkjbmaa.Fx
