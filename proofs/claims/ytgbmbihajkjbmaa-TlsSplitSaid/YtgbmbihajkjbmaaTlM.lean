import Derived.Test.YtgbmbihajkjbmaaTlL
import Derived.Test.YtgbmbihajkjbmaaGTl2
set_option linter.all false
/- Contracts of chapter 32: pieces. -/
namespace Go.Proofs.Ytgbmbihajkjbmaa.Fx
open Go Go.Fw Go.Ov Go.Tl Go.Shelf
theorem small_min {l : List Int} {i : Nat} (hg : ∀ x ∈ l, 0 ≤ x ∧ x < 65536) (h : i < l.length) (rest : List UInt8) : ∃ k : Nat, min (IntKind.i64.wrap (l.getD ((i : Int)).toNat (Ty.dflt (.int .u16)))) (rest.length : Int) = (k : Int) ∧ k ≤ rest.length := by
  have := hg _ (getD_mem (d := (0 : Int)) h)
  rw [toNat_cast, wrapId (by change _ ≤ l.getD i (0 : Int) ∧ l.getD i (0 : Int) ≤ _; omega)]
  refine ⟨(min (l.getD i (0 : Int)) (rest.length : Int)).toNat, ?_, ?_⟩
  · show min (l.getD i (0 : Int)) _ = _; omega
  · omega
set_option maxRecDepth 8000 in
theorem f6_spec (s : List UInt8) (l : List Int) (size : Int) (hl : l.length ≤ 140737488355328) (hg : ∀ x ∈ l, 0 ≤ x ∧ x < 65536) : PSpec P [] 6 [.str s, .list (.int .u16) l, .int .i64 size] (.bool true) := by
  refine pspec_intro hT Try.func6 (by decide) rfl rfl (by kernel_rfl) rfl ?_
  refine Tri.seq (Tri.reg hT ?_)
  refine Tri.seq ?_
  refine Tri.seq (Tri.reg hT ?_)
  refine ⟨_, [], trivial, rfl, rfl, fun h => ⟨rfl, rfl, rfl⟩, ?_⟩
  refine ⟨_, [], trivial, rfl, rfl, fun h => ⟨h, rfl, rfl, rfl⟩, ?_⟩
  refine ⟨_, [], trivial, rfl, rfl, fun h => ⟨h, rfl, rfl, rfl⟩, ?_⟩
  refine ⟨⟨fun _ => trivial, fun hc => (gn hc)⟩, ?_⟩
  refine (Tri.cond ⟨fun h1 => ?_, fun h1 => ?_⟩)
  · refine Tri.seq (Tri.reg hT ?_)
    refine .inl (.inl ⟨_, fun _ => rfl, f11_spec, ?_⟩)
    refine Tri.ret ?_
    exact ⟨rfl, trivial⟩
  · refine (Tri.skip ?_)
    have hb : s.length ≤ 6000 ∧ l.length ≤ 60 := (by rw [ifo] at h1; have := Bool.or_eq_false_iff.1 h1; have q1 := of_decide_eq_false this.1; have q2 := of_decide_eq_false this.2; omega); obtain ⟨h6, h60⟩ := hb
    refine Tri.seq (Tri.reg hT ?_)
    refine .inl (.inl ⟨_, fun _ => rfl, f27_spec s (by omega), ?_⟩)
    refine Tri.seq (Tri.reg hT ?_)
    refine .inl (.inr (.inr ⟨_, (by exact fun _ => rfl), f12_spec, ?_⟩))
    refine Tri.seq ?_
    refine Tri.seq (Tri.reg hT ?_)
    refine (Tri.cond ⟨fun h2 => ?_, fun h2 => ?_⟩)
    · cases h2
    · refine (Tri.skip ?_)
      refine Tri.seq (Tri.reg hT ?_)
      refine Tri.seq (Tri.reg hT ?_)
      refine Tri.seq ?_
      refine Tri.seq (Tri.reg hT ?_)
      refine (Tri.block ?_)
      refine (Tri.loop (ι := Nat × PSt × List EvD × List UInt8 × List UInt8) (fun z => ⟨73, 0, 60, [(0, .str s), (1, .list (.int .u16) l), (2, .int .i64 size), (7, .list eT (feedM p0 s).2), (8, .loc 12 0), (9, .own 16 z.2.2.1.length), (10, .str z.2.2.2.2), (30, .int .i64 (l.length : Int)), (31, .int .i64 (z.1 : Int))], [(12, .box (pC z.2.1)), (16, .arr eT z.2.2.1)], []⟩) (fun z => z.1 ≤ l.length ∧ Cut p0 z.2.1 z.2.2.2.1 z.2.2.1 ∧ z.2.2.2.1 ++ z.2.2.2.2 = s ∧ z.2.2.1.length ≤ 7000 * z.1) (fun z => l.length - z.1) ((0, p0, [], [], s)) ?_ ?_ ?_)
      · exact ⟨Nat.zero_le _, p0_cut, rfl, Nat.zero_le _⟩
      · exact Le.weak rfl rfl rfl rfl ⟨(by first | rfl | exact iv1 (by (try simp only [decide_eq_true_eq, decide_eq_false_iff_not, toNat_cast] at *); omega)), (by first | rfl | exact iv1 (by (try simp only [decide_eq_true_eq, decide_eq_false_iff_not, toNat_cast] at *); omega)), (by first | rfl | exact iv1 (by (try simp only [decide_eq_true_eq, decide_eq_false_iff_not, toNat_cast] at *); omega)), (by first | rfl | exact iv1 (by (try simp only [decide_eq_true_eq, decide_eq_false_iff_not, toNat_cast] at *); omega)), (by first | rfl | exact iv1 (by (try simp only [decide_eq_true_eq, decide_eq_false_iff_not, toNat_cast] at *); omega)), (by first | rfl | exact iv1 (by (try simp only [decide_eq_true_eq, decide_eq_false_iff_not, toNat_cast] at *); omega)), (by first | rfl | exact iv1 (by (try simp only [decide_eq_true_eq, decide_eq_false_iff_not, toNat_cast] at *); omega)), (by first | rfl | exact iv1 (by (try simp only [decide_eq_true_eq, decide_eq_false_iff_not, toNat_cast] at *); omega)), (by first | rfl | exact iv1 (by (try simp only [decide_eq_true_eq, decide_eq_false_iff_not, toNat_cast] at *); omega)), trivial⟩ ⟨rfl, rfl, trivial⟩
      · intro ⟨i, p, out, fed, rest⟩ hi; obtain ⟨hi1, hi2, hi3, hi4⟩ := hi; change i ≤ l.length at hi1; change Cut p0 p fed out at hi2; change fed ++ rest = s at hi3; change out.length ≤ 7000 * i at hi4; have hfl : fed.length + rest.length = s.length := (by rw [← hi3, List.length_append]); have hpl : p.1.length + p.2.1.length ≤ fed.length := (by have := hi2.len; change _ ≤ 0 + fed.length + 0 at this; omega)
        refine Tri.seq (Tri.reg hT ?_)
        refine Tri.seq (Tri.cond ⟨fun h3 => ?_, fun h3 => ?_⟩)
        · refine (Tri.skip ?_)
          refine Tri.seq (Tri.block ?_)
          have hlt : i < l.length := (by have := of_decide_eq_true h3; omega); have w1 : IntKind.i64.wrap ((i : Int) + 1) = ((i + 1 : Nat) : Int) := (by rw [wrapId (by omega)]; omega); have hk := small_min hg hlt rest
          refine Tri.le (⟨73, 0, 70, [(0, .str s), (1, .list (.int .u16) l), (2, .int .i64 size), (7, .list eT (feedM p0 s).2), (8, .loc 12 0), (9, .own 16 out.length), (10, .str rest), (30, .int .i64 (l.length : Int)), (31, .int .i64 (i : Int))], [(12, .box (pC p)), (16, .arr eT out)], []⟩) (Le.weak rfl rfl rfl rfl ⟨(by first | rfl | exact iv1 (by (try simp only [decide_eq_true_eq, decide_eq_false_iff_not, toNat_cast] at *); omega)), (by first | rfl | exact iv1 (by (try simp only [decide_eq_true_eq, decide_eq_false_iff_not, toNat_cast] at *); omega)), (by first | rfl | exact iv1 (by (try simp only [decide_eq_true_eq, decide_eq_false_iff_not, toNat_cast] at *); omega)), (by first | rfl | exact iv1 (by (try simp only [decide_eq_true_eq, decide_eq_false_iff_not, toNat_cast] at *); omega)), (by first | rfl | exact iv1 (by (try simp only [decide_eq_true_eq, decide_eq_false_iff_not, toNat_cast] at *); omega)), (by first | rfl | exact iv1 (by (try simp only [decide_eq_true_eq, decide_eq_false_iff_not, toNat_cast] at *); omega)), (by first | rfl | exact iv1 (by (try simp only [decide_eq_true_eq, decide_eq_false_iff_not, toNat_cast] at *); omega)), (by first | rfl | exact iv1 (by (try simp only [decide_eq_true_eq, decide_eq_false_iff_not, toNat_cast] at *); omega)), (by first | rfl | exact iv1 (by (try simp only [decide_eq_true_eq, decide_eq_false_iff_not, toNat_cast] at *); omega)), trivial⟩ ⟨rfl, rfl, trivial⟩) ?_
          refine Tri.seq (Tri.reg hT ?_)
          refine Tri.seq (Tri.reg hT ?_)
          refine ⟨by omega, ?_⟩
          obtain ⟨k, hk1, hk2⟩ := hk
          refine Tri.le (⟨73, 0, 90, [(0, .str s), (1, .list (.int .u16) l), (2, .int .i64 size), (7, .list eT (feedM p0 s).2), (8, .loc 12 0), (9, .own 16 out.length), (10, .str rest), (11, .int .i64 (i : Int)), (12, .int .i64 (k : Int)), (30, .int .i64 (l.length : Int)), (31, .int .i64 (i : Int))], [(12, .box (pC p)), (16, .arr eT out)], []⟩) (Le.weak rfl rfl rfl rfl ⟨(by first | rfl | exact iv1 (by (try simp only [decide_eq_true_eq, decide_eq_false_iff_not, toNat_cast] at *); omega)), (by first | rfl | exact iv1 (by (try simp only [decide_eq_true_eq, decide_eq_false_iff_not, toNat_cast] at *); omega)), (by first | rfl | exact iv1 (by (try simp only [decide_eq_true_eq, decide_eq_false_iff_not, toNat_cast] at *); omega)), (by first | rfl | exact iv1 (by (try simp only [decide_eq_true_eq, decide_eq_false_iff_not, toNat_cast] at *); omega)), (by first | rfl | exact iv1 (by (try simp only [decide_eq_true_eq, decide_eq_false_iff_not, toNat_cast] at *); omega)), (by first | rfl | exact iv1 (by (try simp only [decide_eq_true_eq, decide_eq_false_iff_not, toNat_cast] at *); omega)), (by first | rfl | exact iv1 (by (try simp only [decide_eq_true_eq, decide_eq_false_iff_not, toNat_cast] at *); omega)), (by first | rfl | exact iv1 (by (try simp only [decide_eq_true_eq, decide_eq_false_iff_not, toNat_cast] at *); omega)), congrArg (AV.int .i64) hk1, (by first | rfl | exact iv1 (by (try simp only [decide_eq_true_eq, decide_eq_false_iff_not, toNat_cast] at *); omega)), (by first | rfl | exact iv1 (by (try simp only [decide_eq_true_eq, decide_eq_false_iff_not, toNat_cast] at *); omega)), trivial⟩ ⟨rfl, rfl, trivial⟩) ?_
          refine Tri.seq (Tri.reg hT ?_)
          refine ⟨by omega, ?_⟩
          refine .inl (.inr (.inl ⟨_, _, (by exact ⟨rfl, trivial⟩), f15_spec p (List.take ((k : Int)).toNat rest) (by rw [List.length_take]; omega) _, (by rfl), ?_⟩))
          refine ⟨by have := feed_cnt p (List.take ((k : Int)).toNat rest); rw [List.length_take] at this; show _ ≤ _ ∧ (_ + (feedM p (List.take ((k : Int)).toNat rest)).2.length) * 56 ≤ _ ∧ _ + (feedM p (List.take ((k : Int)).toNat rest)).2.length ≤ _; omega, ?_⟩
          refine (Tri.reg hT ?_)
          refine ⟨by omega, ?_⟩
          refine (Tri.reg hT ?_)
          have hq := feed_cnt p (List.take ((k : Int)).toNat rest); rw [List.length_take] at hq; have hc := hi2.next (List.take ((k : Int)).toNat rest)
          exact ⟨(i + 1, (feedM p (List.take ((k : Int)).toNat rest)).1, out ++ (feedM p (List.take ((k : Int)).toNat rest)).2, fed ++ (List.take ((k : Int)).toNat rest), rest.drop k), ⟨hlt, hc, by show (fed ++ (List.take ((k : Int)).toNat rest)) ++ rest.drop k = s; rw [toNat_cast, List.append_assoc, List.take_append_drop]; exact hi3, by show (out ++ (feedM p (List.take ((k : Int)).toNat rest)).2).length ≤ 7000 * (i + 1); rw [List.length_append]; omega⟩, (by show l.length - (i + 1) < l.length - i; omega), Le.weak rfl rfl rfl rfl ⟨(by first | rfl | exact iv1 (by (try simp only [decide_eq_true_eq, decide_eq_false_iff_not, toNat_cast] at *); omega)), (by first | rfl | exact iv1 (by (try simp only [decide_eq_true_eq, decide_eq_false_iff_not, toNat_cast] at *); omega)), (by first | rfl | exact iv1 (by (try simp only [decide_eq_true_eq, decide_eq_false_iff_not, toNat_cast] at *); omega)), (by first | rfl | exact iv1 (by (try simp only [decide_eq_true_eq, decide_eq_false_iff_not, toNat_cast] at *); omega)), (by first | rfl | exact iv1 (by (try simp only [decide_eq_true_eq, decide_eq_false_iff_not, toNat_cast] at *); omega)), congrArg (AV.own 16) (by exact List.length_append.symm), congrArg AV.str (by rw [toNat_cast, toNat_cast, List.take_length]), (by first | rfl | exact iv1 (by (try simp only [decide_eq_true_eq, decide_eq_false_iff_not, toNat_cast] at *); omega)), congrArg (AV.int .i64) w1, trivial⟩ ⟨rfl, congrArg (fun y => some (Chunk.arr eT y)) (by exact congrArg (· ++ (feedM p (List.take ((k : Int)).toNat rest)).2) List.take_length), trivial⟩⟩
        · refine Tri.exit ?_
          have hq := feed_cnt p rest; have hc := hi2.next rest; rw [hi3] at hc
          refine Tri.seq (Tri.reg hT ?_)
          refine .inl (.inr (.inl ⟨_, _, (by exact ⟨rfl, trivial⟩), f15_spec p rest (by omega) _, (by rfl), ?_⟩))
          refine ⟨by show _ ≤ _ ∧ (out.length + (feedM p rest).2.length) * 56 ≤ _ ∧ out.length + (feedM p rest).2.length ≤ _; omega, ?_⟩
          refine Tri.seq ?_
          refine Tri.le _ (Le.freeze 9 16 (out.length + (feedM p rest).2.length) rfl rfl (by rw [List.take_length, List.length_append]; exact Nat.le_refl _)) ?_; have hX : List.take (out.length + (feedM p rest).2.length) (List.take out.length out ++ (feedM p rest).2) = (feedM p0 s).2 := (by rw [List.take_length, List.take_of_length_le (by rw [List.length_append]; exact Nat.le_refl _)]; exact hc.out)
          refine Tri.seq (Tri.reg hT ?_)
          refine .inl (.inl ⟨_, fun _ => rfl, f14_spec (List.take (out.length + (feedM p rest).2.length) (List.take out.length out ++ (feedM p rest).2)) (feedM p0 s).2 (by rw [hX]; have := feed_cnt p0 s; change _ ≤ 0 + s.length + 0 + 1 at this; omega) (by rw [hX]; exact (feedM_sm p0 s).1.hla), ?_⟩)
          refine (Tri.cond ⟨fun h4 => ?_, fun h4 => ?_⟩)
          · exfalso; rw [hX] at h4; simp at h4
          · refine (Tri.skip ?_)
            have hz : 1 ≤ (min (max size 1) 16384).toNat ∧ (min (max size 1) 16384).toNat ≤ 16384 := (by omega); have c1 := cutM_len 22 (min (max size 1) 16384).toNat hz.1 _ s (Nat.le_refl _); have c2 := cutM_len 22 (min (max 16384 1) 16384 : Int).toNat (by decide) _ s (Nat.le_refl _); have f1 := feed_cut hz.1 hz.2 s; have f2 := feed_cut (size := (min (max 16384 1) 16384 : Int).toNat) (by decide) (by decide) s; have f3 := feed_cnt p0 (cutM 22 (min (max size 1) 16384).toNat s); change _ ≤ 0 + _ + 0 + 1 at f3
            refine Tri.seq (Tri.reg hT ?_)
            refine .inl (.inl ⟨_, fun _ => rfl, f25_spec s size (by omega), ?_⟩)
            refine .inl (.inl ⟨_, fun _ => rfl, f27_spec _ (by omega), ?_⟩)
            refine .inl (.inl ⟨_, fun _ => rfl, f25_spec s 16384 (by omega), ?_⟩)
            refine .inl (.inl ⟨_, fun _ => rfl, f27_spec _ (by omega), ?_⟩)
            refine .inl (.inl ⟨_, fun _ => rfl, f14_spec _ _ (by omega) (feedM_sm p0 _).1.hla, ?_⟩)
            refine ⟨_, [], trivial, rfl, rfl, fun h => (.inl ⟨_, fun _ => rfl, f11_spec, rfl, rfl, rfl⟩), ?_⟩
            refine ⟨⟨fun hc => hc, fun _ => trivial⟩, ?_⟩
            refine Tri.ret ?_
            exact ⟨congrArg AV.bool (if_pos (decide_eq_true (f1.trans f2.symm))), trivial⟩
end Go.Proofs.Ytgbmbihajkjbmaa.Fx
