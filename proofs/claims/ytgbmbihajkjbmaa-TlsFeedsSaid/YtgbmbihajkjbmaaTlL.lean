import Derived.Test.YtgbmbihajkjbmaaTlK
import Derived.Test.YtgbmbihajkjbmaaGTl1
set_option linter.all false
/- Contracts of chapter 32: bytes, pieces. -/
namespace Go.Proofs.Ytgbmbihajkjbmaa.Fx
open Go Go.Fw Go.Ov Go.Tl Go.Shelf
theorem u16_rng {x : Int} (h : Fw.Good (.int .u16) x) : 0 ≤ x ∧ x < 65536 := by
  have h : (Lit.int .u16 x).wf = true := h
  simp [Lit.wf, IntKind.min, IntKind.max, IntKind.signed, IntKind.bits] at h
  omega
theorem u16s_rng {l : List Int} (h : Fw.Good (.list (.int .u16)) l) : ∀ x ∈ l, 0 ≤ x ∧ x < 65536 := fun x hx => u16_rng (h.2 x hx)
theorem p0_cut : Cut p0 p0 [] [] := Cut.zero
theorem cut_all {p : PSt} {x : List UInt8} {out : List EvD} (h : Cut p0 p x out) : out.take out.length = (feedM p0 x).2 := by rw [List.take_length]; exact h.out
theorem cut_sm {p : PSt} {x : List UInt8} {out : List EvD} (h : Cut p0 p x out) : Sm (out.take out.length) := by rw [cut_all h]; exact (feedM_sm p0 x).1
theorem feed_cnt (p : PSt) (x : List UInt8) : (feedM p x).2.length ≤ p.1.length + x.length + p.2.1.length + 1 := feedM_cnt p x
abbrev pcs (s : List UInt8) (i : Nat) : List UInt8 := List.drop ((i : Int)).toNat (List.take (IntKind.i64.wrap ((i : Int) + 1)).toNat s)
theorem pcs_len {s : List UInt8} {i : Nat} (h : i < s.length) (hb : s.length ≤ 600) : (pcs s i).length = 1 := by
  unfold pcs
  rw [wrapId (by omega), List.length_drop, List.length_take]; omega
theorem pcs_next {s : List UInt8} {i : Nat} (h : i < s.length) (hb : s.length ≤ 600) : s.take i ++ pcs s i = s.take (i + 1) := by
  unfold pcs
  rw [wrapId (by omega), show ((i : Int) + 1).toNat = i + 1 from by omega, toNat_cast]
  have := List.take_append_drop i (s.take (i + 1))
  rw [List.take_take, show min i (i + 1) = i from by omega] at this
  exact this
set_option maxRecDepth 8000 in
theorem f7_spec (s : List UInt8) : PSpec P [] 7 [.str s] (.bool true) := by
  refine pspec_intro hT Try.func7 (by decide) rfl rfl (by kernel_rfl) rfl ?_
  refine Tri.seq (Tri.reg hT ?_)
  refine Tri.seq ?_
  refine Tri.seq (Tri.reg hT ?_)
  refine (Tri.cond ⟨fun h1 => ?_, fun h1 => ?_⟩)
  · refine Tri.seq (Tri.reg hT ?_)
    refine .inl (.inl ⟨_, fun _ => rfl, f11_spec, ?_⟩)
    refine Tri.ret ?_
    exact ⟨rfl, trivial⟩
  · refine (Tri.skip ?_)
    refine Tri.seq (Tri.reg hT ?_)
    refine .inl (.inr (.inr ⟨_, (by exact fun _ => rfl), f12_spec, ?_⟩))
    refine Tri.seq ?_
    refine Tri.seq (Tri.reg hT ?_)
    refine (Tri.cond ⟨fun h2 => ?_, fun h2 => ?_⟩)
    · cases h2
    · refine (Tri.skip ?_)
      refine Tri.seq (Tri.reg hT ?_)
      refine Tri.seq ?_
      have h600 : s.length ≤ 600 := (by have := of_decide_eq_false h1; omega)
      refine Tri.seq (Tri.reg hT ?_)
      refine (Tri.block ?_)
      refine (Tri.loop (ι := Nat × PSt × List EvD) (fun z => ⟨36, 0, 40, [(0, .str s), (3, .loc 4 0), (4, .own 8 z.2.2.length), (15, .int .i64 (s.length : Int)), (16, .int .i64 (z.1 : Int))], [(4, .box (pC z.2.1)), (8, .arr eT z.2.2)], []⟩) (fun z => z.1 ≤ s.length ∧ Cut p0 z.2.1 (s.take z.1) z.2.2 ∧ z.2.2.length ≤ 700 * z.1) (fun z => s.length - z.1) ((0, p0, [])) ?_ ?_ ?_)
      · exact ⟨Nat.zero_le _, p0_cut, Nat.zero_le _⟩
      · exact Le.weak rfl rfl rfl rfl ⟨(by first | rfl | exact iv1 (by (try simp only [decide_eq_true_eq, decide_eq_false_iff_not, toNat_cast] at *); omega)), (by first | rfl | exact iv1 (by (try simp only [decide_eq_true_eq, decide_eq_false_iff_not, toNat_cast] at *); omega)), (by first | rfl | exact iv1 (by (try simp only [decide_eq_true_eq, decide_eq_false_iff_not, toNat_cast] at *); omega)), (by first | rfl | exact iv1 (by (try simp only [decide_eq_true_eq, decide_eq_false_iff_not, toNat_cast] at *); omega)), (by first | rfl | exact iv1 (by (try simp only [decide_eq_true_eq, decide_eq_false_iff_not, toNat_cast] at *); omega)), trivial⟩ ⟨rfl, rfl, trivial⟩
      · intro ⟨i, p, out⟩ hi; obtain ⟨hi1, hi2, hi3⟩ := hi; change i ≤ s.length at hi1; change Cut p0 p (s.take i) out at hi2; change out.length ≤ 700 * i at hi3
        refine Tri.seq (Tri.reg hT ?_)
        refine Tri.seq (Tri.cond ⟨fun h3 => ?_, fun h3 => ?_⟩)
        · refine (Tri.skip ?_)
          refine Tri.seq (Tri.block ?_)
          have hlt : i < s.length := (by have := of_decide_eq_true h3; omega); have w1 : IntKind.i64.wrap ((i : Int) + 1) = ((i + 1 : Nat) : Int) := (by rw [wrapId (by omega)]; omega); have hpl : p.1.length + p.2.1.length ≤ i := (by have := hi2.len; rw [List.length_take] at this; change _ ≤ 0 + min i s.length + 0 at this; omega)
          refine Tri.le (⟨36, 0, 50, [(0, .str s), (3, .loc 4 0), (4, .own 8 out.length), (15, .int .i64 (s.length : Int)), (16, .int .i64 (i : Int))], [(4, .box (pC p)), (8, .arr eT out)], []⟩) (Le.weak rfl rfl rfl rfl ⟨(by first | rfl | exact iv1 (by (try simp only [decide_eq_true_eq, decide_eq_false_iff_not, toNat_cast] at *); omega)), (by first | rfl | exact iv1 (by (try simp only [decide_eq_true_eq, decide_eq_false_iff_not, toNat_cast] at *); omega)), (by first | rfl | exact iv1 (by (try simp only [decide_eq_true_eq, decide_eq_false_iff_not, toNat_cast] at *); omega)), (by first | rfl | exact iv1 (by (try simp only [decide_eq_true_eq, decide_eq_false_iff_not, toNat_cast] at *); omega)), (by first | rfl | exact iv1 (by (try simp only [decide_eq_true_eq, decide_eq_false_iff_not, toNat_cast] at *); omega)), trivial⟩ ⟨rfl, rfl, trivial⟩) ?_
          refine Tri.seq (Tri.reg hT ?_)
          refine (Tri.reg hT ?_)
          refine ⟨by rw [w1]; omega, ?_⟩
          refine .inl (.inr (.inl ⟨_, _, (by exact ⟨rfl, trivial⟩), f15_spec p (pcs s i) (by rw [pcs_len hlt h600]; omega) _, (by rfl), ?_⟩))
          refine ⟨by have := feed_cnt p (pcs s i); rw [pcs_len hlt h600] at this; show _ ≤ _ ∧ (_ + (feedM p (pcs s i)).2.length) * 56 ≤ _ ∧ _ + (feedM p (pcs s i)).2.length ≤ _; omega, ?_⟩
          refine (Tri.reg hT ?_)
          have hq := feed_cnt p (pcs s i); rw [pcs_len hlt h600] at hq; have hc := hi2.next (pcs s i); rw [pcs_next hlt h600] at hc
          exact ⟨(i + 1, (feedM p (pcs s i)).1, out ++ (feedM p (pcs s i)).2), ⟨hlt, hc, by show (out ++ (feedM p (pcs s i)).2).length ≤ 700 * (i + 1); rw [List.length_append]; omega⟩, (by show s.length - (i + 1) < s.length - i; omega), Le.weak rfl rfl rfl rfl ⟨(by first | rfl | exact iv1 (by (try simp only [decide_eq_true_eq, decide_eq_false_iff_not, toNat_cast] at *); omega)), (by first | rfl | exact iv1 (by (try simp only [decide_eq_true_eq, decide_eq_false_iff_not, toNat_cast] at *); omega)), congrArg (AV.own 8) (by exact List.length_append.symm), (by first | rfl | exact iv1 (by (try simp only [decide_eq_true_eq, decide_eq_false_iff_not, toNat_cast] at *); omega)), congrArg (AV.int .i64) w1, trivial⟩ ⟨rfl, congrArg (fun y => some (Chunk.arr eT y)) (by exact congrArg (· ++ (feedM p (pcs s i)).2) List.take_length), trivial⟩⟩
        · refine Tri.exit ?_
          have hN : i = s.length := (by have := of_decide_eq_false h3; omega); subst hN; rw [List.take_length] at hi2; refine Tri.le _ (Le.freeze 4 8 out.length rfl rfl (Nat.le_refl _)) ?_
          refine Tri.seq (Tri.reg hT ?_)
          refine .inl (.inl ⟨_, fun _ => rfl, f27_spec s (by omega), ?_⟩)
          refine .inl (.inl ⟨_, fun _ => rfl, f14_spec (out.take out.length) (feedM p0 s).2 (by rw [List.length_take]; omega) (cut_sm hi2).hla, ?_⟩)
          refine ⟨_, [], trivial, rfl, rfl, fun h => (.inl ⟨_, fun _ => rfl, f11_spec, rfl, rfl, rfl⟩), ?_⟩
          refine ⟨⟨fun hc => hc, fun _ => trivial⟩, ?_⟩
          refine Tri.ret ?_
          exact ⟨congrArg AV.bool (by rw [cut_all hi2]; simp), trivial⟩
end Go.Proofs.Ytgbmbihajkjbmaa.Fx
