import Derived.Test.YtgbmbihajkjbmaaTlV
import Derived.Test.YtgbmbihajkjbmaaTlR
set_option linter.all false
/- Contracts of chapter 32: the reference's records; the statement TlsFeeds. -/
namespace Go.Proofs.Ytgbmbihajkjbmaa.Fx
open Go Go.Fw Go.Ov Go.Tl Go.Shelf
theorem k21 {k : Nat} {c : List UInt8} : (if decide ((k : Int) = 21) = true then decide ((c.length : Int) = 2) else false) = decide (k = 21 ∧ c.length = 2) := by
  rw [ifb, ← Bool.decide_and, decide_eq_decide]; omega
theorem k22 {k : Nat} {s : Bool} : (if decide ((k : Int) = 22) = true then !s else false) = decide (k = 22 ∧ s = false) := by
  rw [ifb]; cases s <;> simp <;> omega
set_option maxRecDepth 8000 in
theorem f32_spec (r h c : List UInt8) (s : Bool) (k : Nat) (hc : 1 ≤ c.length) (hb : h.length + c.length ≤ 1099511627776) (id : Nat) : CSpec P [] 32 [.loc id 0, .int .i64 (k : Int), .str c] (oneU id (prC r h s false) (some (prC r (recF k c h s).1 (recF k c h s).2.1 (recF k c h s).2.2.1))) (.list eT (recF k c h s).2.2.2) := by
  refine cspec_intro hT Try.func32 (by decide) rfl rfl (by kernel_rfl) rfl (fun _ => rfl) (fun _ => rfl) (fun _ => rfl) (fun _ => rfl) ?_ id
  refine Tri.seq (Tri.reg hT ?_)
  refine Tri.seq (Tri.block ?_)
  refine Tri.seq (Tri.reg hT ?_)
  refine (Tri.cond ⟨fun h1 => ?_, fun h1 => ?_⟩)
  · refine Tri.seq (Tri.reg hT ?_)
    refine (Tri.reg hT ?_)
    refine Tri.seq (Tri.reg hT ?_)
    have eF := recF20 (c := c) (h := h) (s := s) (k := k) (by have := of_decide_eq_true h1; omega); rw [eF]; refine Tri.le ⟨57, 1, 60, [(6, .list eT [])], [(0, .box (prC r [] true false))], []⟩ (Le.weakV rfl rfl rfl rfl ⟨rfl, trivial⟩ ⟨⟨rfl, rfl, rfl, rfl, trivial⟩, trivial⟩) ?_
    refine Tri.ret ?_
    exact ⟨rfl, rfl, trivial⟩
  · have q0 : ¬ k = 20 := (by have := of_decide_eq_false h1; omega)
    refine Tri.seq (Tri.reg hT ?_)
    refine ⟨_, [], trivial, rfl, rfl, fun h => ⟨rfl, rfl, rfl⟩, ?_⟩
    refine ⟨_, [], trivial, rfl, rfl, fun h => ⟨h, rfl, rfl, rfl⟩, ?_⟩
    refine ⟨_, [], trivial, rfl, rfl, fun h => ⟨h, rfl, rfl, rfl⟩, ?_⟩
    refine ⟨⟨fun hc => hc, fun _ => trivial⟩, ?_⟩
    refine (Tri.cond ⟨fun h2 => ?_, fun h2 => ?_⟩)
    · have q1 : k = 21 ∧ c.length = 2 := of_decide_eq_true (k21.symm.trans h2); have eF := recF21 (h := h) (s := s) q0 q1; rw [eF]
      refine Tri.seq (Tri.reg hT ?_)
      refine ⟨by omega, ?_⟩
      refine Tri.le _ (Le.freeze 6 17 1 rfl rfl (Nat.le_refl _)) ?_
      refine Tri.ret ?_
      exact ⟨congrArg (fun v => AV.list eT [(4, v, [], [], ())]) (wrapB (c.getD 1 0)), rfl, trivial⟩
    · have q1 : ¬ (k = 21 ∧ c.length = 2) := of_decide_eq_false (k21.symm.trans h2)
      refine Tri.seq (Tri.reg hT ?_)
      refine ⟨_, [], trivial, rfl, rfl, fun h => ⟨rfl, rfl, rfl⟩, ?_⟩
      refine ⟨_, [], trivial, rfl, rfl, fun h => ⟨h, rfl, rfl, rfl⟩, ?_⟩
      refine ⟨_, [], trivial, rfl, rfl, fun h => ⟨h, rfl, rfl, rfl⟩, ?_⟩
      refine ⟨_, [], trivial, rfl, rfl, fun h => ⟨h, rfl, rfl, rfl⟩, ?_⟩
      refine ⟨_, [], trivial, rfl, rfl, fun h => ⟨h, rfl, rfl, rfl⟩, ?_⟩
      refine ⟨⟨fun hc => hc, fun _ => trivial⟩, ?_⟩
      refine (Tri.cond ⟨fun h3 => ?_, fun h3 => ?_⟩)
      · have q2 : k = 22 ∧ s = false := of_decide_eq_true (k22.symm.trans h3); have eF := recF22 (c := c) (h := h) q0 q1 q2; rw [eF]
        refine Tri.seq (Tri.reg hT ?_)
        refine ⟨by omega, ?_⟩
        refine Tri.seq (Tri.reg hT ?_)
        refine .inl (.inr (.inl ⟨_, _, (by exact ⟨rfl, trivial⟩), f48_spec r (h ++ c) s (by rw [List.length_append]; omega) _, (by rfl), ?_⟩))
        refine Tri.ret ?_
        exact ⟨rfl, rfl, trivial⟩
      · have q2 : ¬ (k = 22 ∧ s = false) := of_decide_eq_false (k22.symm.trans h3)
        refine Tri.seq (Tri.reg hT ?_)
        refine (Tri.cond ⟨fun h4 => ?_, fun h4 => ?_⟩)
        · have q3 : k = 23 := (by have := of_decide_eq_true h4; omega); have eF := recF23 (c := c) (h := h) q0 q1 q2 q3; rw [eF]
          refine Tri.seq (Tri.reg hT ?_)
          refine Tri.le _ (Le.freeze 6 29 1 rfl rfl (Nat.le_refl _)) ?_
          refine Tri.ret ?_
          exact ⟨rfl, rfl, trivial⟩
        · refine (Tri.skip ?_)
          refine Tri.seq (Tri.reg hT ?_)
          have q3 : ¬ k = 23 := (by have := of_decide_eq_false h4; omega); have eF := recF0 (c := c) (h := h) (s := s) q0 q1 q2 q3; rw [eF]; refine Tri.le ⟨57, 1, 60, [(6, .list eT [])], [(0, .box (prC r h s false))], []⟩ (Le.weakV rfl rfl rfl rfl ⟨rfl, trivial⟩ ⟨⟨rfl, rfl, rfl, rfl, trivial⟩, trivial⟩) ?_
          refine Tri.ret ?_
          exact ⟨rfl, rfl, trivial⟩
theorem bad_int (r : List UInt8) : recBad r = (decide ((recK r : Int) < 20) || decide ((recK r : Int) > 23) || decide (((r.getD 1 0).toNat : Int) ≠ 3) || decide (((r.getD 2 0).toNat : Int) > 4) || decide ((recL r : Int) < 1) || decide ((recL r : Int) > 16640)) := rfl
set_option maxRecDepth 8000 in
theorem f16_spec (p : PSt) (x : List UInt8) (hb : p.1.length + x.length + p.2.1.length ≤ 549755813888) (id : Nat) : CSpec P [] 16 [.loc id 0, .str x] (oneU id (pC p) (some (pC (feedM p x).1))) (.list eT (feedM p x).2) := by
  obtain ⟨r0, h0, s0, d0⟩ := p
  change r0.length + x.length + h0.length ≤ _ at hb
  refine cspec_intro hT Try.func16 (by decide) rfl rfl (by kernel_rfl) rfl (fun _ => rfl) (fun _ => rfl) (fun _ => rfl) (fun _ => rfl) ?_ id
  refine Tri.seq (Tri.reg hT ?_)
  refine Tri.seq (Tri.reg hT ?_)
  refine Tri.seq ?_
  refine Tri.seq (Tri.reg hT ?_)
  refine ⟨_, [], trivial, rfl, rfl, fun h => ⟨rfl, rfl, rfl⟩, ?_⟩
  refine ⟨_, [], trivial, rfl, rfl, fun h => ⟨h, rfl, rfl, rfl⟩, ?_⟩
  refine ⟨_, [], trivial, rfl, rfl, fun h => ⟨h, rfl, rfl, rfl⟩, ?_⟩
  refine ⟨_, [], trivial, rfl, rfl, fun h => ⟨h, rfl, rfl, rfl⟩, ?_⟩
  refine ⟨⟨fun _ => trivial, fun hc => (gn hc)⟩, ?_⟩
  refine (Tri.cond ⟨fun h1 => ?_, fun h1 => ?_⟩)
  · refine Tri.seq (Tri.reg hT ?_)
    have q : d0 = true := h1; have eM : feedM (r0, h0, s0, d0) x = ((r0, h0, s0, d0), []) := if_pos q; rw [eM]; refine Tri.le _ (Le.freeze 4 2 0 rfl rfl (Nat.le_refl _)) ?_
    refine Tri.ret ?_
    exact ⟨rfl, rfl, trivial⟩
  · refine (Tri.skip ?_)
    have q : ¬ d0 = true := (by rw [show d0 = false from h1]; decide); have eM : feedM (r0, h0, s0, d0) x = recA (r0 ++ x) h0 s0 [] := if_neg q; rw [eM]; have hd0 : d0 = false := h1; subst hd0
    refine Tri.seq (Tri.reg hT ?_)
    refine ⟨by show r0.length + x.length ≤ _; omega, ?_⟩
    refine Tri.seq (Tri.block ?_)
    refine (Tri.loop (ι := List UInt8 × List UInt8 × Bool × Bool × List EvD) (fun z => ⟨119, 1, 60, [(0, .loc 0 0), (5, .own 2 z.2.2.2.2.length)], [(0, .box (prC z.1 z.2.1 z.2.2.1 z.2.2.2.1)), (2, .arr eT z.2.2.2.2)], []⟩) (fun z => (z.2.2.2.1 = false → z.2.2.2.2.length + z.2.1.length + z.1.length ≤ 549755813888) ∧ recT z.1 z.2.1 z.2.2.1 z.2.2.2.1 z.2.2.2.2 = recA (r0 ++ x) h0 s0 []) (fun z => z.1.length) ((r0 ++ x, h0, s0, false, [])) ?_ ?_ ?_)
    · exact ⟨fun _ => by show 0 + h0.length + (r0 ++ x).length ≤ _; rw [List.length_append]; omega, rfl⟩
    · exact Le.weak rfl rfl rfl rfl ⟨(by first | rfl | exact iv1 (by (try simp only [decide_eq_true_eq, decide_eq_false_iff_not, toNat_cast] at *); omega)), (by first | rfl | exact iv1 (by (try simp only [decide_eq_true_eq, decide_eq_false_iff_not, toNat_cast] at *); omega)), trivial⟩ ⟨rfl, rfl, trivial⟩
    · intro ⟨r, h, s, d, out⟩ hi; obtain ⟨hlen, hi2⟩ := hi; change d = false → out.length + h.length + r.length ≤ _ at hlen; change recT r h s d out = _ at hi2
      refine Tri.seq ?_
      refine Tri.seq (Tri.reg hT ?_)
      refine ⟨_, [], trivial, rfl, rfl, fun h => ⟨rfl, rfl, rfl⟩, ?_⟩
      refine ⟨_, [], trivial, rfl, rfl, fun h => ⟨h, rfl, rfl, rfl⟩, ?_⟩
      refine ⟨_, [], trivial, rfl, rfl, fun h => ⟨h, rfl, rfl, rfl⟩, ?_⟩
      refine ⟨_, [], trivial, rfl, rfl, fun h => ⟨h, rfl, rfl, rfl⟩, ?_⟩
      refine ⟨_, [], trivial, rfl, rfl, fun h => ⟨h, rfl, rfl, rfl⟩, ?_⟩
      refine ⟨⟨fun hc => hc, fun _ => trivial⟩, ?_⟩
      refine (Tri.cond ⟨fun h2 => ?_, fun h2 => ?_⟩)
      · refine (Tri.skip ?_)
        refine (Tri.block ?_)
        have hq : ¬ r.length < 5 ∧ d = false := (by rw [ifb] at h2; have q := Bool.and_eq_true_iff.1 h2; refine ⟨?_, ?_⟩; have := of_decide_eq_true q.1; change (r.length : Int) ≥ 5 at this; omega; simpa using q.2); obtain ⟨q5, hd⟩ := hq; subst hd; have hlen := hlen rfl; change recA r h s out = _ at hi2; have hrl := recR_len q5
        refine Tri.le (⟨119, 1, 80, [(0, .loc 0 0), (5, .own 2 out.length)], [(0, .box (prC r h s false)), (2, .arr eT out)], []⟩) (Le.weak rfl rfl rfl rfl ⟨(by first | rfl | exact iv1 (by (try simp only [decide_eq_true_eq, decide_eq_false_iff_not, toNat_cast] at *); omega)), (by first | rfl | exact iv1 (by (try simp only [decide_eq_true_eq, decide_eq_false_iff_not, toNat_cast] at *); omega)), trivial⟩ ⟨rfl, rfl, trivial⟩) ?_
        refine Tri.seq (Tri.reg hT ?_)
        refine ⟨by omega, ?_⟩
        refine Tri.seq (Tri.reg hT ?_)
        refine .inl (.inl ⟨_, fun _ => rfl, f30_spec r 3 2 ((r.drop 3).take 2) (by decide) (by omega) (by omega) rfl, ?_⟩)
        have hn := num35 (r := r) (by omega)
        refine Tri.le (⟨119, 1, 110, [(0, .loc 0 0), (5, .own 2 out.length), (6, .int .i64 (recK r : Int)), (7, .int .i64 (recL r : Int))], [(0, .box (prC r h s false)), (2, .arr eT out)], []⟩) (Le.weak rfl rfl rfl rfl ⟨(by first | rfl | exact iv1 (by (try simp only [decide_eq_true_eq, decide_eq_false_iff_not, toNat_cast] at *); omega)), (by first | rfl | exact iv1 (by (try simp only [decide_eq_true_eq, decide_eq_false_iff_not, toNat_cast] at *); omega)), congrArg (AV.int .i64) (wrapB (r.getD 0 0)), congrArg (fun n : Nat => AV.int .i64 (n : Int)) hn, trivial⟩ ⟨rfl, rfl, trivial⟩) ?_
        refine Tri.seq ?_
        refine Tri.seq (Tri.reg hT ?_)
        refine ⟨_, [], trivial, rfl, rfl, fun h => ⟨rfl, rfl, rfl⟩, ?_⟩
        refine ⟨_, [], trivial, rfl, rfl, fun h => ⟨h, rfl, rfl, rfl⟩, ?_⟩
        refine ⟨⟨fun _ => trivial, fun hc => (gn hc)⟩, ?_⟩
        refine ⟨_, [], trivial, rfl, rfl, fun h => ⟨rfl, rfl, rfl⟩, ?_⟩
        refine ⟨_, [], trivial, rfl, rfl, fun h => ⟨h, rfl, rfl, rfl⟩, ?_⟩
        refine ⟨_, [], trivial, rfl, rfl, fun h => ⟨h, rfl, rfl, rfl⟩, ?_⟩
        refine ⟨_, [], trivial, rfl, rfl, fun h => ⟨h, rfl, rfl, rfl⟩, ?_⟩
        refine ⟨_, [], trivial, rfl, rfl, fun h => ⟨h, by omega, rfl, rfl, rfl⟩, ?_⟩
        refine ⟨_, [], trivial, rfl, rfl, fun h => ⟨h, rfl, rfl, rfl⟩, ?_⟩
        refine ⟨⟨fun _ => trivial, fun hc => (gn hc)⟩, ?_⟩
        refine ⟨_, [], trivial, rfl, rfl, fun h => ⟨rfl, rfl, rfl⟩, ?_⟩
        refine ⟨_, [], trivial, rfl, rfl, fun h => ⟨h, rfl, rfl, rfl⟩, ?_⟩
        refine ⟨_, [], trivial, rfl, rfl, fun h => ⟨h, rfl, rfl, rfl⟩, ?_⟩
        refine ⟨_, [], trivial, rfl, rfl, fun h => ⟨h, rfl, rfl, rfl⟩, ?_⟩
        refine ⟨_, [], trivial, rfl, rfl, fun h => ⟨h, by omega, rfl, rfl, rfl⟩, ?_⟩
        refine ⟨_, [], trivial, rfl, rfl, fun h => ⟨h, rfl, rfl, rfl⟩, ?_⟩
        refine ⟨⟨fun _ => trivial, fun hc => (gn hc)⟩, ?_⟩
        refine ⟨_, [], trivial, rfl, rfl, fun h => ⟨rfl, rfl, rfl⟩, ?_⟩
        refine ⟨_, [], trivial, rfl, rfl, fun h => ⟨h, rfl, rfl, rfl⟩, ?_⟩
        refine ⟨⟨fun _ => trivial, fun hc => (gn hc)⟩, ?_⟩
        refine ⟨_, [], trivial, rfl, rfl, fun h => ⟨rfl, rfl, rfl⟩, ?_⟩
        refine ⟨_, [], trivial, rfl, rfl, fun h => ⟨h, rfl, rfl, rfl⟩, ?_⟩
        refine ⟨⟨fun _ => trivial, fun hc => (gn hc)⟩, ?_⟩
        refine (Tri.cond ⟨fun h3 => ?_, fun h3 => ?_⟩)
        · have bb : recBad r = true := (by rw [ifo, ifo, ifo, ifo, ifo] at h3; rw [bad_int]; exact h3); rw [← hi2, rec_bad q5 bb]
          refine Tri.seq (Tri.reg hT ?_)
          refine .inl (.inr (.inl ⟨_, _, (by exact ⟨rfl, trivial⟩), f31_spec r h s false _, (by rfl), ?_⟩))
          refine ⟨(Nat.le_refl _), by show _ ≤ _ ∧ (_ + 1) * 56 ≤ _ ∧ _ + 1 ≤ _; omega, ?_⟩
          refine Tri.le _ (Le.freeze 4 2 (out.length + 1) rfl rfl (by rw [List.take_length, List.length_append]; exact Nat.le_refl _)) ?_
          refine Tri.ret ?_
          exact ⟨congrArg (AV.list eT) (by rw [List.take_length]; exact List.take_of_length_le (by rw [List.length_append]; exact Nat.le_refl _)), rfl, trivial⟩
        · refine (Tri.skip ?_)
          refine Tri.seq ?_
          have bb : ¬ recBad r = true := (by rw [ifo, ifo, ifo, ifo, ifo] at h3; rw [bad_int]; exact fun q => by have := h3.symm.trans q; cases this); have hk := rec_kind bb; have w5 : IntKind.i64.wrap (5 + (recL r : Int)) = ((5 + recL r : Nat) : Int) := (by rw [wrapId (by omega)]; omega)
          refine Tri.le (⟨119, 1, 120, [(0, .loc 0 0), (5, .own 2 out.length), (6, .int .i64 (recK r : Int)), (7, .int .i64 (recL r : Int))], [(0, .box (prC r h s false)), (2, .arr eT out)], []⟩) (Le.weak rfl rfl rfl rfl ⟨(by first | rfl | exact iv1 (by (try simp only [decide_eq_true_eq, decide_eq_false_iff_not, toNat_cast] at *); omega)), (by first | rfl | exact iv1 (by (try simp only [decide_eq_true_eq, decide_eq_false_iff_not, toNat_cast] at *); omega)), (by first | rfl | exact iv1 (by (try simp only [decide_eq_true_eq, decide_eq_false_iff_not, toNat_cast] at *); omega)), (by first | rfl | exact iv1 (by (try simp only [decide_eq_true_eq, decide_eq_false_iff_not, toNat_cast] at *); omega)), trivial⟩ ⟨rfl, rfl, trivial⟩) ?_
          refine Tri.seq (Tri.reg hT ?_)
          refine (Tri.cond ⟨fun h4 => ?_, fun h4 => ?_⟩)
          · refine Tri.exit ?_
            refine Tri.seq (Tri.reg hT ?_)
            have q6 : r.length < 5 + recL r := (by rw [w5] at h4; have := of_decide_eq_true h4; omega); rw [← hi2, rec_wait q5 bb q6]; refine Tri.le _ (Le.freeze 4 2 out.length rfl rfl (Nat.le_refl _)) ?_
            refine Tri.ret ?_
            exact ⟨congrArg (AV.list eT) List.take_length, rfl, trivial⟩
          · refine (Tri.skip ?_)
            have q6 : ¬ r.length < 5 + recL r := (by rw [w5] at h4; have := of_decide_eq_false h4; omega); have hcl : (recC r).length = recL r := (by unfold recC; rw [List.length_drop, List.length_take]; omega); have hrr : (recR r).length + 5 + recL r = r.length := (by unfold recR; rw [List.length_drop]; omega); have hst := recT_step (h := h) (s := s) (out := out) q5 bb q6; have hcn := recF_cnt (recK r) (recC r) h s
            refine Tri.le (⟨119, 1, 200, [(0, .loc 0 0), (5, .own 2 out.length), (6, .int .i64 (recK r : Int)), (7, .int .i64 (recL r : Int))], [(0, .box (prC r h s false)), (2, .arr eT out)], []⟩) (Le.weak rfl rfl rfl rfl ⟨(by first | rfl | exact iv1 (by (try simp only [decide_eq_true_eq, decide_eq_false_iff_not, toNat_cast] at *); omega)), (by first | rfl | exact iv1 (by (try simp only [decide_eq_true_eq, decide_eq_false_iff_not, toNat_cast] at *); omega)), (by first | rfl | exact iv1 (by (try simp only [decide_eq_true_eq, decide_eq_false_iff_not, toNat_cast] at *); omega)), (by first | rfl | exact iv1 (by (try simp only [decide_eq_true_eq, decide_eq_false_iff_not, toNat_cast] at *); omega)), trivial⟩ ⟨rfl, rfl, trivial⟩) ?_
            refine Tri.seq (Tri.reg hT ?_)
            refine ⟨by rw [w5]; omega, ?_⟩
            refine Tri.seq (Tri.reg hT ?_)
            refine ⟨by rw [w5]; omega, ?_⟩
            skip
            refine Tri.le (⟨119, 1, 300, [(0, .loc 0 0), (5, .own 2 out.length), (6, .int .i64 (recK r : Int)), (8, .str (recC r))], [(0, .box (prC (recR r) h s false)), (2, .arr eT out)], []⟩) (Le.weak rfl rfl rfl rfl ⟨(by first | rfl | exact iv1 (by (try simp only [decide_eq_true_eq, decide_eq_false_iff_not, toNat_cast] at *); omega)), (by first | rfl | exact iv1 (by (try simp only [decide_eq_true_eq, decide_eq_false_iff_not, toNat_cast] at *); omega)), (by first | rfl | exact iv1 (by (try simp only [decide_eq_true_eq, decide_eq_false_iff_not, toNat_cast] at *); omega)), congrArg AV.str (by rw [w5]; rfl), trivial⟩ ⟨congrArg (fun y => some (Chunk.box [.str y, .str h, .bool s, .bool false])) (by rw [w5, toNat_cast, toNat_cast, List.take_length]; rfl), rfl, trivial⟩) ?_
            refine (Tri.reg hT ?_)
            refine .inl (.inr (.inl ⟨_, _, (by exact ⟨rfl, trivial⟩), f32_spec (recR r) h (recC r) s (recK r) (by omega) (by omega) _, (by rfl), ?_⟩))
            refine ⟨by show _ ≤ _ ∧ (_ + (recF (recK r) (recC r) h s).2.2.2.length) * 56 ≤ _ ∧ _ + (recF (recK r) (recC r) h s).2.2.2.length ≤ _; omega, ?_⟩
            exact ⟨(recR r, (recF (recK r) (recC r) h s).1, (recF (recK r) (recC r) h s).2.1, (recF (recK r) (recC r) h s).2.2.1, out ++ (recF (recK r) (recC r) h s).2.2.2), ⟨fun q => by have := recF_dead (by omega) q; show (out ++ (recF (recK r) (recC r) h s).2.2.2).length + (recF (recK r) (recC r) h s).1.length + (recR r).length ≤ _; rw [List.length_append]; omega, hst.trans hi2⟩, hrl, Le.weak rfl rfl rfl rfl ⟨(by first | rfl | exact iv1 (by (try simp only [decide_eq_true_eq, decide_eq_false_iff_not, toNat_cast] at *); omega)), congrArg (AV.own 2) (by exact List.length_append.symm), trivial⟩ ⟨rfl, congrArg (fun y => some (Chunk.arr eT y)) (by rw [List.take_length]), trivial⟩⟩
      · refine Tri.exit ?_
        refine Tri.seq (Tri.reg hT ?_)
        have eT2 : recA (r0 ++ x) h0 s0 [] = ((r, h, s, d), out) := (by rw [← hi2]; unfold recT; cases d with | true => rfl | false => exact rec_end (by rw [ifb] at h2; rw [Bool.not_false, Bool.and_true] at h2; have := of_decide_eq_false h2; change ¬ (r.length : Int) ≥ 5 at this; omega)); rw [eT2]; refine Tri.le _ (Le.freeze 4 2 out.length rfl rfl (Nat.le_refl _)) ?_
        refine Tri.ret ?_
        exact ⟨congrArg (AV.list eT) List.take_length, rfl, trivial⟩
theorem lng_cnt {l : List (List UInt8)} (h : lngB l = false) : l.length ≤ 200 := by
  have k : ¬ LngP l := fun q => by rw [lng_t q] at h; cases h
  exact Nat.le_of_not_lt (fun q => k (.inr q))
set_option maxRecDepth 8000 in
theorem f3_spec (l : List (List UInt8)) : PSpec P [] 3 [.list .str l] (.bool true) := by
  refine pspec_intro hT Try.func3 (by decide) rfl rfl (by kernel_rfl) rfl ?_
  refine Tri.seq (Tri.reg hT ?_)
  refine Tri.seq ?_
  refine Tri.seq (Tri.reg hT ?_)
  refine .inl (.inl ⟨_, fun _ => rfl, f10_spec l, ?_⟩)
  refine (Tri.cond ⟨fun h1 => ?_, fun h1 => ?_⟩)
  · refine Tri.seq (Tri.reg hT ?_)
    refine .inl (.inl ⟨_, fun _ => rfl, f11_spec, ?_⟩)
    refine Tri.ret ?_
    exact ⟨rfl, trivial⟩
  · refine (Tri.skip ?_)
    have hb := lng_of h1; have hc := lng_cnt h1
    refine Tri.seq (Tri.reg hT ?_)
    refine .inl (.inr (.inr ⟨_, (by exact fun _ => rfl), f12_spec, ?_⟩))
    refine .inl (.inr (.inr ⟨_, (by exact fun _ => rfl), f13_spec, ?_⟩))
    refine Tri.seq ?_
    refine Tri.seq (Tri.reg hT ?_)
    refine (Tri.cond ⟨fun h2 => ?_, fun h2 => ?_⟩)
    · cases h2
    · refine (Tri.skip ?_)
      refine Tri.seq ?_
      refine Tri.seq (Tri.reg hT ?_)
      refine (Tri.block ?_)
      refine (Tri.loop (ι := Nat × PSt) (fun z => ⟨34, 0, 60, [(0, .list .str l), (3, .loc 3 0), (4, .loc 4 0), (14, .int .i64 (l.length : Int)), (15, .int .i64 (z.1 : Int))], [(3, .box (pC z.2)), (4, .box (pC z.2))], []⟩) (fun z => z.1 ≤ l.length ∧ z.2.1.length + z.2.2.1.length ≤ 20000 * z.1) (fun z => l.length - z.1) ((0, p0)) ?_ ?_ ?_)
      · exact ⟨Nat.zero_le _, Nat.zero_le _⟩
      · exact Le.weak rfl rfl rfl rfl ⟨(by first | rfl | exact iv1 (by (try simp only [decide_eq_true_eq, decide_eq_false_iff_not, toNat_cast] at *); omega)), (by first | rfl | exact iv1 (by (try simp only [decide_eq_true_eq, decide_eq_false_iff_not, toNat_cast] at *); omega)), (by first | rfl | exact iv1 (by (try simp only [decide_eq_true_eq, decide_eq_false_iff_not, toNat_cast] at *); omega)), (by first | rfl | exact iv1 (by (try simp only [decide_eq_true_eq, decide_eq_false_iff_not, toNat_cast] at *); omega)), (by first | rfl | exact iv1 (by (try simp only [decide_eq_true_eq, decide_eq_false_iff_not, toNat_cast] at *); omega)), trivial⟩ ⟨rfl, rfl, trivial⟩
      · intro ⟨i, p⟩ hi; obtain ⟨hi1, hi2⟩ := hi; change i ≤ l.length at hi1; change p.1.length + p.2.1.length ≤ 20000 * i at hi2
        refine Tri.seq (Tri.reg hT ?_)
        refine Tri.seq (Tri.cond ⟨fun h3 => ?_, fun h3 => ?_⟩)
        · refine (Tri.skip ?_)
          refine Tri.seq (Tri.block ?_)
          have hlt : i < l.length := (by have := of_decide_eq_true h3; omega); have w1 : IntKind.i64.wrap ((i : Int) + 1) = ((i + 1 : Nat) : Int) := (by rw [wrapId (by omega)]; omega); have hx := hb i hlt; have hsm := feedM_sm p (l.getD ((i : Int)).toNat []); have hcn := feedM_cnt p (l.getD ((i : Int)).toNat []); rw [toNat_cast] at hsm hcn
          refine Tri.le (⟨34, 0, 70, [(0, .list .str l), (3, .loc 3 0), (4, .loc 4 0), (14, .int .i64 (l.length : Int)), (15, .int .i64 (i : Int))], [(3, .box (pC p)), (4, .box (pC p))], []⟩) (Le.weak rfl rfl rfl rfl ⟨(by first | rfl | exact iv1 (by (try simp only [decide_eq_true_eq, decide_eq_false_iff_not, toNat_cast] at *); omega)), (by first | rfl | exact iv1 (by (try simp only [decide_eq_true_eq, decide_eq_false_iff_not, toNat_cast] at *); omega)), (by first | rfl | exact iv1 (by (try simp only [decide_eq_true_eq, decide_eq_false_iff_not, toNat_cast] at *); omega)), (by first | rfl | exact iv1 (by (try simp only [decide_eq_true_eq, decide_eq_false_iff_not, toNat_cast] at *); omega)), (by first | rfl | exact iv1 (by (try simp only [decide_eq_true_eq, decide_eq_false_iff_not, toNat_cast] at *); omega)), trivial⟩ ⟨rfl, rfl, trivial⟩) ?_
          refine Tri.seq (Tri.reg hT ?_)
          refine Tri.seq (Tri.drw hT hm 14 (by kernel_rfl) ?_)
          refine ⟨by omega, ?_⟩
          refine .inr (.inl ⟨_, _, (by exact ⟨rfl, trivial⟩), f15_spec p (l.getD ((i : Int)).toNat []) (by rw [toNat_cast]; omega) _, (by rfl), ?_⟩)
          refine ⟨by omega, ?_⟩
          refine .inr (.inl ⟨_, _, (by exact ⟨rfl, trivial⟩), f16_spec p (l.getD ((i : Int)).toNat []) (by rw [toNat_cast]; omega) _, (by rfl), ?_⟩)
          refine .inl ⟨_, fun _ => rfl, f14_spec (feedM p (l.getD ((i : Int)).toNat [])).2 (feedM p (l.getD ((i : Int)).toNat [])).2 (by rw [toNat_cast]; omega) (by rw [toNat_cast]; exact hsm.1.hla), ?_⟩
          refine ⟨by kernel_rfl, ?_⟩
          refine (Tri.cond ⟨fun h4 => ?_, fun h4 => ?_⟩)
          · exfalso; simp at h4
          · refine (Tri.skip ?_)
            refine (Tri.reg hT ?_)
            exact ⟨(i + 1, (feedM p (l.getD ((i : Int)).toNat [])).1), ⟨hlt, by show (feedM p (l.getD ((i : Int)).toNat [])).1.1.length + (feedM p (l.getD ((i : Int)).toNat [])).1.2.1.length ≤ 20000 * (i + 1); rw [toNat_cast]; omega⟩, (by show l.length - (i + 1) < l.length - i; omega), Le.weak rfl rfl rfl rfl ⟨(by first | rfl | exact iv1 (by (try simp only [decide_eq_true_eq, decide_eq_false_iff_not, toNat_cast] at *); omega)), (by first | rfl | exact iv1 (by (try simp only [decide_eq_true_eq, decide_eq_false_iff_not, toNat_cast] at *); omega)), (by first | rfl | exact iv1 (by (try simp only [decide_eq_true_eq, decide_eq_false_iff_not, toNat_cast] at *); omega)), (by first | rfl | exact iv1 (by (try simp only [decide_eq_true_eq, decide_eq_false_iff_not, toNat_cast] at *); omega)), congrArg (AV.int .i64) w1, trivial⟩ ⟨rfl, rfl, trivial⟩⟩
        · refine Tri.exit ?_
          refine Tri.seq (Tri.reg hT ?_)
          refine .inl (.inl ⟨_, fun _ => rfl, f11_spec, ?_⟩)
          refine Tri.ret ?_
          exact ⟨rfl, trivial⟩
end Go.Proofs.Ytgbmbihajkjbmaa.Fx
