import Derived.Test.YtgbmbihajkjbmaaTlE
import Derived.Test.YtgbmbihajkjbmaaGTl1
set_option linter.all false
/- Contracts of chapter 32: feeding. -/
namespace Go.Proofs.Ytgbmbihajkjbmaa.Fx
open Go Go.Fw Go.Ov Go.Tl
abbrev pC (p : PSt) : List AV := prC p.1 p.2.1 p.2.2.1 p.2.2.2
theorem f12_spec : NSpec P [] 12 [] (pC ([], [], false, false)) := by
  refine nspec_intro hT 2 Try.func12 (by decide) rfl rfl (by kernel_rfl) rfl ?_
  refine Tri.seq (Tri.reg hT ?_)
  refine Tri.seq (Tri.reg hT ?_)
  refine Tri.ret ?_
  exact ⟨rfl, rfl, trivial⟩
set_option maxRecDepth 8000 in
theorem f15_spec (p : PSt) (x : List UInt8) (hb : p.1.length + x.length + p.2.1.length ≤ 549755813888) (id : Nat) : CSpec P [] 15 [.loc id 0, .str x] (oneU id (pC p) (some (pC (feedM p x).1))) (.list eT (feedM p x).2) := by
  obtain ⟨r0, h0, s0, d0⟩ := p
  change r0.length + x.length + h0.length ≤ _ at hb
  refine cspec_intro hT Try.func15 (by decide) rfl rfl (by kernel_rfl) rfl (fun _ => rfl) (fun _ => rfl) (fun _ => rfl) (fun _ => rfl) ?_ id
  refine Tri.seq (Tri.reg hT ?_)
  refine (Tri.scope ?_)
  refine Tri.seq ?_
  refine Tri.seq (Tri.reg hT ?_)
  refine ⟨_, [], trivial, rfl, rfl, fun h => ⟨rfl, rfl, rfl⟩, ?_⟩
  refine ⟨_, [], trivial, rfl, rfl, fun h => ⟨h, rfl, rfl, rfl⟩, ?_⟩
  refine ⟨_, [], trivial, rfl, rfl, fun h => ⟨h, rfl, rfl, rfl⟩, ?_⟩
  refine ⟨_, [], trivial, rfl, rfl, fun h => ⟨h, rfl, rfl, rfl⟩, ?_⟩
  refine ⟨⟨fun _ => trivial, fun hc => (gn hc)⟩, ?_⟩
  refine (Tri.cond ⟨fun h1 => ?_, fun h1 => ?_⟩)
  · refine Tri.seq (Tri.reg hT ?_)
    have q : d0 = true := h1; have eM : feedM (r0, h0, s0, d0) x = ((r0, h0, s0, d0), []) := if_pos q; rw [eM]; refine Tri.le ⟨163, 1, 40, [(4, .list eT [])], [(0, .box (pC (r0, h0, s0, d0)))], []⟩ (Le.weakV rfl rfl rfl rfl ⟨rfl, trivial⟩ ⟨⟨rfl, rfl, rfl, rfl, trivial⟩, trivial⟩) ?_
    refine Tri.ret ?_
    exact ⟨rfl, rfl, trivial⟩
  · refine (Tri.skip ?_)
    have q : ¬ d0 = true := (by rw [show d0 = false from h1]; decide); have eM : feedM (r0, h0, s0, d0) x = recA (r0 ++ x) h0 s0 [] := if_neg q; rw [eM]; have hd0 : d0 = false := h1; subst hd0
    refine Tri.seq (Tri.reg hT ?_)
    refine ⟨by show r0.length + x.length ≤ _; omega, ?_⟩
    refine Tri.seq (Tri.reg hT ?_)
    refine Tri.seq (Tri.label ?_)
    refine Tri.seq (Tri.block ?_)
    refine (Tri.loop (ι := List UInt8 × List UInt8 × Bool × List EvD) (fun z => ⟨163, 1, 60, [(0, .loc 0 0), (5, .own 20 z.2.2.2.length)], [(0, .box (prC z.1 z.2.1 z.2.2.1 false)), (20, .arr eT z.2.2.2)], []⟩) (fun z => z.2.2.2.length + z.2.1.length + z.1.length ≤ 549755813888 ∧ recA z.1 z.2.1 z.2.2.1 z.2.2.2 = recA (r0 ++ x) h0 s0 []) (fun z => z.1.length) ((r0 ++ x, h0, s0, [])) ?_ ?_ ?_)
    · exact ⟨by show 0 + h0.length + (r0 ++ x).length ≤ _; rw [List.length_append]; omega, rfl⟩
    · exact Le.trans (Le.own 5 eT rfl) (Le.weak rfl rfl rfl rfl ⟨(by first | rfl | exact iv1 (by (try simp only [decide_eq_true_eq, decide_eq_false_iff_not, toNat_cast] at *); omega)), (by first | rfl | exact iv1 (by (try simp only [decide_eq_true_eq, decide_eq_false_iff_not, toNat_cast] at *); omega)), trivial⟩ ⟨rfl, rfl, trivial⟩)
    · intro ⟨r, h, s, out⟩ hi; obtain ⟨hlen, hi2⟩ := hi; change out.length + h.length + r.length ≤ _ at hlen; change recA r h s out = _ at hi2
      refine Tri.seq ?_
      refine Tri.seq (Tri.reg hT ?_)
      refine (Tri.cond ⟨fun h2 => ?_, fun h2 => ?_⟩)
      · refine (Tri.skip ?_)
        refine (Tri.block ?_)
        have q5 : ¬ r.length < 5 := (by have := of_decide_eq_true h2; change (r.length : Int) ≥ 5 at this; omega); have hrl := recR_len q5
        refine Tri.le (⟨163, 1, 80, [(0, .loc 0 0), (5, .own 20 out.length)], [(0, .box (prC r h s false)), (20, .arr eT out)], []⟩) (Le.weak rfl rfl rfl rfl ⟨(by first | rfl | exact iv1 (by (try simp only [decide_eq_true_eq, decide_eq_false_iff_not, toNat_cast] at *); omega)), (by first | rfl | exact iv1 (by (try simp only [decide_eq_true_eq, decide_eq_false_iff_not, toNat_cast] at *); omega)), trivial⟩ ⟨rfl, rfl, trivial⟩) ?_
        refine Tri.seq (Tri.reg hT ?_)
        refine ⟨by omega, ?_⟩
        refine Tri.seq (Tri.drw hT hm 14 (by kernel_rfl) ?_)
        refine ⟨by omega, ?_⟩
        refine ⟨(by decide), ?_⟩
        refine ⟨by omega, ?_⟩
        refine ⟨by kernel_rfl, ?_⟩
        refine Tri.seq ?_
        skip
        refine Tri.le (⟨163, 1, 110, [(0, .loc 0 0), (5, .own 20 out.length), (6, .int .i64 (recK r : Int)), (7, .int .i64 (recL r : Int))], [(0, .box (prC r h s false)), (20, .arr eT out)], []⟩) (Le.weak rfl rfl rfl rfl ⟨(by first | rfl | exact iv1 (by (try simp only [decide_eq_true_eq, decide_eq_false_iff_not, toNat_cast] at *); omega)), (by first | rfl | exact iv1 (by (try simp only [decide_eq_true_eq, decide_eq_false_iff_not, toNat_cast] at *); omega)), congrArg (AV.int .i64) (wrapB (r.getD 0 0)), congrArg (AV.int .i64) (or2 (r.getD 3 0) (r.getD 4 0)), trivial⟩ ⟨rfl, rfl, trivial⟩) ?_
        refine Tri.seq (Tri.reg hT ?_)
        refine ⟨_, [], trivial, rfl, rfl, fun h => ⟨rfl, rfl, rfl⟩, ?_⟩
        refine ⟨_, [], trivial, rfl, rfl, fun h => ⟨h, rfl, rfl, rfl⟩, ?_⟩
        refine ⟨⟨fun _ => trivial, fun hc => (gn hc)⟩, ?_⟩
        refine ⟨_, [], trivial, rfl, rfl, fun h => ⟨rfl, rfl, rfl⟩, ?_⟩
        refine ⟨_, [], trivial, rfl, rfl, fun h => ⟨h, rfl, rfl, rfl⟩, ?_⟩
        refine ⟨_, [], trivial, rfl, rfl, fun h => ⟨h, rfl, rfl, rfl⟩, ?_⟩
        refine ⟨_, [], trivial, rfl, rfl, fun h => ⟨h, rfl, rfl, rfl⟩, ?_⟩
        refine ⟨_, [], trivial, rfl, rfl, fun h => ⟨h, by omega, rfl, rfl, rfl⟩, ?_⟩
        refine ⟨_, [], trivial, rfl, rfl, fun h => ⟨h, rfl, rfl, rfl⟩, ?_⟩
        refine ⟨⟨fun _ => trivial, fun hc => (gn hc)⟩, ?_⟩
        refine ⟨_, [], trivial, rfl, rfl, fun h => ⟨rfl, rfl, rfl⟩, ?_⟩
        refine ⟨_, [], trivial, rfl, rfl, fun h => ⟨h, rfl, rfl, rfl⟩, ?_⟩
        refine ⟨_, [], trivial, rfl, rfl, fun h => ⟨h, rfl, rfl, rfl⟩, ?_⟩
        refine ⟨_, [], trivial, rfl, rfl, fun h => ⟨h, rfl, rfl, rfl⟩, ?_⟩
        refine ⟨_, [], trivial, rfl, rfl, fun h => ⟨h, by omega, rfl, rfl, rfl⟩, ?_⟩
        refine ⟨_, [], trivial, rfl, rfl, fun h => ⟨h, rfl, rfl, rfl⟩, ?_⟩
        refine ⟨⟨fun _ => trivial, fun hc => (gn hc)⟩, ?_⟩
        refine ⟨_, [], trivial, rfl, rfl, fun h => ⟨rfl, rfl, rfl⟩, ?_⟩
        refine ⟨_, [], trivial, rfl, rfl, fun h => ⟨h, rfl, rfl, rfl⟩, ?_⟩
        refine ⟨⟨fun _ => trivial, fun hc => (gn hc)⟩, ?_⟩
        refine ⟨_, [], trivial, rfl, rfl, fun h => ⟨rfl, rfl, rfl⟩, ?_⟩
        refine ⟨_, [], trivial, rfl, rfl, fun h => ⟨h, rfl, rfl, rfl⟩, ?_⟩
        refine ⟨⟨fun _ => trivial, fun hc => (gn hc)⟩, ?_⟩
        refine (Tri.cond ⟨fun h3 => ?_, fun h3 => ?_⟩)
        · have bb : recBad r = true := (by rw [ifo, ifo, ifo, ifo, ifo] at h3; exact h3); rw [← hi2, rec_bad q5 bb]
          refine Tri.seq (Tri.reg hT ?_)
          refine Tri.seq (Tri.reg hT ?_)
          refine ⟨(Nat.le_refl _), by show _ ≤ _ ∧ (_ + 1) * 56 ≤ _ ∧ _ + 1 ≤ _; omega, ?_⟩
          refine Tri.le _ (Le.freeze 4 20 (out.length + 1) rfl rfl (by rw [List.take_length, List.length_append]; exact Nat.le_refl _)) ?_
          refine Tri.ret ?_
          exact ⟨congrArg (AV.list eT) (by rw [List.take_length]; exact List.take_of_length_le (by rw [List.length_append]; exact Nat.le_refl _)), rfl, trivial⟩
        · refine (Tri.skip ?_)
          refine Tri.seq ?_
          have bb : ¬ recBad r = true := (by rw [ifo, ifo, ifo, ifo, ifo] at h3; intro k; have k2 := h3.symm.trans k; cases k2); have hk := rec_kind bb; have w5 : IntKind.i64.wrap (5 + (recL r : Int)) = ((5 + recL r : Nat) : Int) := (by rw [wrapId (by omega)]; omega)
          refine Tri.le (⟨163, 1, 150, [(0, .loc 0 0), (5, .own 20 out.length), (6, .int .i64 (recK r : Int)), (7, .int .i64 (recL r : Int))], [(0, .box (prC r h s false)), (20, .arr eT out)], []⟩) (Le.weak rfl rfl rfl rfl ⟨(by first | rfl | exact iv1 (by (try simp only [decide_eq_true_eq, decide_eq_false_iff_not, toNat_cast] at *); omega)), (by first | rfl | exact iv1 (by (try simp only [decide_eq_true_eq, decide_eq_false_iff_not, toNat_cast] at *); omega)), (by first | rfl | exact iv1 (by (try simp only [decide_eq_true_eq, decide_eq_false_iff_not, toNat_cast] at *); omega)), (by first | rfl | exact iv1 (by (try simp only [decide_eq_true_eq, decide_eq_false_iff_not, toNat_cast] at *); omega)), trivial⟩ ⟨rfl, rfl, trivial⟩) ?_
          refine Tri.seq (Tri.reg hT ?_)
          refine (Tri.cond ⟨fun h4 => ?_, fun h4 => ?_⟩)
          · refine Tri.exit ?_
            refine Tri.seq (Tri.reg hT ?_)
            have q6 : r.length < 5 + recL r := (by rw [w5] at h4; have := of_decide_eq_true h4; omega); rw [← hi2, rec_wait q5 bb q6]; refine Tri.le _ (Le.freeze 4 20 out.length rfl rfl (Nat.le_refl _)) ?_
            refine Tri.ret ?_
            exact ⟨congrArg (AV.list eT) List.take_length, rfl, trivial⟩
          · refine (Tri.skip ?_)
            have q6 : ¬ r.length < 5 + recL r := (by rw [w5] at h4; have := of_decide_eq_false h4; omega); have hcl : (recC r).length = recL r := (by unfold recC; rw [List.length_drop, List.length_take]; omega); have hrr : (recR r).length + 5 + recL r = r.length := (by unfold recR; rw [List.length_drop]; omega)
            refine Tri.le (⟨163, 1, 170, [(0, .loc 0 0), (5, .own 20 out.length), (6, .int .i64 (recK r : Int)), (7, .int .i64 (recL r : Int))], [(0, .box (prC r h s false)), (20, .arr eT out)], []⟩) (Le.weak rfl rfl rfl rfl ⟨(by first | rfl | exact iv1 (by (try simp only [decide_eq_true_eq, decide_eq_false_iff_not, toNat_cast] at *); omega)), (by first | rfl | exact iv1 (by (try simp only [decide_eq_true_eq, decide_eq_false_iff_not, toNat_cast] at *); omega)), (by first | rfl | exact iv1 (by (try simp only [decide_eq_true_eq, decide_eq_false_iff_not, toNat_cast] at *); omega)), (by first | rfl | exact iv1 (by (try simp only [decide_eq_true_eq, decide_eq_false_iff_not, toNat_cast] at *); omega)), trivial⟩ ⟨rfl, rfl, trivial⟩) ?_
            refine Tri.seq (Tri.reg hT ?_)
            refine ⟨by rw [w5]; omega, ?_⟩
            refine Tri.seq (Tri.reg hT ?_)
            refine ⟨by rw [w5]; omega, ?_⟩
            skip
            refine Tri.le (⟨163, 1, 200, [(0, .loc 0 0), (5, .own 20 out.length), (6, .int .i64 (recK r : Int)), (7, .int .i64 (recL r : Int)), (8, .str (recC r))], [(0, .box (prC (recR r) h s false)), (20, .arr eT out)], []⟩) (Le.weak rfl rfl rfl rfl ⟨(by first | rfl | exact iv1 (by (try simp only [decide_eq_true_eq, decide_eq_false_iff_not, toNat_cast] at *); omega)), (by first | rfl | exact iv1 (by (try simp only [decide_eq_true_eq, decide_eq_false_iff_not, toNat_cast] at *); omega)), (by first | rfl | exact iv1 (by (try simp only [decide_eq_true_eq, decide_eq_false_iff_not, toNat_cast] at *); omega)), (by first | rfl | exact iv1 (by (try simp only [decide_eq_true_eq, decide_eq_false_iff_not, toNat_cast] at *); omega)), congrArg AV.str (by rw [w5]; rfl), trivial⟩ ⟨congrArg (fun y => some (Chunk.box [.str y, .str h, .bool s, .bool false])) (by rw [w5, toNat_cast, toNat_cast, List.take_length]; rfl), rfl, trivial⟩) ?_
            refine Tri.seq (Tri.reg hT ?_)
            refine (Tri.block ?_)
            refine Tri.seq (Tri.reg hT ?_)
            refine (Tri.cond ⟨fun h5 => ?_, fun h5 => ?_⟩)
            · refine (Tri.reg hT ?_)
              have k : recK r = 20 := (by have := of_decide_eq_true h5; omega); have eM := rec_20 (h := h) (s := s) (out := out) q5 bb q6 k
              exact ⟨(recR r, [], true, out), ⟨by show out.length + 0 + (recR r).length ≤ _; omega, eM.symm.trans hi2⟩, hrl, Le.weak rfl rfl rfl rfl ⟨(by first | rfl | exact iv1 (by (try simp only [decide_eq_true_eq, decide_eq_false_iff_not, toNat_cast] at *); omega)), (by first | rfl | exact iv1 (by (try simp only [decide_eq_true_eq, decide_eq_false_iff_not, toNat_cast] at *); omega)), trivial⟩ ⟨rfl, rfl, trivial⟩⟩
            · refine Tri.seq (Tri.reg hT ?_)
              refine (Tri.cond ⟨fun h6 => ?_, fun h6 => ?_⟩)
              · refine Tri.seq (Tri.reg hT ?_)
                refine (Tri.cond ⟨fun h7 => ?_, fun h7 => ?_⟩)
                · refine (Tri.reg hT ?_)
                  refine ⟨by have := of_decide_eq_true h7; omega, ?_⟩
                  refine ⟨(Nat.le_refl _), by show _ ≤ _ ∧ (_ + 1) * 56 ≤ _ ∧ _ + 1 ≤ _; omega, ?_⟩
                  have k : recK r = 21 := (by have := of_decide_eq_true h6; omega); have eM := rec_21 (h := h) (s := s) (out := out) q5 bb q6 k; rw [if_pos (by have := of_decide_eq_true h7; omega)] at eM
                  exact ⟨(recR r, h, s, out ++ [alrD (recC r)]), ⟨by show (out ++ [alrD (recC r)]).length + h.length + (recR r).length ≤ _; rw [List.length_append]; show out.length + 1 + h.length + (recR r).length ≤ _; omega, eM.symm.trans hi2⟩, hrl, Le.weak rfl rfl rfl rfl ⟨(by first | rfl | exact iv1 (by (try simp only [decide_eq_true_eq, decide_eq_false_iff_not, toNat_cast] at *); omega)), congrArg (AV.own 20) (by show _ = (out ++ [alrD (recC r)]).length; rw [List.length_append]; rfl), trivial⟩ ⟨rfl, congrArg (fun y => some (Chunk.arr eT y)) (by rw [List.take_length]; show out ++ [((4 : Int), IntKind.i64.wrap ((((recC r).getD 1 0).toNat : Nat) : Int), [], [], ())] = _; rw [wrapB]; rfl), trivial⟩⟩
                · refine (Tri.skip ?_)
                  have k : recK r = 21 := (by have := of_decide_eq_true h6; omega); have eM := rec_21 (h := h) (s := s) (out := out) q5 bb q6 k; rw [if_neg (by have := of_decide_eq_false h7; omega)] at eM
                  exact ⟨(recR r, h, s, out), ⟨by show out.length + h.length + (recR r).length ≤ _; omega, eM.symm.trans hi2⟩, hrl, Le.weak rfl rfl rfl rfl ⟨(by first | rfl | exact iv1 (by (try simp only [decide_eq_true_eq, decide_eq_false_iff_not, toNat_cast] at *); omega)), (by first | rfl | exact iv1 (by (try simp only [decide_eq_true_eq, decide_eq_false_iff_not, toNat_cast] at *); omega)), trivial⟩ ⟨rfl, rfl, trivial⟩⟩
              · refine Tri.seq (Tri.reg hT ?_)
                refine (Tri.cond ⟨fun h8 => ?_, fun h8 => ?_⟩)
                · refine (Tri.reg hT ?_)
                  refine ⟨(Nat.le_refl _), by show _ ≤ _ ∧ (_ + 1) * 56 ≤ _ ∧ _ + 1 ≤ _; omega, ?_⟩
                  have k : recK r = 23 := (by have := of_decide_eq_true h8; omega); have eM := rec_23 (h := h) (s := s) (out := out) q5 bb q6 k
                  exact ⟨(recR r, h, s, out ++ [datD (recL r)]), ⟨by show (out ++ [datD (recL r)]).length + h.length + (recR r).length ≤ _; rw [List.length_append]; show out.length + 1 + h.length + (recR r).length ≤ _; omega, eM.symm.trans hi2⟩, hrl, Le.weak rfl rfl rfl rfl ⟨(by first | rfl | exact iv1 (by (try simp only [decide_eq_true_eq, decide_eq_false_iff_not, toNat_cast] at *); omega)), congrArg (AV.own 20) (by show _ = (out ++ [datD (recL r)]).length; rw [List.length_append]; rfl), trivial⟩ ⟨rfl, congrArg (fun y => some (Chunk.arr eT y)) (by rw [List.take_length]; rfl), trivial⟩⟩
                · refine Tri.seq (Tri.reg hT ?_)
                  refine (Tri.cond ⟨fun h9 => ?_, fun h9 => ?_⟩)
                  · refine Tri.seq ?_
                    refine Tri.seq (Tri.reg hT ?_)
                    refine (Tri.cond ⟨fun h10 => ?_, fun h10 => ?_⟩)
                    · refine Tri.exit ?_
                      have k : recK r = 22 := (by have := of_decide_eq_true h9; omega); have hs : s = true := h10; have eM := rec_22s (h := h) (s := s) (out := out) q5 bb q6 k hs
                      exact ⟨(recR r, h, s, out), ⟨by show out.length + h.length + (recR r).length ≤ _; omega, eM.symm.trans hi2⟩, hrl, Le.weak rfl rfl rfl rfl ⟨(by first | rfl | exact iv1 (by (try simp only [decide_eq_true_eq, decide_eq_false_iff_not, toNat_cast] at *); omega)), (by first | rfl | exact iv1 (by (try simp only [decide_eq_true_eq, decide_eq_false_iff_not, toNat_cast] at *); omega)), trivial⟩ ⟨rfl, rfl, trivial⟩⟩
                    · refine (Tri.skip ?_)
                      have k : recK r = 22 := (by have := of_decide_eq_true h9; omega); have hs : ¬ s = true := (by rw [show s = false from h10]; decide); have hmc := msgA_cnt (h ++ recC r) []; rw [List.length_append, hcl] at hmc; simp only [List.length_nil, Nat.zero_add] at hmc
                      refine Tri.seq (Tri.reg hT ?_)
                      refine ⟨by omega, ?_⟩
                      refine Tri.seq (Tri.reg hT ?_)
                      refine .inl (.inr (.inl ⟨_, _, (by exact ⟨rfl, trivial⟩), f29_spec (recR r) (h ++ recC r) s (by rw [List.length_append]; omega) _, (by rfl), ?_⟩))
                      refine ⟨by show _ ≤ _ ∧ (_ + (msgA (h ++ recC r) []).2.1.length) * 56 ≤ _ ∧ _ + (msgA (h ++ recC r) []).2.1.length ≤ _; omega, ?_⟩
                      refine Tri.seq (Tri.reg hT ?_)
                      refine (Tri.cond ⟨fun h11 => ?_, fun h11 => ?_⟩)
                      · refine Tri.exit ?_
                        refine Tri.seq (Tri.reg hT ?_)
                        have hd : (msgA (h ++ recC r) []).2.2 = true := h11; rw [← hi2, rec_22d q5 bb q6 k hs hd]; refine Tri.le _ (Le.freeze 4 20 (out.length + (msgA (h ++ recC r) []).2.1.length) rfl rfl (by rw [List.take_length, List.length_append]; exact Nat.le_refl _)) ?_
                        refine Tri.ret ?_
                        exact ⟨congrArg (AV.list eT) (by rw [List.take_length]; exact List.take_of_length_le (by rw [List.length_append]; exact Nat.le_refl _)), congrArg (fun b => some (Chunk.box [.str (recR r), .str (msgA (h ++ recC r) []).1, .bool s, .bool b])) hd, trivial⟩
                      · refine (Tri.skip ?_)
                        have hd : ¬ (msgA (h ++ recC r) []).2.2 = true := (by rw [show (msgA (h ++ recC r) []).2.2 = false from h11]; decide); have hmc3 := hmc.2.2 h11; have eM := rec_22 (h := h) (s := s) (out := out) q5 bb q6 k hs hd
                        exact ⟨(recR r, (msgA (h ++ recC r) []).1, s, out ++ (msgA (h ++ recC r) []).2.1), ⟨by show (out ++ (msgA (h ++ recC r) []).2.1).length + (msgA (h ++ recC r) []).1.length + (recR r).length ≤ _; rw [List.length_append]; omega, eM.symm.trans hi2⟩, hrl, Le.weak rfl rfl rfl rfl ⟨(by first | rfl | exact iv1 (by (try simp only [decide_eq_true_eq, decide_eq_false_iff_not, toNat_cast] at *); omega)), congrArg (AV.own 20) (by rw [List.length_append]), trivial⟩ ⟨congrArg (fun b => some (Chunk.box [.str (recR r), .str (msgA (h ++ recC r) []).1, .bool s, .bool b])) h11, congrArg (fun y => some (Chunk.arr eT y)) (by rw [List.take_length]), trivial⟩⟩
                  · refine (Tri.skip ?_)
                    exfalso; have q1 := of_decide_eq_false h5; have q2 := of_decide_eq_false h6; have q3 := of_decide_eq_false h8; have q4 := of_decide_eq_false h9; omega
      · refine Tri.exit ?_
        refine Tri.seq (Tri.reg hT ?_)
        have q5 : r.length < 5 := (by have := of_decide_eq_false h2; change ¬ (r.length : Int) ≥ 5 at this; omega); rw [← hi2, rec_end q5]; refine Tri.le _ (Le.freeze 4 20 out.length rfl rfl (Nat.le_refl _)) ?_
        refine Tri.ret ?_
        exact ⟨congrArg (AV.list eT) List.take_length, rfl, trivial⟩
end Go.Proofs.Ytgbmbihajkjbmaa.Fx
