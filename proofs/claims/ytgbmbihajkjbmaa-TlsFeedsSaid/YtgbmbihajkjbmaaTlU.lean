import Derived.Test.YtgbmbihajkjbmaaTlT
set_option linter.all false
/- Contracts of chapter 32: the reference's hellos and chains. -/
namespace Go.Proofs.Ytgbmbihajkjbmaa.Fx
open Go Go.Fw Go.Ov Go.Tl Go.Shelf
theorem odd_eq {n : Nat} : decide ((n : Int).tmod 2 = 1) = decide (n % 2 = 1) := by
  have : (n : Int).tmod 2 = ((n % 2 : Nat) : Int) := (Int.ofNat_tmod n 2).symm
  rw [this, decide_eq_decide]; omega
set_option maxRecDepth 8000 in
set_option maxHeartbeats 800000 in
theorem f66_spec (b : List UInt8) (hb : b.length ≤ 1099511627776) : PSpec P [] 66 [.str b] (.tup [.agg (evC (cliZ b).1), .bool (cliZ b).2]) := by
  have l1 := (takeM_len 2 (b, false)).2.2
  have l2 := (takeM_len 32 (takeM 2 (b, false)).2).2.2
  have l3 := (listM_len 1 (takeM 32 (takeM 2 (b, false)).2).2).2
  have l4 := (listM_len 2 (helloR (b, false))).2
  have l5 := (listM_len 1 (listM 2 (helloR (b, false))).2).2
  have e3 : (helloR (b, false)).1.length = (listM 1 (takeM 32 (takeM 2 (b, false)).2).2).2.1.length := rfl
  have e5 : (cliR b).1.length = (listM 1 (listM 2 (helloR (b, false))).2).2.1.length := by unfold cliR; exact Eq.refl _
  change _ ≤ b.length at l1
  refine pspec_intro hT Try.func66 (by decide) rfl rfl (by kernel_rfl) rfl ?_
  refine Tri.seq (Tri.reg hT ?_)
  refine Tri.seq (Tri.reg hT ?_)
  refine Tri.seq (Tri.reg hT ?_)
  refine .inl (.inr (.inl ⟨_, _, (by exact ⟨rfl, trivial⟩), f74_spec (b, false) 2 hb (by decide) _, (by rfl), ?_⟩))
  refine Tri.seq (Tri.reg hT ?_)
  refine .inl (.inr (.inl ⟨_, _, (by exact ⟨rfl, trivial⟩), f74_spec (takeM 2 (b, false)).2 32 (by omega) (by decide) _, (by rfl), ?_⟩))
  refine Tri.seq (Tri.reg hT ?_)
  refine .inl (.inr (.inl ⟨_, _, (by exact ⟨rfl, trivial⟩), f75_spec (takeM 32 (takeM 2 (b, false)).2).2 1 (by omega) (by decide) (take_ok 32 (take_ok 2 (ok_false b))) _, (by rfl), ?_⟩))
  refine Tri.seq (Tri.reg hT ?_)
  refine .inl (.inr (.inl ⟨_, _, (by exact ⟨rfl, trivial⟩), f75_spec (helloR (b, false)) 2 (by omega) (by decide) (hello_ok b) _, (by rfl), ?_⟩))
  refine Tri.seq (Tri.reg hT ?_)
  refine .inl (.inr (.inl ⟨_, _, (by exact ⟨rfl, trivial⟩), f75_spec (listM 2 (helloR (b, false))).2 1 (by omega) (by decide) (list_ok 2 (hello_ok b)) _, (by rfl), ?_⟩))
  have eR : (listM 1 (listM 2 (helloR (b, false))).2).2 = cliR b := (by unfold cliR; exact Eq.refl _)
  refine Tri.le (⟨104, 0, 40, [(2, .loc 0 0), (4, .loc 4 0), (5, .str (takeM 2 (b, false)).1)], [(0, .box [.int .i64 0, .int .i64 0, .str [], .nils]), (4, .box (rdC (cliR b)))], []⟩) (Le.weak rfl rfl rfl rfl ⟨(by first | rfl | exact iv1 (by (try simp only [decide_eq_true_eq, decide_eq_false_iff_not, toNat_cast] at *); omega)), (by first | rfl | exact iv1 (by (try simp only [decide_eq_true_eq, decide_eq_false_iff_not, toNat_cast] at *); omega)), (by first | rfl | exact iv1 (by (try simp only [decide_eq_true_eq, decide_eq_false_iff_not, toNat_cast] at *); omega)), trivial⟩ ⟨rfl, congrArg (fun r => some (Chunk.box (rdC r))) eR, trivial⟩) ?_
  refine Tri.seq (Tri.reg hT ?_)
  refine .inl (.inr (.inl ⟨_, _, (by exact ⟨rfl, trivial⟩), f76_spec (cliR b) (by omega) (cliR_ok b) _, (by rfl), ?_⟩))
  refine Tri.seq ?_
  skip
  refine Tri.le (⟨104, 0, 60, [(2, .loc 0 0), (4, .loc 4 0), (5, .str (takeM 2 (b, false)).1), (6, .str (xrM (cliR b)).2.1), (7, .str (xrM (cliR b)).2.2.1), (8, .bool (xrM (cliR b)).2.2.2.1), (9, .bool (xrM (cliR b)).2.2.2.2)], [(0, .box [.int .i64 0, .int .i64 0, .str [], .nils]), (4, .box (rdC (xrM (cliR b)).1))], []⟩) (Le.weak rfl rfl rfl rfl ⟨(by first | rfl | exact iv1 (by (try simp only [decide_eq_true_eq, decide_eq_false_iff_not, toNat_cast] at *); omega)), (by first | rfl | exact iv1 (by (try simp only [decide_eq_true_eq, decide_eq_false_iff_not, toNat_cast] at *); omega)), (by first | rfl | exact iv1 (by (try simp only [decide_eq_true_eq, decide_eq_false_iff_not, toNat_cast] at *); omega)), (by first | rfl | exact iv1 (by (try simp only [decide_eq_true_eq, decide_eq_false_iff_not, toNat_cast] at *); omega)), (by first | rfl | exact iv1 (by (try simp only [decide_eq_true_eq, decide_eq_false_iff_not, toNat_cast] at *); omega)), (by first | rfl | exact iv1 (by (try simp only [decide_eq_true_eq, decide_eq_false_iff_not, toNat_cast] at *); omega)), (by first | rfl | exact iv1 (by (try simp only [decide_eq_true_eq, decide_eq_false_iff_not, toNat_cast] at *); omega)), trivial⟩ ⟨rfl, rfl, trivial⟩) ?_
  refine Tri.seq (Tri.reg hT ?_)
  refine (Tri.cond ⟨fun h1 => ?_, fun h1 => ?_⟩)
  · have eZ := cli_z1 h1; rw [eZ]
    refine Tri.seq (Tri.reg hT ?_)
    refine Tri.ret ?_
    exact ⟨rfl, trivial⟩
  · refine (Tri.skip ?_)
    have hg : (xrM (cliR b)).1.2 = false := h1; have hfl := cli_len hg; have hxl := xr_len (cliR b); generalize hX : (xrM (cliR b)).2 = X at *; obtain ⟨n, v, bn, bv⟩ := X; change n.length ≤ _ ∧ v.length ≤ _ at hxl
    refine Tri.le (⟨104, 0, 80, [(2, .loc 0 0), (5, .str (takeM 2 (b, false)).1), (6, .str n), (7, .str v), (8, .bool bn), (9, .bool bv)], [(0, .box [.int .i64 0, .int .i64 0, .str [], .nils])], []⟩) (Le.weak rfl rfl rfl rfl ⟨(by first | rfl | exact iv1 (by (try simp only [decide_eq_true_eq, decide_eq_false_iff_not, toNat_cast] at *); omega)), (by first | rfl | exact iv1 (by (try simp only [decide_eq_true_eq, decide_eq_false_iff_not, toNat_cast] at *); omega)), (by first | rfl | exact iv1 (by (try simp only [decide_eq_true_eq, decide_eq_false_iff_not, toNat_cast] at *); omega)), (by first | rfl | exact iv1 (by (try simp only [decide_eq_true_eq, decide_eq_false_iff_not, toNat_cast] at *); omega)), (by first | rfl | exact iv1 (by (try simp only [decide_eq_true_eq, decide_eq_false_iff_not, toNat_cast] at *); omega)), (by first | rfl | exact iv1 (by (try simp only [decide_eq_true_eq, decide_eq_false_iff_not, toNat_cast] at *); omega)), trivial⟩ ⟨rfl, trivial⟩) ?_
    refine Tri.seq (Tri.reg hT ?_)
    refine .inl (.inl ⟨_, fun _ => rfl, f30_spec (takeM 2 (b, false)).1 0 2 (takeM 2 (b, false)).1 (by decide) (by omega) (by omega) (by rw [List.drop_zero, List.take_of_length_le (by omega)]), ?_⟩)
    refine Tri.join ((bn = true → nameOk n = true)) (⟨104, 0, 120, [(2, .loc 0 0), (7, .str v), (9, .bool bv), (10, .loc 83 0)], [(0, .box [.int .i64 0, .int .i64 0, .str [], .nils]), (83, .box [.int .i64 1, .int .i64 (verM b), .str (if bn = true then nameV n else []), .nils])], []⟩) ?_ fun hp2 => ?_
    · refine Tri.seq (Tri.reg hT ?_)
      refine (Tri.cond ⟨fun h2 => ?_, fun h2 => ?_⟩)
      · refine Tri.seq (Tri.reg hT ?_)
        refine .inl (.inl ⟨_, fun _ => rfl, f77_spec n (by omega), ?_⟩)
        refine Tri.seq ?_
        refine Tri.seq (Tri.reg hT ?_)
        refine (Tri.cond ⟨fun h3 => ?_, fun h3 => ?_⟩)
        · have hbn : bn = true := h2; have hok : nameOk n = false := (by simpa using h3); have eZ := cli_z2 hg (by rw [hX]; unfold cliB; rw [hbn, hok]; rfl); rw [eZ]
          refine Tri.seq (Tri.reg hT ?_)
          refine Tri.ret ?_
          exact ⟨rfl, trivial⟩
        · refine (Tri.skip ?_)
          refine (Tri.reg hT ?_)
          have hbn : bn = true := h2; have hok : nameOk n = true := (by simpa using h3)
          exact ⟨(fun _ => hok), Le.weak rfl rfl rfl rfl ⟨(by first | rfl | exact iv1 (by (try simp only [decide_eq_true_eq, decide_eq_false_iff_not, toNat_cast] at *); omega)), (by first | rfl | exact iv1 (by (try simp only [decide_eq_true_eq, decide_eq_false_iff_not, toNat_cast] at *); omega)), (by first | rfl | exact iv1 (by (try simp only [decide_eq_true_eq, decide_eq_false_iff_not, toNat_cast] at *); omega)), (by first | rfl | exact iv1 (by (try simp only [decide_eq_true_eq, decide_eq_false_iff_not, toNat_cast] at *); omega)), trivial⟩ ⟨rfl, congrArg (fun x => some (Chunk.box [.int .i64 1, .int .i64 (verM b), .str x, .nils])) (by rw [hbn, if_pos hok, if_pos rfl]), trivial⟩⟩
      · refine (Tri.skip ?_)
        have hbn : bn = false := h2
        exact ⟨(fun q => absurd (hbn.symm.trans q) Bool.false_ne_true), Le.weak rfl rfl rfl rfl ⟨(by first | rfl | exact iv1 (by (try simp only [decide_eq_true_eq, decide_eq_false_iff_not, toNat_cast] at *); omega)), (by first | rfl | exact iv1 (by (try simp only [decide_eq_true_eq, decide_eq_false_iff_not, toNat_cast] at *); omega)), (by first | rfl | exact iv1 (by (try simp only [decide_eq_true_eq, decide_eq_false_iff_not, toNat_cast] at *); omega)), (by first | rfl | exact iv1 (by (try simp only [decide_eq_true_eq, decide_eq_false_iff_not, toNat_cast] at *); omega)), trivial⟩ ⟨rfl, congrArg (fun x => some (Chunk.box [.int .i64 1, .int .i64 (verM b), .str x, .nils])) (by rw [hbn]; rfl), trivial⟩⟩
    · refine Tri.join ((bv = true → versOk v = true)) (⟨104, 0, 200, [(2, .loc 0 0), (10, .loc 83 0)], [(0, .box [.int .i64 0, .int .i64 0, .str [], .nils]), (83, .box [.int .i64 1, .int .i64 (if bv = true then versV v (verM b) else verM b), .str (if bn = true then nameV n else []), .nils])], []⟩) ?_ fun hp4 => ?_
      · refine Tri.seq (Tri.reg hT ?_)
        refine (Tri.cond ⟨fun h4 => ?_, fun h4 => ?_⟩)
        · refine Tri.seq (Tri.reg hT ?_)
          refine Tri.seq (Tri.reg hT ?_)
          refine .inl (.inr (.inl ⟨_, _, (by exact ⟨rfl, trivial⟩), f75_spec (v, false) 1 (by show v.length ≤ _; omega) (by decide) (ok_false v) _, (by rfl), ?_⟩))
          refine Tri.seq ?_
          refine Tri.seq (Tri.reg hT ?_)
          refine ⟨_, [], trivial, rfl, rfl, fun h => ⟨rfl, rfl, rfl⟩, ?_⟩
          refine ⟨_, [], trivial, rfl, rfl, fun h => ⟨h, rfl, rfl, rfl⟩, ?_⟩
          refine ⟨_, [], trivial, rfl, rfl, fun h => ⟨h, rfl, rfl, rfl⟩, ?_⟩
          refine ⟨_, [], trivial, rfl, rfl, fun h => ⟨h, rfl, rfl, rfl⟩, ?_⟩
          refine ⟨_, [], trivial, rfl, rfl, fun h => ⟨h, rfl, rfl, rfl⟩, ?_⟩
          refine ⟨⟨fun _ => trivial, fun hc => (gn hc)⟩, ?_⟩
          refine ⟨_, [], trivial, rfl, rfl, fun h => ⟨rfl, rfl, rfl⟩, ?_⟩
          refine ⟨_, [], trivial, rfl, rfl, fun h => ⟨h, rfl, rfl, rfl⟩, ?_⟩
          refine ⟨_, [], trivial, rfl, rfl, fun h => ⟨h, (by decide), rfl, rfl, rfl⟩, ?_⟩
          refine ⟨_, [], trivial, rfl, rfl, fun h => ⟨h, rfl, rfl, rfl⟩, ?_⟩
          refine ⟨⟨fun _ => trivial, fun hc => (gn hc)⟩, ?_⟩
          refine (Tri.cond ⟨fun h5 => ?_, fun h5 => ?_⟩)
          · have hbv : bv = true := h4; have hok : versOk v = false := (by rw [ifo, ifo] at h5; rcases Bool.or_eq_true_iff.1 h5 with q | q; unfold versOk; rw [show (allM 1 (v, false)).2.2 = true from q]; rfl; exact vers_odd (by rw [odd_eq] at q; exact of_decide_eq_true q)); have eZ := cli_z2 hg (by rw [hX]; unfold cliB; rw [hbv, hok]; exact Bool.or_true _); rw [eZ]
            refine Tri.seq (Tri.reg hT ?_)
            refine Tri.ret ?_
            exact ⟨rfl, trivial⟩
          · refine (Tri.skip ?_)
            have hbv : bv = true := h4; have hvo : (allM 1 (v, false)).2.2 = false := (by rw [ifo, ifo] at h5; exact (Bool.or_eq_false_iff.1 h5).1); have hev : (listM 1 (v, false)).1.length % 2 = 0 := (by rw [ifo, ifo] at h5; have q := (Bool.or_eq_false_iff.1 h5).2; rw [odd_eq] at q; have := of_decide_eq_false q; omega); have hLl := (listM_len 1 (v, false)).1; change _ ≤ v.length at hLl; generalize hL : (listM 1 (v, false)).1 = L at *
            refine Tri.le (⟨104, 0, 140, [(2, .loc 0 0), (10, .loc 83 0), (14, .str L)], [(0, .box [.int .i64 0, .int .i64 0, .str [], .nils]), (83, .box [.int .i64 1, .int .i64 (verM b), .str (if bn = true then nameV n else []), .nils])], []⟩) (Le.weak rfl rfl rfl rfl ⟨(by first | rfl | exact iv1 (by (try simp only [decide_eq_true_eq, decide_eq_false_iff_not, toNat_cast] at *); omega)), (by first | rfl | exact iv1 (by (try simp only [decide_eq_true_eq, decide_eq_false_iff_not, toNat_cast] at *); omega)), (by first | rfl | exact iv1 (by (try simp only [decide_eq_true_eq, decide_eq_false_iff_not, toNat_cast] at *); omega)), trivial⟩ ⟨rfl, rfl, trivial⟩) ?_
            refine Tri.seq (Tri.reg hT ?_)
            refine Tri.seq ?_
            refine Tri.seq (Tri.reg hT ?_)
            refine (Tri.block ?_)
            refine (Tri.loop (ι := Nat × Nat) (fun x => ⟨104, 0, 160, [(2, .loc 0 0), (10, .loc 83 0), (14, .str L), (15, .int .i64 (x.2 : Int)), (16, .int .i64 (x.1 : Int))], [(0, .box [.int .i64 0, .int .i64 0, .str [], .nils]), (83, .box [.int .i64 1, .int .i64 (verM b), .str (if bn = true then nameV n else []), .nils])], []⟩) (fun x => x.1 ≤ L.length ∧ x.1 % 2 = 0 ∧ versI ((L.drop x.1, false), x.2) = versN v) (fun x => L.length - x.1) ((0, 0)) ?_ ?_ ?_)
            · exact ⟨Nat.zero_le _, rfl, by unfold versN; rw [← hL]; rfl⟩
            · exact Le.weak rfl rfl rfl rfl ⟨(by first | rfl | exact iv1 (by (try simp only [decide_eq_true_eq, decide_eq_false_iff_not, toNat_cast] at *); omega)), (by first | rfl | exact iv1 (by (try simp only [decide_eq_true_eq, decide_eq_false_iff_not, toNat_cast] at *); omega)), (by first | rfl | exact iv1 (by (try simp only [decide_eq_true_eq, decide_eq_false_iff_not, toNat_cast] at *); omega)), (by first | rfl | exact iv1 (by (try simp only [decide_eq_true_eq, decide_eq_false_iff_not, toNat_cast] at *); omega)), (by first | rfl | exact iv1 (by (try simp only [decide_eq_true_eq, decide_eq_false_iff_not, toNat_cast] at *); omega)), trivial⟩ ⟨rfl, rfl, trivial⟩
            · intro ⟨i, g⟩ hi; obtain ⟨hi1, hi0, hi2⟩ := hi; change i ≤ L.length at hi1; change i % 2 = 0 at hi0; change versI ((L.drop i, false), g) = _ at hi2
              refine Tri.seq ?_
              refine Tri.seq (Tri.reg hT ?_)
              refine (Tri.cond ⟨fun h6 => ?_, fun h6 => ?_⟩)
              · refine (Tri.skip ?_)
                refine Tri.seq (Tri.block ?_)
                have hlt : i < L.length := (by have := of_decide_eq_true h6; omega); have hlt2 : i + 2 ≤ L.length := (by omega); have w2 : IntKind.i64.wrap ((i : Int) + 2) = ((i + 2 : Nat) : Int) := (by rw [wrapId (by omega)]; omega); have hst := vers_at (g := g) hlt2; have hgo := vers_more (g := g) hlt2
                refine Tri.seq (Tri.reg hT ?_)
                refine .inl (.inl ⟨_, fun _ => rfl, f30_spec L i 2 ((L.drop i).take 2) (by decide) hlt2 (by omega) rfl, ?_⟩)
                refine Tri.seq (Tri.reg hT ?_)
                refine ⟨_, [], trivial, rfl, rfl, fun h => ⟨rfl, rfl, rfl⟩, ?_⟩
                refine ⟨_, [], trivial, rfl, rfl, fun h => ⟨h, rfl, rfl, rfl⟩, ?_⟩
                refine ⟨⟨fun hc => hc, fun _ => trivial⟩, ?_⟩
                refine (Tri.cond ⟨fun h7 => ?_, fun h7 => ?_⟩)
                · refine (Tri.reg hT ?_)
                  refine (Tri.reg hT ?_)
                  have hc : 768 ≤ numB ((L.drop i).take 2) ∧ numB ((L.drop i).take 2) ≤ 772 := (by rw [ifb] at h7; have := Bool.and_eq_true_iff.1 h7; have k1 := of_decide_eq_true this.1; have k2 := of_decide_eq_true this.2; omega); rw [if_pos hc] at hst; rw [hst] at hgo
                  exact ⟨(i + 2, max g (numB ((L.drop i).take 2))), ⟨hlt2, by show (i + 2) % 2 = 0; omega, hgo.trans hi2⟩, (by show L.length - (i + 2) < L.length - i; omega), Le.weak rfl rfl rfl rfl ⟨(by first | rfl | exact iv1 (by (try simp only [decide_eq_true_eq, decide_eq_false_iff_not, toNat_cast] at *); omega)), (by first | rfl | exact iv1 (by (try simp only [decide_eq_true_eq, decide_eq_false_iff_not, toNat_cast] at *); omega)), (by first | rfl | exact iv1 (by (try simp only [decide_eq_true_eq, decide_eq_false_iff_not, toNat_cast] at *); omega)), congrArg (AV.int .i64) (by show max (g : Int) (numB ((L.drop i).take 2) : Int) = _; omega), congrArg (AV.int .i64) w2, trivial⟩ ⟨rfl, rfl, trivial⟩⟩
                · refine (Tri.skip ?_)
                  refine (Tri.reg hT ?_)
                  have hc : ¬ (768 ≤ numB ((L.drop i).take 2) ∧ numB ((L.drop i).take 2) ≤ 772) := (by rw [ifb] at h7; intro k; rw [decide_eq_true (by omega), decide_eq_true (by omega)] at h7; cases h7); rw [if_neg hc] at hst; rw [hst] at hgo
                  exact ⟨(i + 2, g), ⟨hlt2, by show (i + 2) % 2 = 0; omega, hgo.trans hi2⟩, (by show L.length - (i + 2) < L.length - i; omega), Le.weak rfl rfl rfl rfl ⟨(by first | rfl | exact iv1 (by (try simp only [decide_eq_true_eq, decide_eq_false_iff_not, toNat_cast] at *); omega)), (by first | rfl | exact iv1 (by (try simp only [decide_eq_true_eq, decide_eq_false_iff_not, toNat_cast] at *); omega)), (by first | rfl | exact iv1 (by (try simp only [decide_eq_true_eq, decide_eq_false_iff_not, toNat_cast] at *); omega)), (by first | rfl | exact iv1 (by (try simp only [decide_eq_true_eq, decide_eq_false_iff_not, toNat_cast] at *); omega)), congrArg (AV.int .i64) w2, trivial⟩ ⟨rfl, rfl, trivial⟩⟩
              · refine Tri.exit ?_
                have hge : L.length ≤ i := (by have := of_decide_eq_false h6; omega); have eN : versN v = (([], false), g) := hi2.symm.trans (vers_end hge); have hok : versOk v = true := (by exact vers_good eN hvo); have eV : versV v (verM b) = if g > 0 then (g : Int) else verM b := (by unfold versV; rw [eN])
                refine Tri.seq (Tri.reg hT ?_)
                refine (Tri.cond ⟨fun h8 => ?_, fun h8 => ?_⟩)
                · refine (Tri.reg hT ?_)
                  skip
                  exact ⟨(fun _ => hok), Le.weak rfl rfl rfl rfl ⟨(by first | rfl | exact iv1 (by (try simp only [decide_eq_true_eq, decide_eq_false_iff_not, toNat_cast] at *); omega)), (by first | rfl | exact iv1 (by (try simp only [decide_eq_true_eq, decide_eq_false_iff_not, toNat_cast] at *); omega)), trivial⟩ ⟨rfl, congrArg (fun y => some (Chunk.box [.int .i64 1, .int .i64 y, .str (if bn = true then nameV n else []), .nils])) (by rw [if_pos hbv, eV, if_pos (by have := of_decide_eq_true h8; omega)]), trivial⟩⟩
                · refine (Tri.skip ?_)
                  skip
                  exact ⟨(fun _ => hok), Le.weak rfl rfl rfl rfl ⟨(by first | rfl | exact iv1 (by (try simp only [decide_eq_true_eq, decide_eq_false_iff_not, toNat_cast] at *); omega)), (by first | rfl | exact iv1 (by (try simp only [decide_eq_true_eq, decide_eq_false_iff_not, toNat_cast] at *); omega)), trivial⟩ ⟨rfl, congrArg (fun y => some (Chunk.box [.int .i64 1, .int .i64 y, .str (if bn = true then nameV n else []), .nils])) (by rw [if_pos hbv, eV, if_neg (by have := of_decide_eq_false h8; omega)]), trivial⟩⟩
        · refine (Tri.skip ?_)
          have hbv : bv = false := h4
          exact ⟨(fun q => absurd (hbv.symm.trans q) Bool.false_ne_true), Le.weak rfl rfl rfl rfl ⟨(by first | rfl | exact iv1 (by (try simp only [decide_eq_true_eq, decide_eq_false_iff_not, toNat_cast] at *); omega)), (by first | rfl | exact iv1 (by (try simp only [decide_eq_true_eq, decide_eq_false_iff_not, toNat_cast] at *); omega)), trivial⟩ ⟨rfl, congrArg (fun y => some (Chunk.box [.int .i64 1, .int .i64 y, .str (if bn = true then nameV n else []), .nils])) (by rw [hbv]; rfl), trivial⟩⟩
      · have eZ := cli_z3 hg (by rw [hX]; unfold cliB; cases bn <;> cases bv <;> simp_all); rw [hX] at eZ; rw [eZ]
        refine Tri.seq (Tri.reg hT ?_)
        refine Tri.ret ?_
        exact ⟨rfl, trivial⟩
set_option maxRecDepth 8000 in
set_option maxHeartbeats 800000 in
theorem f67_spec (b : List UInt8) (hb : b.length ≤ 1099511627776) : PSpec P [] 67 [.str b] (.tup [.agg (evC (srvZ b).1), .bool (srvZ b).2]) := by
  have l1 := (takeM_len 2 (b, false)).2.2
  have l2 := (takeM_len 32 (takeM 2 (b, false)).2).2.2
  have l3 := (listM_len 1 (takeM 32 (takeM 2 (b, false)).2).2).2
  have l4 := (takeM_len 3 (helloR (b, false))).2.2
  have e3 : (helloR (b, false)).1.length = (listM 1 (takeM 32 (takeM 2 (b, false)).2).2).2.1.length := rfl
  have e5 : (srvR b).1.length = (takeM 3 (helloR (b, false))).2.1.length := by unfold srvR; exact Eq.refl _
  change _ ≤ b.length at l1
  refine pspec_intro hT Try.func67 (by decide) rfl rfl (by kernel_rfl) rfl ?_
  refine Tri.seq (Tri.reg hT ?_)
  refine Tri.seq (Tri.reg hT ?_)
  refine Tri.seq (Tri.reg hT ?_)
  refine .inl (.inr (.inl ⟨_, _, (by exact ⟨rfl, trivial⟩), f74_spec (b, false) 2 hb (by decide) _, (by rfl), ?_⟩))
  refine Tri.seq (Tri.reg hT ?_)
  refine .inl (.inr (.inl ⟨_, _, (by exact ⟨rfl, trivial⟩), f74_spec (takeM 2 (b, false)).2 32 (by omega) (by decide) _, (by rfl), ?_⟩))
  refine Tri.seq (Tri.reg hT ?_)
  refine .inl (.inr (.inl ⟨_, _, (by exact ⟨rfl, trivial⟩), f75_spec (takeM 32 (takeM 2 (b, false)).2).2 1 (by omega) (by decide) (take_ok 32 (take_ok 2 (ok_false b))) _, (by rfl), ?_⟩))
  refine Tri.seq (Tri.reg hT ?_)
  refine .inl (.inr (.inl ⟨_, _, (by exact ⟨rfl, trivial⟩), f74_spec (helloR (b, false)) 3 (by omega) (by decide) _, (by rfl), ?_⟩))
  refine Tri.seq (Tri.reg hT ?_)
  refine .inl (.inr (.inl ⟨_, _, (by exact ⟨rfl, trivial⟩), f76_spec (srvR b) (by omega) (srvR_ok b) _, (by rfl), ?_⟩))
  refine Tri.seq ?_
  skip
  refine Tri.le (⟨46, 0, 60, [(2, .loc 0 0), (4, .loc 4 0), (5, .str (takeM 2 (b, false)).1), (7, .str (xrM (srvR b)).2.2.1), (9, .bool (xrM (srvR b)).2.2.2.2)], [(0, .box [.int .i64 0, .int .i64 0, .str [], .nils]), (4, .box (rdC (xrM (srvR b)).1))], []⟩) (Le.weak rfl rfl rfl rfl ⟨(by first | rfl | exact iv1 (by (try simp only [decide_eq_true_eq, decide_eq_false_iff_not, toNat_cast] at *); omega)), (by first | rfl | exact iv1 (by (try simp only [decide_eq_true_eq, decide_eq_false_iff_not, toNat_cast] at *); omega)), (by first | rfl | exact iv1 (by (try simp only [decide_eq_true_eq, decide_eq_false_iff_not, toNat_cast] at *); omega)), (by first | rfl | exact iv1 (by (try simp only [decide_eq_true_eq, decide_eq_false_iff_not, toNat_cast] at *); omega)), (by first | rfl | exact iv1 (by (try simp only [decide_eq_true_eq, decide_eq_false_iff_not, toNat_cast] at *); omega)), trivial⟩ ⟨rfl, rfl, trivial⟩) ?_
  refine Tri.seq (Tri.reg hT ?_)
  refine ⟨_, [], trivial, rfl, rfl, fun h => ⟨rfl, rfl, rfl⟩, ?_⟩
  refine ⟨_, [], trivial, rfl, rfl, fun h => ⟨h, rfl, rfl, rfl⟩, ?_⟩
  refine ⟨_, [], trivial, rfl, rfl, fun h => ⟨rfl, rfl, rfl⟩, ?_⟩
  refine ⟨_, [], trivial, rfl, rfl, fun h => ⟨h, rfl, rfl, rfl⟩, ?_⟩
  refine ⟨_, [], trivial, rfl, rfl, fun h => ⟨h, rfl, rfl, rfl⟩, ?_⟩
  refine ⟨_, [], trivial, rfl, rfl, fun h => ⟨h, ⟨fun hc => ga h hc, fun _ => trivial⟩, rfl, rfl, rfl⟩, ?_⟩
  refine ⟨⟨fun _ => trivial, fun hc => (gn hc)⟩, ?_⟩
  refine (Tri.cond ⟨fun h1 => ?_, fun h1 => ?_⟩)
  · have eZ : srvZ b = ((0, 0, []), false) := (by cases q : (xrM (srvR b)).1.2 with | true => exact srv_z1 q | false => exact srv_z2 q (by rw [ifo, ifb] at h1; have q1 := h1; rw [q, Bool.false_or] at q1; have q2 := Bool.and_eq_true_iff.1 q1; unfold srvB srvOk; rw [q2.1, Bool.true_and]; have := of_decide_eq_true q2.2; rw [show decide ((xrM (srvR b)).2.2.1.length = 2) = false from decide_eq_false (by omega)]; rfl)); rw [eZ]
    refine Tri.seq (Tri.reg hT ?_)
    refine Tri.ret ?_
    exact ⟨rfl, trivial⟩
  · refine (Tri.skip ?_)
    have hq : (xrM (srvR b)).1.2 = false ∧ srvB (xrM (srvR b)).2 = false := (by rw [ifo, ifb] at h1; have q := Bool.or_eq_false_iff.1 h1; refine ⟨q.1, ?_⟩; unfold srvB srvOk; have q2 := q.2; cases p : (xrM (srvR b)).2.2.2.2 with | false => rfl | true => rw [p, Bool.true_and] at q2; have q3 := of_decide_eq_false q2; rw [Bool.true_and, decide_eq_true (by omega)]; rfl); obtain ⟨eZ, eL⟩ := srv_z3 hq.1 hq.2
    refine Tri.join (True) (⟨46, 0, 100, [(2, .loc 0 0), (5, .str (srvF1 b))], [(0, .box [.int .i64 0, .int .i64 0, .str [], .nils])], []⟩) ?_ fun hp2 => ?_
    · refine Tri.seq (Tri.reg hT ?_)
      refine (Tri.cond ⟨fun h2 => ?_, fun h2 => ?_⟩)
      · refine (Tri.reg hT ?_)
        have hbv : (xrM (srvR b)).2.2.2.2 = true := h2
        exact ⟨trivial, Le.weak rfl rfl rfl rfl ⟨(by first | rfl | exact iv1 (by (try simp only [decide_eq_true_eq, decide_eq_false_iff_not, toNat_cast] at *); omega)), congrArg AV.str (by unfold srvF1; rw [if_pos hbv]), trivial⟩ ⟨rfl, trivial⟩⟩
      · refine (Tri.skip ?_)
        have hbv : (xrM (srvR b)).2.2.2.2 = false := h2
        exact ⟨trivial, Le.weak rfl rfl rfl rfl ⟨(by first | rfl | exact iv1 (by (try simp only [decide_eq_true_eq, decide_eq_false_iff_not, toNat_cast] at *); omega)), congrArg AV.str (by unfold srvF1; rw [if_neg (by rw [hbv]; decide)]), trivial⟩ ⟨rfl, trivial⟩⟩
    · rw [eZ]
      refine Tri.seq (Tri.reg hT ?_)
      refine .inl (.inl ⟨_, fun _ => rfl, f30_spec (srvF1 b) 0 2 ((srvF1 b).take 2) (by decide) (by omega) (by omega) (by rw [List.drop_zero]), ?_⟩)
      refine Tri.ret ?_
      exact ⟨rfl, trivial⟩
set_option maxRecDepth 8000 in
theorem f68_spec (b : List UInt8) (hb : b.length ≤ 1099511627776) : PSpec P [] 68 [.str b] (.tup [.agg [.int .i64 (chnE b).1, .int .i64 0, .str [], .list .str (chnE b).2], .bool (!(chnM (b, false)).1.2)]) := by
  have hal := allM_len 3 (b, false)
  refine pspec_intro hT Try.func68 (by decide) rfl rfl (by kernel_rfl) rfl ?_
  refine Tri.seq (Tri.reg hT ?_)
  refine Tri.seq (Tri.reg hT ?_)
  refine Tri.seq (Tri.reg hT ?_)
  refine .inl (.inr (.inl ⟨_, _, (by exact ⟨rfl, trivial⟩), f75_spec (b, false) 3 hb (by decide) (ok_false b) _, (by rfl), ?_⟩))
  refine Tri.seq ?_
  refine Tri.seq (Tri.reg hT ?_)
  refine ⟨_, [], trivial, rfl, rfl, fun h => ⟨rfl, rfl, rfl⟩, ?_⟩
  refine ⟨_, [], trivial, rfl, rfl, fun h => ⟨h, rfl, rfl, rfl⟩, ?_⟩
  refine ⟨_, [], trivial, rfl, rfl, fun h => ⟨h, rfl, rfl, rfl⟩, ?_⟩
  refine ⟨_, [], trivial, rfl, rfl, fun h => ⟨h, rfl, rfl, rfl⟩, ?_⟩
  refine ⟨_, [], trivial, rfl, rfl, fun h => ⟨h, rfl, rfl, rfl⟩, ?_⟩
  refine ⟨⟨fun _ => trivial, fun hc => (gn hc)⟩, ?_⟩
  refine (Tri.cond ⟨fun h1 => ?_, fun h1 => ?_⟩)
  · have eB : (chnM (b, false)).1.2 = true := (by rw [ifo] at h1; unfold chnM; rw [show (allM 3 (b, false)).2.2 = true from h1]; rfl); have eE : chnE b = (0, []) := if_pos eB; rw [eB, eE]
    refine Tri.seq (Tri.reg hT ?_)
    refine Tri.le ⟨53, 0, 400, [(2, .loc 0 0), (3, .bool false)], [(0, .box [.int .i64 0, .int .i64 0, .str [], .list .str []])], []⟩ (Le.weakV rfl rfl rfl rfl ⟨rfl, rfl, trivial⟩ ⟨⟨rfl, rfl, rfl, rfl, trivial⟩, trivial⟩) ?_
    refine Tri.ret ?_
    exact ⟨rfl, trivial⟩
  · refine (Tri.skip ?_)
    have hA : (allM 3 (b, false)).2.2 = false := (by rw [ifo] at h1; exact h1)
    refine Tri.le (⟨53, 0, 60, [(2, .loc 0 0), (5, .loc 9 0)], [(0, .box [.int .i64 0, .int .i64 0, .str [], .nils]), (9, .box (rdC (allM 3 (b, false)).1))], []⟩) (Le.weak rfl rfl rfl rfl ⟨(by first | rfl | exact iv1 (by (try simp only [decide_eq_true_eq, decide_eq_false_iff_not, toNat_cast] at *); omega)), (by first | rfl | exact iv1 (by (try simp only [decide_eq_true_eq, decide_eq_false_iff_not, toNat_cast] at *); omega)), trivial⟩ ⟨rfl, rfl, trivial⟩) ?_
    refine Tri.seq (Tri.reg hT ?_)
    refine Tri.seq (Tri.block ?_)
    refine (Tri.loop (ι := CSt) (fun s => ⟨53, 0, 80, [(2, .loc 0 0), (5, .loc 9 0), (6, .loc 61 0)], [(0, .box [.int .i64 0, .int .i64 0, .str [], .nils]), (9, .box (rdC s.1)), (61, .box [.int .i64 3, .int .i64 0, .str [], .own 63 s.2.length]), (63, .arr .str s.2)], []⟩) (fun s => s.1.1.length ≤ 1099511627776 ∧ s.1.2 = false ∧ s.2.length ≤ 6 ∧ chnI s = chnI ((allM 3 (b, false)).1, [])) (fun s => s.1.1.length) (((allM 3 (b, false)).1, [])) ?_ ?_ ?_)
    · exact ⟨Nat.le_trans hal.1 hb, rfl, Nat.zero_le _, rfl⟩
    · exact Le.trans ((Le.ownB 61 [.int .i64 3, .int .i64 0, .str []] [] .str rfl)) (Le.weak rfl rfl rfl rfl ⟨(by first | rfl | exact iv1 (by (try simp only [decide_eq_true_eq, decide_eq_false_iff_not, toNat_cast] at *); omega)), (by first | rfl | exact iv1 (by (try simp only [decide_eq_true_eq, decide_eq_false_iff_not, toNat_cast] at *); omega)), (by first | rfl | exact iv1 (by (try simp only [decide_eq_true_eq, decide_eq_false_iff_not, toNat_cast] at *); omega)), trivial⟩ ⟨rfl, rfl, rfl, rfl, trivial⟩)
    · intro ⟨l, L⟩ hi; obtain ⟨hl, hl2, hlen, hi2⟩ := hi; change l.1.length ≤ _ at hl; change l.2 = false at hl2; change L.length ≤ 6 at hlen; change chnI (l, L) = _ at hi2; have h2l := listM_len 3 l
      refine Tri.seq ?_
      refine Tri.seq (Tri.reg hT ?_)
      refine (Tri.cond ⟨fun h2 => ?_, fun h2 => ?_⟩)
      · refine (Tri.skip ?_)
        refine (Tri.block ?_)
        have hne : l.1 ≠ [] := of_decide_eq_true h2; have hmo : more l = true := (by unfold more; rw [decide_eq_true hne, hl2]; rfl); have hgo := chn_go (s := (l, L)) hmo; have hdec := chn_dec (l, L) hmo; have ho : Ok l := (fun q => by rw [hl2] at q; cases q)
        refine Tri.le (⟨53, 0, 120, [(2, .loc 0 0), (5, .loc 9 0), (6, .loc 61 0)], [(0, .box [.int .i64 0, .int .i64 0, .str [], .nils]), (9, .box (rdC l)), (61, .box [.int .i64 3, .int .i64 0, .str [], .own 63 L.length]), (63, .arr .str L)], []⟩) (Le.weak rfl rfl rfl rfl ⟨(by first | rfl | exact iv1 (by (try simp only [decide_eq_true_eq, decide_eq_false_iff_not, toNat_cast] at *); omega)), (by first | rfl | exact iv1 (by (try simp only [decide_eq_true_eq, decide_eq_false_iff_not, toNat_cast] at *); omega)), (by first | rfl | exact iv1 (by (try simp only [decide_eq_true_eq, decide_eq_false_iff_not, toNat_cast] at *); omega)), trivial⟩ ⟨rfl, rfl, rfl, rfl, trivial⟩) ?_
        refine Tri.seq (Tri.reg hT ?_)
        refine .inl (.inr (.inl ⟨_, _, (by exact ⟨rfl, trivial⟩), f75_spec l 3 hl (by decide) ho _, (by rfl), ?_⟩))
        refine Tri.seq ?_
        refine Tri.seq (Tri.reg hT ?_)
        refine ⟨_, [], trivial, rfl, rfl, fun h => ⟨rfl, rfl, rfl⟩, ?_⟩
        refine ⟨_, [], trivial, rfl, rfl, fun h => ⟨h, rfl, rfl, rfl⟩, ?_⟩
        refine ⟨_, [], trivial, rfl, rfl, fun h => ⟨h, rfl, rfl, rfl⟩, ?_⟩
        refine ⟨_, [], trivial, rfl, rfl, fun h => ⟨h, rfl, rfl, rfl⟩, ?_⟩
        refine ⟨⟨fun _ => trivial, fun hc => (gn hc)⟩, ?_⟩
        refine (Tri.cond ⟨fun h3 => ?_, fun h3 => ?_⟩)
        · have eB : (chnM (b, false)).1.2 = true := (by rw [ifo] at h3; exact chn_bad hgo hi2 (by rcases Bool.or_eq_true_iff.1 h3 with q | q; exact .inl q; exact .inr (by have := of_decide_eq_true q; omega))); have eE : chnE b = (0, []) := if_pos eB; rw [eB, eE]
          refine Tri.seq (Tri.reg hT ?_)
          refine Tri.le ⟨53, 0, 400, [(2, .loc 0 0), (3, .bool false)], [(0, .box [.int .i64 0, .int .i64 0, .str [], .list .str []])], []⟩ (Le.weakV rfl rfl rfl rfl ⟨rfl, rfl, trivial⟩ ⟨⟨rfl, rfl, rfl, rfl, trivial⟩, trivial⟩) ?_
          refine Tri.ret ?_
          exact ⟨rfl, trivial⟩
        · refine (Tri.skip ?_)
          have hq : (listM 3 l).2.2 = false ∧ L.length < 6 := (by rw [ifo] at h3; have q := Bool.or_eq_false_iff.1 h3; refine ⟨q.1, ?_⟩; have := of_decide_eq_false q.2; omega)
          refine Tri.le (⟨53, 0, 160, [(2, .loc 0 0), (5, .loc 9 0), (6, .loc 61 0), (7, .str (listM 3 l).1)], [(0, .box [.int .i64 0, .int .i64 0, .str [], .nils]), (9, .box (rdC (listM 3 l).2)), (61, .box [.int .i64 3, .int .i64 0, .str [], .own 63 L.length]), (63, .arr .str L)], []⟩) (Le.weak rfl rfl rfl rfl ⟨(by first | rfl | exact iv1 (by (try simp only [decide_eq_true_eq, decide_eq_false_iff_not, toNat_cast] at *); omega)), (by first | rfl | exact iv1 (by (try simp only [decide_eq_true_eq, decide_eq_false_iff_not, toNat_cast] at *); omega)), (by first | rfl | exact iv1 (by (try simp only [decide_eq_true_eq, decide_eq_false_iff_not, toNat_cast] at *); omega)), (by first | rfl | exact iv1 (by (try simp only [decide_eq_true_eq, decide_eq_false_iff_not, toNat_cast] at *); omega)), trivial⟩ ⟨rfl, rfl, rfl, rfl, trivial⟩) ?_
          refine (Tri.reg hT ?_)
          refine ⟨(Nat.le_refl _), by show _ ≤ _ ∧ (_ + 1) * 16 ≤ _ ∧ _ + 1 ≤ _; omega, ?_⟩
          exact ⟨chnStep (l, L), ⟨Nat.le_trans h2l.2 hl, hq.1, by show (L ++ [(listM 3 l).1]).length ≤ 6; rw [List.length_append]; show L.length + 1 ≤ 6; omega, hgo.trans hi2⟩, hdec, Le.weak rfl rfl rfl rfl ⟨(by first | rfl | exact iv1 (by (try simp only [decide_eq_true_eq, decide_eq_false_iff_not, toNat_cast] at *); omega)), (by first | rfl | exact iv1 (by (try simp only [decide_eq_true_eq, decide_eq_false_iff_not, toNat_cast] at *); omega)), (by first | rfl | exact iv1 (by (try simp only [decide_eq_true_eq, decide_eq_false_iff_not, toNat_cast] at *); omega)), trivial⟩ ⟨rfl, rfl, congrArg (fun n => some (Chunk.box [.int .i64 3, .int .i64 0, .str [], .own 63 n])) (by show _ = (L ++ [(listM 3 l).1]).length; rw [List.length_append]; rfl), congrArg (fun x => some (Chunk.arr .str x)) (by rw [List.take_length]; rfl), trivial⟩⟩
      · refine Tri.exit ?_
        have hmo : more l = false := (by unfold more; rw [show decide (l.1 ≠ []) = false from h2]; rfl); have e0 : chnI ((allM 3 (b, false)).1, []) = (l, L) := hi2.symm.trans (chn_stop (s := (l, L)) hmo); have eM : chnM (b, false) = (((allM 3 (b, false)).2.1, or (or (allM 3 (b, false)).2.2 l.2) (decide (L.length > 6))), L) := (by unfold chnM; rw [e0]); have eB : (chnM (b, false)).1.2 = false := (by rw [eM]; show or (or _ l.2) _ = false; rw [hA, hl2, decide_eq_false (by omega)]; rfl); have eE : chnE b = (3, L) := (by unfold chnE; rw [if_neg (by rw [eB]; decide), eM]); rw [eB, eE]; refine Tri.le _ (Le.freezeB 61 63 L.length [.int .i64 3, .int .i64 0, .str []] [] rfl rfl (Nat.le_refl _) rfl) ?_
        refine Tri.seq (Tri.reg hT ?_)
        refine Tri.ret ?_
        exact ⟨congrArg (fun x => AV.tup [.agg [.int .i64 3, .int .i64 0, .str [], .list .str x], .bool true]) List.take_length, trivial⟩
end Go.Proofs.Ytgbmbihajkjbmaa.Fx
