import Derived.Test.YtchiagnggnblaaaDoorCnV
import Derived.Test.YtchiagnggnblaaaDoorCnT
set_option linter.all false
/- Chapter 21: the events of each direction follow one another (printed by genW.py). -/
namespace Go.Proofs.YtchiagnggnblaaaDoor.Ac
open Go Go.Fw Go.Ov Go.Proofs.YtchiagnggnblaaaDoor.Fx
theorem nodO : [9, 15, 16].Nodup := by decide
theorem opn_t {x : At4} {e : Evt} (h : decide (e.1 = 1) = true) : opnE x e = (0, 0, 0, 0) := if_pos (of_decide_eq_true h)
theorem opn_f {x : At4} {e : Evt} (h : decide (e.1 = 1) = false) : opnE x e = x := if_neg (of_decide_eq_false h)
theorem dir_rng {d : Int} (h : d = 1 ∨ d = 2) : 0 ≤ d ∧ d < (3 : Nat) := by omega
theorem at_get {x : At4} {d : Int} (h : d = 1 ∨ d = 2) (z : Int) : [0, x.1, x.2.1].getD (Int.toNat d) z = atE x d := by rcases h with rfl | rfl <;> rfl
theorem arr_add {x : At4} {d n : Int} (h : d = 1 ∨ d = 2) (z : Int) (hr : IntKind.i64.wrap (atE x d + n) = atE x d + n) : [0, x.1, x.2.1].set (Int.toNat d) (IntKind.i64.wrap ([0, x.1, x.2.1].getD (Int.toNat d) z + n)) = [0, (addAt x d n).1, (addAt x d n).2.1] := by
  rw [at_get h, hr]
  rcases h with rfl | rfl <;> rfl
theorem arr_en {x : At4} {d : Int} (h : d = 1 ∨ d = 2) (z : Int) (h1 : 0 ≤ x.2.2.1 ∧ x.2.2.1 ≤ 1000000000) (h2 : 0 ≤ x.2.2.2 ∧ x.2.2.2 ≤ 1000000000) : [0, x.2.2.1, x.2.2.2].set (Int.toNat d) (IntKind.i64.wrap ([0, x.2.2.1, x.2.2.2].getD (Int.toNat d) z + 1)) = [0, (addEn x d).2.2.1, (addEn x d).2.2.2] := by
  rcases h with rfl | rfl
  · show [0, IntKind.i64.wrap (x.2.2.1 + 1), x.2.2.2] = _
    rw [wrapId (by omega)]; rfl
  · show [0, x.2.2.1, IntKind.i64.wrap (x.2.2.2 + 1)] = _
    rw [wrapId (by omega)]; rfl
theorem dir_nat {d : Int} (h : d = 1 ∨ d = 2) : Int.toNat d < 3 := by omega
theorem chk1 {n st : Int} {x : At4} {e : Evt} (h : OkE n st x e) : ¬ (if (if (if (if decide (e.2.1 ≠ 1) = true then decide (e.2.1 ≠ 2) else false) = true then true else decide (e.1 < 1)) = true then true else decide (e.1 > 7)) = true then true
    else if decide (e.1 = 7) = true then (if (if decide (n ≠ 1) = true then true else decide (e.2.2.2.1 < 1)) = true then true else decide (e.2.2.2.1 > 9)) else false) = true := by
  have h1 := h.dir
  have h2 := h.kind
  have h3 := h.rej
  have n1 : ¬ e.1 < 1 := by omega
  have n2 : ¬ e.1 > 7 := by omega
  intro hh
  by_cases h7 : e.1 = 7
  · obtain ⟨q1, q2, q3⟩ := h3 h7
    rcases h1 with h1 | h1 <;> simp [h1, h7, q1] at hh <;> omega
  · rcases h1 with h1 | h1 <;> simp [h1, h7] at hh <;> omega
theorem chk2 {n st : Int} {x z0 : At4} {e : Evt} (h : OkE n st x e) (ho : e.1 ≠ 7 → e.2.2.1 = atE z0 e.2.1) : ¬ (if (if (if decide (e.1 ≠ 7) = true then decide (e.2.2.1 ≠ [0, z0.1, z0.2.1].getD e.2.1.toNat (Ty.dflt (.int .i64))) else false) = true then true
    else if decide ((if decide (e.1 = 6) = true then true else decide (e.1 = 3)) ≠ decide (e.2.2.2.1 > 0)) = true then decide (e.1 ≠ 7) else false) = true then true else decide (decide (e.1 = 2) ≠ decide (e.2.2.2.2.1 ≠ []))) = true := by
  rw [at_get h.dir]
  have hd : decide (e.1 = 2) = decide (e.2.2.2.2.1 ≠ []) := decide_eq_decide.2 h.dat
  rw [hd]
  intro hh
  by_cases h7 : e.1 = 7
  · simp [h7] at hh
  · have hc : (if decide (e.1 = 6) = true then true else decide (e.1 = 3)) = decide (e.2.2.2.1 > 0) := by
      rw [iteO, Bool.eq_iff_iff]
      simp only [Bool.or_eq_true, decide_eq_true_eq]
      exact h.cnt h7
    rw [hc, ho h7] at hh
    simp at hh
theorem lt13 : (1 : Nat) < 3 := by decide
theorem lt23 : (2 : Nat) < 3 := by decide
theorem chk3 {cst a b : Int} {y : At4} (h : a = y.1 ∧ b = y.2.1 ∧ y.2.2.1 ≤ 1 ∧ y.2.2.2 ≤ 1) : ¬ (if decide (cst ≥ 3) = true then (if (if (if decide (a ≠ y.1) = true then true else decide (b ≠ y.2.1)) = true then true else decide (y.2.2.1 > 1)) = true then true else decide (y.2.2.2 > 1)) else false) = true := by
  obtain ⟨q1, q2, q3, q4⟩ := h
  simp [q1, q2]
  omega
theorem chk4 {c : Cnn} {y : At4} (hr : Rng y) (h : OffEnd c y) : ¬ (if (if (if (if (if decide (c.st ≥ 3) = true then decide (c.st ≤ 5) else false) = true then decide (c.st ≠ IntKind.i64.wrap (IntKind.i64.wrap (3 + y.2.2.1) + y.2.2.2)) else false) = true then true else decide (c.st < 0)) = true then true else decide (c.st > 6)) = true then true
    else decide ((vwC c 1).1 ≠ if decide (c.st = 3) = true then true else decide (c.st = 4))) = true := by
  have h1 := hr.c
  have h2 := hr.d
  have w1 : IntKind.i64.wrap (3 + y.2.2.1) = 3 + y.2.2.1 := wrapId (by omega)
  have w2 : IntKind.i64.wrap (3 + y.2.2.1 + y.2.2.2) = 3 + y.2.2.1 + y.2.2.2 := wrapId (by omega)
  have h3 := h.sum
  have h4 := h.rng
  rw [w1, w2, h.view, iteO]
  simp
  omega
theorem addAt_en (x : At4) (d n : Int) : (addAt x d n).2.2 = x.2.2 := by unfold addAt; split <;> rfl
theorem addEn_at (x : At4) (d : Int) : (addEn x d).1 = x.1 ∧ (addEn x d).2.1 = x.2.1 := by unfold addEn; split <;> exact ⟨rfl, rfl⟩
theorem gap_en (e : Evt) (x : At4) : (gapE e x).2.2 = x.2.2 := by unfold gapE; split; exact addAt_en ..; rfl
theorem cls_at (e : Evt) (x : At4) : (clsE e x).1 = x.1 ∧ (clsE e x).2.1 = x.2.1 := by unfold clsE; split; exact addEn_at ..; exact ⟨rfl, rfl⟩
theorem rng_opn {x : At4} (h : Rng x) (e : Evt) : Rng (opnE x e) := by unfold opnE; split; exact ⟨by decide, by decide, by decide, by decide⟩; exact h
theorem at_rng {x : At4} (h : Rng x) (d : Int) : 0 ≤ atE x d ∧ atE x d ≤ 1000000000 := by unfold atE; split; exact h.a; exact h.b
theorem at_add {x : At4} {d n : Int} (hd : d = 1 ∨ d = 2) : atE (addAt x d n) d = atE x d + n := by rcases hd with rfl | rfl <;> rfl
set_option maxRecDepth 16000 in
theorem f4_spec (p g : Hf) (hp : p.isn = 0 ∧ p.high = 0 ∧ p.stamped = false ∧ p.stamp = 0) (hg : g.isn = 0 ∧ g.high = 0 ∧ g.stamped = false ∧ g.stamp = 0) (l : List Sg) (hl : l.length ≤ 140737488351232) :
    PSpec P G 4 [.agg (asA g), .agg (asA p), .list sgT l] (.bool true) := by
  refine pspec_intro hT Tryd.func4 (by decide) rfl rfl (by kernel_rfl) rfl ?_
  refine Tri.seq (Tri.reg hT ?_)
  refine Tri.seq ?_
  refine Tri.seq (Tri.reg hT ?_)
  refine .inl (.inl ⟨_, fun _ => rfl, f7_spec, ?_⟩)
  refine (Tri.cond ⟨fun h1 => ?_, fun h1 => ?_⟩)
  · cases h1
  · refine (Tri.skip ?_)
    refine Tri.seq ?_
    refine Tri.seq (Tri.reg hT ?_)
    refine .inl (.inl ⟨_, fun _ => rfl, f15_spec l hl, ?_⟩)
    refine (Tri.cond ⟨fun h2 => ?_, fun h2 => ?_⟩)
    · refine Tri.seq (Tri.reg hT ?_)
      refine Tri.ret ?_
      exact ⟨rfl, trivial⟩
    · refine (Tri.skip ?_)
      refine Tri.seq (Tri.reg hT ?_)
      refine .inl (.inr (.inr ⟨_, (by exact fun _ => rfl), (f8_spec p g hp hg), ?_⟩))
      refine Tri.seq (Tri.reg hT ?_)
      refine Tri.seq ?_
      obtain ⟨hl40, hbig⟩ := longL_f h2; refine Tri.le _ (Le.none (X := strX none) rfl rfl) ?_; refine Tri.le _ (Le.none (X := strX none) rfl rfl) ?_; refine Tri.le ⟨252, 0, 20, [(2, .list sgT l), (7, .loc 9 0), (8, .own 11 3), (9, .own 12 3)], [(9, .ext (conX (new0 p g) 15 16)), (15, .ext (strX (new0 p g).s1)), (16, .ext (strX (new0 p g).s2)), (11, .arr (.int .i64) [0, 0, 0]), (12, .arr (.int .i64) [0, 0, 0])], G⟩ (Le.weakX rfl rfl rfl rfl ⟨rfl, rfl, rfl, rfl, trivial⟩ ⟨⟨_, rfl, Conv.conX (new0 p g) 15 16⟩, ⟨_, rfl, Conv.refl _⟩, ⟨_, rfl, Conv.refl _⟩, ⟨_, rfl, Conv.refl _⟩, ⟨_, rfl, Conv.refl _⟩, trivial⟩) ?_
      refine Tri.seq (Tri.reg hT ?_)
      refine (Tri.block ?_)
      refine (Tri.loop (ι := Nat × At4) (fun i => ⟨252, 0, 30, [(2, .list sgT l), (7, .loc 9 0), (8, .own 11 3), (9, .own 12 3), (10, .int .i64 (i.1 : Int))], [(9, .ext (conX (rC p g l i.1) 15 16)), (15, .ext (strX (rC p g l i.1).s1)), (16, .ext (strX (rC p g l i.1).s2)), (11, .arr (.int .i64) [0, i.2.1, i.2.2.1]), (12, .arr (.int .i64) [0, i.2.2.2.1, i.2.2.2.2])], G⟩) (fun i => i.1 ≤ l.length ∧ OffInv (rC p g l i.1) i.2) (fun i => l.length - i.1) ((0, (0, 0, 0, 0))) ?_ ?_ ?_)
      · exact ⟨Nat.zero_le _, off_new p g⟩
      · exact Le.weak rfl rfl rfl rfl ⟨(by first | rfl | exact iv1 (by (try simp only [decide_eq_true_eq, decide_eq_false_iff_not, toNat_cast] at *); omega)), (by first | rfl | exact iv1 (by (try simp only [decide_eq_true_eq, decide_eq_false_iff_not, toNat_cast] at *); omega)), (by first | rfl | exact iv1 (by (try simp only [decide_eq_true_eq, decide_eq_false_iff_not, toNat_cast] at *); omega)), (by first | rfl | exact iv1 (by (try simp only [decide_eq_true_eq, decide_eq_false_iff_not, toNat_cast] at *); omega)), (by first | rfl | exact iv1 (by (try simp only [decide_eq_true_eq, decide_eq_false_iff_not, toNat_cast] at *); omega)), trivial⟩ ⟨rfl, rfl, rfl, rfl, rfl, trivial⟩
      · intro i hi
        refine Tri.seq ?_
        refine Tri.seq (Tri.reg hT ?_)
        refine (Tri.cond ⟨fun h3 => ?_, fun h3 => ?_⟩)
        · refine (Tri.skip ?_)
          refine Tri.seq (Tri.block ?_)
          have h3' := of_decide_eq_true h3; have hi' : i.1 < l.length := (by omega); have hc := runC_inv (new0_inv p g) (l := l) (i := i.1) (by omega); have hnx := runC_next (new0 p g) hi'; have hbg := bigE_f (hbig i.1 hi'); obtain ⟨hi0, hoi⟩ := hi; generalize hC : rC p g l i.1 = c at *; have hC' : runC (new0 p g) (l.take i.1) = c := hC; rw [hC'] at hc hnx
          refine Tri.seq (Tri.drwM hT hm 11 [11] (by kernel_rfl) ?_)
          refine ⟨(by first | ((try simp only [decide_eq_true_eq, decide_eq_false_iff_not, toNat_cast] at *); omega) | decide), ?_⟩
          refine ⟨(by first | ((try simp only [decide_eq_true_eq, decide_eq_false_iff_not, toNat_cast] at *); omega) | decide), ?_⟩
          refine ⟨by kernel_rfl, ?_⟩
          refine ⟨_, Le.refl _, .inl (.inr (OpTri.hcall 1 rfl rfl rfl (segU c _ hc (by omega) (by omega) (l.getD (Int.toNat ((i.1 : Nat) : Int)) (Ty.dflt sgT)) (by rw [toNat_cast]; exact hbg.2) (by rw [toNat_cast]; exact hbg.1) 9 15 16 nodO) trivial ⟨rfl, rfl, rfl, trivial⟩ rfl ?_))⟩
          refine Tri.seq ?_
          obtain ⟨y, hgood, hoff⟩ := off_ok hc (by omega) hoi (l.getD (Int.toNat ((i.1 : Nat) : Int)) (Ty.dflt sgT)).1 (tqS (l.getD (Int.toNat ((i.1 : Nat) : Int)) (Ty.dflt sgT))) (tkK (l.getD (Int.toNat ((i.1 : Nat) : Int)) (Ty.dflt sgT))) (tfF (l.getD (Int.toNat ((i.1 : Nat) : Int)) (Ty.dflt sgT))) (toO (l.getD (Int.toNat ((i.1 : Nat) : Int)) (Ty.dflt sgT))) (txX (l.getD (Int.toNat ((i.1 : Nat) : Int)) (Ty.dflt sgT))) (by rw [toNat_cast]; omega); have hci := segC_inv hc (by omega) (l.getD (Int.toNat ((i.1 : Nat) : Int)) (Ty.dflt sgT)).1 (tqS (l.getD (Int.toNat ((i.1 : Nat) : Int)) (Ty.dflt sgT))) (tkK (l.getD (Int.toNat ((i.1 : Nat) : Int)) (Ty.dflt sgT))) (tfF (l.getD (Int.toNat ((i.1 : Nat) : Int)) (Ty.dflt sgT))) (toO (l.getD (Int.toNat ((i.1 : Nat) : Int)) (Ty.dflt sgT))) (txX (l.getD (Int.toNat ((i.1 : Nat) : Int)) (Ty.dflt sgT))); have hl7 := seg_len c (l.getD (Int.toNat ((i.1 : Nat) : Int)) (Ty.dflt sgT)).1 (tqS (l.getD (Int.toNat ((i.1 : Nat) : Int)) (Ty.dflt sgT))) (tkK (l.getD (Int.toNat ((i.1 : Nat) : Int)) (Ty.dflt sgT))) (tfF (l.getD (Int.toNat ((i.1 : Nat) : Int)) (Ty.dflt sgT))) (toO (l.getD (Int.toNat ((i.1 : Nat) : Int)) (Ty.dflt sgT))) (txX (l.getD (Int.toNat ((i.1 : Nat) : Int)) (Ty.dflt sgT))); have hE : (segS c (l.getD (Int.toNat ((i.1 : Nat) : Int)) (Ty.dflt sgT))).2 = rC p g l (i.1 + 1) := (by rw [toNat_cast]; exact hnx.symm); generalize hr : segS c (l.getD (Int.toNat ((i.1 : Nat) : Int)) (Ty.dflt sgT)) = r at *; have hr2 : segC (l.getD (Int.toNat ((i.1 : Nat) : Int)) (Ty.dflt sgT)).1 c (tqS (l.getD (Int.toNat ((i.1 : Nat) : Int)) (Ty.dflt sgT))) (tkK (l.getD (Int.toNat ((i.1 : Nat) : Int)) (Ty.dflt sgT))) (tfF (l.getD (Int.toNat ((i.1 : Nat) : Int)) (Ty.dflt sgT))) (toO (l.getD (Int.toNat ((i.1 : Nat) : Int)) (Ty.dflt sgT))) (txX (l.getD (Int.toNat ((i.1 : Nat) : Int)) (Ty.dflt sgT))) = r := hr; rw [hr2] at hgood hoff hci hl7
          refine Tri.seq (Tri.reg hT ?_)
          refine (Tri.block ?_)
          refine (Tri.loop (ι := Nat) (fun k => ⟨252, 0, 60, [(2, .list sgT l), (7, .loc 9 0), (8, .own 11 3), (9, .own 12 3), (10, .int .i64 (i.1 : Int)), (11, .list evT r.1), (12, .int .i64 (k : Int))], [(9, .ext (conX r.2 15 16)), (15, .ext (strX r.2.s1)), (16, .ext (strX r.2.s2)), (11, .arr (.int .i64) [0, (foldE i.2 (r.1.take k)).1, (foldE i.2 (r.1.take k)).2.1]), (12, .arr (.int .i64) [0, (foldE i.2 (r.1.take k)).2.2.1, (foldE i.2 (r.1.take k)).2.2.2])], G⟩) (fun k => k ≤ r.1.length) (fun k => r.1.length - k) (0) ?_ ?_ ?_)
          · exact Nat.zero_le _
          · exact Le.weak rfl rfl rfl rfl ⟨(by first | rfl | exact iv1 (by (try simp only [decide_eq_true_eq, decide_eq_false_iff_not, toNat_cast] at *); omega)), (by first | rfl | exact iv1 (by (try simp only [decide_eq_true_eq, decide_eq_false_iff_not, toNat_cast] at *); omega)), (by first | rfl | exact iv1 (by (try simp only [decide_eq_true_eq, decide_eq_false_iff_not, toNat_cast] at *); omega)), (by first | rfl | exact iv1 (by (try simp only [decide_eq_true_eq, decide_eq_false_iff_not, toNat_cast] at *); omega)), (by first | rfl | exact iv1 (by (try simp only [decide_eq_true_eq, decide_eq_false_iff_not, toNat_cast] at *); omega)), (by first | rfl | exact iv1 (by (try simp only [decide_eq_true_eq, decide_eq_false_iff_not, toNat_cast] at *); omega)), (by first | rfl | exact iv1 (by (try simp only [decide_eq_true_eq, decide_eq_false_iff_not, toNat_cast] at *); omega)), trivial⟩ ⟨rfl, rfl, rfl, rfl, rfl, trivial⟩
          · intro k hk
            refine Tri.seq ?_
            refine Tri.seq (Tri.reg hT ?_)
            refine (Tri.cond ⟨fun h4 => ?_, fun h4 => ?_⟩)
            · refine (Tri.skip ?_)
              refine Tri.seq (Tri.block ?_)
              have h4' := of_decide_eq_true h4; have hk' : k < r.1.length := (by omega)
              refine Tri.seq (Tri.reg hT ?_)
              refine ⟨(by first | ((try simp only [decide_eq_true_eq, decide_eq_false_iff_not, toNat_cast] at *); omega) | decide), ?_⟩
              refine Tri.seq ?_
              have hok := hgood.ok k hk'; have hok : OkE (r.1.length : Int) r.2.st (foldE i.2 (r.1.take k)) (r.1.getD (Int.toNat ((k : Nat) : Int)) (Ty.dflt evT)) := (by rw [toNat_cast]; exact hok); have hnk : foldE i.2 (r.1.take (k + 1)) = evE (foldE i.2 (r.1.take k)) (r.1.getD (Int.toNat ((k : Nat) : Int)) (Ty.dflt evT)) := (by rw [toNat_cast]; exact foldl_next _ _ _ hk'); generalize hev : (r.1.getD (Int.toNat ((k : Nat) : Int)) (Ty.dflt evT)) = e at *; generalize hx : (foldE i.2 (r.1.take k)) = x at *; have hdr := dir_rng hok.dir; refine Tri.le ⟨252, 0, 80, [(2, .list sgT l), (7, .loc 9 0), (8, .own 11 3), (9, .own 12 3), (10, .int .i64 (i.1 : Int)), (11, .list evT r.1), (12, .int .i64 ((k : Nat) : Int)), (13, .loc 68 0)], [(9, .ext (conX r.2 15 16)), (15, .ext (strX r.2.s1)), (16, .ext (strX r.2.s2)), (11, .arr (.int .i64) [0, x.1, x.2.1]), (12, .arr (.int .i64) [0, x.2.2.1, x.2.2.2]), (68, .box [.int .i64 e.1, .int .i64 e.2.1, .int .i64 e.2.2.1, .int .i64 e.2.2.2.1, .str e.2.2.2.2.1])], G⟩ (Le.weak rfl rfl rfl rfl ⟨rfl, rfl, rfl, rfl, rfl, rfl, rfl, rfl, trivial⟩ ⟨rfl, rfl, rfl, rfl, rfl, rfl, trivial⟩) ?_
              refine Tri.seq (Tri.reg hT ?_)
              refine ⟨_, [], trivial, rfl, rfl, fun h => ⟨rfl, rfl, rfl⟩, ?_⟩
              refine ⟨_, [], trivial, rfl, rfl, fun h => ⟨h, rfl, rfl, rfl⟩, ?_⟩
              refine ⟨_, [], trivial, rfl, rfl, fun h => ⟨h, rfl, rfl, rfl⟩, ?_⟩
              refine ⟨⟨fun hc => hc, fun _ => trivial⟩, ?_⟩
              refine ⟨_, [], trivial, rfl, rfl, fun h => ⟨rfl, rfl, rfl⟩, ?_⟩
              refine ⟨_, [], trivial, rfl, rfl, fun h => ⟨h, rfl, rfl, rfl⟩, ?_⟩
              refine ⟨_, [], trivial, rfl, rfl, fun h => ⟨h, rfl, rfl, rfl⟩, ?_⟩
              refine ⟨⟨fun _ => trivial, fun hc => (gn hc)⟩, ?_⟩
              refine ⟨_, [], trivial, rfl, rfl, fun h => ⟨rfl, rfl, rfl⟩, ?_⟩
              refine ⟨_, [], trivial, rfl, rfl, fun h => ⟨h, rfl, rfl, rfl⟩, ?_⟩
              refine ⟨_, [], trivial, rfl, rfl, fun h => ⟨h, rfl, rfl, rfl⟩, ?_⟩
              refine ⟨⟨fun _ => trivial, fun hc => (gn hc)⟩, ?_⟩
              refine ⟨_, [], trivial, rfl, rfl, fun h => ⟨rfl, rfl, rfl⟩, ?_⟩
              refine ⟨_, [], trivial, rfl, rfl, fun h => ⟨h, rfl, rfl, rfl⟩, ?_⟩
              refine ⟨_, [], trivial, rfl, rfl, fun h => ⟨h, rfl, rfl, rfl⟩, ?_⟩
              refine ⟨_, [], trivial, rfl, rfl, fun h => ⟨h, rfl, rfl, rfl⟩, ?_⟩
              refine ⟨_, [], trivial, rfl, rfl, fun h => ⟨rfl, rfl, rfl⟩, ?_⟩
              refine ⟨_, [], trivial, rfl, rfl, fun h => ⟨h, rfl, rfl, rfl⟩, ?_⟩
              refine ⟨_, [], trivial, rfl, rfl, fun h => ⟨h, rfl, rfl, rfl⟩, ?_⟩
              refine ⟨_, [], trivial, rfl, rfl, fun h => ⟨h, rfl, rfl, rfl⟩, ?_⟩
              refine ⟨_, [], trivial, rfl, rfl, fun h => ⟨rfl, rfl, rfl⟩, ?_⟩
              refine ⟨_, [], trivial, rfl, rfl, fun h => ⟨h, rfl, rfl, rfl⟩, ?_⟩
              refine ⟨_, [], trivial, rfl, rfl, fun h => ⟨h, rfl, rfl, rfl⟩, ?_⟩
              refine ⟨_, [], trivial, rfl, rfl, fun h => ⟨h, ⟨fun _ => trivial, fun hc => ga h (gn hc)⟩, rfl, rfl, rfl⟩, ?_⟩
              refine ⟨_, [], trivial, rfl, rfl, fun h => ⟨h, rfl, rfl, rfl⟩, ?_⟩
              refine ⟨_, [], trivial, rfl, rfl, fun h => ⟨rfl, rfl, rfl⟩, ?_⟩
              refine ⟨_, [], trivial, rfl, rfl, fun h => ⟨h, rfl, rfl, rfl⟩, ?_⟩
              refine ⟨_, [], trivial, rfl, rfl, fun h => ⟨h, rfl, rfl, rfl⟩, ?_⟩
              refine ⟨_, [], trivial, rfl, rfl, fun h => ⟨h, ⟨fun _ => trivial, fun hc => ga h (gn hc)⟩, rfl, rfl, rfl⟩, ?_⟩
              refine ⟨_, [], trivial, rfl, rfl, fun h => ⟨h, ⟨fun hc => ga h hc, fun _ => trivial⟩, rfl, rfl, rfl⟩, ?_⟩
              refine ⟨⟨fun _ => trivial, fun hc => (gn hc)⟩, ?_⟩
              refine (Tri.cond ⟨fun h5 => ?_, fun h5 => ?_⟩)
              · exact absurd h5 (chk1 hok)
              · refine (Tri.skip ?_)
                refine Tri.join (True) (⟨252, 0, 200, [(2, .list sgT l), (7, .loc 9 0), (8, .own 11 3), (9, .own 12 3), (10, .int .i64 (i.1 : Int)), (11, .list evT r.1), (12, .int .i64 ((k : Nat) : Int)), (13, .loc 68 0)], [(9, .ext (conX r.2 15 16)), (15, .ext (strX r.2.s1)), (16, .ext (strX r.2.s2)), (11, .arr (.int .i64) [0, (opnE x e).1, (opnE x e).2.1]), (12, .arr (.int .i64) [0, (opnE x e).2.2.1, (opnE x e).2.2.2]), (68, .box [.int .i64 e.1, .int .i64 e.2.1, .int .i64 e.2.2.1, .int .i64 e.2.2.2.1, .str e.2.2.2.2.1])], G⟩) ?_ fun hp8 => ?_
                · refine Tri.seq (Tri.reg hT ?_)
                  refine (Tri.cond ⟨fun h6 => ?_, fun h6 => ?_⟩)
                  · refine (Tri.reg hT ?_)
                    refine ⟨(by first | ((try simp only [decide_eq_true_eq, decide_eq_false_iff_not, toNat_cast] at *); omega) | decide), ?_⟩
                    refine ⟨(by simp), _, rfl, ?_⟩
                    refine ⟨(by first | ((try simp only [decide_eq_true_eq, decide_eq_false_iff_not, toNat_cast] at *); omega) | decide), ?_⟩
                    refine ⟨(by simp), _, rfl, ?_⟩
                    refine ⟨(by first | ((try simp only [decide_eq_true_eq, decide_eq_false_iff_not, toNat_cast] at *); omega) | decide), ?_⟩
                    refine ⟨(by simp), _, rfl, ?_⟩
                    refine ⟨(by first | ((try simp only [decide_eq_true_eq, decide_eq_false_iff_not, toNat_cast] at *); omega) | decide), ?_⟩
                    refine ⟨(by simp), _, rfl, ?_⟩
                    have e0 := opn_t (x := x) h6
                    exact ⟨trivial, Le.weak rfl rfl rfl rfl ⟨(by first | rfl | exact iv1 (by (try simp only [decide_eq_true_eq, decide_eq_false_iff_not, toNat_cast] at *); omega)), (by first | rfl | exact iv1 (by (try simp only [decide_eq_true_eq, decide_eq_false_iff_not, toNat_cast] at *); omega)), (by first | rfl | exact iv1 (by (try simp only [decide_eq_true_eq, decide_eq_false_iff_not, toNat_cast] at *); omega)), (by first | rfl | exact iv1 (by (try simp only [decide_eq_true_eq, decide_eq_false_iff_not, toNat_cast] at *); omega)), (by first | rfl | exact iv1 (by (try simp only [decide_eq_true_eq, decide_eq_false_iff_not, toNat_cast] at *); omega)), (by first | rfl | exact iv1 (by (try simp only [decide_eq_true_eq, decide_eq_false_iff_not, toNat_cast] at *); omega)), (by first | rfl | exact iv1 (by (try simp only [decide_eq_true_eq, decide_eq_false_iff_not, toNat_cast] at *); omega)), (by first | rfl | exact iv1 (by (try simp only [decide_eq_true_eq, decide_eq_false_iff_not, toNat_cast] at *); omega)), trivial⟩ ⟨rfl, rfl, rfl, (show some (Chunk.arr (.int .i64) [0, 0, 0]) = some (Chunk.arr (.int .i64) [0, (opnE x e).1, (opnE x e).2.1]) from by rw [e0]), (show some (Chunk.arr (.int .i64) [0, 0, 0]) = some (Chunk.arr (.int .i64) [0, (opnE x e).2.2.1, (opnE x e).2.2.2]) from by rw [e0]), rfl, trivial⟩⟩
                  · refine (Tri.skip ?_)
                    have e0 := opn_f (x := x) h6
                    exact ⟨trivial, Le.weak rfl rfl rfl rfl ⟨(by first | rfl | exact iv1 (by (try simp only [decide_eq_true_eq, decide_eq_false_iff_not, toNat_cast] at *); omega)), (by first | rfl | exact iv1 (by (try simp only [decide_eq_true_eq, decide_eq_false_iff_not, toNat_cast] at *); omega)), (by first | rfl | exact iv1 (by (try simp only [decide_eq_true_eq, decide_eq_false_iff_not, toNat_cast] at *); omega)), (by first | rfl | exact iv1 (by (try simp only [decide_eq_true_eq, decide_eq_false_iff_not, toNat_cast] at *); omega)), (by first | rfl | exact iv1 (by (try simp only [decide_eq_true_eq, decide_eq_false_iff_not, toNat_cast] at *); omega)), (by first | rfl | exact iv1 (by (try simp only [decide_eq_true_eq, decide_eq_false_iff_not, toNat_cast] at *); omega)), (by first | rfl | exact iv1 (by (try simp only [decide_eq_true_eq, decide_eq_false_iff_not, toNat_cast] at *); omega)), (by first | rfl | exact iv1 (by (try simp only [decide_eq_true_eq, decide_eq_false_iff_not, toNat_cast] at *); omega)), trivial⟩ ⟨rfl, rfl, rfl, (by rw [e0]; rfl), (by rw [e0]; rfl), rfl, trivial⟩⟩
                · refine Tri.seq ?_
                  have r0 := rng_opn hok.rng e; have ho := hok.off; have hev2 : evE x e = clsE e (gapE e (addAt (opnE x e) e.2.1 e.2.2.2.2.1.length)) := rfl; have hdn := dir_nat hok.dir; have hlen := hok.len; have hnum := hok.num; rw [hev2] at hnk; clear hev2; generalize hz0 : opnE x e = z0 at *
                  refine Tri.seq (Tri.drw hT hm 41 (by kernel_rfl) ?_)
                  refine ⟨_, [], trivial, rfl, rfl, fun h => ⟨rfl, rfl, rfl⟩, ?_⟩
                  refine ⟨_, [], trivial, rfl, rfl, fun h => ⟨h, rfl, rfl, rfl⟩, ?_⟩
                  refine ⟨_, [], trivial, rfl, rfl, fun h => ⟨rfl, rfl, rfl⟩, ?_⟩
                  refine ⟨_, [], trivial, rfl, rfl, fun h => ⟨rfl, rfl, rfl⟩, ?_⟩
                  refine ⟨_, [], trivial, rfl, rfl, fun h => ⟨h, rfl, rfl, rfl⟩, ?_⟩
                  refine ⟨_, [], trivial, rfl, rfl, fun h => ⟨h, h, hdr, rfl, rfl, rfl⟩, ?_⟩
                  refine ⟨_, [], trivial, rfl, rfl, fun h => ⟨h, hdn, rfl, rfl, rfl⟩, ?_⟩
                  refine ⟨_, [], trivial, rfl, rfl, fun h => ⟨h, h, rfl, rfl, rfl⟩, ?_⟩
                  refine ⟨⟨fun hc => hc, fun _ => trivial⟩, ?_⟩
                  refine ⟨_, [], trivial, rfl, rfl, fun h => ⟨rfl, rfl, rfl⟩, ?_⟩
                  refine ⟨_, [], trivial, rfl, rfl, fun h => ⟨h, rfl, rfl, rfl⟩, ?_⟩
                  refine ⟨_, [], trivial, rfl, rfl, fun h => ⟨h, rfl, rfl, rfl⟩, ?_⟩
                  refine ⟨_, [], trivial, rfl, rfl, fun h => ⟨h, rfl, rfl, rfl⟩, ?_⟩
                  refine ⟨_, [], trivial, rfl, rfl, fun h => ⟨rfl, rfl, rfl⟩, ?_⟩
                  refine ⟨_, [], trivial, rfl, rfl, fun h => ⟨h, rfl, rfl, rfl⟩, ?_⟩
                  refine ⟨_, [], trivial, rfl, rfl, fun h => ⟨h, rfl, rfl, rfl⟩, ?_⟩
                  refine ⟨_, [], trivial, rfl, rfl, fun h => ⟨h, ⟨fun _ => trivial, fun hc => ga h (gn hc)⟩, rfl, rfl, rfl⟩, ?_⟩
                  refine ⟨_, [], trivial, rfl, rfl, fun h => ⟨rfl, rfl, rfl⟩, ?_⟩
                  refine ⟨_, [], trivial, rfl, rfl, fun h => ⟨h, rfl, rfl, rfl⟩, ?_⟩
                  refine ⟨_, [], trivial, rfl, rfl, fun h => ⟨h, rfl, rfl, rfl⟩, ?_⟩
                  refine ⟨_, [], trivial, rfl, rfl, fun h => ⟨h, h, rfl, rfl, rfl⟩, ?_⟩
                  refine ⟨_, [], trivial, rfl, rfl, fun h => ⟨h, rfl, rfl, rfl⟩, ?_⟩
                  refine ⟨_, [], trivial, rfl, rfl, fun h => ⟨rfl, rfl, rfl⟩, ?_⟩
                  refine ⟨_, [], trivial, rfl, rfl, fun h => ⟨h, rfl, rfl, rfl⟩, ?_⟩
                  refine ⟨_, [], trivial, rfl, rfl, fun h => ⟨h, rfl, rfl, rfl⟩, ?_⟩
                  refine ⟨_, [], trivial, rfl, rfl, fun h => ⟨h, ⟨fun hc => ga h hc, fun _ => trivial⟩, rfl, rfl, rfl⟩, ?_⟩
                  refine ⟨⟨fun _ => trivial, fun hc => (gn hc)⟩, ?_⟩
                  refine ⟨_, [], trivial, rfl, rfl, fun h => ⟨rfl, rfl, rfl⟩, ?_⟩
                  refine ⟨_, [], trivial, rfl, rfl, fun h => ⟨h, rfl, rfl, rfl⟩, ?_⟩
                  refine ⟨_, [], trivial, rfl, rfl, fun h => ⟨h, rfl, rfl, rfl⟩, ?_⟩
                  refine ⟨_, [], trivial, rfl, rfl, fun h => ⟨rfl, rfl, rfl⟩, ?_⟩
                  refine ⟨_, [], trivial, rfl, rfl, fun h => ⟨h, rfl, rfl, rfl⟩, ?_⟩
                  refine ⟨_, [], trivial, rfl, rfl, fun h => ⟨h, rfl, rfl, rfl⟩, ?_⟩
                  refine ⟨_, [], trivial, rfl, rfl, fun h => ⟨h, h, rfl, rfl, rfl⟩, ?_⟩
                  refine ⟨⟨fun _ => trivial, fun hc => (gn hc)⟩, ?_⟩
                  refine ⟨by kernel_rfl, ?_⟩
                  refine (Tri.cond ⟨fun h7 => ?_, fun h7 => ?_⟩)
                  · exact absurd h7 (chk2 hok ho)
                  · refine (Tri.skip ?_)
                    refine Tri.seq (Tri.drw hT hm 9 (by kernel_rfl) ?_)
                    refine ⟨hdr, ?_⟩
                    refine ⟨hdn, ?_⟩
                    refine ⟨by kernel_rfl, ?_⟩
                    refine ⟨hdr, ?_⟩
                    refine ⟨hdn, _, rfl, ?_⟩
                    refine Tri.join (True) (⟨252, 0, 280, [(2, .list sgT l), (7, .loc 9 0), (8, .own 11 3), (9, .own 12 3), (10, .int .i64 (i.1 : Int)), (11, .list evT r.1), (12, .int .i64 ((k : Nat) : Int)), (13, .loc 68 0)], [(9, .ext (conX r.2 15 16)), (15, .ext (strX r.2.s1)), (16, .ext (strX r.2.s2)), (11, .arr (.int .i64) [0, (gapE e (addAt z0 e.2.1 e.2.2.2.2.1.length)).1, (gapE e (addAt z0 e.2.1 e.2.2.2.2.1.length)).2.1]), (12, .arr (.int .i64) [0, (gapE e (addAt z0 e.2.1 e.2.2.2.2.1.length)).2.2.1, (gapE e (addAt z0 e.2.1 e.2.2.2.2.1.length)).2.2.2]), (68, .box [.int .i64 e.1, .int .i64 e.2.1, .int .i64 e.2.2.1, .int .i64 e.2.2.2.1, .str e.2.2.2.2.1])], G⟩) ?_ fun hp10 => ?_
                    · refine Tri.le (⟨252, 0, 240, [(2, .list sgT l), (7, .loc 9 0), (8, .own 11 3), (9, .own 12 3), (10, .int .i64 (i.1 : Int)), (11, .list evT r.1), (12, .int .i64 ((k : Nat) : Int)), (13, .loc 68 0)], [(9, .ext (conX r.2 15 16)), (15, .ext (strX r.2.s1)), (16, .ext (strX r.2.s2)), (11, .arr (.int .i64) [0, (addAt z0 e.2.1 e.2.2.2.2.1.length).1, (addAt z0 e.2.1 e.2.2.2.2.1.length).2.1]), (12, .arr (.int .i64) [0, (addAt z0 e.2.1 e.2.2.2.2.1.length).2.2.1, (addAt z0 e.2.1 e.2.2.2.2.1.length).2.2.2]), (68, .box [.int .i64 e.1, .int .i64 e.2.1, .int .i64 e.2.2.1, .int .i64 e.2.2.2.1, .str e.2.2.2.2.1])], G⟩) (Le.weak rfl rfl rfl rfl ⟨(by first | rfl | exact iv1 (by (try simp only [decide_eq_true_eq, decide_eq_false_iff_not, toNat_cast] at *); omega)), (by first | rfl | exact iv1 (by (try simp only [decide_eq_true_eq, decide_eq_false_iff_not, toNat_cast] at *); omega)), (by first | rfl | exact iv1 (by (try simp only [decide_eq_true_eq, decide_eq_false_iff_not, toNat_cast] at *); omega)), (by first | rfl | exact iv1 (by (try simp only [decide_eq_true_eq, decide_eq_false_iff_not, toNat_cast] at *); omega)), (by first | rfl | exact iv1 (by (try simp only [decide_eq_true_eq, decide_eq_false_iff_not, toNat_cast] at *); omega)), (by first | rfl | exact iv1 (by (try simp only [decide_eq_true_eq, decide_eq_false_iff_not, toNat_cast] at *); omega)), (by first | rfl | exact iv1 (by (try simp only [decide_eq_true_eq, decide_eq_false_iff_not, toNat_cast] at *); omega)), (by first | rfl | exact iv1 (by (try simp only [decide_eq_true_eq, decide_eq_false_iff_not, toNat_cast] at *); omega)), trivial⟩ ⟨rfl, rfl, rfl, congrArg (fun q => some (Chunk.arr (.int .i64) q)) (arr_add hok.dir _ (wrapId (by have := at_rng r0 e.2.1; omega))), (by rw [addAt_en]; rfl), rfl, trivial⟩) ?_
                      refine Tri.seq (Tri.reg hT ?_)
                      refine (Tri.cond ⟨fun h8 => ?_, fun h8 => ?_⟩)
                      · refine (Tri.drw hT hm 8 (by kernel_rfl) ?_)
                        refine ⟨hdr, ?_⟩
                        refine ⟨hdn, ?_⟩
                        refine ⟨by kernel_rfl, ?_⟩
                        refine ⟨hdr, ?_⟩
                        refine ⟨hdn, _, rfl, ?_⟩
                        have e3 : (gapE e (addAt z0 e.2.1 e.2.2.2.2.1.length)) = addAt (addAt z0 e.2.1 e.2.2.2.2.1.length) e.2.1 e.2.2.2.1 := if_pos (of_decide_eq_true h8)
                        exact ⟨trivial, Le.weak rfl rfl rfl rfl ⟨(by first | rfl | exact iv1 (by (try simp only [decide_eq_true_eq, decide_eq_false_iff_not, toNat_cast] at *); omega)), (by first | rfl | exact iv1 (by (try simp only [decide_eq_true_eq, decide_eq_false_iff_not, toNat_cast] at *); omega)), (by first | rfl | exact iv1 (by (try simp only [decide_eq_true_eq, decide_eq_false_iff_not, toNat_cast] at *); omega)), (by first | rfl | exact iv1 (by (try simp only [decide_eq_true_eq, decide_eq_false_iff_not, toNat_cast] at *); omega)), (by first | rfl | exact iv1 (by (try simp only [decide_eq_true_eq, decide_eq_false_iff_not, toNat_cast] at *); omega)), (by first | rfl | exact iv1 (by (try simp only [decide_eq_true_eq, decide_eq_false_iff_not, toNat_cast] at *); omega)), (by first | rfl | exact iv1 (by (try simp only [decide_eq_true_eq, decide_eq_false_iff_not, toNat_cast] at *); omega)), (by first | rfl | exact iv1 (by (try simp only [decide_eq_true_eq, decide_eq_false_iff_not, toNat_cast] at *); omega)), trivial⟩ ⟨rfl, rfl, rfl, congrArg (fun q => some (Chunk.arr (.int .i64) q)) ((arr_add hok.dir _ (wrapId (by have := at_rng r0 e.2.1; have := at_add (x := z0) (n := e.2.2.2.2.1.length) hok.dir; omega))).trans (by rw [e3])), (by rw [e3, addAt_en (addAt z0 e.2.1 e.2.2.2.2.1.length)]; rfl), rfl, trivial⟩⟩
                      · refine (Tri.skip ?_)
                        have e3 : (gapE e (addAt z0 e.2.1 e.2.2.2.2.1.length)) = (addAt z0 e.2.1 e.2.2.2.2.1.length) := if_neg (of_decide_eq_false h8)
                        exact ⟨trivial, Le.weak rfl rfl rfl rfl ⟨(by first | rfl | exact iv1 (by (try simp only [decide_eq_true_eq, decide_eq_false_iff_not, toNat_cast] at *); omega)), (by first | rfl | exact iv1 (by (try simp only [decide_eq_true_eq, decide_eq_false_iff_not, toNat_cast] at *); omega)), (by first | rfl | exact iv1 (by (try simp only [decide_eq_true_eq, decide_eq_false_iff_not, toNat_cast] at *); omega)), (by first | rfl | exact iv1 (by (try simp only [decide_eq_true_eq, decide_eq_false_iff_not, toNat_cast] at *); omega)), (by first | rfl | exact iv1 (by (try simp only [decide_eq_true_eq, decide_eq_false_iff_not, toNat_cast] at *); omega)), (by first | rfl | exact iv1 (by (try simp only [decide_eq_true_eq, decide_eq_false_iff_not, toNat_cast] at *); omega)), (by first | rfl | exact iv1 (by (try simp only [decide_eq_true_eq, decide_eq_false_iff_not, toNat_cast] at *); omega)), (by first | rfl | exact iv1 (by (try simp only [decide_eq_true_eq, decide_eq_false_iff_not, toNat_cast] at *); omega)), trivial⟩ ⟨rfl, rfl, rfl, (by rw [e3]; rfl), (by rw [e3]; rfl), rfl, trivial⟩⟩
                    · refine Tri.join (True) (⟨252, 0, 320, [(2, .list sgT l), (7, .loc 9 0), (8, .own 11 3), (9, .own 12 3), (10, .int .i64 (i.1 : Int)), (11, .list evT r.1), (12, .int .i64 ((k : Nat) : Int)), (13, .loc 68 0)], [(9, .ext (conX r.2 15 16)), (15, .ext (strX r.2.s1)), (16, .ext (strX r.2.s2)), (11, .arr (.int .i64) [0, (clsE e (gapE e (addAt z0 e.2.1 e.2.2.2.2.1.length))).1, (clsE e (gapE e (addAt z0 e.2.1 e.2.2.2.2.1.length))).2.1]), (12, .arr (.int .i64) [0, (clsE e (gapE e (addAt z0 e.2.1 e.2.2.2.2.1.length))).2.2.1, (clsE e (gapE e (addAt z0 e.2.1 e.2.2.2.2.1.length))).2.2.2]), (68, .box [.int .i64 e.1, .int .i64 e.2.1, .int .i64 e.2.2.1, .int .i64 e.2.2.2.1, .str e.2.2.2.2.1])], G⟩) ?_ fun hp11 => ?_
                      · refine Tri.seq (Tri.reg hT ?_)
                        refine (Tri.cond ⟨fun h9 => ?_, fun h9 => ?_⟩)
                        · refine (Tri.reg hT ?_)
                          refine ⟨hdr, ?_⟩
                          refine ⟨hdn, ?_⟩
                          refine ⟨hdr, ?_⟩
                          refine ⟨hdn, _, rfl, ?_⟩
                          have e4 : (clsE e (gapE e (addAt z0 e.2.1 e.2.2.2.2.1.length))) = addEn (gapE e (addAt z0 e.2.1 e.2.2.2.2.1.length)) e.2.1 := if_pos (of_decide_eq_true h9); have en : (gapE e (addAt z0 e.2.1 e.2.2.2.2.1.length)).2.2 = z0.2.2 := (gap_en ..).trans (addAt_en ..)
                          exact ⟨trivial, Le.weak rfl rfl rfl rfl ⟨(by first | rfl | exact iv1 (by (try simp only [decide_eq_true_eq, decide_eq_false_iff_not, toNat_cast] at *); omega)), (by first | rfl | exact iv1 (by (try simp only [decide_eq_true_eq, decide_eq_false_iff_not, toNat_cast] at *); omega)), (by first | rfl | exact iv1 (by (try simp only [decide_eq_true_eq, decide_eq_false_iff_not, toNat_cast] at *); omega)), (by first | rfl | exact iv1 (by (try simp only [decide_eq_true_eq, decide_eq_false_iff_not, toNat_cast] at *); omega)), (by first | rfl | exact iv1 (by (try simp only [decide_eq_true_eq, decide_eq_false_iff_not, toNat_cast] at *); omega)), (by first | rfl | exact iv1 (by (try simp only [decide_eq_true_eq, decide_eq_false_iff_not, toNat_cast] at *); omega)), (by first | rfl | exact iv1 (by (try simp only [decide_eq_true_eq, decide_eq_false_iff_not, toNat_cast] at *); omega)), (by first | rfl | exact iv1 (by (try simp only [decide_eq_true_eq, decide_eq_false_iff_not, toNat_cast] at *); omega)), trivial⟩ ⟨rfl, rfl, rfl, (by rw [e4, (addEn_at _ _).1, (addEn_at _ _).2]; rfl), congrArg (fun q => some (Chunk.arr (.int .i64) q)) ((arr_en hok.dir _ (by rw [en]; exact r0.c) (by rw [en]; exact r0.d)).trans (by rw [e4])), rfl, trivial⟩⟩
                        · refine (Tri.skip ?_)
                          have e4 : (clsE e (gapE e (addAt z0 e.2.1 e.2.2.2.2.1.length))) = (gapE e (addAt z0 e.2.1 e.2.2.2.2.1.length)) := if_neg (of_decide_eq_false h9)
                          exact ⟨trivial, Le.weak rfl rfl rfl rfl ⟨(by first | rfl | exact iv1 (by (try simp only [decide_eq_true_eq, decide_eq_false_iff_not, toNat_cast] at *); omega)), (by first | rfl | exact iv1 (by (try simp only [decide_eq_true_eq, decide_eq_false_iff_not, toNat_cast] at *); omega)), (by first | rfl | exact iv1 (by (try simp only [decide_eq_true_eq, decide_eq_false_iff_not, toNat_cast] at *); omega)), (by first | rfl | exact iv1 (by (try simp only [decide_eq_true_eq, decide_eq_false_iff_not, toNat_cast] at *); omega)), (by first | rfl | exact iv1 (by (try simp only [decide_eq_true_eq, decide_eq_false_iff_not, toNat_cast] at *); omega)), (by first | rfl | exact iv1 (by (try simp only [decide_eq_true_eq, decide_eq_false_iff_not, toNat_cast] at *); omega)), (by first | rfl | exact iv1 (by (try simp only [decide_eq_true_eq, decide_eq_false_iff_not, toNat_cast] at *); omega)), (by first | rfl | exact iv1 (by (try simp only [decide_eq_true_eq, decide_eq_false_iff_not, toNat_cast] at *); omega)), trivial⟩ ⟨rfl, rfl, rfl, (by rw [e4]; rfl), (by rw [e4]; rfl), rfl, trivial⟩⟩
                      · by_cases h5k : e.1 = 5
                        · refine Tri.seq (Tri.regM hT [4, 5, 6] ?_)
                          refine ⟨_, Le.refl _, .inr (.inl ⟨_, rfl, (congrArg some (show gd (decide (e.1 = 5)) true = true from decide_eq_true h5k)), .inl ?_⟩)⟩
                          refine ⟨_, Le.refl _, .inr (.inl ⟨_, rfl, (congrArg some (show gd (decide (e.1 = 5)) true = true from decide_eq_true h5k)), .inr (OpTri.hcall 1 rfl rfl rfl (at_U (f12_u r.2) 9 15 16 nodO rfl rfl) trivial ⟨rfl, rfl, rfl, trivial⟩ rfl ?_)⟩)⟩
                          refine ⟨_, Le.refl _, .inr (.inl ⟨_, rfl, (congrArg some (show gd (decide (e.1 = 5)) true = true from decide_eq_true h5k)), .inl ?_⟩)⟩
                          refine ⟨⟨fun _ => trivial, fun _ => trivial⟩, ?_⟩
                          refine (Tri.cond ⟨fun h10 => ?_, fun h10 => ?_⟩)
                          · exact absurd h10 (by simp [hok.rst h5k])
                          · refine (Tri.skip ?_)
                            refine (Tri.reg hT ?_)
                            rw [← hnk]
                            exact ⟨k + 1, (show k + 1 ≤ r.1.length by omega), by (try simp only [decide_eq_true_eq, decide_eq_false_iff_not, toNat_cast] at *); omega, Le.weak rfl rfl rfl rfl ⟨(by first | rfl | exact iv1 (by (try simp only [decide_eq_true_eq, decide_eq_false_iff_not, toNat_cast] at *); omega)), (by first | rfl | exact iv1 (by (try simp only [decide_eq_true_eq, decide_eq_false_iff_not, toNat_cast] at *); omega)), (by first | rfl | exact iv1 (by (try simp only [decide_eq_true_eq, decide_eq_false_iff_not, toNat_cast] at *); omega)), (by first | rfl | exact iv1 (by (try simp only [decide_eq_true_eq, decide_eq_false_iff_not, toNat_cast] at *); omega)), (by first | rfl | exact iv1 (by (try simp only [decide_eq_true_eq, decide_eq_false_iff_not, toNat_cast] at *); omega)), (by first | rfl | exact iv1 (by (try simp only [decide_eq_true_eq, decide_eq_false_iff_not, toNat_cast] at *); omega)), (by first | rfl | exact iv1 (by (try simp only [decide_eq_true_eq, decide_eq_false_iff_not, toNat_cast] at *); omega)), trivial⟩ ⟨rfl, rfl, rfl, rfl, rfl, trivial⟩⟩
                        · refine Tri.seq (Tri.reg hT ?_)
                          refine ⟨.loc 9 0, [], trivial, rfl, rfl, fun h => absurd (of_decide_eq_true h) h5k, ?_⟩
                          refine ⟨.int .i64 0, [], trivial, rfl, rfl, fun h => absurd (of_decide_eq_true h) h5k, ?_⟩
                          refine ⟨.bool false, [], trivial, rfl, rfl, fun h => absurd (of_decide_eq_true h) h5k, ?_⟩
                          refine ⟨⟨fun hc => hc, fun _ => trivial⟩, ?_⟩
                          refine (Tri.cond ⟨fun h11 => ?_, fun h11 => ?_⟩)
                          · exact absurd h11 (by simp [h5k])
                          · refine (Tri.skip ?_)
                            refine (Tri.reg hT ?_)
                            rw [← hnk]
                            exact ⟨k + 1, (show k + 1 ≤ r.1.length by omega), by (try simp only [decide_eq_true_eq, decide_eq_false_iff_not, toNat_cast] at *); omega, Le.weak rfl rfl rfl rfl ⟨(by first | rfl | exact iv1 (by (try simp only [decide_eq_true_eq, decide_eq_false_iff_not, toNat_cast] at *); omega)), (by first | rfl | exact iv1 (by (try simp only [decide_eq_true_eq, decide_eq_false_iff_not, toNat_cast] at *); omega)), (by first | rfl | exact iv1 (by (try simp only [decide_eq_true_eq, decide_eq_false_iff_not, toNat_cast] at *); omega)), (by first | rfl | exact iv1 (by (try simp only [decide_eq_true_eq, decide_eq_false_iff_not, toNat_cast] at *); omega)), (by first | rfl | exact iv1 (by (try simp only [decide_eq_true_eq, decide_eq_false_iff_not, toNat_cast] at *); omega)), (by first | rfl | exact iv1 (by (try simp only [decide_eq_true_eq, decide_eq_false_iff_not, toNat_cast] at *); omega)), (by first | rfl | exact iv1 (by (try simp only [decide_eq_true_eq, decide_eq_false_iff_not, toNat_cast] at *); omega)), trivial⟩ ⟨rfl, rfl, rfl, rfl, rfl, trivial⟩⟩
            · refine Tri.exit ?_
              have hk9 : k = r.1.length := (by have h4' := of_decide_eq_false h4; have hk : k ≤ r.1.length := hk; omega); have hfy : (foldE i.2 (r.1.take k)) = y := (by rw [hk9, List.take_length]; exact hgood.fold); refine Tri.le ⟨252, 0, 400, [(2, .list sgT l), (7, .loc 9 0), (8, .own 11 3), (9, .own 12 3), (10, .int .i64 (i.1 : Int))], [(9, .ext (conX r.2 15 16)), (15, .ext (strX r.2.s1)), (16, .ext (strX r.2.s2)), (11, .arr (.int .i64) [0, y.1, y.2.1]), (12, .arr (.int .i64) [0, y.2.2.1, y.2.2.2])], G⟩ (Le.weak rfl rfl rfl rfl ⟨rfl, rfl, rfl, rfl, rfl, trivial⟩ ⟨rfl, rfl, rfl, (by rw [← hfy]; rfl), (by rw [← hfy]; rfl), trivial⟩) ?_
              refine Tri.seq (Tri.regM hT [1] ?_)
              refine ⟨_, Le.refl _, .inl (.inr (OpTri.hcall 1 rfl rfl rfl (at_U (f12_u r.2) 9 15 16 nodO rfl rfl) trivial ⟨rfl, rfl, rfl, trivial⟩ rfl ?_))⟩
              refine Tri.seq ?_
              have hend := off_end hci hoff; obtain ⟨rv, ⟨cst, cp, cg, css⟩⟩ := r; rcases css with _ | ⟨cs, ct⟩
              · have hci : cst = 0 ∨ cst = 1 ∨ cst = 2 := hci; refine Tri.le ⟨252, 0, 420, [(2, .list sgT l), (7, .loc 9 0), (8, .own 11 3), (9, .own 12 3), (10, .int .i64 (i.1 : Int)), (14, .int .i64 cst)], [(9, .box (cnC cst cp cg .nilp .nilp)), (15, .ext (strX none)), (16, .ext (strX none)), (11, .arr (.int .i64) [0, y.1, y.2.1]), (12, .arr (.int .i64) [0, y.2.2.1, y.2.2.2])], G⟩ (Le.weakX rfl rfl rfl rfl ⟨rfl, rfl, rfl, rfl, rfl, rfl, trivial⟩ ⟨⟨_, rfl, Conv.conB (Cnn.mk cst cp cg none) 15 16⟩, ⟨_, rfl, Conv.refl _⟩, ⟨_, rfl, Conv.refl _⟩, ⟨_, rfl, Conv.refl _⟩, ⟨_, rfl, Conv.refl _⟩, trivial⟩) ?_
                refine Tri.seq (Tri.drw hT hm 30 (by kernel_rfl) ?_)
                refine ⟨_, [], trivial, rfl, rfl, fun h => ⟨rfl, rfl, rfl⟩, ?_⟩
                refine ⟨_, [(9, cnC cst cp cg .nilp .nilp, none)], (by exact ⟨rfl, trivial⟩), rfl, (by rfl), fun h => ⟨h, (.inr (.inl ⟨_, _, (by exact ⟨rfl, trivial⟩), (CSpec.ofH (u := [(9, cnC cst cp cg .nilp .nilp, none)]) (FSpec.at (f13_n1 cst cp cg) [9] (by decide) rfl rfl rfl rfl)), (by rfl), rfl, rfl, rfl⟩))⟩, ?_⟩
                refine ⟨_, [], trivial, rfl, rfl, fun h => ⟨rfl, rfl, rfl⟩, ?_⟩
                refine ⟨_, [], trivial, rfl, rfl, fun h => ⟨h, (by first | ((try simp only [decide_eq_true_eq, decide_eq_false_iff_not, toNat_cast] at *); omega) | decide), rfl, rfl, rfl⟩, ?_⟩
                refine ⟨_, [], trivial, rfl, rfl, fun h => ⟨h, lt13, rfl, rfl, rfl⟩, ?_⟩
                refine ⟨_, [], trivial, rfl, rfl, fun h => ⟨h, h, rfl, rfl, rfl⟩, ?_⟩
                refine ⟨_, [], trivial, rfl, rfl, fun h => ⟨h, rfl, rfl, rfl⟩, ?_⟩
                refine ⟨_, [], trivial, rfl, rfl, fun h => ⟨rfl, rfl, rfl⟩, ?_⟩
                refine ⟨_, [(9, cnC cst cp cg .nilp .nilp, none)], (by exact ⟨rfl, trivial⟩), rfl, (by rfl), fun h => ⟨h, (.inr (.inl ⟨_, _, (by exact ⟨rfl, trivial⟩), (CSpec.ofH (u := [(9, cnC cst cp cg .nilp .nilp, none)]) (FSpec.at (f13_n2 cst cp cg) [9] (by decide) rfl rfl rfl rfl)), (by rfl), rfl, rfl, rfl⟩))⟩, ?_⟩
                refine ⟨_, [], trivial, rfl, rfl, fun h => ⟨rfl, rfl, rfl⟩, ?_⟩
                refine ⟨_, [], trivial, rfl, rfl, fun h => ⟨h, (by first | ((try simp only [decide_eq_true_eq, decide_eq_false_iff_not, toNat_cast] at *); omega) | decide), rfl, rfl, rfl⟩, ?_⟩
                refine ⟨_, [], trivial, rfl, rfl, fun h => ⟨h, lt23, rfl, rfl, rfl⟩, ?_⟩
                refine ⟨_, [], trivial, rfl, rfl, fun h => ⟨h, h, rfl, rfl, rfl⟩, ?_⟩
                refine ⟨_, [], trivial, rfl, rfl, fun h => ⟨h, ⟨fun _ => trivial, fun hc => ga h (gn hc)⟩, rfl, rfl, rfl⟩, ?_⟩
                refine ⟨_, [], trivial, rfl, rfl, fun h => ⟨h, rfl, rfl, rfl⟩, ?_⟩
                refine ⟨_, [], trivial, rfl, rfl, fun h => ⟨rfl, rfl, rfl⟩, ?_⟩
                refine ⟨_, [], trivial, rfl, rfl, fun h => ⟨h, (by first | ((try simp only [decide_eq_true_eq, decide_eq_false_iff_not, toNat_cast] at *); omega) | decide), rfl, rfl, rfl⟩, ?_⟩
                refine ⟨_, [], trivial, rfl, rfl, fun h => ⟨h, lt13, rfl, rfl, rfl⟩, ?_⟩
                refine ⟨_, [], trivial, rfl, rfl, fun h => ⟨h, rfl, rfl, rfl⟩, ?_⟩
                refine ⟨_, [], trivial, rfl, rfl, fun h => ⟨h, ⟨fun _ => trivial, fun hc => ga h (gn hc)⟩, rfl, rfl, rfl⟩, ?_⟩
                refine ⟨_, [], trivial, rfl, rfl, fun h => ⟨h, rfl, rfl, rfl⟩, ?_⟩
                refine ⟨_, [], trivial, rfl, rfl, fun h => ⟨rfl, rfl, rfl⟩, ?_⟩
                refine ⟨_, [], trivial, rfl, rfl, fun h => ⟨h, (by first | ((try simp only [decide_eq_true_eq, decide_eq_false_iff_not, toNat_cast] at *); omega) | decide), rfl, rfl, rfl⟩, ?_⟩
                refine ⟨_, [], trivial, rfl, rfl, fun h => ⟨h, lt23, rfl, rfl, rfl⟩, ?_⟩
                refine ⟨_, [], trivial, rfl, rfl, fun h => ⟨h, rfl, rfl, rfl⟩, ?_⟩
                refine ⟨_, [], trivial, rfl, rfl, fun h => ⟨h, ⟨fun _ => trivial, fun hc => ga h (gn hc)⟩, rfl, rfl, rfl⟩, ?_⟩
                refine ⟨⟨fun hc => hc, fun _ => trivial⟩, ?_⟩
                refine ⟨by kernel_rfl, ?_⟩
                refine (Tri.cond ⟨fun h12 => ?_, fun h12 => ?_⟩)
                · exact absurd h12 (by rcases hci with rfl | rfl | rfl <;> simp)
                · refine (Tri.skip ?_)
                  refine Tri.seq (Tri.drw hT hm 38 (by kernel_rfl) ?_)
                  refine ⟨_, [], trivial, rfl, rfl, fun h => ⟨rfl, rfl, rfl⟩, ?_⟩
                  refine ⟨_, [], trivial, rfl, rfl, fun h => ⟨h, rfl, rfl, rfl⟩, ?_⟩
                  refine ⟨⟨fun hc => hc, fun _ => trivial⟩, ?_⟩
                  refine ⟨_, [], trivial, rfl, rfl, fun h => ⟨rfl, rfl, rfl⟩, ?_⟩
                  refine ⟨_, [], trivial, rfl, rfl, fun h => ⟨rfl, rfl, rfl⟩, ?_⟩
                  refine ⟨_, [], trivial, rfl, rfl, fun h => ⟨h, (by first | ((try simp only [decide_eq_true_eq, decide_eq_false_iff_not, toNat_cast] at *); omega) | decide), rfl, rfl, rfl⟩, ?_⟩
                  refine ⟨_, [], trivial, rfl, rfl, fun h => ⟨h, lt13, rfl, rfl, rfl⟩, ?_⟩
                  refine ⟨_, [], trivial, rfl, rfl, fun h => ⟨h, rfl, rfl, rfl⟩, ?_⟩
                  refine ⟨_, [], trivial, rfl, rfl, fun h => ⟨rfl, rfl, rfl⟩, ?_⟩
                  refine ⟨_, [], trivial, rfl, rfl, fun h => ⟨h, (by first | ((try simp only [decide_eq_true_eq, decide_eq_false_iff_not, toNat_cast] at *); omega) | decide), rfl, rfl, rfl⟩, ?_⟩
                  refine ⟨_, [], trivial, rfl, rfl, fun h => ⟨h, lt23, rfl, rfl, rfl⟩, ?_⟩
                  refine ⟨_, [], trivial, rfl, rfl, fun h => ⟨h, h, rfl, rfl, rfl⟩, ?_⟩
                  refine ⟨_, [], trivial, rfl, rfl, fun h => ⟨h, h, rfl, rfl, rfl⟩, ?_⟩
                  refine ⟨⟨fun hc => hc, fun _ => trivial⟩, ?_⟩
                  refine ⟨_, [], trivial, rfl, rfl, fun h => ⟨rfl, rfl, rfl⟩, ?_⟩
                  refine ⟨_, [], trivial, rfl, rfl, fun h => ⟨h, rfl, rfl, rfl⟩, ?_⟩
                  refine ⟨⟨fun _ => trivial, fun hc => (gn hc)⟩, ?_⟩
                  refine ⟨_, [], trivial, rfl, rfl, fun h => ⟨rfl, rfl, rfl⟩, ?_⟩
                  refine ⟨_, [], trivial, rfl, rfl, fun h => ⟨h, rfl, rfl, rfl⟩, ?_⟩
                  refine ⟨⟨fun _ => trivial, fun hc => (gn hc)⟩, ?_⟩
                  refine ⟨_, [], trivial, rfl, rfl, fun h => ⟨rfl, rfl, rfl⟩, ?_⟩
                  refine ⟨_, [(9, cnC cst cp cg .nilp .nilp, none)], (by exact ⟨rfl, trivial⟩), rfl, (by rfl), fun h => ⟨h, (.inr (.inl ⟨_, _, (by exact ⟨rfl, trivial⟩), (CSpec.ofH (u := [(9, cnC cst cp cg .nilp .nilp, none)]) (FSpec.at (f16_n1 cst cp cg (opB_n hci)) [9] (by decide) rfl rfl rfl rfl)), (by rfl), rfl, rfl, rfl⟩))⟩, ?_⟩
                  refine ⟨_, [], trivial, rfl, rfl, fun h => ⟨h, rfl, rfl, rfl⟩, ?_⟩
                  refine ⟨_, [], trivial, rfl, rfl, fun h => ⟨rfl, rfl, rfl⟩, ?_⟩
                  refine ⟨_, [], trivial, rfl, rfl, fun h => ⟨h, rfl, rfl, rfl⟩, ?_⟩
                  refine ⟨_, [], trivial, rfl, rfl, fun h => ⟨h, rfl, rfl, rfl⟩, ?_⟩
                  refine ⟨_, [], trivial, rfl, rfl, fun h => ⟨rfl, rfl, rfl⟩, ?_⟩
                  refine ⟨_, [], trivial, rfl, rfl, fun h => ⟨h, rfl, rfl, rfl⟩, ?_⟩
                  refine ⟨_, [], trivial, rfl, rfl, fun h => ⟨h, ⟨fun _ => trivial, fun hc => ga h (gn hc)⟩, rfl, rfl, rfl⟩, ?_⟩
                  refine ⟨_, [], trivial, rfl, rfl, fun h => ⟨h, h, rfl, rfl, rfl⟩, ?_⟩
                  refine ⟨⟨fun _ => trivial, fun hc => (gn hc)⟩, ?_⟩
                  refine ⟨by kernel_rfl, ?_⟩
                  refine (Tri.cond ⟨fun h13 => ?_, fun h13 => ?_⟩)
                  · exact absurd h13 (by rcases hci with rfl | rfl | rfl <;> simp)
                  · refine (Tri.skip ?_)
                    refine (Tri.reg hT ?_)
                    exact ⟨(i.1 + 1, y), ⟨(by have := hi'; show i.1 + 1 ≤ l.length; omega), (by rw [← hE]; exact hoff)⟩, (by have := hi'; show l.length - (i.1 + 1) < l.length - i.1; omega), Le.weakX rfl rfl rfl rfl ⟨rfl, rfl, rfl, rfl, iv1 (by omega), trivial⟩ ⟨⟨_, rfl, (by rw [← hE]; exact Conv.conX (Cnn.mk cst cp cg none) 15 16)⟩, ⟨_, rfl, (by rw [← hE]; exact Conv.refl _)⟩, ⟨_, rfl, (by rw [← hE]; exact Conv.refl _)⟩, ⟨_, rfl, Conv.refl _⟩, ⟨_, rfl, Conv.refl _⟩, trivial⟩⟩
              · obtain ⟨is, it, hst⟩ := hci; have hst : cst = 3 ∨ cst = 4 ∨ cst = 5 ∨ cst = 6 := hst; refine Tri.le ⟨252, 0, 420, [(2, .list sgT l), (7, .loc 9 0), (8, .own 11 3), (9, .own 12 3), (10, .int .i64 (i.1 : Int)), (14, .int .i64 cst)], [(9, .box (cnC cst cp cg (.loc 15 0) (.loc 16 0))), (15, .box (bxS cs)), (16, .box (bxS ct)), (11, .arr (.int .i64) [0, y.1, y.2.1]), (12, .arr (.int .i64) [0, y.2.2.1, y.2.2.2])], G⟩ (Le.weakX rfl rfl rfl rfl ⟨rfl, rfl, rfl, rfl, rfl, rfl, trivial⟩ ⟨⟨_, rfl, Conv.conB (Cnn.mk cst cp cg (some (cs, ct))) 15 16⟩, ⟨_, rfl, Conv.strB cs⟩, ⟨_, rfl, Conv.strB ct⟩, ⟨_, rfl, Conv.refl _⟩, ⟨_, rfl, Conv.refl _⟩, trivial⟩) ?_
                refine Tri.seq (Tri.drw hT hm 30 (by kernel_rfl) ?_)
                refine ⟨_, [], trivial, rfl, rfl, fun h => ⟨rfl, rfl, rfl⟩, ?_⟩
                refine ⟨_, [(9, cnC cst cp cg (.loc 15 0) (.loc 16 0), none), (15, bxS cs, none), (16, bxS ct, none)], (by exact ⟨rfl, rfl, rfl, trivial⟩), rfl, (by rfl), fun h => ⟨h, (.inr (.inl ⟨_, _, (by exact ⟨rfl, rfl, rfl, trivial⟩), (CSpec.ofH (u := [(9, cnC cst cp cg (.loc 15 0) (.loc 16 0), none), (15, bxS cs, none), (16, bxS ct, none)]) (FSpec.at (f13_h1 cst cp cg cs ct) [9, 15, 16] (by decide) rfl rfl rfl rfl)), (by rfl), rfl, rfl, rfl⟩))⟩, ?_⟩
                refine ⟨_, [], trivial, rfl, rfl, fun h => ⟨rfl, rfl, rfl⟩, ?_⟩
                refine ⟨_, [], trivial, rfl, rfl, fun h => ⟨h, (by first | ((try simp only [decide_eq_true_eq, decide_eq_false_iff_not, toNat_cast] at *); omega) | decide), rfl, rfl, rfl⟩, ?_⟩
                refine ⟨_, [], trivial, rfl, rfl, fun h => ⟨h, lt13, rfl, rfl, rfl⟩, ?_⟩
                refine ⟨_, [], trivial, rfl, rfl, fun h => ⟨h, h, rfl, rfl, rfl⟩, ?_⟩
                refine ⟨_, [], trivial, rfl, rfl, fun h => ⟨h, rfl, rfl, rfl⟩, ?_⟩
                refine ⟨_, [], trivial, rfl, rfl, fun h => ⟨rfl, rfl, rfl⟩, ?_⟩
                refine ⟨_, [(9, cnC cst cp cg (.loc 15 0) (.loc 16 0), none), (15, bxS cs, none), (16, bxS ct, none)], (by exact ⟨rfl, rfl, rfl, trivial⟩), rfl, (by rfl), fun h => ⟨h, (.inr (.inl ⟨_, _, (by exact ⟨rfl, rfl, rfl, trivial⟩), (CSpec.ofH (u := [(9, cnC cst cp cg (.loc 15 0) (.loc 16 0), none), (15, bxS cs, none), (16, bxS ct, none)]) (FSpec.at (f13_h2 cst cp cg cs ct) [9, 15, 16] (by decide) rfl rfl rfl rfl)), (by rfl), rfl, rfl, rfl⟩))⟩, ?_⟩
                refine ⟨_, [], trivial, rfl, rfl, fun h => ⟨rfl, rfl, rfl⟩, ?_⟩
                refine ⟨_, [], trivial, rfl, rfl, fun h => ⟨h, (by first | ((try simp only [decide_eq_true_eq, decide_eq_false_iff_not, toNat_cast] at *); omega) | decide), rfl, rfl, rfl⟩, ?_⟩
                refine ⟨_, [], trivial, rfl, rfl, fun h => ⟨h, lt23, rfl, rfl, rfl⟩, ?_⟩
                refine ⟨_, [], trivial, rfl, rfl, fun h => ⟨h, h, rfl, rfl, rfl⟩, ?_⟩
                refine ⟨_, [], trivial, rfl, rfl, fun h => ⟨h, ⟨fun _ => trivial, fun hc => ga h (gn hc)⟩, rfl, rfl, rfl⟩, ?_⟩
                refine ⟨_, [], trivial, rfl, rfl, fun h => ⟨h, rfl, rfl, rfl⟩, ?_⟩
                refine ⟨_, [], trivial, rfl, rfl, fun h => ⟨rfl, rfl, rfl⟩, ?_⟩
                refine ⟨_, [], trivial, rfl, rfl, fun h => ⟨h, (by first | ((try simp only [decide_eq_true_eq, decide_eq_false_iff_not, toNat_cast] at *); omega) | decide), rfl, rfl, rfl⟩, ?_⟩
                refine ⟨_, [], trivial, rfl, rfl, fun h => ⟨h, lt13, rfl, rfl, rfl⟩, ?_⟩
                refine ⟨_, [], trivial, rfl, rfl, fun h => ⟨h, rfl, rfl, rfl⟩, ?_⟩
                refine ⟨_, [], trivial, rfl, rfl, fun h => ⟨h, ⟨fun _ => trivial, fun hc => ga h (gn hc)⟩, rfl, rfl, rfl⟩, ?_⟩
                refine ⟨_, [], trivial, rfl, rfl, fun h => ⟨h, rfl, rfl, rfl⟩, ?_⟩
                refine ⟨_, [], trivial, rfl, rfl, fun h => ⟨rfl, rfl, rfl⟩, ?_⟩
                refine ⟨_, [], trivial, rfl, rfl, fun h => ⟨h, (by first | ((try simp only [decide_eq_true_eq, decide_eq_false_iff_not, toNat_cast] at *); omega) | decide), rfl, rfl, rfl⟩, ?_⟩
                refine ⟨_, [], trivial, rfl, rfl, fun h => ⟨h, lt23, rfl, rfl, rfl⟩, ?_⟩
                refine ⟨_, [], trivial, rfl, rfl, fun h => ⟨h, rfl, rfl, rfl⟩, ?_⟩
                refine ⟨_, [], trivial, rfl, rfl, fun h => ⟨h, ⟨fun _ => trivial, fun hc => ga h (gn hc)⟩, rfl, rfl, rfl⟩, ?_⟩
                refine ⟨⟨fun hc => hc, fun _ => trivial⟩, ?_⟩
                refine ⟨by kernel_rfl, ?_⟩
                refine (Tri.cond ⟨fun h14 => ?_, fun h14 => ?_⟩)
                · exact absurd h14 (chk3 (hend.pos (by show 3 ≤ cst; omega)))
                · refine (Tri.skip ?_)
                  refine Tri.seq (Tri.drw hT hm 38 (by kernel_rfl) ?_)
                  refine ⟨_, [], trivial, rfl, rfl, fun h => ⟨rfl, rfl, rfl⟩, ?_⟩
                  refine ⟨_, [], trivial, rfl, rfl, fun h => ⟨h, rfl, rfl, rfl⟩, ?_⟩
                  refine ⟨⟨fun hc => hc, fun _ => trivial⟩, ?_⟩
                  refine ⟨_, [], trivial, rfl, rfl, fun h => ⟨rfl, rfl, rfl⟩, ?_⟩
                  refine ⟨_, [], trivial, rfl, rfl, fun h => ⟨rfl, rfl, rfl⟩, ?_⟩
                  refine ⟨_, [], trivial, rfl, rfl, fun h => ⟨h, (by first | ((try simp only [decide_eq_true_eq, decide_eq_false_iff_not, toNat_cast] at *); omega) | decide), rfl, rfl, rfl⟩, ?_⟩
                  refine ⟨_, [], trivial, rfl, rfl, fun h => ⟨h, lt13, rfl, rfl, rfl⟩, ?_⟩
                  refine ⟨_, [], trivial, rfl, rfl, fun h => ⟨h, rfl, rfl, rfl⟩, ?_⟩
                  refine ⟨_, [], trivial, rfl, rfl, fun h => ⟨rfl, rfl, rfl⟩, ?_⟩
                  refine ⟨_, [], trivial, rfl, rfl, fun h => ⟨h, (by first | ((try simp only [decide_eq_true_eq, decide_eq_false_iff_not, toNat_cast] at *); omega) | decide), rfl, rfl, rfl⟩, ?_⟩
                  refine ⟨_, [], trivial, rfl, rfl, fun h => ⟨h, lt23, rfl, rfl, rfl⟩, ?_⟩
                  refine ⟨_, [], trivial, rfl, rfl, fun h => ⟨h, h, rfl, rfl, rfl⟩, ?_⟩
                  refine ⟨_, [], trivial, rfl, rfl, fun h => ⟨h, h, rfl, rfl, rfl⟩, ?_⟩
                  refine ⟨⟨fun hc => hc, fun _ => trivial⟩, ?_⟩
                  refine ⟨_, [], trivial, rfl, rfl, fun h => ⟨rfl, rfl, rfl⟩, ?_⟩
                  refine ⟨_, [], trivial, rfl, rfl, fun h => ⟨h, rfl, rfl, rfl⟩, ?_⟩
                  refine ⟨⟨fun _ => trivial, fun hc => (gn hc)⟩, ?_⟩
                  refine ⟨_, [], trivial, rfl, rfl, fun h => ⟨rfl, rfl, rfl⟩, ?_⟩
                  refine ⟨_, [], trivial, rfl, rfl, fun h => ⟨h, rfl, rfl, rfl⟩, ?_⟩
                  refine ⟨⟨fun _ => trivial, fun hc => (gn hc)⟩, ?_⟩
                  refine ⟨_, [], trivial, rfl, rfl, fun h => ⟨rfl, rfl, rfl⟩, ?_⟩
                  refine ⟨_, [(9, cnC cst cp cg (.loc 15 0) (.loc 16 0), none), (15, bxS cs, none), (16, bxS ct, none)], (by exact ⟨rfl, rfl, rfl, trivial⟩), rfl, (by rfl), fun h => ⟨h, (.inr (.inl ⟨_, _, (by exact ⟨rfl, rfl, rfl, trivial⟩), (CSpec.ofH (u := [(9, cnC cst cp cg (.loc 15 0) (.loc 16 0), none), (15, bxS cs, none), (16, bxS ct, none)]) (FSpec.at (f16_w1 cst cp cg cs ct) [9, 15, 16] (by decide) rfl rfl rfl rfl)), (by rfl), rfl, rfl, rfl⟩))⟩, ?_⟩
                  refine ⟨_, [], trivial, rfl, rfl, fun h => ⟨h, rfl, rfl, rfl⟩, ?_⟩
                  refine ⟨_, [], trivial, rfl, rfl, fun h => ⟨rfl, rfl, rfl⟩, ?_⟩
                  refine ⟨_, [], trivial, rfl, rfl, fun h => ⟨h, rfl, rfl, rfl⟩, ?_⟩
                  refine ⟨_, [], trivial, rfl, rfl, fun h => ⟨h, rfl, rfl, rfl⟩, ?_⟩
                  refine ⟨_, [], trivial, rfl, rfl, fun h => ⟨rfl, rfl, rfl⟩, ?_⟩
                  refine ⟨_, [], trivial, rfl, rfl, fun h => ⟨h, rfl, rfl, rfl⟩, ?_⟩
                  refine ⟨_, [], trivial, rfl, rfl, fun h => ⟨h, ⟨fun _ => trivial, fun hc => ga h (gn hc)⟩, rfl, rfl, rfl⟩, ?_⟩
                  refine ⟨_, [], trivial, rfl, rfl, fun h => ⟨h, h, rfl, rfl, rfl⟩, ?_⟩
                  refine ⟨⟨fun _ => trivial, fun hc => (gn hc)⟩, ?_⟩
                  refine ⟨by kernel_rfl, ?_⟩
                  refine (Tri.cond ⟨fun h15 => ?_, fun h15 => ?_⟩)
                  · exact absurd h15 (chk4 hoff.rng hend)
                  · refine (Tri.skip ?_)
                    refine (Tri.reg hT ?_)
                    exact ⟨(i.1 + 1, y), ⟨(by have := hi'; show i.1 + 1 ≤ l.length; omega), (by rw [← hE]; exact hoff)⟩, (by have := hi'; show l.length - (i.1 + 1) < l.length - i.1; omega), Le.weakX rfl rfl rfl rfl ⟨rfl, rfl, rfl, rfl, iv1 (by omega), trivial⟩ ⟨⟨_, rfl, (by rw [← hE]; exact Conv.conX (Cnn.mk cst cp cg (some (cs, ct))) 15 16)⟩, ⟨_, rfl, (by rw [← hE]; exact Conv.strX cs)⟩, ⟨_, rfl, (by rw [← hE]; exact Conv.strX ct)⟩, ⟨_, rfl, Conv.refl _⟩, ⟨_, rfl, Conv.refl _⟩, trivial⟩⟩
        · refine Tri.exit ?_
          refine Tri.seq (Tri.reg hT ?_)
          refine Tri.ret ?_
          exact ⟨rfl, trivial⟩
end Go.Proofs.YtchiagnggnblaaaDoor.Ac
