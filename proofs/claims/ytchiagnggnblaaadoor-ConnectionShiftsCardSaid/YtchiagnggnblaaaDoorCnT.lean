import Derived.Test.YtchiagnggnblaaaDoorCnS
set_option linter.all false
/- Chapter 21: a rejected segment changes nothing. -/
namespace Go.Proofs.YtchiagnggnblaaaDoor.Ac
open Go Go.Fw Go.Ov Go.Proofs.YtchiagnggnblaaaDoor.Fx
abbrev rC (p g : Hf) (l : List Sg) (i : Nat) : Cnn := runC (new0 p g) (l.take i)
abbrev vwL (z : Bool × Int × Int × Int × Bool × Int) : List AV := [.bool z.1, .int .u32 z.2.1, .int .u32 z.2.2.1, .int .i64 z.2.2.2.1, .bool z.2.2.2.2.1, .int .u32 z.2.2.2.2.2]
theorem f16_w1 (st : Int) (p g : Hf) (s t : SS) : HSpec P G 16 [.loc 0 0, .int .i64 1] (cnH st p g s t) (vwV (vwC ⟨st, p, g, some (s, t)⟩ 1)) (cnH st p g s t) := by
  have := f16_h1 st p g s t
  unfold vwC
  dsimp only
  cases ho : opB st <;> rw [ho] at this
  · rw [if_neg (by decide)] at this ⊢
    exact this
  · rw [if_pos rfl] at this ⊢
    exact this
theorem f16_w2 (st : Int) (p g : Hf) (s t : SS) : HSpec P G 16 [.loc 0 0, .int .i64 2] (cnH st p g s t) (vwV (vwC ⟨st, p, g, some (s, t)⟩ 2)) (cnH st p g s t) := by
  have := f16_h2 st p g s t
  unfold vwC
  dsimp only
  cases ho : opB st <;> rw [ho] at this
  · rw [if_neg (by decide)] at this ⊢
    exact this
  · rw [if_pos rfl] at this ⊢
    exact this
theorem f14_w (st : Int) (p g : Hf) (s t : SS) (B : Int) (is : SInv s B) (it : SInv t B) : HSpec P G 14 [.loc 0 0] (cnH st p g s t) (.int .i64 (sizC ⟨st, p, g, some (s, t)⟩)) (cnH st p g s t) := by
  by_cases h6 : st = 6
  · subst h6
    exact f14_6 p g s t
  · have := f14_h st p g s t B is it h6
    rw [show lenSum s.l + lenSum t.l = sizC ⟨st, p, g, some (s, t)⟩ from (if_neg h6).symm] at this
    exact this
theorem gd_len {l : List Evt} (h : gd (decide ((l.length : Int) ≠ 1)) false = true) : (0 : Int) ≤ 0 ∧ (0 : Int) < l.length := by
  have h9 : l.length = 1 := by
    cases hq : decide ((l.length : Int) ≠ 1) with
    | true => rw [hq] at h; cases h
    | false => have := of_decide_eq_false hq; omega
  omega
theorem n6 {st : Int} (h : st = 0 ∨ st = 1 ∨ st = 2) : st ≠ 6 := by omega
theorem rej_at {l : List Evt} (h : (if decide ((l.length : Int) ≠ 1) = true then true else decide ((l.getD (Int.toNat 0) (Ty.dflt evT)).1 ≠ 7)) = false) : l.length = 1 ∧ l.getD (Int.toNat 0) (Ty.dflt evT) ∈ l ∧ (l.getD (Int.toNat 0) (Ty.dflt evT)).1 = 7 := by
  rw [iteO, Bool.or_eq_false_iff] at h
  have h1 : l.length = 1 := by have := of_decide_eq_false h.1; omega
  exact ⟨h1, getD_mem (by rw [h1]; decide), by simpa using h.2⟩
theorem nod3 : [9, 11, 12].Nodup := by decide
set_option maxRecDepth 16000 in
theorem f5_spec (p g : Hf) (hp : p.isn = 0 ∧ p.high = 0 ∧ p.stamped = false ∧ p.stamp = 0) (hg : g.isn = 0 ∧ g.high = 0 ∧ g.stamped = false ∧ g.stamp = 0) (l : List Sg) (hl : l.length ≤ 140737488351232) :
    PSpec P G 5 [.agg (asA g), .agg (asA p), .list sgT l] (.bool true) := by
  refine pspec_intro hT Tryd.func5 (by decide) rfl rfl (by kernel_rfl) rfl ?_
  refine Tri.seq (Tri.reg hT ?_)
  refine Tri.seq ?_
  refine Tri.seq (Tri.reg hT ?_)
  refine .inl (.inl ⟨_, fun _ => rfl, f7_spec, ?_⟩)
  refine (Tri.cond ⟨fun h1 => ?_, fun h1 => ?_⟩)
  · cases h1
  · refine (Tri.skip ?_)
    refine Tri.seq ?_
    refine Tri.seq (Tri.reg hT ?_)
    refine .inl (.inl ⟨_, fun _ => rfl, f15_spec l hl, ?_⟩)
    refine (Tri.cond ⟨fun h2 => ?_, fun h2 => ?_⟩)
    · refine Tri.seq (Tri.reg hT ?_)
      refine Tri.ret ?_
      exact ⟨rfl, trivial⟩
    · refine (Tri.skip ?_)
      refine Tri.seq (Tri.reg hT ?_)
      refine .inl (.inr (.inr ⟨_, (by exact fun _ => rfl), (f8_spec p g hp hg), ?_⟩))
      refine Tri.seq ?_
      obtain ⟨hl40, hbig⟩ := longL_f h2; refine Tri.le _ (Le.none (X := strX none) rfl rfl) ?_; refine Tri.le _ (Le.none (X := strX none) rfl rfl) ?_; refine Tri.le ⟨109, 0, 20, [(2, .list sgT l), (7, .loc 9 0)], cnU (new0 p g) 9 11 12, G⟩ (Le.weakX rfl rfl rfl rfl ⟨rfl, rfl, trivial⟩ ⟨⟨_, rfl, Conv.conX (new0 p g) 11 12⟩, ⟨_, rfl, Conv.refl _⟩, ⟨_, rfl, Conv.refl _⟩, trivial⟩) ?_
      refine Tri.seq (Tri.reg hT ?_)
      refine (Tri.block ?_)
      refine (Tri.loop (ι := Nat) (fun i => ⟨109, 0, 30, [(2, .list sgT l), (7, .loc 9 0), (8, .int .i64 (i : Int))], [(9, .ext (conX (rC p g l i) 11 12)), (11, .ext (strX (rC p g l i).s1)), (12, .ext (strX (rC p g l i).s2))], G⟩) (fun i => i ≤ l.length) (fun i => l.length - i) (0) ?_ ?_ ?_)
      · exact Nat.zero_le _
      · exact Le.weak rfl rfl rfl rfl ⟨(by first | rfl | exact iv1 (by (try simp only [decide_eq_true_eq, decide_eq_false_iff_not, toNat_cast] at *); omega)), (by first | rfl | exact iv1 (by (try simp only [decide_eq_true_eq, decide_eq_false_iff_not, toNat_cast] at *); omega)), (by first | rfl | exact iv1 (by (try simp only [decide_eq_true_eq, decide_eq_false_iff_not, toNat_cast] at *); omega)), trivial⟩ ⟨rfl, rfl, rfl, trivial⟩
      · intro i hi
        refine Tri.seq ?_
        refine Tri.seq (Tri.reg hT ?_)
        refine (Tri.cond ⟨fun h3 => ?_, fun h3 => ?_⟩)
        · refine (Tri.skip ?_)
          refine Tri.seq (Tri.block ?_)
          have h3' := of_decide_eq_true h3; have hi' : i < l.length := (by omega); have hc := runC_inv (new0_inv p g) (l := l) (i := i) (by omega); have hnx := runC_next (new0 p g) hi'; have hbg := bigE_f (hbig i hi'); generalize hC : rC p g l i = c at *; have hC' : runC (new0 p g) (l.take i) = c := hC; rw [hC'] at hc hnx
          refine Tri.seq (Tri.regM hT [1, 3, 5, 7, 9, 11] ?_)
          refine ⟨_, Le.refl _, .inl (.inr (OpTri.hcall 1 rfl rfl rfl (at_U (f16_u1 c _ hc) 9 11 12 nod3 rfl rfl) trivial ⟨rfl, rfl, rfl, trivial⟩ rfl ?_))⟩
          refine ⟨_, Le.refl _, .inl (.inr (OpTri.hcall 1 rfl rfl rfl (at_U (f16_u2 c _ hc) 9 11 12 nod3 rfl rfl) trivial ⟨rfl, rfl, rfl, trivial⟩ rfl ?_))⟩
          refine ⟨_, Le.refl _, .inl (.inr (OpTri.hcall 1 rfl rfl rfl (at_U (f12_u c) 9 11 12 nod3 rfl rfl) trivial ⟨rfl, rfl, rfl, trivial⟩ rfl ?_))⟩
          refine ⟨_, Le.refl _, .inl (.inr (OpTri.hcall 1 rfl rfl rfl (at_U (f14_u c _ hc) 9 11 12 nod3 rfl rfl) trivial ⟨rfl, rfl, rfl, trivial⟩ rfl ?_))⟩
          refine ⟨_, Le.refl _, .inl (.inr (OpTri.hcall 1 rfl rfl rfl (at_U (f13_u1 c) 9 11 12 nod3 rfl rfl) trivial ⟨rfl, rfl, rfl, trivial⟩ rfl ?_))⟩
          refine ⟨_, Le.refl _, .inl (.inr (OpTri.hcall 1 rfl rfl rfl (at_U (f13_u2 c) 9 11 12 nod3 rfl rfl) trivial ⟨rfl, rfl, rfl, trivial⟩ rfl ?_))⟩
          refine Tri.seq (Tri.drwM hT hm 11 [11] (by kernel_rfl) ?_)
          refine ⟨(by first | ((try simp only [decide_eq_true_eq, decide_eq_false_iff_not, toNat_cast] at *); omega) | decide), ?_⟩
          refine ⟨(by first | ((try simp only [decide_eq_true_eq, decide_eq_false_iff_not, toNat_cast] at *); omega) | decide), ?_⟩
          refine ⟨by kernel_rfl, ?_⟩
          refine ⟨_, Le.refl _, .inl (.inr (OpTri.hcall 1 rfl rfl rfl (segU c _ hc (by omega) (by omega) (l.getD (Int.toNat (i : Int)) (Ty.dflt sgT)) (by rw [toNat_cast]; exact hbg.2) (by rw [toNat_cast]; exact hbg.1) 9 11 12 nod3) trivial ⟨rfl, rfl, rfl, trivial⟩ rfl ?_))⟩
          refine Tri.seq ?_
          refine Tri.seq (Tri.reg hT ?_)
          refine ⟨_, [], trivial, rfl, rfl, fun h => ⟨rfl, rfl, rfl⟩, ?_⟩
          refine ⟨_, [], trivial, rfl, rfl, fun h => ⟨h, gd_len h, rfl, rfl, rfl⟩, ?_⟩
          refine ⟨_, [], trivial, rfl, rfl, fun h => ⟨h, rfl, rfl, rfl⟩, ?_⟩
          refine ⟨_, [], trivial, rfl, rfl, fun h => ⟨h, rfl, rfl, rfl⟩, ?_⟩
          refine ⟨_, [], trivial, rfl, rfl, fun h => ⟨h, rfl, rfl, rfl⟩, ?_⟩
          refine ⟨⟨fun _ => trivial, fun hc => (gn hc)⟩, ?_⟩
          refine (Tri.cond ⟨fun h4 => ?_, fun h4 => ?_⟩)
          · refine Tri.exit ?_
            refine (Tri.reg hT ?_)
            have hE : (segS c (l.getD (Int.toNat (i : Int)) (Ty.dflt sgT))).2 = rC p g l (i + 1) := (by rw [toNat_cast]; exact hnx.symm)
            exact ⟨i + 1, (show i + 1 ≤ l.length by omega), by (try simp only [decide_eq_true_eq, decide_eq_false_iff_not, toNat_cast] at *); omega, Le.weak rfl rfl rfl rfl ⟨(by first | rfl | exact iv1 (by (try simp only [decide_eq_true_eq, decide_eq_false_iff_not, toNat_cast] at *); omega)), (by first | rfl | exact iv1 (by (try simp only [decide_eq_true_eq, decide_eq_false_iff_not, toNat_cast] at *); omega)), (by first | rfl | exact iv1 (by (try simp only [decide_eq_true_eq, decide_eq_false_iff_not, toNat_cast] at *); omega)), trivial⟩ ⟨(congrArg (fun z => some (Chunk.ext (conX z 11 12))) hE), (congrArg (fun z : Cnn => some (Chunk.ext (strX z.s1))) hE), (congrArg (fun z : Cnn => some (Chunk.ext (strX z.s2))) hE), trivial⟩⟩
          · refine (Tri.skip ?_)
            obtain ⟨hx1, hx2, hx3⟩ := rej_at h4; obtain ⟨hs, hd, -⟩ := rej_ok hx2 hx3; have hs : (segS c (l.getD (Int.toNat (i : Int)) (Ty.dflt sgT))).2 = c := hs; have hE : (segS c (l.getD (Int.toNat (i : Int)) (Ty.dflt sgT))).2 = rC p g l (i + 1) := (by rw [toNat_cast]; exact hnx.symm); rw [hs] at hE; refine Tri.le ⟨109, 0, 200, [(2, .list sgT l), (7, .loc 9 0), (8, .int .i64 (i : Int)), (9, .loc 46 0), (10, .loc 47 0), (11, .int .i64 c.st), (12, .int .i64 (sizC c)), (13, .int .i64 (offC c 1)), (14, .int .i64 (offC c 2)), (15, .list evT (segS c (l.getD (Int.toNat (i : Int)) (Ty.dflt sgT))).1)], [(9, .ext (conX c 11 12)), (11, .ext (strX c.s1)), (12, .ext (strX c.s2)), (46, .box (vwL (vwC c 1))), (47, .box (vwL (vwC c 2)))], G⟩ (Le.weak rfl rfl rfl rfl ⟨rfl, rfl, rfl, rfl, rfl, rfl, rfl, rfl, rfl, rfl, trivial⟩ ⟨congrArg (fun z => some (Chunk.ext (conX z 11 12))) hs, congrArg (fun z : Cnn => some (Chunk.ext (strX z.s1))) hs, congrArg (fun z : Cnn => some (Chunk.ext (strX z.s2))) hs, rfl, rfl, trivial⟩) ?_; generalize hev : (segS c (l.getD (Int.toNat (i : Int)) (Ty.dflt sgT))).1 = ev at *; clear hs hnx hC; obtain ⟨cst, cp, cg, css⟩ := c; rcases css with _ | ⟨cs, ct⟩
            · refine Tri.le ⟨109, 0, 200, [(2, .list sgT l), (7, .loc 9 0), (8, .int .i64 (i : Int)), (9, .loc 46 0), (10, .loc 47 0), (11, .int .i64 (Cnn.mk cst cp cg none).st), (12, .int .i64 (sizC (Cnn.mk cst cp cg none))), (13, .int .i64 (offC (Cnn.mk cst cp cg none) 1)), (14, .int .i64 (offC (Cnn.mk cst cp cg none) 2)), (15, .list evT ev)], [(9, .box (cnC cst cp cg .nilp .nilp)), (11, .ext (strX none)), (12, .ext (strX none)), (46, .box (vwL (vwC (Cnn.mk cst cp cg none) 1))), (47, .box (vwL (vwC (Cnn.mk cst cp cg none) 2)))], G⟩ (Le.weakX rfl rfl rfl rfl ⟨rfl, rfl, rfl, rfl, rfl, rfl, rfl, rfl, rfl, rfl, trivial⟩ ⟨⟨_, rfl, Conv.conB (Cnn.mk cst cp cg none) 11 12⟩, ⟨_, rfl, Conv.refl _⟩, ⟨_, rfl, Conv.refl _⟩, ⟨_, rfl, Conv.refl _⟩, ⟨_, rfl, Conv.refl _⟩, trivial⟩) ?_
              refine Tri.seq (Tri.drw hT hm 46 (by kernel_rfl) ?_)
              refine ⟨(by rw [hx1]; decide), ?_⟩
              refine ⟨(by have := hi'; rw [toNat_cast] at *; omega), ?_⟩
              refine ⟨_, [], trivial, rfl, rfl, fun h => ⟨rfl, rfl, rfl⟩, ?_⟩
              refine ⟨_, [(9, cnC cst cp cg .nilp .nilp, none)], (by exact ⟨rfl, trivial⟩), rfl, (by rfl), fun h => ⟨h, (.inr (.inl ⟨_, _, (by exact ⟨rfl, trivial⟩), (CSpec.ofH (u := [(9, cnC cst cp cg .nilp .nilp, none)]) (FSpec.at (f16_n1 cst cp cg (opB_n hc)) [9] (by decide) rfl rfl rfl rfl)), (by rfl), rfl, rfl, rfl⟩))⟩, ?_⟩
              refine ⟨_, [], trivial, rfl, rfl, fun h => ⟨rfl, rfl, rfl⟩, ?_⟩
              refine ⟨_, [], trivial, rfl, rfl, fun h => ⟨h, h, rfl, rfl, rfl⟩, ?_⟩
              refine ⟨⟨fun _ => trivial, fun hc => (gn hc)⟩, ?_⟩
              refine ⟨_, [], trivial, rfl, rfl, fun h => ⟨rfl, rfl, rfl⟩, ?_⟩
              refine ⟨_, [(9, cnC cst cp cg .nilp .nilp, none)], (by exact ⟨rfl, trivial⟩), rfl, (by rfl), fun h => ⟨h, (.inr (.inl ⟨_, _, (by exact ⟨rfl, trivial⟩), (CSpec.ofH (u := [(9, cnC cst cp cg .nilp .nilp, none)]) (FSpec.at (f16_n2 cst cp cg (opB_n hc)) [9] (by decide) rfl rfl rfl rfl)), (by rfl), rfl, rfl, rfl⟩))⟩, ?_⟩
              refine ⟨_, [], trivial, rfl, rfl, fun h => ⟨rfl, rfl, rfl⟩, ?_⟩
              refine ⟨_, [], trivial, rfl, rfl, fun h => ⟨h, h, rfl, rfl, rfl⟩, ?_⟩
              refine ⟨⟨fun _ => trivial, fun hc => (gn hc)⟩, ?_⟩
              refine ⟨_, [], trivial, rfl, rfl, fun h => ⟨rfl, rfl, rfl⟩, ?_⟩
              refine ⟨_, [(9, cnC cst cp cg .nilp .nilp, none)], (by exact ⟨rfl, trivial⟩), rfl, (by rfl), fun h => ⟨h, (.inr (.inl ⟨_, _, (by exact ⟨rfl, trivial⟩), (CSpec.ofH (u := [(9, cnC cst cp cg .nilp .nilp, none)]) (FSpec.at (f12_n cst cp cg) [9] (by decide) rfl rfl rfl rfl)), (by rfl), rfl, rfl, rfl⟩))⟩, ?_⟩
              refine ⟨_, [], trivial, rfl, rfl, fun h => ⟨rfl, rfl, rfl⟩, ?_⟩
              refine ⟨_, [], trivial, rfl, rfl, fun h => ⟨h, h, rfl, rfl, rfl⟩, ?_⟩
              refine ⟨⟨fun _ => trivial, fun hc => (gn hc)⟩, ?_⟩
              refine ⟨_, [], trivial, rfl, rfl, fun h => ⟨rfl, rfl, rfl⟩, ?_⟩
              refine ⟨_, [(9, cnC cst cp cg .nilp .nilp, none)], (by exact ⟨rfl, trivial⟩), rfl, (by rfl), fun h => ⟨h, (.inr (.inl ⟨_, _, (by exact ⟨rfl, trivial⟩), (CSpec.ofH (u := [(9, cnC cst cp cg .nilp .nilp, none)]) (FSpec.at (f14_n cst cp cg (n6 hc)) [9] (by decide) rfl rfl rfl rfl)), (by rfl), rfl, rfl, rfl⟩))⟩, ?_⟩
              refine ⟨_, [], trivial, rfl, rfl, fun h => ⟨rfl, rfl, rfl⟩, ?_⟩
              refine ⟨_, [], trivial, rfl, rfl, fun h => ⟨h, h, rfl, rfl, rfl⟩, ?_⟩
              refine ⟨⟨fun _ => trivial, fun hc => (gn hc)⟩, ?_⟩
              refine ⟨_, [], trivial, rfl, rfl, fun h => ⟨rfl, rfl, rfl⟩, ?_⟩
              refine ⟨_, [(9, cnC cst cp cg .nilp .nilp, none)], (by exact ⟨rfl, trivial⟩), rfl, (by rfl), fun h => ⟨h, (.inr (.inl ⟨_, _, (by exact ⟨rfl, trivial⟩), (CSpec.ofH (u := [(9, cnC cst cp cg .nilp .nilp, none)]) (FSpec.at (f13_n1 cst cp cg) [9] (by decide) rfl rfl rfl rfl)), (by rfl), rfl, rfl, rfl⟩))⟩, ?_⟩
              refine ⟨_, [], trivial, rfl, rfl, fun h => ⟨rfl, rfl, rfl⟩, ?_⟩
              refine ⟨_, [], trivial, rfl, rfl, fun h => ⟨h, h, rfl, rfl, rfl⟩, ?_⟩
              refine ⟨⟨fun _ => trivial, fun hc => (gn hc)⟩, ?_⟩
              refine ⟨_, [], trivial, rfl, rfl, fun h => ⟨rfl, rfl, rfl⟩, ?_⟩
              refine ⟨_, [(9, cnC cst cp cg .nilp .nilp, none)], (by exact ⟨rfl, trivial⟩), rfl, (by rfl), fun h => ⟨h, (.inr (.inl ⟨_, _, (by exact ⟨rfl, trivial⟩), (CSpec.ofH (u := [(9, cnC cst cp cg .nilp .nilp, none)]) (FSpec.at (f13_n2 cst cp cg) [9] (by decide) rfl rfl rfl rfl)), (by rfl), rfl, rfl, rfl⟩))⟩, ?_⟩
              refine ⟨_, [], trivial, rfl, rfl, fun h => ⟨rfl, rfl, rfl⟩, ?_⟩
              refine ⟨_, [], trivial, rfl, rfl, fun h => ⟨h, h, rfl, rfl, rfl⟩, ?_⟩
              refine ⟨⟨fun _ => trivial, fun hc => (gn hc)⟩, ?_⟩
              refine ⟨by kernel_rfl, ?_⟩
              refine (Tri.cond ⟨fun h5 => ?_, fun h5 => ?_⟩)
              · exact absurd h5 (by have hd2 := hd; simp at hd2; simp [hd2, vwC, sizC, offC])
              · refine (Tri.skip ?_)
                refine (Tri.reg hT ?_)
                exact ⟨i + 1, (by have := hi'; show i + 1 ≤ l.length; omega), (by have := hi'; show l.length - (i + 1) < l.length - i; omega), Le.weakX rfl rfl rfl rfl ⟨rfl, rfl, iv1 (by omega), trivial⟩ ⟨⟨_, rfl, (by rw [← hE]; exact Conv.conX (Cnn.mk cst cp cg none) 11 12)⟩, ⟨_, rfl, (by rw [← hE]; exact Conv.refl _)⟩, ⟨_, rfl, (by rw [← hE]; exact Conv.refl _)⟩, trivial⟩⟩
            · obtain ⟨is, it, hst⟩ := hc; refine Tri.le ⟨109, 0, 200, [(2, .list sgT l), (7, .loc 9 0), (8, .int .i64 (i : Int)), (9, .loc 46 0), (10, .loc 47 0), (11, .int .i64 (Cnn.mk cst cp cg (some (cs, ct))).st), (12, .int .i64 (sizC (Cnn.mk cst cp cg (some (cs, ct))))), (13, .int .i64 (offC (Cnn.mk cst cp cg (some (cs, ct))) 1)), (14, .int .i64 (offC (Cnn.mk cst cp cg (some (cs, ct))) 2)), (15, .list evT ev)], [(9, .box (cnC cst cp cg (.loc 11 0) (.loc 12 0))), (11, .box (bxS cs)), (12, .box (bxS ct)), (46, .box (vwL (vwC (Cnn.mk cst cp cg (some (cs, ct))) 1))), (47, .box (vwL (vwC (Cnn.mk cst cp cg (some (cs, ct))) 2)))], G⟩ (Le.weakX rfl rfl rfl rfl ⟨rfl, rfl, rfl, rfl, rfl, rfl, rfl, rfl, rfl, rfl, trivial⟩ ⟨⟨_, rfl, Conv.conB (Cnn.mk cst cp cg (some (cs, ct))) 11 12⟩, ⟨_, rfl, Conv.strB cs⟩, ⟨_, rfl, Conv.strB ct⟩, ⟨_, rfl, Conv.refl _⟩, ⟨_, rfl, Conv.refl _⟩, trivial⟩) ?_
              refine Tri.seq (Tri.drw hT hm 46 (by kernel_rfl) ?_)
              refine ⟨(by rw [hx1]; decide), ?_⟩
              refine ⟨(by have := hi'; rw [toNat_cast] at *; omega), ?_⟩
              refine ⟨_, [], trivial, rfl, rfl, fun h => ⟨rfl, rfl, rfl⟩, ?_⟩
              refine ⟨_, [(9, cnC cst cp cg (.loc 11 0) (.loc 12 0), none), (11, bxS cs, none), (12, bxS ct, none)], (by exact ⟨rfl, rfl, rfl, trivial⟩), rfl, (by rfl), fun h => ⟨h, (.inr (.inl ⟨_, _, (by exact ⟨rfl, rfl, rfl, trivial⟩), (CSpec.ofH (u := [(9, cnC cst cp cg (.loc 11 0) (.loc 12 0), none), (11, bxS cs, none), (12, bxS ct, none)]) (FSpec.at (f16_w1 cst cp cg cs ct) [9, 11, 12] (by decide) rfl rfl rfl rfl)), (by rfl), rfl, rfl, rfl⟩))⟩, ?_⟩
              refine ⟨_, [], trivial, rfl, rfl, fun h => ⟨rfl, rfl, rfl⟩, ?_⟩
              refine ⟨_, [], trivial, rfl, rfl, fun h => ⟨h, h, rfl, rfl, rfl⟩, ?_⟩
              refine ⟨⟨fun _ => trivial, fun hc => (gn hc)⟩, ?_⟩
              refine ⟨_, [], trivial, rfl, rfl, fun h => ⟨rfl, rfl, rfl⟩, ?_⟩
              refine ⟨_, [(9, cnC cst cp cg (.loc 11 0) (.loc 12 0), none), (11, bxS cs, none), (12, bxS ct, none)], (by exact ⟨rfl, rfl, rfl, trivial⟩), rfl, (by rfl), fun h => ⟨h, (.inr (.inl ⟨_, _, (by exact ⟨rfl, rfl, rfl, trivial⟩), (CSpec.ofH (u := [(9, cnC cst cp cg (.loc 11 0) (.loc 12 0), none), (11, bxS cs, none), (12, bxS ct, none)]) (FSpec.at (f16_w2 cst cp cg cs ct) [9, 11, 12] (by decide) rfl rfl rfl rfl)), (by rfl), rfl, rfl, rfl⟩))⟩, ?_⟩
              refine ⟨_, [], trivial, rfl, rfl, fun h => ⟨rfl, rfl, rfl⟩, ?_⟩
              refine ⟨_, [], trivial, rfl, rfl, fun h => ⟨h, h, rfl, rfl, rfl⟩, ?_⟩
              refine ⟨⟨fun _ => trivial, fun hc => (gn hc)⟩, ?_⟩
              refine ⟨_, [], trivial, rfl, rfl, fun h => ⟨rfl, rfl, rfl⟩, ?_⟩
              refine ⟨_, [(9, cnC cst cp cg (.loc 11 0) (.loc 12 0), none), (11, bxS cs, none), (12, bxS ct, none)], (by exact ⟨rfl, rfl, rfl, trivial⟩), rfl, (by rfl), fun h => ⟨h, (.inr (.inl ⟨_, _, (by exact ⟨rfl, rfl, rfl, trivial⟩), (CSpec.ofH (u := [(9, cnC cst cp cg (.loc 11 0) (.loc 12 0), none), (11, bxS cs, none), (12, bxS ct, none)]) (FSpec.at (f12_h cst cp cg cs ct) [9, 11, 12] (by decide) rfl rfl rfl rfl)), (by rfl), rfl, rfl, rfl⟩))⟩, ?_⟩
              refine ⟨_, [], trivial, rfl, rfl, fun h => ⟨rfl, rfl, rfl⟩, ?_⟩
              refine ⟨_, [], trivial, rfl, rfl, fun h => ⟨h, h, rfl, rfl, rfl⟩, ?_⟩
              refine ⟨⟨fun _ => trivial, fun hc => (gn hc)⟩, ?_⟩
              refine ⟨_, [], trivial, rfl, rfl, fun h => ⟨rfl, rfl, rfl⟩, ?_⟩
              refine ⟨_, [(9, cnC cst cp cg (.loc 11 0) (.loc 12 0), none), (11, bxS cs, none), (12, bxS ct, none)], (by exact ⟨rfl, rfl, rfl, trivial⟩), rfl, (by rfl), fun h => ⟨h, (.inr (.inl ⟨_, _, (by exact ⟨rfl, rfl, rfl, trivial⟩), (CSpec.ofH (u := [(9, cnC cst cp cg (.loc 11 0) (.loc 12 0), none), (11, bxS cs, none), (12, bxS ct, none)]) (FSpec.at (f14_w cst cp cg cs ct _ is it) [9, 11, 12] (by decide) rfl rfl rfl rfl)), (by rfl), rfl, rfl, rfl⟩))⟩, ?_⟩
              refine ⟨_, [], trivial, rfl, rfl, fun h => ⟨rfl, rfl, rfl⟩, ?_⟩
              refine ⟨_, [], trivial, rfl, rfl, fun h => ⟨h, h, rfl, rfl, rfl⟩, ?_⟩
              refine ⟨⟨fun _ => trivial, fun hc => (gn hc)⟩, ?_⟩
              refine ⟨_, [], trivial, rfl, rfl, fun h => ⟨rfl, rfl, rfl⟩, ?_⟩
              refine ⟨_, [(9, cnC cst cp cg (.loc 11 0) (.loc 12 0), none), (11, bxS cs, none), (12, bxS ct, none)], (by exact ⟨rfl, rfl, rfl, trivial⟩), rfl, (by rfl), fun h => ⟨h, (.inr (.inl ⟨_, _, (by exact ⟨rfl, rfl, rfl, trivial⟩), (CSpec.ofH (u := [(9, cnC cst cp cg (.loc 11 0) (.loc 12 0), none), (11, bxS cs, none), (12, bxS ct, none)]) (FSpec.at (f13_h1 cst cp cg cs ct) [9, 11, 12] (by decide) rfl rfl rfl rfl)), (by rfl), rfl, rfl, rfl⟩))⟩, ?_⟩
              refine ⟨_, [], trivial, rfl, rfl, fun h => ⟨rfl, rfl, rfl⟩, ?_⟩
              refine ⟨_, [], trivial, rfl, rfl, fun h => ⟨h, h, rfl, rfl, rfl⟩, ?_⟩
              refine ⟨⟨fun _ => trivial, fun hc => (gn hc)⟩, ?_⟩
              refine ⟨_, [], trivial, rfl, rfl, fun h => ⟨rfl, rfl, rfl⟩, ?_⟩
              refine ⟨_, [(9, cnC cst cp cg (.loc 11 0) (.loc 12 0), none), (11, bxS cs, none), (12, bxS ct, none)], (by exact ⟨rfl, rfl, rfl, trivial⟩), rfl, (by rfl), fun h => ⟨h, (.inr (.inl ⟨_, _, (by exact ⟨rfl, rfl, rfl, trivial⟩), (CSpec.ofH (u := [(9, cnC cst cp cg (.loc 11 0) (.loc 12 0), none), (11, bxS cs, none), (12, bxS ct, none)]) (FSpec.at (f13_h2 cst cp cg cs ct) [9, 11, 12] (by decide) rfl rfl rfl rfl)), (by rfl), rfl, rfl, rfl⟩))⟩, ?_⟩
              refine ⟨_, [], trivial, rfl, rfl, fun h => ⟨rfl, rfl, rfl⟩, ?_⟩
              refine ⟨_, [], trivial, rfl, rfl, fun h => ⟨h, h, rfl, rfl, rfl⟩, ?_⟩
              refine ⟨⟨fun _ => trivial, fun hc => (gn hc)⟩, ?_⟩
              refine ⟨by kernel_rfl, ?_⟩
              refine (Tri.cond ⟨fun h6 => ?_, fun h6 => ?_⟩)
              · exact absurd h6 (by have hd2 := hd; simp at hd2; simp [hd2, vwC, sizC, offC])
              · refine (Tri.skip ?_)
                refine (Tri.reg hT ?_)
                exact ⟨i + 1, (by have := hi'; show i + 1 ≤ l.length; omega), (by have := hi'; show l.length - (i + 1) < l.length - i; omega), Le.weakX rfl rfl rfl rfl ⟨rfl, rfl, iv1 (by omega), trivial⟩ ⟨⟨_, rfl, (by rw [← hE]; exact Conv.conX (Cnn.mk cst cp cg (some (cs, ct))) 11 12)⟩, ⟨_, rfl, (by rw [← hE]; exact Conv.strX cs)⟩, ⟨_, rfl, (by rw [← hE]; exact Conv.strX ct)⟩, trivial⟩⟩
        · refine Tri.exit ?_
          refine Tri.seq (Tri.reg hT ?_)
          refine Tri.ret ?_
          exact ⟨rfl, trivial⟩
end Go.Proofs.YtchiagnggnblaaaDoor.Ac
