/- Plain words of chapter 15: buffers by their cells; cutting and taking. -/
import Derived.Test.YtnleiflijccefaaOv7
set_option linter.all false
set_option linter.unusedVariables false
set_option linter.unusedSimpArgs false
namespace Go.Ov
open Go Go.Fw

/-! ### buffers by pairs -/
theorem VB_mem : ∀ {l : List Pc} {E : Int}, VB E l → ∀ q ∈ l, E ≤ pa q
  | [], _, _, _, h => by simp at h
  | o :: l, E, ⟨h0, h1, h2, h3⟩, q, hq => by
    rcases List.mem_cons.1 hq with rfl | hq
    · exact h1
    · have := VB_mem h3 q hq
      show E ≤ q.1
      have : o.1 + (o.2.1.length : Int) ≤ q.1 := this
      omega
theorem valid_pw {l : List Pc} : Valid l ↔ (∀ o ∈ l, OkP o) ∧ l.Pairwise (fun x y => endP x ≤ pa y) := by
  constructor
  · intro hv
    refine ⟨fun o ho => ?_, ?_⟩
    · obtain ⟨i, hi, rfl⟩ := mem_getD (Ty.dflt pT) ho
      exact (hv i hi).1
    · have key : ∀ (l : List Pc), Valid l → l.Pairwise (fun x y => endP x ≤ pa y) := by
        intro l
        induction l with
        | nil => intro _; exact List.Pairwise.nil
        | cons o l ih =>
          intro hv
          obtain ⟨h1, h2, h3⟩ := valid_next hv rfl
          refine List.pairwise_cons.2 ⟨fun q hq => ?_, ih h2⟩
          exact VB_mem (valid_VB h2 h3) q hq
      exact key l hv
  · rintro ⟨h1, h2⟩ j hj
    refine ⟨h1 _ (getD_mem hj), fun h0 => ?_⟩
    have h3 := List.pairwise_iff_getElem.1 h2 (j - 1) j (by omega) hj (by omega)
    have e1 : l.getD (j - 1) (Ty.dflt pT) = l[j - 1]'(by omega) := by
      rw [List.getD_eq_getElem?_getD, List.getElem?_eq_getElem (by omega)]; rfl
    have e2 : l.getD j (Ty.dflt pT) = l[j] := by
      rw [List.getD_eq_getElem?_getD, List.getElem?_eq_getElem hj]; rfl
    rw [e1, e2]; exact h3
def CellOk (c : Cl) : Prop := 0 ≤ c.2.2.1 ∧ c.2.2.1 ≤ c.1 ∧ c.1 < c.2.2.2.1 ∧ c.2.2.2.1 ≤ 4294967296 ∧ 0 ≤ c.2.1 ∧ c.2.1 ≤ 255
theorem cells_ok {l : List Pc} (hv : Valid l) : ∀ c ∈ cells l, CellOk c := by
  intro c hc
  simp only [cells, List.mem_flatMap] at hc
  obtain ⟨o, ho, hc⟩ := hc
  obtain ⟨a1, a2, a3, a4, a5, a6⟩ := (valid_pw.1 hv).1 o ho
  obtain ⟨b1, b2, b3, b4, b5, b6⟩ := mem_cellsOf hc
  unfold CellOk
  have e1 : pa o = o.1 := rfl
  have e2 : (pd o).length = o.2.1.length := rfl
  have e3 : pf o = o.2.2.1 := rfl
  have e4 : pt o = o.2.2.2.1 := rfl
  omega
theorem joinP_mem {l : List Pc} {p q : Pc} (h : q ∈ joinP l p) : q ∈ l ∨ q = p ∨ ∃ r ∈ l, q.2.1 = r.2.1 ++ p.2.1 := by
  rcases List.eq_nil_or_concat l with rfl | ⟨l', r, hl'⟩
  · simp [joinP] at h; exact .inr (.inl h)
  · rw [List.concat_eq_append] at hl'
    subst hl'
    rw [joinP_snoc] at h
    split at h
    · rcases List.mem_append.1 h with h | h
      · exact .inl (by simp [h])
      · simp only [List.mem_singleton] at h
        subst h
        exact .inr (.inr ⟨r, by simp, rfl⟩)
    · simp only [List.mem_append, List.mem_cons, List.not_mem_nil, or_false] at h
      rcases h with h | h | h
      · exact .inl (by simp [h])
      · exact .inl (by simp [h])
      · exact .inr (.inl h)
theorem J_ne (c : List Cl) : ∀ q ∈ J c, q.2.1 ≠ [] := by
  have key : ∀ (c : List Cl) (l : List Pc), (∀ q ∈ l, q.2.1 ≠ []) → ∀ q ∈ (c.map one).foldl joinP l, q.2.1 ≠ [] := by
    intro c
    induction c with
    | nil => intro l h; simpa using h
    | cons x c ih =>
      intro l h
      rw [List.map_cons, List.foldl_cons]
      refine ih _ (fun q hq => ?_)
      rcases joinP_mem hq with h1 | rfl | ⟨r, hr, h1⟩
      · exact h q h1
      · simp [one]
      · rw [h1]; simp [one]
  exact key c [] (by simp)
theorem first_cell {q : Pc} (h : q.2.1 ≠ []) : ∃ b, (q.1, b, q.2.2.1, q.2.2.2.1, ()) ∈ cellsOf q := by
  have := atC_cellsOf q q.1
  have hl : 0 < q.2.1.length := List.length_pos_iff.2 h
  rw [if_pos (by omega)] at this
  exact ⟨_, (atC_some this).1⟩
theorem last_cell {q : Pc} (h : q.2.1 ≠ []) : ∃ b, (q.1 + q.2.1.length - 1, b, q.2.2.1, q.2.2.2.1, ()) ∈ cellsOf q := by
  have := atC_cellsOf q (q.1 + q.2.1.length - 1)
  have hl : 0 < q.2.1.length := List.length_pos_iff.2 h
  rw [if_pos (by omega)] at this
  exact ⟨_, (atC_some this).1⟩
theorem valid_J {m : List Cl} (hs : Sorted m) (hc : ∀ c ∈ m, CellOk c) : Valid (J m) := by
  have hcj : cells (J m) = m := cells_J m (fun x hx => (hc x hx).2.2.2.2)
  have hin : ∀ q ∈ J m, ∀ c ∈ cellsOf q, c ∈ m := fun q hq c hcq => by
    rw [← hcj]; exact List.mem_flatMap.2 ⟨q, hq, hcq⟩
  refine valid_pw.2 ⟨fun q hq => ?_, ?_⟩
  · obtain ⟨b1, h1⟩ := first_cell (J_ne m q hq)
    obtain ⟨b2, h2⟩ := last_cell (J_ne m q hq)
    have k1 := hc _ (hin q hq _ h1)
    have k2 := hc _ (hin q hq _ h2)
    unfold CellOk at k1 k2
    simp only at k1 k2
    refine ⟨J_ne m q hq, ?_, ?_, ?_, ?_, ?_⟩
    · show 0 ≤ q.2.2.1; omega
    · show q.2.2.1 ≤ q.1; omega
    · show q.2.2.2.1 ≤ _; omega
    · show q.1 ≤ q.2.2.2.1; omega
    · show (q.2.1.length : Int) ≤ q.2.2.2.1 - q.1; omega
  · have h1 : Sorted (cells (J m)) := by rw [hcj]; exact hs
    have h2 := (List.pairwise_flatMap.1 h1).2
    refine h2.imp_of_mem (fun {x y} hx hy h => ?_)
    obtain ⟨b1, k1⟩ := last_cell (J_ne m x hx)
    obtain ⟨b2, k2⟩ := first_cell (J_ne m y hy)
    have := h _ k1 _ k2
    simp only at this
    show x.1 + (x.2.1.length : Int) ≤ y.1
    omega
/-- A buffer that is joined as far as it goes is known by its cells. -/
theorem valid_cells {l : List Pc} (hv : Valid l) : ∀ o ∈ l, o.2.1.length ≠ 0 := fun o ho h => ((valid_pw.1 hv).1 o ho).1 (List.length_eq_zero_iff.1 h)

/-! ### cutting -/
theorem cut1_some {a : Int} {x y : Pc} (h : cut1 a x = some y) (hb : InB x) : a < endP y ∧ a ≤ pa y ∧ pa x ≤ pa y ∧ endP y = endP x ∧ pf y = pf x ∧ pt y = pt x := by
  unfold cut1 at h
  split at h
  · cases h
  · rename_i h1
    split at h
    · rename_i h2
      cases h
      have e := partP_inB hb (a := a) (b := endP x) (by omega) (by omega) (Int.le_refl _)
      refine ⟨by rw [e.2]; omega, by show a ≤ a; omega, by show pa x ≤ a; omega, e.2, rfl, rfl⟩
    · cases h
      exact ⟨by omega, by omega, by omega, rfl, rfl, rfl⟩
theorem cutL_cons (o : Pc) (l : List Pc) (a : Int) : cutL (o :: l) a = (cut1 a o).toList ++ cutL l a := by
  unfold cutL
  rw [List.filterMap_cons]
  cases cut1 a o <;> rfl
theorem valid_cutL {l : List Pc} (hv : Valid l) (a : Int) : Valid (cutL l a) := by
  have hb := valid_inB hv
  obtain ⟨h1, h2⟩ := valid_pw.1 hv
  refine valid_pw.2 ⟨fun q hq => ?_, ?_⟩
  · obtain ⟨o, ho, hc⟩ := List.mem_filterMap.1 hq
    obtain ⟨c1, c2, c3, c4, c5, c6⟩ := cut1_some hc (hb o ho)
    obtain ⟨a1, a2, a3, a4, a5, a6⟩ := h1 o ho
    have e1 : endP q = pa q + (pd q).length := rfl
    have e2 : endP o = pa o + (pd o).length := rfl
    refine ⟨fun h => ?_, by omega, by omega, by omega, by omega, by omega⟩
    rw [h] at e1
    simp at e1
    unfold cut1 at hc
    split at hc
    · cases hc
    · split at hc
      · cases hc
        have e3 : pa (partP o a (endP o)) = a := rfl
        omega
      · cases hc
        exact a1 h
  · unfold cutL
    rw [List.pairwise_filterMap]
    refine h2.imp_of_mem (fun {x y} hx hy h => ?_)
    intro x' hx' y' hy'
    have k1 := cut1_some hx' (hb x hx)
    have k2 := cut1_some hy' (hb y hy)
    omega
theorem atC_cut1 {o : Pc} (hb : InB o) (a b : Int) : atC (cells (cut1 a o).toList) b = if a ≤ b then atC (cellsOf o) b else none := by
  have hb1 := hb.1
  have e1 : endP o = o.1 + o.2.1.length := rfl
  have e2 : pa o = o.1 := rfl
  unfold cut1
  split
  · show atC [] b = _
    rw [atC_cellsOf]
    by_cases h : a ≤ b
    · rw [if_pos h, if_neg (by omega)]; rfl
    · rw [if_neg h]; rfl
  · split
    · show atC (cells [partP o a (endP o)]) b = _
      rw [cells_cons, cells_nil, List.append_nil, atC_partP o a (endP o) (by omega) (by omega) (by omega), atC_cellsOf]
      by_cases h : a ≤ b
      · rw [if_pos h]
        by_cases h3 : b < endP o
        · rw [if_pos ⟨h, h3⟩, if_pos (by omega)]
        · rw [if_neg (by omega), if_neg (by omega)]
      · rw [if_neg (by omega), if_neg h]
    · show atC (cells [o]) b = _
      rw [cells_cons, cells_nil, List.append_nil, atC_cellsOf]
      by_cases h : a ≤ b
      · rw [if_pos h]
      · rw [if_neg h, if_neg (by omega)]
theorem atC_cutL {l : List Pc} (hb : ∀ x ∈ l, InB x) (a b : Int) : atC (cells (cutL l a)) b = if a ≤ b then atC (cells l) b else none := by
  induction l with
  | nil => simp [cutL, cells, atC]
  | cons o l ih =>
    rw [cutL_cons, cells_append, atC_append, atC_cut1 (hb o (by simp)), ih (fun x hx => hb x (by simp [hx])), cells_cons, atC_append]
    split <;> simp
theorem cells_cutL {l : List Pc} (hv : Valid l) (a : Int) : cells (cutL l a) = (cells l).filter (fun x => decide (a ≤ x.1)) := by
  refine sorted_ext (sorted_cells (valid_cutL hv a)) (sorted_filter (sorted_cells hv) _) (fun b => ?_)
  rw [atC_cutL (valid_inB hv), atC_filter (sorted_cells hv) (fun z => decide (a ≤ z))]
  simp
theorem cut1_cut1 {o : Pc} (hb : InB o) {a b : Int} (h : a ≤ b) : (cut1 a o).bind (cut1 b) = cut1 b o := by
  have e1 : endP o = o.1 + o.2.1.length := rfl
  have e2 : pa o = o.1 := rfl
  by_cases h1 : endP o ≤ a
  · rw [cut1, if_pos h1]
    rw [cut1, if_pos (by omega)]; rfl
  by_cases h2 : pa o < a
  · have ec : cut1 a o = some (partP o a (endP o)) := by rw [cut1, if_neg h1, if_pos h2]
    have ep := partP_inB hb (a := a) (b := endP o) (by omega) (by omega) (Int.le_refl _)
    rw [ec]
    show cut1 b (partP o a (endP o)) = cut1 b o
    by_cases h3 : endP o ≤ b
    · rw [cut1, ep.2, if_pos h3, cut1, if_pos h3]
    · rw [cut1, ep.2, if_neg h3, cut1, if_neg h3]
      have e3 : pa (partP o a (endP o)) = a := rfl
      rw [if_pos (show pa o < b by omega)]
      have e4 : ∀ c, a ≤ c → partP (partP o a (endP o)) c (endP o) = partP o c (endP o) := by
        intro c hc
        show (c, ((((pd o).take (endP o - pa o).toNat).drop (a - pa o).toNat).take (endP o - a).toNat).drop (c - a).toNat, pf o, pt o, ()) = (c, ((pd o).take (endP o - pa o).toNat).drop (c - pa o).toNat, pf o, pt o, ())
        have e5 : (endP o - pa o).toNat = (pd o).length := by show (o.1 + (o.2.1.length : Int) - o.1).toNat = o.2.1.length; omega
        rw [e5, List.take_length]
        have e6 : (((pd o).drop (a - pa o).toNat).take (endP o - a).toNat) = (pd o).drop (a - pa o).toNat := List.take_of_length_le (by rw [List.length_drop]; show o.2.1.length - (a - o.1).toNat ≤ (o.1 + (o.2.1.length : Int) - a).toNat; omega)
        rw [e6, List.drop_drop]
        congr 3
        show (a - o.1).toNat + (c - a).toNat = (c - o.1).toNat
        omega
      by_cases h4 : a < b
      · rw [if_pos (by rw [e3]; exact h4), e4 b h]
      · have : a = b := by omega
        subst this
        rw [if_neg (by rw [e3]; omega)]
  · have ec : cut1 a o = some o := by rw [cut1, if_neg h1, if_neg h2]
    rw [ec]; rfl
theorem cutL_cutL {l : List Pc} (hb : ∀ x ∈ l, InB x) {a b : Int} (h : a ≤ b) : cutL (cutL l a) b = cutL l b := by
  unfold cutL
  rw [List.filterMap_filterMap]
  induction l with
  | nil => rfl
  | cons o l ih =>
    rw [List.filterMap_cons, List.filterMap_cons, cut1_cut1 (hb o (by simp)) h, ih (fun x hx => hb x (by simp [hx]))]
theorem lenSum_cells (l : List Pc) : lenSum l = (cells l).length := (cells_len l).symm
/-- Taking looks at bytes only. -/
theorem takeF_ext {l m : List Pc} {a : Int} (hv : Valid l) (hm : Valid m) (h : ∀ b, a ≤ b → (atC (cells l) b).map (·.2.1) = (atC (cells m) b).map (·.2.1)) : takeF l a = takeF m a := by
  have t1 := takeOk hv a
  have t2 := takeOk hm a
  have hlen : (takeF l a).1.length = (takeF m a).1.length := by
    rcases Nat.lt_trichotomy (takeF l a).1.length (takeF m a).1.length with h1 | h1 | h1
    · obtain ⟨o, ho, _⟩ := t2.some_ _ h1
      have := h (a + (takeF l a).1.length) (by omega)
      rw [t1.none_, ho] at this; cases this
    · exact h1
    · obtain ⟨o, ho, _⟩ := t1.some_ _ h1
      have := h (a + (takeF m a).1.length) (by omega)
      rw [t2.none_, ho] at this; cases this
  have hbytes : (takeF l a).1 = (takeF m a).1 := by
    refine ext_getD 0 hlen (fun k hk => ?_)
    obtain ⟨o, ho, e1⟩ := t1.some_ k hk
    obtain ⟨o', ho', e2⟩ := t2.some_ k (by omega)
    have := h (a + k) (by omega)
    rw [ho, ho'] at this
    simp only [Option.map_some, Option.some.injEq] at this
    rw [e1, e2] at this
    exact UInt8.toNat_inj.1 (by omega)
  exact Prod.ext hbytes (by rw [t1.end_, t2.end_, hbytes])
theorem takeF_cutL {l : List Pc} (hv : Valid l) (a : Int) : takeF (cutL l a) a = takeF l a :=
  takeF_ext (valid_cutL hv a) hv (fun b hb => by rw [atC_cutL (valid_inB hv), if_pos hb])
theorem cells_count {m : List Cl} (hs : Sorted m) (a : Int) : ∀ n : Nat, (∀ k : Nat, k < n → ∃ o, atC m (a + (k : Int)) = some o) →
    (m.filter (fun x => decide (a ≤ x.1))).length = n + (m.filter (fun x => decide (a + (n : Int) ≤ x.1))).length
  | 0, _ => by simp
  | n + 1, h => by
    have ih := cells_count hs a n (fun k hk => h k (by omega))
    obtain ⟨o, ho⟩ := h n (by omega)
    have e := hi_some hs ((a, [], 0, 0, ()) : Pc) n ho
    have e' : m.filter (fun x => decide (a + (n : Int) ≤ x.1)) = o :: m.filter (fun x => decide (a + ((n + 1 : Nat) : Int) ≤ x.1)) := e
    rw [ih, e', List.length_cons]
    omega
structure CutsOk (l : List Pc) (a : Int) : Prop where
  c : Valid (cutL l a)
  rest : Valid (cutL l (takeF l a).2)
  same : cutL (cutL l a) (takeF l a).2 = cutL l (takeF l a).2
  again : cutL (cutL l a) a = cutL l a
  size : lenSum (cutL l a) = (takeF l a).1.length + lenSum (cutL l (takeF l a).2)
  beyond : ∀ q r, cutL l (takeF l a).2 = q :: r → a ≤ pa q ∧ ((takeF l a).1 ≠ [] → 0 ≤ a ∧ ((takeF l a).1.length : Int) < pa q - a ∧ pa q ≤ 4294967296)
theorem cutsOk {l : List Pc} (hv : Valid l) (a : Int) : CutsOk l a := by
  have tk := takeOk hv a
  have hle : a ≤ (takeF l a).2 := by rw [tk.end_]; omega
  refine ⟨valid_cutL hv a, valid_cutL hv _, cutL_cutL (valid_inB hv) hle, cutL_cutL (valid_inB hv) (Int.le_refl _), ?_, ?_⟩
  · rw [lenSum_cells, lenSum_cells, cells_cutL hv, cells_cutL hv, tk.end_]
    have := cells_count (sorted_cells hv) a (takeF l a).1.length (fun k hk => by
      obtain ⟨o, ho, _⟩ := tk.some_ k hk
      exact ⟨o, ho⟩)
    omega
  · intro q r hq
    have hvr := valid_cutL hv (takeF l a).2
    rw [hq] at hvr
    have hne := ((valid_pw.1 hvr).1 q (by simp))
    obtain ⟨b, hb⟩ := first_cell hne.1
    have hmem : (q.1, b, q.2.2.1, q.2.2.2.1, ()) ∈ cells (cutL l (takeF l a).2) := by rw [hq, cells_cons]; exact List.mem_append_left _ hb
    rw [cells_cutL hv] at hmem
    obtain ⟨h1, h2⟩ := List.mem_filter.1 hmem
    simp only [decide_eq_true_eq] at h2
    rw [tk.end_] at h2
    have h3 := atC_mem (sorted_cells hv) h1
    have hne2 : q.1 ≠ a + ((takeF l a).1.length : Int) := fun e => by
      rw [show ((q.1, b, q.2.2.1, q.2.2.2.1, ()) : Cl).1 = q.1 from rfl, e, tk.none_] at h3
      cases h3
    have h4 := cells_rng hv _ h1
    simp only at h4
    refine ⟨by show a ≤ q.1; omega, fun hs => ?_⟩
    obtain ⟨o, ho, _⟩ := tk.some_ 0 (List.length_pos_iff.2 hs)
    have h5 := cells_rng hv o (atC_some ho).1
    have h6 := (atC_some ho).2
    have e : pa q = q.1 := rfl
    refine ⟨by omega, by omega, by omega⟩
end Go.Ov
