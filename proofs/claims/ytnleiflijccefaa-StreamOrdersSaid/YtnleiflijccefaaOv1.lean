/- Plain words of chapter 15: buffers of pieces, their cells, sorted lists of cells, counting. -/
import Derived.Test.YtnleiflijccefaaFw19
set_option linter.all false
set_option linter.unusedVariables false
set_option linter.unusedSimpArgs false
namespace Go.Ov
open Go Go.Fw

abbrev pT : Ty := .cons (.int .i64) (.cons .str (.cons (.int .i64) (.cons (.int .i64) .nil)))
abbrev cT : Ty := .cons (.int .i64) (.cons (.int .u8) (.cons (.int .i64) (.cons (.int .i64) .nil)))
abbrev Pc := Int × List UInt8 × Int × Int × Unit
abbrev Cl := Int × Int × Int × Int × Unit
abbrev pv (x : Pc) : AV := .agg [.int .i64 x.1, .str x.2.1, .int .i64 x.2.2.1, .int .i64 x.2.2.2.1]
abbrev cv (x : Cl) : AV := .agg [.int .i64 x.1, .int .u8 x.2.1, .int .i64 x.2.2.1, .int .i64 x.2.2.2.1]
abbrev pa (x : Pc) : Int := x.1
abbrev pd (x : Pc) : List UInt8 := x.2.1
abbrev pf (x : Pc) : Int := x.2.2.1
abbrev pt (x : Pc) : Int := x.2.2.2.1
def endP (x : Pc) : Int := pa x + (pd x).length

abbrev bytesOf (s : List UInt8) : List Int := intsOf s
abbrev strOfNums (l : List Int) : List UInt8 := l.map Fw.byteOf
def bt (s : List UInt8) (i : Int) : Int := ((s.getD i.toNat 0).toNat : Int)
theorem B_len (d : List UInt8) : (bytesOf d).length = d.length := by simp [intsOf]
theorem strOf_B (d : List UInt8) : strOfNums (bytesOf d) = d := by
  induction d with
  | nil => rfl
  | cons x r ih =>
    have : Fw.byteOf (x.toNat : Int) = x := by simp [Fw.byteOf]
    simp only [intsOf, List.map_cons, this, List.map_map] at ih ⊢
    rw [ih]
theorem B_inj {d e : List UInt8} (h : bytesOf d = bytesOf e) : d = e := by rw [← strOf_B d, h, strOf_B e]
theorem B_range (d : List UInt8) : ∀ x ∈ bytesOf d, 0 ≤ x ∧ x ≤ 255 := by
  intro x hx
  obtain ⟨b, _, rfl⟩ := List.mem_map.1 hx
  have := b.toNat_lt
  omega
theorem B_strOf (xs : List Int) (h : ∀ x ∈ xs, 0 ≤ x ∧ x ≤ 255) : bytesOf (strOfNums xs) = xs := by
  show (List.map Fw.byteOf xs).map (fun b => (b.toNat : Int)) = xs
  rw [List.map_map]
  conv => rhs; rw [← List.map_id xs]
  refine List.map_congr_left fun x hx => ?_
  obtain ⟨h0, h1⟩ := h x hx
  simp only [Function.comp, id, Fw.byteOf, UInt8.toNat_ofNat']
  omega
theorem strOf_size (xs : List Int) : (strOfNums xs).length = xs.length := by simp
theorem bt_B (s : List UInt8) (i : Int) : bt s i = (bytesOf s).getD i.toNat 0 := by
  unfold bt
  show _ = (s.map fun b => (b.toNat : Int)).getD i.toNat 0
  rcases Nat.lt_or_ge i.toNat s.length with h | h
  · simp [List.getD_eq_getElem?_getD, List.getElem?_eq_getElem h]
  · simp [List.getD_eq_getElem?_getD, List.getElem?_eq_none h]
theorem B_append (d e : List UInt8) : bytesOf (d ++ e) = bytesOf d ++ bytesOf e := by simp [intsOf]
theorem bt_in (s : List UInt8) (i : Int) : 0 ≤ bt s i ∧ bt s i ≤ 255 := by
  have := (s.getD i.toNat 0).toNat_lt
  unfold bt
  omega

/-! ### cells and pieces -/
def mkC (f t : Int) : Int → List Int → List Cl
  | _, [] => []
  | a, b :: bs => (a, b, f, t, ()) :: mkC f t (a + 1) bs
def cellsOf (p : Pc) : List Cl := mkC p.2.2.1 p.2.2.2.1 p.1 (bytesOf p.2.1)
def cells (l : List Pc) : List Cl := l.flatMap cellsOf
theorem mkC_append (f t : Int) : ∀ (xs ys : List Int) (a : Int), mkC f t a (xs ++ ys) = mkC f t a xs ++ mkC f t (a + xs.length) ys
  | [], ys, a => by simp [mkC]
  | x :: xs, ys, a => by
    simp only [List.cons_append, mkC, mkC_append f t xs ys (a + 1), List.length_cons]
    congr 3
    omega
theorem mkC_length (f t : Int) : ∀ (xs : List Int) (a : Int), (mkC f t a xs).length = xs.length
  | [], a => rfl
  | x :: xs, a => by simp [mkC, mkC_length f t xs (a + 1)]
theorem cellsOf_length (p : Pc) : (cellsOf p).length = p.2.1.length := by rw [cellsOf, mkC_length, B_len]
theorem cells_append (l m : List Pc) : cells (l ++ m) = cells l ++ cells m := by simp [cells]
theorem cells_cons (p : Pc) (l : List Pc) : cells (p :: l) = cellsOf p ++ cells l := by simp [cells]
theorem cells_nil : cells [] = [] := rfl
theorem mem_mkC {f t : Int} {x : Cl} : ∀ {xs : List Int} {a : Int}, x ∈ mkC f t a xs → a ≤ x.1 ∧ x.1 < a + xs.length ∧ x.2.1 ∈ xs ∧ x.2.2.1 = f ∧ x.2.2.2.1 = t ∧ x.2.1 = xs.getD (x.1 - a).toNat 0
  | [], a, h => by simp [mkC] at h
  | b :: bs, a, h => by
    simp only [mkC, List.mem_cons] at h
    rcases h with rfl | h
    · simp
      omega
    · obtain ⟨h1, h2, h3, h4, h5, h6⟩ := mem_mkC h
      refine ⟨by omega, by simp only [List.length_cons]; omega, List.mem_cons_of_mem _ h3, h4, h5, ?_⟩
      have e : (x.1 - a).toNat = (x.1 - (a + 1)).toNat + 1 := by omega
      rw [e, List.getD_cons_succ]
      exact h6
theorem mem_cellsOf {p : Pc} {x : Cl} (h : x ∈ cellsOf p) : p.1 ≤ x.1 ∧ x.1 < p.1 + p.2.1.length ∧ (0 ≤ x.2.1 ∧ x.2.1 ≤ 255) ∧ x.2.2.1 = p.2.2.1 ∧ x.2.2.2.1 = p.2.2.2.1 ∧ x.2.1 = bt p.2.1 (x.1 - p.1) := by
  obtain ⟨h1, h2, h3, h4, h5, h6⟩ := mem_mkC h
  rw [B_len] at h2
  exact ⟨h1, h2, B_range _ _ h3, h4, h5, by rw [bt_B]; exact h6⟩

/-- A piece of one byte. -/
def one (c : Cl) : Pc := (c.1, strOfNums [c.2.1], c.2.2.1, c.2.2.2.1, ())
def joinP (l : List Pc) (p : Pc) : List Pc :=
  match l.getLast? with
  | none => [p]
  | some q => if q.1 + (q.2.1.length : Int) = p.1 ∧ q.2.2.1 = p.2.2.1 ∧ q.2.2.2.1 = p.2.2.2.1 then l.dropLast ++ [(q.1, q.2.1 ++ p.2.1, p.2.2.1, p.2.2.2.1, ())] else l ++ [p]
theorem joinP_nil (p : Pc) : joinP [] p = [p] := rfl
theorem joinP_snoc (l : List Pc) (q p : Pc) : joinP (l ++ [q]) p = if q.1 + (q.2.1.length : Int) = p.1 ∧ q.2.2.1 = p.2.2.1 ∧ q.2.2.2.1 = p.2.2.2.1 then l ++ [(q.1, q.2.1 ++ p.2.1, p.2.2.1, p.2.2.2.1, ())] else l ++ [q, p] := by
  simp [joinP]
def J (c : List Cl) : List Pc := (c.map one).foldl joinP []
theorem J_append (c d : List Cl) : J (c ++ d) = (d.map one).foldl joinP (J c) := by simp [J]
theorem J_snoc (c : List Cl) (x : Cl) : J (c ++ [x]) = joinP (J c) (one x) := by simp [J]
theorem size_append (d e : List UInt8) : (d ++ e).length = d.length + e.length := by
  rw [← B_len, B_append, List.length_append, B_len, B_len]
theorem append_assoc' (a b c : List UInt8) : a ++ b ++ c = a ++ (b ++ c) := B_inj (by simp [B_append])
/-- Byte by byte, or at once. -/
theorem fold_bytes (f t : Int) : ∀ (bs : List Int) (hb : ∀ x ∈ bs, 0 ≤ x ∧ x ≤ 255) (l : List Pc) (q : Pc) (hq2 : q.2.2.1 = f) (hq3 : q.2.2.2.1 = t),
    ((mkC f t (q.1 + (q.2.1.length : Int)) bs).map one).foldl joinP (l ++ [q]) = l ++ [(q.1, q.2.1 ++ strOfNums bs, f, t, ())]
  | [], hb, l, q, hq2, hq3 => by
    subst hq2 hq3
    have e : q.2.1 ++ strOfNums [] = q.2.1 := B_inj (by rw [B_append, B_strOf _ (by simp)]; simp)
    simp [mkC, e]
  | b :: bs, hb, l, q, hq2, hq3 => by
    simp only [mkC, List.map_cons, List.foldl_cons]
    have h1 : joinP (l ++ [q]) (one (q.1 + (q.2.1.length : Int), b, f, t, ())) = l ++ [(q.1, q.2.1 ++ strOfNums [b], f, t, ())] := by
      rw [joinP_snoc]
      rw [if_pos ⟨rfl, hq2, hq3⟩]
      rfl
    rw [h1]
    have h2 := fold_bytes f t bs (fun x hx => hb x (List.mem_cons_of_mem _ hx)) l (q.1, q.2.1 ++ strOfNums [b], f, t, ()) rfl rfl
    have h3 : q.1 + (q.2.1.length : Int) + 1 = q.1 + ((q.2.1 ++ strOfNums [b]).length : Int) := by
      rw [size_append, strOf_size]
      simp
      try omega
    rw [h3]
    rw [h2]
    congr 3
    rw [append_assoc']
    have e9 : strOfNums [b] ++ strOfNums bs = strOfNums (b :: bs) := B_inj (by
      rw [B_append, B_strOf _ (fun x hx => hb x (by simp at hx; simp [hx])), B_strOf _ (fun x hx => hb x (List.mem_cons_of_mem _ hx)), B_strOf _ hb]
      rfl)
    rw [e9]
    rfl
theorem fold_piece (l : List Pc) (p : Pc) (hp : p.2.1.length ≠ 0) : ((cellsOf p).map one).foldl joinP l = joinP l p := by
  have hb := B_range p.2.1
  have hs := strOf_B p.2.1
  unfold cellsOf
  cases hB : bytesOf p.2.1 with
  | nil => exact absurd (by rw [← B_len, hB]; rfl) hp
  | cons b bs =>
    rw [hB] at hb hs
    simp only [mkC, List.map_cons, List.foldl_cons]
    have hbs : ∀ x ∈ bs, 0 ≤ x ∧ x ≤ 255 := fun x hx => hb x (List.mem_cons_of_mem _ hx)
    have hb1 : ∀ x ∈ [b], 0 ≤ x ∧ x ≤ 255 := fun x hx => hb x (by simp at hx; simp [hx])
    have e1 : strOfNums [b] ++ strOfNums bs = p.2.1 := by
      rw [← hs]
      exact B_inj (by rw [B_append, B_strOf _ hb1, B_strOf _ hbs, B_strOf _ hb]; rfl)
    have hone : ∀ (q : Pc) (l' : List Pc), q.2.1 = strOfNums [b] → q.1 = p.1 → q.2.2.1 = p.2.2.1 → q.2.2.2.1 = p.2.2.2.1 →
        ((mkC p.2.2.1 p.2.2.2.1 (p.1 + 1) bs).map one).foldl joinP (l' ++ [q]) = l' ++ [p] := by
      intro q l' h1 h2 h3 h4
      have := fold_bytes p.2.2.1 p.2.2.2.1 bs hbs l' q h3 h4
      rw [h1, h2, strOf_size] at this
      simp only [List.length_cons, List.length_nil] at this
      rw [e1] at this
      exact this
    rcases List.eq_nil_or_concat l with rfl | ⟨l', q, hl'⟩
    · simpa [joinP_nil] using hone (one (p.1, b, p.2.2.1, p.2.2.2.1, ())) [] rfl rfl rfl rfl
    · rw [List.concat_eq_append] at hl'
      subst hl'
      rw [joinP_snoc, joinP_snoc]
      by_cases hj : q.1 + (q.2.1.length : Int) = p.1 ∧ q.2.2.1 = p.2.2.1 ∧ q.2.2.2.1 = p.2.2.2.1
      · rw [if_pos hj, if_pos (by simpa [one] using hj)]
        have := fold_bytes p.2.2.1 p.2.2.2.1 bs hbs l' (q.1, q.2.1 ++ strOfNums [b], p.2.2.1, p.2.2.2.1, ()) rfl rfl
        simp only [one]
        have e2 : q.1 + ((q.2.1 ++ strOfNums [b]).length : Int) = p.1 + 1 := by
          rw [size_append, strOf_size]
          simp
          omega
        simp only [e2] at this
        rw [this, append_assoc', e1]
      · rw [if_neg hj, if_neg (by simpa [one] using hj)]
        have := hone (one (p.1, b, p.2.2.1, p.2.2.2.1, ())) (l' ++ [q]) rfl rfl rfl rfl
        simpa using this
theorem fold_pieces : ∀ (m l : List Pc) (hm : ∀ p ∈ m, p.2.1.length ≠ 0), m.foldl joinP l = ((cells m).map one).foldl joinP l
  | [], l, _ => rfl
  | p :: m, l, hm => by
    rw [List.foldl_cons, cells_cons, List.map_append, List.foldl_append, fold_piece l p (hm p (by simp)), fold_pieces m _ (fun q hq => hm q (by simp [hq]))]
theorem fold_J (m : List Pc) (hm : ∀ p ∈ m, p.2.1.length ≠ 0) : m.foldl joinP [] = J (cells m) := fold_pieces m [] hm
/-- Joining keeps the cells. -/
theorem cells_joinP (l : List Pc) (p : Pc) : cells (joinP l p) = cells l ++ cellsOf p := by
  rcases List.eq_nil_or_concat l with rfl | ⟨l', q, hl'⟩
  · simp [joinP_nil, cells]
  · rw [List.concat_eq_append] at hl'
    subst hl'
    rw [joinP_snoc]
    split
    · rename_i hj
      obtain ⟨h1, h2, h3⟩ := hj
      simp only [cells_append, cells_cons, cells_nil, List.append_nil, List.append_assoc]
      congr 1
      simp only [cellsOf, B_append, mkC_append, B_len, h1, h2, h3]
    · simp [cells_append, cells_cons, cells_nil]
theorem cellsOf_one (c : Cl) (h : 0 ≤ c.2.1 ∧ c.2.1 ≤ 255) : cellsOf (one c) = [c] := by
  simp only [cellsOf, one]
  rw [B_strOf _ (by simpa using h)]
  rfl
theorem cells_J (c : List Cl) (h : ∀ x ∈ c, 0 ≤ x.2.1 ∧ x.2.1 ≤ 255) : cells (J c) = c := by
  have key : ∀ (c : List Cl) (l : List Pc), (∀ x ∈ c, 0 ≤ x.2.1 ∧ x.2.1 ≤ 255) → cells ((c.map one).foldl joinP l) = cells l ++ c := by
    intro c
    induction c with
    | nil => intro l _; simp
    | cons x c ih =>
      intro l h
      rw [List.map_cons, List.foldl_cons, ih _ (fun y hy => h y (by simp [hy])), cells_joinP, cellsOf_one x (h x (by simp))]
      simp
  simpa [cells_nil, J] using key c [] h

/-! ### sorted cells, by offset -/
def Sorted (c : List Cl) : Prop := c.Pairwise (fun x y => x.1 < y.1)
def atC : List Cl → Int → Option Cl
  | [], _ => none
  | x :: c, a => if x.1 = a then some x else atC c a
theorem atC_append (c d : List Cl) (a : Int) : atC (c ++ d) a = (atC c a).or (atC d a) := by
  induction c with
  | nil => simp [atC]
  | cons x c ih =>
    simp only [List.cons_append, atC]
    split
    · simp
    · exact ih
theorem atC_some {c : List Cl} {a : Int} {x : Cl} (h : atC c a = some x) : x ∈ c ∧ x.1 = a := by
  induction c with
  | nil => simp [atC] at h
  | cons y c ih =>
    simp only [atC] at h
    split at h
    · cases h
      exact ⟨by simp, by assumption⟩
    · obtain ⟨h1, h2⟩ := ih h
      exact ⟨by simp [h1], h2⟩
theorem atC_none {c : List Cl} {a : Int} (h : ∀ x ∈ c, x.1 ≠ a) : atC c a = none := by
  induction c with
  | nil => rfl
  | cons y c ih =>
    simp only [atC]
    rw [if_neg (h y (by simp))]
    exact ih (fun x hx => h x (by simp [hx]))
theorem atC_mem {c : List Cl} (hs : Sorted c) {x : Cl} (hx : x ∈ c) : atC c x.1 = some x := by
  induction c with
  | nil => simp at hx
  | cons y c ih =>
    obtain ⟨h1, h2⟩ := List.pairwise_cons.1 hs
    simp only [atC]
    rcases List.mem_cons.1 hx with rfl | hx
    · simp
    · rw [if_neg (by have := h1 x hx; omega)]
      exact ih h2 hx
theorem sorted_ext : ∀ {c d : List Cl}, Sorted c → Sorted d → (∀ a, atC c a = atC d a) → c = d
  | [], [], _, _, _ => rfl
  | [], y :: d, _, hd, h => by
    have := h y.1
    rw [atC_mem hd (by simp)] at this
    simp [atC] at this
  | x :: c, [], hc, _, h => by
    have := h x.1
    rw [atC_mem hc (by simp)] at this
    simp [atC] at this
  | x :: c, y :: d, hc, hd, h => by
    obtain ⟨h1, h2⟩ := List.pairwise_cons.1 hc
    obtain ⟨h3, h4⟩ := List.pairwise_cons.1 hd
    have hx := h x.1
    rw [atC_mem hc (by simp)] at hx
    have hy := h y.1
    rw [atC_mem hd (by simp)] at hy
    obtain ⟨hx1, _⟩ := atC_some hx.symm
    obtain ⟨hy1, _⟩ := atC_some hy
    have hxy : x = y := by
      rcases List.mem_cons.1 hx1 with e | hx1
      · exact e
      · rcases List.mem_cons.1 hy1 with e | hy1
        · exact e.symm
        · have := h3 x hx1
          have := h1 y hy1
          omega
    subst hxy
    congr 1
    refine sorted_ext h2 h4 (fun a => ?_)
    by_cases ha : x.1 = a
    · rw [atC_none (fun z hz => by have := h1 z hz; omega), atC_none (fun z hz => by have := h3 z hz; omega)]
    · have := h a
      simp only [atC, if_neg ha] at this
      exact this
theorem sorted_filter {c : List Cl} (h : Sorted c) (p : Cl → Bool) : Sorted (c.filter p) := List.Pairwise.filter _ h
theorem atC_filter {c : List Cl} (h : Sorted c) (p : Int → Bool) (a : Int) : atC (c.filter (fun x => p x.1)) a = if p a then atC c a else none := by
  induction c with
  | nil => simp [atC]
  | cons x c ih =>
    obtain ⟨h1, h2⟩ := List.pairwise_cons.1 h
    rw [List.filter_cons]
    by_cases hx : x.1 = a
    · subst hx
      split
      · simp [atC]
      · rw [ih h2]
        rename_i hp
        simp [hp]
    · split
      · simp only [atC, if_neg hx]
        exact ih h2
      · simp only [atC, if_neg hx]
        exact ih h2
theorem sorted_mkC (f t : Int) : ∀ (bs : List Int) (a : Int), Sorted (mkC f t a bs)
  | [], _ => List.Pairwise.nil
  | b :: bs, a => by
    refine List.pairwise_cons.2 ⟨fun x hx => ?_, sorted_mkC f t bs (a + 1)⟩
    have := (mem_mkC hx).1
    show a < x.1
    omega
theorem sorted_cellsOf (p : Pc) : Sorted (cellsOf p) := sorted_mkC _ _ _ _
theorem atC_mkC (f t : Int) : ∀ (bs : List Int) (s a : Int), atC (mkC f t s bs) a = if s ≤ a ∧ a < s + bs.length then some (a, bs.getD (a - s).toNat 0, f, t, ()) else none
  | [], s, a => by
    simp only [mkC, atC, List.length_nil]
    rw [if_neg (by omega)]
  | b :: bs, s, a => by
    simp only [mkC, atC, List.length_cons]
    by_cases hs : s = a
    · subst hs
      rw [if_pos rfl, if_pos (by omega)]
      simp
    · rw [if_neg hs, atC_mkC f t bs (s + 1) a]
      by_cases h : s + 1 ≤ a ∧ a < s + 1 + bs.length
      · rw [if_pos h, if_pos (by omega)]
        have e : (a - s).toNat = (a - (s + 1)).toNat + 1 := by omega
        rw [e, List.getD_cons_succ]
      · rw [if_neg h, if_neg (by omega)]
theorem atC_cellsOf (p : Pc) (a : Int) : atC (cellsOf p) a = if p.1 ≤ a ∧ a < p.1 + p.2.1.length then some (a, bt p.2.1 (a - p.1), p.2.2.1, p.2.2.2.1, ()) else none := by
  unfold cellsOf
  rw [atC_mkC, B_len, bt_B]

/-! ### a stretch of a sorted list -/
def upto (m : List Cl) (F : Int) : List Cl := m.filter (fun x => decide (x.1 < F))
theorem upto_step {m s : List Cl} {F F' : Int} (hm : Sorted m) (hs : Sorted s) (hF : F ≤ F') (hin : ∀ x ∈ s, F ≤ x.1 ∧ x.1 < F') (h : ∀ a, F ≤ a → a < F' → atC m a = atC s a) : upto m F' = upto m F ++ s := by
  refine sorted_ext (sorted_filter hm _) ?_ (fun a => ?_)
  · refine List.pairwise_append.2 ⟨sorted_filter hm _, hs, fun x hx y hy => ?_⟩
    have h1 := (List.mem_filter.1 hx).2
    have h2 := (hin y hy).1
    simp at h1
    omega
  · rw [atC_append]
    unfold upto
    rw [atC_filter hm (fun z => decide (z < F')), atC_filter hm (fun z => decide (z < F))]
    by_cases h1 : a < F
    · rw [if_pos (by simp; omega), if_pos (by simpa using h1)]
      have hs0 : atC s a = none := atC_none (fun x hx => by have := (hin x hx).1; omega)
      rw [hs0]
      simp
    · by_cases h2 : a < F'
      · rw [if_pos (by simpa using h2), if_neg (by simpa using h1), h a (by omega) h2]
        simp
      · rw [if_neg (by simpa using h2), if_neg (by simpa using h1), atC_none (fun x hx => by have := (hin x hx).2; omega)]
        simp
theorem upto_all {m : List Cl} {F : Int} (h : ∀ x ∈ m, x.1 < F) : upto m F = m := List.filter_eq_self.2 (fun x hx => by simpa using h x hx)
theorem upto_same {m : List Cl} {F F' : Int} (hm : Sorted m) (hF : F ≤ F') (h : ∀ a, F ≤ a → a < F' → atC m a = none) : upto m F' = upto m F := by
  have := upto_step (s := []) hm List.Pairwise.nil hF (by simp) (fun a h1 h2 => by rw [h a h1 h2]; rfl)
  simpa using this
theorem upto_zero {m : List Cl} {F : Int} (h : ∀ x ∈ m, F ≤ x.1) : upto m F = [] := List.filter_eq_nil_iff.2 (fun x hx => by have := h x hx; simp; omega)

/-! ### counting over an interval -/
def cnt (f : Int → Bool) (a b : Int) : Nat := ((List.range (b - a).toNat).filter (fun i : Nat => f (a + (i : Int)))).length
theorem cnt_self (f : Int → Bool) (a : Int) : cnt f a a = 0 := by simp [cnt]
theorem cnt_add (f : Int → Bool) {a b c : Int} (h1 : a ≤ b) (h2 : b ≤ c) : cnt f a c = cnt f a b + cnt f b c := by
  unfold cnt
  have e : (c - a).toNat = (b - a).toNat + (c - b).toNat := by omega
  rw [e, List.range_add, List.filter_append, List.length_append, List.filter_map, List.length_map]
  congr 3
  funext i
  simp only [Function.comp]
  congr 1
  omega
theorem cnt_false {f : Int → Bool} {a b : Int} (h : ∀ x, a ≤ x → x < b → f x = false) : cnt f a b = 0 := by
  unfold cnt
  rw [List.length_eq_zero_iff, List.filter_eq_nil_iff]
  intro i hi
  have := List.mem_range.1 hi
  rw [h _ (by omega) (by omega)]
  simp
theorem cnt_true {f : Int → Bool} {a b : Int} (h : ∀ x, a ≤ x → x < b → f x = true) : cnt f a b = (b - a).toNat := by
  unfold cnt
  rw [List.filter_eq_self.2, List.length_range]
  intro i hi
  have := List.mem_range.1 hi
  exact h _ (by omega) (by omega)
theorem cnt_congr {f g : Int → Bool} {a b : Int} (h : ∀ x, a ≤ x → x < b → f x = g x) : cnt f a b = cnt g a b := by
  unfold cnt
  congr 1
  refine List.filter_congr (fun i hi => ?_)
  have := List.mem_range.1 hi
  exact h _ (by omega) (by omega)
theorem cnt_shift (f : Int → Bool) (a b d : Int) : cnt (fun x => f (x + d)) a b = cnt f (a + d) (b + d) := by
  unfold cnt
  have e : (b + d - (a + d)).toNat = (b - a).toNat := by omega
  rw [e]
  congr 1
  refine List.filter_congr (fun i _ => ?_)
  show f (a + (i : Int) + d) = f (a + d + (i : Int))
  congr 1
  omega
theorem cnt_one (f : Int → Bool) (a : Int) : cnt f a (a + 1) = if f a then 1 else 0 := by
  unfold cnt
  have e : (a + 1 - a).toNat = 1 := by omega
  rw [e]
  simp [List.range_succ]
  split <;> simp_all
theorem cnt_le (f : Int → Bool) (a b : Int) : cnt f a b ≤ (b - a).toNat := by
  unfold cnt
  have := List.length_filter_le (fun i : Nat => f (a + (i : Int))) (List.range (b - a).toNat)
  simpa using this

end Go.Ov
