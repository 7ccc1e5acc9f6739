/- Plain words of chapter 15: what Insert does to the cells of a buffer. -/
import Derived.Test.YtnleiflijccefaaOv3
set_option linter.all false
set_option linter.unusedVariables false
set_option linter.unusedSimpArgs false
namespace Go.Ov
open Go Go.Fw
theorem partP_size (p : Pc) (x y : Int) (h0 : p.1 ≤ x) (h1 : x ≤ y) (h2 : y ≤ p.1 + p.2.1.length) : ((partP p x y).2.1.length : Int) = y - x := by
  show (((p.2.1.take (y - p.1).toNat).drop (x - p.1).toNat).length : Int) = _
  rw [List.length_drop, List.length_take]
  omega
theorem bt_extract (d : List UInt8) (a b : Nat) (i : Int) (h0 : 0 ≤ i) (h1 : i.toNat < b - a) : bt ((d.take b).drop a) i = bt d (i + a) := by
  unfold bt
  simp only [List.getD_eq_getElem?_getD, List.getElem?_drop, List.getElem?_take]
  rw [if_pos (by omega)]
  congr 4
  omega
theorem atC_partP (p : Pc) (x y : Int) (h0 : p.1 ≤ x) (h1 : x ≤ y) (h2 : y ≤ p.1 + p.2.1.length) (a : Int) :
    atC (cellsOf (partP p x y)) a = if x ≤ a ∧ a < y then some (a, bt p.2.1 (a - p.1), p.2.2.1, p.2.2.2.1, ()) else none := by
  rw [atC_cellsOf, partP_size p x y h0 h1 h2]
  show (if x ≤ a ∧ a < x + (y - x) then some ((a, bt ((p.2.1.take (y - p.1).toNat).drop (x - p.1).toNat) (a - x), p.2.2.1, p.2.2.2.1, ()) : Cl) else none) = _
  by_cases h : x ≤ a ∧ a < y
  · rw [if_pos (by omega), if_pos h, bt_extract _ _ _ _ (by omega) (by omega)]
    have e : a - x + ((x - p.1).toNat : Int) = a - p.1 := by omega
    rw [e]
  · rw [if_neg (by omega), if_neg h]
theorem partP_all (p : Pc) : partP p p.1 (p.1 + p.2.1.length) = p := by
  show (p.1, (p.2.1.take (p.1 + p.2.1.length - p.1).toNat).drop (p.1 - p.1).toNat, p.2.2.1, p.2.2.2.1, ()) = p
  have e1 : (p.1 - p.1).toNat = 0 := by omega
  have e2 : (p.1 + p.2.1.length - p.1).toNat = p.2.1.length := by omega
  rw [e1, e2, List.take_length, List.drop_zero]
/-! ### Insert -/
def VB : Int → List Pc → Prop
  | _, [] => True
  | E, o :: l => o.2.1.length ≠ 0 ∧ E ≤ o.1 ∧ o.1 + (o.2.1.length : Int) ≤ 4294967296 ∧ VB (o.1 + o.2.1.length) l
theorem VB_cells : ∀ {l : List Pc} {E : Int}, VB E l → Sorted (cells l) ∧ ∀ x ∈ cells l, E ≤ x.1 ∧ x.1 < 4294967296 ∧ 0 ≤ x.2.1 ∧ x.2.1 ≤ 255
  | [], E, _ => ⟨List.Pairwise.nil, by simp [cells]⟩
  | o :: l, E, ⟨h0, h1, h2, h3⟩ => by
    obtain ⟨h4, h5⟩ := VB_cells h3
    rw [cells_cons]
    refine ⟨List.pairwise_append.2 ⟨sorted_cellsOf o, h4, fun x hx y hy => ?_⟩, fun x hx => ?_⟩
    · have := mem_cellsOf hx
      have := h5 y hy
      omega
    · rcases List.mem_append.1 hx with hx | hx
      · have h6 := mem_cellsOf hx
        exact ⟨by omega, by omega, h6.2.2.1⟩
      · have h6 := h5 x hx
        exact ⟨by omega, h6.2⟩
def winF (pol f t nf nt : Int) : Bool := winsB pol (0, [], f, t, ()) (0, [], nf, nt, ())
def newC (P : Pc) (a : Int) : Cl := (a, bt P.2.1 (a - P.1), P.2.2.1, P.2.2.2.1, ())
def pick (c : List Cl) (pol : Int) (P : Pc) (a : Int) : Cl := match atC c a with
  | none => newC P a
  | some o => if winF pol o.2.2.1 o.2.2.2.1 P.2.2.1 P.2.2.2.1 then newC P a else o
def look (c : List Cl) (pol : Int) (P : Pc) (a : Int) : Option Cl := if P.1 ≤ a ∧ a < P.1 + P.2.1.length then some (pick c pol P a) else atC c a
def cfB (c : List Cl) (P : Pc) (a : Int) : Bool := match atC c a with
  | none => false
  | some o => !(o.2.1 == bt P.2.1 (a - P.1))
def covB (c : List Cl) (a : Int) : Bool := (atC c a).isSome

/-! ### The merged cells -/
/-- A sorted list of cells whose numbers are small. -/
structure MOk (m : List Cl) : Prop where
  hm : Sorted m
  hmr : ∀ x ∈ m, (0 ≤ x.1 ∧ x.1 ≤ 8589934592) ∧ 0 ≤ x.2.1 ∧ x.2.1 ≤ 255
  hml : m.length ≤ 1099511627776
def lo (c : List Cl) (P : Pc) : List Cl := c.filter (fun x => decide (x.1 < P.1))
def hi_ (c : List Cl) (P : Pc) (i : Int) : List Cl := c.filter (fun x => decide (P.1 + i ≤ x.1))
def mid (c : List Cl) (pol : Int) (P : Pc) (i : Nat) : List Cl := (List.range i).map (fun k : Nat => pick c pol P (P.1 + (k : Int)))
def mrg (c : List Cl) (pol : Int) (P : Pc) (i : Nat) : List Cl := lo c P ++ mid c pol P i ++ hi_ c P i
theorem pick_f0 (c : List Cl) (pol : Int) (P : Pc) (a : Int) : (pick c pol P a).1 = a := by
  unfold pick
  cases h : atC c a with
  | none => rfl
  | some o =>
    simp only
    split
    · rfl
    · exact (atC_some h).2
theorem pick_f1 {c : List Cl} (hc : ∀ x ∈ c, 0 ≤ x.2.1 ∧ x.2.1 ≤ 255) (pol : Int) (P : Pc) (a : Int) : 0 ≤ (pick c pol P a).2.1 ∧ (pick c pol P a).2.1 ≤ 255 := by
  have hn : 0 ≤ (newC P a).2.1 ∧ (newC P a).2.1 ≤ 255 := bt_in _ _
  unfold pick
  cases h : atC c a with
  | none => exact hn
  | some o =>
    simp only
    split
    · exact hn
    · exact hc o (atC_some h).1
theorem mid_succ (c : List Cl) (pol : Int) (P : Pc) (i : Nat) : mid c pol P (i + 1) = mid c pol P i ++ [pick c pol P (P.1 + (i : Int))] := by simp [mid, List.range_succ]
theorem mem_mid {c : List Cl} {pol : Int} {P : Pc} {i : Nat} {x : Cl} (h : x ∈ mid c pol P i) : P.1 ≤ x.1 ∧ x.1 < P.1 + i := by
  simp only [mid, List.mem_map, List.mem_range] at h
  obtain ⟨k, hk, rfl⟩ := h
  rw [pick_f0]
  omega
theorem mem_lo {c : List Cl} {P : Pc} {x : Cl} (h : x ∈ lo c P) : x ∈ c ∧ x.1 < P.1 := by simpa [lo] using h
theorem mem_hi {c : List Cl} {P : Pc} {i : Int} {x : Cl} (h : x ∈ hi_ c P i) : x ∈ c ∧ P.1 + i ≤ x.1 := by simpa [hi_] using h
theorem sorted_mid (c : List Cl) (pol : Int) (P : Pc) : ∀ i, Sorted (mid c pol P i)
  | 0 => List.Pairwise.nil
  | i + 1 => by
    rw [mid_succ]
    refine List.pairwise_append.2 ⟨sorted_mid c pol P i, List.pairwise_singleton _ _, fun x hx y hy => ?_⟩
    have := mem_mid hx
    simp only [List.mem_singleton] at hy
    subst hy
    rw [pick_f0]
    exact this.2
theorem sorted_mrg {c : List Cl} (hs : Sorted c) (pol : Int) (P : Pc) (i : Nat) : Sorted (mrg c pol P i) := by
  refine List.pairwise_append.2 ⟨List.pairwise_append.2 ⟨sorted_filter hs _, sorted_mid c pol P i, fun x hx y hy => ?_⟩, sorted_filter hs _, fun x hx y hy => ?_⟩
  · have := mem_lo hx
    have := mem_mid hy
    omega
  · have h2 := mem_hi hy
    rcases List.mem_append.1 hx with hx | hx
    · have := mem_lo hx
      omega
    · have := mem_mid hx
      omega
theorem atC_mid (c : List Cl) (pol : Int) (P : Pc) (a : Int) : ∀ i : Nat, atC (mid c pol P i) a = if P.1 ≤ a ∧ a < P.1 + i then some (pick c pol P a) else none
  | 0 => by
    rw [if_neg (by omega)]
    rfl
  | i + 1 => by
    rw [mid_succ, atC_append, atC_mid c pol P a i]
    by_cases h : P.1 ≤ a ∧ a < P.1 + i
    · rw [if_pos h, if_pos (by omega)]
      rfl
    · rw [if_neg h]
      by_cases h2 : P.1 + (i : Int) = a
      · rw [if_pos (by omega)]
        subst h2
        simp [atC, pick_f0]
      · rw [if_neg (by omega), atC_none (fun x hx => by
          simp only [List.mem_singleton] at hx
          subst hx
          rw [pick_f0]
          exact h2)]
        rfl
theorem atC_mrg {c : List Cl} (hs : Sorted c) (pol : Int) (P : Pc) (a : Int) : atC (mrg c pol P P.2.1.length) a = look c pol P a := by
  have h1 : atC (lo c P) a = if decide (a < P.1) then atC c a else none := atC_filter hs (fun b => decide (b < P.1)) a
  have h2 : atC (hi_ c P P.2.1.length) a = if decide (P.1 + (P.2.1.length : Int) ≤ a) then atC c a else none := atC_filter hs (fun b => decide (P.1 + (P.2.1.length : Int) ≤ b)) a
  rw [mrg, atC_append, atC_append, h1, h2, atC_mid, look]
  by_cases h3 : a < P.1
  · have e1 : ¬(P.1 ≤ a ∧ a < P.1 + (P.2.1.length : Int)) := by omega
    have e2 : ¬(P.1 + (P.2.1.length : Int) ≤ a) := by omega
    simp [h3, e1, e2]
  · by_cases h4 : a < P.1 + P.2.1.length
    · have e1 : P.1 ≤ a ∧ a < P.1 + (P.2.1.length : Int) := by omega
      simp [h3, e1.1, e1.2]
    · have e1 : ¬(P.1 ≤ a ∧ a < P.1 + (P.2.1.length : Int)) := by omega
      have e2 : P.1 + (P.2.1.length : Int) ≤ a := by omega
      rw [if_neg e1]
      simp [h3, e2]
      omega
theorem len_mrg (c : List Cl) (hs : Sorted c) (pol : Int) (P : Pc) (i : Nat) : (lo c P ++ mid c pol P i).length + (hi_ c P i).length ≤ c.length + i := by
  have h3 : (lo c P).length + (hi_ c P i).length ≤ c.length := by
    have h1 : (lo c P).length = c.countP (fun x => decide (x.1 < P.1)) := by rw [lo, List.countP_eq_length_filter]
    have h2 : (hi_ c P i).length ≤ c.countP (fun x => !decide (x.1 < P.1)) := by
      rw [hi_, ← List.countP_eq_length_filter]
      exact List.countP_mono_left (fun x _ h => by simp at h ⊢; omega)
    have h4 := List.length_eq_countP_add_countP (fun x : Cl => decide (x.1 < P.1)) (l := c)
    simp only [Bool.not_eq_true, Bool.decide_eq_false] at h4
    omega
  simp only [List.length_append, mid, List.length_map, List.length_range]
  omega
theorem mok_mrg {c : List Cl} (hs : Sorted c) (hc : ∀ x ∈ c, 0 ≤ x.1 ∧ x.1 < 4294967296 ∧ 0 ≤ x.2.1 ∧ x.2.1 ≤ 255) (hcl : c.length ≤ 68719476736) (pol : Int) (P : Pc) (h0 : 0 ≤ P.1 ∧ P.1 ≤ 2147483648) (hn : P.2.1.length ≤ 4294967296) : MOk (mrg c pol P P.2.1.length) := by
  refine ⟨sorted_mrg hs pol P _, fun x hx => ?_, ?_⟩
  · rcases List.mem_append.1 hx with hx | hx
    · rcases List.mem_append.1 hx with hx | hx
      · have := hc x (mem_lo hx).1
        omega
      · have h1 := mem_mid hx
        simp only [mid, List.mem_map] at hx
        obtain ⟨k, _, rfl⟩ := hx
        have := pick_f1 (c := c) (fun x hx => (hc x hx).2.2) pol P (P.1 + (k : Int))
        omega
    · have := hc x (mem_hi hx).1
      omega
  · have := len_mrg c hs pol P P.2.1.length
    rw [mrg, List.length_append]
    omega
theorem hi_none {c : List Cl} (hs : Sorted c) (P : Pc) (i : Nat) (h : atC c (P.1 + i) = none) : hi_ c P (i : Int) = hi_ c P ((i + 1 : Nat) : Int) := by
  unfold hi_
  refine List.filter_congr (fun x hx => ?_)
  have : x.1 ≠ P.1 + i := fun e => by
    have := atC_mem hs hx
    rw [e, h] at this
    cases this
  simp only [decide_eq_decide]
  omega
theorem hi_some {c : List Cl} (hs : Sorted c) (P : Pc) (i : Nat) {o : Cl} (h : atC c (P.1 + i) = some o) : hi_ c P (i : Int) = o :: hi_ c P ((i + 1 : Nat) : Int) := by
  have ho := atC_some h
  have hsh : Sorted (hi_ c P ((i + 1 : Nat) : Int)) := sorted_filter hs _
  refine sorted_ext (sorted_filter hs _) (List.pairwise_cons.2 ⟨fun y hy => ?_, hsh⟩) (fun a => ?_)
  · have := (mem_hi hy).2
    omega
  · have h1 : atC (hi_ c P (i : Int)) a = if decide (P.1 + (i : Int) ≤ a) then atC c a else none := atC_filter hs (fun b => decide (P.1 + (i : Int) ≤ b)) a
    have h2 : atC (hi_ c P ((i + 1 : Nat) : Int)) a = if decide (P.1 + ((i + 1 : Nat) : Int) ≤ a) then atC c a else none := atC_filter hs (fun b => decide (P.1 + ((i + 1 : Nat) : Int) ≤ b)) a
    rw [h1, show atC (o :: hi_ c P ((i + 1 : Nat) : Int)) a = if o.1 = a then some o else atC (hi_ c P ((i + 1 : Nat) : Int)) a from rfl, h2]
    by_cases h3 : o.1 = a
    · rw [if_pos h3, if_pos (by simp; omega)]
      rw [← h3, ho.2]
      exact h
    · rw [if_neg h3]
      by_cases h4 : P.1 + (i : Int) ≤ a
      · rw [if_pos (by simpa using h4), if_pos (by simp; omega)]
      · rw [if_neg (by simpa using h4), if_neg (by simp; omega)]

end Go.Ov
