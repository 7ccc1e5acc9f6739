import Derived.Test.YtopnempdeopjfaaGEv4
set_option linter.all false
/- Chapter 24, plain: what is said of the groups of equal variants. -/
namespace Go.Ov
open Go Go.Fw
/-- The classes of the four variants, each named by its first member. -/
def all15 : List (List Nat) := [[0,0,0,0],[0,0,0,3],[0,0,2,0],[0,0,2,2],[0,0,2,3],[0,1,0,0],[0,1,0,1],[0,1,0,3],[0,1,1,0],[0,1,1,1],[0,1,1,3],[0,1,2,0],[0,1,2,1],[0,1,2,2],[0,1,2,3]]
def tabC (c : List Nat) (k i : Nat) : Bool := decide (c.getD k 9 = c.getD i 9)
theorem cls_of (v : V4) : ∃ c ∈ all15, ∀ k i, k < 4 → i < 4 → (decide (vAt v k = vAt v i) = tabC c k i) := by
  obtain ⟨s0, s1, s2, s3⟩ := v
  have key : ∀ c : List Nat, c ∈ all15 → (tabC c 0 1 = decide (s0 = s1)) → (tabC c 0 2 = decide (s0 = s2)) → (tabC c 0 3 = decide (s0 = s3)) → (tabC c 1 2 = decide (s1 = s2)) → (tabC c 1 3 = decide (s1 = s3)) → (tabC c 2 3 = decide (s2 = s3)) →
      ∃ c ∈ all15, ∀ k i, k < 4 → i < 4 → (decide (vAt (s0, s1, s2, s3) k = vAt (s0, s1, s2, s3) i) = tabC c k i) := by
    intro c hc h1 h2 h3 h4 h5 h6
    refine ⟨c, hc, fun k i hk hi => ?_⟩
    have sy : ∀ (a b : List UInt8), decide (a = b) = decide (b = a) := fun a b => by rw [Bool.eq_iff_iff]; simp [eq_comm]
    have ty : ∀ a b, tabC c a b = tabC c b a := fun a b => by unfold tabC; rw [Bool.eq_iff_iff]; simp [eq_comm]
    obtain rfl | rfl | rfl | rfl : k = 0 ∨ k = 1 ∨ k = 2 ∨ k = 3 := by omega
    all_goals obtain rfl | rfl | rfl | rfl : i = 0 ∨ i = 1 ∨ i = 2 ∨ i = 3 := by omega
    · simp [tabC]
    · exact h1.symm
    · exact h2.symm
    · exact h3.symm
    · rw [ty]; exact (sy _ _).trans h1.symm
    · simp [tabC]
    · exact h4.symm
    · exact h5.symm
    · rw [ty]; exact (sy _ _).trans h2.symm
    · rw [ty]; exact (sy _ _).trans h4.symm
    · simp [tabC]
    · exact h6.symm
    · rw [ty]; exact (sy _ _).trans h3.symm
    · rw [ty]; exact (sy _ _).trans h5.symm
    · rw [ty]; exact (sy _ _).trans h6.symm
    · simp [tabC]
  by_cases n01 : s0 = s1
  · subst n01
    by_cases n02 : s0 = s2
    · subst n02
      by_cases n03 : s0 = s3
      · subst n03
        exact key [0,0,0,0] (by decide) ((decide_eq_true rfl).symm) ((decide_eq_true rfl).symm) ((decide_eq_true rfl).symm) ((decide_eq_true rfl).symm) ((decide_eq_true rfl).symm) ((decide_eq_true rfl).symm)
      · skip
        exact key [0,0,0,3] (by decide) ((decide_eq_true rfl).symm) ((decide_eq_true rfl).symm) ((decide_eq_false n03).symm) ((decide_eq_true rfl).symm) ((decide_eq_false n03).symm) ((decide_eq_false n03).symm)
    · skip
      by_cases n03 : s0 = s3
      · subst n03
        exact key [0,0,2,0] (by decide) ((decide_eq_true rfl).symm) ((decide_eq_false n02).symm) ((decide_eq_true rfl).symm) ((decide_eq_false n02).symm) ((decide_eq_true rfl).symm) ((decide_eq_false fun h => n02 h.symm).symm)
      · skip
        by_cases n23 : s2 = s3
        · subst n23
          exact key [0,0,2,2] (by decide) ((decide_eq_true rfl).symm) ((decide_eq_false n02).symm) ((decide_eq_false n02).symm) ((decide_eq_false n02).symm) ((decide_eq_false n02).symm) ((decide_eq_true rfl).symm)
        · skip
          exact key [0,0,2,3] (by decide) ((decide_eq_true rfl).symm) ((decide_eq_false n02).symm) ((decide_eq_false n03).symm) ((decide_eq_false n02).symm) ((decide_eq_false n03).symm) ((decide_eq_false n23).symm)
  · skip
    by_cases n02 : s0 = s2
    · subst n02
      by_cases n03 : s0 = s3
      · subst n03
        exact key [0,1,0,0] (by decide) ((decide_eq_false n01).symm) ((decide_eq_true rfl).symm) ((decide_eq_true rfl).symm) ((decide_eq_false fun h => n01 h.symm).symm) ((decide_eq_false fun h => n01 h.symm).symm) ((decide_eq_true rfl).symm)
      · skip
        by_cases n13 : s1 = s3
        · subst n13
          exact key [0,1,0,1] (by decide) ((decide_eq_false n01).symm) ((decide_eq_true rfl).symm) ((decide_eq_false n01).symm) ((decide_eq_false fun h => n01 h.symm).symm) ((decide_eq_true rfl).symm) ((decide_eq_false n01).symm)
        · skip
          exact key [0,1,0,3] (by decide) ((decide_eq_false n01).symm) ((decide_eq_true rfl).symm) ((decide_eq_false n03).symm) ((decide_eq_false fun h => n01 h.symm).symm) ((decide_eq_false n13).symm) ((decide_eq_false n03).symm)
    · skip
      by_cases n12 : s1 = s2
      · subst n12
        by_cases n03 : s0 = s3
        · subst n03
          exact key [0,1,1,0] (by decide) ((decide_eq_false n01).symm) ((decide_eq_false n01).symm) ((decide_eq_true rfl).symm) ((decide_eq_true rfl).symm) ((decide_eq_false fun h => n01 h.symm).symm) ((decide_eq_false fun h => n01 h.symm).symm)
        · skip
          by_cases n13 : s1 = s3
          · subst n13
            exact key [0,1,1,1] (by decide) ((decide_eq_false n01).symm) ((decide_eq_false n01).symm) ((decide_eq_false n01).symm) ((decide_eq_true rfl).symm) ((decide_eq_true rfl).symm) ((decide_eq_true rfl).symm)
          · skip
            exact key [0,1,1,3] (by decide) ((decide_eq_false n01).symm) ((decide_eq_false n01).symm) ((decide_eq_false n03).symm) ((decide_eq_true rfl).symm) ((decide_eq_false n13).symm) ((decide_eq_false n13).symm)
      · skip
        by_cases n03 : s0 = s3
        · subst n03
          exact key [0,1,2,0] (by decide) ((decide_eq_false n01).symm) ((decide_eq_false n02).symm) ((decide_eq_true rfl).symm) ((decide_eq_false n12).symm) ((decide_eq_false fun h => n01 h.symm).symm) ((decide_eq_false fun h => n02 h.symm).symm)
        · skip
          by_cases n13 : s1 = s3
          · subst n13
            exact key [0,1,2,1] (by decide) ((decide_eq_false n01).symm) ((decide_eq_false n02).symm) ((decide_eq_false n01).symm) ((decide_eq_false n12).symm) ((decide_eq_true rfl).symm) ((decide_eq_false fun h => n12 h.symm).symm)
          · skip
            by_cases n23 : s2 = s3
            · subst n23
              exact key [0,1,2,2] (by decide) ((decide_eq_false n01).symm) ((decide_eq_false n02).symm) ((decide_eq_false n02).symm) ((decide_eq_false n12).symm) ((decide_eq_false n12).symm) ((decide_eq_true rfl).symm)
            · skip
              exact key [0,1,2,3] (by decide) ((decide_eq_false n01).symm) ((decide_eq_false n02).symm) ((decide_eq_false n03).symm) ((decide_eq_false n12).symm) ((decide_eq_false n13).symm) ((decide_eq_false n23).symm)
/-! ### the groups -/
def kC (c : List Nat) : List (List Int) := kB (tabC c)
theorem kinds_c {v : V4} {c : List Nat} (h : ∀ k i, k < 4 → i < 4 → (decide (vAt v k = vAt v i) = tabC c k i)) : kindsM v = kC c := by
  rw [kinds_b]
  exact kB_congr h
/-- What holds of the groups. -/
def grpsB (c : List Nat) : Bool :=
  (kC c).all (fun g => !g.isEmpty && g.all (fun p => decide (1 ≤ p ∧ p ≤ 4) && tabC c (p - 1).toNat (g.getD 0 0 - 1).toNat)) &&
  (List.range 4).all (fun i => (List.range 4).all fun j => !(decide (i < (kC c).length) && decide (j < ((kC c).getD i []).length)) ||
    ((decide (j = 0) || decide (((kC c).getD i []).getD (j - 1) 0 < ((kC c).getD i []).getD j 0)) && !(((kC c).take i).flatten ++ ((kC c).getD i []).take j).contains (((kC c).getD i []).getD j 0))) &&
  (List.range 4).all (fun i => !(decide (0 < i) && decide (i < (kC c).length)) ||
    (decide (((kC c).getD (i - 1) []).getD 0 0 < ((kC c).getD i []).getD 0 0) && !tabC c (((kC c).getD (i - 1) []).getD 0 0 - 1).toNat (((kC c).getD i []).getD 0 0 - 1).toNat)) &&
  (decide ((kC c).length ≤ 4) && (kC c).all (fun g => decide (g.length ≤ 4)) && [1, 2, 3, 4].all (fun p => (kC c).flatten.contains p))
theorem grps_all : all15.all grpsB = true := by kernel_rfl
structure Grps (v : V4) (gs : List (List Int)) : Prop where
  n4 : gs.length ≤ 4
  ne : ∀ i, i < gs.length → 0 < (gs.getD i []).length
  l4 : ∀ i, i < gs.length → (gs.getD i []).length ≤ 4
  el : ∀ i j, i < gs.length → j < (gs.getD i []).length → 1 ≤ (gs.getD i []).getD j 0 ∧ (gs.getD i []).getD j 0 ≤ 4 ∧ vAt v ((gs.getD i []).getD j 0 - 1).toNat = vAt v ((gs.getD i []).getD 0 0 - 1).toNat
  inc : ∀ i j, i < gs.length → j < (gs.getD i []).length → 0 < j → (gs.getD i []).getD (j - 1) 0 < (gs.getD i []).getD j 0
  new : ∀ i j, i < gs.length → j < (gs.getD i []).length → ((gs.take i).flatten ++ (gs.getD i []).take j).contains ((gs.getD i []).getD j 0) = false
  hd : ∀ i, 0 < i → i < gs.length → (gs.getD (i - 1) []).getD 0 0 < (gs.getD i []).getD 0 0 ∧ ¬ vAt v ((gs.getD (i - 1) []).getD 0 0 - 1).toNat = vAt v ((gs.getD i []).getD 0 0 - 1).toNat
  all : ∀ p : Int, 1 ≤ p → p ≤ 4 → gs.flatten.contains p = true
theorem grps (v : V4) : Grps v (kindsM v) := by
  obtain ⟨c, hc, h⟩ := cls_of v
  rw [kinds_c h]
  have hb := List.all_eq_true.1 grps_all c hc
  unfold grpsB at hb
  generalize kC c = gs at hb
  simp only [Bool.and_eq_true] at hb
  obtain ⟨⟨⟨b1, b2⟩, b3⟩, ⟨b4, b5⟩, b6⟩ := hb
  have n4 := of_decide_eq_true b4
  have hg : ∀ i, i < gs.length → gs.getD i [] ∈ gs := fun i hi => Fw.getD_mem (d := []) hi
  have ne : ∀ i, i < gs.length → 0 < (gs.getD i []).length := fun i hi => by
    have := List.all_eq_true.1 b1 _ (hg i hi)
    simp only [Bool.and_eq_true] at this
    have h1 := this.1
    cases hh : gs.getD i [] with
    | nil => rw [hh] at h1; cases h1
    | cons a l => simp
  have l4 : ∀ i, i < gs.length → (gs.getD i []).length ≤ 4 := fun i hi => of_decide_eq_true (List.all_eq_true.1 b5 _ (hg i hi))
  have e0 : ∀ i j, i < gs.length → j < (gs.getD i []).length → (1 ≤ (gs.getD i []).getD j 0 ∧ (gs.getD i []).getD j 0 ≤ 4) ∧ tabC c ((gs.getD i []).getD j 0 - 1).toNat ((gs.getD i []).getD 0 0 - 1).toNat = true := fun i j hi hj => by
    have := List.all_eq_true.1 b1 _ (hg i hi)
    simp only [Bool.and_eq_true] at this
    have h2 := List.all_eq_true.1 this.2 _ (Fw.getD_mem (d := (0 : Int)) hj)
    simp only [Bool.and_eq_true] at h2
    exact ⟨of_decide_eq_true h2.1, h2.2⟩
  have hh4 : ∀ i j, i < gs.length → j < (gs.getD i []).length → ((gs.getD i []).getD j 0 - 1).toNat < 4 := fun i j hi hj => by have := (e0 i j hi hj).1; omega
  have m2 : ∀ i j, i < gs.length → j < (gs.getD i []).length → (j = 0 ∨ (gs.getD i []).getD (j - 1) 0 < (gs.getD i []).getD j 0) ∧ ((gs.take i).flatten ++ (gs.getD i []).take j).contains ((gs.getD i []).getD j 0) = false := fun i j hi hj => by
    have := List.all_eq_true.1 (List.all_eq_true.1 b2 i (List.mem_range.2 (by omega))) j (List.mem_range.2 (by have := l4 i hi; omega))
    rw [decide_eq_true hi, decide_eq_true hj] at this
    simp only [Bool.and_true, Bool.not_true, Bool.false_or, Bool.and_eq_true, Bool.or_eq_true, decide_eq_true_eq, Bool.not_eq_true'] at this
    exact this
  refine ⟨n4, ne, l4, fun i j hi hj => ⟨(e0 i j hi hj).1.1, (e0 i j hi hj).1.2, ?_⟩, fun i j hi hj h0 => (m2 i j hi hj).1.resolve_left (by omega), fun i j hi hj => (m2 i j hi hj).2, fun i h0 hi => ?_, fun p h1 h4 => ?_⟩
  · have h1 := h _ _ (hh4 i j hi hj) (hh4 i 0 hi (ne i hi))
    rw [(e0 i j hi hj).2] at h1
    exact of_decide_eq_true h1
  · have := List.all_eq_true.1 b3 i (List.mem_range.2 (by omega))
    rw [decide_eq_true h0, decide_eq_true hi] at this
    simp only [Bool.and_true, Bool.not_true, Bool.false_or, Bool.and_eq_true, decide_eq_true_eq, Bool.not_eq_true'] at this
    refine ⟨this.1, ?_⟩
    have h1 := h _ _ (hh4 (i - 1) 0 (by omega) (ne _ (by omega))) (hh4 i 0 hi (ne i hi))
    rw [this.2] at h1
    exact of_decide_eq_false h1
  · obtain rfl | rfl | rfl | rfl : p = 1 ∨ p = 2 ∨ p = 3 ∨ p = 4 := by omega
    all_goals exact List.all_eq_true.1 b6 _ (by simp)
/-- Which policies were met. -/
def seenL (m : List Int) : List Bool := (List.range 5).map fun p : Nat => m.contains (p : Int)
theorem seenL_len (m : List Int) : (seenL m).length = 5 := by simp [seenL]
theorem seenL_at (m : List Int) {p : Int} (h0 : 0 ≤ p) (h4 : p ≤ 4) (d : Bool) : (seenL m).getD p.toNat d = m.contains p := by
  obtain rfl | rfl | rfl | rfl | rfl : p = 0 ∨ p = 1 ∨ p = 2 ∨ p = 3 ∨ p = 4 := by omega
  all_goals rfl
theorem seenL_nil : seenL [] = List.replicate 5 false := rfl
theorem seenL_set (m : List Int) {p : Int} (h0 : 0 ≤ p) (h4 : p ≤ 4) : (seenL m).set p.toNat true = seenL (m ++ [p]) := by
  have e : ∀ q : Int, (m ++ [p]).contains q = (m.contains q || decide (q = p)) := fun q => by
    rw [Bool.eq_iff_iff]; simp
  obtain rfl | rfl | rfl | rfl | rfl : p = 0 ∨ p = 1 ∨ p = 2 ∨ p = 3 ∨ p = 4 := by omega
  all_goals
    simp only [seenL, List.range, List.range.loop, List.map_cons, List.map_nil, e]
    simp
def doneG (gs : List (List Int)) (i j : Nat) : List Int := (gs.take i).flatten ++ (gs.getD i []).take j
theorem doneG_j (gs : List (List Int)) (i : Nat) {j : Nat} (h : j < (gs.getD i []).length) : doneG gs i j ++ [(gs.getD i []).getD j 0] = doneG gs i (j + 1) := by
  unfold doneG
  rw [Fw.take_getD (0 : Int) h, List.append_assoc]
theorem doneG_i (gs : List (List Int)) {i : Nat} (h : i < gs.length) : doneG gs i (gs.getD i []).length = doneG gs (i + 1) 0 := by
  unfold doneG
  rw [Fw.take_getD ([] : List Int) h, List.take_length, List.take_zero]
  simp
theorem doneG_all (gs : List (List Int)) : doneG gs gs.length 0 = gs.flatten := by
  unfold doneG
  rw [List.take_length, List.take_zero, List.append_nil]
end Go.Ov

/- Chapter 24, plain: where the variants differ first. -/
namespace Go.Ov
open Go Go.Fw
theorem eqv4 (a b c d : List UInt8) : (if (if decide (a = b) = true then decide (a = c) else false) = true then decide (a = d) else false) = decide (AllEq (a, b, c, d)) := by
  have e : AllEq (a, b, c, d) = (b = a ∧ c = a ∧ d = a) := rfl
  rw [Bool.eq_iff_iff]
  simp only [Bool.if_false_right, Bool.decide_eq_true, Bool.and_eq_true, decide_eq_true_eq, e]
  constructor
  · rintro ⟨⟨h1, h2⟩, h3⟩; exact ⟨h1.symm, h2.symm, h3.symm⟩
  · rintro ⟨h1, h2, h3⟩; exact ⟨⟨h1.symm, h2.symm⟩, h3.symm⟩
structure FirstAt (v : V4) (n : Nat) : Prop where
  w : whereM v = n
  lo : ∀ a, a < n → SameAt v a
  no : ¬ SameAt v n
theorem firstAt {v : V4} (h : ¬ AllEq v) : ∃ n, FirstAt v n := by
  rcases whereM_is v with ⟨h1, _⟩ | ⟨n, h1, h2, h3⟩
  · exact absurd h1 h
  · exact ⟨n, h1, h2, h3⟩
theorem FirstAt.at_ {v : V4} {n : Nat} (h : FirstAt v n) {a : Nat} (ha : a < n) {j : Nat} (hj : j < 4) : (vAt v j)[a]? = v.1[a]? := same_iff.1 (h.lo a ha) j hj
theorem FirstAt.len {v : V4} {n : Nat} (h : FirstAt v n) {j : Nat} (hj : j < 4) : n ≤ (vAt v j).length := by
  rcases Nat.lt_or_ge (vAt v j).length n with q | q
  · exfalso
    apply h.no
    have h0 : v.1.length ≤ (vAt v j).length := by
      have := h.at_ q hj
      rw [List.getElem?_eq_none (Nat.le_refl _)] at this
      exact List.getElem?_eq_none_iff.1 this.symm
    refine same_iff.2 fun k hk => ?_
    have hk0 : (vAt v k).length ≤ (vAt v j).length := by
      have := h.at_ q hk
      rw [List.getElem?_eq_none h0] at this
      exact List.getElem?_eq_none_iff.1 this
    rw [List.getElem?_eq_none (by omega), List.getElem?_eq_none (by omega)]
  · exact q
theorem FirstAt.pre {v : V4} {n : Nat} (h : FirstAt v n) {j : Nat} (hj : j < 4) : (vAt v j).take n = (vAt v 0).take n := by
  apply List.ext_getElem?
  intro a
  rw [List.getElem?_take, List.getElem?_take]
  split
  · rename_i ha
    exact h.at_ ha hj
  · rfl
def difN (v : V4) (n j : Nat) : Bool := (List.range j).any fun k => !decide ((vAt v k)[n]? = (vAt v 0)[n]?)
theorem difN_zero (v : V4) (n : Nat) : difN v n 0 = false := rfl
theorem difN_next (v : V4) (n j : Nat) : difN v n (j + 1) = (difN v n j || !decide ((vAt v j)[n]? = (vAt v 0)[n]?)) := by
  unfold difN
  rw [List.range_succ, List.any_append]
  simp
theorem FirstAt.dif {v : V4} {n : Nat} (h : FirstAt v n) : difN v n 4 = true := by
  cases hd : difN v n 4 with
  | true => rfl
  | false =>
    exfalso
    refine h.no (same_iff.2 fun k hk => ?_)
    unfold difN at hd
    rw [List.any_eq_false] at hd
    have := hd k (List.mem_range.2 hk)
    have h9 : (vAt v k)[n]? = (vAt v 0)[n]? := by simpa using this
    exact h9
theorem difS (d : Bool) (s t : List UInt8) (n : Nat) : (d || !decide (s[n]? = t[n]?)) =
    (d || (decide (n < s.length) != decide (n < t.length)) || (decide (n < s.length) && decide (n < t.length) && decide (((s.getD n 0).toNat : Int) ≠ ((t.getD n 0).toNat : Int)))) := by
  rw [Bool.or_assoc]
  congr 1
  by_cases h1 : n < s.length <;> by_cases h2 : n < t.length
  · have := diff_byte (a := n) ⟨h1, h2⟩
    rw [this]
    simp [h1, h2]
  · simp [h1, h2]
  · simp [h1, h2]
  · simp [h1, h2]
theorem silP {s t : List UInt8} {n : Nat} (hle : n ≤ s.length) (hp : s.take n = t.take n) :
    (if (if decide ((n : Int) < 0) = true then true else decide ((n : Int) > (s.length : Int))) = true then true else decide (List.drop (Int.toNat 0) (List.take ((n : Int)).toNat s) ≠ List.drop (Int.toNat 0) (List.take ((n : Int)).toNat t))) = false := by
  rw [decide_eq_false (by omega : ¬ (n : Int) < 0), decide_eq_false (by omega : ¬ (n : Int) > (s.length : Int)), Fw.toNat_cast, hp]
  simp
theorem silG {c : Bool} {s t : List UInt8} {n : Nat} (h : (gd c false && gd (if decide ((n : Int) < (s.length : Int)) = true then decide ((n : Int) < (t.length : Int)) else false) true) = true) : n < s.length ∧ n < t.length := by
  have h1 := gR h
  simp only [gd, if_true, Bool.if_false_right, Bool.decide_eq_true, Bool.and_eq_true, decide_eq_true_eq] at h1
  omega
theorem silD (d : Bool) (s t : List UInt8) (n : Nat) :
    (if (if d = true then true else decide (decide ((n : Int) < (s.length : Int)) ≠ decide ((n : Int) < (t.length : Int)))) = true then true else
      if (if decide ((n : Int) < (s.length : Int)) = true then decide ((n : Int) < (t.length : Int)) else false) = true then decide (((s.getD ((n : Int)).toNat 0).toNat : Int) ≠ ((t.getD ((n : Int)).toNat 0).toNat : Int)) else false) = (d || !decide (s[n]? = t[n]?)) := by
  rw [difS, Fw.toNat_cast, show decide ((n : Int) < (s.length : Int)) = decide (n < s.length) by simp, show decide ((n : Int) < (t.length : Int)) = decide (n < t.length) by simp]
  cases d <;> cases decide (n < s.length) <;> cases decide (n < t.length) <;> simp
theorem silK {P Q : Int} {j : Nat} {s : Bool} {a b : List UInt8} (h1 : 1 ≤ P) (h4 : P ≤ 4) (hs : s = false) (hab : a = b) (hq : 0 < j → Q < P) :
    (if (if (if (if decide (P < 1) = true then true else decide (P > 4)) = true then true else s) = true then true else decide (a ≠ b)) = true then true else (if decide ((j : Int) > 0) = true then decide (Q ≥ P) else false)) = false := by
  rw [decide_eq_false (by omega : ¬ P < 1), decide_eq_false (by omega : ¬ P > 4), hs, decide_eq_false (fun h => h hab)]
  simp only [Bool.false_eq_true, if_false]
  by_cases h0 : (j : Int) > 0
  · have := hq (by omega)
    rw [decide_eq_true h0, if_pos rfl, decide_eq_false (by omega)]
  · rw [decide_eq_false h0]; rfl
theorem silL {n i : Nat} {A B : Int} {a b : List UInt8} (hn : 0 < n) (h : 0 < i → A < B ∧ ¬ a = b) :
    (if decide ((n : Int) = 0) = true then true else if decide ((i : Int) > 0) = true then (if decide (A ≥ B) = true then true else decide (a = b)) else false) = false := by
  rw [decide_eq_false (by omega : ¬ (n : Int) = 0)]
  simp only [Bool.false_eq_true, if_false]
  by_cases h0 : (i : Int) > 0
  · obtain ⟨h1, h2⟩ := h (by omega)
    rw [decide_eq_true h0, if_pos rfl, decide_eq_false (by omega : ¬ A ≥ B), decide_eq_false h2]; rfl
  · rw [decide_eq_false h0]; rfl
theorem silE {a b c d : Bool} (h1 : a = true) (h2 : b = true) (h3 : c = true) (h4 : d = true) : (if (if (if a = true then b else false) = true then c else false) = true then d else false) = true := by
  subst h1; subst h2; subst h3; subst h4; rfl
end Go.Ov

