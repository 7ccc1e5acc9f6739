/- Plain words of chapter 15: the reference's search, insertion of a cell, pieces out of cells. -/
import Derived.Test.YtnleiflijccefaaOv2
set_option linter.all false
set_option linter.unusedVariables false
set_option linter.unusedSimpArgs false
namespace Go.Ov
open Go Go.Fw

theorem foldl_next {α β : Type} (f : β → α → β) (s : β) (d : α) {l : List α} {i : Nat} (h : i < l.length) : (l.take (i + 1)).foldl f s = f ((l.take i).foldl f s) (l.getD i d) := by
  rw [take_getD d h, List.foldl_append]; rfl
theorem take_all {α : Type} {l : List α} {i : Nat} (h : ¬ (i : Int) < (l.length : Int)) : l.take i = l := List.take_of_length_le (by omega)

/-- The first place of an offset. -/
def atI : List Cl → Int → Int → Int
  | [], _, _ => -1
  | x :: c, a, n => if x.1 = a then n else atI c a (n + 1)
abbrev cD : Cl := Ty.dflt cT
theorem atI_range : ∀ (c : List Cl) (a n : Int), 0 ≤ n → atI c a n = -1 ∨ (n ≤ atI c a n ∧ atI c a n < n + c.length)
  | [], a, n, h => .inl rfl
  | x :: c, a, n, h => by
    simp only [atI]
    split
    · right; simp; omega
    · have := atI_range c a (n + 1) (by omega)
      simp only [List.length_cons]
      omega
theorem atI_none : ∀ {c : List Cl} {a n : Int}, atC c a = none → atI c a n = -1
  | [], _, _, _ => rfl
  | x :: c, a, n, h => by
    simp only [atC] at h
    split at h
    · cases h
    · rename_i hx
      simp only [atI, if_neg hx]
      exact atI_none h
theorem atI_some : ∀ {c : List Cl} {a n : Int} {o : Cl}, atC c a = some o → ∃ k : Nat, k < c.length ∧ atI c a n = n + k ∧ c.getD k cD = o ∧ (∀ j, j < k → (c.getD j cD).1 ≠ a)
  | [], _, _, _, h => by simp [atC] at h
  | x :: c, a, n, o, h => by
    simp only [atC] at h
    split at h
    · rename_i hx
      simp only [Option.some.injEq] at h
      exact ⟨0, by simp, by simp [atI, hx], by simpa using h, fun j hj => by omega⟩
    · rename_i hx
      obtain ⟨k, h1, h2, h3, h4⟩ := atI_some (n := n + 1) h
      refine ⟨k + 1, by simp; omega, ?_, by simpa using h3, fun j hj => ?_⟩
      · simp only [atI, if_neg hx, h2]; omega
      · cases j with
        | zero => simpa using hx
        | succ j => simpa using h4 j (by omega)
/-- The place in a list that is split at an offset. -/
theorem atI_split (A Z : List Cl) (o : Cl) (hA : ∀ x ∈ A, x.1 ≠ o.1) : atI (A ++ o :: Z) o.1 0 = A.length := by
  have key : ∀ (A : List Cl) (n : Int), (∀ x ∈ A, x.1 ≠ o.1) → atI (A ++ o :: Z) o.1 n = n + A.length := by
    intro A
    induction A with
    | nil => intro n _; simp [atI]
    | cons x A ih =>
      intro n h
      rw [List.cons_append, atI, if_neg (h x (by simp)), ih (n + 1) (fun y hy => h y (by simp [hy]))]
      simp only [List.length_cons]; omega
  have := key A 0 hA
  omega

/-- A further cell in ascending order. -/
def putMid (x : Cl) (s : List Cl × Bool) (y : Cl) : List Cl × Bool := if (if (!s.2) = true then decide (y.1 > x.1) else false) = true then (s.1 ++ [x], true) else s
def putS (x : Cl) (s : List Cl × Bool) (y : Cl) : List Cl × Bool := ((putMid x s y).1 ++ [y], (putMid x s y).2)
def putF (x : Cl) (c : List Cl) : List Cl × Bool := c.foldl (putS x) ([], false)
def putC (x : Cl) (c : List Cl) : List Cl := if (!(putF x c).2) = true then (putF x c).1 ++ [x] else (putF x c).1
theorem putF_len (x : Cl) (c : List Cl) : (putF x c).1.length ≤ c.length + 1 ∧ ((putF x c).2 = false → (putF x c).1.length = c.length) := by
  have key : ∀ (c : List Cl) (s : List Cl × Bool), ((c.foldl (putS x) s).2 = false → s.2 = false ∧ (c.foldl (putS x) s).1.length = s.1.length + c.length) ∧ (c.foldl (putS x) s).1.length ≤ s.1.length + c.length + (if s.2 then 0 else 1) := by
    intro c
    induction c with
    | nil => intro s; simp
    | cons y c ih =>
      intro s
      have h := ih (putS x s y)
      simp only [List.foldl_cons, List.length_cons]
      have e0 : ((putMid x s y) = (s.1 ++ [x], true) ∧ s.2 = false) ∨ putMid x s y = s := by
        unfold putMid
        by_cases hc : (if (!s.2) = true then decide (y.1 > x.1) else false) = true
        · rw [if_pos hc]
          left
          refine ⟨rfl, ?_⟩
          cases hs : s.2 with
          | false => rfl
          | true => rw [hs] at hc; simp at hc
        · rw [if_neg hc]; exact .inr rfl
      have e1 : (putS x s y).2 = false → s.2 = false ∧ (putS x s y).1.length = s.1.length + 1 := by
        unfold putS
        rcases e0 with ⟨e, h0⟩ | e <;> rw [e]
        · intro h1; cases h1
        · intro h1; exact ⟨h1, by simp⟩
      have e2 : (putS x s y).1.length + (if (putS x s y).2 then 0 else 1) ≤ s.1.length + 1 + (if s.2 then 0 else 1) := by
        unfold putS
        rcases e0 with ⟨e, h0⟩ | e <;> rw [e]
        · simp [h0]
        · simp
      refine ⟨fun h1 => ?_, ?_⟩
      · obtain ⟨h2, h3⟩ := h.1 h1
        obtain ⟨h4, h5⟩ := e1 h2
        exact ⟨h4, by omega⟩
      · have := h.2
        omega
  have := key c ([], false)
  simp only [List.length_nil, Bool.false_eq_true, if_false] at this
  unfold putF
  refine ⟨by omega, fun h => by have := (this.1 h).2; omega⟩
theorem put_eq (x : Cl) (A Z : List Cl) (hA : ∀ y ∈ A, y.1 < x.1) (hZ : ∀ y ∈ Z, x.1 < y.1) : putC x (A ++ Z) = A ++ x :: Z := by
  have hA' : ∀ (A : List Cl) (out : List Cl), (∀ y ∈ A, y.1 < x.1) → A.foldl (putS x) (out, false) = (out ++ A, false) := by
    intro A
    induction A with
    | nil => intro out _; simp
    | cons y A ih =>
      intro out h
      have h1 := h y (by simp)
      rw [List.foldl_cons]
      have : putS x (out, false) y = (out ++ [y], false) := by
        unfold putS putMid
        have : ¬ (x.1 < y.1) := by omega
        simp [this]
      rw [this, ih _ (fun z hz => h z (by simp [hz]))]
      simp
  have hZ' : ∀ (Z : List Cl) (out : List Cl), Z.foldl (putS x) (out, true) = (out ++ Z, true) := by
    intro Z
    induction Z with
    | nil => intro out; simp
    | cons y Z ih =>
      intro out
      rw [List.foldl_cons]
      have : putS x (out, true) y = (out ++ [y], true) := by
        unfold putS putMid
        simp
      rw [this, ih]
      simp
  unfold putC putF
  rw [List.foldl_append, hA' A [] hA]
  cases Z with
  | nil => simp
  | cons y Z =>
    have h1 := hZ y (by simp)
    rw [List.foldl_cons]
    have : putS x ([] ++ A, false) y = (A ++ [x] ++ [y], true) := by
      unfold putS putMid
      have : x.1 < y.1 := by omega
      simp [this]
    rw [this, hZ']
    simp

/-! ### pieces out of cells -/
abbrev runB (c : List Cl) (i k : Nat) : List Int := ((c.drop i).take (k - i)).map (·.2.1)
abbrev runP (c : List Cl) (i k : Nat) : Pc := ((c.getD i cD).1, strOfNums (runB c i k), (c.getD i cD).2.2.1, (c.getD i cD).2.2.2.1, ())
/-- The next cell does not belong to the last piece. -/
def Brk (c : List Cl) (i : Nat) : Prop := i < c.length → joinP (J (c.take i)) (one (c.getD i cD)) = J (c.take i) ++ [one (c.getD i cD)]
def Run (c : List Cl) (i k : Nat) : Prop := i ≤ k ∧ k ≤ c.length ∧ (i < k → J (c.take k) = J (c.take i) ++ [runP c i k])
theorem runB_len {c : List Cl} {i k : Nat} (h1 : i ≤ k) (h2 : k ≤ c.length) : (runB c i k).length = k - i := by
  simp [runB]; omega
theorem runB_next {c : List Cl} {i k : Nat} (h1 : i ≤ k) (h2 : k < c.length) : runB c i (k + 1) = runB c i k ++ [(c.getD k cD).2.1] := by
  unfold runB
  have e : k + 1 - i = (k - i) + 1 := by omega
  have hl : k - i < (c.drop i).length := by rw [List.length_drop]; omega
  rw [e, take_getD cD hl, List.map_append]
  have : (c.drop i).getD (k - i) cD = c.getD k cD := by
    simp only [List.getD_eq_getElem?_getD, List.getElem?_drop]
    congr 2; omega
  rw [this]; rfl
/-- What the walk through a run asks at each cell. -/
def runC (c : List Cl) (i k : Nat) : Bool :=
  if (if (if decide ((k : Int) < (c.length : Int)) = true then decide ((c.getD k cD).1 = IntKind.i64.wrap (IntKind.i64.wrap ((c.getD i cD).1 + k) - i)) else false) = true then decide ((c.getD k cD).2.2.1 = (c.getD i cD).2.2.1) else false) = true then decide ((c.getD k cD).2.2.2.1 = (c.getD i cD).2.2.2.1) else false
def SmallC (c : List Cl) : Prop := (∀ x ∈ c, 0 ≤ x.1 ∧ x.1 ≤ 8589934592) ∧ c.length ≤ 1099511627776
theorem SmallC.at {c : List Cl} (h : SmallC c) {i : Nat} (hi : i < c.length) : 0 ≤ (c.getD i cD).1 ∧ (c.getD i cD).1 ≤ 8589934592 := h.1 _ (getD_mem hi)
theorem runC_iff {c : List Cl} (h : SmallC c) {i k : Nat} (hi : i < c.length) (hk : k ≤ c.length) : runC c i k = true ↔ k < c.length ∧ (c.getD k cD).1 = (c.getD i cD).1 + k - i ∧ (c.getD k cD).2.2.1 = (c.getD i cD).2.2.1 ∧ (c.getD k cD).2.2.2.1 = (c.getD i cD).2.2.2.1 := by
  have h1 := h.at hi
  have h2 := h.2
  have w1 : IntKind.i64.wrap ((c.getD i cD).1 + k) = (c.getD i cD).1 + k := wrapId (by omega)
  have w2 : IntKind.i64.wrap ((c.getD i cD).1 + k - i) = (c.getD i cD).1 + k - i := wrapId (by omega)
  unfold runC
  rw [w1, w2]
  by_cases hk' : (k : Int) < (c.length : Int)
  · simp [hk', and_assoc]
    omega
  · simp [hk']
    omega
theorem run_here {c : List Cl} (h : SmallC c) {i : Nat} (hi : i < c.length) : runC c i i = true := (runC_iff h hi (by omega)).2 ⟨hi, by omega, rfl, rfl⟩
theorem run_start (c : List Cl) {i : Nat} (hi : i ≤ c.length) : Run c i i := ⟨Nat.le_refl _, hi, fun h => absurd h (by omega)⟩
theorem run_next {c : List Cl} (h : SmallC c) {i k : Nat} (hb : Brk c i) (hr : Run c i k) (hi : i < c.length) (hc : runC c i k = true) : Run c i (k + 1) ∧ k < c.length := by
  obtain ⟨h1, h2, h3⟩ := hr
  obtain ⟨q1, q2, q3, q4⟩ := (runC_iff h hi h2).1 hc
  refine ⟨⟨by omega, by omega, fun _ => ?_⟩, q1⟩
  rw [take_getD cD q1, J_snoc]
  rcases Nat.lt_or_ge i k with hik | hik
  · rw [h3 hik, joinP_snoc, if_pos]
    · show _ ++ [(_, strOfNums (runB c i k) ++ [Fw.byteOf (c.getD k cD).2.1], (c.getD k cD).2.2.1, (c.getD k cD).2.2.2.1, ())] = _
      rw [q3, q4]
      unfold runP
      rw [runB_next h1 q1]
      simp
    · refine ⟨?_, q3.symm, q4.symm⟩
      show (c.getD i cD).1 + ((strOfNums (runB c i k)).length : Int) = (c.getD k cD).1
      rw [strOf_size, runB_len h1 h2]
      omega
  · obtain rfl : i = k := by omega
    rw [hb hi]
    congr 2
    unfold runP
    rw [runB_next (Nat.le_refl _) hi]
    simp [one]
theorem run_end {c : List Cl} (h : SmallC c) {i k : Nat} (hr : Run c i k) (hi : i < c.length) (hc : runC c i k = false) : i < k ∧ J (c.take k) = J (c.take i) ++ [runP c i k] ∧ Brk c k := by
  obtain ⟨h1, h2, h3⟩ := hr
  have hik : i < k := by
    rcases Nat.lt_or_ge i k with hik | hik
    · exact hik
    · obtain rfl : i = k := by omega
      rw [run_here h hi] at hc
      cases hc
  refine ⟨hik, h3 hik, fun hk => ?_⟩
  rw [h3 hik, joinP_snoc, if_neg]
  · simp
  · rintro ⟨q1, q2, q3⟩
    have q1' : (c.getD i cD).1 + ((strOfNums (runB c i k)).length : Int) = (c.getD k cD).1 := q1
    rw [strOf_size, runB_len h1 h2] at q1'
    have : runC c i k = true := (runC_iff h hi h2).2 ⟨hk, by omega, q2.symm, q3.symm⟩
    rw [this] at hc
    cases hc
theorem J_len : ∀ (c : List Cl), (J c).length ≤ c.length := by
  intro c
  have hj : ∀ (l : List Pc) (p : Pc), (joinP l p).length ≤ l.length + 1 := by
    intro l p
    rcases List.eq_nil_or_concat l with rfl | ⟨l', q, hl'⟩
    · simp [joinP]
    · rw [List.concat_eq_append] at hl'
      subst hl'
      rw [joinP_snoc]
      split <;> simp
  have key : ∀ (c : List Cl) (l : List Pc), ((c.map one).foldl joinP l).length ≤ l.length + c.length := by
    intro c
    induction c with
    | nil => intro l; simp
    | cons x c ih =>
      intro l
      rw [List.map_cons, List.foldl_cons]
      have h1 := ih (joinP l (one x))
      have h2 := hj l (one x)
      simp only [List.length_cons]
      omega
  have := key c []
  simpa [J] using this
end Go.Ov
