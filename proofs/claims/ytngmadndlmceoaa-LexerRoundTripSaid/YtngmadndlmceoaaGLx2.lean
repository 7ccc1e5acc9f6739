import Derived.Test.YtngmadndlmceoaaGLx1
import Derived.Lib.Bytealg
import Derived.Lib.Join
set_option linter.all false
/- Plain words of chapter 04: the program's marks, one token, all tokens. -/
namespace Go.Lx
open Go Go.Fw Go.Ov
def oneM : List UInt8 := [40, 41, 91, 93, 123, 125, 44, 59, 33, 61, 60, 62, 38, 43]
def two (t : List UInt8) : Prop := t = [45, 62] ∨ t = [60, 62] ∨ t = [60, 61]
instance (t : List UInt8) : Decidable (two t) := by unfold two; infer_instance
/-- The mark at a place, as the program looks for it. -/
def markP (s : List UInt8) (a : Nat) : List UInt8 :=
  if a + 2 ≤ s.length ∧ two ((s.take (a + 2)).drop a) then (s.take (a + 2)).drop a
  else if oneM.contains (s.getD a 0) = true then (s.take (a + 1)).drop a else []
theorem okM1 (c x : UInt8) (r : List UInt8) : okM (c :: r) [x] = decide (c = x) := by
  unfold okM
  have : ([x] : List UInt8).length ≤ (c :: r).length := by simp
  rw [decide_eq_true this]
  simp
theorem okM2 (c x y : UInt8) (r : List UInt8) : okM (c :: r) [x, y] = decide ((c :: r).take 2 = [x, y]) := by
  unfold okM
  cases r with
  | nil => simp
  | cons d r => simp
theorem markR_cons (c : UInt8) (r : List UInt8) : markR (c :: r) = if two ((c :: r).take 2) then (c :: r).take 2 else if oneM.contains c = true then [c] else [] := by
  unfold markR mkL two
  simp only [List.find?_cons, okM1, okM2, List.find?_nil]
  by_cases h1 : (c :: r).take 2 = [45, 62]
  · simp [h1]
  · by_cases h2 : (c :: r).take 2 = [60, 62]
    · simp [h2]
    · by_cases h3 : (c :: r).take 2 = [60, 61]
      · simp [h3]
      · simp only [h1, h2, h3, decide_false, or_self, if_false]
        unfold oneM
        by_cases q1 : c = 40
        · subst q1; simp
        by_cases q2 : c = 41
        · subst q2; simp
        by_cases q3 : c = 91
        · subst q3; simp
        by_cases q4 : c = 93
        · subst q4; simp
        by_cases q5 : c = 123
        · subst q5; simp
        by_cases q6 : c = 125
        · subst q6; simp
        by_cases q7 : c = 44
        · subst q7; simp
        by_cases q8 : c = 59
        · subst q8; simp
        by_cases q9 : c = 33
        · subst q9; simp
        by_cases q10 : c = 61
        · subst q10; simp
        by_cases q11 : c = 60
        · subst q11; simp
        by_cases q12 : c = 62
        · subst q12; simp
        by_cases q13 : c = 38
        · subst q13; simp
        by_cases q14 : c = 43
        · subst q14; simp
        simp [q1, q2, q3, q4, q5, q6, q7, q8, q9, q10, q11, q12, q13, q14]
theorem drop_cons {s : List UInt8} {a : Nat} (h : a < s.length) : s.drop a = s.getD a 0 :: s.drop (a + 1) := drop_getD 0 h
theorem take_drop (s : List UInt8) (a k : Nat) : (s.take (a + k)).drop a = (s.drop a).take k := by
  rw [List.drop_take, Nat.add_sub_cancel_left]
theorem markP_eq {s : List UInt8} {a : Nat} (h : a < s.length) : markP s a = markR (s.drop a) := by
  unfold markP
  rw [take_drop, take_drop, drop_cons h, markR_cons]
  have e1 : (s.getD a 0 :: s.drop (a + 1)).take 1 = [s.getD a 0] := by simp
  rw [e1]
  by_cases h2 : two ((s.getD a 0 :: s.drop (a + 1)).take 2)
  · have : a + 2 ≤ s.length := by
      have hl : ((s.getD a 0 :: s.drop (a + 1)).take 2).length = 2 := by rcases h2 with h2 | h2 | h2 <;> rw [h2] <;> rfl
      simp only [List.length_take, List.length_cons, List.length_drop] at hl
      omega
    rw [if_pos ⟨this, h2⟩, if_pos h2]
  · rw [if_neg (fun h => h2 h.2), if_neg h2]
theorem idx_mem (c : UInt8) : ∀ (l : List UInt8), (0 ≤ Go.Lib.indexByte l c) = (l.contains c = true)
  | [] => by simp [Go.Lib.indexByte]
  | b :: l => by
    have ih := idx_mem c l
    unfold Go.Lib.indexByte
    rw [List.contains_cons]
    by_cases h : b = c
    · subst h; simp
    · have h' : (b == c) = false := by simp [h]
      have h'' : (c == b) = false := by simp [Ne.symm h]
      rw [h', h'', Bool.false_or, ← ih]
      simp only [Bool.false_eq_true, if_false]
      have hge : ∀ m : List UInt8, -1 ≤ Go.Lib.indexByte m c := by
        intro m
        induction m with
        | nil => simp [Go.Lib.indexByte]
        | cons d m ihm =>
          unfold Go.Lib.indexByte
          split
          · omega
          · split
            · omega
            · omega
      have := hge l
      by_cases h1 : Go.Lib.indexByte l c = -1
      · simp [h1]
      · have h1' : (Go.Lib.indexByte l c == -1) = false := by simp [h1]
        rw [h1']
        simp only [Bool.false_eq_true, if_false]
        apply propext
        omega
theorem markR_len {s : List UInt8} (h : markR s ≠ []) : 1 ≤ (markR s).length ∧ (markR s).length ≤ s.length := by
  unfold markR at h ⊢
  split at h
  · rename_i m hm
    have h1 := List.mem_of_find?_eq_some hm
    have h2 := List.find?_some hm
    unfold okM at h2
    simp only [Bool.and_eq_true, decide_eq_true_eq] at h2
    refine ⟨?_, h2.1⟩
    cases m with
    | nil => exact absurd rfl h
    | cons => simp
  · exact absurd rfl h

/-- The token at a place: the token and the place behind it; or an error and its place. -/
def tokM (s : List UInt8) (a : Nat) : (Tk × Nat) × (Int × Nat) :=
  if inWordB (ch s a) = true then
    (if (whileS inWordB s a : Nat) - a > 80 then (((0, [], 0, ()), 0), (3, a)) else (((1, (s.take (whileS inWordB s a)).drop a, (a : Int), ()), whileS inWordB s a), (0, 0)))
  else if ch s a = 36 then
    (if nameB ((s.take (whileS inNameB s (a + 1))).drop (a + 1)) = true then (((3, (s.take (whileS inNameB s (a + 1))).drop (a + 1), (a : Int), ()), whileS inNameB s (a + 1)), (0, 0)) else (((0, [], 0, ()), 0), (5, a)))
  else if ch s a = 34 then
    (if (litR s a).2.2 = 0 then (((2, (litR s a).1, (a : Int), ()), (litR s a).2.1), (0, 0)) else (((0, [], 0, ()), 0), ((litR s a).2.2, (litR s a).2.1)))
  else (if markR (s.drop a) = [] then (((0, [], 0, ()), 0), (14, a)) else (((4, markR (s.drop a), (a : Int), ()), a + (markR (s.drop a)).length), (0, 0)))
theorem litS_ok {s : List UInt8} : ∀ (n : Nat) (acc : List UInt8) (a : Nat), a ≤ s.length → (litN s n acc a).2.2 = true → a < (litN s n acc a).2.1 ∧ (litN s n acc a).2.1 ≤ s.length
  | 0, acc, a, ha, h => by simp [litN] at h
  | n + 1, acc, a, ha, h => by
    unfold litN at h ⊢
    split at h
    · simp at h
    · rename_i h0
      rw [if_neg h0]
      split at h
      · rename_i h1
        rw [if_pos h1]
        exact ⟨by show a < a + 1; omega, by show a + 1 ≤ s.length; omega⟩
      · rename_i h1
        rw [if_neg h1]
        split at h
        · rename_i h2
          rw [if_pos h2]
          split at h
          · simp at h
          · rename_i h3
            rw [if_neg h3]
            have := litS_ok n _ (a + 2) (by omega) h
            exact ⟨by omega, this.2⟩
        · rename_i h2
          rw [if_neg h2]
          split at h
          · rename_i h3
            rw [if_pos h3]
            split at h
            · simp at h
            · rename_i h4
              rw [if_neg h4]
              have gk := grpS_ok (s := s) (a := a + 1) (by omega) (by simpa using h4)
              have := litS_ok n _ _ gk.2.1 h
              exact ⟨by omega, this.2⟩
          · rename_i h3
            rw [if_neg h3]
            split at h
            · simp at h
            · rename_i h4
              rw [if_neg h4]
              have := litS_ok n _ (a + 1) (by omega) h
              exact ⟨by omega, this.2⟩
theorem litR_ok {s : List UInt8} {a : Nat} (ha : a < s.length) (h : (litR s a).2.2 = 0) : a < (litR s a).2.1 ∧ (litR s a).2.1 ≤ s.length := by
  unfold litR at h ⊢
  split at h
  · rename_i h1
    rw [if_pos h1]
    have := litS_ok _ [] (a + 1) (by omega) h1
    split at h
    · simp at h
    · rename_i h2
      rw [if_neg h2]
      exact ⟨by show a < (litS s [] (a + 1)).2.1; unfold litS; omega, this.2⟩
  · simp at h
theorem tokM_ok {s : List UInt8} {a : Nat} (ha : a < s.length) (h : (tokM s a).2.1 = 0) : a < (tokM s a).1.2 ∧ (tokM s a).1.2 ≤ s.length := by
  unfold tokM at h ⊢
  split at h
  · rename_i h1
    rw [if_pos h1]
    split at h
    · simp at h
    · rename_i h2
      rw [if_neg h2]
      have e := whileS_next ha h1
      have := whileS_le inWordB s (a + 1)
      exact ⟨by show a < whileS inWordB s a; omega, by show whileS inWordB s a ≤ s.length; rw [e]; exact this.2 (by omega)⟩
  · rename_i h1
    rw [if_neg h1]
    split at h
    · rename_i h2
      rw [if_pos h2]
      split at h
      · rename_i h3
        rw [if_pos h3]
        have := whileS_le inNameB s (a + 1)
        exact ⟨by show a < whileS inNameB s (a + 1); omega, by show whileS inNameB s (a + 1) ≤ s.length; exact this.2 (by omega)⟩
      · simp at h
    · rename_i h2
      rw [if_neg h2]
      split at h
      · rename_i h3
        rw [if_pos h3]
        split at h
        · rename_i h4
          rw [if_pos h4]
          exact litR_ok ha h4
        · rename_i h4; exact absurd h h4
      · rename_i h3
        rw [if_neg h3]
        split at h
        · simp at h
        · rename_i h4
          rw [if_neg h4]
          have := markR_len h4
          simp only [List.length_drop] at this
          exact ⟨by show a < a + (markR (s.drop a)).length; omega, by show a + (markR (s.drop a)).length ≤ s.length; omega⟩
theorem skipN_le (s : List UInt8) : ∀ n a, a ≤ skipN s n a ∧ (a ≤ s.length → skipN s n a ≤ s.length)
  | 0, a => ⟨Nat.le_refl _, id⟩
  | n + 1, a => by
    unfold skipN
    split
    · rename_i hlt
      split
      · have := skipN_le s n (a + 1)
        exact ⟨by omega, fun h => this.2 (by omega)⟩
      · split
        · rename_i hc
          have hw := whileS_le (fun c => decide (c ≠ 10)) s a
          have := skipN_le s n (whileS (fun c => decide (c ≠ 10)) s a)
          exact ⟨by omega, fun h => this.2 (hw.2 h)⟩
        · exact ⟨Nat.le_refl _, id⟩
    · exact ⟨Nat.le_refl _, id⟩
theorem skipS_le (s : List UInt8) (a : Nat) : a ≤ skipS s a ∧ (a ≤ s.length → skipS s a ≤ s.length) := skipN_le s _ a
/-- All tokens from a place on: the tokens, an error and its place. -/
def scanN (s : List UInt8) : Nat → List Tk → Nat → List Tk × Int × Nat
  | 0, acc, a => (acc, 0, 0)
  | n + 1, acc, a =>
    if a < s.length then
      (if (tokM s a).2.1 = 0 then scanN s n (acc ++ [(tokM s a).1.1]) (skipS s (tokM s a).1.2) else ([], (tokM s a).2.1, (tokM s a).2.2))
    else (acc ++ [(0, [], (s.length : Int), ())], 0, 0)
def scanA (s : List UInt8) (acc : List Tk) (a : Nat) : List Tk × Int × Nat := scanN s (s.length + 1 - a) acc a
theorem scanN_fuel {s : List UInt8} : ∀ (n m : Nat) (acc : List Tk) (a : Nat), s.length + 1 - a ≤ n → s.length + 1 - a ≤ m → a ≤ s.length → scanN s n acc a = scanN s m acc a
  | 0, m, acc, a, h1, h2, h3 => by omega
  | n + 1, 0, acc, a, h1, h2, h3 => by omega
  | n + 1, m + 1, acc, a, h1, h2, h3 => by
    unfold scanN
    split
    · rename_i h4
      split
      · rename_i h5
        have h6 := tokM_ok h4 h5
        have h7 := skipS_le s (tokM s a).1.2
        exact scanN_fuel n m _ _ (by omega) (by omega) (h7.2 h6.2)
      · rfl
    · rfl
theorem scanA_eq {s : List UInt8} {acc : List Tk} {a : Nat} (h : a ≤ s.length) : scanA s acc a =
    if a < s.length then
      (if (tokM s a).2.1 = 0 then scanA s (acc ++ [(tokM s a).1.1]) (skipS s (tokM s a).1.2) else ([], (tokM s a).2.1, (tokM s a).2.2))
    else (acc ++ [(0, [], (s.length : Int), ())], 0, 0) := by
  obtain ⟨n, hn⟩ : ∃ n, s.length + 1 - a = n + 1 := ⟨s.length - a, by omega⟩
  unfold scanA
  rw [hn]
  conv => lhs; unfold scanN
  split
  · rename_i h4
    split
    · rename_i h5
      have h6 := tokM_ok h4 h5
      have h7 := skipS_le s (tokM s a).1.2
      exact scanN_fuel n _ _ _ (by omega) (Nat.le_refl _) (h7.2 h6.2)
    · rfl
  · rfl
def scanS (s : List UInt8) : List Tk × Int × Nat := if s.length > 16000 then ([], 3, 0) else scanA s [] (skipS s 0)
end Go.Lx

/- Plain words of chapter 04: quoting, printing. -/
namespace Go.Lx
open Go Go.Fw Go.Ov
def hexS : List UInt8 := [48, 49, 50, 51, 52, 53, 54, 55, 56, 57, 97, 98, 99, 100, 101, 102]
def hexD (n : Nat) : UInt8 := hexS.getD n 0
def pB (c : UInt8) : Bool := plainB ((c.toNat : Nat) : Int)
def qStep (x : List UInt8 × Bool) (c : UInt8) : List UInt8 × Bool :=
  if pB c = true then (x.1 ++ ((if x.2 = true then [124] else []) ++ [c]), false)
  else (x.1 ++ [if x.2 = true then 32 else 124, hexD (c.toNat / 16), hexD (c.toNat % 16)], true)
def qN (s : List UInt8) (i : Nat) : List UInt8 × Bool := (s.take i).foldl qStep ([34], false)
theorem take_next {s : List UInt8} {i : Nat} (h : i < s.length) : s.take (i + 1) = s.take i ++ [s.getD i 0] := by
  rw [List.take_succ, List.getD_eq_getElem?_getD]
  simp [h]
theorem qN_next {s : List UInt8} {i : Nat} (h : i < s.length) : qN s (i + 1) = qStep (qN s i) (s.getD i 0) := by
  unfold qN
  rw [take_next h, List.foldl_append]; rfl
theorem qStep_len (x : List UInt8 × Bool) (c : UInt8) : (qStep x c).1.length ≤ x.1.length + 3 ∧ x.1.length + 1 ≤ (qStep x c).1.length := by
  unfold qStep
  split
  · split <;> simp <;> omega
  · simp
theorem qFold_len : ∀ (l : List UInt8) (x : List UInt8 × Bool), (l.foldl qStep x).1.length ≤ x.1.length + 3 * l.length
  | [], x => by simp
  | c :: l, x => by
    have := qFold_len l (qStep x c)
    have := qStep_len x c
    simp only [List.foldl_cons, List.length_cons]
    omega
theorem qN_len (s : List UInt8) (i : Nat) : (qN s i).1.length ≤ 1 + 3 * i := by
  have := qFold_len (s.take i) ([34], false)
  have h2 : (s.take i).length ≤ i := by simp; omega
  unfold qN
  simp only [List.length_singleton] at this
  omega
def quoteS (s : List UInt8) : List UInt8 := (qN s s.length).1 ++ ((if (qN s s.length).2 = true then [124] else []) ++ [34])
/-- The text of a token, and whether the token is valid and no end. -/
def writtenS (t : Tk) : List UInt8 × Bool :=
  if t.1 = 1 then (t.2.1, decide (t.2.1 ≠ []) && decide (t.2.1.length ≤ 80) && decide (whileS inWordB t.2.1 0 = t.2.1.length))
  else if t.1 = 3 then (36 :: t.2.1, nameB t.2.1)
  else if t.1 = 2 then (quoteS t.2.1, decide (t.2.1.length ≤ 256))
  else if t.1 = 4 then (t.2.1, decide (t.2.1 ≠ []) && decide (markR t.2.1 = t.2.1))
  else ([], false)
def okT (t : Tk) : Bool := (writtenS t).2
def prStep (acc : List UInt8) (t : Tk) : List UInt8 := if okT t = true then (if acc ≠ [] then acc ++ [32] else acc) ++ (writtenS t).1 else acc
def prN (l : List Tk) (i : Nat) : List UInt8 := (l.take i).foldl prStep []
def printS (l : List Tk) : List UInt8 := prN l l.length
theorem prN_next {l : List Tk} {i : Nat} (h : i < l.length) : prN l (i + 1) = prStep (prN l i) (l.getD i (Ty.dflt tT)) := by
  unfold prN
  rw [List.take_succ, List.foldl_append, List.getD_eq_getElem?_getD]
  simp [h]
def partsN (l : List Tk) (i : Nat) : List (List UInt8) := ((l.take i).filter okT).map fun t => (writtenS t).1
theorem partsN_next {l : List Tk} {i : Nat} (h : i < l.length) : partsN l (i + 1) = partsN l i ++ (if okT (l.getD i (Ty.dflt tT)) = true then [(writtenS (l.getD i (Ty.dflt tT))).1] else []) := by
  unfold partsN
  rw [List.take_succ, List.filter_append, List.getD_eq_getElem?_getD]
  simp [h]
  split <;> simp_all
theorem qN_ne (s : List UInt8) (i : Nat) : (qN s i).1 ≠ [] := by
  have : ∀ (l : List UInt8) (x : List UInt8 × Bool), x.1 ≠ [] → (l.foldl qStep x).1 ≠ [] := by
    intro l
    induction l with
    | nil => exact fun x h => h
    | cons c l ih => exact fun x h => ih _ (fun e => by have := (qStep_len x c).2; rw [e] at this; simp at this)
  exact this _ _ (by simp)
theorem written_ne {t : Tk} (h : okT t = true) : (writtenS t).1 ≠ [] := by
  unfold okT at h
  unfold writtenS at h ⊢
  split at h
  · rename_i h1; rw [if_pos h1]; simp at h; exact h.1.1
  · rename_i h1; rw [if_neg h1]
    split at h
    · rename_i h2; rw [if_pos h2]; simp
    · rename_i h2; rw [if_neg h2]
      split at h
      · rename_i h3; rw [if_pos h3]; unfold quoteS; simp [qN_ne]
      · rename_i h3; rw [if_neg h3]
        split at h
        · rename_i h4; rw [if_pos h4]; simp at h; exact h.1
        · simp at h
end Go.Lx

/- Plain words of chapter 04: printing joined. -/
namespace Go.Lx
open Go Go.Fw Go.Ov
theorem join_snoc (sep y : List UInt8) : ∀ (xs : List (List UInt8)), xs ≠ [] → Go.Lib.join (xs ++ [y]) sep = Go.Lib.join xs sep ++ (sep ++ y)
  | [], h => absurd rfl h
  | x :: r, _ => by rw [List.cons_append, Go.Lib.join_cons, Go.Lib.join_cons]; simp [Go.Lib.joinTail]
theorem prN_join (l : List Tk) : ∀ i, i ≤ l.length → prN l i = Go.Lib.join (partsN l i) [32] ∧ (partsN l i = [] ↔ prN l i = [])
  | 0, _ => by simp [prN, partsN, Go.Lib.join_nil]
  | i + 1, h => by
    have ih := prN_join l i (by omega)
    rw [prN_next (by omega), partsN_next (by omega)]
    generalize l.getD i (Ty.dflt tT) = t
    unfold prStep
    by_cases ht : okT t = true
    · rw [if_pos ht, if_pos ht]
      have hne := written_ne ht
      by_cases hp : prN l i = []
      · have hq := ih.2.2 hp
        rw [hq, hp]
        simp [Go.Lib.join_one, hne]
      · have hq : partsN l i ≠ [] := fun e => hp (ih.2.1 e)
        rw [join_snoc _ _ _ hq, ← ih.1, if_pos hp]
        simp [hp]
    · rw [if_neg ht, if_neg ht]
      simpa using ih
theorem print_join (l : List Tk) : printS l = Go.Lib.join (partsN l l.length) [32] := (prN_join l _ (Nat.le_refl _)).1
theorem quote_len (s : List UInt8) : (quoteS s).length ≤ 3 + 3 * s.length := by
  have := qN_len s s.length
  unfold quoteS
  rw [List.length_append, List.length_append]
  have h2 : (if (qN s s.length).2 = true then [124] else [] : List UInt8).length ≤ 1 := by split <;> simp
  simp only [List.length_singleton]
  omega
theorem written_len (t : Tk) : (writtenS t).1.length ≤ 3 + 3 * t.2.1.length := by
  unfold writtenS
  have := quote_len t.2.1
  (repeat' split) <;> simp <;> omega
theorem prN_len (l : List Tk) (n : Nat) (hl : ∀ i, i < l.length → (l.getD i (Ty.dflt tT)).2.1.length ≤ n) : ∀ i, i ≤ l.length → (prN l i).length ≤ i * (4 + 3 * n)
  | 0, _ => by simp [prN]
  | i + 1, h => by
    have ih := prN_len l n hl i (by omega)
    rw [prN_next (by omega)]
    have h1 := hl i (by omega)
    have h2 := written_len (l.getD i (Ty.dflt tT))
    generalize l.getD i (Ty.dflt tT) = t at h1 h2 ⊢
    unfold prStep
    rw [Nat.succ_mul]
    split
    · rw [List.length_append]
      split <;> simp <;> omega
    · omega
theorem partsN_len (l : List Tk) (i : Nat) : (partsN l i).length ≤ i := by
  unfold partsN
  rw [List.length_map]
  exact Nat.le_trans (List.length_filter_le _ _) (by simp; omega)
end Go.Lx

