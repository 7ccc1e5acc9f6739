import Derived.Test.YtngmadndlmceoaaGOv2
set_option linter.all false
/- Plain words of chapter 04: kinds of characters, words, names. -/
namespace Go.Lx
open Go Go.Fw Go.Ov
def isSpace (c : Int) : Bool := decide (c = 32 ∨ c = 9 ∨ c = 10 ∨ c = 13)
def isLetter (c : Int) : Bool := decide ((97 ≤ c ∧ c ≤ 122) ∨ (65 ≤ c ∧ c ≤ 90))
def isDigit (c : Int) : Bool := decide (48 ≤ c ∧ c ≤ 57)
def isDot (c : Int) : Bool := decide (c = 95 ∨ c = 46 ∨ c = 58 ∨ c = 47)
def classC (c : Int) : Int := if isSpace c = true then 1 else if isLetter c = true then 2 else if isDigit c = true then 3 else if isDot c = true then 4 else 0
def inWordB (c : Int) : Bool := decide (classC c ≥ 2)
def inNameB (c : Int) : Bool := decide (c = 95) || decide (classC c = 2) || decide (classC c = 3)
def plainB (c : Int) : Bool := decide (32 ≤ c ∧ c ≤ 126 ∧ c ≠ 34 ∧ c ≠ 92 ∧ c ≠ 124)
def ch (s : List UInt8) (i : Nat) : Int := ((s.getD i 0).toNat : Int)
theorem ch_rng (s : List UInt8) (i : Nat) : 0 ≤ ch s i ∧ ch s i < 256 := by
  unfold ch
  have := (s.getD i 0).toNat_lt
  omega
/-- The first place from a on where a property ends. -/
def whileN (p : Int → Bool) (s : List UInt8) : Nat → Nat → Nat
  | 0, a => a
  | n + 1, a => if a < s.length ∧ p (ch s a) = true then whileN p s n (a + 1) else a
def whileS (p : Int → Bool) (s : List UInt8) (a : Nat) : Nat := whileN p s (s.length - a) a
theorem whileS_next {p : Int → Bool} {s : List UInt8} {a : Nat} (h : a < s.length) (hp : p (ch s a) = true) : whileS p s a = whileS p s (a + 1) := by
  unfold whileS
  obtain ⟨n, hn⟩ : ∃ n, s.length - a = n + 1 := ⟨s.length - a - 1, by omega⟩
  rw [hn, show s.length - (a + 1) = n by omega]
  exact if_pos ⟨h, hp⟩
theorem whileS_end {p : Int → Bool} {s : List UInt8} {a : Nat} (h : ¬ (a < s.length ∧ p (ch s a) = true)) : whileS p s a = a := by
  unfold whileS
  cases hn : s.length - a with
  | zero => rfl
  | succ n => exact if_neg h
theorem whileN_le (p : Int → Bool) (s : List UInt8) : ∀ n a, a ≤ whileN p s n a ∧ (a ≤ s.length → whileN p s n a ≤ s.length)
  | 0, a => ⟨Nat.le_refl _, id⟩
  | n + 1, a => by
    unfold whileN
    split
    · have := whileN_le p s n (a + 1)
      exact ⟨by omega, fun h => this.2 (by omega)⟩
    · exact ⟨Nat.le_refl _, id⟩
theorem whileS_le (p : Int → Bool) (s : List UInt8) (a : Nat) : a ≤ whileS p s a ∧ (a ≤ s.length → whileS p s a ≤ s.length) := whileN_le p s _ a
end Go.Lx

/- Plain words of chapter 04: names, numbers, spaces. -/
namespace Go.Lx
open Go Go.Fw Go.Ov
theorem class2 (c : Int) : (classC c = 2) = (isLetter c = true) := by
  unfold classC isSpace isLetter isDigit isDot
  simp only [decide_eq_true_eq]
  apply propext
  constructor
  · intro h; (repeat' split at h) <;> omega
  · intro h; (repeat' split) <;> omega
theorem class3 (c : Int) : (classC c = 3) = (isDigit c = true) := by
  unfold classC isSpace isLetter isDigit isDot
  simp only [decide_eq_true_eq]
  apply propext
  constructor
  · intro h; (repeat' split at h) <;> omega
  · intro h; (repeat' split) <;> omega
theorem class1 (c : Int) : (classC c = 1) = (isSpace c = true) := by
  unfold classC isSpace isLetter isDigit isDot
  simp only [decide_eq_true_eq]
  apply propext
  constructor
  · intro h; (repeat' split at h) <;> omega
  · intro h; (repeat' split) <;> omega
theorem inName_eq (c : Int) : inNameB c = (isLetter c || isDigit c || decide (c = 95)) := by
  unfold inNameB
  simp only [class2, class3, Bool.decide_eq_true]
  cases isLetter c <;> cases isDigit c <;> cases decide (c = 95) <;> rfl
theorem inWord_eq (c : Int) : inWordB c = (isLetter c || isDigit c || isDot c) := by
  unfold inWordB classC isSpace isLetter isDigit isDot
  rw [Bool.eq_iff_iff]
  simp only [decide_eq_true_eq, Bool.or_eq_true]
  constructor
  · intro h; (repeat' split at h) <;> omega
  · intro h; (repeat' split) <;> omega
def nameB (s : List UInt8) : Bool := decide (s ≠ []) && decide (s.length ≤ 32) && isLetter (ch s 0) && decide (whileS inNameB s 0 = s.length)
theorem whileS_all {p : Int → Bool} {s : List UInt8} : ∀ (n a : Nat), s.length - a = n → a ≤ s.length → (∀ i, a ≤ i → i < s.length → p (ch s i) = true) → whileS p s a = s.length
  | 0, a, hn, ha, h => by
    rw [whileS_end (by omega)]; omega
  | n + 1, a, hn, ha, h => by
    rw [whileS_next (by omega) (h a (Nat.le_refl _) (by omega))]
    exact whileS_all n (a + 1) (by omega) (by omega) (fun i h1 h2 => h i (by omega) h2)
theorem whileS_stop {p : Int → Bool} {s : List UInt8} : ∀ (n a i : Nat), i - a = n → a ≤ i → i < s.length → p (ch s i) = false → whileS p s a ≤ i
  | 0, a, i, hn, ha, hi, h => by
    have : a = i := by omega
    subst this
    rw [whileS_end (fun hh => by rw [h] at hh; exact absurd hh.2 (by decide))]
    exact Nat.le_refl _
  | n + 1, a, i, hn, ha, hi, h => by
    by_cases hp : p (ch s a) = true
    · rw [whileS_next (by omega) hp]
      exact whileS_stop n (a + 1) i (by omega) (by omega) hi h
    · rw [whileS_end (fun hh => hp hh.2)]
      omega
/-- The value of the first i digits. -/
def numV (s : List UInt8) (i : Nat) : Int := (s.take i).foldl (fun n b => n * 10 + ((b.toNat : Int) - 48)) 0
theorem numV_next {s : List UInt8} {i : Nat} (h : i < s.length) : numV s (i + 1) = numV s i * 10 + (ch s i - 48) := by
  unfold numV
  exact foldl_next _ _ 0 h
theorem numV_rng {s : List UInt8} : ∀ {i : Nat}, i ≤ s.length → (∀ j, j < i → isDigit (ch s j) = true) → 0 ≤ numV s i ∧ numV s i < ((10 ^ i : Nat) : Int)
  | 0, _, _ => by simp [numV]
  | i + 1, h, hd => by
    have ih := numV_rng (i := i) (by omega) (fun j hj => hd j (by omega))
    have h1 := of_decide_eq_true (hd i (by omega))
    rw [numV_next (by omega), Nat.pow_succ]
    omega
theorem numV_lt {s : List UInt8} {i : Nat} (h : i ≤ s.length) (h13 : i ≤ 13) (hd : ∀ j, j < i → isDigit (ch s j) = true) : 0 ≤ numV s i ∧ numV s i < 10000000000000 := by
  have h1 := numV_rng h hd
  have h2 : 10 ^ i ≤ 10 ^ 13 := Nat.pow_le_pow_right (by decide) h13
  have h3 : (10 : Nat) ^ 13 = 10000000000000 := by decide
  omega
def numBad (s : List UInt8) : Bool := decide (s = []) || decide (s.length > 13) || (decide (ch s 0 = 48) && decide (s.length > 1))
def numS (s : List UInt8) : Int × Bool := if numBad s = true then (0, false) else if (∀ i, i < s.length → isDigit (ch s i) = true) then (if numV s s.length ≥ 1099511627776 then (0, false) else (numV s s.length, true)) else (0, false)
/-- Where the next token begins. -/
def skipN (s : List UInt8) : Nat → Nat → Nat
  | 0, a => a
  | n + 1, a => if a < s.length then (if isSpace (ch s a) = true then skipN s n (a + 1) else if ch s a = 35 then skipN s n (whileS (fun c => decide (c ≠ 10)) s a) else a) else a
end Go.Lx
namespace Go.Lx
open Go Go.Fw Go.Ov
theorem zero_eq {s : List UInt8} (h : s ≠ []) (h0 : ch s 0 = 48) : (s = [48]) = (¬ s.length > 1) := by
  apply propext
  cases s with
  | nil => exact absurd rfl h
  | cons b r =>
    have hb : b = 48 := by
      have : ((b.toNat : Nat) : Int) = 48 := h0
      apply UInt8.toNat_inj.1
      show b.toNat = 48
      omega
    subst hb
    constructor
    · intro e; cases e; simp
    · intro e
      cases r with
      | nil => rfl
      | cons c r => simp at e
theorem numS_bad {s : List UInt8} (h : numBad s = true) : numS s = (0, false) := if_pos h
theorem numS_no {s : List UInt8} (h : numBad s = false) {i : Nat} (hi : i < s.length) (hd : isDigit (ch s i) = false) : numS s = (0, false) := by
  unfold numS
  rw [if_neg (by rw [h]; decide), if_neg (fun k => by rw [k i hi] at hd; cases hd)]
theorem numS_yes {s : List UInt8} (h : numBad s = false) (hd : ∀ i, i < s.length → isDigit (ch s i) = true) : numS s = if numV s s.length ≥ 1099511627776 then (0, false) else (numV s s.length, true) := by
  unfold numS
  rw [if_neg (by rw [h]; decide), if_pos hd]
theorem wrap_u8 {x : Int} (h : 0 ≤ x ∧ x < 256) : IntKind.u8.wrap x = x := by
  have e : (2:Int)^8 = 256 := by decide
  unfold IntKind.wrap
  simp [IntKind.signed, IntKind.bits, e]
  omega
theorem bad_prog (s : List UInt8) : (if (if decide (s = []) = true then true else decide ((s.length : Int) > 13)) = true then true else if decide (ch s 0 = 48) = true then decide (s ≠ [48]) else false) = numBad s := by
  have c1 : ((s.length : Int) > 13) = (s.length > 13) := propext (by omega)
  unfold numBad
  by_cases q : s = []
  · simp [q]
  · by_cases q4 : ch s 0 = 48
    · have z := zero_eq q q4
      by_cases q2 : s.length > 13
      · simp only [c1, q2]; simp
      · by_cases q5 : s.length > 1
        · have z2 : ¬ s = [48] := by rw [z]; exact fun h => h q5
          simp only [c1, q2, q, q4, q5, z2]; simp [z2]
        · have z2 : s = [48] := by rw [z]; exact q5
          rw [z2] at q q2 q4 q5 ⊢
          simp [ch]
    · simp only [c1, q, q4]; simp
theorem bad_ref (s : List UInt8) : (if (if decide (s = []) = true then true else decide ((s.length : Int) > 13)) = true then true else if decide (ch s 0 = 48) = true then decide ((s.length : Int) > 1) else false) = numBad s := by
  have c1 : ((s.length : Int) > 13) = (s.length > 13) := propext (by omega)
  have c2 : ((s.length : Int) > 1) = (s.length > 1) := propext (by omega)
  unfold numBad
  simp only [c1, c2]
  by_cases q : s = [] <;> by_cases q4 : ch s 0 = 48 <;> by_cases q2 : s.length > 13 <;> simp [q, q4, q2]
theorem numBad_len {s : List UInt8} (h : numBad s = false) : s.length ≤ 13 ∧ s ≠ [] := by
  unfold numBad at h
  simp at h
  exact ⟨h.1.2, h.1.1⟩
end Go.Lx

/- Plain words of chapter 04: where tokens begin. -/
namespace Go.Lx
open Go Go.Fw Go.Ov
abbrev noNl (c : Int) : Bool := decide (c ≠ 10)
theorem while_com {s : List UInt8} {a : Nat} (h : a < s.length) (hc : ch s a = 35) : a < whileS noNl s a ∧ whileS noNl s a ≤ s.length := by
  have h1 : noNl (ch s a) = true := by rw [hc]; decide
  rw [whileS_next h h1]
  have := whileS_le noNl s (a + 1)
  exact ⟨by omega, this.2 (by omega)⟩
theorem skipN_fuel {s : List UInt8} : ∀ (n m a : Nat), s.length - a ≤ n → s.length - a ≤ m → skipN s n a = skipN s m a
  | 0, 0, a, _, _ => rfl
  | 0, m + 1, a, h1, h2 => by
    unfold skipN
    rw [if_neg (by omega)]
  | n + 1, 0, a, h1, h2 => by
    unfold skipN
    rw [if_neg (by omega)]
  | n + 1, m + 1, a, h1, h2 => by
    unfold skipN
    split
    · rename_i hlt
      split
      · exact skipN_fuel n m _ (by omega) (by omega)
      · split
        · rename_i hc
          have := while_com hlt hc
          have e : (fun c => decide (c ≠ 10)) = noNl := rfl
          exact skipN_fuel n m _ (by rw [e]; omega) (by rw [e]; omega)
        · rfl
    · rfl
def skipS (s : List UInt8) (a : Nat) : Nat := skipN s (s.length - a) a
theorem skipS_eq {s : List UInt8} {a : Nat} (h : a < s.length) : skipS s a = if isSpace (ch s a) = true then skipS s (a + 1) else if ch s a = 35 then skipS s (whileS noNl s a) else a := by
  obtain ⟨n, hn⟩ : ∃ n, s.length - a = n + 1 := ⟨s.length - a - 1, by omega⟩
  unfold skipS
  rw [hn]
  conv => lhs; unfold skipN
  rw [if_pos h]
  split
  · exact skipN_fuel n _ _ (by omega) (Nat.le_refl _)
  · split
    · rename_i hc
      have := while_com h hc
      exact skipN_fuel n _ _ (by show s.length - whileS noNl s a ≤ n; omega) (Nat.le_refl _)
    · rfl
theorem skipS_end {s : List UInt8} {a : Nat} (h : ¬ a < s.length) : skipS s a = a := by
  unfold skipS
  rw [show s.length - a = 0 by omega]
  rfl
end Go.Lx

/- Plain words of chapter 04: hexadecimal digits, groups of bytes. -/
namespace Go.Lx
open Go Go.Fw Go.Ov
def hexC (c : Int) : Int := if 48 ≤ c ∧ c ≤ 57 then c - 48 else if 97 ≤ c ∧ c ≤ 102 then c - 87 else if 65 ≤ c ∧ c ≤ 70 then c - 55 else -1
theorem hexC_rng (c : Int) : -1 ≤ hexC c ∧ hexC c < 16 := by unfold hexC; (repeat' split) <;> omega
/-- A digit is lacking at this place: beyond the text, or no digit. -/
def noHex (s : List UInt8) (a : Nat) : Bool := decide (a ≥ s.length) || decide (hexC (ch s a) < 0)
def twoHex (s : List UInt8) (a : Nat) : UInt8 := Fw.byteOf (hexC (ch s a) * 16 + hexC (ch s (a + 1)))
/-- The bytes of a group from a place on: bytes, place behind it, whether it is whole. -/
def grpN (s : List UInt8) : Nat → List UInt8 → Nat → List UInt8 × Nat × Bool
  | 0, _, a => ([], a, false)
  | n + 1, acc, a =>
    if noHex s a = true then ([], a, false)
    else if noHex s (a + 1) = true then ([], a + 1, false)
    else if a + 2 < s.length ∧ ch s (a + 2) = 124 then (acc ++ [twoHex s a], a + 3, true)
    else if a + 2 ≥ s.length ∨ ch s (a + 2) ≠ 32 then ([], a + 2, false)
    else grpN s n (acc ++ [twoHex s a]) (a + 3)
def grpS (s : List UInt8) (acc : List UInt8) (a : Nat) : List UInt8 × Nat × Bool := grpN s (s.length + 1 - a) acc a
theorem grpN_fuel {s : List UInt8} : ∀ (n m : Nat) (acc : List UInt8) (a : Nat), s.length + 1 - a ≤ n → s.length + 1 - a ≤ m → a ≤ s.length → grpN s n acc a = grpN s m acc a
  | 0, m, acc, a, h1, h2, h3 => by omega
  | n + 1, 0, acc, a, h1, h2, h3 => by omega
  | n + 1, m + 1, acc, a, h1, h2, h3 => by
    unfold grpN
    split
    · rfl
    · split
      · rfl
      · split
        · rfl
        · split
          · rfl
          · exact grpN_fuel n m _ _ (by omega) (by omega) (by omega)
theorem grpS_eq {s : List UInt8} {acc : List UInt8} {a : Nat} (h : a ≤ s.length) : grpS s acc a =
    if noHex s a = true then ([], a, false)
    else if noHex s (a + 1) = true then ([], a + 1, false)
    else if a + 2 < s.length ∧ ch s (a + 2) = 124 then (acc ++ [twoHex s a], a + 3, true)
    else if a + 2 ≥ s.length ∨ ch s (a + 2) ≠ 32 then ([], a + 2, false)
    else grpS s (acc ++ [twoHex s a]) (a + 3) := by
  obtain ⟨n, hn⟩ : ∃ n, s.length + 1 - a = n + 1 := ⟨s.length - a, by omega⟩
  unfold grpS
  rw [hn]
  conv => lhs; unfold grpN
  split
  · rfl
  · split
    · rfl
    · split
      · rfl
      · split
        · rfl
        · exact grpN_fuel n _ _ _ (by omega) (Nat.le_refl _) (by omega)
end Go.Lx
namespace Go.Lx
open Go Go.Fw Go.Ov
theorem noHex_eq (s : List UInt8) (a : Nat) : (if decide ((a : Int) ≥ (s.length : Int)) = true then true else decide (hexC (ch s a) < 0)) = noHex s a := by
  unfold noHex
  have e : ((a : Int) ≥ (s.length : Int)) = (a ≥ s.length) := propext (by omega)
  simp only [e]
  cases decide (a ≥ s.length) <;> rfl
theorem noHex_lt {s : List UInt8} {a : Nat} (h : noHex s a = false) : a < s.length ∧ 0 ≤ hexC (ch s a) := by
  unfold noHex at h
  obtain ⟨h1, h2⟩ := Bool.or_eq_false_iff.1 h
  have h3 := of_decide_eq_false h1
  have h4 := of_decide_eq_false h2
  omega
theorem byteOf_toNat {x : Int} (h : 0 ≤ x ∧ x < 256) : ((Fw.byteOf x).toNat : Int) = x := by
  unfold Fw.byteOf
  rw [UInt8.toNat_ofNat']
  omega
theorem twoHex_nat {s : List UInt8} {a : Nat} (h0 : noHex s a = false) (h1 : noHex s (a + 1) = false) : ((twoHex s a).toNat : Int) = hexC (ch s a) * 16 + hexC (ch s (a + 1)) := by
  have k0 := noHex_lt h0
  have k1 := noHex_lt h1
  have r0 := hexC_rng (ch s a)
  have r1 := hexC_rng (ch s (a + 1))
  exact byteOf_toNat (by omega)
end Go.Lx
namespace Go.Lx
open Go Go.Fw Go.Ov
theorem or_hex {h k : Int} (h0 : 0 ≤ h ∧ h < 16) (k0 : 0 ≤ k ∧ k < 16) : IntKind.u8.wrap (bitop IntKind.i64 BinOp.or (IntKind.i64.wrap (h * 2 ^ min (Int.toNat 4) IntKind.i64.bits)) k) = h * 16 + k := by
  have key : ∀ m : Fin 16, ∀ n : Fin 16, IntKind.u8.wrap (bitop IntKind.i64 BinOp.or (IntKind.i64.wrap ((m.val : Int) * 2 ^ min (Int.toNat 4) IntKind.i64.bits)) (n.val : Int)) = (m.val : Int) * 16 + (n.val : Int) := by decide +kernel
  have := key ⟨h.toNat, by omega⟩ ⟨k.toNat, by omega⟩
  simp only [Int.toNat_of_nonneg h0.1, Int.toNat_of_nonneg k0.1] at this
  exact this
end Go.Lx

/- Plain words of chapter 04: strings. -/
namespace Go.Lx
open Go Go.Fw Go.Ov
theorem grpN_ok {s : List UInt8} : ∀ (n : Nat) (acc : List UInt8) (a : Nat), a ≤ s.length → (grpN s n acc a).2.2 = true → a < (grpN s n acc a).2.1 ∧ (grpN s n acc a).2.1 ≤ s.length ∧ (grpN s n acc a).1.length + a ≤ acc.length + (grpN s n acc a).2.1
  | 0, acc, a, ha, h => by simp [grpN] at h
  | n + 1, acc, a, ha, h => by
    unfold grpN at h ⊢
    split at h
    · simp at h
    · rename_i h1
      rw [if_neg h1]
      split at h
      · simp at h
      · rename_i h2
        rw [if_neg h2]
        split at h
        · rename_i h3
          rw [if_pos h3]
          simp only [List.length_append, List.length_singleton]
          omega
        · rename_i h3
          rw [if_neg h3]
          split at h
          · simp at h
          · rename_i h4
            rw [if_neg h4]
            have := grpN_ok n (acc ++ [twoHex s a]) (a + 3) (by omega) h
            simp only [List.length_append, List.length_singleton] at this
            omega
theorem grpS_ok {s : List UInt8} {a : Nat} (ha : a ≤ s.length) (h : (grpS s [] a).2.2 = true) : a < (grpS s [] a).2.1 ∧ (grpS s [] a).2.1 ≤ s.length ∧ (grpS s [] a).1.length + a ≤ (grpS s [] a).2.1 := by
  have := grpN_ok _ [] a ha h
  simp only [List.length_nil, Nat.zero_add] at this
  exact this
abbrev special (c : Int) : Prop := c = 34 ∨ c = 92 ∨ c = 124
/-- The content of a string from a place on: bytes, place behind it, whether it ends. -/
def litN (s : List UInt8) : Nat → List UInt8 → Nat → List UInt8 × Nat × Bool
  | 0, _, a => ([], a, false)
  | n + 1, acc, a =>
    if a ≥ s.length then ([], a, false)
    else if ch s a = 34 then (acc, a + 1, true)
    else if ch s a = 92 then (if a + 1 ≥ s.length ∨ ¬ special (ch s (a + 1)) then ([], a + 1, false) else litN s n (acc ++ [s.getD (a + 1) 0]) (a + 2))
    else if ch s a = 124 then (if (grpS s [] (a + 1)).2.2 = false then ([], (grpS s [] (a + 1)).2.1, false) else litN s n (acc ++ (grpS s [] (a + 1)).1) (grpS s [] (a + 1)).2.1)
    else if ch s a < 32 ∨ ch s a > 126 then ([], a, false)
    else litN s n (acc ++ [s.getD a 0]) (a + 1)
def litS (s : List UInt8) (acc : List UInt8) (a : Nat) : List UInt8 × Nat × Bool := litN s (s.length + 1 - a) acc a
theorem litN_fuel {s : List UInt8} : ∀ (n m : Nat) (acc : List UInt8) (a : Nat), s.length + 1 - a ≤ n → s.length + 1 - a ≤ m → a ≤ s.length → litN s n acc a = litN s m acc a
  | 0, m, acc, a, h1, h2, h3 => by omega
  | n + 1, 0, acc, a, h1, h2, h3 => by omega
  | n + 1, m + 1, acc, a, h1, h2, h3 => by
    unfold litN
    split
    · rfl
    · split
      · rfl
      · split
        · split
          · rfl
          · exact litN_fuel n m _ _ (by omega) (by omega) (by omega)
        · split
          · split
            · rfl
            · rename_i hg
              have hg' : (grpS s [] (a + 1)).2.2 = true := by simpa using hg
              have := grpS_ok (by omega) hg'
              exact litN_fuel n m _ _ (by omega) (by omega) this.2.1
          · split
            · rfl
            · exact litN_fuel n m _ _ (by omega) (by omega) (by omega)
theorem litS_eq {s : List UInt8} {acc : List UInt8} {a : Nat} (h : a ≤ s.length) : litS s acc a =
    if a ≥ s.length then ([], a, false)
    else if ch s a = 34 then (acc, a + 1, true)
    else if ch s a = 92 then (if a + 1 ≥ s.length ∨ ¬ special (ch s (a + 1)) then ([], a + 1, false) else litS s (acc ++ [s.getD (a + 1) 0]) (a + 2))
    else if ch s a = 124 then (if (grpS s [] (a + 1)).2.2 = false then ([], (grpS s [] (a + 1)).2.1, false) else litS s (acc ++ (grpS s [] (a + 1)).1) (grpS s [] (a + 1)).2.1)
    else if ch s a < 32 ∨ ch s a > 126 then ([], a, false)
    else litS s (acc ++ [s.getD a 0]) (a + 1) := by
  obtain ⟨n, hn⟩ : ∃ n, s.length + 1 - a = n + 1 := ⟨s.length - a, by omega⟩
  unfold litS
  rw [hn]
  conv => lhs; unfold litN
  split
  · rfl
  · split
    · rfl
    · split
      · split
        · rfl
        · exact litN_fuel n _ _ _ (by omega) (Nat.le_refl _) (by omega)
      · split
        · split
          · rfl
          · rename_i hg
            have hg' : (grpS s [] (a + 1)).2.2 = true := by simpa using hg
            have := grpS_ok (by omega) hg'
            exact litN_fuel n _ _ _ (by omega) (Nat.le_refl _) this.2.1
        · split
          · rfl
          · exact litN_fuel n _ _ _ (by omega) (Nat.le_refl _) (by omega)
/-- What the reference says of a string that begins at a place. -/
def litR (s : List UInt8) (f : Nat) : List UInt8 × Nat × Int :=
  if (litS s [] (f + 1)).2.2 = true then (if (litS s [] (f + 1)).1.length > 256 then ([], f, 3) else ((litS s [] (f + 1)).1, (litS s [] (f + 1)).2.1, 0)) else ([], (litS s [] (f + 1)).2.1, 14)
theorem litR_no {s : List UInt8} {f a : Nat} {l : List UInt8} (h : litS s [] (f + 1) = (l, a, false)) : litR s f = ([], a, 14) := by
  unfold litR
  rw [h]
  rfl
theorem litR_yes {s : List UInt8} {f a : Nat} {l : List UInt8} (h : litS s [] (f + 1) = (l, a, true)) : litR s f = if l.length > 256 then ([], f, 3) else (l, a, 0) := by
  unfold litR
  rw [h]
  exact if_pos rfl
theorem own_one (acc : List UInt8) (b : UInt8) : (intsOf acc).take acc.length ++ [((b.toNat : Nat) : Int)] = intsOf (acc ++ [b]) := by
  rw [← intsOf_len acc, List.take_length, intsOf_app]; rfl
theorem own_more (acc l : List UInt8) : (intsOf acc).take acc.length ++ intsOf l = intsOf (acc ++ l) := by
  rw [← intsOf_len acc, List.take_length, intsOf_app]
end Go.Lx

/- Plain words of chapter 04: marks. -/
namespace Go.Lx
open Go Go.Fw Go.Ov
def mkL : List (List UInt8) := [[45, 62], [60, 62], [60, 61], [40], [41], [91], [93], [123], [125], [44], [59], [33], [61], [60], [62], [38], [43]]
def okM (s m : List UInt8) : Bool := decide (m.length ≤ s.length) && decide (s.take m.length = m)
/-- The longest mark with which a text begins. -/
def markR (s : List UInt8) : List UInt8 := match mkL.find? (okM s) with | some m => m | none => []
theorem find_at {α : Type} (p : α → Bool) (d : α) : ∀ (l : List α) (i : Nat), i < l.length → p (l.getD i d) = true → (∀ j, j < i → p (l.getD j d) = false) → l.find? p = some (l.getD i d)
  | [], i, h, _, _ => absurd h (Nat.not_lt_zero _)
  | x :: l, 0, _, hp, _ => by
    have hp' : p x = true := hp
    show List.find? p (x :: l) = some x
    rw [List.find?_cons, hp']
  | x :: l, i + 1, h, hp, hn => by
    have h0 : p x = false := hn 0 (by omega)
    rw [List.find?_cons, h0]
    exact find_at p d l i (by simpa using h) hp (fun j hj => hn (j + 1) (by omega))
theorem markR_at {s : List UInt8} {i : Nat} (h : i < mkL.length) (hp : okM s (mkL.getD i []) = true) (hn : ∀ j, j < i → okM s (mkL.getD j []) = false) : markR s = mkL.getD i [] := by
  unfold markR
  rw [find_at (okM s) [] mkL i h hp hn]
theorem markR_none {s : List UInt8} (hn : ∀ j, j < mkL.length → okM s (mkL.getD j []) = false) : markR s = [] := by
  unfold markR
  rw [List.find?_eq_none.2 (fun m hm => by
    obtain ⟨j, hj, rfl⟩ := mem_getD ([] : List UInt8) hm
    rw [hn j hj]; decide)]
theorem okM_eq (s m : List UInt8) : (if decide ((s.length : Int) ≥ (m.length : Int)) = true then decide (List.drop (Int.toNat 0) (s.take (m.length : Int).toNat) = m) else false) = okM s m := by
  unfold okM
  have e : ((s.length : Int) ≥ (m.length : Int)) = (m.length ≤ s.length) := propext (by omega)
  simp only [e, toNat_cast]
  cases decide (m.length ≤ s.length) <;> rfl
end Go.Lx

/- Plain words of chapter 04: tokens. -/
namespace Go.Lx
open Go Go.Fw Go.Ov
abbrev tT : Ty := .cons (.int .i64) (.cons .str (.cons (.int .i64) .nil))
abbrev Tk := Int × List UInt8 × Int × Unit
abbrev tv (x : Tk) : AV := .agg [.int .i64 x.1, .str x.2.1, .int .i64 x.2.2.1]
theorem teq (x y : Tk) : (decide (x.1 = y.1) && (decide (x.2.1 = y.2.1) && (decide (x.2.2.1 = y.2.2.1) && true))) = decide (x = y) := by
  obtain ⟨a, b, c, _⟩ := x
  obtain ⟨a', b', c', _⟩ := y
  by_cases h1 : a = a' <;> by_cases h2 : b = b' <;> by_cases h3 : c = c' <;> simp [h1, h2, h3]
def longT (l : List Tk) : Bool := decide (l.length > 40) || l.any (fun t => decide (t.2.1.length > 300))
theorem longT_at {l : List Tk} {i : Nat} (h : i < l.length) (h2 : (l.getD i (Ty.dflt tT)).2.1.length > 300) : longT l = true := by
  unfold longT
  exact Bool.or_eq_true_iff.2 (.inr (List.any_eq_true.2 ⟨_, getD_mem (d := (Ty.dflt tT : Tk)) h, decide_eq_true h2⟩))
theorem longT_no {l : List Tk} (h : ¬ l.length > 40) (h2 : ∀ i, i < l.length → (l.getD i (Ty.dflt tT)).2.1.length ≤ 300) : longT l = false := by
  unfold longT
  rw [decide_eq_false h, Bool.false_or]
  refine List.any_eq_false.2 (fun t ht => ?_)
  obtain ⟨j, hj, rfl⟩ := mem_getD (Ty.dflt tT) ht
  have := h2 j hj
  simp only [decide_eq_true_eq]
  exact Nat.not_lt.2 this
end Go.Lx

