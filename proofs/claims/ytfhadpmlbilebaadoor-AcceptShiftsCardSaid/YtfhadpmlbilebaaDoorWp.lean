/- The plain laws of chapter 19: what the program computes is what the reference computes. -/
import Derived.Test.YtfhadpmlbilebaaDoorWe
set_option linter.all false
namespace Go.Proofs.YtfhadpmlbilebaaDoor.Fx
open Go Go.Fw

theorem and_low (f : Int) (m : Nat) (hm : m < 32) : bitop .i64 .and f m = (((f % 32).toNat &&& m : Nat) : Int) := by
  have hx : (BitVec.ofInt 64 f &&& BitVec.ofInt 64 (m : Int)).toNat = (f % 32).toNat &&& m := by
    rw [BitVec.toNat_and, BitVec.toNat_ofInt, BitVec.toNat_ofInt]
    have e1 : ((m : Int) % ((2 ^ 64 : Nat) : Int)).toNat = m := by omega
    rw [e1]
    generalize hA : (f % ((2 ^ 64 : Nat) : Int)).toNat = A
    have hA' : A % 2 ^ 5 = (f % 32).toNat := by omega
    have hm' : m % 2 ^ 5 = m := Nat.mod_eq_of_lt hm
    have hle : A &&& m < 2 ^ 5 := Nat.lt_of_le_of_lt Nat.and_le_right hm
    rw [← Nat.mod_eq_of_lt hle, Nat.and_mod_two_pow, hA', hm']
  have hle : (f % 32).toNat &&& m ≤ m := Nat.and_le_right
  show IntKind.i64.wrap ((BitVec.ofInt 64 f &&& BitVec.ofInt 64 (m : Int)).toNat : Int) = _
  rw [hx, wrapId (by omega)]

theorem low_lt (f : Int) : (f % 32).toNat < 32 := by omega
theorem has_low (f : Int) (m : Nat) (hm : m < 32) : has f m = decide ((f % 32).toNat &&& m = m) := by
  unfold has
  rw [and_low f m hm]
  exact decide_eq_decide.2 (by omega)
theorem flags_eq (f : Int) : flags f = flagsR f := by
  have key : ∀ r, r < 32 → (if decide (r &&& 3 = 3) || decide (r &&& 6 = 6) then false else decide (((r &&& 22 : Nat) : Int) ≠ 0)) =
      (if decide (r &&& 2 = 2) && (decide (r &&& 1 = 1) || decide (r &&& 4 = 4)) then false else decide (r &&& 2 = 2) || decide (r &&& 4 = 4) || decide (r &&& 16 = 16)) := by decide
  unfold flags flagsR
  rw [show has f 3 = _ from has_low f 3 (by decide), show has f 6 = _ from has_low f 6 (by decide), show has f 2 = _ from has_low f 2 (by decide), show has f 1 = _ from has_low f 1 (by decide),
    show has f 4 = _ from has_low f 4 (by decide), show has f 16 = _ from has_low f 16 (by decide), show bitop .i64 .and f 22 = _ from and_low f 22 (by decide)]
  exact key _ (low_lt f)
theorem one_bit (f : Int) (m : Nat) (hm : m = 2 ∨ m = 4 ∨ m = 16) : decide (bitop .i64 .and f m ≠ 0) = has f m := by
  have key : ∀ r, r < 32 → ∀ m, m < 32 → (m = 2 ∨ m = 4 ∨ m = 16) → decide (((r &&& m : Nat) : Int) ≠ 0) = decide (r &&& m = m) := by decide
  rw [has_low f m (by omega), and_low f m (by omega)]
  exact key _ (low_lt f) m (by omega) hm

theorem diff_def (a b : Int) : diff a b = (if (a - b) % 4294967296 < 2147483648 then (a - b) % 4294967296 else (a - b) % 4294967296 - 4294967296) := by
  unfold diff
  rw [IntKind.wrap_u32, IntKind.wrap_i32, wrapId (by omega)]
  split <;> omega
theorem before_eq (a b : Int) : decide (diff a b < 0) = beforeR a b := by
  unfold beforeR
  rw [diff_def, IntKind.wrap_u32]
  exact decide_eq_decide.2 (by split <;> omega)
def U32 (x : Int) : Prop := 0 ≤ x ∧ x < 4294967296

theorem within_eq {s n nx w : Int} (hs : U32 s) (hnx : U32 nx) : within s n nx w = withinR s n nx w := by
  unfold U32 at hs hnx
  unfold within withinR lowR
  have hd := diff_def s nx
  have hd2 : (0 ≤ diff s nx ∧ diff s nx < 2147483648 ∧ diff s nx = (s - nx) % 4294967296) ∨ (-2147483648 ≤ diff s nx ∧ diff s nx < 0 ∧ diff s nx = (s - nx) % 4294967296 - 4294967296) := by
    split at hd <;> omega
  clear hd
  generalize diff s nx = d at *
  have hw : IntKind.i64.wrap (d + min (max n 0) 1048576) = d + min (max n 0) 1048576 := wrapId (by omega)
  simp only [hw, IntKind.wrap_u32]
  rw [Bool.eq_iff_iff]
  by_cases hn : n < 1
  · rw [if_pos (by omega)]
    by_cases he : s = nx
    · have : d = 0 := by omega
      simp [this, hn, he]
    · rw [if_neg (by omega)]
      by_cases hw1 : w < 1
      · rw [if_pos hw1]
        simp
        omega
      · rw [if_neg hw1]
        have hd0 : d ≠ 0 := by omega
        simp [hn, hd0]
        by_cases hw2 : 1073741824 < w
        · simp [hw2]; omega
        · simp [hw2]; omega
  · rw [if_neg (by omega), if_neg (by omega)]
    by_cases hw1 : w < 1
    · rw [if_pos hw1]
      simp
      omega
    · rw [if_neg hw1]
      simp [hn]
      by_cases hw2 : 1073741824 < w <;> by_cases hn2 : 1048576 < n <;> simp [hw2, hn2] <;> omega

theorem or_step (n b : Nat) (hn : n < 2 ^ 48) (hb : b < 256) : bitop .i64 .or (IntKind.i64.wrap ((n : Int) * 256)) (IntKind.i64.wrap (b : Int)) = ((n * 256 + b : Nat) : Int) := by
  rw [wrapId (by omega), wrapId (by omega)]
  show IntKind.i64.wrap ((BitVec.ofInt 64 ((n : Int) * 256) ||| BitVec.ofInt 64 (b : Int)).toNat : Int) = _
  rw [BitVec.toNat_or, BitVec.toNat_ofInt, BitVec.toNat_ofInt]
  have e1 : (((n : Int) * 256) % ((2 ^ 64 : Nat) : Int)).toNat = 2 ^ 8 * n := by omega
  have e2 : ((b : Int) % ((2 ^ 64 : Nat) : Int)).toNat = b := by omega
  rw [e1, e2, ← Nat.two_pow_add_eq_or_of_lt hb, wrapId (by omega)]
  omega
theorem num4 (b0 b1 b2 b3 : UInt8) : IntKind.u32.wrap (num (intsOf [b0, b1, b2, b3])) = fourR [b0, b1, b2, b3] := by
  have h0 := b0.toNat_lt; have h1 := b1.toNat_lt; have h2 := b2.toNat_lt; have h3 := b3.toNat_lt
  have e : num (intsOf [b0, b1, b2, b3]) = ((((b0.toNat * 256 + b1.toNat) * 256 + b2.toNat) * 256 + b3.toNat : Nat) : Int) := by
    simp only [num, intsOf, List.map_cons, List.map_nil, List.foldl_cons, List.foldl_nil]
    have k0 := or_step 0 b0.toNat (by decide) h0
    simp only [Int.natCast_zero, Nat.zero_mul, Nat.zero_add] at k0
    rw [k0, or_step _ _ (by omega) h1, or_step _ _ (by omega) h2, or_step _ _ (by omega) h3]
  rw [e]
  show _ = u32add (u32add (u32add (IntKind.u32.wrap (IntKind.u32.wrap (b0.toNat : Int) * 16777216)) (IntKind.u32.wrap (IntKind.u32.wrap (b1.toNat : Int) * 65536))) (IntKind.u32.wrap (IntKind.u32.wrap (b2.toNat : Int) * 256))) (IntKind.u32.wrap (b3.toNat : Int))
  simp only [u32add, IntKind.wrap_u32]
  omega
theorem fourR_take (d : List UInt8) : fourR (d.take 4) = fourR d := by
  rcases d with _ | ⟨a, _ | ⟨b, _ | ⟨c, _ | ⟨e, r⟩⟩⟩⟩ <;> rfl
theorem four_of_len (d : List UInt8) (h : d.length = 8) : IntKind.u32.wrap (num (intsOf ((d.take 4).drop 0))) = fourR d := by
  rcases d with _ | ⟨a, _ | ⟨b, _ | ⟨c, _ | ⟨e, r⟩⟩⟩⟩
  · simp at h
  · simp at h
  · simp at h
  · simp at h
  · show IntKind.u32.wrap (num (intsOf [a, b, c, e])) = _
    rw [num4]
    rfl
theorem old_eq (o : List optT.D) (stamp : Int) : oldA o stamp = (!(stampR o).2 || beforeR (stampR o).1 stamp) := by
  unfold oldA stampsA stampR optionR
  cases hf : o.find? (fun x => decide (x.1 = 8)) with
  | none => simp
  | some x =>
    simp only [decide_eq_true_eq]
    by_cases h8 : x.2.1.length = 8
    · rw [if_pos (by omega), if_pos h8]
      simp only [four_of_len _ h8, before_eq]
    · rw [if_neg (by omega), if_neg h8]
      simp

theorem seg_eq {s k f : Int} {o : List optT.D} {n : Int} {op : Bool} {nx sn w : Int} {st : Bool} {stamp : Int} {stamps : Bool} (hs : U32 s) (hnx : U32 nx) :
    segA s k f o n op nx sn w st stamp stamps = segR s k f o n op nx sn w st stamp stamps := by
  have h16 : decide (bitop .i64 .and f 16 = 0) = !has f 16 := by have h : decide (bitop .i64 .and f 16 ≠ 0) = has f 16 := one_bit f 16 (.inr (.inr rfl)); rw [← h]; simp
  unfold segA segR
  rw [flags_eq, show decide (bitop .i64 .and f 2 ≠ 0) = _ from one_bit f 2 (.inl rfl), show decide (bitop .i64 .and f 4 ≠ 0) = _ from one_bit f 4 (.inr (.inl rfl)), h16, before_eq, old_eq, within_eq hs hnx]
  cases flagsR f <;> cases has f 2 <;> cases op <;> cases has f 4 <;> cases decide (s = nx) <;> simp

theorem shift_u32 (s nx b : Int) : IntKind.u32.wrap (IntKind.u32.wrap (s + b) - IntKind.u32.wrap (nx + b)) = IntKind.u32.wrap (s - nx) := by
  simp only [IntKind.wrap_u32]; omega
theorem diff_shift (s nx b : Int) : diff (IntKind.u32.wrap (s + b)) (IntKind.u32.wrap (nx + b)) = diff s nx := by
  unfold diff; rw [shift_u32]
theorem seg_shift {s k f : Int} {o : List optT.D} {n : Int} {op : Bool} {nx sn w : Int} {st : Bool} {stamp : Int} {stamps : Bool} (b0 b1 : Int) (hs : U32 s) (hnx : U32 nx) :
    segA s k f o n op nx sn w st stamp stamps = segA (IntKind.u32.wrap (s + b0)) (IntKind.u32.wrap (k + b1)) f o n op (IntKind.u32.wrap (nx + b0)) (IntKind.u32.wrap (sn + b1)) w st stamp stamps := by
  unfold U32 at hs hnx
  have e : decide (s = nx) = decide (IntKind.u32.wrap (s + b0) = IntKind.u32.wrap (nx + b0)) := decide_eq_decide.2 (by simp only [IntKind.wrap_u32]; omega)
  have hw : within s n nx w = within (IntKind.u32.wrap (s + b0)) n (IntKind.u32.wrap (nx + b0)) w := by unfold within; rw [diff_shift]
  unfold segA
  rw [e, hw, diff_shift]

theorem mt_iff (s nx : Int) (i k : Nat) : mt s nx i k = true ↔ (s + i) % 4294967296 = (nx + k) % 4294967296 := by
  unfold mt
  simp only [decide_eq_true_eq, IntKind.wrap_u32]
  omega
theorem counts_eq (s nx : Int) (n w : Nat) (hn : n < 51) (hw : w < 51) (hs : U32 s) (hnx : U32 nx) :
    within s (n : Int) nx (w : Int) = ((decide (n = 0) && decide (s = nx)) || rnds s nx w (max n 1)) := by
  rw [Bool.eq_iff_iff]
  have hR : rnds s nx w (max n 1) = true ↔ ∃ i, i < max n 1 ∧ ∃ k, k < w ∧ (s + i) % 4294967296 = (nx + k) % 4294967296 := by
    simp only [rnds, rnd, List.any_eq_true, List.mem_range, mt_iff]
  unfold U32 at hs hnx
  have hd := diff_def s nx
  have hd2 : (0 ≤ diff s nx ∧ diff s nx < 2147483648 ∧ diff s nx = (s - nx) % 4294967296) ∨ (-2147483648 ≤ diff s nx ∧ diff s nx < 0 ∧ diff s nx = (s - nx) % 4294967296 - 4294967296) := by
    split at hd <;> omega
  clear hd
  rw [Bool.or_eq_true, hR]
  clear hR
  unfold within
  generalize diff s nx = d at *
  have hwr : IntKind.i64.wrap (d + min (max (n : Int) 0) 1048576) = d + min (max (n : Int) 0) 1048576 := wrapId (by omega)
  rw [hwr]
  by_cases h0 : n = 0
  · subst h0
    rw [if_pos (by omega)]
    simp only [decide_true, Bool.true_and, decide_eq_true_eq, Bool.or_eq_true, Bool.and_eq_true]
    constructor
    · intro h
      rcases h with h | h
      · exact .inl (by omega)
      · exact .inr ⟨0, by omega, d.toNat, by omega, by omega⟩
    · rintro (h | ⟨i, hi, k, hk, h⟩)
      · exact .inl (by omega)
      · by_cases hd0 : d = 0
        · exact .inl hd0
        · exact .inr (by omega)
  · rw [if_neg (by omega)]
    simp only [h0, decide_false, Bool.false_and, Bool.false_eq_true, false_or, decide_eq_true_eq, Bool.and_eq_true]
    constructor
    · intro h
      by_cases hd0 : 0 ≤ d
      · exact ⟨0, by omega, d.toNat, by omega, by omega⟩
      · exact ⟨(-d).toNat, by omega, 0, by omega, by omega⟩
    · rintro ⟨i, hi, k, hk, h⟩
      omega
end Go.Proofs.YtfhadpmlbilebaaDoor.Fx
