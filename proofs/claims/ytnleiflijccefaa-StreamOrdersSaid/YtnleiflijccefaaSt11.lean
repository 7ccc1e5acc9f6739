/- Plain words of chapter 20: the order of segments. -/
import Derived.Test.YtnleiflijccefaaSt10
set_option linter.all false
set_option linter.unusedVariables false
set_option linter.unusedSimpArgs false
namespace Go.Ov
open Go Go.Fw
def zO (sz : Int) : Int := sz % 20 + 4
theorem zO_rng (sz : Int) : 4 ≤ zO sz ∧ zO sz ≤ 23 := by unfold zO; omega
theorem zO_eq {sz : Int} (h : 0 ≤ sz ∧ sz < 256) : IntKind.i64.wrap (IntKind.i64.wrap (Int.tmod sz 20) + 4) = zO sz := by
  have e : Int.tmod sz 20 = sz % 20 := by rw [Int.tmod_eq_emod_of_nonneg h.1]
  have w : IntKind.i64.wrap (sz % 20) = sz % 20 := wrapId (by omega)
  rw [e, w]
  exact wrapId (by omega)
/-- What holds of the i-th round. -/
structure LO (T : List UInt8) (o : List Int) (i : Nat) (l : List Pc) (pos : Int) : Prop where
  le : i ≤ o.length + T.length
  inv : OInv T l pos (2 * min i o.length)
  prog : ∀ j : Nat, o.length + j < i → j % 4 = 0 → min ((j : Int) + 4) T.length ≤ pos
theorem LO.start (T : List UInt8) (o : List Int) : LO T o 0 [] 0 :=
  ⟨Nat.zero_le _, ⟨by have := Few.nil 1000; simpa using this, fun c hc => by simp [cells] at hc, Int.le_refl _, by omega, by simp⟩, fun j hj => by omega⟩
theorem zO_eq' {sz : Int} (h : 0 ≤ sz ∧ sz < 256) : IntKind.i64.wrap (Int.tmod sz 20 + 4) = zO sz := by
  have e : Int.tmod sz 20 = sz % 20 := by rw [Int.tmod_eq_emod_of_nonneg h.1]
  rw [e]
  exact wrapId (by omega)
def aO (T : List UInt8) (o : List Int) (i : Nat) : Int := if i < o.length ∧ 0 < T.length then (o.getD i (Ty.dflt (.int .u8))) % T.length else (i : Int) - o.length
theorem aO_t {T : List UInt8} {o : List Int} {i : Nat} (hb : ∀ y ∈ o, 0 ≤ y ∧ y < 256) (h : i < o.length ∧ 0 < T.length) : (IntKind.i64.wrap (o.getD i (Ty.dflt (.int .u8)))).tmod (T.length : Int) = aO T o i := by
  have hy := hb _ (getD_mem (d := (Ty.dflt (.int .u8) : Int)) h.1)
  rw [aO, if_pos h, wrapId (by omega), Int.tmod_eq_emod_of_nonneg hy.1]
theorem aO_lt {T : List UInt8} {o : List Int} {i : Nat} (h : i < o.length + T.length) (h0 : 0 ≤ aO T o i) : aO T o i < T.length := by
  unfold aO at *
  split
  · rename_i h1
    exact Int.emod_lt_of_pos _ (by omega)
  · rename_i h1
    rw [if_neg h1] at h0
    omega
def skO (T : List UInt8) (o : List Int) (i : Nat) : Prop := aO T o i < 0 ∨ ((i : Int) ≥ o.length ∧ (aO T o i).tmod 4 ≠ 0)
theorem aO_late {T : List UInt8} {o : List Int} {i : Nat} (h : o.length ≤ i) : aO T o i = (i : Int) - o.length := if_neg (by omega)
theorem LO.skip {T : List UInt8} {o : List Int} {i : Nat} {l : List Pc} {pos : Int} (h : LO T o i l pos) (hi : i < o.length + T.length) (hs : skO T o i) : LO T o (i + 1) l pos := by
  refine ⟨hi, h.inv.mono (by omega), fun j hj h4 => ?_⟩
  rcases Nat.lt_or_ge (o.length + j) i with h1 | h1
  · exact h.prog j h1 h4
  · have e : i = o.length + j := by omega
    have e2 : aO T o i = (j : Int) := by rw [aO_late (by omega)]; omega
    rcases hs with q | ⟨_, q⟩
    · omega
    · rw [e2, Int.tmod_eq_emod_of_nonneg (by omega)] at q
      omega
theorem LO.step (x : Stt) {T : List UInt8} {o : List Int} {i : Nat} {l : List Pc} {pos : Int} {z : Int} (h : LO T o i l pos) (hi : i < o.length + T.length) (hs : ¬ skO T o i) (hT : T.length ≤ 200) (ho : o.length ≤ 24) (hz : 4 ≤ z ∧ z ≤ 23) :
    ∃ l' pos', StepO x T z l pos (2 * min i o.length) (aO T o i) l' pos' ∧ LO T o (i + 1) l' pos' := by
  have h0 : 0 ≤ aO T o i := by
    rcases Int.lt_or_le (aO T o i) 0 with q | q
    · exact absurd (.inl q) hs
    · exact q
  have h1 := aO_lt hi h0
  obtain ⟨l', pos', st⟩ := stepO x h.inv (by omega) hT hz ⟨h0, h1⟩
  refine ⟨l', pos', st, ?_⟩
  rcases Nat.lt_or_ge i o.length with q | q
  · exact ⟨hi, st.inv.mono (by omega), fun j hj => by omega⟩
  · have e := aO_late (T := T) q
    have h4 : (aO T o i).tmod 4 = 0 := by
      by_cases hh : (aO T o i).tmod 4 = 0
      · exact hh
      · exact absurd (.inr ⟨by omega, hh⟩) hs
    rw [Int.tmod_eq_emod_of_nonneg h0] at h4
    have hle : aO T o i ≤ pos := by
      have hp0 := h.inv.p0
      by_cases hz0 : aO T o i = 0
      · omega
      · have := h.prog (i - o.length - 4) (by omega) (by omega)
        omega
    obtain ⟨s1, s2⟩ := st.same hle
    refine ⟨hi, s1.mono (by omega), fun j hj h5 => ?_⟩
    rcases Nat.lt_or_ge (o.length + j) i with q2 | q2
    · exact Int.le_trans (h.prog j q2 h5) st.ge
    · have : (j : Int) = aO T o i := by omega
      omega
theorem take_more {T : List UInt8} {a b : Int} (h0 : 0 ≤ a) (h1 : a ≤ b) : T.take a.toNat ++ (T.drop a.toNat).take (b - a).toNat = T.take b.toNat := by
  have e : b.toNat = a.toNat + (b - a).toNat := by omega
  rw [e, List.take_add]
/-- At the end all is there. -/
theorem LO.done {T : List UInt8} {o : List Int} {i : Nat} {l : List Pc} {pos : Int} (h : LO T o i l pos) (hi : ¬ i < o.length + T.length) : pos = T.length ∧ lenSum l = 0 := by
  have hle := h.le
  have hp0 := h.inv.p0
  have hp1 := h.inv.p1
  have hpos : pos = T.length := by
    by_cases h0 : T.length = 0
    · omega
    · have := h.prog (4 * ((T.length - 1) / 4)) (by omega) (by omega)
      omega
  refine ⟨hpos, ?_⟩
  have hc : cells l = [] := by
    cases hc : cells l with
    | nil => rfl
    | cons c r =>
      have := h.inv.con c (by rw [hc]; simp)
      omega
  have h2 := cells_len l
  rw [hc] at h2
  simpa using h2.symm
theorem end_O (x : Stt) (T : List UInt8) (l : List Pc) (hT : T.length ≤ 200) : ∃ s', endS (sO x l T.length) (seqO x T.length) = (true, s') ∧ endedS s' = true := by
  have eo := offO x l T.length T.length ⟨by omega, by omega, by omega, by omega⟩
  refine ⟨{ sO x l T.length with end_ := T.length, l := keptL l T.length }, ?_, decide_eq_true rfl⟩
  unfold endS
  rw [eo, if_neg (by show ¬ ((-1 : Int) ≠ -1); omega), if_neg (by show ¬ ((T.length : Int) < T.length ∨ (T.length : Int) > T.length + 1000); omega)]
  rfl
end Go.Ov
