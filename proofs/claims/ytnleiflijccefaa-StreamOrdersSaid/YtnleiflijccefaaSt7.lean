/- Plain words of chapter 20: what calls count. -/
import Derived.Test.YtnleiflijccefaaSt6
set_option linter.all false
set_option linter.unusedVariables false
set_option linter.unusedSimpArgs false
namespace Go.Ov
open Go Go.Fw
structure ProgOk (s : SS) (c : Ca) (r : Rs × SS) : Prop where
  sum : (r.1.1.length : Int) + (if c.1 = 2 then r.1.2.1 else 0) = r.2.pos - s.pos
  a0 : 0 ≤ r.1.2.1
  b0 : 0 ≤ r.1.2.2.1
  cut : c.1 ≠ 1 → c.1 ≠ 2 → r.1.2.1 ≤ (c.2.2.1.length : Int)
  win : r.2.win = s.win
  first : r.2.first = s.first
theorem lostL_first (lim : Int) : ∀ (n : Nat) (x : SS × Int × List UInt8), (lostL n lim x).1.first = x.1.first
  | 0, x => rfl
  | n + 1, x => by
    simp only [lostL]
    split
    · rw [lostL_first lim n (lostStep lim x)]; rfl
    · rfl
theorem addS_ok {s : SS} {B : Int} (h : SInv s B) (seq : Int) (d : List UInt8) :
    ((addS s seq d).1.1.length : Int) = (addS s seq d).2.pos - s.pos ∧ 0 ≤ (addS s seq d).1.2.1 ∧ 0 ≤ (addS s seq d).1.2.2 ∧ (addS s seq d).1.2.1 ≤ (d.length : Int) ∧ (addS s seq d).2.win = s.win ∧ (addS s seq d).2.first = s.first := by
  unfold addS
  split
  · refine ⟨?_, ?_, Int.le_refl _, Int.le_refl _, rfl, rfl⟩
    · show ((0 : Nat) : Int) = s.pos - s.pos; omega
    · show 0 ≤ (d.length : Int); omega
  · split
    · refine ⟨?_, ?_, Int.le_refl _, Int.le_refl _, rfl, rfl⟩
      · show ((0 : Nat) : Int) = s.pos - s.pos; omega
      · show 0 ≤ (d.length : Int); omega
    · rename_i h1 h2
      have k := ins_ok h h1 h2
      have o := hi_ok h1
      obtain ⟨o1, o2, o3, o4, o5, _⟩ := o
      refine ⟨?_, ?_, k.good.n0, ?_, rfl, rfl⟩
      · show (_ : Int) = s.pos + ((takeF (insS s seq d).1 s.pos).1.length : Int) - s.pos
        simp only
        omega
      · show 0 ≤ (d.length : Int) - (hiS s (offS s seq) d.length - max (offS s seq) s.pos); omega
      · show (d.length : Int) - (hiS s (offS s seq) d.length - max (offS s seq) s.pos) ≤ _; omega
theorem progS_ok {s : SS} {B : Int} (h : SInv s B) (isn : Int) (c : Ca) : ProgOk s c (progS s isn c) := by
  unfold progS
  split
  · rename_i h1
    have e : (endS s (seqS isn c)).2.pos = s.pos ∧ (endS s (seqS isn c)).2.win = s.win ∧ (endS s (seqS isn c)).2.first = s.first := by
      unfold endS; split
      · exact ⟨rfl, rfl, rfl⟩
      · split <;> exact ⟨rfl, rfl, rfl⟩
    refine ⟨?_, Int.le_refl _, Int.le_refl _, fun h2 => absurd h1 h2, e.2.1, e.2.2⟩
    show ((0 : Nat) : Int) + (if c.1 = 2 then 0 else 0) = (endS s (seqS isn c)).2.pos - s.pos
    rw [e.1]; split <;> omega
  · split
    · rename_i h1 h2
      have k := lostS_inv h (seqS isn c)
      refine ⟨?_, k.sum.2, Int.le_refl _, fun _ h3 => absurd h2 h3, k.win, lostL_first _ _ _⟩
      have := k.sum.1
      rw [if_pos h2]
      show ((lostS s (seqS isn c)).1.2.length : Int) + (lostS s (seqS isn c)).1.1 = (lostS s (seqS isn c)).2.pos - s.pos
      simp only at this
      omega
    · rename_i h1 h2
      obtain ⟨k1, k2, k3, k4, k5, k6⟩ := addS_ok h (seqS isn c) c.2.2.1
      refine ⟨?_, k2, k3, fun _ _ => k4, k5, k6⟩
      rw [if_neg h2, ← k1]
      exact Int.add_zero _
theorem atS_same (x : Stt) {l : List Ca} : ∀ {i : Nat}, i ≤ l.length → (atS x l i).win = min (max x.2.1 1) 8192 ∧ (atS x l i).first = IntKind.u32.wrap (x.1 + 1)
  | 0, _ => ⟨rfl, rfl⟩
  | i + 1, h => by
    have ih := atS_same x (i := i) (l := l) (by omega)
    have k := progS_ok (atS_inv x (l := l) (i := i) (by omega)) x.1 (l.getD i (Ty.dflt kT))
    have e := runS_next (newS x.1 x.2.1 x.2.2.1) x.1 (l := l) (i := i) (by omega)
    show (runS _ _ (l.take (i + 1))).win = _ ∧ (runS _ _ (l.take (i + 1))).first = _
    rw [e]
    exact ⟨k.win.trans ih.1, k.first.trans ih.2⟩
theorem ended_size {s : SS} {B : Int} (h : SInv s B) (he : endedS s = true) : lenSum s.l = 0 := by
  have e := of_decide_eq_true he
  have : cells s.l = [] := by
    cases hc : cells s.l with
    | nil => rfl
    | cons c r =>
      have h1 := h.rng c (by rw [hc]; simp)
      have hp := h.pos0
      rcases h.end_ with q | ⟨_, _, q⟩
      · omega
      · have := q c (by rw [hc]; simp)
        omega
  have h2 := cells_len s.l
  rw [this] at h2
  simpa using h2.symm
end Go.Ov
