/- Plain words of chapter 20: shifted numbers. -/
import Derived.Test.YtnleiflijccefaaSt4
set_option linter.all false
set_option linter.unusedVariables false
set_option linter.unusedSimpArgs false
namespace Go.Ov
open Go Go.Fw
/-- The same stream, its numbers moved. -/
def shS (by_ : Int) (s : SS) : SS := { s with first := IntKind.u32.wrap (s.first + by_) }
theorem off_sh (by_ : Int) (s : SS) (seq : Int) : offS (shS by_ s) (IntKind.u32.wrap (seq + by_)) = offS s seq := by
  unfold offS
  show s.pos + sdiff _ (IntKind.u32.wrap (IntKind.u32.wrap (s.first + by_) + IntKind.u32.wrap s.pos)) = _
  congr 1
  simp only [sdiff_eq, wrap_u32]
  omega
theorem seqS_sh (isn by_ : Int) (c : Ca) : seqS (IntKind.u32.wrap (isn + by_)) c = IntKind.u32.wrap (seqS isn c + by_) := by
  unfold seqS
  simp only [wrap_u32]
  omega
theorem shS_inv {by_ : Int} {s : SS} {B : Int} (h : SInv s B) : SInv (shS by_ s) B :=
  ⟨h.pos0, h.posB, h.win, h.pol, h.v, h.rng, h.len, h.end_, by show 0 ≤ IntKind.u32.wrap _ ∧ IntKind.u32.wrap _ < _; rw [wrap_u32]; omega⟩
theorem takeN_sh (by_ : Int) (s : SS) : takeN (shS by_ s) = shS by_ (takeN s) := rfl
theorem addS_sh (by_ : Int) (s : SS) (q q' : Int) (d : List UInt8) (h : offS (shS by_ s) q' = offS s q) : addS (shS by_ s) q' d = ((addS s q d).1, shS by_ (addS s q d).2) := by
  have e1 : hiS (shS by_ s) (offS s q) d.length = hiS s (offS s q) d.length := rfl
  have e2 : insS (shS by_ s) q' d = insS s q d := by unfold insS; rw [h, e1]; rfl
  unfold addS
  rw [h, e1, e2]
  show (if max (offS s q) s.pos ≥ _ then _ else _) = _
  split
  · rfl
  · split <;> rfl
theorem endS_sh (by_ : Int) (s : SS) (q q' : Int) (h : offS (shS by_ s) q' = offS s q) : endS (shS by_ s) q' = ((endS s q).1, shS by_ (endS s q).2) := by
  unfold endS
  rw [h]
  show (if s.end_ ≠ -1 then _ else if offS s q < s.pos ∨ offS s q > s.pos + s.win then _ else _) = _
  split
  · rfl
  · split <;> rfl
theorem lostStep_sh (by_ lim : Int) (x : SS × Int × List UInt8) : lostStep lim (shS by_ x.1, x.2) = (shS by_ (lostStep lim x).1, (lostStep lim x).2) := rfl
theorem lostL_sh (by_ lim : Int) : ∀ (n : Nat) (x : SS × Int × List UInt8), lostL n lim (shS by_ x.1, x.2) = (shS by_ (lostL n lim x).1, (lostL n lim x).2)
  | 0, x => rfl
  | n + 1, x => by
    simp only [lostL]
    show (if x.1.pos < lim then _ else _) = _
    split
    · rw [lostStep_sh, lostL_sh by_ lim n (lostStep lim x)]
    · rfl
theorem lostS_sh (by_ : Int) (s : SS) (q q' : Int) (h : offS (shS by_ s) q' = offS s q) : lostS (shS by_ s) q' = ((lostS s q).1, shS by_ (lostS s q).2) := by
  have e : limS (shS by_ s) q' = limS s q := by unfold limS; rw [h]; rfl
  unfold lostS
  rw [e]
  show ((_, _), _) = _
  have := lostL_sh by_ (limS s q) (limS s q - s.pos).toNat (s, 0, [])
  have e3 : lostL (limS s q - (shS by_ s).pos).toNat (limS s q) (shS by_ s, 0, []) = (shS by_ (lostL (limS s q - s.pos).toNat (limS s q) (s, 0, [])).1, (lostL (limS s q - s.pos).toNat (limS s q) (s, 0, [])).2) := this
  simp only [e3]
theorem progS_sh (by_ : Int) (s : SS) (isn : Int) (c : Ca) : progS (shS by_ s) (IntKind.u32.wrap (isn + by_)) c = ((progS s isn c).1, shS by_ (progS s isn c).2) := by
  have h : offS (shS by_ s) (seqS (IntKind.u32.wrap (isn + by_)) c) = offS s (seqS isn c) := by rw [seqS_sh, off_sh]
  unfold progS
  rw [addS_sh by_ s _ _ _ h, endS_sh by_ s _ _ h, lostS_sh by_ s _ _ h]
  split
  · rfl
  · split <;> rfl
theorem newS_sh (isn by_ win pol : Int) : newS (IntKind.u32.wrap (isn + by_)) win pol = shS by_ (newS isn win pol) := by
  unfold newS shS
  simp only [wrap_u32, SS.mk.injEq, true_and, and_true]
  omega
theorem runS_sh (by_ isn : Int) : ∀ (l : List Ca) (s : SS), runS (shS by_ s) (IntKind.u32.wrap (isn + by_)) l = shS by_ (runS s isn l)
  | [], s => rfl
  | c :: l, s => by
    show runS (progS (shS by_ s) (IntKind.u32.wrap (isn + by_)) c).2 _ l = shS by_ (runS (progS s isn c).2 isn l)
    rw [progS_sh, runS_sh by_ isn l]
theorem nextS_sh (by_ : Int) (s : SS) : nextS (shS by_ s) = IntKind.u32.wrap (nextS s + by_) := by
  have e : endedS (shS by_ s) = endedS s := rfl
  unfold nextS
  rw [e]
  have e2 : (shS by_ s).first = IntKind.u32.wrap (s.first + by_) := rfl
  have e3 : (shS by_ s).pos = s.pos := rfl
  rw [e2, e3]
  split <;> (simp only [wrap_u32]; omega)
abbrev Stt := Int × Int × Int × Unit
abbrev stv (x : Stt) : AV := .agg [.int .u32 x.1, .int .i64 x.2.1, .int .i64 x.2.2.1]
/-- The stream after so many calls. -/
abbrev atS (x : Stt) (l : List Ca) (i : Nat) : SS := runS (newS x.1 x.2.1 x.2.2.1) x.1 (l.take i)
theorem atS_inv (x : Stt) {l : List Ca} {i : Nat} (h : i ≤ l.length) : SInv (atS x l i) (8192 * i) := runS_inv (newS_inv _ _ _) _ h
end Go.Ov
