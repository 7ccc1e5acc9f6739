/- Plain words of chapter 20: one direction of a connection. -/
import Derived.Test.YtnleiflijccefaaOv10
set_option linter.all false
set_option linter.unusedVariables false
set_option linter.unusedSimpArgs false
namespace Go.Ov
open Go Go.Fw

/-- A stream: what waits, the position, the first number, the window, the policy, the end (-1: none). -/
structure SS where
  l : List Pc
  pos : Int
  first : Int
  win : Int
  pol : Int
  end_ : Int
def sdiff (a b : Int) : Int := IntKind.i64.wrap (IntKind.i32.wrap (IntKind.u32.wrap (a - b)))
theorem wrap_i32 (x : Int) : IntKind.i32.wrap x = (x + 2147483648) % 4294967296 - 2147483648 := by
  have e : (2:Int)^32 = 4294967296 := by decide
  have e2 : (2:Int)^31 = 2147483648 := by decide
  unfold IntKind.wrap
  simp only [IntKind.signed, IntKind.bits]
  first
    | (simp only [e, e2]; split <;> omega)
    | (simp [e, e2]; omega)
theorem wrap_u32 (x : Int) : IntKind.u32.wrap x = x % 4294967296 := by
  have e : (2:Int)^32 = 4294967296 := by decide
  unfold IntKind.wrap
  simp [IntKind.signed, IntKind.bits, e]
theorem sdiff_eq (a b : Int) : sdiff a b = (a - b + 2147483648) % 4294967296 - 2147483648 := by
  unfold sdiff
  rw [wrap_u32, wrap_i32, wrapId (by omega)]
  omega
theorem sdiff_rng (a b : Int) : -2147483648 ≤ sdiff a b ∧ sdiff a b < 2147483648 := by rw [sdiff_eq]; omega
def offS (s : SS) (seq : Int) : Int := s.pos + sdiff seq (IntKind.u32.wrap (s.first + IntKind.u32.wrap s.pos))
def takeN (s : SS) : SS := { s with l := cutL s.l (takeF s.l s.pos).2, pos := s.pos + (takeF s.l s.pos).1.length }
/-- The part of a segment that lies in the window. -/
def hiS (s : SS) (a n : Int) : Int := if s.end_ ≠ -1 then min (min (a + n) (s.pos + s.win)) s.end_ else min (a + n) (s.pos + s.win)
def segP (a lo hi : Int) (d : List UInt8) : Pc := (lo, (d.take (hi - a).toNat).drop (lo - a).toNat, 0, 0, ())
def insS (s : SS) (seq : Int) (d : List UInt8) : List Pc × Int × Int := insR s.l (segP (offS s seq) (max (offS s seq) s.pos) (hiS s (offS s seq) d.length) d) s.pol
def addS (s : SS) (seq : Int) (d : List UInt8) : (List UInt8 × Int × Int) × SS :=
  if max (offS s seq) s.pos ≥ hiS s (offS s seq) d.length then (([], (d.length : Int), 0), s)
  else if (insS s seq d).2.2 ≠ 0 then (([], (d.length : Int), 0), s)
  else (((takeF (insS s seq d).1 s.pos).1, d.length - (hiS s (offS s seq) d.length - max (offS s seq) s.pos), (insS s seq d).2.1), takeN { s with l := (insS s seq d).1 })
def keptL (l : List Pc) (a : Int) : List Pc := (l.takeWhile (fun o => decide (pa o < a))).map fun o => (pa o, (pd o).take (min ((pd o).length : Int) (a - pa o)).toNat, pf o, pt o, ())
def endS (s : SS) (seq : Int) : Bool × SS :=
  if s.end_ ≠ -1 then (false, s) else if offS s seq < s.pos ∨ offS s seq > s.pos + s.win then (false, s) else (true, { s with end_ := offS s seq, l := keptL s.l (offS s seq) })
/-- One round of Lost. -/
def lostTo (s : SS) (lim : Int) : Int := match s.l with | [] => lim | o :: _ => min lim (pa o)
def lostStep (lim : Int) (x : SS × Int × List UInt8) : SS × Int × List UInt8 :=
  (takeN { x.1 with pos := lostTo x.1 lim }, x.2.1 + (lostTo x.1 lim - x.1.pos), x.2.2 ++ (takeF x.1.l (lostTo x.1 lim)).1)
def lostL : Nat → Int → SS × Int × List UInt8 → SS × Int × List UInt8
  | 0, _, x => x
  | n + 1, lim, x => if x.1.pos < lim then lostL n lim (lostStep lim x) else x
def limS (s : SS) (seq : Int) : Int := if s.end_ ≠ -1 then min (min (offS s seq) (s.pos + s.win)) s.end_ else min (offS s seq) (s.pos + s.win)
def lostS (s : SS) (seq : Int) : (Int × List UInt8) × SS :=
  let r := lostL (limS s seq - s.pos).toNat (limS s seq) (s, 0, [])
  ((r.2.1, r.2.2), r.1)
def endedS (s : SS) : Bool := decide (s.end_ = s.pos)
def nextS (s : SS) : Int := if endedS s then IntKind.u32.wrap (IntKind.u32.wrap (s.first + IntKind.u32.wrap s.pos) + 1) else IntKind.u32.wrap (s.first + IntKind.u32.wrap s.pos)
def newS (isn win pol : Int) : SS := ⟨[], 0, IntKind.u32.wrap (isn + 1), min (max win 1) 8192, min (max pol 1) 4, -1⟩
/-- What always holds of a stream; B bounds its position. -/
structure SInv (s : SS) (B : Int) : Prop where
  pos0 : 0 ≤ s.pos
  posB : s.pos ≤ B
  win : 1 ≤ s.win ∧ s.win ≤ 8192
  pol : 1 ≤ s.pol ∧ s.pol ≤ 4
  v : Valid s.l
  rng : ∀ c ∈ cells s.l, s.pos ≤ c.1 ∧ c.1 < s.pos + s.win
  len : s.l.length ≤ 64
  end_ : s.end_ = -1 ∨ (s.pos ≤ s.end_ ∧ s.end_ ≤ B + 8192 ∧ ∀ c ∈ cells s.l, c.1 < s.end_)
  first : 0 ≤ s.first ∧ s.first < 4294967296
theorem cells_within {m : List Cl} (hs : Sorted m) : ∀ (n : Nat) (a : Int), (∀ c ∈ m, a ≤ c.1 ∧ c.1 < a + n) → m.length ≤ n := by
  intro n a h
  have key : ∀ (m : List Cl) (a : Int) (n : Nat), Sorted m → (∀ c ∈ m, a ≤ c.1 ∧ c.1 < a + n) → m.length ≤ n := by
    intro m
    induction m with
    | nil => intro a n _ _; simp
    | cons x m ih =>
      intro a n hs h
      obtain ⟨h1, h2⟩ := List.pairwise_cons.1 hs
      have hx := h x (by simp)
      have := ih (x.1 + 1) (a + n - (x.1 + 1)).toNat h2 (fun c hc => by
        have e1 := h1 c hc
        have e2 := h c (by simp [hc])
        omega)
      simp only [List.length_cons]
      omega
  exact key m a n hs h
theorem SInv.size {s : SS} {B : Int} (h : SInv s B) : 0 ≤ lenSum s.l ∧ lenSum s.l ≤ s.win := by
  refine ⟨lenSum_nonneg _, ?_⟩
  rw [lenSum_cells]
  have hw := h.win
  have := cells_within (sorted_cells h.v) s.win.toNat s.pos (fun c hc => by have := h.rng c hc; omega)
  omega
end Go.Ov
