import Derived.Test.YtchiagnggnblaaaDoorCnN
set_option linter.all false
/- Chapter 21: contracts of a connection as one object. -/
namespace Go.Proofs.YtchiagnggnblaaaDoor.Ac
open Go Go.Fw Go.Ov Go.Proofs.YtchiagnggnblaaaDoor.Fx
def seg1 (c : Cnn) (q k f : Int) (o : List optT.D) (x : List UInt8) : List Evt × Cnn :=
  match c.ss with
  | none => if opensB c.st c.p c.g q k f o x = true then ((1, 1, 0, 0, [], ()) :: tkE 1 2 (nwS c.p) (nwS c.g) q k f x, ⟨stM (tkS (nwS c.p) q f x) (tkT (nwS c.g) k), tkH c.p (nwS c.p) q f o x, c.g, some (tkS (nwS c.p) q f x, tkT (nwS c.g) k)⟩)
    else ((sgN1 c.st c.p c.g q k f o x).1, ⟨(sgN1 c.st c.p c.g q k f o x).2.1, (sgN1 c.st c.p c.g q k f o x).2.2, c.g, none⟩)
  | some (s, t) => if opB c.st = true then ((sgH 1 2 c.st c.p c.g s t q k f o x).1, ⟨(sgH 1 2 c.st c.p c.g s t q k f o x).2.1, (sgH 1 2 c.st c.p c.g s t q k f o x).2.2.1, c.g, some ((sgH 1 2 c.st c.p c.g s t q k f o x).2.2.2.1, (sgH 1 2 c.st c.p c.g s t q k f o x).2.2.2.2)⟩)
    else if (flags f && (synB f && !ackB f)) = true then ([], ⟨1, begH c.p q o, c.g, none⟩)
    else ([(7, 1, s.pos, (if flags f = true then 7 else 3), [], ())], ⟨c.st, c.p, c.g, some (s, t)⟩)
def seg2 (c : Cnn) (q k f : Int) (o : List optT.D) (x : List UInt8) : List Evt × Cnn :=
  match c.ss with
  | none => ((sgN2 c.st c.p c.g q k f o).1, ⟨(sgN2 c.st c.p c.g q k f o).2.1, c.p, (sgN2 c.st c.p c.g q k f o).2.2, none⟩)
  | some (s, t) => if opB c.st = true then ((sgH 2 1 c.st c.g c.p t s q k f o x).1, ⟨(sgH 2 1 c.st c.g c.p t s q k f o x).2.1, c.p, (sgH 2 1 c.st c.g c.p t s q k f o x).2.2.1, some ((sgH 2 1 c.st c.g c.p t s q k f o x).2.2.2.2, (sgH 2 1 c.st c.g c.p t s q k f o x).2.2.2.1)⟩)
    else ([(7, 2, t.pos, (if flags f = true then 7 else 3), [], ())], ⟨c.st, c.p, c.g, some (s, t)⟩)
/-- What a segment does. -/
def segC (d : Int) (c : Cnn) (q k f : Int) (o : List optT.D) (x : List UInt8) : List Evt × Cnn :=
  if d = 1 then seg1 c q k f o x else if d = 2 then seg2 c q k f o x else ([], c)
/-- What always holds of a connection. -/
def CInv (c : Cnn) (B : Int) : Prop := match c.ss with
  | none => c.st = 0 ∨ c.st = 1 ∨ c.st = 2
  | some (s, t) => SInv s B ∧ SInv t B ∧ (c.st = 3 ∨ c.st = 4 ∨ c.st = 5 ∨ c.st = 6)
theorem CInv.mono {c : Cnn} {B B' : Int} (h : CInv c B) (hB : B ≤ B') : CInv c B' := by
  unfold CInv at h ⊢
  split
  · rename_i e; rw [e] at h; exact h
  · rename_i s t e; rw [e] at h; exact ⟨h.1.mono hB, h.2.1.mono hB, h.2.2⟩
theorem opB_n {st : Int} (h : st = 0 ∨ st = 1 ∨ st = 2) : opB st = false := by
  rcases h with rfl | rfl | rfl <;> decide
theorem has_list (t : Ty) (l : List t.D) (j : Nat) : (AV.list t l).has j = false := rfl
theorem f11_u (c : Cnn) (B : Int) (hi : CInv c B) (h0 : 0 ≤ B) (hB : B ≤ 1099511600000) (d : Int) (a b q k f w u : Int) (o : List optT.D) (x : List UInt8) (ho : o.length < 9223372036854775807) (hx : x.length ≤ 1000000) :
    HSpec P G 11 [.loc 0 0, .int .i64 d, tcpV a b q k f w u o x] (cnU c 0 1 2) (.list evT (segC d c q k f o x).1) (cnU (segC d c q k f o x).2 0 1 2) := by
  obtain ⟨st, p, g, ss⟩ := c
  unfold segC
  by_cases h1 : d = 1
  · subst h1
    rw [if_pos rfl]
    cases ss with
    | none =>
      have hi : st = 0 ∨ st = 1 ∨ st = 2 := hi
      unfold seg1
      dsimp only
      cases hop : opensB st p g q k f o x with
      | true =>
        rw [if_pos rfl]
        exact conv_nh (f11_a st p g a b q k f w u o x ho hx (opB_n hi) hop) (has_list _ _)
      | false =>
        rw [if_neg (by decide)]
        exact conv_nn (f11_n1 st p g a b q k f w u o x ho hx (opB_n hi) hop) (has_list _ _)
    | some y =>
      obtain ⟨s, t⟩ := y
      obtain ⟨is, it, hst⟩ : SInv s B ∧ SInv t B ∧ (st = 3 ∨ st = 4 ∨ st = 5 ∨ st = 6) := hi
      unfold seg1
      dsimp only
      cases hop : opB st with
      | true =>
        rw [if_pos rfl]
        exact conv_hh (f11_o1 st p g s t B is it hB a b q k f w u o x ho hx hop)
      | false =>
        rw [if_neg (by decide)]
        cases hf : (flags f && (synB f && !ackB f)) with
        | true =>
          rw [if_pos rfl]
          have hf' := hf
          rw [Bool.and_eq_true] at hf'
          exact conv_hn (f11_s1 st p g s t a b q k f w u o x ho hx hop (by rcases hst with rfl | rfl | rfl | rfl <;> decide) hf'.1 hf'.2) (has_list _ _)
        | false =>
          rw [if_neg (by decide)]
          exact conv_hh (f11_r1 st p g s t a b q k f w u o x ho hx hop (by rcases hst with rfl | rfl | rfl | rfl <;> decide) (by rcases hst with rfl | rfl | rfl | rfl <;> decide) hf)
  · rw [if_neg h1]
    by_cases h2 : d = 2
    · subst h2
      rw [if_pos rfl]
      cases ss with
      | none =>
        have hi : st = 0 ∨ st = 1 ∨ st = 2 := hi
        exact conv_nn (f11_n2 st p g a b q k f w u o x ho hx (opB_n hi)) (has_list _ _)
      | some y =>
        obtain ⟨s, t⟩ := y
        obtain ⟨is, it, hst⟩ : SInv s B ∧ SInv t B ∧ (st = 3 ∨ st = 4 ∨ st = 5 ∨ st = 6) := hi
        unfold seg2
        dsimp only
        cases hop : opB st with
        | true =>
          rw [if_pos rfl]
          exact conv_hh (f11_o2 st g p t s B it is hB a b q k f w u o x ho hx hop)
        | false =>
          rw [if_neg (by decide)]
          exact conv_hh (f11_r2 st p g s t a b q k f w u o x ho hx hop (by rcases hst with rfl | rfl | rfl | rfl <;> decide) (by rcases hst with rfl | rfl | rfl | rfl <;> decide))
    · rw [if_neg h2]
      cases ss with
      | none => exact conv_nn (f11_xn st p g d a b q k f w u o x ho hx h1 h2) (has_list _ _)
      | some y => exact conv_hh (f11_xh st p g y.1 y.2 d a b q k f w u o x ho hx h1 h2)
theorem f12_u (c : Cnn) : HSpec P G 12 [.loc 0 0] (cnU c 0 1 2) (.int .i64 c.st) (cnU c 0 1 2) := by
  obtain ⟨st, p, g, ss⟩ := c
  cases ss with
  | none => exact conv_nn (f12_n st p g) (fun _ => rfl)
  | some y => exact conv_hh (f12_h st p g y.1 y.2)
def offC (c : Cnn) (d : Int) : Int := match c.ss with
  | none => 0
  | some y => if d = 1 then y.1.pos else y.2.pos
theorem f13_u1 (c : Cnn) : HSpec P G 13 [.loc 0 0, .int .i64 1] (cnU c 0 1 2) (.int .i64 (offC c 1)) (cnU c 0 1 2) := by
  obtain ⟨st, p, g, ss⟩ := c
  cases ss with
  | none => exact conv_nn (f13_n1 st p g) (fun _ => rfl)
  | some y => exact conv_hh (f13_h1 st p g y.1 y.2)
theorem f13_u2 (c : Cnn) : HSpec P G 13 [.loc 0 0, .int .i64 2] (cnU c 0 1 2) (.int .i64 (offC c 2)) (cnU c 0 1 2) := by
  obtain ⟨st, p, g, ss⟩ := c
  cases ss with
  | none => exact conv_nn (f13_n2 st p g) (fun _ => rfl)
  | some y => exact conv_hh (f13_h2 st p g y.1 y.2)
def sizC (c : Cnn) : Int := match c.ss with
  | none => 0
  | some y => if c.st = 6 then 0 else lenSum y.1.l + lenSum y.2.l
theorem f14_u (c : Cnn) (B : Int) (hi : CInv c B) : HSpec P G 14 [.loc 0 0] (cnU c 0 1 2) (.int .i64 (sizC c)) (cnU c 0 1 2) := by
  obtain ⟨st, p, g, ss⟩ := c
  cases ss with
  | none =>
    have hi : st = 0 ∨ st = 1 ∨ st = 2 := hi
    exact conv_nn (f14_n st p g (by rcases hi with rfl | rfl | rfl <;> decide)) (fun _ => rfl)
  | some y =>
    obtain ⟨s, t⟩ := y
    obtain ⟨is, it, hst⟩ : SInv s B ∧ SInv t B ∧ (st = 3 ∨ st = 4 ∨ st = 5 ∨ st = 6) := hi
    by_cases h6 : st = 6
    · subst h6
      exact conv_hh (f14_6 p g s t)
    · have := conv_hh (f14_h st p g s t B is it h6)
      rw [show lenSum s.l + lenSum t.l = sizC ⟨st, p, g, some (s, t)⟩ from (if_neg h6).symm] at this
      exact this
/-- The view of a direction: open, next, sent, window, stamped, stamp. -/
def vw1 (p g : Hf) (s : SS) : Bool × Int × Int × Int × Bool × Int := (true, nextS s, g.high, p.win, p.stamped && g.stamped, if (p.stamped && g.stamped) = true then p.stamp else 0)
def vwC (c : Cnn) (d : Int) : Bool × Int × Int × Int × Bool × Int := match c.ss with
  | none => (false, 0, 0, 0, false, 0)
  | some y => if opB c.st = true then (if d = 1 then vw1 c.p c.g y.1 else vw1 c.g c.p y.2) else (false, 0, 0, 0, false, 0)
abbrev vwV (z : Bool × Int × Int × Int × Bool × Int) : AV := viewV z.1 z.2.1 z.2.2.1 z.2.2.2.1 z.2.2.2.2.1 z.2.2.2.2.2
theorem f16_u1 (c : Cnn) (B : Int) (hi : CInv c B) : HSpec P G 16 [.loc 0 0, .int .i64 1] (cnU c 0 1 2) (vwV (vwC c 1)) (cnU c 0 1 2) := by
  obtain ⟨st, p, g, ss⟩ := c
  cases ss with
  | none => exact conv_nn (f16_n1 st p g (opB_n hi)) (fun _ => rfl)
  | some y =>
    have := conv_hh (f16_h1 st p g y.1 y.2)
    unfold vwC
    dsimp only
    cases ho : opB st <;> rw [ho] at this
    · rw [if_neg (by decide)] at this ⊢
      exact this
    · rw [if_pos rfl] at this ⊢
      exact this
theorem f16_u2 (c : Cnn) (B : Int) (hi : CInv c B) : HSpec P G 16 [.loc 0 0, .int .i64 2] (cnU c 0 1 2) (vwV (vwC c 2)) (cnU c 0 1 2) := by
  obtain ⟨st, p, g, ss⟩ := c
  cases ss with
  | none => exact conv_nn (f16_n2 st p g (opB_n hi)) (fun _ => rfl)
  | some y =>
    have := conv_hh (f16_h2 st p g y.1 y.2)
    unfold vwC
    dsimp only
    cases ho : opB st <;> rw [ho] at this
    · rw [if_neg (by decide)] at this ⊢
      exact this
    · rw [if_pos rfl] at this ⊢
      exact this
end Go.Proofs.YtchiagnggnblaaaDoor.Ac
