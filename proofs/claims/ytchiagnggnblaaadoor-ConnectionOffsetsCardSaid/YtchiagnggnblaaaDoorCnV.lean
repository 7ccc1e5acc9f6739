import Derived.Test.YtchiagnggnblaaaDoorCnU
set_option linter.all false
/- Chapter 21, plain: what the law of the offsets looks at. -/
namespace Go.Proofs.YtchiagnggnblaaaDoor.Ac
open Go Go.Fw Go.Ov Go.Proofs.YtchiagnggnblaaaDoor.Fx
structure OffInv (c : Cnn) (x : At4) : Prop where
  rng : Rng x
  at_ : ∀ s t, c.ss = some (s, t) → x = (s.pos, t.pos, b01 (endedS s), b01 (endedS t)) ∧ (c.st = 6 ∨ c.st = stM s t)
theorem off_new (p g : Hf) : OffInv (new0 p g) (0, 0, 0, 0) := ⟨⟨by decide, by decide, by decide, by decide⟩, fun s t h => by cases h⟩
theorem good_rej {st d pos c : Int} (hd : d = 1 ∨ d = 2) {x : At4} (hx : Rng x) (hc : 1 ≤ c ∧ c ≤ 9) : Good 1 st x [(7, d, pos, c, [], ())] x := by
  have := Good.one (n := 1) (st := st) (x := x) (e := ((7, d, pos, c, [], ()) : Evt)) ⟨hd, by (try dsimp only); decide, fun _ => ⟨rfl, hc.1, hc.2⟩, fun h => absurd rfl h, fun h => absurd rfl h, ⟨fun h => absurd h (by (try dsimp only); decide), fun h => absurd rfl h⟩, fun h => absurd h (by (try dsimp only); decide), hx, by (try dsimp only); decide, by (try dsimp only); omega⟩
  have e : evE x (7, d, pos, c, [], ()) = x := by
    obtain ⟨x1, x2, x3, x4⟩ := x
    rcases hd with rfl | rfl <;> simp [evE, clsE, gapE, opnE, addAt]
  rw [e] at this
  exact this
theorem mk4_one (a b c d : Int) : mk4 1 (a, c) (b, d) = (a, b, c, d) := rfl
theorem rej_num (f : Int) : 1 ≤ (if flags f = true then (7 : Int) else 3) ∧ (if flags f = true then (7 : Int) else 3) ≤ 9 := by split <;> omega
theorem good_sgH {d e st : Int} (hde : (d = 1 ∧ e = 2) ∨ (d = 2 ∧ e = 1)) {p g : Hf} {s t : SS} {B : Int} (is : SInv s B) (it : SInv t B) (hB : B ≤ 900000000) (q k f : Int) (o : List optT.D) (x : List UInt8) (hx : x.length ≤ 1000000) (hst : st = 6 ∨ st = stM s t) :
    Good (sgH d e st p g s t q k f o x).1.length (sgH d e st p g s t q k f o x).2.1 (mk4 d (s.pos, b01 (endedS s)) (t.pos, b01 (endedS t))) (sgH d e st p g s t q k f o x).1
      (mk4 d ((sgH d e st p g s t q k f o x).2.2.2.1.pos, b01 (endedS (sgH d e st p g s t q k f o x).2.2.2.1)) ((sgH d e st p g s t q k f o x).2.2.2.2.pos, b01 (endedS (sgH d e st p g s t q k f o x).2.2.2.2))) ∧
    ((sgH d e st p g s t q k f o x).2.1 = 6 ∨ (sgH d e st p g s t q k f o x).2.1 = stM (sgH d e st p g s t q k f o x).2.2.2.1 (sgH d e st p g s t q k f o x).2.2.2.2) := by
  have hd : d = 1 ∨ d = 2 := by omega
  have ra : R2 (s.pos, b01 (endedS s)) := ⟨⟨is.pos0, by have := is.posB; show s.pos ≤ _; omega⟩, b01_R _⟩
  have rb : R2 (t.pos, b01 (endedS t)) := ⟨⟨it.pos0, by have := it.posB; show t.pos ≤ _; omega⟩, b01_R _⟩
  unfold sgH
  split
  · exact ⟨good_rej hd (rng_mk4 ra rb) (by decide), hst⟩
  · unfold prM
    split
    · rename_i hr
      have := rsn_rng p g s q k f o x
      exact ⟨good_rej hd (rng_mk4 ra rb) (by omega), hst⟩
    · split
      · refine ⟨?_, .inl rfl⟩
        have := Good.one (n := 1) (st := 6) (x := mk4 d (s.pos, b01 (endedS s)) (t.pos, b01 (endedS t))) (e := ((5, d, s.pos, 0, [], ()) : Evt)) ⟨hd, by (try dsimp only); decide, fun h => absurd h (by (try dsimp only); decide), fun _ => by rcases hd with rfl | rfl <;> rfl,
          fun _ => ⟨fun h => by rcases h with h | h <;> exact absurd h (by (try dsimp only); decide), fun h => absurd h (by (try dsimp only); decide)⟩, ⟨fun h => absurd h (by (try dsimp only); decide), fun h => absurd rfl h⟩, fun _ => rfl, rng_mk4 ra rb, by (try dsimp only); decide, by (try dsimp only); decide⟩
        have e : evE (mk4 d (s.pos, b01 (endedS s)) (t.pos, b01 (endedS t))) (5, d, s.pos, 0, [], ()) = mk4 d (s.pos, b01 (endedS s)) (t.pos, b01 (endedS t)) := by
          rcases hd with rfl | rfl <;> simp [evE, clsE, gapE, opnE, addAt, mk4]
        rw [e] at this
        exact this
      · exact ⟨good_tk hde is it hB q k f x hx, .inr rfl⟩
theorem off_ok {c : Cnn} {B : Int} (hi : CInv c B) (hB : B ≤ 900000000) {x : At4} (h : OffInv c x) (d q k f : Int) (o : List optT.D) (z : List UInt8) (hz : z.length ≤ 1000000) :
    ∃ y, Good (segC d c q k f o z).1.length (segC d c q k f o z).2.st x (segC d c q k f o z).1 y ∧ OffInv (segC d c q k f o z).2 y := by
  obtain ⟨st, p, g, ss⟩ := c
  unfold segC
  split
  · unfold seg1
    cases ss with
    | none =>
      have hi : st = 0 ∨ st = 1 ∨ st = 2 := hi
      dsimp only
      split
      · rename_i ho
        have i1 := nwS_inv p
        have i2 := nwS_inv g
        have hk := good_tk (n := ((1, 1, 0, 0, [], ()) :: tkE 1 2 (nwS p) (nwS g) q k f z : List Evt).length) (st := stM (tkS (nwS p) q f z) (tkT (nwS g) k)) (d := 1) (e := 2) (.inl ⟨rfl, rfl⟩) i1 i2 (by decide) q k f z hz
        have j1 := tkS_inv i1 q f z
        have j2 := tkT_inv i2 k
        refine ⟨_, Good.append (l := [((1, 1, 0, 0, [], ()) : Evt)]) (y := (0, 0, 0, 0)) ?_ hk, ⟨rng_mk4 ⟨⟨j1.pos0, by have := j1.posB; show (tkS (nwS p) q f z).pos ≤ _; omega⟩, b01_R _⟩ ⟨⟨j2.pos0, by have := j2.posB; show (tkT (nwS g) k).pos ≤ _; omega⟩, b01_R _⟩, fun s t h => ?_⟩⟩
        · have := Good.one (n := ((1, 1, 0, 0, [], ()) :: tkE 1 2 (nwS p) (nwS g) q k f z : List Evt).length) (st := stM (tkS (nwS p) q f z) (tkT (nwS g) k)) (x := x) (e := ((1, 1, 0, 0, [], ()) : Evt)) ⟨.inl rfl, by decide, fun h => absurd h (by decide), fun _ => rfl,
            fun _ => ⟨fun h => by rcases h with h | h <;> exact absurd h (by decide), fun h => absurd h (by decide)⟩, ⟨fun h => absurd h (by decide), fun h => absurd rfl h⟩, fun h => absurd h (by decide), h.rng, by decide, by decide⟩
          exact this
        · simp only [Option.some.injEq, Prod.mk.injEq] at h
          obtain ⟨rfl, rfl⟩ := h
          exact ⟨rfl, .inr rfl⟩
      · rename_i ho
        refine ⟨x, ?_, ⟨h.rng, fun s t h => by cases h⟩⟩
        unfold sgN1
        split
        · exact good_rej (.inl rfl) h.rng (by decide)
        · rename_i hf
          split
          · exact Good.nil ..
          · split
            · rename_i h3
              have := esR_rng p g q k f o z
              have hne : esR p g q k f o z ≠ 0 := fun e0 => ho (by
                unfold opensB
                rw [h3, decide_eq_true e0, show flags f = true by simpa using hf]
                rfl)
              exact good_rej (.inl rfl) h.rng (by omega)
            · exact good_rej (.inl rfl) h.rng (by decide)
    | some y =>
      obtain ⟨s, t⟩ := y
      obtain ⟨is, it, hst⟩ : SInv s B ∧ SInv t B ∧ (st = 3 ∨ st = 4 ∨ st = 5 ∨ st = 6) := hi
      obtain ⟨hx, hs⟩ := h.at_ s t rfl
      dsimp only
      split
      · have hk := good_sgH (d := 1) (e := 2) (.inl ⟨rfl, rfl⟩) (p := p) (g := g) is it hB q k f o z hz hs
        have j := sgH_inv (d := 1) (e := 2) (p := p) (g := g) is it q k f o z hst
        refine ⟨_, by rw [hx]; exact hk.1, ⟨rng_mk4 ⟨⟨j.1.pos0, by have := j.1.posB; show (sgH 1 2 st p g s t q k f o z).2.2.2.1.pos ≤ _; omega⟩, b01_R _⟩ ⟨⟨j.2.1.pos0, by have := j.2.1.posB; show (sgH 1 2 st p g s t q k f o z).2.2.2.2.pos ≤ _; omega⟩, b01_R _⟩, fun s' t' h => ?_⟩⟩
        simp only [Option.some.injEq, Prod.mk.injEq] at h
        obtain ⟨rfl, rfl⟩ := h
        exact ⟨rfl, hk.2⟩
      · split
        · exact ⟨x, Good.nil .., ⟨h.rng, fun s t h => by cases h⟩⟩
        · exact ⟨x, good_rej (.inl rfl) h.rng (rej_num f), h⟩
  · split
    · unfold seg2
      cases ss with
      | none =>
        dsimp only
        refine ⟨x, ?_, ⟨h.rng, fun s t h => by cases h⟩⟩
        unfold sgN2
        split
        · exact good_rej (.inr rfl) h.rng (by decide)
        · split
          · split
            · exact good_rej (.inr rfl) h.rng (by decide)
            · exact Good.nil ..
          · exact good_rej (.inr rfl) h.rng (by decide)
      | some y =>
        obtain ⟨s, t⟩ := y
        obtain ⟨is, it, hst⟩ : SInv s B ∧ SInv t B ∧ (st = 3 ∨ st = 4 ∨ st = 5 ∨ st = 6) := hi
        obtain ⟨hx, hs⟩ := h.at_ s t rfl
        dsimp only
        split
        · have hs : st = 6 ∨ st = stM s t := hs
          have hs' : st = 6 ∨ st = stM t s := by
            rcases hs with h | h
            · exact .inl h
            · right; rw [h]; unfold stM; omega
          have hk := good_sgH (d := 2) (e := 1) (.inr ⟨rfl, rfl⟩) (p := g) (g := p) it is hB q k f o z hz hs'
          have j := sgH_inv (d := 2) (e := 1) (p := g) (g := p) it is q k f o z hst
          refine ⟨_, by rw [hx]; exact hk.1, ⟨rng_mk4 ⟨⟨j.1.pos0, by have := j.1.posB; show (sgH 2 1 st g p t s q k f o z).2.2.2.1.pos ≤ _; omega⟩, b01_R _⟩ ⟨⟨j.2.1.pos0, by have := j.2.1.posB; show (sgH 2 1 st g p t s q k f o z).2.2.2.2.pos ≤ _; omega⟩, b01_R _⟩, fun s' t' h => ?_⟩⟩
          simp only [Option.some.injEq, Prod.mk.injEq] at h
          obtain ⟨rfl, rfl⟩ := h
          refine ⟨rfl, ?_⟩
          rcases hk.2 with h | h
          · exact .inl h
          · right
            show (sgH 2 1 st g p t s q k f o z).2.1 = _
            rw [h]; unfold stM; omega
        · exact ⟨x, good_rej (.inr rfl) h.rng (rej_num f), h⟩
    · exact ⟨x, Good.nil .., h⟩
theorem seg_len (c : Cnn) (d q k f : Int) (o : List optT.D) (x : List UInt8) : (segC d c q k f o x).1.length ≤ 7 := by
  obtain ⟨st, p, g, ss⟩ := c
  have key : ∀ (d e : Int) (p g : Hf) (s t : SS), (sgH d e st p g s t q k f o x).1.length ≤ 7 := by
    intro d e p g s t
    have := tkE_len d e s t q k f x
    unfold sgH prM
    (repeat' split) <;> simp <;> omega
  unfold segC
  split
  · unfold seg1
    cases ss with
    | none =>
      have := tkE_len 1 2 (nwS p) (nwS g) q k f x
      dsimp only
      split
      · simp only [List.length_cons]; omega
      · unfold sgN1
        (repeat' split) <;> simp
    | some y =>
      dsimp only
      split
      · exact key ..
      · split <;> simp
  · split
    · unfold seg2
      cases ss with
      | none =>
        dsimp only
        unfold sgN2
        (repeat' split) <;> simp
      | some y =>
        dsimp only
        split
        · exact key ..
        · simp
    · simp
/-- The directions behind the first segments of a list. -/
theorem off_run {p g : Hf} {l : List Sg} (hl : l.length ≤ 40) (hb : ∀ i, i < l.length → bigE (l.getD i (Ty.dflt sgT)) = false) : ∀ i, i ≤ l.length → ∃ x, OffInv (runC (new0 p g) (l.take i)) x
  | 0, _ => ⟨_, off_new p g⟩
  | i + 1, hi => by
    obtain ⟨x, hx⟩ := off_run hl hb i (by omega)
    have hb := bigE_f (hb i (by omega))
    obtain ⟨y, _, hy⟩ := off_ok (runC_inv (new0_inv p g) (l := l) (i := i) (by omega)) (by omega) hx (l.getD i (Ty.dflt sgT)).1 (tqS _) (tkK _) (tfF _) (toO _) (txX (l.getD i (Ty.dflt sgT))) (by omega)
    refine ⟨y, ?_⟩
    rw [runC_next _ (by omega)]
    exact hy
/-- What the law asks at the end of a segment. -/
structure OffEnd (c : Cnn) (x : At4) : Prop where
  pos : 3 ≤ c.st → offC c 1 = x.1 ∧ offC c 2 = x.2.1 ∧ x.2.2.1 ≤ 1 ∧ x.2.2.2 ≤ 1
  sum : 3 ≤ c.st → c.st ≤ 5 → c.st = 3 + x.2.2.1 + x.2.2.2
  rng : 0 ≤ c.st ∧ c.st ≤ 6
  view : (vwC c 1).1 = (decide (c.st = 3) || decide (c.st = 4))
theorem off_end {c : Cnn} {B : Int} (hi : CInv c B) {x : At4} (h : OffInv c x) : OffEnd c x := by
  obtain ⟨st, p, g, ss⟩ := c
  cases ss with
  | none =>
    have hi : st = 0 ∨ st = 1 ∨ st = 2 := hi
    refine ⟨fun h => ?_, fun h => ?_, ?_, ?_⟩
    · exact absurd h (by show ¬ 3 ≤ st; omega)
    · exact absurd h (by show ¬ 3 ≤ st; omega)
    · show 0 ≤ st ∧ st ≤ 6; omega
    · rcases hi with rfl | rfl | rfl <;> rfl
  | some y =>
    obtain ⟨s, t⟩ := y
    obtain ⟨is, it, hst⟩ : SInv s B ∧ SInv t B ∧ (st = 3 ∨ st = 4 ∨ st = 5 ∨ st = 6) := hi
    obtain ⟨hx, hs⟩ := h.at_ s t rfl
    subst hx
    refine ⟨fun _ => ⟨rfl, rfl, ?_, ?_⟩, fun h1 h2 => ?_, ?_, ?_⟩
    · show b01 (endedS s) ≤ 1
      rcases b01_rng (endedS s) with h | h <;> rw [h] <;> decide
    · show b01 (endedS t) ≤ 1
      rcases b01_rng (endedS t) with h | h <;> rw [h] <;> decide
    · show st = 3 + b01 (endedS s) + b01 (endedS t)
      have h2 : st ≤ 5 := h2
      have hs : st = 6 ∨ st = stM s t := hs
      rcases hs with h | h
      · omega
      · exact h
    · show 0 ≤ st ∧ st ≤ 6; omega
    · unfold vwC
      dsimp only
      rcases hst with rfl | rfl | rfl | rfl <;> rfl
end Go.Proofs.YtchiagnggnblaaaDoor.Ac
