import Derived.Test.YtchiagnggnblaaaDoorCnS
set_option linter.all false
/- Chapter 21, plain: the events of each direction follow one another. -/
namespace Go.Proofs.YtchiagnggnblaaaDoor.Ac
open Go Go.Fw Go.Ov Go.Proofs.YtchiagnggnblaaaDoor.Fx
/-- Where the two directions stand, and how often each has ended. -/
abbrev At4 := Int × Int × Int × Int
def opnE (x : At4) (e : Evt) : At4 := if e.1 = 1 then (0, 0, 0, 0) else x
def atE (x : At4) (d : Int) : Int := if d = 1 then x.1 else x.2.1
def addAt (x : At4) (d n : Int) : At4 := if d = 1 then (x.1 + n, x.2.1, x.2.2.1, x.2.2.2) else (x.1, x.2.1 + n, x.2.2.1, x.2.2.2)
def addEn (x : At4) (d : Int) : At4 := if d = 1 then (x.1, x.2.1, x.2.2.1 + 1, x.2.2.2) else (x.1, x.2.1, x.2.2.1, x.2.2.2 + 1)
def gapE (e : Evt) (y : At4) : At4 := if e.1 = 3 then addAt y e.2.1 e.2.2.2.1 else y
def clsE (e : Evt) (y : At4) : At4 := if e.1 = 4 then addEn y e.2.1 else y
def evE (x : At4) (e : Evt) : At4 := clsE e (gapE e (addAt (opnE x e) e.2.1 e.2.2.2.2.1.length))
def foldE (x : At4) (l : List Evt) : At4 := l.foldl evE x
structure Rng (x : At4) : Prop where
  a : 0 ≤ x.1 ∧ x.1 ≤ 1000000000
  b : 0 ≤ x.2.1 ∧ x.2.1 ≤ 1000000000
  c : 0 ≤ x.2.2.1 ∧ x.2.2.1 ≤ 1000000000
  d : 0 ≤ x.2.2.2 ∧ x.2.2.2 ≤ 1000000000
structure OkE (n st : Int) (x : At4) (e : Evt) : Prop where
  dir : e.2.1 = 1 ∨ e.2.1 = 2
  kind : 1 ≤ e.1 ∧ e.1 ≤ 7
  rej : e.1 = 7 → n = 1 ∧ 1 ≤ e.2.2.2.1 ∧ e.2.2.2.1 ≤ 9
  off : e.1 ≠ 7 → e.2.2.1 = atE (opnE x e) e.2.1
  cnt : e.1 ≠ 7 → ((e.1 = 6 ∨ e.1 = 3) ↔ e.2.2.2.1 > 0)
  dat : e.1 = 2 ↔ e.2.2.2.2.1 ≠ []
  rst : e.1 = 5 → st = 6
  rng : Rng x
  len : e.2.2.2.2.1.length ≤ 1000000000
  num : 0 ≤ e.2.2.2.1 ∧ e.2.2.2.1 ≤ 1000000000
structure Good (n st : Int) (x : At4) (l : List Evt) (y : At4) : Prop where
  fold : foldE x l = y
  ok : ∀ k, k < l.length → OkE n st (foldE x (l.take k)) (l.getD k (Ty.dflt evT))
theorem Good.nil (n st : Int) (x : At4) : Good n st x [] x := ⟨rfl, fun k hk => by simp at hk⟩
theorem Good.one {n st : Int} {x : At4} {e : Evt} (h : OkE n st x e) : Good n st x [e] (evE x e) := ⟨rfl, fun k hk => by
  simp at hk
  subst hk
  exact h⟩
theorem Good.append {n st : Int} {x y z : At4} {l m : List Evt} (h : Good n st x l y) (k : Good n st y m z) : Good n st x (l ++ m) z := by
  refine ⟨by unfold foldE; rw [List.foldl_append]; have := h.fold; unfold foldE at this; rw [this]; exact k.fold, fun i hi => ?_⟩
  rcases Nat.lt_or_ge i l.length with hl | hl
  · have := h.ok i hl
    rw [List.take_append_of_le_length (Nat.le_of_lt hl), List.getD_eq_getElem?_getD, List.getElem?_append_left hl, ← List.getD_eq_getElem?_getD]
    exact this
  · have := k.ok (i - l.length) (by rw [List.length_append] at hi; omega)
    rw [List.take_append, List.take_of_length_le hl, List.getD_eq_getElem?_getD, List.getElem?_append_right hl, ← List.getD_eq_getElem?_getD]
    unfold foldE at this ⊢
    rw [List.foldl_append]
    have e := h.fold
    unfold foldE at e
    rw [e]
    exact this
/-! ### ended streams -/
theorem ended_lim {s : SS} {B : Int} (h : SInv s B) (he : endedS s = true) : s.end_ = s.pos ∧ s.end_ ≠ -1 := by
  have h1 : s.end_ = s.pos := of_decide_eq_true he
  have := h.pos0
  exact ⟨h1, by omega⟩
theorem add_same {s : SS} {B : Int} (h : SInv s B) (he : endedS s = true) (q : Int) (x : List UInt8) : (addS s q x).2 = s := by
  obtain ⟨h1, h2⟩ := ended_lim h he
  unfold addS
  rw [if_pos (by unfold hiS; rw [if_pos h2]; omega)]
theorem endS_same {s : SS} {B : Int} (h : SInv s B) (he : endedS s = true) (q : Int) : (endS s q).2 = s := by
  obtain ⟨h1, h2⟩ := ended_lim h he
  unfold endS
  rw [if_pos h2]
theorem tkS_ended {s : SS} {B : Int} (h : SInv s B) (he : endedS s = true) (q f : Int) (x : List UInt8) : endedS (tkS s q f x) = true := by
  unfold tkS finM
  rw [add_same h he]
  split
  · rw [endS_same h he]; exact he
  · exact he
theorem tkT_ended {t : SS} {B : Int} (h : SInv t B) (he : endedS t = true) (k : Int) : endedS (tkT t k) = true := by
  obtain ⟨h1, h2⟩ := ended_lim h he
  have h3 := (limS_ok t k).2 h2
  have e : (limS t k - t.pos).toNat = 0 := by omega
  unfold tkT lostS
  rw [e]
  exact he
theorem add_conf {s : SS} {B : Int} (h : SInv s B) (q : Int) (x : List UInt8) (hx : x.length ≤ 1000000) : 0 ≤ (addS s q x).1.2.2 ∧ (addS s q x).1.2.2 ≤ 1000000 := by
  unfold addS
  split
  · exact ⟨Int.le_refl _, by (try dsimp only); decide⟩
  · split
    · exact ⟨Int.le_refl _, by (try dsimp only); decide⟩
    · rename_i _ he
      have he : (insS s q x).2.2 = 0 := by omega
      have hl : (pd (segP (offS s q) (max (offS s q) s.pos) (hiS s (offS s q) x.length) x)).length ≤ x.length := by
        unfold segP
        show ((x.take _).drop _).length ≤ x.length
        rw [List.length_drop, List.length_take]
        omega
      have g := insGood h.v (by omega) he
      have g0 := g.n0
      have g1 := g.n1
      dsimp only
      unfold insS
      omega
theorem lost_sum {t : SS} {B : Int} (h : SInv t B) (k : Int) : (lostS t k).1.1 + ((lostS t k).1.2.length : Int) = (tkT t k).pos - t.pos ∧ 0 ≤ (lostS t k).1.1 := by
  have := (lostS_inv h k).sum
  exact this
/-! ### the events of an accepted segment -/
def mk4 (d : Int) (a b : Int × Int) : At4 := if d = 1 then (a.1, b.1, a.2, b.2) else (b.1, a.1, b.2, a.2)
theorem mk4_swap {d e : Int} (h : (d = 1 ∧ e = 2) ∨ (d = 2 ∧ e = 1)) (a b : Int × Int) : mk4 d a b = mk4 e b a := by
  rcases h with ⟨rfl, rfl⟩ | ⟨rfl, rfl⟩ <;> rfl
structure R2 (a : Int × Int) : Prop where
  p : 0 ≤ a.1 ∧ a.1 ≤ 1000000000
  e : 0 ≤ a.2 ∧ a.2 ≤ 1000000000
theorem rng_mk4 {d : Int} {a b : Int × Int} (ha : R2 a) (hb : R2 b) : Rng (mk4 d a b) := by
  unfold mk4
  split
  · exact ⟨ha.p, hb.p, ha.e, hb.e⟩
  · exact ⟨hb.p, ha.p, hb.e, ha.e⟩
theorem good_num6 {n st d c : Int} (hd : d = 1 ∨ d = 2) {a b : Int × Int} (ha : R2 a) (hb : R2 b) (hc : 0 ≤ c ∧ c ≤ 1000000000) : Good n st (mk4 d a b) (numM 6 d a.1 c) (mk4 d a b) := by
  unfold numM
  split
  · rename_i hn
    have := Good.one (n := n) (st := st) (x := mk4 d a b) (e := ((6, d, a.1, c, [], ()) : Evt)) ⟨hd, by (try dsimp only); decide, fun h => absurd h (by (try dsimp only); decide), fun _ => by rcases hd with rfl | rfl <;> rfl,
      fun _ => ⟨fun _ => by show c > 0; omega, fun _ => .inl rfl⟩, ⟨fun h => absurd h (by (try dsimp only); decide), fun h => absurd rfl h⟩, fun h => absurd h (by (try dsimp only); decide), rng_mk4 ha hb, by (try dsimp only); decide, hc⟩
    have e : evE (mk4 d a b) (6, d, a.1, c, [], ()) = mk4 d a b := by
      rcases hd with rfl | rfl <;> simp [evE, clsE, gapE, opnE, addAt, mk4]
    rw [e] at this
    exact this
  · exact Good.nil ..
theorem good_num3 {n st d c : Int} (hd : d = 1 ∨ d = 2) {a b : Int × Int} (ha : R2 a) (hb : R2 b) (hc : 0 ≤ c ∧ c ≤ 1000000000) : Good n st (mk4 d a b) (numM 3 d a.1 c) (mk4 d (a.1 + c, a.2) b) := by
  unfold numM
  split
  · rename_i hn
    have := Good.one (n := n) (st := st) (x := mk4 d a b) (e := ((3, d, a.1, c, [], ()) : Evt)) ⟨hd, by (try dsimp only); decide, fun h => absurd h (by (try dsimp only); decide), fun _ => by rcases hd with rfl | rfl <;> rfl,
      fun _ => ⟨fun _ => by show c > 0; omega, fun _ => .inr rfl⟩, ⟨fun h => absurd h (by (try dsimp only); decide), fun h => absurd rfl h⟩, fun h => absurd h (by (try dsimp only); decide), rng_mk4 ha hb, by (try dsimp only); decide, hc⟩
    have e : evE (mk4 d a b) (3, d, a.1, c, [], ()) = mk4 d (a.1 + c, a.2) b := by
      rcases hd with rfl | rfl <;> simp [evE, clsE, gapE, opnE, addAt, mk4]
    rw [e] at this
    exact this
  · rename_i hn
    have : c = 0 := by omega
    subst this
    rw [Int.add_zero]
    exact Good.nil ..
theorem b01_R (b : Bool) : 0 ≤ b01 b ∧ b01 b ≤ 1000000000 := by rcases b01_rng b with h | h <;> rw [h] <;> decide
theorem good_rep {n st d : Int} (hd : d = 1 ∨ d = 2) {s : SS} {x : List UInt8} {had : Bool} {a b : Int × Int} (ha : R2 a) (hb : R2 b) (hp : s.pos = a.1 + x.length) (hs : s.pos ≤ 1000000000) (he : a.2 = b01 had) (hm : had = true → endedS s = true) :
    Good n st (mk4 d a b) (repM d s x had) (mk4 d (s.pos, b01 (endedS s)) b) := by
  unfold repM
  have ha1 := ha.p
  have r1 : R2 (s.pos, a.2) := ⟨by show 0 ≤ s.pos ∧ s.pos ≤ 1000000000; omega, ha.e⟩
  refine Good.append (y := mk4 d (s.pos, a.2) b) ?_ ?_
  · unfold rp1
    split
    · rename_i h0
      subst h0
      rw [show (s.pos, a.2) = a by ext <;> simp [hp]]
      exact Good.nil ..
    · rename_i h0
      have := Good.one (n := n) (st := st) (x := mk4 d a b) (e := ((2, d, s.pos - x.length, 0, x, ()) : Evt)) ⟨hd, by (try dsimp only); decide, fun h => absurd h (by (try dsimp only); decide), fun _ => by
        have : s.pos - (x.length : Int) = a.1 := by omega
        dsimp only
        rw [this]
        rcases hd with rfl | rfl <;> rfl,
        fun _ => ⟨fun h => by rcases h with h | h <;> exact absurd h (by (try dsimp only); decide), fun h => absurd h (by (try dsimp only); decide)⟩, ⟨fun _ => h0, fun _ => rfl⟩, fun h => absurd h (by (try dsimp only); decide), rng_mk4 ha hb, by show x.length ≤ 1000000000; omega, by (try dsimp only); decide⟩
      have e : evE (mk4 d a b) (2, d, s.pos - x.length, 0, x, ()) = mk4 d (s.pos, a.2) b := by
        rcases hd with rfl | rfl <;> simp [evE, clsE, gapE, opnE, addAt, mk4, hp]
      rw [e] at this
      exact this
  · unfold rp2
    split
    · rename_i h0
      simp only [Bool.and_eq_true, Bool.not_eq_true'] at h0
      have := Good.one (n := n) (st := st) (x := mk4 d (s.pos, a.2) b) (e := ((4, d, s.pos, 0, [], ()) : Evt)) ⟨hd, by (try dsimp only); decide, fun h => absurd h (by (try dsimp only); decide), fun _ => by rcases hd with rfl | rfl <;> rfl,
        fun _ => ⟨fun h => by rcases h with h | h <;> exact absurd h (by (try dsimp only); decide), fun h => absurd h (by (try dsimp only); decide)⟩, ⟨fun h => absurd h (by (try dsimp only); decide), fun h => absurd rfl h⟩, fun h => absurd h (by (try dsimp only); decide), rng_mk4 r1 hb, by (try dsimp only); decide, by (try dsimp only); decide⟩
      have e : evE (mk4 d (s.pos, a.2) b) (4, d, s.pos, 0, [], ()) = mk4 d (s.pos, b01 (endedS s)) b := by
        rw [he, h0.1, h0.2]
        rcases hd with rfl | rfl <;> simp [evE, clsE, gapE, opnE, addAt, addEn, mk4, b01]
      rw [e] at this
      exact this
    · rename_i h0
      have e : a.2 = b01 (endedS s) := by
        rw [he]
        cases had with
        | true => rw [hm rfl]
        | false =>
          cases h1 : endedS s with
          | true => rw [h1] at h0; exact absurd rfl h0
          | false => rfl
      rw [e]
      exact Good.nil ..
theorem good_tk {n st d e : Int} (hde : (d = 1 ∧ e = 2) ∨ (d = 2 ∧ e = 1)) {s t : SS} {B : Int} (is : SInv s B) (it : SInv t B) (hB : B ≤ 900000000) (q k f : Int) (x : List UInt8) (hx : x.length ≤ 1000000) :
    Good n st (mk4 d (s.pos, b01 (endedS s)) (t.pos, b01 (endedS t))) (tkE d e s t q k f x) (mk4 d ((tkS s q f x).pos, b01 (endedS (tkS s q f x))) ((tkT t k).pos, b01 (endedS (tkT t k)))) := by
  have hd : d = 1 ∨ d = 2 := by omega
  have he : e = 1 ∨ e = 2 := by omega
  have p0 := is.pos0
  have p1 := is.posB
  have q0 := it.pos0
  have q1 := it.posB
  have is1 := tkS_inv is q f x
  have it1 := tkT_inv it k
  have p2 := is1.posB
  have p2' := is1.pos0
  have q2 := it1.posB
  have q2' := it1.pos0
  have al := add_len s q x
  have ap := tkS_pos s q f x
  have cf := add_conf is q x hx
  have ls := lost_sum it k
  have ra : R2 (s.pos, b01 (endedS s)) := ⟨⟨p0, by show s.pos ≤ _; omega⟩, b01_R _⟩
  have ra' : R2 ((tkS s q f x).pos, b01 (endedS (tkS s q f x))) := ⟨⟨p2', by show (tkS s q f x).pos ≤ _; omega⟩, b01_R _⟩
  have rb : R2 (t.pos, b01 (endedS t)) := ⟨⟨q0, by show t.pos ≤ _; omega⟩, b01_R _⟩
  have rb' : R2 (t.pos + (lostS t k).1.1, b01 (endedS t)) := ⟨⟨by show 0 ≤ t.pos + (lostS t k).1.1; omega, by show t.pos + (lostS t k).1.1 ≤ _; omega⟩, b01_R _⟩
  unfold tkE tkE3 tkE2 tkE1
  refine Good.append (y := mk4 d ((tkS s q f x).pos, b01 (endedS (tkS s q f x))) (t.pos + (lostS t k).1.1, b01 (endedS t))) (Good.append (y := mk4 d ((tkS s q f x).pos, b01 (endedS (tkS s q f x))) (t.pos, b01 (endedS t))) (Good.append (y := mk4 d (s.pos, b01 (endedS s)) (t.pos, b01 (endedS t))) ?_ ?_) ?_) ?_
  · exact good_num6 hd ra rb (by omega)
  · exact good_rep hd ra rb (by show (tkS s q f x).pos = s.pos + _; omega) (by omega) rfl (fun h => tkS_ended is h q f x)
  · rw [mk4_swap hde, mk4_swap hde]
    exact good_num3 he rb ra' (by omega)
  · rw [mk4_swap hde, mk4_swap hde]
    exact good_rep he rb' ra' (by show (tkT t k).pos = t.pos + (lostS t k).1.1 + _; omega) (by omega) rfl (fun h => tkT_ended it h k)
end Go.Proofs.YtchiagnggnblaaaDoor.Ac
