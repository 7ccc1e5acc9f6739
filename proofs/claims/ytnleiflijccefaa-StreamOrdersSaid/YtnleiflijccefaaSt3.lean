/- Plain words of chapter 20: Lost, and what End keeps. -/
import Derived.Test.YtnleiflijccefaaSt2
set_option linter.all false
set_option linter.unusedVariables false
set_option linter.unusedSimpArgs false
namespace Go.Ov
open Go Go.Fw

/-- What holds within Lost. -/
structure LInv (s0 : SS) (B : Int) (x : SS × Int × List UInt8) : Prop where
  inv : SInv x.1 (B + 8192)
  top : x.1.pos ≤ s0.pos + s0.win ∧ ∀ c ∈ cells x.1.l, c.1 < s0.pos + s0.win
  sum : x.2.1 + (x.2.2.length : Int) = x.1.pos - s0.pos ∧ 0 ≤ x.2.1
  end_ : x.1.end_ = s0.end_
  win : x.1.win = s0.win
theorem linv_start {s : SS} {B : Int} (h : SInv s B) : LInv s B (s, 0, []) :=
  ⟨h.mono (by omega), ⟨by have := h.win; show s.pos ≤ s.pos + s.win; omega, fun c hc => (h.rng c hc).2⟩, ⟨by simp, Int.le_refl _⟩, rfl, rfl⟩
theorem valid_first {l : List Pc} (hv : Valid l) {o : Pc} {r : List Pc} (h : l = o :: r) : ∀ c ∈ cells l, pa o ≤ c.1 := by
  subst h
  have hb : VB (pa o) (o :: r) := valid_VB hv (fun q hq => by simp at hq; subst hq; exact Int.le_refl _)
  exact fun c hc => ((VB_cells hb).2 c hc).1
theorem lostTo_rng {s : SS} {B lim : Int} (h : SInv s B) (hlt : s.pos < lim) : s.pos ≤ lostTo s lim ∧ lostTo s lim ≤ lim ∧ (∀ c ∈ cells s.l, lostTo s lim ≤ c.1) ∧ (lostTo s lim = s.pos → ∃ o, atC (cells s.l) s.pos = some o) := by
  unfold lostTo
  cases hl : s.l with
  | nil => exact ⟨by show s.pos ≤ lim; omega, Int.le_refl _, fun c hc => by simp [cells] at hc, fun he => by have he' : lim = s.pos := he; omega⟩
  | cons o r =>
    have h1 := valid_first h.v hl
    have hok := ((valid_pw.1 h.v).1 o (by rw [hl]; simp)).1
    obtain ⟨b, hb⟩ := first_cell hok
    have hmem : (o.1, b, o.2.2.1, o.2.2.2.1, ()) ∈ cells s.l := by rw [hl, cells_cons]; exact List.mem_append_left _ hb
    have h2 := h.rng _ hmem
    simp only at h2
    have e : pa o = o.1 := rfl
    refine ⟨by show s.pos ≤ min lim (pa o); omega, by show min lim (pa o) ≤ lim; omega, fun c hc => ?_, fun he => ?_⟩
    · have := h1 c (by rw [hl]; exact hc)
      show min lim (pa o) ≤ c.1
      omega
    · have he' : min lim (pa o) = s.pos := he
      have e2 : o.1 = s.pos := by omega
      have := atC_mem (sorted_cells h.v) hmem
      rw [show ((o.1, b, o.2.2.1, o.2.2.2.1, ()) : Cl).1 = s.pos from e2] at this
      rw [hl] at this
      exact ⟨_, this⟩
theorem lost_inv {s : SS} {B lim : Int} (h : SInv s B) (hlt : s.pos < lim) (hB : lim ≤ B) (he : s.end_ ≠ -1 → lim ≤ s.end_) : SInv { s with pos := lostTo s lim } B := by
  obtain ⟨h1, h2, h3, _⟩ := lostTo_rng h hlt
  refine ⟨by have := h.pos0; show 0 ≤ lostTo s lim; omega, by show lostTo s lim ≤ B; omega, h.win, h.pol, h.v, fun c hc => ?_, h.len, ?_, h.first⟩
  · have := h3 c hc
    have h4 := h.rng c hc
    show lostTo s lim ≤ c.1 ∧ c.1 < lostTo s lim + s.win
    omega
  · rcases h.end_ with q | ⟨q1, q2, q3⟩
    · exact .inl q
    · have := he (by have := h.pos0; omega)
      exact .inr ⟨by show lostTo s lim ≤ s.end_; omega, q2, q3⟩
theorem lost_next {s0 : SS} {B lim : Int} (hB0 : s0.pos ≤ B) (hw0 : s0.win ≤ 8192) {x : SS × Int × List UInt8} (h : LInv s0 B x) (hlt : x.1.pos < lim) (hl : lim ≤ s0.pos + s0.win) (he : s0.end_ ≠ -1 → lim ≤ s0.end_) : LInv s0 B (lostStep lim x) ∧ x.1.pos < (lostStep lim x).1.pos := by
  obtain ⟨h1, h2, h3, h4⟩ := lostTo_rng h.inv hlt
  have hi := lost_inv h.inv hlt (B := B + 8192) (by omega) (fun hh => by rw [h.end_] at hh ⊢; exact he hh)
  have ht := h.top
  have t := takeN_ok hi.v (hi := s0.pos + s0.win) (by show lostTo x.1 lim ≤ _; omega) ht.2
  have hpos : (takeN { x.1 with pos := lostTo x.1 lim }).pos = lostTo x.1 lim + ((takeF x.1.l (lostTo x.1 lim)).1.length : Int) := rfl
  have hwe := h.win
  have hinv : SInv (takeN { x.1 with pos := lostTo x.1 lim }) (B + 8192) := by
    have tle : (takeN { x.1 with pos := lostTo x.1 lim }).pos ≤ s0.pos + s0.win := t.le
    have tge : lostTo x.1 lim ≤ (takeN { x.1 with pos := lostTo x.1 lim }).pos := t.ge
    have hp0 := h.inv.pos0
    refine ⟨by omega, by omega, h.inv.win, h.inv.pol, t.v, fun c hc => ?_, ?_, ?_, h.inv.first⟩
    · obtain ⟨q1, q2⟩ := t.rng c hc
      have q3 := h.inv.rng c q2
      refine ⟨q1, ?_⟩
      show c.1 < (takeN { x.1 with pos := lostTo x.1 lim }).pos + x.1.win
      omega
    · have := cutL_len x.1.l (takeF x.1.l (lostTo x.1 lim)).2
      have h5 := h.inv.len
      show (cutL x.1.l (takeF x.1.l (lostTo x.1 lim)).2).length ≤ 64
      omega
    · rcases hi.end_ with q | ⟨q1, q2, q3⟩
      · exact .inl q
      · have t2 := takeN_ok hi.v (hi := x.1.end_) q1 q3
        exact .inr ⟨t2.le, q2, fun c hc => q3 c (t.rng c hc).2⟩
  refine ⟨⟨hinv, ⟨t.le, fun c hc => ht.2 c (t.rng c hc).2⟩, ⟨?_, ?_⟩, h.end_, h.win⟩, ?_⟩
  · have hs := h.sum.1
    show x.2.1 + (lostTo x.1 lim - x.1.pos) + ((x.2.2 ++ (takeF x.1.l (lostTo x.1 lim)).1).length : Int) = (takeN { x.1 with pos := lostTo x.1 lim }).pos - s0.pos
    rw [hpos, List.length_append]
    omega
  · have hs := h.sum.2
    show 0 ≤ x.2.1 + (lostTo x.1 lim - x.1.pos)
    omega
  · show x.1.pos < (takeN { x.1 with pos := lostTo x.1 lim }).pos
    rw [hpos]
    by_cases hq : lostTo x.1 lim = x.1.pos
    · obtain ⟨o, ho⟩ := h4 hq
      have := take_many h.inv.v (a := x.1.pos) (n := 1) (fun k hk => by
        have : k = 0 := by omega
        subst this
        have e : x.1.pos + ((0 : Nat) : Int) = x.1.pos := by omega
        rw [e, ho]; rfl)
      rw [hq]
      omega
    · omega
theorem lostL_fuel {s0 : SS} {B lim : Int} (hB0 : s0.pos ≤ B) (hw0 : s0.win ≤ 8192) (hl : lim ≤ s0.pos + s0.win) (he : s0.end_ ≠ -1 → lim ≤ s0.end_) : ∀ (n m : Nat) (x : SS × Int × List UInt8), LInv s0 B x → (lim - x.1.pos).toNat ≤ n → (lim - x.1.pos).toNat ≤ m → lostL n lim x = lostL m lim x
  | 0, 0, x, _, _, _ => rfl
  | 0, m + 1, x, h, h1, h2 => by
    simp only [lostL]
    rw [if_neg (by omega)]
  | n + 1, 0, x, h, h1, h2 => by
    simp only [lostL]
    rw [if_neg (by omega)]
  | n + 1, m + 1, x, h, h1, h2 => by
    simp only [lostL]
    split
    · rename_i hlt
      obtain ⟨k, hk⟩ := lost_next hB0 hw0 h hlt hl he
      exact lostL_fuel hB0 hw0 hl he n m _ k (by omega) (by omega)
    · rfl
/-- One round more. -/
theorem lostL_next {s0 : SS} {B lim : Int} (hB0 : s0.pos ≤ B) (hw0 : s0.win ≤ 8192) (hl : lim ≤ s0.pos + s0.win) (he : s0.end_ ≠ -1 → lim ≤ s0.end_) {x : SS × Int × List UInt8} (h : LInv s0 B x) (hlt : x.1.pos < lim) :
    lostL (lim - x.1.pos).toNat lim x = lostL (lim - (lostStep lim x).1.pos).toNat lim (lostStep lim x) := by
  obtain ⟨k, hk⟩ := lost_next hB0 hw0 h hlt hl he
  obtain ⟨n, hn⟩ : ∃ n, (lim - x.1.pos).toNat = n + 1 := ⟨(lim - x.1.pos).toNat - 1, by omega⟩
  rw [hn]
  simp only [lostL]
  rw [if_pos hlt]
  exact lostL_fuel hB0 hw0 hl he n _ _ k (by omega) (Nat.le_refl _)
theorem lostL_end {lim : Int} {x : SS × Int × List UInt8} (h : ¬ x.1.pos < lim) : lostL (lim - x.1.pos).toNat lim x = x := by
  have : (lim - x.1.pos).toNat = 0 := by omega
  rw [this]; rfl
theorem lostTo_nil {s : SS} {lim : Int} (h : ¬ (s.l.length : Int) > 0) : lostTo s lim = lim := by
  unfold lostTo
  cases hl : s.l with
  | nil => rfl
  | cons o r => rw [hl] at h; simp at h
theorem lostTo_ne {s : SS} {lim : Int} (h : (s.l.length : Int) > 0) : lostTo s lim = min lim (s.l.getD (Int.toNat 0) (Ty.dflt pT)).1 := by
  unfold lostTo
  cases hl : s.l with
  | nil => rw [hl] at h; simp at h
  | cons o r => rfl
theorem limS_ok (s : SS) (seq : Int) : limS s seq ≤ s.pos + s.win ∧ (s.end_ ≠ -1 → limS s seq ≤ s.end_) := by
  unfold limS
  split
  · exact ⟨by omega, fun _ => by omega⟩
  · rename_i h1; exact ⟨by omega, fun h2 => absurd h2 h1⟩
theorem lostS_inv {s : SS} {B : Int} (h : SInv s B) (seq : Int) : LInv s B ((lostS s seq).2, (lostS s seq).1.1, (lostS s seq).1.2) := by
  have hl := limS_ok s seq
  have hw := h.win
  have key : ∀ (n : Nat) (x : SS × Int × List UInt8), LInv s B x → LInv s B (lostL n (limS s seq) x) := by
    intro n
    induction n with
    | zero => intro x hx; exact hx
    | succ n ih =>
      intro x hx
      simp only [lostL]
      split
      · rename_i hlt
        exact ih _ (lost_next h.posB hw.2 hx hlt hl.1 hl.2).1
      · exact hx
  exact key _ _ (linv_start h)
end Go.Ov
