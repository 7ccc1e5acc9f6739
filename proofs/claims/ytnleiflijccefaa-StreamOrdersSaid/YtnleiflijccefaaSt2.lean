/- Plain words of chapter 20: what the calls keep. -/
import Derived.Test.YtnleiflijccefaaSt1
set_option linter.all false
set_option linter.unusedVariables false
set_option linter.unusedSimpArgs false
namespace Go.Ov
open Go Go.Fw

theorem insR_cells {l : List Pc} {p : Pc} {pol : Int} (hv : Valid l) (hp : ((pd p).length : Int) ≤ 2147483648) (h : (insR l p pol).2.2 = 0) : ∀ c ∈ cells (insR l p pol).1, c ∈ cells l ∨ (pa p ≤ c.1 ∧ c.1 < endP p) := by
  by_cases h1 : pd p = []
  · have e : insR l p pol = (l, 0, 0) := if_pos h1
    rw [e]; exact fun c hc => .inl hc
  by_cases h2 : rangeB p.1 pol = true
  · rw [insR_range (decide_eq_false h1) h2] at h; cases h
  have h2' : rangeB p.1 pol = false := by simpa using h2
  have hr := rangeB_f h2'
  have hs := sorted_cells hv
  have e := insR_end hv (decide_eq_false h1) h2'
  rw [e] at h ⊢
  by_cases h3 : pol = 5 ∧ ((covN l p (pd p).length : Nat) : Int) > 0
  · rw [if_pos h3] at h ⊢
    by_cases h4 : ((covN l p (pd p).length : Nat) : Int) = (pd p).length ∧ ((conN l p (pd p).length : Nat) : Int) = 0
    · rw [if_pos h4]; exact fun c hc => .inl hc
    · rw [if_neg h4] at h; cases h
  · rw [if_neg h3] at h ⊢
    split at h
    · cases h
    rename_i h5
    rw [if_neg h5]
    have hend : endP p ≤ 4294967296 := by show p.1 + ((pd p).length : Int) ≤ _; omega
    have hok := mrg_ok hv pol (by show 0 ≤ p.1; omega) hend
    intro c hc
    have hc' : c ∈ insM (cells l) pol p := by
      have : cells (J (mrg (cells l) pol (newP p) (pd p).length)) = mrg (cells l) pol (newP p) (pd p).length := cells_J _ (fun x hx => (hok x hx).2.2.2.2)
      have hc2 : c ∈ cells (J (mrg (cells l) pol (newP p) (pd p).length)) := hc
      rw [this] at hc2
      exact hc2
    rcases mem_insM hs hc' with ⟨q1, q2, _⟩ | q
    · exact .inr ⟨q1, q2⟩
    · exact .inl q
theorem segP_len {a lo hi : Int} {d : List UInt8} (h0 : a ≤ lo) (h1 : lo ≤ hi) (h2 : hi - a ≤ d.length) : ((pd (segP a lo hi d)).length : Int) = hi - lo := by
  show (((d.take (hi - a).toNat).drop (lo - a).toNat).length : Int) = _
  rw [List.length_drop, List.length_take]
  omega
structure HiOk (s : SS) (a n lo hi : Int) : Prop where
  alo : a ≤ lo
  plo : s.pos ≤ lo
  lohi : lo < hi
  hin : hi - a ≤ n
  hiw : hi ≤ s.pos + s.win
  hie : s.end_ ≠ -1 → hi ≤ s.end_
theorem hi_ok {s : SS} {a n : Int} (h : ¬ max a s.pos ≥ hiS s a n) : HiOk s a n (max a s.pos) (hiS s a n) := by
  have e : hiS s a n ≤ min (a + n) (s.pos + s.win) ∧ (s.end_ ≠ -1 → hiS s a n ≤ s.end_) := by
    unfold hiS
    split
    · exact ⟨by omega, fun _ => by omega⟩
    · rename_i h1; exact ⟨by omega, fun h2 => absurd h2 h1⟩
  exact ⟨by omega, by omega, by omega, by omega, by omega, e.2⟩
structure InsOk (s : SS) (seq : Int) (d : List UInt8) : Prop where
  good : InsGood s.l (segP (offS s seq) (max (offS s seq) s.pos) (hiS s (offS s seq) d.length) d) s.pol (insS s seq d).1 (insS s seq d).2.1
  len : (insS s seq d).1.length ≤ 64
  rng : ∀ c ∈ cells (insS s seq d).1, c ∈ cells s.l ∨ (max (offS s seq) s.pos ≤ c.1 ∧ c.1 < hiS s (offS s seq) d.length)
theorem ins_ok {s : SS} {B : Int} (h : SInv s B) {seq : Int} {d : List UInt8} (hlt : ¬ max (offS s seq) s.pos ≥ hiS s (offS s seq) d.length) (he : ¬ (insS s seq d).2.2 ≠ 0) : InsOk s seq d := by
  have ho := hi_ok hlt
  have hl := segP_len ho.alo (by have := ho.lohi; omega) ho.hin
  have hw := h.win
  have h1 := ho.plo
  have h2 := ho.hiw
  have he' : (insS s seq d).2.2 = 0 := Classical.byContradiction he
  refine ⟨insGood h.v (by omega) he', insR_small h.len, fun c hc => ?_⟩
  rcases insR_cells h.v (by omega) he' c hc with q | ⟨q1, q2⟩
  · exact .inl q
  · right
    have e : endP (segP (offS s seq) (max (offS s seq) s.pos) (hiS s (offS s seq) d.length) d) = max (offS s seq) s.pos + ((pd (segP (offS s seq) (max (offS s seq) s.pos) (hiS s (offS s seq) d.length) d)).length : Int) := rfl
    have e2 : pa (segP (offS s seq) (max (offS s seq) s.pos) (hiS s (offS s seq) d.length) d) = max (offS s seq) s.pos := rfl
    omega
theorem ins_inv {s : SS} {B : Int} (h : SInv s B) {seq : Int} {d : List UInt8} (hlt : ¬ max (offS s seq) s.pos ≥ hiS s (offS s seq) d.length) (he : ¬ (insS s seq d).2.2 ≠ 0) : SInv { s with l := (insS s seq d).1 } B := by
  have k := ins_ok h hlt he
  have ho := hi_ok hlt
  refine ⟨h.pos0, h.posB, h.win, h.pol, k.good.valid, fun c hc => ?_, k.len, ?_, h.first⟩
  · rcases k.rng c hc with q | q
    · exact h.rng c q
    · have h1 := ho.plo
      have h2 := ho.hiw
      show s.pos ≤ c.1 ∧ c.1 < s.pos + s.win
      omega
  · rcases h.end_ with q | ⟨q1, q2, q3⟩
    · exact .inl q
    · refine .inr ⟨q1, q2, fun c hc => ?_⟩
      rcases k.rng c hc with q | q
      · exact q3 c q
      · have h3 : s.end_ ≠ -1 := by have := h.pos0; omega
        have := ho.hie h3
        show c.1 < s.end_
        omega
/-- Taking at a position that is a bound of what waits. -/
structure TakeN (s : SS) (hi : Int) : Prop where
  v : Valid (takeN s).l
  le : (takeN s).pos ≤ hi
  ge : s.pos ≤ (takeN s).pos
  rng : ∀ c ∈ cells (takeN s).l, (takeN s).pos ≤ c.1 ∧ c ∈ cells s.l
  none_ : atC (cells s.l) (takeN s).pos = none
  gt : ∀ c ∈ cells (takeN s).l, (takeN s).pos < c.1
theorem takeN_ok {s : SS} {hi : Int} (hv : Valid s.l) (hp : s.pos ≤ hi) (hr : ∀ c ∈ cells s.l, c.1 < hi) : TakeN s hi := by
  have tk := takeOk hv s.pos
  have e : (takeF s.l s.pos).2 = (takeN s).pos := tk.end_
  have hle : (takeN s).pos ≤ hi := by
    show s.pos + ((takeF s.l s.pos).1.length : Int) ≤ hi
    rcases Nat.eq_zero_or_pos (takeF s.l s.pos).1.length with h0 | h0
    · omega
    · obtain ⟨o, ho, _⟩ := tk.some_ ((takeF s.l s.pos).1.length - 1) (by omega)
      have h1 := atC_some ho
      have := hr o h1.1
      omega
  have hrng : ∀ c ∈ cells (takeN s).l, (takeN s).pos ≤ c.1 ∧ c ∈ cells s.l := fun c hc => by
    have hc' : c ∈ cells (cutL s.l (takeF s.l s.pos).2) := hc
    rw [cells_cutL hv] at hc'
    obtain ⟨h1, h2⟩ := List.mem_filter.1 hc'
    simp only [decide_eq_true_eq] at h2
    exact ⟨by omega, h1⟩
  have hnone : atC (cells s.l) (takeN s).pos = none := tk.none_
  refine ⟨valid_cutL hv _, hle, by show s.pos ≤ s.pos + ((takeF s.l s.pos).1.length : Int); omega, hrng, hnone, fun c hc => ?_⟩
  obtain ⟨h1, h2⟩ := hrng c hc
  have h3 := atC_mem (sorted_cells hv) h2
  rcases Int.lt_or_eq_of_le h1 with h4 | h4
  · exact h4
  · rw [← h4, hnone] at h3; cases h3
theorem takeN_inv {s : SS} {B B' : Int} (h : SInv s B) (hB : s.pos + s.win ≤ B') (hBB : B ≤ B') : SInv (takeN s) B' := by
  have t := takeN_ok h.v (hi := s.pos + s.win) (by have := h.win; omega) (fun c hc => (h.rng c hc).2)
  refine ⟨Int.le_trans h.pos0 t.ge, Int.le_trans t.le hB, h.win, h.pol, t.v, fun c hc => ?_, ?_, ?_, h.first⟩
  · obtain ⟨h1, h2⟩ := t.rng c hc
    have h3 := h.rng c h2
    have h4 := t.ge
    exact ⟨h1, by show c.1 < (takeN s).pos + s.win; omega⟩
  · have := cutL_len s.l (takeF s.l s.pos).2
    have h2 := h.len
    show (cutL s.l (takeF s.l s.pos).2).length ≤ 64
    omega
  · rcases h.end_ with q | ⟨q1, q2, q3⟩
    · exact .inl q
    · have t2 := takeN_ok h.v (hi := s.end_) q1 q3
      exact .inr ⟨t2.le, by show s.end_ ≤ B' + 8192; omega, fun c hc => q3 c (t.rng c hc).2⟩
theorem SInv.mono {s : SS} {B B' : Int} (h : SInv s B) (hB : B ≤ B') : SInv s B' :=
  ⟨h.pos0, by have := h.posB; omega, h.win, h.pol, h.v, h.rng, h.len, h.end_.imp id (fun ⟨a, b, c⟩ => ⟨a, by omega, c⟩), h.first⟩
theorem addS_inv {s : SS} {B : Int} (h : SInv s B) (seq : Int) (d : List UInt8) : SInv (addS s seq d).2 (B + 8192) := by
  unfold addS
  split
  · exact h.mono (by omega)
  · split
    · exact h.mono (by omega)
    · rename_i h1 h2
      have hp := h.posB
      have hw := h.win
      exact takeN_inv (ins_inv h h1 h2) (by show s.pos + s.win ≤ B + 8192; omega) (by omega)
def truncP (a : Int) (o : Pc) : Pc := (pa o, (pd o).take (min ((pd o).length : Int) (a - pa o)).toNat, pf o, pt o, ())
theorem takeWhile_at {α : Type} (p : α → Bool) (d : α) : ∀ (l : List α) (i : Nat), i ≤ l.length → (∀ j, j < i → p (l.getD j d) = true) → (i = l.length ∨ p (l.getD i d) = false) → l.takeWhile p = l.take i
  | [], i, h, _, _ => by simp at h; simp [h]
  | x :: l, 0, _, _, he => by
    rcases he with h | h
    · simp at h
    · have : p x = false := h
      simp [List.takeWhile_cons, this]
  | x :: l, i + 1, h, hb, he => by
    have hx : p x = true := hb 0 (by omega)
    rw [List.takeWhile_cons, hx]
    simp only [if_true, List.take_succ_cons]
    rw [takeWhile_at p d l i (by simpa using h) (fun j hj => by simpa using hb (j + 1) (by omega)) (by simpa using he)]
theorem keptL_eq {l : List Pc} {a : Int} {i : Nat} (hi : i ≤ l.length) (h : ∀ j, j < i → pa (l.getD j (Ty.dflt pT)) < a) (he : i = l.length ∨ ¬ pa (l.getD i (Ty.dflt pT)) < a) : keptL l a = (l.take i).map (truncP a) := by
  unfold keptL
  rw [takeWhile_at _ (Ty.dflt pT) l i hi (fun j hj => decide_eq_true (h j hj)) (he.imp id (fun h => decide_eq_false h))]
  rfl
theorem map_next {α β : Type} (f : α → β) (d : α) {l : List α} {i : Nat} (h : i < l.length) : (l.take (i + 1)).map f = (l.take i).map f ++ [f (l.getD i d)] := by
  rw [take_getD d h, List.map_append]; rfl
end Go.Ov
