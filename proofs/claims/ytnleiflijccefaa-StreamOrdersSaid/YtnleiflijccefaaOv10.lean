/- Plain words of chapter 15: how many pieces; one segment after another. -/
import Derived.Test.YtnleiflijccefaaOv9
set_option linter.all false
set_option linter.unusedVariables false
set_option linter.unusedSimpArgs false
namespace Go.Ov
open Go Go.Fw

def keyC (m : List Cl) (x : Int) : Option (Int × Int) := (atC m x).map fun c => (c.2.2.1, c.2.2.2.1)
def brkB (m : List Cl) (x : Int) : Bool := decide (keyC m (x - 1) ≠ keyC m x)
theorem J_last (c : List Cl) (y : Cl) : ∃ l' q, J (c ++ [y]) = l' ++ [q] ∧ q.1 + (q.2.1.length : Int) = y.1 + 1 ∧ q.2.2.1 = y.2.2.1 ∧ q.2.2.2.1 = y.2.2.2.1 := by
  rw [J_snoc]
  rcases List.eq_nil_or_concat (J c) with h | ⟨l', q, h⟩
  · rw [h]
    exact ⟨[], one y, rfl, by simp [one], rfl, rfl⟩
  · rw [List.concat_eq_append] at h
    rw [h, joinP_snoc]
    split
    · rename_i hj
      refine ⟨l', _, rfl, ?_, rfl, rfl⟩
      simp only [List.length_append, one] at hj ⊢
      simp only [List.map_cons, List.map_nil, List.length_singleton]
      omega
    · exact ⟨l' ++ [q], one y, by simp, by simp [one], rfl, rfl⟩
theorem sorted_last {c : List Cl} {x : Cl} (h : Sorted (c ++ [x])) : Sorted c ∧ ∀ y ∈ c, y.1 < x.1 := by
  obtain ⟨h1, _, h3⟩ := List.pairwise_append.1 h
  exact ⟨h1, fun y hy => h3 y hy x (by simp)⟩
theorem J_cnt : ∀ (n : Nat) (m : List Cl), m.length = n → Sorted m → ∀ lo hi : Int, (∀ x ∈ m, lo ≤ x.1 ∧ x.1 < hi) → (J m).length ≤ cnt (brkB m) lo hi
  | 0, m, hn, _, lo, hi, _ => by
    have : m = [] := List.length_eq_zero_iff.1 hn
    subst this
    exact Nat.zero_le _
  | n + 1, m, hn, hs, lo, hi, h => by
    rcases List.eq_nil_or_concat m with rfl | ⟨c, x, rfl⟩
    · exact Nat.zero_le _
    rw [List.concat_eq_append] at *
    obtain ⟨hsc, hlt⟩ := sorted_last hs
    have hx := h x (by simp)
    have ih := J_cnt n c (by simp at hn; omega) hsc lo x.1 (fun y hy => ⟨(h y (by simp [hy])).1, hlt y hy⟩)
    have hk : ∀ y, y < x.1 → keyC (c ++ [x]) y = keyC c y := fun y hy => by
      unfold keyC
      rw [atC_append]
      have : atC [x] y = none := atC_none (fun z hz => by simp only [List.mem_singleton] at hz; subst hz; omega)
      rw [this]; simp
    have hkx : keyC (c ++ [x]) x.1 = some (x.2.2.1, x.2.2.2.1) := by
      unfold keyC
      rw [atC_mem hs (by simp)]; rfl
    have e1 : cnt (brkB (c ++ [x])) lo x.1 = cnt (brkB c) lo x.1 := cnt_congr (fun y h1 h2 => by unfold brkB; rw [hk y h2, hk (y - 1) (by omega)])
    have e2 := cnt_add (brkB (c ++ [x])) (a := lo) (b := x.1) (c := hi) hx.1 (by omega)
    have e3 := cnt_add (brkB (c ++ [x])) (a := x.1) (b := x.1 + 1) (c := hi) (by omega) (by omega)
    have e4 := cnt_one (brkB (c ++ [x])) x.1
    have hlen : ∀ (l : List Pc) (p : Pc), (joinP l p).length ≤ l.length + 1 := by
      intro l p
      rcases List.eq_nil_or_concat l with rfl | ⟨l', q, hl'⟩
      · simp [joinP]
      · rw [List.concat_eq_append] at hl'
        subst hl'
        rw [joinP_snoc]
        split <;> simp
    rw [J_snoc]
    by_cases hb : brkB (c ++ [x]) x.1 = true
    · rw [hb] at e4
      have := hlen (J c) (one x)
      simp at e4
      omega
    · have hb' : keyC (c ++ [x]) (x.1 - 1) = keyC (c ++ [x]) x.1 := by
        unfold brkB at hb
        simpa using hb
      rw [hkx, hk _ (by omega)] at hb'
      unfold keyC at hb'
      cases hy : atC c (x.1 - 1) with
      | none => rw [hy] at hb'; cases hb'
      | some y =>
        rw [hy] at hb'
        simp only [Option.map_some, Option.some.injEq, Prod.mk.injEq] at hb'
        obtain ⟨hy1, hy2⟩ := atC_some hy
        rcases List.eq_nil_or_concat c with rfl | ⟨c', z, rfl⟩
        · simp at hy1
        rw [List.concat_eq_append] at *
        obtain ⟨hsc', hlt'⟩ := sorted_last hsc
        have hz := hlt z (by simp)
        have hyz : y = z := by
          rcases List.mem_append.1 hy1 with h5 | h5
          · have := hlt' y h5; omega
          · simpa using h5
        subst hyz
        obtain ⟨l', q, hq, q1, q2, q3⟩ := J_last c' y
        have : (joinP (J (c' ++ [y])) (one x)).length = (J (c' ++ [y])).length := by
          rw [hq, joinP_snoc, if_pos ⟨by show q.1 + (q.2.1.length : Int) = x.1; omega, by show q.2.2.1 = x.2.2.1; rw [q2]; exact hb'.1, by show q.2.2.2.1 = x.2.2.2.1; rw [q3]; exact hb'.2⟩]
          simp
        omega
theorem cnt_two {f g : Int → Bool} (a b : Int) (h : ∀ x, g x = true → f x = true ∨ x = a ∨ x = b) (lo : Int) : ∀ n : Nat,
    cnt g lo (lo + n) ≤ cnt f lo (lo + n) + (if lo ≤ a ∧ a < lo + n then 1 else 0) + (if lo ≤ b ∧ b < lo + n then 1 else 0)
  | 0 => by
    have : lo + ((0 : Nat) : Int) = lo := by omega
    rw [this, cnt_self]
    omega
  | n + 1 => by
    have ih := cnt_two a b h lo n
    rw [cnt_succ, cnt_succ]
    have e : ∀ z : Int, (if lo ≤ z ∧ z < lo + ((n + 1 : Nat) : Int) then 1 else 0) = (if lo ≤ z ∧ z < lo + (n : Int) then 1 else 0) + (if z = lo + (n : Int) then 1 else 0) := by
      intro z
      by_cases h1 : z = lo + (n : Int)
      · rw [if_pos h1, if_pos (by omega), if_neg (by omega)]
      · rw [if_neg h1]
        by_cases h2 : lo ≤ z ∧ z < lo + (n : Int)
        · rw [if_pos h2, if_pos (by omega)]
        · rw [if_neg h2, if_neg (by omega)]
    rw [e a, e b]
    have hg := h (lo + n)
    cases hgv : g (lo + n) with
    | false => simp; omega
    | true =>
      rcases hg hgv with h1 | h1 | h1
      · rw [h1]; simp; omega
      · rw [if_pos h1.symm]; simp; omega
      · rw [if_pos h1.symm]; simp; omega
theorem atC_mrgk {c : List Cl} (hs : Sorted c) (pol : Int) (P : Pc) (k : Nat) (a : Int) : atC (mrg c pol P k) a = if P.1 ≤ a ∧ a < P.1 + k then some (pick c pol P a) else atC c a := by
  have h1 : atC (lo c P) a = if decide (a < P.1) then atC c a else none := atC_filter hs (fun b => decide (b < P.1)) a
  have h2 : atC (hi_ c P (k : Int)) a = if decide (P.1 + (k : Int) ≤ a) then atC c a else none := atC_filter hs (fun b => decide (P.1 + (k : Int) ≤ b)) a
  rw [mrg, atC_append, atC_append, h1, h2, atC_mid]
  by_cases h3 : a < P.1
  · have e1 : ¬(P.1 ≤ a ∧ a < P.1 + (k : Int)) := by omega
    have e2 : ¬(P.1 + (k : Int) ≤ a) := by omega
    simp [h3, e1, e2]
  · by_cases h4 : a < P.1 + k
    · have e1 : P.1 ≤ a ∧ a < P.1 + (k : Int) := by omega
      simp [h3, e1.1, e1.2]
    · have e1 : ¬(P.1 ≤ a ∧ a < P.1 + (k : Int)) := by omega
      have e2 : P.1 + (k : Int) ≤ a := by omega
      rw [if_neg e1]
      simp [h3, e2]
      omega
/-- The cells behind a further segment. -/
def insM (m : List Cl) (pol : Int) (p : Pc) : List Cl := mrg m pol (newP p) (pd p).length
theorem atC_insM {m : List Cl} (hs : Sorted m) (pol : Int) (p : Pc) (a : Int) : atC (insM m pol p) a = if pa p ≤ a ∧ a < endP p then some (pick m pol (newP p) a) else atC m a := atC_mrgk hs pol (newP p) (pd p).length a
theorem pick_key (m : List Cl) (pol : Int) (P : Pc) (a b : Int) (h : keyC m a = keyC m b) : keyC m a = keyC m b ∧ ((pick m pol P a).2.2.1, (pick m pol P a).2.2.2.1) = ((pick m pol P b).2.2.1, (pick m pol P b).2.2.2.1) := by
  refine ⟨h, ?_⟩
  unfold keyC at h
  unfold pick
  cases ha : atC m a with
  | none =>
    rw [ha] at h
    cases hb : atC m b with
    | none => rfl
    | some y => rw [hb] at h; cases h
  | some x =>
    rw [ha] at h
    cases hb : atC m b with
    | none => rw [hb] at h; cases h
    | some y =>
      rw [hb] at h
      simp only [Option.map_some, Option.some.injEq, Prod.mk.injEq] at h
      simp only [h.1, h.2]
      split
      · rfl
      · simp [h.1, h.2]
theorem brk_insM {m : List Cl} (hs : Sorted m) (pol : Int) (p : Pc) : ∀ x, brkB (insM m pol p) x = true → brkB m x = true ∨ x = pa p ∨ x = endP p := by
  intro x h
  by_cases h1 : x = pa p
  · exact .inr (.inl h1)
  by_cases h2 : x = endP p
  · exact .inr (.inr h2)
  left
  unfold brkB at h ⊢
  simp only [ne_eq, decide_eq_true_eq] at h ⊢
  intro hk
  apply h
  unfold keyC
  rw [atC_insM hs, atC_insM hs]
  by_cases h3 : pa p ≤ x ∧ x < endP p
  · rw [if_pos h3, if_pos (by omega)]
    exact congrArg some (pick_key m pol (newP p) (x - 1) x hk).2
  · rw [if_neg h3, if_neg (by omega)]
    exact hk
structure MG (m : List Cl) (n : Nat) : Prop where
  s : Sorted m
  ok : ∀ c ∈ m, CellOk c
  rng : ∀ c ∈ m, 0 ≤ c.1 ∧ c.1 < 200
  brk : cnt (brkB m) 0 300 ≤ n
theorem mg_nil : MG [] 0 := ⟨List.Pairwise.nil, fun c h => by simp at h, fun c h => by simp at h, by rw [cnt_false (f := brkB []) (fun x _ _ => rfl)]; exact Nat.le_refl _⟩
theorem MG.valid {m : List Cl} {n : Nat} (h : MG m n) : Valid (J m) := valid_J h.s h.ok
theorem MG.cells {m : List Cl} {n : Nat} (h : MG m n) : cells (J m) = m := cells_J m (fun x hx => (h.ok x hx).2.2.2.2)
theorem MG.len {m : List Cl} {n : Nat} (h : MG m n) : (J m).length ≤ n := Nat.le_trans (J_cnt m.length m rfl h.s 0 300 (fun x hx => by have := h.rng x hx; omega)) h.brk
theorem mem_insM {m : List Cl} (hs : Sorted m) {pol : Int} {p : Pc} {c : Cl} (h : c ∈ insM m pol p) : (pa p ≤ c.1 ∧ c.1 < endP p ∧ c = pick m pol (newP p) c.1) ∨ c ∈ m := by
  have h1 := atC_mem (sorted_mrg hs pol (newP p) (pd p).length) h
  have h2 := atC_insM hs pol p c.1
  rw [show insM m pol p = mrg m pol (newP p) (pd p).length from rfl, h1] at h2
  split at h2
  · rename_i h3
    simp only [Option.some.injEq] at h2
    exact .inl ⟨h3.1, h3.2, h2⟩
  · exact .inr (atC_some h2.symm).1
/-- A segment within the first 200 offsets. -/
def Seg (p : Pc) : Prop := 0 ≤ pa p ∧ pa p ≤ 150 ∧ (pd p).length ≤ 50
theorem MG.next {m : List Cl} {n : Nat} (h : MG m n) (pol : Int) {p : Pc} (hp : Seg p) : MG (insM m pol p) (n + 2) := by
  obtain ⟨p0, p1, p2⟩ := hp
  have hend : endP p = pa p + (pd p).length := rfl
  refine ⟨sorted_mrg h.s pol (newP p) _, fun c hc => ?_, fun c hc => ?_, ?_⟩
  · rcases mem_insM h.s hc with ⟨h1, h2, h3⟩ | h1
    · rw [h3, pick]
      have hn : CellOk (newC (newP p) c.1) := by
        have := bt_in (newP p).2.1 (c.1 - (newP p).1)
        exact ⟨p0, h1, h2, by show endP p ≤ _; omega, this.1, this.2⟩
      cases ho : atC m c.1 with
      | none => exact hn
      | some o =>
        simp only
        split
        · exact hn
        · exact h.ok o (atC_some ho).1
    · exact h.ok c h1
  · rcases mem_insM h.s hc with ⟨h1, h2, h3⟩ | h1
    · omega
    · exact h.rng c h1
  · have := cnt_two (pa p) (endP p) (brk_insM h.s pol p) 0 300
    have e : (0 : Int) + ((300 : Nat) : Int) = 300 := rfl
    rw [e] at this
    have h3 := h.brk
    have h4 : (if (0 : Int) ≤ pa p ∧ pa p < 300 then 1 else 0) ≤ 1 := by split <;> omega
    have h5 : (if (0 : Int) ≤ endP p ∧ endP p < 300 then 1 else 0) ≤ 1 := by split <;> omega
    omega
def conS (m : List Cl) (p : Pc) : Nat := cnt (cfB m (newP p)) (pa p) (endP p)
/-- One segment into a buffer of few pieces. -/
theorem insR_step {m : List Cl} {n : Nat} (h : MG m n) (hn : n ≤ 60) {pol : Int} (h1 : 1 ≤ pol) (h4 : pol ≤ 4) {p : Pc} (hp : Seg p) : insR (J m) p pol = (J (insM m pol p), ((conS m p : Nat) : Int), 0) := by
  by_cases he : pd p = []
  · have e1 : insR (J m) p pol = (J m, 0, 0) := if_pos he
    have e2 : insM m pol p = m := by unfold insM; rw [he]; exact mrg_zero h.s pol (newP p)
    have e3 : conS m p = 0 := by
      unfold conS endP
      rw [he]
      have : pa p + (([] : List UInt8).length : Int) = pa p := by simp
      rw [this, cnt_self]
    rw [e1, e2, e3]
    rfl
  · obtain ⟨p0, p1, p2⟩ := hp
    have hr : rangeB p.1 pol = false := by
      have e0 : pa p = p.1 := rfl
      simp only [rangeB, Bool.if_true_left, Bool.decide_eq_true, Bool.or_eq_false_iff, decide_eq_false_iff_not]
      omega
    have hl := (h.next pol ⟨p0, p1, p2⟩).len
    rw [insR_end h.valid (decide_eq_false he) hr, h.cells, if_neg (by omega), if_neg (by show ¬ (J (insM m pol p)).length > 64; omega)]
    refine Prod.ext rfl (Prod.ext ?_ rfl)
    show ((conN (J m) p (pd p).length : Nat) : Int) = ((conS m p : Nat) : Int)
    unfold conN conS
    rw [h.cells]
    rfl
end Go.Ov
