import Derived.Test.YtchiagnggnblaaaDoorGOv2
set_option linter.all false
/- Plain words of chapter 15: how many pieces; one segment after another. -/
namespace Go.Ov
open Go Go.Fw

def keyC (m : List Cl) (x : Int) : Option (Int × Int) := (atC m x).map fun c => (c.2.2.1, c.2.2.2.1)
def brkB (m : List Cl) (x : Int) : Bool := decide (keyC m (x - 1) ≠ keyC m x)
theorem J_last (c : List Cl) (y : Cl) : ∃ l' q, J (c ++ [y]) = l' ++ [q] ∧ q.1 + (q.2.1.length : Int) = y.1 + 1 ∧ q.2.2.1 = y.2.2.1 ∧ q.2.2.2.1 = y.2.2.2.1 := by
  rw [J_snoc]
  rcases List.eq_nil_or_concat (J c) with h | ⟨l', q, h⟩
  · rw [h]
    exact ⟨[], one y, rfl, by simp [one], rfl, rfl⟩
  · rw [List.concat_eq_append] at h
    rw [h, joinP_snoc]
    split
    · rename_i hj
      refine ⟨l', _, rfl, ?_, rfl, rfl⟩
      simp only [List.length_append, one] at hj ⊢
      simp only [List.map_cons, List.map_nil, List.length_singleton]
      omega
    · exact ⟨l' ++ [q], one y, by simp, by simp [one], rfl, rfl⟩
theorem sorted_last {c : List Cl} {x : Cl} (h : Sorted (c ++ [x])) : Sorted c ∧ ∀ y ∈ c, y.1 < x.1 := by
  obtain ⟨h1, _, h3⟩ := List.pairwise_append.1 h
  exact ⟨h1, fun y hy => h3 y hy x (by simp)⟩
theorem J_cnt : ∀ (n : Nat) (m : List Cl), m.length = n → Sorted m → ∀ lo hi : Int, (∀ x ∈ m, lo ≤ x.1 ∧ x.1 < hi) → (J m).length ≤ cnt (brkB m) lo hi
  | 0, m, hn, _, lo, hi, _ => by
    have : m = [] := List.length_eq_zero_iff.1 hn
    subst this
    exact Nat.zero_le _
  | n + 1, m, hn, hs, lo, hi, h => by
    rcases List.eq_nil_or_concat m with rfl | ⟨c, x, rfl⟩
    · exact Nat.zero_le _
    rw [List.concat_eq_append] at *
    obtain ⟨hsc, hlt⟩ := sorted_last hs
    have hx := h x (by simp)
    have ih := J_cnt n c (by simp at hn; omega) hsc lo x.1 (fun y hy => ⟨(h y (by simp [hy])).1, hlt y hy⟩)
    have hk : ∀ y, y < x.1 → keyC (c ++ [x]) y = keyC c y := fun y hy => by
      unfold keyC
      rw [atC_append]
      have : atC [x] y = none := atC_none (fun z hz => by simp only [List.mem_singleton] at hz; subst hz; omega)
      rw [this]; simp
    have hkx : keyC (c ++ [x]) x.1 = some (x.2.2.1, x.2.2.2.1) := by
      unfold keyC
      rw [atC_mem hs (by simp)]; rfl
    have e1 : cnt (brkB (c ++ [x])) lo x.1 = cnt (brkB c) lo x.1 := cnt_congr (fun y h1 h2 => by unfold brkB; rw [hk y h2, hk (y - 1) (by omega)])
    have e2 := cnt_add (brkB (c ++ [x])) (a := lo) (b := x.1) (c := hi) hx.1 (by omega)
    have e3 := cnt_add (brkB (c ++ [x])) (a := x.1) (b := x.1 + 1) (c := hi) (by omega) (by omega)
    have e4 := cnt_one (brkB (c ++ [x])) x.1
    have hlen : ∀ (l : List Pc) (p : Pc), (joinP l p).length ≤ l.length + 1 := by
      intro l p
      rcases List.eq_nil_or_concat l with rfl | ⟨l', q, hl'⟩
      · simp [joinP]
      · rw [List.concat_eq_append] at hl'
        subst hl'
        rw [joinP_snoc]
        split <;> simp
    rw [J_snoc]
    by_cases hb : brkB (c ++ [x]) x.1 = true
    · rw [hb] at e4
      have := hlen (J c) (one x)
      simp at e4
      omega
    · have hb' : keyC (c ++ [x]) (x.1 - 1) = keyC (c ++ [x]) x.1 := by
        unfold brkB at hb
        simpa using hb
      rw [hkx, hk _ (by omega)] at hb'
      unfold keyC at hb'
      cases hy : atC c (x.1 - 1) with
      | none => rw [hy] at hb'; cases hb'
      | some y =>
        rw [hy] at hb'
        simp only [Option.map_some, Option.some.injEq, Prod.mk.injEq] at hb'
        obtain ⟨hy1, hy2⟩ := atC_some hy
        rcases List.eq_nil_or_concat c with rfl | ⟨c', z, rfl⟩
        · simp at hy1
        rw [List.concat_eq_append] at *
        obtain ⟨hsc', hlt'⟩ := sorted_last hsc
        have hz := hlt z (by simp)
        have hyz : y = z := by
          rcases List.mem_append.1 hy1 with h5 | h5
          · have := hlt' y h5; omega
          · simpa using h5
        subst hyz
        obtain ⟨l', q, hq, q1, q2, q3⟩ := J_last c' y
        have : (joinP (J (c' ++ [y])) (one x)).length = (J (c' ++ [y])).length := by
          rw [hq, joinP_snoc, if_pos ⟨by show q.1 + (q.2.1.length : Int) = x.1; omega, by show q.2.2.1 = x.2.2.1; rw [q2]; exact hb'.1, by show q.2.2.2.1 = x.2.2.2.1; rw [q3]; exact hb'.2⟩]
          simp
        omega
theorem cnt_two {f g : Int → Bool} (a b : Int) (h : ∀ x, g x = true → f x = true ∨ x = a ∨ x = b) (lo : Int) : ∀ n : Nat,
    cnt g lo (lo + n) ≤ cnt f lo (lo + n) + (if lo ≤ a ∧ a < lo + n then 1 else 0) + (if lo ≤ b ∧ b < lo + n then 1 else 0)
  | 0 => by
    have : lo + ((0 : Nat) : Int) = lo := by omega
    rw [this, cnt_self]
    omega
  | n + 1 => by
    have ih := cnt_two a b h lo n
    rw [cnt_succ, cnt_succ]
    have e : ∀ z : Int, (if lo ≤ z ∧ z < lo + ((n + 1 : Nat) : Int) then 1 else 0) = (if lo ≤ z ∧ z < lo + (n : Int) then 1 else 0) + (if z = lo + (n : Int) then 1 else 0) := by
      intro z
      by_cases h1 : z = lo + (n : Int)
      · rw [if_pos h1, if_pos (by omega), if_neg (by omega)]
      · rw [if_neg h1]
        by_cases h2 : lo ≤ z ∧ z < lo + (n : Int)
        · rw [if_pos h2, if_pos (by omega)]
        · rw [if_neg h2, if_neg (by omega)]
    rw [e a, e b]
    have hg := h (lo + n)
    cases hgv : g (lo + n) with
    | false => simp; omega
    | true =>
      rcases hg hgv with h1 | h1 | h1
      · rw [h1]; simp; omega
      · rw [if_pos h1.symm]; simp; omega
      · rw [if_pos h1.symm]; simp; omega
theorem atC_mrgk {c : List Cl} (hs : Sorted c) (pol : Int) (P : Pc) (k : Nat) (a : Int) : atC (mrg c pol P k) a = if P.1 ≤ a ∧ a < P.1 + k then some (pick c pol P a) else atC c a := by
  have h1 : atC (lo c P) a = if decide (a < P.1) then atC c a else none := atC_filter hs (fun b => decide (b < P.1)) a
  have h2 : atC (hi_ c P (k : Int)) a = if decide (P.1 + (k : Int) ≤ a) then atC c a else none := atC_filter hs (fun b => decide (P.1 + (k : Int) ≤ b)) a
  rw [mrg, atC_append, atC_append, h1, h2, atC_mid]
  by_cases h3 : a < P.1
  · have e1 : ¬(P.1 ≤ a ∧ a < P.1 + (k : Int)) := by omega
    have e2 : ¬(P.1 + (k : Int) ≤ a) := by omega
    simp [h3, e1, e2]
  · by_cases h4 : a < P.1 + k
    · have e1 : P.1 ≤ a ∧ a < P.1 + (k : Int) := by omega
      simp [h3, e1.1, e1.2]
    · have e1 : ¬(P.1 ≤ a ∧ a < P.1 + (k : Int)) := by omega
      have e2 : P.1 + (k : Int) ≤ a := by omega
      rw [if_neg e1]
      simp [h3, e2]
      omega
/-- The cells behind a further segment. -/
def insM (m : List Cl) (pol : Int) (p : Pc) : List Cl := mrg m pol (newP p) (pd p).length
theorem atC_insM {m : List Cl} (hs : Sorted m) (pol : Int) (p : Pc) (a : Int) : atC (insM m pol p) a = if pa p ≤ a ∧ a < endP p then some (pick m pol (newP p) a) else atC m a := atC_mrgk hs pol (newP p) (pd p).length a
theorem pick_key (m : List Cl) (pol : Int) (P : Pc) (a b : Int) (h : keyC m a = keyC m b) : keyC m a = keyC m b ∧ ((pick m pol P a).2.2.1, (pick m pol P a).2.2.2.1) = ((pick m pol P b).2.2.1, (pick m pol P b).2.2.2.1) := by
  refine ⟨h, ?_⟩
  unfold keyC at h
  unfold pick
  cases ha : atC m a with
  | none =>
    rw [ha] at h
    cases hb : atC m b with
    | none => rfl
    | some y => rw [hb] at h; cases h
  | some x =>
    rw [ha] at h
    cases hb : atC m b with
    | none => rw [hb] at h; cases h
    | some y =>
      rw [hb] at h
      simp only [Option.map_some, Option.some.injEq, Prod.mk.injEq] at h
      simp only [h.1, h.2]
      split
      · rfl
      · simp [h.1, h.2]
theorem brk_insM {m : List Cl} (hs : Sorted m) (pol : Int) (p : Pc) : ∀ x, brkB (insM m pol p) x = true → brkB m x = true ∨ x = pa p ∨ x = endP p := by
  intro x h
  by_cases h1 : x = pa p
  · exact .inr (.inl h1)
  by_cases h2 : x = endP p
  · exact .inr (.inr h2)
  left
  unfold brkB at h ⊢
  simp only [ne_eq, decide_eq_true_eq] at h ⊢
  intro hk
  apply h
  unfold keyC
  rw [atC_insM hs, atC_insM hs]
  by_cases h3 : pa p ≤ x ∧ x < endP p
  · rw [if_pos h3, if_pos (by omega)]
    exact congrArg some (pick_key m pol (newP p) (x - 1) x hk).2
  · rw [if_neg h3, if_neg (by omega)]
    exact hk
structure MG (m : List Cl) (n : Nat) : Prop where
  s : Sorted m
  ok : ∀ c ∈ m, CellOk c
  rng : ∀ c ∈ m, 0 ≤ c.1 ∧ c.1 < 200
  brk : cnt (brkB m) 0 300 ≤ n
theorem mg_nil : MG [] 0 := ⟨List.Pairwise.nil, fun c h => by simp at h, fun c h => by simp at h, by rw [cnt_false (f := brkB []) (fun x _ _ => rfl)]; exact Nat.le_refl _⟩
theorem MG.valid {m : List Cl} {n : Nat} (h : MG m n) : Valid (J m) := valid_J h.s h.ok
theorem MG.cells {m : List Cl} {n : Nat} (h : MG m n) : cells (J m) = m := cells_J m (fun x hx => (h.ok x hx).2.2.2.2)
theorem MG.len {m : List Cl} {n : Nat} (h : MG m n) : (J m).length ≤ n := Nat.le_trans (J_cnt m.length m rfl h.s 0 300 (fun x hx => by have := h.rng x hx; omega)) h.brk
theorem mem_insM {m : List Cl} (hs : Sorted m) {pol : Int} {p : Pc} {c : Cl} (h : c ∈ insM m pol p) : (pa p ≤ c.1 ∧ c.1 < endP p ∧ c = pick m pol (newP p) c.1) ∨ c ∈ m := by
  have h1 := atC_mem (sorted_mrg hs pol (newP p) (pd p).length) h
  have h2 := atC_insM hs pol p c.1
  rw [show insM m pol p = mrg m pol (newP p) (pd p).length from rfl, h1] at h2
  split at h2
  · rename_i h3
    simp only [Option.some.injEq] at h2
    exact .inl ⟨h3.1, h3.2, h2⟩
  · exact .inr (atC_some h2.symm).1
/-- A segment within the first 200 offsets. -/
def Seg (p : Pc) : Prop := 0 ≤ pa p ∧ pa p ≤ 150 ∧ (pd p).length ≤ 50
theorem MG.next {m : List Cl} {n : Nat} (h : MG m n) (pol : Int) {p : Pc} (hp : Seg p) : MG (insM m pol p) (n + 2) := by
  obtain ⟨p0, p1, p2⟩ := hp
  have hend : endP p = pa p + (pd p).length := rfl
  refine ⟨sorted_mrg h.s pol (newP p) _, fun c hc => ?_, fun c hc => ?_, ?_⟩
  · rcases mem_insM h.s hc with ⟨h1, h2, h3⟩ | h1
    · rw [h3, pick]
      have hn : CellOk (newC (newP p) c.1) := by
        have := bt_in (newP p).2.1 (c.1 - (newP p).1)
        exact ⟨p0, h1, h2, by show endP p ≤ _; omega, this.1, this.2⟩
      cases ho : atC m c.1 with
      | none => exact hn
      | some o =>
        simp only
        split
        · exact hn
        · exact h.ok o (atC_some ho).1
    · exact h.ok c h1
  · rcases mem_insM h.s hc with ⟨h1, h2, h3⟩ | h1
    · omega
    · exact h.rng c h1
  · have := cnt_two (pa p) (endP p) (brk_insM h.s pol p) 0 300
    have e : (0 : Int) + ((300 : Nat) : Int) = 300 := rfl
    rw [e] at this
    have h3 := h.brk
    have h4 : (if (0 : Int) ≤ pa p ∧ pa p < 300 then 1 else 0) ≤ 1 := by split <;> omega
    have h5 : (if (0 : Int) ≤ endP p ∧ endP p < 300 then 1 else 0) ≤ 1 := by split <;> omega
    omega
def conS (m : List Cl) (p : Pc) : Nat := cnt (cfB m (newP p)) (pa p) (endP p)
/-- One segment into a buffer of few pieces. -/
theorem insR_step {m : List Cl} {n : Nat} (h : MG m n) (hn : n ≤ 60) {pol : Int} (h1 : 1 ≤ pol) (h4 : pol ≤ 4) {p : Pc} (hp : Seg p) : insR (J m) p pol = (J (insM m pol p), ((conS m p : Nat) : Int), 0) := by
  by_cases he : pd p = []
  · have e1 : insR (J m) p pol = (J m, 0, 0) := if_pos he
    have e2 : insM m pol p = m := by unfold insM; rw [he]; exact mrg_zero h.s pol (newP p)
    have e3 : conS m p = 0 := by
      unfold conS endP
      rw [he]
      have : pa p + (([] : List UInt8).length : Int) = pa p := by simp
      rw [this, cnt_self]
    rw [e1, e2, e3]
    rfl
  · obtain ⟨p0, p1, p2⟩ := hp
    have hr : rangeB p.1 pol = false := by
      have e0 : pa p = p.1 := rfl
      simp only [rangeB, Bool.if_true_left, Bool.decide_eq_true, Bool.or_eq_false_iff, decide_eq_false_iff_not]
      omega
    have hl := (h.next pol ⟨p0, p1, p2⟩).len
    rw [insR_end h.valid (decide_eq_false he) hr, h.cells, if_neg (by omega), if_neg (by show ¬ (J (insM m pol p)).length > 64; omega)]
    refine Prod.ext rfl (Prod.ext ?_ rfl)
    show ((conN (J m) p (pd p).length : Nat) : Int) = ((conS m p : Nat) : Int)
    unfold conN conS
    rw [h.cells]
    rfl
end Go.Ov

/- Plain words of chapter 15: two segments in either order. -/
namespace Go.Ov
open Go Go.Fw

def duo (pol : Int) (a b : Pc) : List Cl := insM (insM [] pol a) pol b
theorem mg_duo (pol : Int) {a b : Pc} (ha : Seg a) (hb : Seg b) : MG (insM [] pol a) 2 ∧ MG (duo pol a b) 4 := ⟨mg_nil.next pol ha, (mg_nil.next pol ha).next pol hb⟩
def inR (p : Pc) (x : Int) : Prop := pa p ≤ x ∧ x < endP p
instance (p : Pc) (x : Int) : Decidable (inR p x) := by unfold inR; exact inferInstance
theorem duo_at (pol : Int) {a b : Pc} (ha : Seg a) (x : Int) : (atC (duo pol a b) x).map (·.2.1) =
    if inR b x then (if inR a x then (if winF pol (pa a) (endP a) (pa b) (endP b) = true then some (bt (pd b) (x - pa b)) else some (bt (pd a) (x - pa a))) else some (bt (pd b) (x - pa b)))
    else if inR a x then some (bt (pd a) (x - pa a)) else none := by
  have h1 : ∀ y, atC (insM [] pol a) y = if inR a y then some (newC (newP a) y) else none := by
    intro y
    rw [atC_insM List.Pairwise.nil]
    rfl
  unfold duo
  rw [atC_insM (mg_nil.next pol ha).s]
  by_cases hb : inR b x
  · rw [if_pos hb, if_pos (show pa b ≤ x ∧ x < endP b from hb), pick, h1]
    by_cases hx : inR a x
    · rw [if_pos hx, if_pos hx]
      simp only
      by_cases hw : winF pol (pa a) (endP a) (pa b) (endP b) = true
      · rw [if_pos hw, if_pos (show winF pol (newC (newP a) x).2.2.1 (newC (newP a) x).2.2.2.1 (newP b).2.2.1 (newP b).2.2.2.1 = true from hw)]
        rfl
      · rw [if_neg hw, if_neg (show ¬ winF pol (newC (newP a) x).2.2.1 (newC (newP a) x).2.2.2.1 (newP b).2.2.1 (newP b).2.2.2.1 = true from hw)]
        rfl
    · rw [if_neg hx, if_neg hx]
      rfl
  · rw [if_neg hb, if_neg (show ¬ (pa b ≤ x ∧ x < endP b) from hb), h1]
    by_cases hx : inR a x
    · rw [if_pos hx, if_pos hx]; rfl
    · rw [if_neg hx, if_neg hx]; rfl
theorem duo_first (p q : Pc) (hp : Seg p) (hq : Seg q) (a : Int) : takeF (J (duo 1 p q)) a = takeF (J (duo 2 q p)) a := by
  refine takeF_ext (mg_duo 1 hp hq).2.valid (mg_duo 2 hq hp).2.valid (fun x _ => ?_)
  rw [(mg_duo 1 hp hq).2.cells, (mg_duo 2 hq hp).2.cells, duo_at 1 hp, duo_at 2 hq]
  have w1 : winF 1 (pa p) (endP p) (pa q) (endP q) = false := rfl
  have w2 : winF 2 (pa q) (endP q) (pa p) (endP p) = true := rfl
  rw [w1, w2]
  by_cases h1 : inR p x <;> by_cases h2 : inR q x <;> simp [h1, h2]
theorem duo_bsd (p q : Pc) (hp : Seg p) (hq : Seg q) (h : pa p ≠ pa q) (a : Int) : takeF (J (duo 3 p q)) a = takeF (J (duo 3 q p)) a := by
  refine takeF_ext (mg_duo 3 hp hq).2.valid (mg_duo 3 hq hp).2.valid (fun x _ => ?_)
  rw [(mg_duo 3 hp hq).2.cells, (mg_duo 3 hq hp).2.cells, duo_at 3 hp, duo_at 3 hq]
  have w1 : winF 3 (pa p) (endP p) (pa q) (endP q) = decide (pa q < pa p) := rfl
  have w2 : winF 3 (pa q) (endP q) (pa p) (endP p) = decide (pa p < pa q) := rfl
  rw [w1, w2]
  by_cases h1 : inR p x <;> by_cases h2 : inR q x <;> simp [h1, h2]
  by_cases h3 : pa p < pa q
  · have h4 : ¬ pa q < pa p := by omega
    simp [h3, h4]
  · have h4 : pa q < pa p := by omega
    simp [h3, h4]
/-- What the statement within asks. -/
instance (p : Pc) : Decidable (Seg p) := by unfold Seg; exact inferInstance
def withinR (l : List Pc) : Bool := (l.take 13).all (fun p => decide (Seg p)) && decide ((l.length : Int) ≤ 12)
theorem within_of {l : List Pc} (h : withinR l = true) : l.length ≤ 12 ∧ ∀ p ∈ l, Seg p := by
  simp only [withinR, Bool.and_eq_true, decide_eq_true_eq, List.all_eq_true] at h
  refine ⟨by omega, fun p hp => h.1 p ?_⟩
  rw [List.take_of_length_le (by omega)]
  exact hp
theorem within_no {l : List Pc} {i : Nat} (h1 : i < l.length) (h2 : i < 13) (h : ¬ Seg (l.getD i (Ty.dflt pT))) : withinR l = false := by
  cases hw : withinR l with
  | false => rfl
  | true => exact absurd ((within_of hw).2 _ (getD_mem h1)) h
theorem within_end {l : List Pc} {i : Nat} (hi : ∀ j, j < i → Seg (l.getD j (Ty.dflt pT))) (h : ¬ ((i : Int) < (l.length : Int) ∧ (i : Int) < 13)) (hle : i ≤ l.length) : withinR l = decide ((l.length : Int) ≤ 12) := by
  have : (l.take 13).all (fun p => decide (Seg p)) = true := by
    rw [List.all_eq_true]
    intro p hp
    obtain ⟨j, hj, rfl⟩ := mem_getD (Ty.dflt pT) hp
    rw [List.length_take] at hj
    have e : (l.take 13).getD j (Ty.dflt pT) = l.getD j (Ty.dflt pT) := by
      simp only [List.getD_eq_getElem?_getD, List.getElem?_take]
      rw [if_pos (by omega)]
    rw [e]
    exact decide_eq_true (hi j (by omega))
  unfold withinR
  rw [this, Bool.true_and]
def segB (x : Pc) : Bool := if (if decide (x.1 < 0) = true then true else decide (x.1 > 150)) = true then true else decide ((x.2.1.length : Int) > 50)
theorem seg_t {x : Pc} (h : segB x = true) : ¬ Seg x := by
  intro hs
  obtain ⟨h0, h1, h2⟩ := hs
  have e : pa x = x.1 := rfl
  have e2 : (pd x).length = x.2.1.length := rfl
  simp only [segB, Bool.if_true_left, Bool.decide_eq_true, Bool.or_eq_true, decide_eq_true_eq] at h
  omega
theorem seg_f {x : Pc} (h : segB x = false) : Seg x := by
  have e : pa x = x.1 := rfl
  have e2 : (pd x).length = x.2.1.length := rfl
  simp only [segB, Bool.if_true_left, Bool.decide_eq_true, Bool.or_eq_false_iff, decide_eq_false_iff_not] at h
  unfold Seg
  omega
theorem insM_len {m : List Cl} (hs : Sorted m) (pol : Int) (p : Pc) : (insM m pol p).length ≤ m.length + (pd p).length := by
  have := len_mrg m hs pol (newP p) (pd p).length
  unfold insM
  simp only [mrg, List.length_append] at this ⊢
  omega
def fst4 (p q : Pc) (i : Nat) : Pc := if i % 2 = 1 then q else p
def snd4 (p q : Pc) (i : Nat) : Pc := if i % 2 = 1 then p else q
def polA (i : Nat) : Int := if i = 0 then 1 else 3
def pol4 (i : Nat) : Int := if i = 1 then 2 else polA i
theorem tmod2 {i : Nat} : decide ((i : Int).tmod 2 = 1) = decide (i % 2 = 1) := by
  rw [Int.tmod_eq_emod_of_nonneg (by omega), decide_eq_decide]
  omega
def str4 (p q : Pc) (i : Nat) : List UInt8 := (takeF (J (duo (pol4 i) (fst4 p q i) (snd4 p q i))) (min (pa p) (pa q))).1
def upto4 (p q : Pc) (i j : Nat) : List UInt8 := if j < i then str4 p q j else []
theorem str4_01 (p q : Pc) (hp : Seg p) (hq : Seg q) : str4 p q 0 = str4 p q 1 := congrArg Prod.fst (duo_first p q hp hq (min (pa p) (pa q)))
theorem str4_23 (p q : Pc) (hp : Seg p) (hq : Seg q) (h : p.1 ≠ q.1) : str4 p q 2 = str4 p q 3 := congrArg Prod.fst (duo_bsd p q hp hq h (min (pa p) (pa q)))
theorem mirrors_end (p q : Pc) (hp : Seg p) (hq : Seg q) : (if decide (str4 p q 0 = str4 p q 1) = true then (if decide (str4 p q 2 = str4 p q 3) = true then true else decide (p.1 = q.1)) else false) = true := by
  rw [if_pos (decide_eq_true (str4_01 p q hp hq))]
  by_cases h : p.1 = q.1
  · split
    · rfl
    · exact decide_eq_true h
  · rw [if_pos (decide_eq_true (str4_23 p q hp hq h))]
theorem duo_lenSum (p q : Pc) (i : Nat) (hf : Seg (fst4 p q i)) (hs : Seg (snd4 p q i)) : lenSum (J (duo (pol4 i) (fst4 p q i) (snd4 p q i))) ≤ 1099511627776 := by
  have G := mg_duo (pol4 i) hf hs
  rw [J_lenSum G.2.ok]
  have e1 := insM_len mg_nil.s (pol4 i) (fst4 p q i)
  have e2 := insM_len G.1.s (pol4 i) (snd4 p q i)
  have e3 := hf.2.2
  have e4 := hs.2.2
  have e5 : ([] : List Cl).length = 0 := rfl
  have e6 : (duo (pol4 i) (fst4 p q i) (snd4 p q i)).length = (insM (insM [] (pol4 i) (fst4 p q i)) (pol4 i) (snd4 p q i)).length := rfl
  omega
end Go.Ov

/- Plain words of chapter 15: the statement's table of owners. -/
namespace Go.Ov
open Go Go.Fw

abbrev pD : Pc := Ty.dflt pT
/-- The cells behind the first i segments. -/
def mI (l : List Pc) (pol : Int) (i : Nat) : List Cl := (l.take i).foldl (fun m p => insM m pol p) []
def conT (l : List Pc) (pol : Int) : Nat → Int
  | 0 => 0
  | i + 1 => conT l pol i + (conS (mI l pol i) (l.getD i pD) : Nat)
theorem mI_next (l : List Pc) (pol : Int) (i : Nat) (h : i < l.length) : mI l pol (i + 1) = insM (mI l pol i) pol (l.getD i pD) := foldl_next _ _ pD h
theorem mg_mI (l : List Pc) (pol : Int) (hs : ∀ p ∈ l, Seg p) : ∀ i, i ≤ l.length → MG (mI l pol i) (2 * i)
  | 0, _ => mg_nil
  | i + 1, h => by
    rw [mI_next l pol i h]
    exact (mg_mI l pol hs i (by omega)).next pol (hs _ (getD_mem h))
theorem mI_len (l : List Pc) (pol : Int) (hs : ∀ p ∈ l, Seg p) : ∀ i, i ≤ l.length → (mI l pol i).length ≤ 50 * i
  | 0, _ => Nat.zero_le _
  | i + 1, h => by
    rw [mI_next l pol i h]
    have h1 := insM_len (mg_mI l pol hs i (by omega)).s pol (l.getD i pD)
    have h2 := mI_len l pol hs i (by omega)
    have h3 := (hs _ (getD_mem (d := pD) h)).2.2
    omega
theorem conS_le (m : List Cl) (p : Pc) : conS m p ≤ (pd p).length := by
  have := cnt_le (cfB m (newP p)) (pa p) (endP p)
  have e : endP p = pa p + (pd p).length := rfl
  unfold conS
  omega
theorem conT_le (l : List Pc) (pol : Int) (hs : ∀ p ∈ l, Seg p) : ∀ i, i ≤ l.length → 0 ≤ conT l pol i ∧ conT l pol i ≤ 50 * i
  | 0, _ => ⟨Int.le_refl _, Int.le_refl _⟩
  | i + 1, h => by
    have h2 := conT_le l pol hs i (by omega)
    have h1 := conS_le (mI l pol i) (l.getD i pD)
    have h3 := (hs _ (getD_mem (d := pD) h)).2.2
    simp only [conT]
    omega

/-- The newer one wins. -/
def winM (pol : Int) (p old : Pc) : Bool :=
  if (if decide (pol = 2) = true then true else (if decide (pol = 3) = true then decide (pa p < pa old) else false)) = true then true
  else if decide (pol = 4) = true then (if decide (pa p < pa old) = true then true else (if decide (pa p = pa old) = true then decide (((pd p).length : Int) > ((pd old).length : Int)) else false)) else false
theorem winM_F (pol : Int) (p old : Pc) : winM pol p old = winF pol (pa old) (endP old) (pa p) (endP p) := by
  have e1 : endP old = pa old + (pd old).length := rfl
  have e2 : endP p = pa p + (pd p).length := rfl
  have e3 : winF pol (pa old) (endP old) (pa p) (endP p) = (if pol = 2 then true else if pol = 3 then decide (pa p < pa old) else if pol = 4 then decide (pa p < pa old) || (decide (pa p = pa old) && decide (endP p > endP old)) else false) := rfl
  rw [e3]
  unfold winM
  by_cases h2 : pol = 2
  · simp [h2]
  by_cases h3 : pol = 3
  · simp [h3]
  by_cases h4 : pol = 4
  · subst h4
    by_cases h5 : pa p < pa old
    · simp [h5]
    · by_cases h6 : pa p = pa old
      · simp [h6]
        omega
      · simp [h5, h6]
  · simp [h2, h3, h4]
def ownOf (l : List Pc) (v : Int) : Pc := l.getD (v - 1).toNat pD
/-- One byte of segment i. -/
def mStep (l : List Pc) (pol : Int) (i : Nat) (s : List Int × Int) (k : Nat) : List Int × Int :=
  if s.1.getD (pa (l.getD i pD) + k).toNat 0 = 0 then (s.1.set (pa (l.getD i pD) + k).toNat ((i : Int) + 1), s.2)
  else (if winM pol (l.getD i pD) (ownOf l (s.1.getD (pa (l.getD i pD) + k).toNat 0)) = true then s.1.set (pa (l.getD i pD) + k).toNat ((i : Int) + 1) else s.1,
    s.2 + (if bt (pd (ownOf l (s.1.getD (pa (l.getD i pD) + k).toNat 0))) (pa (l.getD i pD) + k - pa (ownOf l (s.1.getD (pa (l.getD i pD) + k).toNat 0))) ≠ bt (pd (l.getD i pD)) k then 1 else 0))
def mSeg (l : List Pc) (pol : Int) (i : Nat) (s : List Int × Int) (k : Nat) : List Int × Int := (List.range k).foldl (mStep l pol i) s
def mAll (l : List Pc) (pol : Int) : Nat → List Int × Int
  | 0 => (List.replicate 200 0, 0)
  | i + 1 => mSeg l pol i (mAll l pol i) (pd (l.getD i pD)).length
theorem mSeg_next (l : List Pc) (pol : Int) (i : Nat) (s : List Int × Int) (k : Nat) : mSeg l pol i s (k + 1) = mStep l pol i (mSeg l pol i s k) k := by
  unfold mSeg
  rw [List.range_succ, List.foldl_append]
  rfl
/-- What the table says of the cells. -/
structure Tab12 (l : List Pc) (n : Nat) (ow : List Int) (m : List Cl) : Prop where
  len : ow.length = 200
  own : ∀ a : Nat, a < 200 → (ow.getD a 0 = 0 ∧ atC m a = none) ∨ (∃ j : Nat, j < n ∧ ow.getD a 0 = (j : Int) + 1 ∧ pa (l.getD j pD) ≤ a ∧ (a : Int) < endP (l.getD j pD) ∧ atC m a = some (newC (newP (l.getD j pD)) a))
theorem getD_set {α : Type} (d : α) (l : List α) (i j : Nat) (x : α) (h : i < l.length) : (l.set i x).getD j d = if j = i then x else l.getD j d := by
  simp only [List.getD_eq_getElem?_getD, List.getElem?_set]
  by_cases e : i = j
  · subst e; simp [h]
  · rw [if_neg e, if_neg (fun h => e h.symm)]
theorem mrg_next_at {m : List Cl} (hs : Sorted m) (pol : Int) (P : Pc) (k : Nat) (a : Int) : atC (mrg m pol P (k + 1)) a = if a = P.1 + k then some (pick m pol P a) else atC (mrg m pol P k) a := by
  rw [atC_mrgk hs, atC_mrgk hs]
  by_cases h : a = P.1 + k
  · rw [if_pos h, if_pos (by omega)]
  · rw [if_neg h]
    by_cases h2 : P.1 ≤ a ∧ a < P.1 + k
    · rw [if_pos h2, if_pos (by omega)]
    · rw [if_neg h2, if_neg (by omega)]
/-- What holds within segment i. -/
structure In12 (l : List Pc) (pol : Int) (i k : Nat) (s : List Int × Int) : Prop where
  tab : Tab12 l (i + 1) s.1 (mrg (mI l pol i) pol (newP (l.getD i pD)) k)
  dif : s.2 = conT l pol i + (cnt (cfB (mI l pol i) (newP (l.getD i pD))) (pa (l.getD i pD)) (pa (l.getD i pD) + k) : Nat)
theorem in12_next {l : List Pc} {pol : Int} (hs : ∀ p ∈ l, Seg p) {i k : Nat} (hi : i < l.length) {s : List Int × Int} (h : In12 l pol i k s) (hk : k < (pd (l.getD i pD)).length) : In12 l pol i (k + 1) (mStep l pol i s k) := by
  obtain ⟨⟨hl, ho⟩, hd⟩ := h
  have hg := mg_mI l pol hs i (by omega)
  obtain ⟨p0, p1, p2⟩ := hs _ (getD_mem (d := pD) hi)
  have hP : (newP (l.getD i pD)).1 = pa (l.getD i pD) := rfl
  generalize hp : l.getD i pD = p at *
  have hend : endP p = pa p + (pd p).length := rfl
  have ha : ((pa p + (k : Int)).toNat : Int) = pa p + k := by omega
  have hlt : (pa p + (k : Int)).toNat < 200 := by omega
  have hat : atC (mrg (mI l pol i) pol (newP p) k) (pa p + k) = atC (mI l pol i) (pa p + k) := by
    rw [atC_mrgk hg.s, if_neg (by omega)]
  have hset : ∀ c, pick (mI l pol i) pol (newP p) (pa p + k) = c → c = newC (newP p) (pa p + k) → Tab12 l (i + 1) (s.1.set (pa p + (k : Int)).toNat ((i : Int) + 1)) (mrg (mI l pol i) pol (newP p) (k + 1)) := by
    intro c hc1 hc2
    refine ⟨by rw [List.length_set]; exact hl, fun a ha2 => ?_⟩
    rw [getD_set 0 _ _ _ _ (by omega), mrg_next_at hg.s]
    by_cases e : a = (pa p + (k : Int)).toNat
    · right
      have e' : (a : Int) = pa p + k := by omega
      refine ⟨i, by omega, by rw [if_pos e], by rw [hp]; omega, by rw [hp]; omega, ?_⟩
      rw [if_pos (by rw [hP]; exact e'), hp, e', hc1, hc2]
    · rw [if_neg e, if_neg (by rw [hP]; omega)]
      exact ho a ha2
  have hcnt : cnt (cfB (mI l pol i) (newP p)) (pa p) (pa p + ((k + 1 : Nat) : Int)) = cnt (cfB (mI l pol i) (newP p)) (pa p) (pa p + k) + (if cfB (mI l pol i) (newP p) (pa p + k) then 1 else 0) := cnt_succ _ _ _
  have hbk : bt (newP p).2.1 (pa p + k - (newP p).1) = bt (pd p) k := by
    show bt (pd p) (pa p + k - pa p) = _
    congr 1; omega
  rcases ho _ hlt with ⟨h1, h2⟩ | ⟨j, hj, h1, h2, h3, h4⟩
  · rw [ha, hat] at h2
    have e : mStep l pol i s k = (s.1.set (pa p + (k : Int)).toNat ((i : Int) + 1), s.2) := by unfold mStep; rw [hp]; exact if_pos h1
    rw [e]
    refine ⟨?_, ?_⟩
    · rw [hp]
      exact hset _ rfl (by rw [pick, h2])
    · rw [hp, hcnt]
      have : cfB (mI l pol i) (newP p) (pa p + k) = false := by unfold cfB; rw [h2]
      rw [this]
      simp only [hd]
      simp
  · rw [ha, hat] at h4
    have hne : s.1.getD (pa p + (k : Int)).toNat 0 ≠ 0 := by rw [h1]; omega
    have hown : ownOf l (s.1.getD (pa p + (k : Int)).toNat 0) = l.getD j pD := by
      unfold ownOf; rw [h1]
      have : ((j : Int) + 1 - 1).toNat = j := by omega
      rw [this]
    have e : mStep l pol i s k = (if winM pol p (l.getD j pD) = true then s.1.set (pa p + (k : Int)).toNat ((i : Int) + 1) else s.1,
        s.2 + (if bt (pd (l.getD j pD)) (pa p + k - pa (l.getD j pD)) ≠ bt (pd p) k then 1 else 0)) := by
      unfold mStep
      rw [hp, if_neg hne, hown]
    rw [e]
    refine ⟨?_, ?_⟩
    · rw [hp]
      show Tab12 l (i + 1) (if winM pol p (l.getD j pD) = true then _ else _) _
      by_cases hw : winM pol p (l.getD j pD) = true
      · rw [if_pos hw]
        refine hset _ rfl ?_
        rw [pick, h4]
        simp only
        rw [winM_F] at hw
        exact if_pos hw
      · rw [if_neg hw]
        refine ⟨hl, fun a ha2 => ?_⟩
        rw [mrg_next_at hg.s]
        by_cases e2 : (a : Int) = (newP p).1 + k
        · rw [if_pos e2]
          rw [hP] at e2
          have e3 : a = (pa p + (k : Int)).toNat := by omega
          subst e3
          right
          refine ⟨j, hj, h1, h2, h3, ?_⟩
          rw [pick, e2, h4]
          simp only
          rw [winM_F] at hw
          exact congrArg some (if_neg hw)
        · rw [if_neg e2]
          exact ho a ha2
    · rw [hp, hcnt]
      have hcf : cfB (mI l pol i) (newP p) (pa p + k) = !(bt (pd (l.getD j pD)) (pa p + k - pa (l.getD j pD)) == bt (pd p) k) := by
        unfold cfB
        rw [h4]
        simp only
        rw [hbk]
        rfl
      rw [hcf]
      show s.2 + _ = _
      rw [hd]
      generalize bt (pd (l.getD j pD)) (pa p + k - pa (l.getD j pD)) = u
      generalize bt (pd p) k = v
      by_cases hb : u = v
      · simp [hb]
      · simp [hb]
        omega
theorem tab12_mono {l : List Pc} {n n' : Nat} {ow : List Int} {m : List Cl} (h : Tab12 l n ow m) (hn : n ≤ n') : Tab12 l n' ow m :=
  ⟨h.len, fun a ha => (h.own a ha).imp id (fun ⟨j, hj, r⟩ => ⟨j, by omega, r⟩)⟩
theorem rep_getD (n a : Nat) : (List.replicate n (0 : Int)).getD a 0 = 0 := by
  rw [List.getD_eq_getElem?_getD, List.getElem?_replicate]
  split <;> rfl
theorem all12 {l : List Pc} {pol : Int} (hs : ∀ p ∈ l, Seg p) : ∀ i, i ≤ l.length → Tab12 l i (mAll l pol i).1 (mI l pol i) ∧ (mAll l pol i).2 = conT l pol i ∧
    (i < l.length → ∀ k, k ≤ (pd (l.getD i pD)).length → In12 l pol i k (mSeg l pol i (mAll l pol i) k)) := by
  have seg : ∀ i, i < l.length → Tab12 l i (mAll l pol i).1 (mI l pol i) → (mAll l pol i).2 = conT l pol i → ∀ k, k ≤ (pd (l.getD i pD)).length → In12 l pol i k (mSeg l pol i (mAll l pol i) k) := by
    intro i hi h1 h2 k
    induction k with
    | zero =>
      intro _
      refine ⟨?_, ?_⟩
      · rw [mrg_zero (mg_mI l pol hs i (by omega)).s]
        exact tab12_mono h1 (by omega)
      · show (mAll l pol i).2 = _
        rw [h2]
        have : pa (l.getD i pD) + ((0 : Nat) : Int) = pa (l.getD i pD) := by omega
        rw [this, cnt_self]
        simp
    | succ k ih =>
      intro hk
      rw [mSeg_next]
      exact in12_next hs hi (ih (by omega)) (by omega)
  intro i
  induction i with
  | zero =>
    intro _
    have h1 : Tab12 l 0 (mAll l pol 0).1 (mI l pol 0) := ⟨List.length_replicate .., fun a ha => .inl ⟨by
      exact rep_getD 200 a, rfl⟩⟩
    exact ⟨h1, rfl, fun hi => seg 0 hi h1 rfl⟩
  | succ i ih =>
    intro hi
    obtain ⟨h1, h2, h3⟩ := ih (by omega)
    have h4 := h3 hi _ (Nat.le_refl _)
    have h5 : Tab12 l (i + 1) (mAll l pol (i + 1)).1 (mI l pol (i + 1)) := by
      rw [mI_next l pol i hi]
      exact h4.tab
    have h6 : (mAll l pol (i + 1)).2 = conT l pol (i + 1) := h4.dif
    exact ⟨h5, h6, fun hi2 => seg (i + 1) hi2 h5 h6⟩
/-- The table and the bytes that are taken. -/
structure Str12 (l : List Pc) (ow : List Int) (s : List UInt8) : Prop where
  le : s.length ≤ 200
  some_ : ∀ k, k < s.length → 0 < ow.getD k 0 ∧ ow.getD k 0 - 1 < l.length ∧ 0 ≤ (k : Int) - pa (ownOf l (ow.getD k 0)) ∧ (k : Int) - pa (ownOf l (ow.getD k 0)) < (pd (ownOf l (ow.getD k 0))).length ∧ bt (pd (ownOf l (ow.getD k 0))) ((k : Int) - pa (ownOf l (ow.getD k 0))) = ((s.getD k 0).toNat : Int)
  none_ : s.length < 200 → ow.getD s.length 0 = 0
theorem str12 {l : List Pc} {n : Nat} {ow : List Int} {m : List Cl} (h : Tab12 l n ow m) (hg : ∃ b, MG m b) (hn : n ≤ l.length) : Str12 l ow (takeF (J m) 0).1 := by
  obtain ⟨b, hg⟩ := hg
  have tk := takeOk hg.valid 0
  have hc := hg.cells
  have hr : ∀ k : Nat, k < (takeF (J m) 0).1.length → k < 200 := fun k hk => by
    obtain ⟨o, h1, _⟩ := tk.some_ k hk
    rw [hc] at h1
    have := atC_some h1
    have h2 := hg.rng o this.1
    omega
  have hle : (takeF (J m) 0).1.length ≤ 200 := by
    rcases Nat.lt_or_ge 200 (takeF (J m) 0).1.length with h1 | h1
    · have := hr 200 h1; omega
    · exact h1
  refine ⟨hle, fun k hk => ?_, fun hk => ?_⟩
  · obtain ⟨o, h1, h2⟩ := tk.some_ k hk
    rw [hc] at h1
    have e0 : (0 : Int) + (k : Int) = k := by omega
    rw [e0] at h1
    rcases h.own k (hr k hk) with ⟨_, q⟩ | ⟨j, q1, q2, q3, q4, q5⟩
    · rw [h1] at q; cases q
    · have e : ownOf l (ow.getD k 0) = l.getD j pD := by
        unfold ownOf; rw [q2]
        have : ((j : Int) + 1 - 1).toNat = j := by omega
        rw [this]
      rw [e]
      have e1 : endP (l.getD j pD) = pa (l.getD j pD) + (pd (l.getD j pD)).length := rfl
      refine ⟨by omega, by omega, by omega, by omega, ?_⟩
      rw [h1] at q5
      simp only [Option.some.injEq] at q5
      rw [← h2, q5]
      rfl
  · rcases h.own _ hk with ⟨q, _⟩ | ⟨j, q1, q2, q3, q4, q5⟩
    · exact q
    · have := tk.none_
      rw [hc] at this
      have e0 : (0 : Int) + ((takeF (J m) 0).1.length : Int) = ((takeF (J m) 0).1.length : Int) := by omega
      rw [e0, q5] at this
      cases this
/-- The old piece at a byte of segment i. -/
theorem In12.old {l : List Pc} {pol : Int} (hs : ∀ p ∈ l, Seg p) {i k : Nat} (hi : i < l.length) {s : List Int × Int} (h : In12 l pol i k s) (hk : k < (pd (l.getD i pD)).length)
    (hne : s.1.getD (pa (l.getD i pD) + k).toNat 0 ≠ 0) : 0 ≤ s.1.getD (pa (l.getD i pD) + k).toNat 0 - 1 ∧ s.1.getD (pa (l.getD i pD) + k).toNat 0 - 1 < l.length ∧
      0 ≤ pa (l.getD i pD) + k - pa (ownOf l (s.1.getD (pa (l.getD i pD) + k).toNat 0)) ∧ pa (l.getD i pD) + k - pa (ownOf l (s.1.getD (pa (l.getD i pD) + k).toNat 0)) < (pd (ownOf l (s.1.getD (pa (l.getD i pD) + k).toNat 0))).length := by
  obtain ⟨p0, p1, p2⟩ := hs _ (getD_mem (d := pD) hi)
  rcases h.tab.own (pa (l.getD i pD) + k).toNat (by omega) with ⟨q, _⟩ | ⟨j, q1, q2, q3, q4, _⟩
  · exact absurd q hne
  · have e : ownOf l (s.1.getD (pa (l.getD i pD) + (k : Int)).toNat 0) = l.getD j pD := by
      unfold ownOf; rw [q2]
      have : ((j : Int) + 1 - 1).toNat = j := by omega
      rw [this]
    rw [e]
    have e1 : endP (l.getD j pD) = pa (l.getD j pD) + (pd (l.getD j pD)).length := rfl
    refine ⟨by omega, by omega, by omega, by omega⟩
theorem in12_dif {l : List Pc} {pol : Int} (hs : ∀ p ∈ l, Seg p) {i k : Nat} (hi : i < l.length) {s : List Int × Int} (h : In12 l pol i k s) : 0 ≤ s.2 ∧ s.2 ≤ 50 * i + k := by
  have h1 := conT_le l pol hs i (by omega)
  have h2 := cnt_le (cfB (mI l pol i) (newP (l.getD i pD))) (pa (l.getD i pD)) (pa (l.getD i pD) + k)
  have h3 := h.dif
  omega
end Go.Ov

