/- Plain words of chapter 15: the statement's table of owners. -/
import Derived.Test.YtjdjgabahkcjeaaOv11
set_option linter.all false
set_option linter.unusedVariables false
set_option linter.unusedSimpArgs false
namespace Go.Ov
open Go Go.Fw

abbrev pD : Pc := Ty.dflt pT
/-- The cells behind the first i segments. -/
def mI (l : List Pc) (pol : Int) (i : Nat) : List Cl := (l.take i).foldl (fun m p => insM m pol p) []
def conT (l : List Pc) (pol : Int) : Nat → Int
  | 0 => 0
  | i + 1 => conT l pol i + (conS (mI l pol i) (l.getD i pD) : Nat)
theorem mI_next (l : List Pc) (pol : Int) (i : Nat) (h : i < l.length) : mI l pol (i + 1) = insM (mI l pol i) pol (l.getD i pD) := foldl_next _ _ pD h
theorem mg_mI (l : List Pc) (pol : Int) (hs : ∀ p ∈ l, Seg p) : ∀ i, i ≤ l.length → MG (mI l pol i) (2 * i)
  | 0, _ => mg_nil
  | i + 1, h => by
    rw [mI_next l pol i h]
    exact (mg_mI l pol hs i (by omega)).next pol (hs _ (getD_mem h))
theorem mI_len (l : List Pc) (pol : Int) (hs : ∀ p ∈ l, Seg p) : ∀ i, i ≤ l.length → (mI l pol i).length ≤ 50 * i
  | 0, _ => Nat.zero_le _
  | i + 1, h => by
    rw [mI_next l pol i h]
    have h1 := insM_len (mg_mI l pol hs i (by omega)).s pol (l.getD i pD)
    have h2 := mI_len l pol hs i (by omega)
    have h3 := (hs _ (getD_mem (d := pD) h)).2.2
    omega
theorem conS_le (m : List Cl) (p : Pc) : conS m p ≤ (pd p).length := by
  have := cnt_le (cfB m (newP p)) (pa p) (endP p)
  have e : endP p = pa p + (pd p).length := rfl
  unfold conS
  omega
theorem conT_le (l : List Pc) (pol : Int) (hs : ∀ p ∈ l, Seg p) : ∀ i, i ≤ l.length → 0 ≤ conT l pol i ∧ conT l pol i ≤ 50 * i
  | 0, _ => ⟨Int.le_refl _, Int.le_refl _⟩
  | i + 1, h => by
    have h2 := conT_le l pol hs i (by omega)
    have h1 := conS_le (mI l pol i) (l.getD i pD)
    have h3 := (hs _ (getD_mem (d := pD) h)).2.2
    simp only [conT]
    omega

/-- The newer one wins. -/
def winM (pol : Int) (p old : Pc) : Bool :=
  if (if decide (pol = 2) = true then true else (if decide (pol = 3) = true then decide (pa p < pa old) else false)) = true then true
  else if decide (pol = 4) = true then (if decide (pa p < pa old) = true then true else (if decide (pa p = pa old) = true then decide (((pd p).length : Int) > ((pd old).length : Int)) else false)) else false
theorem winM_F (pol : Int) (p old : Pc) : winM pol p old = winF pol (pa old) (endP old) (pa p) (endP p) := by
  have e1 : endP old = pa old + (pd old).length := rfl
  have e2 : endP p = pa p + (pd p).length := rfl
  have e3 : winF pol (pa old) (endP old) (pa p) (endP p) = (if pol = 2 then true else if pol = 3 then decide (pa p < pa old) else if pol = 4 then decide (pa p < pa old) || (decide (pa p = pa old) && decide (endP p > endP old)) else false) := rfl
  rw [e3]
  unfold winM
  by_cases h2 : pol = 2
  · simp [h2]
  by_cases h3 : pol = 3
  · simp [h3]
  by_cases h4 : pol = 4
  · subst h4
    by_cases h5 : pa p < pa old
    · simp [h5]
    · by_cases h6 : pa p = pa old
      · simp [h6]
        omega
      · simp [h5, h6]
  · simp [h2, h3, h4]
def ownOf (l : List Pc) (v : Int) : Pc := l.getD (v - 1).toNat pD
/-- One byte of segment i. -/
def mStep (l : List Pc) (pol : Int) (i : Nat) (s : List Int × Int) (k : Nat) : List Int × Int :=
  if s.1.getD (pa (l.getD i pD) + k).toNat 0 = 0 then (s.1.set (pa (l.getD i pD) + k).toNat ((i : Int) + 1), s.2)
  else (if winM pol (l.getD i pD) (ownOf l (s.1.getD (pa (l.getD i pD) + k).toNat 0)) = true then s.1.set (pa (l.getD i pD) + k).toNat ((i : Int) + 1) else s.1,
    s.2 + (if bt (pd (ownOf l (s.1.getD (pa (l.getD i pD) + k).toNat 0))) (pa (l.getD i pD) + k - pa (ownOf l (s.1.getD (pa (l.getD i pD) + k).toNat 0))) ≠ bt (pd (l.getD i pD)) k then 1 else 0))
def mSeg (l : List Pc) (pol : Int) (i : Nat) (s : List Int × Int) (k : Nat) : List Int × Int := (List.range k).foldl (mStep l pol i) s
def mAll (l : List Pc) (pol : Int) : Nat → List Int × Int
  | 0 => (List.replicate 200 0, 0)
  | i + 1 => mSeg l pol i (mAll l pol i) (pd (l.getD i pD)).length
theorem mSeg_next (l : List Pc) (pol : Int) (i : Nat) (s : List Int × Int) (k : Nat) : mSeg l pol i s (k + 1) = mStep l pol i (mSeg l pol i s k) k := by
  unfold mSeg
  rw [List.range_succ, List.foldl_append]
  rfl
/-- What the table says of the cells. -/
structure Tab12 (l : List Pc) (n : Nat) (ow : List Int) (m : List Cl) : Prop where
  len : ow.length = 200
  own : ∀ a : Nat, a < 200 → (ow.getD a 0 = 0 ∧ atC m a = none) ∨ (∃ j : Nat, j < n ∧ ow.getD a 0 = (j : Int) + 1 ∧ pa (l.getD j pD) ≤ a ∧ (a : Int) < endP (l.getD j pD) ∧ atC m a = some (newC (newP (l.getD j pD)) a))
theorem getD_set {α : Type} (d : α) (l : List α) (i j : Nat) (x : α) (h : i < l.length) : (l.set i x).getD j d = if j = i then x else l.getD j d := by
  simp only [List.getD_eq_getElem?_getD, List.getElem?_set]
  by_cases e : i = j
  · subst e; simp [h]
  · rw [if_neg e, if_neg (fun h => e h.symm)]
theorem mrg_next_at {m : List Cl} (hs : Sorted m) (pol : Int) (P : Pc) (k : Nat) (a : Int) : atC (mrg m pol P (k + 1)) a = if a = P.1 + k then some (pick m pol P a) else atC (mrg m pol P k) a := by
  rw [atC_mrgk hs, atC_mrgk hs]
  by_cases h : a = P.1 + k
  · rw [if_pos h, if_pos (by omega)]
  · rw [if_neg h]
    by_cases h2 : P.1 ≤ a ∧ a < P.1 + k
    · rw [if_pos h2, if_pos (by omega)]
    · rw [if_neg h2, if_neg (by omega)]
/-- What holds within segment i. -/
structure In12 (l : List Pc) (pol : Int) (i k : Nat) (s : List Int × Int) : Prop where
  tab : Tab12 l (i + 1) s.1 (mrg (mI l pol i) pol (newP (l.getD i pD)) k)
  dif : s.2 = conT l pol i + (cnt (cfB (mI l pol i) (newP (l.getD i pD))) (pa (l.getD i pD)) (pa (l.getD i pD) + k) : Nat)
theorem in12_next {l : List Pc} {pol : Int} (hs : ∀ p ∈ l, Seg p) {i k : Nat} (hi : i < l.length) {s : List Int × Int} (h : In12 l pol i k s) (hk : k < (pd (l.getD i pD)).length) : In12 l pol i (k + 1) (mStep l pol i s k) := by
  obtain ⟨⟨hl, ho⟩, hd⟩ := h
  have hg := mg_mI l pol hs i (by omega)
  obtain ⟨p0, p1, p2⟩ := hs _ (getD_mem (d := pD) hi)
  have hP : (newP (l.getD i pD)).1 = pa (l.getD i pD) := rfl
  generalize hp : l.getD i pD = p at *
  have hend : endP p = pa p + (pd p).length := rfl
  have ha : ((pa p + (k : Int)).toNat : Int) = pa p + k := by omega
  have hlt : (pa p + (k : Int)).toNat < 200 := by omega
  have hat : atC (mrg (mI l pol i) pol (newP p) k) (pa p + k) = atC (mI l pol i) (pa p + k) := by
    rw [atC_mrgk hg.s, if_neg (by omega)]
  have hset : ∀ c, pick (mI l pol i) pol (newP p) (pa p + k) = c → c = newC (newP p) (pa p + k) → Tab12 l (i + 1) (s.1.set (pa p + (k : Int)).toNat ((i : Int) + 1)) (mrg (mI l pol i) pol (newP p) (k + 1)) := by
    intro c hc1 hc2
    refine ⟨by rw [List.length_set]; exact hl, fun a ha2 => ?_⟩
    rw [getD_set 0 _ _ _ _ (by omega), mrg_next_at hg.s]
    by_cases e : a = (pa p + (k : Int)).toNat
    · right
      have e' : (a : Int) = pa p + k := by omega
      refine ⟨i, by omega, by rw [if_pos e], by rw [hp]; omega, by rw [hp]; omega, ?_⟩
      rw [if_pos (by rw [hP]; exact e'), hp, e', hc1, hc2]
    · rw [if_neg e, if_neg (by rw [hP]; omega)]
      exact ho a ha2
  have hcnt : cnt (cfB (mI l pol i) (newP p)) (pa p) (pa p + ((k + 1 : Nat) : Int)) = cnt (cfB (mI l pol i) (newP p)) (pa p) (pa p + k) + (if cfB (mI l pol i) (newP p) (pa p + k) then 1 else 0) := cnt_succ _ _ _
  have hbk : bt (newP p).2.1 (pa p + k - (newP p).1) = bt (pd p) k := by
    show bt (pd p) (pa p + k - pa p) = _
    congr 1; omega
  rcases ho _ hlt with ⟨h1, h2⟩ | ⟨j, hj, h1, h2, h3, h4⟩
  · rw [ha, hat] at h2
    have e : mStep l pol i s k = (s.1.set (pa p + (k : Int)).toNat ((i : Int) + 1), s.2) := by unfold mStep; rw [hp]; exact if_pos h1
    rw [e]
    refine ⟨?_, ?_⟩
    · rw [hp]
      exact hset _ rfl (by rw [pick, h2])
    · rw [hp, hcnt]
      have : cfB (mI l pol i) (newP p) (pa p + k) = false := by unfold cfB; rw [h2]
      rw [this]
      simp only [hd]
      simp
  · rw [ha, hat] at h4
    have hne : s.1.getD (pa p + (k : Int)).toNat 0 ≠ 0 := by rw [h1]; omega
    have hown : ownOf l (s.1.getD (pa p + (k : Int)).toNat 0) = l.getD j pD := by
      unfold ownOf; rw [h1]
      have : ((j : Int) + 1 - 1).toNat = j := by omega
      rw [this]
    have e : mStep l pol i s k = (if winM pol p (l.getD j pD) = true then s.1.set (pa p + (k : Int)).toNat ((i : Int) + 1) else s.1,
        s.2 + (if bt (pd (l.getD j pD)) (pa p + k - pa (l.getD j pD)) ≠ bt (pd p) k then 1 else 0)) := by
      unfold mStep
      rw [hp, if_neg hne, hown]
    rw [e]
    refine ⟨?_, ?_⟩
    · rw [hp]
      show Tab12 l (i + 1) (if winM pol p (l.getD j pD) = true then _ else _) _
      by_cases hw : winM pol p (l.getD j pD) = true
      · rw [if_pos hw]
        refine hset _ rfl ?_
        rw [pick, h4]
        simp only
        rw [winM_F] at hw
        exact if_pos hw
      · rw [if_neg hw]
        refine ⟨hl, fun a ha2 => ?_⟩
        rw [mrg_next_at hg.s]
        by_cases e2 : (a : Int) = (newP p).1 + k
        · rw [if_pos e2]
          rw [hP] at e2
          have e3 : a = (pa p + (k : Int)).toNat := by omega
          subst e3
          right
          refine ⟨j, hj, h1, h2, h3, ?_⟩
          rw [pick, e2, h4]
          simp only
          rw [winM_F] at hw
          exact congrArg some (if_neg hw)
        · rw [if_neg e2]
          exact ho a ha2
    · rw [hp, hcnt]
      have hcf : cfB (mI l pol i) (newP p) (pa p + k) = !(bt (pd (l.getD j pD)) (pa p + k - pa (l.getD j pD)) == bt (pd p) k) := by
        unfold cfB
        rw [h4]
        simp only
        rw [hbk]
        rfl
      rw [hcf]
      show s.2 + _ = _
      rw [hd]
      generalize bt (pd (l.getD j pD)) (pa p + k - pa (l.getD j pD)) = u
      generalize bt (pd p) k = v
      by_cases hb : u = v
      · simp [hb]
      · simp [hb]
        omega
theorem tab12_mono {l : List Pc} {n n' : Nat} {ow : List Int} {m : List Cl} (h : Tab12 l n ow m) (hn : n ≤ n') : Tab12 l n' ow m :=
  ⟨h.len, fun a ha => (h.own a ha).imp id (fun ⟨j, hj, r⟩ => ⟨j, by omega, r⟩)⟩
theorem rep_getD (n a : Nat) : (List.replicate n (0 : Int)).getD a 0 = 0 := by
  rw [List.getD_eq_getElem?_getD, List.getElem?_replicate]
  split <;> rfl
theorem all12 {l : List Pc} {pol : Int} (hs : ∀ p ∈ l, Seg p) : ∀ i, i ≤ l.length → Tab12 l i (mAll l pol i).1 (mI l pol i) ∧ (mAll l pol i).2 = conT l pol i ∧
    (i < l.length → ∀ k, k ≤ (pd (l.getD i pD)).length → In12 l pol i k (mSeg l pol i (mAll l pol i) k)) := by
  have seg : ∀ i, i < l.length → Tab12 l i (mAll l pol i).1 (mI l pol i) → (mAll l pol i).2 = conT l pol i → ∀ k, k ≤ (pd (l.getD i pD)).length → In12 l pol i k (mSeg l pol i (mAll l pol i) k) := by
    intro i hi h1 h2 k
    induction k with
    | zero =>
      intro _
      refine ⟨?_, ?_⟩
      · rw [mrg_zero (mg_mI l pol hs i (by omega)).s]
        exact tab12_mono h1 (by omega)
      · show (mAll l pol i).2 = _
        rw [h2]
        have : pa (l.getD i pD) + ((0 : Nat) : Int) = pa (l.getD i pD) := by omega
        rw [this, cnt_self]
        simp
    | succ k ih =>
      intro hk
      rw [mSeg_next]
      exact in12_next hs hi (ih (by omega)) (by omega)
  intro i
  induction i with
  | zero =>
    intro _
    have h1 : Tab12 l 0 (mAll l pol 0).1 (mI l pol 0) := ⟨List.length_replicate .., fun a ha => .inl ⟨by
      exact rep_getD 200 a, rfl⟩⟩
    exact ⟨h1, rfl, fun hi => seg 0 hi h1 rfl⟩
  | succ i ih =>
    intro hi
    obtain ⟨h1, h2, h3⟩ := ih (by omega)
    have h4 := h3 hi _ (Nat.le_refl _)
    have h5 : Tab12 l (i + 1) (mAll l pol (i + 1)).1 (mI l pol (i + 1)) := by
      rw [mI_next l pol i hi]
      exact h4.tab
    have h6 : (mAll l pol (i + 1)).2 = conT l pol (i + 1) := h4.dif
    exact ⟨h5, h6, fun hi2 => seg (i + 1) hi2 h5 h6⟩
/-- The table and the bytes that are taken. -/
structure Str12 (l : List Pc) (ow : List Int) (s : List UInt8) : Prop where
  le : s.length ≤ 200
  some_ : ∀ k, k < s.length → 0 < ow.getD k 0 ∧ ow.getD k 0 - 1 < l.length ∧ 0 ≤ (k : Int) - pa (ownOf l (ow.getD k 0)) ∧ (k : Int) - pa (ownOf l (ow.getD k 0)) < (pd (ownOf l (ow.getD k 0))).length ∧ bt (pd (ownOf l (ow.getD k 0))) ((k : Int) - pa (ownOf l (ow.getD k 0))) = ((s.getD k 0).toNat : Int)
  none_ : s.length < 200 → ow.getD s.length 0 = 0
theorem str12 {l : List Pc} {n : Nat} {ow : List Int} {m : List Cl} (h : Tab12 l n ow m) (hg : ∃ b, MG m b) (hn : n ≤ l.length) : Str12 l ow (takeF (J m) 0).1 := by
  obtain ⟨b, hg⟩ := hg
  have tk := takeOk hg.valid 0
  have hc := hg.cells
  have hr : ∀ k : Nat, k < (takeF (J m) 0).1.length → k < 200 := fun k hk => by
    obtain ⟨o, h1, _⟩ := tk.some_ k hk
    rw [hc] at h1
    have := atC_some h1
    have h2 := hg.rng o this.1
    omega
  have hle : (takeF (J m) 0).1.length ≤ 200 := by
    rcases Nat.lt_or_ge 200 (takeF (J m) 0).1.length with h1 | h1
    · have := hr 200 h1; omega
    · exact h1
  refine ⟨hle, fun k hk => ?_, fun hk => ?_⟩
  · obtain ⟨o, h1, h2⟩ := tk.some_ k hk
    rw [hc] at h1
    have e0 : (0 : Int) + (k : Int) = k := by omega
    rw [e0] at h1
    rcases h.own k (hr k hk) with ⟨_, q⟩ | ⟨j, q1, q2, q3, q4, q5⟩
    · rw [h1] at q; cases q
    · have e : ownOf l (ow.getD k 0) = l.getD j pD := by
        unfold ownOf; rw [q2]
        have : ((j : Int) + 1 - 1).toNat = j := by omega
        rw [this]
      rw [e]
      have e1 : endP (l.getD j pD) = pa (l.getD j pD) + (pd (l.getD j pD)).length := rfl
      refine ⟨by omega, by omega, by omega, by omega, ?_⟩
      rw [h1] at q5
      simp only [Option.some.injEq] at q5
      rw [← h2, q5]
      rfl
  · rcases h.own _ hk with ⟨q, _⟩ | ⟨j, q1, q2, q3, q4, q5⟩
    · exact q
    · have := tk.none_
      rw [hc] at this
      have e0 : (0 : Int) + ((takeF (J m) 0).1.length : Int) = ((takeF (J m) 0).1.length : Int) := by omega
      rw [e0, q5] at this
      cases this
/-- The old piece at a byte of segment i. -/
theorem In12.old {l : List Pc} {pol : Int} (hs : ∀ p ∈ l, Seg p) {i k : Nat} (hi : i < l.length) {s : List Int × Int} (h : In12 l pol i k s) (hk : k < (pd (l.getD i pD)).length)
    (hne : s.1.getD (pa (l.getD i pD) + k).toNat 0 ≠ 0) : 0 ≤ s.1.getD (pa (l.getD i pD) + k).toNat 0 - 1 ∧ s.1.getD (pa (l.getD i pD) + k).toNat 0 - 1 < l.length ∧
      0 ≤ pa (l.getD i pD) + k - pa (ownOf l (s.1.getD (pa (l.getD i pD) + k).toNat 0)) ∧ pa (l.getD i pD) + k - pa (ownOf l (s.1.getD (pa (l.getD i pD) + k).toNat 0)) < (pd (ownOf l (s.1.getD (pa (l.getD i pD) + k).toNat 0))).length := by
  obtain ⟨p0, p1, p2⟩ := hs _ (getD_mem (d := pD) hi)
  rcases h.tab.own (pa (l.getD i pD) + k).toNat (by omega) with ⟨q, _⟩ | ⟨j, q1, q2, q3, q4, _⟩
  · exact absurd q hne
  · have e : ownOf l (s.1.getD (pa (l.getD i pD) + (k : Int)).toNat 0) = l.getD j pD := by
      unfold ownOf; rw [q2]
      have : ((j : Int) + 1 - 1).toNat = j := by omega
      rw [this]
    rw [e]
    have e1 : endP (l.getD j pD) = pa (l.getD j pD) + (pd (l.getD j pD)).length := rfl
    refine ⟨by omega, by omega, by omega, by omega⟩
theorem in12_dif {l : List Pc} {pol : Int} (hs : ∀ p ∈ l, Seg p) {i k : Nat} (hi : i < l.length) {s : List Int × Int} (h : In12 l pol i k s) : 0 ≤ s.2 ∧ s.2 ≤ 50 * i + k := by
  have h1 := conT_le l pol hs i (by omega)
  have h2 := cnt_le (cfB (mI l pol i) (newP (l.getD i pD))) (pa (l.getD i pD)) (pa (l.getD i pD) + k)
  have h3 := h.dif
  omega
end Go.Ov
