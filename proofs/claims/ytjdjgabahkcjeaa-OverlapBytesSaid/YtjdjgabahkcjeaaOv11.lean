/- Plain words of chapter 15: two segments in either order. -/
import Derived.Test.YtjdjgabahkcjeaaOv10
set_option linter.all false
set_option linter.unusedVariables false
set_option linter.unusedSimpArgs false
namespace Go.Ov
open Go Go.Fw

def duo (pol : Int) (a b : Pc) : List Cl := insM (insM [] pol a) pol b
theorem mg_duo (pol : Int) {a b : Pc} (ha : Seg a) (hb : Seg b) : MG (insM [] pol a) 2 ∧ MG (duo pol a b) 4 := ⟨mg_nil.next pol ha, (mg_nil.next pol ha).next pol hb⟩
def inR (p : Pc) (x : Int) : Prop := pa p ≤ x ∧ x < endP p
instance (p : Pc) (x : Int) : Decidable (inR p x) := by unfold inR; exact inferInstance
theorem duo_at (pol : Int) {a b : Pc} (ha : Seg a) (x : Int) : (atC (duo pol a b) x).map (·.2.1) =
    if inR b x then (if inR a x then (if winF pol (pa a) (endP a) (pa b) (endP b) = true then some (bt (pd b) (x - pa b)) else some (bt (pd a) (x - pa a))) else some (bt (pd b) (x - pa b)))
    else if inR a x then some (bt (pd a) (x - pa a)) else none := by
  have h1 : ∀ y, atC (insM [] pol a) y = if inR a y then some (newC (newP a) y) else none := by
    intro y
    rw [atC_insM List.Pairwise.nil]
    rfl
  unfold duo
  rw [atC_insM (mg_nil.next pol ha).s]
  by_cases hb : inR b x
  · rw [if_pos hb, if_pos (show pa b ≤ x ∧ x < endP b from hb), pick, h1]
    by_cases hx : inR a x
    · rw [if_pos hx, if_pos hx]
      simp only
      by_cases hw : winF pol (pa a) (endP a) (pa b) (endP b) = true
      · rw [if_pos hw, if_pos (show winF pol (newC (newP a) x).2.2.1 (newC (newP a) x).2.2.2.1 (newP b).2.2.1 (newP b).2.2.2.1 = true from hw)]
        rfl
      · rw [if_neg hw, if_neg (show ¬ winF pol (newC (newP a) x).2.2.1 (newC (newP a) x).2.2.2.1 (newP b).2.2.1 (newP b).2.2.2.1 = true from hw)]
        rfl
    · rw [if_neg hx, if_neg hx]
      rfl
  · rw [if_neg hb, if_neg (show ¬ (pa b ≤ x ∧ x < endP b) from hb), h1]
    by_cases hx : inR a x
    · rw [if_pos hx, if_pos hx]; rfl
    · rw [if_neg hx, if_neg hx]; rfl
theorem duo_first (p q : Pc) (hp : Seg p) (hq : Seg q) (a : Int) : takeF (J (duo 1 p q)) a = takeF (J (duo 2 q p)) a := by
  refine takeF_ext (mg_duo 1 hp hq).2.valid (mg_duo 2 hq hp).2.valid (fun x _ => ?_)
  rw [(mg_duo 1 hp hq).2.cells, (mg_duo 2 hq hp).2.cells, duo_at 1 hp, duo_at 2 hq]
  have w1 : winF 1 (pa p) (endP p) (pa q) (endP q) = false := rfl
  have w2 : winF 2 (pa q) (endP q) (pa p) (endP p) = true := rfl
  rw [w1, w2]
  by_cases h1 : inR p x <;> by_cases h2 : inR q x <;> simp [h1, h2]
theorem duo_bsd (p q : Pc) (hp : Seg p) (hq : Seg q) (h : pa p ≠ pa q) (a : Int) : takeF (J (duo 3 p q)) a = takeF (J (duo 3 q p)) a := by
  refine takeF_ext (mg_duo 3 hp hq).2.valid (mg_duo 3 hq hp).2.valid (fun x _ => ?_)
  rw [(mg_duo 3 hp hq).2.cells, (mg_duo 3 hq hp).2.cells, duo_at 3 hp, duo_at 3 hq]
  have w1 : winF 3 (pa p) (endP p) (pa q) (endP q) = decide (pa q < pa p) := rfl
  have w2 : winF 3 (pa q) (endP q) (pa p) (endP p) = decide (pa p < pa q) := rfl
  rw [w1, w2]
  by_cases h1 : inR p x <;> by_cases h2 : inR q x <;> simp [h1, h2]
  by_cases h3 : pa p < pa q
  · have h4 : ¬ pa q < pa p := by omega
    simp [h3, h4]
  · have h4 : pa q < pa p := by omega
    simp [h3, h4]
/-- What the statement within asks. -/
instance (p : Pc) : Decidable (Seg p) := by unfold Seg; exact inferInstance
def withinR (l : List Pc) : Bool := (l.take 13).all (fun p => decide (Seg p)) && decide ((l.length : Int) ≤ 12)
theorem within_of {l : List Pc} (h : withinR l = true) : l.length ≤ 12 ∧ ∀ p ∈ l, Seg p := by
  simp only [withinR, Bool.and_eq_true, decide_eq_true_eq, List.all_eq_true] at h
  refine ⟨by omega, fun p hp => h.1 p ?_⟩
  rw [List.take_of_length_le (by omega)]
  exact hp
theorem within_no {l : List Pc} {i : Nat} (h1 : i < l.length) (h2 : i < 13) (h : ¬ Seg (l.getD i (Ty.dflt pT))) : withinR l = false := by
  cases hw : withinR l with
  | false => rfl
  | true => exact absurd ((within_of hw).2 _ (getD_mem h1)) h
theorem within_end {l : List Pc} {i : Nat} (hi : ∀ j, j < i → Seg (l.getD j (Ty.dflt pT))) (h : ¬ ((i : Int) < (l.length : Int) ∧ (i : Int) < 13)) (hle : i ≤ l.length) : withinR l = decide ((l.length : Int) ≤ 12) := by
  have : (l.take 13).all (fun p => decide (Seg p)) = true := by
    rw [List.all_eq_true]
    intro p hp
    obtain ⟨j, hj, rfl⟩ := mem_getD (Ty.dflt pT) hp
    rw [List.length_take] at hj
    have e : (l.take 13).getD j (Ty.dflt pT) = l.getD j (Ty.dflt pT) := by
      simp only [List.getD_eq_getElem?_getD, List.getElem?_take]
      rw [if_pos (by omega)]
    rw [e]
    exact decide_eq_true (hi j (by omega))
  unfold withinR
  rw [this, Bool.true_and]
def segB (x : Pc) : Bool := if (if decide (x.1 < 0) = true then true else decide (x.1 > 150)) = true then true else decide ((x.2.1.length : Int) > 50)
theorem seg_t {x : Pc} (h : segB x = true) : ¬ Seg x := by
  intro hs
  obtain ⟨h0, h1, h2⟩ := hs
  have e : pa x = x.1 := rfl
  have e2 : (pd x).length = x.2.1.length := rfl
  simp only [segB, Bool.if_true_left, Bool.decide_eq_true, Bool.or_eq_true, decide_eq_true_eq] at h
  omega
theorem seg_f {x : Pc} (h : segB x = false) : Seg x := by
  have e : pa x = x.1 := rfl
  have e2 : (pd x).length = x.2.1.length := rfl
  simp only [segB, Bool.if_true_left, Bool.decide_eq_true, Bool.or_eq_false_iff, decide_eq_false_iff_not] at h
  unfold Seg
  omega
theorem insM_len {m : List Cl} (hs : Sorted m) (pol : Int) (p : Pc) : (insM m pol p).length ≤ m.length + (pd p).length := by
  have := len_mrg m hs pol (newP p) (pd p).length
  unfold insM
  simp only [mrg, List.length_append] at this ⊢
  omega
def fst4 (p q : Pc) (i : Nat) : Pc := if i % 2 = 1 then q else p
def snd4 (p q : Pc) (i : Nat) : Pc := if i % 2 = 1 then p else q
def polA (i : Nat) : Int := if i = 0 then 1 else 3
def pol4 (i : Nat) : Int := if i = 1 then 2 else polA i
theorem tmod2 {i : Nat} : decide ((i : Int).tmod 2 = 1) = decide (i % 2 = 1) := by
  rw [Int.tmod_eq_emod_of_nonneg (by omega), decide_eq_decide]
  omega
def str4 (p q : Pc) (i : Nat) : List UInt8 := (takeF (J (duo (pol4 i) (fst4 p q i) (snd4 p q i))) (min (pa p) (pa q))).1
def upto4 (p q : Pc) (i j : Nat) : List UInt8 := if j < i then str4 p q j else []
theorem str4_01 (p q : Pc) (hp : Seg p) (hq : Seg q) : str4 p q 0 = str4 p q 1 := congrArg Prod.fst (duo_first p q hp hq (min (pa p) (pa q)))
theorem str4_23 (p q : Pc) (hp : Seg p) (hq : Seg q) (h : p.1 ≠ q.1) : str4 p q 2 = str4 p q 3 := congrArg Prod.fst (duo_bsd p q hp hq h (min (pa p) (pa q)))
theorem mirrors_end (p q : Pc) (hp : Seg p) (hq : Seg q) : (if decide (str4 p q 0 = str4 p q 1) = true then (if decide (str4 p q 2 = str4 p q 3) = true then true else decide (p.1 = q.1)) else false) = true := by
  rw [if_pos (decide_eq_true (str4_01 p q hp hq))]
  by_cases h : p.1 = q.1
  · split
    · rfl
    · exact decide_eq_true h
  · rw [if_pos (decide_eq_true (str4_23 p q hp hq h))]
theorem duo_lenSum (p q : Pc) (i : Nat) (hf : Seg (fst4 p q i)) (hs : Seg (snd4 p q i)) : lenSum (J (duo (pol4 i) (fst4 p q i) (snd4 p q i))) ≤ 1099511627776 := by
  have G := mg_duo (pol4 i) hf hs
  rw [J_lenSum G.2.ok]
  have e1 := insM_len mg_nil.s (pol4 i) (fst4 p q i)
  have e2 := insM_len G.1.s (pol4 i) (snd4 p q i)
  have e3 := hf.2.2
  have e4 := hs.2.2
  have e5 : ([] : List Cl).length = 0 := rfl
  have e6 : (duo (pol4 i) (fst4 p q i) (snd4 p q i)).length = (insM (insM [] (pol4 i) (fst4 p q i)) (pol4 i) (snd4 p q i)).length := rfl
  omega
end Go.Ov
