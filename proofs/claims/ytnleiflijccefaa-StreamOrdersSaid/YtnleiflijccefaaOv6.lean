/- Plain words of chapter 15: the reference's Insert and Take, step by step. -/
import Derived.Test.YtnleiflijccefaaOv5
set_option linter.all false
set_option linter.unusedVariables false
set_option linter.unusedSimpArgs false
namespace Go.Ov
open Go Go.Fw

theorem cells_len (l : List Pc) : ((cells l).length : Int) = lenSum l := by
  induction l with
  | nil => rfl
  | cons o l ih =>
    rw [cells_cons, List.length_append, cellsOf_length]
    simp only [lenSum, Int.natCast_add, ih]
theorem valid_next {l : List Pc} (hv : Valid l) {o : Pc} {r : List Pc} (h : l = o :: r) : OkP o ∧ Valid r ∧ (∀ q, r.head? = some q → endP o ≤ pa q) := by
  subst h
  refine ⟨(hv 0 (by simp)).1, fun j hj => ?_, fun q hq => ?_⟩
  · have h1 := hv (j + 1) (by simp; omega)
    refine ⟨by simpa using h1.1, fun h0 => ?_⟩
    have h2 := h1.2 (by omega)
    obtain ⟨j', rfl⟩ : ∃ j', j = j' + 1 := ⟨j - 1, by omega⟩
    simpa using h2
  · cases r with
    | nil => simp at hq
    | cons q' r =>
      simp only [List.head?_cons, Option.some.injEq] at hq
      subst hq
      have := (hv 1 (by simp)).2 (by omega)
      simpa using this
theorem valid_VB : ∀ {l : List Pc} {E : Int}, Valid l → (∀ q, l.head? = some q → E ≤ pa q) → VB E l
  | [], _, _, _ => trivial
  | o :: r, E, hv, hE => by
    obtain ⟨h1, h2, h3⟩ := valid_next hv rfl
    obtain ⟨a1, a2, a3, a4, a5, a6⟩ := h1
    refine ⟨fun h => a1 (List.length_eq_zero_iff.1 h), hE o rfl, ?_, valid_VB h2 h3⟩
    show pa o + ((pd o).length : Int) ≤ _
    omega
theorem valid_VB0 {l : List Pc} (hv : Valid l) : VB 0 l := valid_VB hv (fun q hq => by
  cases l with
  | nil => simp at hq
  | cons o r =>
    simp only [List.head?_cons, Option.some.injEq] at hq
    subst hq
    have h1 := (hv 0 (by simp)).1
    obtain ⟨a1, a2, a3, a4, a5, a6⟩ := h1
    have : pa ((o :: r).getD 0 (Ty.dflt pT)) = pa o := rfl
    have : pf ((o :: r).getD 0 (Ty.dflt pT)) = pf o := rfl
    omega)
theorem valid_inB {l : List Pc} (hv : Valid l) : ∀ x ∈ l, InB x := fun x hx => by
  obtain ⟨i, hi, rfl⟩ := mem_getD (Ty.dflt pT) hx
  exact vInB hv hi
theorem sorted_cells {l : List Pc} (hv : Valid l) : Sorted (cells l) := (VB_cells (valid_VB0 hv)).1
theorem cells_rng {l : List Pc} (hv : Valid l) : ∀ x ∈ cells l, 0 ≤ x.1 ∧ x.1 < 4294967296 ∧ 0 ≤ x.2.1 ∧ x.2.1 ≤ 255 := (VB_cells (valid_VB0 hv)).2

/-! ### Insert, byte by byte -/
abbrev midN (c : List Cl) (pol : Int) (P : Pc) (k : Nat) : List Cl := lo c P ++ mid c pol P k
theorem below_mid {c : List Cl} {pol : Int} {P : Pc} {i : Nat} {x : Cl} (hx : x ∈ midN c pol P i) : x.1 < P.1 + (i : Int) := by
  rcases List.mem_append.1 hx with h | h
  · have := mem_lo h; omega
  · exact (mem_mid h).2
theorem ins_none {c : List Cl} (hs : Sorted c) {pol : Int} {P : Pc} {k : Nat} (h : atC c (P.1 + k) = none) : putC (newC P (P.1 + k)) (mrg c pol P k) = mrg c pol P (k + 1) := by
  have e1 : mrg c pol P k = midN c pol P k ++ hi_ c P (k : Int) := rfl
  have e2 : mrg c pol P (k + 1) = (lo c P ++ (mid c pol P k ++ [pick c pol P (P.1 + (k : Int))])) ++ hi_ c P ((k + 1 : Nat) : Int) := by rw [mrg, mid_succ]
  have e3 : pick c pol P (P.1 + (k : Int)) = newC P (P.1 + k) := by rw [pick, h]
  rw [e1, put_eq, hi_none hs P k h, e2, e3]
  · simp
  · intro y hy
    exact below_mid hy
  · intro y hy
    rw [hi_none hs P k h] at hy
    have := (mem_hi hy).2
    show P.1 + (k : Int) < y.1
    omega
theorem splice_eq {α : Type} (A Z : List α) (o x : α) : (A ++ o :: Z).take A.length ++ [x] ++ (A ++ o :: Z).drop (A.length + 1) = A ++ x :: Z := by
  rw [List.drop_append, List.take_append]
  simp
theorem ins_win {c : List Cl} (hs : Sorted c) {pol : Int} {P : Pc} {k : Nat} {o : Cl} (h : atC c (P.1 + k) = some o) (hw : winF pol o.2.2.1 o.2.2.2.1 P.2.2.1 P.2.2.2.1 = true) :
    atI (mrg c pol P k) (P.1 + k) 0 = (midN c pol P k).length ∧ (midN c pol P k).length < (mrg c pol P k).length ∧
    (mrg c pol P k).take (midN c pol P k).length ++ [newC P (P.1 + k)] ++ (mrg c pol P k).drop ((midN c pol P k).length + 1) = mrg c pol P (k + 1) ∧ (mrg c pol P k).take (midN c pol P k).length = midN c pol P k := by
  have ho := atC_some h
  have e1 : mrg c pol P k = midN c pol P k ++ o :: hi_ c P ((k + 1 : Nat) : Int) := by rw [mrg, hi_some hs P k h]
  have e2 : mrg c pol P (k + 1) = (lo c P ++ (mid c pol P k ++ [pick c pol P (P.1 + (k : Int))])) ++ hi_ c P ((k + 1 : Nat) : Int) := by rw [mrg, mid_succ]
  have e3 : pick c pol P (P.1 + (k : Int)) = newC P (P.1 + k) := by
    rw [pick, h]; simp only; rw [if_pos hw]
  refine ⟨?_, ?_, ?_, by rw [e1, List.take_left]⟩
  · rw [e1, ← ho.2]
    exact atI_split _ _ o (fun x hx => by have := below_mid hx; omega)
  · rw [e1]; simp
  · rw [e1, splice_eq, e2, e3]
    simp
theorem ins_keep {c : List Cl} (hs : Sorted c) {pol : Int} {P : Pc} {k : Nat} {o : Cl} (h : atC c (P.1 + k) = some o) (hw : winF pol o.2.2.1 o.2.2.2.1 P.2.2.1 P.2.2.2.1 = false) : mrg c pol P k = mrg c pol P (k + 1) := by
  have e1 : mrg c pol P k = midN c pol P k ++ o :: hi_ c P ((k + 1 : Nat) : Int) := by rw [mrg, hi_some hs P k h]
  have e2 : mrg c pol P (k + 1) = (lo c P ++ (mid c pol P k ++ [pick c pol P (P.1 + (k : Int))])) ++ hi_ c P ((k + 1 : Nat) : Int) := by rw [mrg, mid_succ]
  have e3 : pick c pol P (P.1 + (k : Int)) = o := by
    rw [pick, h]; simp only; rw [if_neg (by rw [hw]; simp)]
  rw [e1, e2, e3]
  simp
theorem cnt_succ (f : Int → Bool) (a : Int) (k : Nat) : cnt f a (a + ((k + 1 : Nat) : Int)) = cnt f a (a + k) + (if f (a + k) then 1 else 0) := by
  rw [cnt_add f (a := a) (b := a + k) (c := a + ((k + 1 : Nat) : Int)) (by omega) (by omega)]
  have : a + ((k + 1 : Nat) : Int) = a + k + 1 := by omega
  rw [this, cnt_one]
theorem mrg_zero {c : List Cl} (hs : Sorted c) (pol : Int) (P : Pc) : mrg c pol P 0 = c := by
  refine sorted_ext (sorted_mrg hs pol P 0) hs (fun a => ?_)
  have h1 : atC (lo c P) a = if decide (a < P.1) then atC c a else none := atC_filter hs (fun b => decide (b < P.1)) a
  have h2 : atC (hi_ c P ((0 : Nat) : Int)) a = if decide (P.1 + ((0 : Nat) : Int) ≤ a) then atC c a else none := atC_filter hs (fun b => decide (P.1 + ((0 : Nat) : Int) ≤ b)) a
  rw [mrg, atC_append, atC_append, h1, h2]
  have e : atC (mid c pol P 0) a = none := rfl
  rw [e]
  by_cases h : a < P.1
  · have : ¬ P.1 ≤ a := by omega
    simp [h, this]
  · have : P.1 ≤ a := by omega
    simp [h, this]
theorem mrg_small {c : List Cl} (hs : Sorted c) (hc : ∀ x ∈ c, 0 ≤ x.1 ∧ x.1 < 4294967296 ∧ 0 ≤ x.2.1 ∧ x.2.1 ≤ 255) (hcl : c.length ≤ 68719476736) (pol : Int) {P : Pc} (h0 : 0 ≤ P.1 ∧ P.1 ≤ 2147483648) (k : Nat) (hn : k ≤ 4294967296) : SmallC (mrg c pol P k) := by
  refine ⟨fun x hx => ?_, ?_⟩
  · rcases List.mem_append.1 hx with hx | hx
    · rcases List.mem_append.1 hx with hx | hx
      · have := hc x (mem_lo hx).1
        omega
      · have := mem_mid hx
        omega
    · have := hc x (mem_hi hx).1
      omega
  · have := len_mrg c hs pol P k
    rw [mrg, List.length_append]
    omega
theorem iok_of {l : List Pc} (hv : Valid l) {p : Pc} (hne : pd p ≠ []) (pol : Int) : IOk (mrg (cells l) pol (newP p) (pd p).length) l pol (newP p) :=
  ⟨sorted_mrg (sorted_cells hv) _ _ _, fun h => hne (List.length_eq_zero_iff.1 h), rfl, fun a => atC_mrg (sorted_cells hv) pol (newP p) a⟩

/-! ### Take -/
theorem take_cells : ∀ {l : List Pc} {E : Int} (out : List UInt8) (t : Int), VB E l → ∃ B : List UInt8, l.foldl takeS (out, t) = (out ++ B, t + B.length) ∧
    (∀ k, k < B.length → ∃ o, atC (cells l) (t + (k : Int)) = some o ∧ o.2.1 = ((B.getD k 0).toNat : Int)) ∧ atC (cells l) (t + (B.length : Int)) = none
  | [], E, out, t, _ => ⟨[], by simp, fun k hk => by simp at hk, rfl⟩
  | o :: l, E, out, t, hv => by
    obtain ⟨hgap, hin, hbeh⟩ := atC_head (c := cells (o :: l)) hv (fun a _ => rfl)
    obtain ⟨hv0, hv1, hv2, hv3⟩ := hv
    rw [List.foldl_cons]
    by_cases h : pa o ≤ t ∧ endP o > t
    · have h1 : o.1 ≤ t := h.1
      have h2 : t < o.1 + o.2.1.length := h.2
      have e : takeS (out, t) o = (out ++ (pd o).drop (t - pa o).toNat, endP o) := if_pos h
      rw [e]
      obtain ⟨B, q1, q2, q3⟩ := take_cells (out ++ (pd o).drop (t - pa o).toNat) (endP o) hv3
      have hl : (((pd o).drop (t - pa o).toNat).length : Int) = endP o - t := by
        rw [List.length_drop]
        show (((o.2.1.length - (t - o.1).toNat : Nat)) : Int) = o.1 + o.2.1.length - t
        omega
      have hlt : t + ((((pd o).drop (t - pa o).toNat ++ B).length : Nat) : Int) = endP o + B.length := by
        rw [List.length_append]; omega
      have hend : endP o = o.1 + o.2.1.length := rfl
      refine ⟨(pd o).drop (t - pa o).toNat ++ B, by rw [q1, List.append_assoc, hlt], fun k hk => ?_, ?_⟩
      · rcases Nat.lt_or_ge k ((pd o).drop (t - pa o).toNat).length with hk1 | hk1
        · refine ⟨_, hin (t + k) (by omega) (by omega), ?_⟩
          show bt o.2.1 (t + k - o.1) = _
          unfold bt
          have e1 : (t + (k : Int) - o.1).toNat = (t - pa o).toNat + k := by show _ = (t - o.1).toNat + k; omega
          rw [e1]
          simp only [List.getD_eq_getElem?_getD, List.getElem?_append_left hk1, List.getElem?_drop]
        · have hk2 : k - ((pd o).drop (t - pa o).toNat).length < B.length := by rw [List.length_append] at hk; omega
          obtain ⟨x, hx1, hx2⟩ := q2 _ hk2
          refine ⟨x, ?_, ?_⟩
          · rw [hbeh (t + k) (by omega)]
            have : t + (k : Int) = endP o + ((k - ((pd o).drop (t - pa o).toNat).length : Nat) : Int) := by omega
            rw [this]; exact hx1
          · rw [hx2]
            simp only [List.getD_eq_getElem?_getD, List.getElem?_append_right hk1]
      · rw [hlt, hbeh _ (by omega)]
        exact q3
    · have e : takeS (out, t) o = (out, t) := if_neg h
      rw [e]
      obtain ⟨B, q1, q2, q3⟩ := take_cells out t hv3
      have hend : endP o = o.1 + o.2.1.length := rfl
      by_cases h1 : pa o ≤ t
      · have h2 : o.1 + o.2.1.length ≤ t := by
          by_cases h3 : endP o > t
          · exact absurd ⟨h1, h3⟩ h
          · omega
        exact ⟨B, q1, fun k hk => by rw [hbeh _ (by omega)]; exact q2 k hk, by rw [hbeh _ (by omega)]; exact q3⟩
      · have h1' : t < o.1 := by show t < pa o; omega
        have hB : B = [] := by
          cases B with
          | nil => rfl
          | cons b B =>
            obtain ⟨x, hx1, _⟩ := q2 0 (by simp)
            have hx := atC_some hx1
            have := ((VB_cells hv3).2 x hx.1).1
            have := hx.2
            omega
        subst hB
        refine ⟨[], q1, fun k hk => by simp at hk, ?_⟩
        rw [cells_cons, atC_append, atC_cellsOf, if_neg (by simp; omega)]
        exact q3
theorem tupSL {s t : List UInt8} {x y : List Pc} (h : s = t) (k : x = y) : AV.tup [.str s, .list pT x] = AV.tup [.str t, .list pT y] := by rw [h, k]
structure TakeOk (l : List Pc) (a : Int) : Prop where
  end_ : (takeF l a).2 = a + (takeF l a).1.length
  some_ : ∀ k, k < (takeF l a).1.length → ∃ o, atC (cells l) (a + (k : Int)) = some o ∧ o.2.1 = (((takeF l a).1.getD k 0).toNat : Int)
  none_ : atC (cells l) (a + ((takeF l a).1.length : Int)) = none
theorem takeOk {l : List Pc} (hv : Valid l) (a : Int) : TakeOk l a := by
  obtain ⟨B, q1, q2, q3⟩ := take_cells [] a (valid_VB0 hv)
  have e : takeF l a = (B, a + B.length) := by rw [takeF, q1]; simp
  exact ⟨by rw [e], by rw [e]; exact q2, by rw [e]; exact q3⟩
theorem intsOf_take (B : List UInt8) (k : Nat) (h : k < B.length) : intsOf (B.take (k + 1)) = intsOf (B.take k) ++ [((B.getD k 0).toNat : Int)] := by
  rw [take_getD 0 h, intsOf_app]; rfl
theorem TakeOk.at_ {l : List Pc} {a : Int} (h : TakeOk l a) (hv : Valid l) {k : Nat} (hk : k < (takeF l a).1.length) :
    0 ≤ atI (cells l) (a + k) 0 ∧ atI (cells l) (a + k) 0 < (cells l).length ∧ (0 ≤ a + k ∧ a + k < 4294967296) ∧
    intsOf ((takeF l a).1.take (k + 1)) = intsOf ((takeF l a).1.take k) ++ [((cells l).getD (atI (cells l) (a + k) 0).toNat cD).2.1] := by
  obtain ⟨o, h1, h2⟩ := h.some_ k hk
  obtain ⟨n, n1, n2, n3, _⟩ := atI_some (n := 0) h1
  have ho := atC_some h1
  have hr := cells_rng hv o ho.1
  have e : (atI (cells l) (a + k) 0).toNat = n := by omega
  exact ⟨by omega, by omega, by omega, by rw [intsOf_take _ _ hk, e, n3, h2]⟩
theorem TakeOk.lt {l : List Pc} {a : Int} (h : TakeOk l a) {k : Nat} (hk : k ≤ (takeF l a).1.length) (hc : atI (cells l) (a + k) 0 ≥ 0) : k < (takeF l a).1.length := by
  rcases Nat.lt_or_ge k (takeF l a).1.length with h1 | h1
  · exact h1
  · have e : k = (takeF l a).1.length := by omega
    rw [e, atI_none h.none_] at hc
    omega
theorem TakeOk.eq {l : List Pc} {a : Int} (h : TakeOk l a) (hv : Valid l) {k : Nat} (hk : k ≤ (takeF l a).1.length) (hc : ¬ atI (cells l) (a + k) 0 ≥ 0) : k = (takeF l a).1.length := by
  rcases Nat.lt_or_ge k (takeF l a).1.length with h1 | h1
  · exact absurd (h.at_ hv h1).1 hc
  · omega
theorem freeze_le {α : Type} (A ys : List α) : A.length + ys.length ≤ (A.take A.length ++ ys).length := by simp
theorem newC_eq {p : Pc} {k : Nat} (w : IntKind.i64.wrap (pa p + (k : Int)) = pa p + k) : ((IntKind.i64.wrap (pa p + (k : Int)), (((pd p).getD (k : Int).toNat 0).toNat : Int), pa p, endP p, ()) : Cl) = newC (newP p) (pa p + k) := by
  rw [w]
  have e : (pa p + (k : Int) - pa p).toNat = k := by omega
  show _ = (pa p + (k : Int), (((pd p).getD (pa p + (k : Int) - pa p).toNat 0).toNat : Int), pa p, endP p, ())
  rw [e]; rfl
def conN (l : List Pc) (p : Pc) (k : Nat) : Nat := cnt (cfB (cells l) (newP p)) (pa p) (pa p + (k : Int))
def covN (l : List Pc) (p : Pc) (k : Nat) : Nat := cnt (covB (cells l)) (pa p) (pa p + (k : Int))
theorem conN_le (l : List Pc) (p : Pc) (k : Nat) : conN l p k ≤ k := by
  unfold conN
  have := cnt_le (cfB (cells l) (newP p)) (pa p) (pa p + (k : Int)); omega
theorem covN_le (l : List Pc) (p : Pc) (k : Nat) : covN l p k ≤ k := by
  unfold covN
  have := cnt_le (covB (cells l)) (pa p) (pa p + (k : Int)); omega
theorem at_neg {c : List Cl} {a : Int} (h : atI c a 0 < 0) : atC c a = none := by
  cases hc : atC c a with
  | none => rfl
  | some o =>
    obtain ⟨n, _, n2, _, _⟩ := atI_some (n := 0) hc
    omega
theorem at_pos {c : List Cl} {a : Int} (h : ¬ atI c a 0 < 0) : atC c a = some (c.getD (atI c a 0).toNat cD) ∧ 0 ≤ atI c a 0 ∧ atI c a 0 < c.length := by
  cases hc : atC c a with
  | none => rw [atI_none hc] at h; omega
  | some o =>
    obtain ⟨n, n1, n2, n3, _⟩ := atI_some (n := 0) hc
    have e : (atI c a 0).toNat = n := by omega
    exact ⟨by rw [e, n3], by omega, by omega⟩
theorem covN_none {l : List Pc} {p : Pc} {k : Nat} (h : atC (cells l) (pa p + k) = none) : covN l p (k + 1) = covN l p k ∧ conN l p (k + 1) = conN l p k := by
  unfold covN conN
  rw [cnt_succ, cnt_succ]
  simp [covB, cfB, h]
theorem covN_some {l : List Pc} {p : Pc} {k : Nat} {o : Cl} (h : atC (cells l) (pa p + k) = some o) : covN l p (k + 1) = covN l p k + 1 := by
  unfold covN
  rw [cnt_succ]
  simp [covB, h]
theorem conN_some {l : List Pc} {p : Pc} {k : Nat} {o : Cl} (h : atC (cells l) (pa p + k) = some o) : conN l p (k + 1) = conN l p k + (if o.2.1 ≠ (newC (newP p) (pa p + k)).2.1 then 1 else 0) := by
  unfold conN
  rw [cnt_succ]
  simp only [cfB, h]
  by_cases h2 : o.2.1 = bt (newP p).2.1 (pa p + (k : Int) - (newP p).1) <;> simp [h2, newC]
theorem insR_end {l : List Pc} {p : Pc} {pol : Int} (hv : Valid l) (h : decide (p.2.1 = []) = false) (h2 : rangeB p.1 pol = false) : insR l p pol =
    (if pol = 5 ∧ ((covN l p (pd p).length : Nat) : Int) > 0 then (if ((covN l p (pd p).length : Nat) : Int) = (pd p).length ∧ ((conN l p (pd p).length : Nat) : Int) = 0 then (l, 0, 0) else ([], 0, 17))
    else if (J (mrg (cells l) pol (newP p) (pd p).length)).length > 64 then ([], 0, 11) else (J (mrg (cells l) pol (newP p) (pd p).length), ((conN l p (pd p).length : Nat) : Int), 0)) := by
  have I := iok_of hv (of_decide_eq_false h) pol
  have h0 : 0 ≤ pa p := by have := rangeB_f h2; show 0 ≤ p.1; omega
  obtain ⟨e1, e2, e3⟩ := insAll_eq I (valid_VB0 hv) h0
  rw [insR_go h h2, e1]
  have e2' : (insAll pol (newP p) l).conf = ((conN l p (pd p).length : Nat) : Int) := e2
  have e3' : (insAll pol (newP p) l).cov = ((covN l p (pd p).length : Nat) : Int) := e3
  rw [e2', e3']
end Go.Ov
