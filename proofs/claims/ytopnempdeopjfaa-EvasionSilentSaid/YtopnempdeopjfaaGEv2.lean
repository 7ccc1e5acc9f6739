import Derived.Test.YtopnempdeopjfaaGEv1
set_option linter.all false
/- Plain words of chapter 24: folding. -/
namespace Go.Ov
open Go Go.Fw
def zP (p : Pc) : Pc := (pa p, pd p, 0, 0, ())
/-- The pieces that neither overlap nor touch, after k pieces of a buffer. -/
def foldZ (L : List Pc) (k : Nat) : List Pc := ((L.take k).map zP).foldl joinP []
def fin (p : Pc) : Pc := (pa p, pd p, pa p, endP p, ())
def foldF (L : List Pc) : List Pc := (foldZ L L.length).map fin
theorem foldZ_zero (L : List Pc) : foldZ L 0 = [] := by simp [foldZ]
theorem foldZ_next {L : List Pc} {k : Nat} (h : k < L.length) : foldZ L (k + 1) = joinP (foldZ L k) (zP (L.getD k (Ty.dflt pT))) := by
  unfold foldZ
  rw [List.take_succ, List.map_append, List.foldl_append, List.getD_eq_getElem?_getD]
  simp [h]
theorem foldZ_len (L : List Pc) : ∀ k, (foldZ L k).length ≤ k
  | 0 => by rw [foldZ_zero]; exact Nat.le_refl _
  | k + 1 => by
    by_cases h : k < L.length
    · rw [foldZ_next h, ← joinL_eq]
      have := joinL_len (foldZ L k) (zP (L.getD k (Ty.dflt pT)))
      have := foldZ_len L k
      omega
    · unfold foldZ
      have := foldZ_len L k
      unfold foldZ at this
      rw [List.take_of_length_le (by omega)] at this ⊢
      omega
theorem fold_join {out : List Pc} {a : Int} {s : List UInt8} {p : Pc} (h : pa p = a + s.length) : joinP (out ++ [(a, s, 0, 0, ())]) (zP p) = out ++ [(a, s ++ pd p, 0, 0, ())] := by
  rw [joinP_snoc, if_pos ⟨h.symm, rfl, rfl⟩]; rfl
theorem fold_break {out : List Pc} {a : Int} {s : List UInt8} {p : Pc} (h : ¬ pa p = a + s.length) : joinP (out ++ [(a, s, 0, 0, ())]) (zP p) = (out ++ [(a, s, 0, 0, ())]) ++ [zP p] := by
  rw [joinP_snoc, if_neg (fun q => h q.1.symm)]; simp
/-- A piece whose offsets a fold may reckon with. -/
def InF (p : Pc) : Prop := 0 ≤ pa p ∧ endP p ≤ 4294967296
theorem valid_inF {l : List Pc} (h : Valid l) {i : Nat} (hi : i < l.length) : InF (l.getD i (Ty.dflt pT)) := by
  obtain ⟨h1, h2, h3, h4, h5, h6⟩ := (h i hi).1
  unfold InF endP
  exact ⟨by omega, by omega⟩
/-- At a piece where a new run begins. -/
def RnAt (L : List Pc) (i : Nat) (out : List Pc) : Prop := i ≤ L.length ∧ foldZ L i = out ∧ (i < L.length → joinP out (zP (L.getD i (Ty.dflt pT))) = out ++ [zP (L.getD i (Ty.dflt pT))])
/-- Within a run from i, at k. -/
def RnIn (L : List Pc) (out : List Pc) (a : Int) (i k : Nat) (s : List UInt8) : Prop := i ≤ k ∧ k ≤ L.length ∧ 0 ≤ a ∧ a + s.length ≤ 4294967296 ∧ ((k = i ∧ s = []) ∨ (i < k ∧ foldZ L k = out ++ [(a, s, 0, 0, ())]))
theorem rnZero (L : List Pc) : RnAt L 0 [] := ⟨Nat.zero_le _, foldZ_zero L, fun _ => by rw [joinP_nil]; rfl⟩
theorem rnStart {L : List Pc} {i : Nat} {out : List Pc} (h : RnAt L i out) (hi : i < L.length) (hv : Valid L) : RnIn L out (pa (L.getD i (Ty.dflt pT))) i i [] := by
  have := valid_inF hv hi
  unfold InF endP at this
  exact ⟨Nat.le_refl _, h.1, this.1, by show pa _ + ((0 : Nat) : Int) ≤ _; omega, .inl ⟨rfl, rfl⟩⟩
theorem rnMore {L : List Pc} {i k : Nat} {out : List Pc} {s : List UInt8} (h0 : RnAt L i out) (hi : i < L.length) (hv : Valid L) (h : RnIn L out (pa (L.getD i (Ty.dflt pT))) i k s) (hk : k < L.length) (he : pa (L.getD k (Ty.dflt pT)) = pa (L.getD i (Ty.dflt pT)) + s.length) :
    RnIn L out (pa (L.getD i (Ty.dflt pT))) i (k + 1) (s ++ pd (L.getD k (Ty.dflt pT))) := by
  obtain ⟨h1, h2, h3, h4, h5⟩ := h
  have hf := valid_inF hv hk
  unfold InF endP at hf
  refine ⟨by omega, hk, h3, by rw [List.length_append]; omega, .inr ⟨by omega, ?_⟩⟩
  rcases h5 with ⟨rfl, rfl⟩ | ⟨h5, h6⟩
  · rw [foldZ_next hk, h0.2.1, h0.2.2 hi]; rfl
  · rw [foldZ_next hk, h6, fold_join he]
theorem rnStop {L : List Pc} {i k : Nat} {out : List Pc} {s : List UInt8} (hi : i < L.length) (h : RnIn L out (pa (L.getD i (Ty.dflt pT))) i k s) (he : ¬ (k < L.length ∧ pa (L.getD k (Ty.dflt pT)) = pa (L.getD i (Ty.dflt pT)) + s.length)) :
    i < k ∧ RnAt L k (out ++ [(pa (L.getD i (Ty.dflt pT)), s, 0, 0, ())]) := by
  obtain ⟨h1, h2, h3, h4, h5⟩ := h
  rcases h5 with ⟨rfl, rfl⟩ | ⟨h5, h6⟩
  · exact absurd ⟨hi, (Int.add_zero _).symm⟩ he
  · exact ⟨h5, h2, h6, fun hk => fold_break (fun q => he ⟨hk, q⟩)⟩
theorem rnFin {a : Int} {s : List UInt8} : fin (a, s, 0, 0, ()) = (a, s, a, a + s.length, ()) := rfl
theorem rnLen {L : List Pc} {i : Nat} {out : List Pc} (h : RnAt L i out) : out.length ≤ i := by rw [← h.2.1]; exact foldZ_len L i
def foldV (l : List Pc) (pol : Int) : List Pc := if pol < 1 ∨ pol > 4 then [] else foldF (bufE l pol)
/-! ### the same from the cells -/
def zC (c : Cl) : Cl := (c.1, c.2.1, 0, 0, ())
theorem mkC_z (f t a : Int) : ∀ (l : List Int) (b : Int), (mkC f t b l).map zC = mkC 0 0 b l
  | [], b => rfl
  | x :: l, b => by
    have := mkC_z f t a l (b + 1)
    simp only [mkC, List.map_cons, this]
    rfl
theorem cells_z (L : List Pc) : cells (L.map zP) = (cells L).map zC := by
  unfold cells
  rw [List.flatMap_map, List.map_flatMap]
  congr 1
  funext p
  unfold cellsOf
  exact (mkC_z p.2.2.1 p.2.2.2.1 0 (bytesOf p.2.1) p.1).symm
theorem zg (c : List Cl) (i : Nat) : (c.map zC).getD i cD = zC (c.getD i cD) := by
  rw [List.getD_eq_getElem?_getD, List.getD_eq_getElem?_getD, List.getElem?_map]
  cases c[i]? <;> rfl
theorem runB_z (c : List Cl) (i k : Nat) : runB (c.map zC) i k = runB c i k := by
  unfold runB
  rw [← List.map_drop, ← List.map_take, List.map_map]
  rfl
def runD (c : List Cl) (i k : Nat) : Bool := if decide ((k : Int) < (c.length : Int)) = true then decide ((c.getD k cD).1 = IntKind.i64.wrap (IntKind.i64.wrap ((c.getD i cD).1 + k) - i)) else false
theorem runD_eq (c : List Cl) (i k : Nat) : runC (c.map zC) i k = runD c i k := by
  unfold runC runD
  rw [zg, zg, List.length_map]
  simp [zC]
theorem smallZ {c : List Cl} (h : SmallC c) : SmallC (c.map zC) := ⟨fun x hx => by
  obtain ⟨y, hy, rfl⟩ := List.mem_map.1 hx
  exact h.1 y hy, by rw [List.length_map]; exact h.2⟩
theorem smallB {l : List Pc} (hv : Valid l) : SmallC (cells l) := ⟨fun c hc => by have := cells_rng hv c hc; omega, by
  have h1 := cells_len l
  have h2 := lenSum_le hv
  omega⟩
/-- The pieces that the cells before i fold into. -/
def FZ (c : List Cl) (i : Nat) : List Pc := (J ((c.map zC).take i)).map fin
theorem FZ_len (c : List Cl) (i : Nat) : (FZ c i).length ≤ i := by
  unfold FZ
  rw [List.length_map]
  have := J_len ((c.map zC).take i)
  rw [List.length_take] at this; omega
theorem FZ_end {c : List Cl} (hs : SmallC c) {i k : Nat} (hr : Run (c.map zC) i k) (hi : i < c.length) (hc : runD c i k = false) :
    i < k ∧ FZ c k = FZ c i ++ [((c.getD i cD).1, strOfNums (runB c i k), (c.getD i cD).1, (c.getD i cD).1 + ((strOfNums (runB c i k)).length : Int), ())] ∧ Brk (c.map zC) k := by
  have := run_end (smallZ hs) hr (by rw [List.length_map]; exact hi) ((runD_eq c i k).trans hc)
  refine ⟨this.1, ?_, this.2.2⟩
  unfold FZ
  rw [this.2.1, List.map_append]
  unfold runP
  rw [runB_z, zg]
  rfl
theorem foldF_cells {L : List Pc} (h : ∀ p ∈ L, pd p ≠ []) : foldF L = (J ((cells L).map zC)).map fin := by
  unfold foldF foldZ
  rw [List.take_length, fold_J _ (fun q hq => by
    obtain ⟨p, hp, rfl⟩ := List.mem_map.1 hq
    exact fun e => h p hp (List.length_eq_zero_iff.1 e)), cells_z]
theorem foldF_FZ {L : List Pc} (h : ∀ p ∈ L, pd p ≠ []) : FZ (cells L) (cells L).length = foldF L := by
  rw [foldF_cells h]
  unfold FZ
  rw [List.take_of_length_le (by rw [List.length_map]; exact Nat.le_refl _)]
theorem valid_ne {l : List Pc} (h : Valid l) : ∀ p ∈ l, pd p ≠ [] := fun p hp => by
  obtain ⟨j, hj, rfl⟩ := List.getElem_of_mem hp
  have := (h j hj).1.1
  rwa [List.getD_eq_getElem?_getD, List.getElem?_eq_getElem hj] at this
end Go.Ov

/- Plain words of chapter 24: four variants, where they differ, how they group. -/
namespace Go.Ov
open Go Go.Fw
/-- The variants of the four policies. -/
abbrev V4 := List UInt8 × List UInt8 × List UInt8 × List UInt8
def v4 (l : List Pc) : V4 := (varE l 1, varE l 2, varE l 3, varE l 4)
def vAt (v : V4) (j : Nat) : List UInt8 := if j = 0 then v.1 else if j = 1 then v.2.1 else if j = 2 then v.2.2.1 else v.2.2.2
def vL (v : V4) : List (List UInt8) := [v.1, v.2.1, v.2.2.1, v.2.2.2]
theorem vL_at (v : V4) {j : Nat} (h : j < 4) (d : List UInt8) : (vL v).getD j d = vAt v j := by
  match j, h with
  | 0, _ => rfl
  | 1, _ => rfl
  | 2, _ => rfl
  | 3, _ => rfl
def AllEq (v : V4) : Prop := v.2.1 = v.1 ∧ v.2.2.1 = v.1 ∧ v.2.2.2 = v.1
instance (v : V4) : Decidable (AllEq v) := by unfold AllEq; exact inferInstance
/-- The variants agree at an offset: the same byte, or none. -/
def SameAt (v : V4) (a : Nat) : Prop := v.2.1[a]? = v.1[a]? ∧ v.2.2.1[a]? = v.1[a]? ∧ v.2.2.2[a]? = v.1[a]?
def WhereIs (v : V4) (r : Int) : Prop := (AllEq v ∧ r = -1) ∨ (∃ n : Nat, r = n ∧ (∀ a, a < n → SameAt v a) ∧ ¬ SameAt v n)
theorem allEq_same {v : V4} (h : AllEq v) (a : Nat) : SameAt v a := by
  obtain ⟨h1, h2, h3⟩ := h
  exact ⟨by rw [h1], by rw [h2], by rw [h3]⟩
theorem same_allEq {v : V4} (h : ∀ a, SameAt v a) : AllEq v :=
  ⟨List.ext_getElem? fun a => (h a).1, List.ext_getElem? fun a => (h a).2.1, List.ext_getElem? fun a => (h a).2.2⟩
theorem where_uniq {v : V4} {r s : Int} (h : WhereIs v r) (k : WhereIs v s) : r = s := by
  rcases h with ⟨h1, rfl⟩ | ⟨n, rfl, h1, h2⟩
  · rcases k with ⟨_, rfl⟩ | ⟨m, rfl, k1, k2⟩
    · rfl
    · exact absurd (allEq_same h1 m) k2
  · rcases k with ⟨k1, rfl⟩ | ⟨m, rfl, k1, k2⟩
    · exact absurd (allEq_same k1 n) h2
    · rcases Nat.lt_trichotomy n m with q | q | q
      · exact absurd (k1 n q) h2
      · rw [q]
      · exact absurd (h1 m q) k2
/-- The bound behind which nothing is. -/
def vMax (v : V4) : Nat := v.1.length + v.2.1.length + v.2.2.1.length + v.2.2.2.length
theorem same_far {v : V4} {a : Nat} (h : vMax v ≤ a) : SameAt v a := by
  unfold vMax at h
  unfold SameAt
  rw [List.getElem?_eq_none (by omega), List.getElem?_eq_none (by omega), List.getElem?_eq_none (by omega), List.getElem?_eq_none (by omega)]
  exact ⟨rfl, rfl, rfl⟩
theorem differ_near {v : V4} {n : Nat} (h : ¬ AllEq v) (k : ∀ a, a < n → SameAt v a) : n < vMax v := by
  rcases Nat.lt_or_ge n (vMax v) with q | q
  · exact q
  · exact absurd (same_allEq fun a => by
      rcases Nat.lt_or_ge a n with p | p
      · exact k a p
      · exact same_far (by omega)) h
theorem where_ex (v : V4) : ∃ r, WhereIs v r := by
  by_cases h : AllEq v
  · exact ⟨-1, .inl ⟨h, rfl⟩⟩
  · have : ∃ n, ¬ SameAt v n := Classical.byContradiction fun q => h (same_allEq fun a => Classical.byContradiction fun p => q ⟨a, p⟩)
    obtain ⟨n, hn⟩ := this
    have key : ∀ m, (∃ k, k < m ∧ ¬ SameAt v k) → ∃ r, WhereIs v r := by
      intro m
      induction m with
      | zero => rintro ⟨k, hk, _⟩; omega
      | succ m ih =>
        rintro ⟨k, hk, hd⟩
        by_cases q : ∃ k, k < m ∧ ¬ SameAt v k
        · exact ih q
        · have hkm : k = m := by
            rcases Nat.lt_or_ge k m with p | p
            · exact absurd ⟨k, p, hd⟩ q
            · omega
          subst hkm
          exact ⟨k, .inr ⟨k, rfl, fun a ha => Classical.byContradiction fun p => q ⟨a, ha, p⟩, hd⟩⟩
    exact key (n + 1) ⟨n, by omega, hn⟩
noncomputable def whereM (v : V4) : Int := Classical.choose (where_ex v)
theorem whereM_is (v : V4) : WhereIs v (whereM v) := Classical.choose_spec (where_ex v)
theorem whereM_eq {v : V4} {r : Int} (h : WhereIs v r) : whereM v = r := where_uniq (whereM_is v) h
theorem where_neg {v : V4} : whereM v = -1 ↔ AllEq v := by
  constructor
  · intro h
    rcases whereM_is v with ⟨q, _⟩ | ⟨n, q, _⟩
    · exact q
    · rw [h] at q; omega
  · intro h; exact whereM_eq (.inl ⟨h, rfl⟩)
theorem where_ge {v : V4} : decide (whereM v ≥ 0) = !decide (AllEq v) := by
  rcases whereM_is v with ⟨q, e⟩ | ⟨n, e, q1, q2⟩
  · rw [e, decide_eq_true q]; rfl
  · rw [e, decide_eq_false (fun h => q2 (allEq_same h n))]
    exact decide_eq_true (by omega)
/-! ### the program's comparison at an offset -/
/-- A byte of two texts, or their ends, differ. -/
theorem at_some {s : List UInt8} {a : Nat} (h : a < s.length) : s[a]? = some (s.getD a 0) := by rw [List.getD_eq_getElem?_getD, List.getElem?_eq_getElem h]; rfl
theorem at_none {s : List UInt8} {a : Nat} (h : s.length ≤ a) : s[a]? = none := List.getElem?_eq_none h
theorem at_end {s t : List UInt8} {a : Nat} (h : s.length ≤ a ∨ t.length ≤ a) : (s[a]? = t[a]?) ↔ (decide (s.length ≤ a) = decide (t.length ≤ a)) := by
  rcases Nat.lt_or_ge a s.length with q | q <;> rcases Nat.lt_or_ge a t.length with p | p
  · omega
  · rw [at_some q, at_none p, decide_eq_false (by omega), decide_eq_true p]; simp
  · rw [at_none q, at_some p, decide_eq_true q, decide_eq_false (by omega)]; simp
  · rw [at_none q, at_none p, decide_eq_true q, decide_eq_true p]; simp
theorem at_byte {s t : List UInt8} {a : Nat} (h1 : a < s.length) (h2 : a < t.length) : (s[a]? = t[a]?) ↔ s.getD a 0 = t.getD a 0 := by
  rw [at_some h1, at_some h2]; simp
theorem amb_eq (v : V4) : (decide (v.1 = v.1) && (decide (v.2.1 = v.1) && (decide (v.2.2.1 = v.1) && (decide (v.2.2.2 = v.1) && true)))) = decide (AllEq v) := by
  rw [Bool.eq_iff_iff, decide_eq_true_iff]
  unfold AllEq
  simp
/-- What the program asks of a text at an offset, against the first: true if they differ there. -/
theorem diff_end {s t : List UInt8} {a : Nat} (h : (if decide ((s.length : Int) ≤ (a : Int)) = true then true else decide ((t.length : Int) ≤ (a : Int))) = true) :
    decide (decide ((s.length : Int) ≤ (a : Int)) ≠ decide ((t.length : Int) ≤ (a : Int))) = !decide (s[a]? = t[a]?) := by
  have e : s.length ≤ a ∨ t.length ≤ a := by
    by_cases q : (s.length : Int) ≤ (a : Int)
    · exact .inl (by omega)
    · rw [decide_eq_false q] at h
      exact .inr (by have := of_decide_eq_true h; omega)
  have k := at_end e
  rw [show decide ((s.length : Int) ≤ (a : Int)) = decide (s.length ≤ a) from by rw [decide_eq_decide]; omega, show decide ((t.length : Int) ≤ (a : Int)) = decide (t.length ≤ a) from by rw [decide_eq_decide]; omega]
  rw [← decide_not, decide_eq_decide]
  exact not_congr k.symm
theorem in_both {s t : List UInt8} {a : Nat} (h : (if decide ((s.length : Int) ≤ (a : Int)) = true then true else decide ((t.length : Int) ≤ (a : Int))) = false) : a < s.length ∧ a < t.length := by
  by_cases q : (s.length : Int) ≤ (a : Int)
  · rw [decide_eq_true q] at h; cases h
  · rw [decide_eq_false q] at h
    have := of_decide_eq_false h
    omega
theorem diff_byte {s t : List UInt8} {a : Nat} (h : a < s.length ∧ a < t.length) : decide (((s.getD a 0).toNat : Int) ≠ ((t.getD a 0).toNat : Int)) = !decide (s[a]? = t[a]?) := by
  rw [← decide_not, decide_eq_decide]
  refine not_congr ((at_byte h.1 h.2).trans ?_).symm
  constructor
  · intro e; rw [e]
  · intro e; exact UInt8.toNat_inj.1 (by omega)
theorem same_four {v : V4} {a : Nat} (h1 : v.2.1[a]? = v.1[a]?) (h2 : v.2.2.1[a]? = v.1[a]?) (h3 : v.2.2.2[a]? = v.1[a]?) : SameAt v a := ⟨h1, h2, h3⟩
theorem not_same {v : V4} {a j : Nat} (h : ¬ (vAt v j)[a]? = v.1[a]?) : ¬ SameAt v a := by
  intro k
  unfold vAt at h
  split at h
  · exact h rfl
  · split at h
    · exact h k.1
    · split at h
      · exact h k.2.1
      · exact h k.2.2
/-! ### groups -/
/-- The group of a policy's number: the later ones with its variant; none if an earlier one has it. -/
def grpOf (v : V4) (i : Nat) : List Int := ((List.range 4).filter fun k => decide (i ≤ k) && decide (vAt v k = vAt v i)).map fun k => ((k + 1 : Nat) : Int)
def isFirst (v : V4) (i : Nat) : Bool := (List.range i).all fun k => !decide (vAt v k = vAt v i)
def kindsM (v : V4) : List (List Int) := ((List.range 4).filter fun i => isFirst v i).map (grpOf v)
/-! ### how the reference finds the offset -/
/-- How many of the first i variants have ended at an offset. -/
def endN (v : V4) (a i : Nat) : Nat := ((List.range i).filter fun k => decide ((vAt v k).length ≤ a)).length
theorem endN_next (v : V4) (a i : Nat) : endN v a (i + 1) = if (vAt v i).length ≤ a then endN v a i + 1 else endN v a i := by
  unfold endN
  rw [List.range_succ, List.filter_append, List.length_append]
  by_cases q : (vAt v i).length ≤ a
  · rw [if_pos q]; simp [q]
  · rw [if_neg q]; simp [q]
theorem endN_le (v : V4) (a : Nat) : ∀ i, endN v a i ≤ i
  | 0 => by simp [endN]
  | i + 1 => by
    rw [endN_next]
    have := endN_le v a i
    split <;> omega
theorem endN_all {v : V4} {a : Nat} : ∀ {i : Nat}, endN v a i = i → ∀ k, k < i → (vAt v k).length ≤ a
  | 0, _, k, hk => by omega
  | i + 1, h, k, hk => by
    rw [endN_next] at h
    have := endN_le v a i
    split at h
    · rename_i q
      rcases Nat.lt_succ_iff_lt_or_eq.1 hk with p | p
      · exact endN_all (by omega) k p
      · rw [p]; exact q
    · omega
theorem endN_none {v : V4} {a : Nat} : ∀ {i : Nat}, endN v a i = 0 → ∀ k, k < i → a < (vAt v k).length
  | 0, _, k, hk => by omega
  | i + 1, h, k, hk => by
    rw [endN_next] at h
    split at h
    · omega
    · rename_i q
      rcases Nat.lt_succ_iff_lt_or_eq.1 hk with p | p
      · exact endN_none h k p
      · rw [p]; omega
theorem endN_some {v : V4} {a : Nat} : ∀ {i : Nat}, 0 < endN v a i → ∃ k, k < i ∧ (vAt v k).length ≤ a
  | 0, h => by simp [endN] at h
  | i + 1, h => by
    rw [endN_next] at h
    split at h
    · rename_i q; exact ⟨i, Nat.lt_succ_self i, q⟩
    · obtain ⟨k, h1, h2⟩ := endN_some h
      exact ⟨k, by omega, h2⟩
theorem endN_less {v : V4} {a : Nat} : ∀ {i : Nat}, endN v a i < i → ∃ k, k < i ∧ a < (vAt v k).length
  | 0, h => by omega
  | i + 1, h => by
    rw [endN_next] at h
    split at h
    · obtain ⟨k, h1, h2⟩ := endN_less (v := v) (a := a) (i := i) (by omega)
      exact ⟨k, by omega, h2⟩
    · rename_i q; exact ⟨i, Nat.lt_succ_self i, by omega⟩
theorem same_iff {v : V4} {a : Nat} : SameAt v a ↔ ∀ k, k < 4 → (vAt v k)[a]? = v.1[a]? := by
  constructor
  · rintro ⟨h1, h2, h3⟩ k hk
    match k, hk with
    | 0, _ => rfl
    | 1, _ => exact h1
    | 2, _ => exact h2
    | 3, _ => exact h3
  · intro h
    exact ⟨h 1 (by decide), h 2 (by decide), h 3 (by decide)⟩
theorem endN_far {v : V4} {a : Nat} (h : vMax v ≤ a) : endN v a 4 = 4 := by
  unfold vMax at h
  have h0 : (vAt v 0).length ≤ a := by show v.1.length ≤ a; omega
  have h1 : (vAt v 1).length ≤ a := by show v.2.1.length ≤ a; omega
  have h2 : (vAt v 2).length ≤ a := by show v.2.2.1.length ≤ a; omega
  have h3 : (vAt v 3).length ≤ a := by show v.2.2.2.length ≤ a; omega
  rw [endN_next, if_pos h3, endN_next, if_pos h2, endN_next, if_pos h1, endN_next, if_pos h0]
  rfl
theorem ended_all {v : V4} {a : Nat} (h : endN v a 4 = 4) (k : ∀ b, b < a → SameAt v b) : AllEq v := same_allEq fun b => by
  rcases Nat.lt_or_ge b a with q | q
  · exact k b q
  · have e := endN_all h
    rw [same_iff]
    intro j hj
    have h0 : v.1.length ≤ a := e 0 (by decide)
    rw [at_none (by have := e j hj; omega), at_none (by omega)]
theorem ended_some {v : V4} {a : Nat} (h : 0 < endN v a 4) (h4 : endN v a 4 ≠ 4) : ¬ SameAt v a := by
  intro k
  rw [same_iff] at k
  obtain ⟨i, hi, e1⟩ := endN_some h
  obtain ⟨j, hj, e2⟩ := endN_less (v := v) (a := a) (i := 4) (by have := endN_le v a 4; omega)
  have k1 := k i hi
  have k2 := k j hj
  rw [at_none e1] at k1
  rw [at_some e2, ← k1] at k2
  cases k2
theorem ended_none {v : V4} {a : Nat} (h : endN v a 4 = 0) : SameAt v a ↔ v.1.getD a 0 = v.2.1.getD a 0 ∧ v.1.getD a 0 = v.2.2.1.getD a 0 ∧ v.1.getD a 0 = v.2.2.2.getD a 0 := by
  have e := endN_none h
  have e0 : a < v.1.length := e 0 (by decide)
  have e1 : a < v.2.1.length := e 1 (by decide)
  have e2 : a < v.2.2.1.length := e 2 (by decide)
  have e3 : a < v.2.2.2.length := e 3 (by decide)
  unfold SameAt
  rw [at_byte e1 e0, at_byte e2 e0, at_byte e3 e0]
  exact ⟨fun ⟨a, b, c⟩ => ⟨a.symm, b.symm, c.symm⟩, fun ⟨a, b, c⟩ => ⟨a.symm, b.symm, c.symm⟩⟩
theorem byte_ne {x y : UInt8} : decide (((x.toNat : Nat) : Int) ≠ ((y.toNat : Nat) : Int)) = !decide (x = y) := by
  rw [← decide_not, decide_eq_decide]
  exact not_congr ⟨fun e => UInt8.toNat_inj.1 (by omega), fun e => by rw [e]⟩
/-- What the reference asks at an offset. -/
def refC (v : V4) (a : Nat) : Bool := if (if (if decide ((endN v a 4 : Int) > 0) = true then true else decide (((v.1.getD a 0).toNat : Int) ≠ ((v.2.1.getD a 0).toNat : Int))) = true then true else decide (((v.1.getD a 0).toNat : Int) ≠ ((v.2.2.1.getD a 0).toNat : Int))) = true then true
  else decide (((v.1.getD a 0).toNat : Int) ≠ ((v.2.2.2.getD a 0).toNat : Int))
theorem refC_eq {v : V4} {a : Nat} (h4 : endN v a 4 ≠ 4) : refC v a = true ↔ ¬ SameAt v a := by
  unfold refC
  by_cases q : 0 < endN v a 4
  · rw [show decide ((endN v a 4 : Int) > 0) = true from decide_eq_true (by omega)]
    simp [ended_some q h4]
  · have q0 : endN v a 4 = 0 := by omega
    rw [show decide ((endN v a 4 : Int) > 0) = false from decide_eq_false (by omega), byte_ne, byte_ne, byte_ne, ended_none q0]
    generalize v.1.getD a 0 = x0
    generalize v.2.1.getD a 0 = x1
    generalize v.2.2.1.getD a 0 = x2
    generalize v.2.2.2.getD a 0 = x3
    have k : (x0 = x1 ∧ x0 = x2 ∧ x0 = x3) ↔ ((decide (x0 = x1) && decide (x0 = x2) && decide (x0 = x3)) = true) := by simp [and_assoc]
    rw [k]
    generalize decide (x0 = x1) = b1
    generalize decide (x0 = x2) = b2
    generalize decide (x0 = x3) = b3
    cases b1 <;> cases b2 <;> cases b3 <;> decide
/-! ### how the reference groups -/
def grpP (v : V4) (i n : Nat) : List Int := ((List.range n).filter fun k => decide (i ≤ k) && decide (vAt v k = vAt v i)).map fun k => ((k + 1 : Nat) : Int)
theorem grpP_zero (v : V4) (i : Nat) : grpP v i i = [] := by
  unfold grpP
  rw [List.filter_eq_nil_iff.2, List.map_nil]
  intro k hk
  have := List.mem_range.1 hk
  rw [decide_eq_false (by omega)]; simp
theorem grpP_next {v : V4} {i n : Nat} (h : i ≤ n) : grpP v i (n + 1) = if vAt v n = vAt v i then grpP v i n ++ [((n + 1 : Nat) : Int)] else grpP v i n := by
  unfold grpP
  rw [List.range_succ, List.filter_append, List.map_append]
  by_cases q : vAt v n = vAt v i
  · rw [if_pos q]; simp [q, h]
  · rw [if_neg q]; simp [q]
theorem grpP_len (v : V4) (i n : Nat) : (grpP v i n).length ≤ n := by
  unfold grpP
  rw [List.length_map]
  exact Nat.le_trans (List.length_filter_le _ _) (by simp)
def kinP (v : V4) (n : Nat) : List (List Int) := ((List.range n).filter fun i => isFirst v i).map (grpOf v)
theorem kinP_next (v : V4) (n : Nat) : kinP v (n + 1) = if isFirst v n = true then kinP v n ++ [grpOf v n] else kinP v n := by
  unfold kinP
  rw [List.range_succ, List.filter_append, List.map_append]
  by_cases q : isFirst v n = true
  · rw [if_pos q]; simp [q]
  · rw [if_neg q]; simp [q]
theorem kinP_len (v : V4) (n : Nat) : (kinP v n).length ≤ n := by
  unfold kinP
  rw [List.length_map]
  exact Nat.le_trans (List.length_filter_le _ _) (by simp)
/-- The least of the earlier policies from c on with the variant of i, or i. -/
def LeastF (v : V4) (i c f : Nat) : Prop := f ≤ i ∧ (f < i ↔ ∃ j, c ≤ j ∧ j < i ∧ vAt v j = vAt v i)
theorem least_start (v : V4) (i : Nat) : LeastF v i i i := ⟨Nat.le_refl _, fun h => by omega, fun ⟨j, h1, h2, _⟩ => by omega⟩
theorem least_hit {v : V4} {i c f : Nat} (h : LeastF v i (c + 1) f) (hc : c < i) (e : vAt v c = vAt v i) : LeastF v i c c := ⟨by omega, fun _ => ⟨c, Nat.le_refl _, hc, e⟩, fun _ => hc⟩
theorem least_miss {v : V4} {i c f : Nat} (h : LeastF v i (c + 1) f) (e : ¬ vAt v c = vAt v i) : LeastF v i c f := ⟨h.1, h.2.trans ⟨fun ⟨j, h1, h2, h3⟩ => ⟨j, by omega, h2, h3⟩, fun ⟨j, h1, h2, h3⟩ => ⟨j, by
  rcases Nat.lt_or_ge c j with q | q
  · omega
  · have : j = c := by omega
    subst this; exact absurd h3 e, h2, h3⟩⟩⟩
theorem least_first {v : V4} {i f : Nat} (h : LeastF v i 0 f) : (f < i) ↔ isFirst v i = false := by
  rw [h.2]
  unfold isFirst
  rw [List.all_eq_false]
  constructor
  · rintro ⟨j, _, h2, h3⟩
    exact ⟨j, List.mem_range.2 h2, by simp [h3]⟩
  · rintro ⟨j, h2, h3⟩
    exact ⟨j, Nat.zero_le _, List.mem_range.1 h2, by simpa using h3⟩
end Go.Ov

