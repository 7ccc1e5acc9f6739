/- Plain words of chapter 20: End's bounds, calls, many calls. -/
import Derived.Test.YtnleiflijccefaaSt3
set_option linter.all false
set_option linter.unusedVariables false
set_option linter.unusedSimpArgs false
namespace Go.Ov
open Go Go.Fw

theorem takeWhile_true {α : Type} {p : α → Bool} : ∀ {l : List α} {x : α}, x ∈ l.takeWhile p → p x = true
  | [], x, h => by simp at h
  | y :: l, x, h => by
    rw [List.takeWhile_cons] at h
    split at h
    · rename_i hy
      rcases List.mem_cons.1 h with rfl | h
      · exact hy
      · exact takeWhile_true h
    · simp at h
theorem truncP_cells {a : Int} {o : Pc} {c : Cl} (h : c ∈ cellsOf (truncP a o)) : c ∈ cellsOf o ∧ (pa o < a → c.1 < a) := by
  obtain ⟨h1, h2, _⟩ := mem_cellsOf h
  have e : (pd o).take (min ((pd o).length : Int) (a - pa o)).toNat ++ (pd o).drop (min ((pd o).length : Int) (a - pa o)).toNat = pd o := List.take_append_drop ..
  constructor
  · have e2 : cellsOf o = cellsOf (truncP a o) ++ mkC o.2.2.1 o.2.2.2.1 (o.1 + ((bytesOf ((pd o).take (min ((pd o).length : Int) (a - pa o)).toNat)).length : Int)) (bytesOf ((pd o).drop (min ((pd o).length : Int) (a - pa o)).toNat)) := by
      show mkC _ _ _ (bytesOf (pd o)) = mkC _ _ _ (bytesOf _) ++ _
      rw [show mkC o.2.2.1 o.2.2.2.1 o.1 (bytesOf (pd o)) = mkC o.2.2.1 o.2.2.2.1 o.1 (bytesOf ((pd o).take (min ((pd o).length : Int) (a - pa o)).toNat ++ (pd o).drop (min ((pd o).length : Int) (a - pa o)).toNat)) by rw [e]]
      rw [show bytesOf ((pd o).take (min ((pd o).length : Int) (a - pa o)).toNat ++ (pd o).drop (min ((pd o).length : Int) (a - pa o)).toNat) = bytesOf ((pd o).take (min ((pd o).length : Int) (a - pa o)).toNat) ++ bytesOf ((pd o).drop (min ((pd o).length : Int) (a - pa o)).toNat) by simp [intsOf], mkC_append]
      rfl
    rw [e2]
    exact List.mem_append_left _ h
  · intro hlt
    have e3 : (truncP a o).2.1.length = min (min ((pd o).length : Int) (a - pa o)).toNat (pd o).length := List.length_take ..
    have e4 : (truncP a o).1 = pa o := rfl
    omega
theorem mem_keptL {l : List Pc} {a : Int} {q : Pc} (h : q ∈ keptL l a) : ∃ o ∈ l, pa o < a ∧ q = truncP a o := by
  obtain ⟨o, ho, rfl⟩ := List.mem_map.1 h
  exact ⟨o, (List.takeWhile_sublist _).subset ho, of_decide_eq_true (takeWhile_true (p := fun o => decide (pa o < a)) ho), rfl⟩
theorem okP_trunc {a : Int} {o : Pc} (h : OkP o) (hl : pa o < a) : OkP (truncP a o) ∧ endP (truncP a o) ≤ endP o := by
  obtain ⟨a1, a2, a3, a4, a5, a6⟩ := h
  have e3 : (pd (truncP a o)).length = min (min ((pd o).length : Int) (a - pa o)).toNat (pd o).length := List.length_take ..
  have e5 : 0 < (pd o).length := List.length_pos_iff.2 a1
  refine ⟨⟨fun hn => ?_, a2, a3, a4, a5, ?_⟩, ?_⟩
  · rw [hn] at e3
    simp only [List.length_nil] at e3
    omega
  · show ((pd (truncP a o)).length : Int) ≤ pt o - pa o
    omega
  · show pa o + ((pd (truncP a o)).length : Int) ≤ pa o + ((pd o).length : Int)
    omega
theorem valid_keptL {l : List Pc} (hv : Valid l) (a : Int) : Valid (keptL l a) := by
  obtain ⟨h1, h2⟩ := valid_pw.1 hv
  refine valid_pw.2 ⟨fun q hq => ?_, ?_⟩
  · obtain ⟨o, ho, hl, rfl⟩ := mem_keptL hq
    exact (okP_trunc (h1 o ho) hl).1
  · show ((l.takeWhile _).map (truncP a)).Pairwise _
    rw [List.pairwise_map]
    refine (h2.sublist (List.takeWhile_sublist _)).imp_of_mem (fun {x y} hx hy h => ?_)
    have k1 := okP_trunc (h1 x ((List.takeWhile_sublist _).subset hx)) (of_decide_eq_true (takeWhile_true (p := fun o => decide (pa o < a)) hx))
    exact Int.le_trans k1.2 h
theorem keptL_cells {l : List Pc} {a : Int} {c : Cl} (h : c ∈ cells (keptL l a)) : c ∈ cells l ∧ c.1 < a := by
  simp only [cells, List.mem_flatMap] at h ⊢
  obtain ⟨q, hq, hc⟩ := h
  obtain ⟨o, ho, hl, rfl⟩ := mem_keptL hq
  have k := truncP_cells hc
  exact ⟨⟨o, ho, k.1⟩, k.2 hl⟩
theorem keptL_len (l : List Pc) (a : Int) : (keptL l a).length ≤ l.length := by
  show ((l.takeWhile _).map _).length ≤ _
  rw [List.length_map]
  exact (List.takeWhile_sublist _).length_le
theorem endS_inv {s : SS} {B : Int} (h : SInv s B) (seq : Int) : SInv (endS s seq).2 B := by
  unfold endS
  split
  · exact h
  · split
    · exact h
    · rename_i h1 h2
      have hp := h.posB
      have hw := h.win
      refine ⟨h.pos0, h.posB, h.win, h.pol, valid_keptL h.v _, fun c hc => h.rng c (keptL_cells hc).1, Nat.le_trans (keptL_len _ _) h.len, .inr ⟨?_, ?_, fun c hc => (keptL_cells hc).2⟩, h.first⟩
      · show s.pos ≤ offS s seq; omega
      · show offS s seq ≤ B + 8192; omega
theorem newS_inv (isn win pol : Int) : SInv (newS isn win pol) 0 := by
  refine ⟨Int.le_refl _, Int.le_refl _, ?_, ?_, fun j hj => by exact absurd hj (Nat.not_lt_zero _), fun c hc => by simp [newS, cells] at hc, Nat.zero_le _, .inl rfl, ?_⟩
  · show 1 ≤ min (max win 1) 8192 ∧ min (max win 1) 8192 ≤ 8192; omega
  · show 1 ≤ min (max pol 1) 4 ∧ min (max pol 1) 4 ≤ 4; omega
  · show 0 ≤ IntKind.u32.wrap (isn + 1) ∧ IntKind.u32.wrap (isn + 1) < 4294967296
    rw [wrap_u32]; omega
/-! ### calls -/
abbrev kT : Ty := .cons (.int .i64) (.cons (.int .i64) (.cons .str .nil))
abbrev Ca := Int × Int × List UInt8 × Unit
abbrev kv (x : Ca) : AV := .agg [.int .i64 x.1, .int .i64 x.2.1, .str x.2.2.1]
abbrev Rs := List UInt8 × Int × Int × Bool
abbrev rsv (x : Rs) : AV := .agg [.str x.1, .int .i64 x.2.1, .int .i64 x.2.2.1, .bool x.2.2.2]
def seqS (isn : Int) (c : Ca) : Int := IntKind.u32.wrap (isn + IntKind.u32.wrap c.2.1)
def progS (s : SS) (isn : Int) (c : Ca) : Rs × SS :=
  if c.1 = 1 then (([], 0, 0, (endS s (seqS isn c)).1), (endS s (seqS isn c)).2)
  else if c.1 = 2 then (((lostS s (seqS isn c)).1.2, (lostS s (seqS isn c)).1.1, 0, false), (lostS s (seqS isn c)).2)
  else (((addS s (seqS isn c) c.2.2.1).1.1, (addS s (seqS isn c) c.2.2.1).1.2.1, (addS s (seqS isn c) c.2.2.1).1.2.2, false), (addS s (seqS isn c) c.2.2.1).2)
theorem progS_inv {s : SS} {B : Int} (h : SInv s B) (isn : Int) (c : Ca) : SInv (progS s isn c).2 (B + 8192) := by
  unfold progS
  split
  · exact (endS_inv h _).mono (by omega)
  · split
    · exact (lostS_inv h _).inv
    · exact addS_inv h _ _
def runS (s : SS) (isn : Int) (l : List Ca) : SS := l.foldl (fun s c => (progS s isn c).2) s
theorem runS_next (s : SS) (isn : Int) {l : List Ca} {i : Nat} (h : i < l.length) : runS s isn (l.take (i + 1)) = (progS (runS s isn (l.take i)) isn (l.getD i (Ty.dflt kT))).2 := by
  unfold runS
  exact foldl_next _ _ _ h
theorem runS_inv {s : SS} (h : SInv s 0) (isn : Int) : ∀ {l : List Ca} {i : Nat}, i ≤ l.length → SInv (runS s isn (l.take i)) (8192 * i)
  | l, 0, _ => by simpa [runS] using h
  | l, i + 1, hi => by
    rw [runS_next s isn (by omega)]
    exact (progS_inv (runS_inv h isn (i := i) (by omega)) isn _).mono (by omega)
def longC (l : List Ca) : Bool := (l.take 60).any (fun c => decide ((c.2.2.1.length : Int) > 300)) || decide ((l.length : Int) > 60)
theorem longC_f {l : List Ca} (h : longC l = false) : l.length ≤ 60 ∧ ∀ i, i < l.length → (l.getD i (Ty.dflt kT)).2.2.1.length ≤ 300 := by
  unfold longC at h
  obtain ⟨h1, h2⟩ := Bool.or_eq_false_iff.1 h
  have h3 := of_decide_eq_false h2
  have hl : l.length ≤ 60 := by omega
  refine ⟨hl, fun i hi => ?_⟩
  rw [List.take_of_length_le hl] at h1
  have := List.any_eq_false.1 h1 _ (getD_mem (d := (Ty.dflt kT : Ca)) hi)
  simp only [decide_eq_true_eq] at this
  have e : (l.getD i (Ty.dflt kT)).2.2.1.length ≤ 300 := by omega
  exact e
theorem getD_take {α : Type} {l : List α} {n i : Nat} {d : α} (h : i < n) : (l.take n).getD i d = l.getD i d := by
  rw [List.getD_eq_getElem?_getD, List.getD_eq_getElem?_getD, List.getElem?_take, if_pos h]
theorem longC_t {l : List Ca} {i : Nat} (hi : i < l.length) (h60 : i < 60) (h : (l.getD i (Ty.dflt kT)).2.2.1.length > 300) : longC l = true := by
  unfold longC
  refine Bool.or_eq_true_iff.2 (.inl (List.any_eq_true.2 ⟨l.getD i (Ty.dflt kT), ?_, by simp only [decide_eq_true_eq]; omega⟩))
  have e : (l.take 60).getD i (Ty.dflt kT) = l.getD i (Ty.dflt kT) := getD_take (by omega)
  rw [← e]
  exact getD_mem (by rw [List.length_take]; omega)
theorem longC_e {l : List Ca} {i : Nat} (hi : i = l.length ∨ i = 60) (h : ∀ j, j < i → (l.getD j (Ty.dflt kT)).2.2.1.length ≤ 300) : longC l = decide ((l.length : Int) > 60) := by
  unfold longC
  rw [show (l.take 60).any (fun c => decide ((c.2.2.1.length : Int) > 300)) = false from List.any_eq_false.2 (fun c hc => by
    obtain ⟨j, hj, rfl⟩ := mem_getD (Ty.dflt kT) hc
    rw [List.length_take] at hj
    have hj60 : j < 60 := Nat.lt_of_lt_of_le hj (Nat.min_le_left ..)
    have hjl : j < l.length := Nat.lt_of_lt_of_le hj (Nat.min_le_right ..)
    rw [getD_take (by omega)]
    have := h j (by omega)
    simp only [decide_eq_true_eq]
    omega)]
  rfl
end Go.Ov
