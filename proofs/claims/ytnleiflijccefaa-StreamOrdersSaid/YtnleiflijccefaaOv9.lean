/- Plain words of chapter 15: what Insert keeps. -/
import Derived.Test.YtnleiflijccefaaOv8
set_option linter.all false
set_option linter.unusedVariables false
set_option linter.unusedSimpArgs false
namespace Go.Ov
open Go Go.Fw

theorem take_many {x : List Pc} (hv : Valid x) {a : Int} {n : Nat} (h : ∀ k : Nat, k < n → (atC (cells x) (a + (k : Int))).isSome = true) : n ≤ (takeF x a).1.length := by
  rcases Nat.lt_or_ge (takeF x a).1.length n with h1 | h1
  · have := h _ h1
    rw [(takeOk hv a).none_] at this
    cases this
  · exact h1
theorem take_prefix {x : List Pc} (hv : Valid x) {a : Int} {s : List UInt8} (h : ∀ k : Nat, k < s.length → ∃ o, atC (cells x) (a + (k : Int)) = some o ∧ o.2.1 = ((s.getD k 0).toNat : Int)) :
    s.length ≤ (takeF x a).1.length ∧ (takeF x a).1.take s.length = s := by
  have hl := take_many hv (n := s.length) (a := a) (fun k hk => by obtain ⟨o, ho, _⟩ := h k hk; rw [ho]; rfl)
  refine ⟨hl, ext_getD 0 (by rw [List.length_take]; omega) (fun k hk => ?_)⟩
  rw [List.length_take] at hk
  obtain ⟨o, ho, e1⟩ := h k (by omega)
  obtain ⟨o', ho', e2⟩ := (takeOk hv a).some_ k (by omega)
  rw [ho] at ho'
  simp only [Option.some.injEq] at ho'
  subst ho'
  have e3 : ((takeF x a).1.take s.length).getD k 0 = (takeF x a).1.getD k 0 := by
    simp only [List.getD_eq_getElem?_getD, List.getElem?_take]
    rw [if_pos (by omega)]
  rw [e3]
  exact UInt8.toNat_inj.1 (by omega)
theorem cell_of {l : List Pc} (hv : Valid l) {o : Pc} (ho : o ∈ l) {k : Nat} (hk : k < (pd o).length) : atC (cells l) (pa o + k) = some (pa o + k, (((pd o).getD k 0).toNat : Int), pf o, pt o, ()) := by
  have h1 : atC (cellsOf o) (pa o + k) = some (pa o + k, (((pd o).getD k 0).toNat : Int), pf o, pt o, ()) := by
    have hk' : k < o.2.1.length := hk
    have e0 : pa o = o.1 := rfl
    rw [atC_cellsOf, if_pos (by omega)]
    have e : (pa o + (k : Int) - o.1).toNat = k := by omega
    unfold bt
    rw [e]
  have h2 := atC_mem (sorted_cells hv) (List.mem_flatMap.2 ⟨o, ho, (atC_some h1).1⟩)
  exact h2
theorem cnt_full {f : Int → Bool} {a : Int} {n : Nat} (h : cnt f a (a + n) = n) : ∀ k : Nat, k < n → f (a + k) = true := by
  intro k hk
  have e1 := cnt_add f (a := a) (b := a + k) (c := a + n) (by omega) (by omega)
  have e2 := cnt_add f (a := a + k) (b := a + k + 1) (c := a + n) (by omega) (by omega)
  have e3 := cnt_one f (a + k)
  have e4 := cnt_le f a (a + k)
  have e5 := cnt_le f (a + k + 1) (a + n)
  cases hf : f (a + k) with
  | true => rfl
  | false => rw [hf] at e3; simp at e3; omega
theorem mrg_mono {c : List Cl} (hs : Sorted c) (pol : Int) (P : Pc) : ∀ k : Nat, c.length ≤ (mrg c pol P k).length ∧ k ≤ (mrg c pol P k).length
  | 0 => by rw [mrg_zero hs]; exact ⟨Nat.le_refl _, Nat.zero_le _⟩
  | k + 1 => by
    have ih := (mrg_mono hs pol P k).1
    have hl : ∀ i, (mrg c pol P i).length = (lo c P).length + i + (hi_ c P (i : Int)).length := fun i => by simp [mrg, mid, Nat.add_assoc]
    have hh : (hi_ c P (k : Int)).length ≤ (hi_ c P ((k + 1 : Nat) : Int)).length + 1 := by
      cases h : atC c (P.1 + k) with
      | none => rw [hi_none hs P k h]; omega
      | some o => rw [hi_some hs P k h]; simp
    rw [hl] at ih ⊢
    exact ⟨by omega, by omega⟩
theorem mrg_ok {l : List Pc} (hv : Valid l) {p : Pc} (pol : Int) (h0 : 0 ≤ pa p) (h1 : endP p ≤ 4294967296) : ∀ c ∈ mrg (cells l) pol (newP p) (pd p).length, CellOk c := by
  intro c hc
  have hp : ∀ a, pa p ≤ a → a < endP p → CellOk (newC (newP p) a) := by
    intro a ha hb
    have := bt_in (newP p).2.1 (a - (newP p).1)
    refine ⟨h0, ha, hb, h1, this.1, this.2⟩
  have hs := sorted_mrg (sorted_cells hv) pol (newP p) (pd p).length
  have h2 := atC_mem hs hc
  have h3 : atC (mrg (cells l) pol (newP p) (pd p).length) c.1 = look (cells l) pol (newP p) c.1 := atC_mrg (sorted_cells hv) pol (newP p) c.1
  rw [h3, look] at h2
  split at h2
  · rename_i hr
    simp only [Option.some.injEq] at h2
    rw [← h2, pick]
    cases ho : atC (cells l) c.1 with
    | none => exact hp _ hr.1 hr.2
    | some o =>
      simp only
      split
      · exact hp _ hr.1 hr.2
      · exact cells_ok hv _ (atC_some ho).1
  · exact cells_ok hv _ (atC_some h2).1
/-- Insert's good end: all is there. -/
structure InsGood (l : List Pc) (p : Pc) (pol : Int) (x : List Pc) (n : Int) : Prop where
  valid : Valid x
  n0 : 0 ≤ n
  n1 : n ≤ (pd p).length
  more : lenSum l ≤ lenSum x
  moreP : ((pd p).length : Int) ≤ lenSum x
  most : lenSum x ≤ lenSum l + (pd p).length
  take : (pd p).length ≤ (takeF x (pa p)).1.length
  last : pol = 2 → (takeF x (pa p)).1.take (pd p).length = pd p
  keep : pol = 5 ∨ pol = 1 → ∀ o ∈ l, (pd o).length ≤ (takeF x (pa o)).1.length ∧ (takeF x (pa o)).1.take (pd o).length = pd o
theorem keep_same {l : List Pc} (hv : Valid l) : ∀ o ∈ l, (pd o).length ≤ (takeF l (pa o)).1.length ∧ (takeF l (pa o)).1.take (pd o).length = pd o :=
  fun o ho => take_prefix hv (fun k hk => ⟨_, cell_of hv ho hk, rfl⟩)
theorem J_lenSum {m : List Cl} (h : ∀ c ∈ m, CellOk c) : lenSum (J m) = m.length := by
  rw [lenSum_cells, cells_J m (fun x hx => (h x hx).2.2.2.2)]
theorem insGood {l : List Pc} {p : Pc} {pol : Int} (hv : Valid l) (hp : ((pd p).length : Int) ≤ 2147483648) (h : (insR l p pol).2.2 = 0) : InsGood l p pol (insR l p pol).1 (insR l p pol).2.1 := by
  by_cases h1 : pd p = []
  · have e : insR l p pol = (l, 0, 0) := if_pos h1
    have e1 : (pd p).length = 0 := by rw [h1]; rfl
    rw [e]
    refine ⟨hv, Int.le_refl _, by show (0 : Int) ≤ _; omega, Int.le_refl _, ?_, by show lenSum l ≤ _; omega, by omega, fun _ => by rw [h1]; simp, fun _ => keep_same hv⟩
    have := lenSum_nonneg l
    show _ ≤ lenSum l
    omega
  by_cases h2 : rangeB p.1 pol = true
  · rw [insR_range (decide_eq_false h1) h2] at h
    cases h
  have h2' : rangeB p.1 pol = false := by simpa using h2
  have hr := rangeB_f h2'
  have e := insR_end hv (decide_eq_false h1) h2'
  have hs := sorted_cells hv
  rw [e] at h ⊢
  by_cases h3 : pol = 5 ∧ ((covN l p (pd p).length : Nat) : Int) > 0
  · rw [if_pos h3] at h ⊢
    by_cases h4 : ((covN l p (pd p).length : Nat) : Int) = (pd p).length ∧ ((conN l p (pd p).length : Nat) : Int) = 0
    · rw [if_pos h4]
      have hall : ∀ k : Nat, k < (pd p).length → (atC (cells l) (pa p + (k : Int))).isSome = true := cnt_full (f := covB (cells l)) (a := pa p) (n := (pd p).length) (by have := h4.1; unfold covN at this; omega)
      have hcount := cells_count hs (pa p) (pd p).length (fun k hk => Option.isSome_iff_exists.1 (hall k hk))
      have hfl := List.length_filter_le (fun x : Cl => decide (pa p ≤ x.1)) (cells l)
      have hcl := lenSum_cells l
      refine ⟨hv, Int.le_refl _, by show (0 : Int) ≤ _; omega, Int.le_refl _, by show _ ≤ lenSum l; omega, by show lenSum l ≤ _; omega, take_many hv hall, fun h5 => ?_, fun _ => keep_same hv⟩
      omega
    · rw [if_neg h4] at h
      cases h
  · rw [if_neg h3] at h ⊢
    split at h
    · cases h
    rename_i h5
    rw [if_neg h5]
    have hend : endP p ≤ 4294967296 := by show p.1 + ((pd p).length : Int) ≤ _; omega
    have hp0 : 0 ≤ pa p := by show 0 ≤ p.1; omega
    have hok := mrg_ok hv pol hp0 hend
    have hsm := sorted_mrg hs pol (newP p) (pd p).length
    have hvx : Valid (J (mrg (cells l) pol (newP p) (pd p).length)) := valid_J hsm hok
    have hcx : cells (J (mrg (cells l) pol (newP p) (pd p).length)) = mrg (cells l) pol (newP p) (pd p).length := cells_J _ (fun x hx => (hok x hx).2.2.2.2)
    have hmono := mrg_mono hs pol (newP p) (pd p).length
    have hmax := len_mrg (cells l) hs pol (newP p) (pd p).length
    have hlk : ∀ a, atC (mrg (cells l) pol (newP p) (pd p).length) a = look (cells l) pol (newP p) a := fun a => atC_mrg hs pol (newP p) a
    have hcl := lenSum_cells l
    have hin : ∀ k : Nat, k < (pd p).length → (newP p).1 ≤ pa p + (k : Int) ∧ pa p + (k : Int) < (newP p).1 + (newP p).2.1.length := fun k hk => by
      show pa p ≤ pa p + (k : Int) ∧ pa p + (k : Int) < pa p + (pd p).length
      omega
    refine ⟨hvx, by show (0 : Int) ≤ ((conN l p (pd p).length : Nat) : Int); omega, ?_, ?_, ?_, ?_, ?_, ?_, ?_⟩
    · have := conN_le l p (pd p).length
      show ((conN l p (pd p).length : Nat) : Int) ≤ _
      omega
    · show lenSum l ≤ lenSum (J _)
      rw [J_lenSum hok]; omega
    · show _ ≤ lenSum (J _)
      rw [J_lenSum hok]; omega
    · show lenSum (J _) ≤ _
      rw [J_lenSum hok]
      simp only [mrg, List.length_append] at hmax ⊢
      omega
    · refine take_many hvx (fun k hk => ?_)
      rw [hcx, hlk, look, if_pos (hin k hk)]
      rfl
    · intro h6
      refine (take_prefix hvx (fun k hk => ?_)).2
      rw [hcx, hlk, look, if_pos (hin k hk)]
      refine ⟨_, rfl, ?_⟩
      have e9 : (newC (newP p) (pa p + (k : Int))).2.1 = (((pd p).getD k 0).toNat : Int) := by
        show (((pd p).getD (pa p + (k : Int) - pa p).toNat 0).toNat : Int) = _
        have : (pa p + (k : Int) - pa p).toNat = k := by omega
        rw [this]
      rw [pick]
      cases ho : atC (cells l) (pa p + (k : Int)) with
      | none => exact e9
      | some o =>
        simp only
        rw [if_pos (by rw [h6]; rfl)]
        exact e9
    · intro h6 o ho
      refine take_prefix hvx (fun k hk => ?_)
      rw [hcx, hlk, look]
      have hc := cell_of hv ho hk
      by_cases hr2 : (newP p).1 ≤ pa o + (k : Int) ∧ pa o + (k : Int) < (newP p).1 + (newP p).2.1.length
      · rw [if_pos hr2, pick, hc]
        refine ⟨_, rfl, ?_⟩
        simp only
        rw [if_neg (by rcases h6 with rfl | rfl <;> exact Bool.false_ne_true)]
      · rw [if_neg hr2, hc]
        exact ⟨_, rfl, rfl⟩
theorem insR_small {l : List Pc} {p : Pc} {pol : Int} (h : l.length ≤ 64) : (insR l p pol).1.length ≤ 64 := by
  have := insR_len l p pol
  omega
theorem insR_err {l : List Pc} {p : Pc} {pol : Int} (h : (insR l p pol).2.2 ≠ 0) : (insR l p pol).1 = [] ∧ (insR l p pol).2.1 = 0 := by
  revert h
  unfold insR
  split
  · intro h; exact absurd rfl h
  · split
    · intro _; exact ⟨rfl, rfl⟩
    · simp only
      split
      · split
        · intro h; exact absurd rfl h
        · intro _; exact ⟨rfl, rfl⟩
      · split
        · intro _; exact ⟨rfl, rfl⟩
        · intro h; exact absurd rfl h
end Go.Ov
