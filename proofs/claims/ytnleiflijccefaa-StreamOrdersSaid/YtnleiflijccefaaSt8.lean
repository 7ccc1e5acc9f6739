/- Plain words of chapter 20: few pieces; what is taken, in cells. -/
import Derived.Test.YtnleiflijccefaaSt7
import Derived.Test.YtnleiflijccefaaOv10
set_option linter.all false
set_option linter.unusedVariables false
set_option linter.unusedSimpArgs false
namespace Go.Ov
open Go Go.Fw
/-- What is taken is known by its cells. -/
theorem take_exact {x : List Pc} (hv : Valid x) {a : Int} {s : List UInt8} (h : ∀ k : Nat, k < s.length → ∃ o, atC (cells x) (a + (k : Int)) = some o ∧ o.2.1 = ((s.getD k 0).toNat : Int))
    (hn : atC (cells x) (a + (s.length : Int)) = none) : takeF x a = (s, a + s.length) := by
  obtain ⟨h1, h2⟩ := take_prefix hv h
  have tk := takeOk hv a
  have hlen : (takeF x a).1.length = s.length := by
    rcases Nat.lt_or_ge s.length (takeF x a).1.length with h3 | h3
    · obtain ⟨o, ho, _⟩ := tk.some_ _ h3
      rw [hn] at ho; cases ho
    · omega
  have e : (takeF x a).1 = s := by rw [← hlen, List.take_length] at h2; exact h2
  exact Prod.ext e (by rw [tk.end_, e])
structure Few (l : List Pc) (n : Nat) (R : Int) : Prop where
  v : Valid l
  rng : ∀ c ∈ cells l, c.1 < R
  brk : cnt (brkB (cells l)) 0 (R + 1) ≤ n
structure InsFew (l : List Pc) (p : Pc) (pol : Int) (n : Nat) (R : Int) : Prop where
  eq : insR l p pol = (J (insM (cells l) pol p), ((conS (cells l) p : Nat) : Int), 0)
  few : Few (J (insM (cells l) pol p)) (n + 2) R
  cells : cells (J (insM (cells l) pol p)) = insM (cells l) pol p
theorem ins_few {l : List Pc} {n : Nat} {R : Int} (h : Few l n R) (hn : n + 2 ≤ 64) {pol : Int} (h1 : 1 ≤ pol) (h4 : pol ≤ 4) {p : Pc} (hne : pd p ≠ []) (p0 : 0 ≤ pa p) (p1 : endP p ≤ R) (hR : R ≤ 2147483648) : InsFew l p pol n R := by
  have hs := sorted_cells h.v
  have hend : endP p = pa p + (pd p).length := rfl
  have hpos : 0 < (pd p).length := List.length_pos_iff.2 hne
  have hsM : Sorted (insM (cells l) pol p) := sorted_mrg hs pol (newP p) _
  have hok : ∀ c ∈ insM (cells l) pol p, CellOk c := mrg_ok h.v pol p0 (by omega)
  have hcJ : Go.Ov.cells (J (insM (Go.Ov.cells l) pol p)) = insM (Go.Ov.cells l) pol p := cells_J _ (fun x hx => (hok x hx).2.2.2.2)
  have hrng : ∀ c ∈ insM (cells l) pol p, 0 ≤ c.1 ∧ c.1 < R := fun c hc => by
    have h0 := hok c hc
    refine ⟨Int.le_trans h0.1 h0.2.1, ?_⟩
    rcases mem_insM hs hc with ⟨_, h2, _⟩ | h2
    · omega
    · exact h.rng c h2
  have hb : cnt (brkB (insM (cells l) pol p)) 0 (R + 1) ≤ n + 2 := by
    obtain ⟨N, hN⟩ : ∃ N : Nat, R + 1 = (0 : Int) + (N : Int) := ⟨(R + 1).toNat, by omega⟩
    have h5 := cnt_two (pa p) (endP p) (brk_insM hs pol p) 0 N
    have h6 := h.brk
    rw [hN] at h6 ⊢
    have h7 : (if (0 : Int) ≤ pa p ∧ pa p < 0 + (N : Int) then 1 else 0) ≤ 1 := by split <;> omega
    have h8 : (if (0 : Int) ≤ endP p ∧ endP p < 0 + (N : Int) then 1 else 0) ≤ 1 := by split <;> omega
    omega
  have hlen : (J (insM (cells l) pol p)).length ≤ n + 2 := Nat.le_trans (J_cnt _ _ rfl hsM 0 (R + 1) (fun x hx => by have := hrng x hx; omega)) hb
  have hr : rangeB p.1 pol = false := by
    have e0 : pa p = p.1 := rfl
    simp only [rangeB, Bool.if_true_left, Bool.decide_eq_true, Bool.or_eq_false_iff, decide_eq_false_iff_not]
    omega
  refine ⟨?_, ⟨valid_J hsM hok, fun c hc => (hrng c (hcJ ▸ hc)).2, by rw [hcJ]; exact hb⟩, hcJ⟩
  rw [insR_end h.v (decide_eq_false hne) hr, if_neg (by omega), if_neg (by show ¬ (J (insM (Go.Ov.cells l) pol p)).length > 64; omega)]
  refine Prod.ext rfl (Prod.ext ?_ rfl)
  rfl
theorem Few.nil (R : Int) : Few [] 0 R := ⟨fun j hj => absurd hj (Nat.not_lt_zero _), fun c hc => by simp [cells] at hc, by rw [cnt_false (f := brkB (cells [])) (fun x _ _ => rfl)]; exact Nat.le_refl _⟩
theorem Few.len {l : List Pc} {n : Nat} {R : Int} (h : Few l n R) (hJ : l = J (cells l)) : l.length ≤ n := by
  have hs := sorted_cells h.v
  rw [hJ]
  refine Nat.le_trans (J_cnt _ _ rfl hs 0 (R + 1) (fun x hx => ?_)) h.brk
  have h1 := h.rng x hx
  have h2 := cells_ok h.v x hx
  exact ⟨Int.le_trans h2.1 h2.2.1, by omega⟩
end Go.Ov
