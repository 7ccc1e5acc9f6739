import Derived.Test.YtchiagnggnblaaaDoorCnQ
set_option linter.all false
/- Chapter 21: what segments do to a connection, and long lists. -/
namespace Go.Proofs.YtchiagnggnblaaaDoor.Ac
open Go Go.Fw Go.Ov Go.Proofs.YtchiagnggnblaaaDoor.Fx
theorem b01_rng (b : Bool) : b01 b = 0 ∨ b01 b = 1 := by cases b; exact .inl rfl; exact .inr rfl
theorem stM_rng (s t : SS) : stM s t = 3 ∨ stM s t = 4 ∨ stM s t = 5 := by
  unfold stM
  rcases b01_rng (endedS s) with h1 | h1 <;> rcases b01_rng (endedS t) with h2 | h2 <;> rw [h1, h2] <;> decide
theorem sgH_inv {d e st : Int} {p g : Hf} {s t : SS} {B : Int} (is : SInv s B) (it : SInv t B) (q k f : Int) (o : List optT.D) (x : List UInt8) (hst : st = 3 ∨ st = 4 ∨ st = 5 ∨ st = 6) :
    SInv (sgH d e st p g s t q k f o x).2.2.2.1 (B + 8192) ∧ SInv (sgH d e st p g s t q k f o x).2.2.2.2 (B + 8192) ∧ ((sgH d e st p g s t q k f o x).2.1 = 3 ∨ (sgH d e st p g s t q k f o x).2.1 = 4 ∨ (sgH d e st p g s t q k f o x).2.1 = 5 ∨ (sgH d e st p g s t q k f o x).2.1 = 6) := by
  unfold sgH prM
  split
  · exact ⟨is.mono (by omega), it.mono (by omega), hst⟩
  · split
    · exact ⟨is.mono (by omega), it.mono (by omega), hst⟩
    · split
      · exact ⟨is.mono (by omega), it.mono (by omega), .inr (.inr (.inr rfl))⟩
      · refine ⟨tkS_inv is q f x, tkT_inv it k, ?_⟩
        rcases stM_rng (tkS s q f x) (tkT t k) with h | h | h
        · exact .inl h
        · exact .inr (.inl h)
        · exact .inr (.inr (.inl h))
theorem segC_inv {c : Cnn} {B : Int} (h : CInv c B) (h0 : 0 ≤ B) (d q k f : Int) (o : List optT.D) (x : List UInt8) : CInv (segC d c q k f o x).2 (B + 8192) := by
  obtain ⟨st, p, g, ss⟩ := c
  unfold segC
  split
  · unfold seg1
    cases ss with
    | none =>
      have h : st = 0 ∨ st = 1 ∨ st = 2 := h
      dsimp only
      split
      · refine ⟨(tkS_inv (nwS_inv p) q f x).mono (by omega), (tkT_inv (nwS_inv g) k).mono (by omega), ?_⟩
        rcases stM_rng (tkS (nwS p) q f x) (tkT (nwS g) k) with h | h | h
        · exact .inl h
        · exact .inr (.inl h)
        · exact .inr (.inr (.inl h))
      · show (sgN1 st p g q k f o x).2.1 = 0 ∨ (sgN1 st p g q k f o x).2.1 = 1 ∨ (sgN1 st p g q k f o x).2.1 = 2
        unfold sgN1
        split
        · exact h
        · split
          · exact .inr (.inl rfl)
          · split <;> exact h
    | some y =>
      obtain ⟨s, t⟩ := y
      obtain ⟨is, it, hst⟩ : SInv s B ∧ SInv t B ∧ (st = 3 ∨ st = 4 ∨ st = 5 ∨ st = 6) := h
      dsimp only
      split
      · exact sgH_inv is it q k f o x hst
      · split
        · exact .inr (.inl rfl)
        · exact ⟨is.mono (by omega), it.mono (by omega), hst⟩
  · split
    · unfold seg2
      cases ss with
      | none =>
        have h : st = 0 ∨ st = 1 ∨ st = 2 := h
        show (sgN2 st p g q k f o).2.1 = 0 ∨ (sgN2 st p g q k f o).2.1 = 1 ∨ (sgN2 st p g q k f o).2.1 = 2
        unfold sgN2
        split
        · exact h
        · split
          · split
            · exact h
            · exact .inr (.inr rfl)
          · exact h
      | some y =>
        obtain ⟨s, t⟩ := y
        obtain ⟨is, it, hst⟩ : SInv s B ∧ SInv t B ∧ (st = 3 ∨ st = 4 ∨ st = 5 ∨ st = 6) := h
        dsimp only
        split
        · have := sgH_inv (d := 2) (e := 1) (st := st) (p := g) (g := p) it is q k f o x hst
          exact ⟨this.2.1, this.1, this.2.2⟩
        · exact ⟨is.mono (by omega), it.mono (by omega), hst⟩
    · exact h.mono (by omega)
/-- The connection behind the first segments of a list. -/
def runC (c : Cnn) (l : List Sg) : Cnn := l.foldl (fun c e => (segS c e).2) c
theorem runC_next (c : Cnn) {l : List Sg} {i : Nat} (h : i < l.length) : runC c (l.take (i + 1)) = (segS (runC c (l.take i)) (l.getD i (Ty.dflt sgT))).2 := by
  unfold runC
  exact foldl_next _ _ _ h
theorem runC_inv {c : Cnn} (h : CInv c 0) : ∀ {l : List Sg} {i : Nat}, i ≤ l.length → CInv (runC c (l.take i)) (8192 * i)
  | l, 0, _ => by simpa [runC] using h
  | l, i + 1, hi => by
    rw [runC_next c (by omega)]
    exact (segC_inv (runC_inv h (i := i) (by omega)) (by omega) _ _ _ _ _ _).mono (by omega)
abbrev new0 (p g : Hf) : Cnn := ⟨0, p, g, none⟩
theorem new0_inv (p g : Hf) : CInv (new0 p g) 0 := .inl rfl
theorem segU (c : Cnn) (B : Int) (hi : CInv c B) (h0 : 0 ≤ B) (hB : B ≤ 1099511600000) (e : Sg) (ho : (toO e).length ≤ 10) (hx : (txX e).length ≤ 200) (i j k : Nat) (hn : [i, j, k].Nodup) :
    HSpec P G 11 [.loc i 0, .int .i64 e.1, tcpV e.2.1.1 e.2.1.2.1 (tqS e) (tkK e) (tfF e) e.2.1.2.2.2.2.2.1 e.2.1.2.2.2.2.2.2.1 (toO e) (txX e)] (cnU c i j k) (.list evT (segS c e).1) (cnU (segS c e).2 i j k) :=
  at_U (f11_u c B hi h0 hB e.1 _ _ _ _ _ _ _ _ _ (by omega) (by omega)) i j k hn rfl rfl
/-! ### long lists -/
def bigE (e : Sg) : Bool := decide ((txX e).length > 200) || decide ((toO e).length > 10)
def longL (l : List Sg) : Bool := (l.take 41).any bigE || decide (l.length > 40)
theorem bigE_f {e : Sg} (h : bigE e = false) : (txX e).length ≤ 200 ∧ (toO e).length ≤ 10 := by
  unfold bigE at h
  simp only [Bool.or_eq_false_iff, decide_eq_false_iff_not] at h
  omega
theorem longL_f {l : List Sg} (h : longL l = false) : l.length ≤ 40 ∧ ∀ i, i < l.length → bigE (l.getD i (Ty.dflt sgT)) = false := by
  unfold longL at h
  obtain ⟨h1, h2⟩ := Bool.or_eq_false_iff.1 h
  have h3 := of_decide_eq_false h2
  refine ⟨by omega, fun i hi => ?_⟩
  rw [List.take_of_length_le (by omega)] at h1
  have := List.any_eq_false.1 h1 _ (getD_mem (d := (Ty.dflt sgT : Sg)) hi)
  simpa using this
theorem longL_t {l : List Sg} {i : Nat} (hi : i < l.length) (h41 : i < 41) (h : bigE (l.getD i (Ty.dflt sgT)) = true) : longL l = true := by
  unfold longL
  refine Bool.or_eq_true_iff.2 (.inl (List.any_eq_true.2 ⟨l.getD i (Ty.dflt sgT), ?_, h⟩))
  have e : (l.take 41).getD i (Ty.dflt sgT) = l.getD i (Ty.dflt sgT) := getD_take (by omega)
  rw [← e]
  exact getD_mem (by rw [List.length_take]; omega)
theorem longL_e {l : List Sg} {i : Nat} (hi : i = l.length ∨ i = 41) (h : ∀ j, j < i → bigE (l.getD j (Ty.dflt sgT)) = false) : longL l = decide (l.length > 40) := by
  unfold longL
  rw [show (l.take 41).any bigE = false from List.any_eq_false.2 (fun c hc => by
    obtain ⟨j, hj, rfl⟩ := mem_getD (Ty.dflt sgT) hc
    rw [List.length_take] at hj
    have hj60 : j < 41 := Nat.lt_of_lt_of_le hj (Nat.min_le_left ..)
    have hjl : j < l.length := Nat.lt_of_lt_of_le hj (Nat.min_le_right ..)
    rw [getD_take (by omega)]
    rw [h j (by omega)]; decide), Bool.false_or]
theorem bigE_of {e : Sg} {b : Bool} (h : (if decide (((txX e).length : Int) > 200) = true then true else decide (((toO e).length : Int) > 10)) = b) : bigE e = b := by
  rw [← h, iteO]
  unfold bigE
  congr 1 <;> exact decide_eq_decide.2 (by omega)
theorem f15_spec (l : List Sg) (hl : l.length ≤ 140737488351232) : PSpec P G 15 [.list sgT l] (.bool (longL l)) := by
  refine pspec_intro hT Tryd.func15 (by decide) rfl rfl (by kernel_rfl) rfl ?_
  refine Tri.seq (Tri.reg hT ?_)
  refine Tri.seq ?_
  refine Tri.seq (Tri.reg hT ?_)
  refine (Tri.block ?_)
  refine (Tri.loop (ι := Nat) (fun i => ⟨35, 0, 0, [(0, .list sgT l), (3, .int .i64 (i : Int))], [], G⟩) (fun i => i ≤ l.length ∧ i ≤ 41 ∧ ∀ j, j < i → bigE (l.getD j (Ty.dflt sgT)) = false) (fun i => 41 - i) (0) ?_ ?_ ?_)
  · exact ⟨Nat.zero_le _, by omega, fun j hj => by omega⟩
  · exact Le.weak rfl rfl rfl rfl ⟨(by first | rfl | exact iv1 (by (try simp only [decide_eq_true_eq, decide_eq_false_iff_not, toNat_cast] at *); omega)), (by first | rfl | exact iv1 (by (try simp only [decide_eq_true_eq, decide_eq_false_iff_not, toNat_cast] at *); omega)), trivial⟩ trivial
  · intro i hi
    refine Tri.seq ?_
    refine Tri.seq (Tri.reg hT ?_)
    refine ⟨_, [], trivial, rfl, rfl, fun h => ⟨rfl, rfl, rfl⟩, ?_⟩
    refine ⟨_, [], trivial, rfl, rfl, fun h => ⟨h, rfl, rfl, rfl⟩, ?_⟩
    refine ⟨⟨fun hc => hc, fun _ => trivial⟩, ?_⟩
    refine (Tri.cond ⟨fun h1 => ?_, fun h1 => ?_⟩)
    · refine (Tri.skip ?_)
      refine Tri.seq (Tri.block ?_)
      refine Tri.seq (Tri.reg hT ?_)
      refine ⟨by have h1' := gand_t h1; omega, ?_⟩
      refine ⟨_, [], trivial, rfl, rfl, fun h => ⟨rfl, rfl, rfl⟩, ?_⟩
      refine ⟨_, [], trivial, rfl, rfl, fun h => ⟨rfl, rfl, rfl⟩, ?_⟩
      refine ⟨_, [], trivial, rfl, rfl, fun h => ⟨h, h, by have h1' := gand_t h1; omega, rfl, rfl, rfl⟩, ?_⟩
      refine ⟨_, [], trivial, rfl, rfl, fun h => ⟨h, rfl, rfl, rfl⟩, ?_⟩
      refine ⟨_, [], trivial, rfl, rfl, fun h => ⟨h, rfl, rfl, rfl⟩, ?_⟩
      refine ⟨_, [], trivial, rfl, rfl, fun h => ⟨h, rfl, rfl, rfl⟩, ?_⟩
      refine ⟨_, [], trivial, rfl, rfl, fun h => ⟨h, rfl, rfl, rfl⟩, ?_⟩
      refine ⟨_, [], trivial, rfl, rfl, fun h => ⟨h, rfl, rfl, rfl⟩, ?_⟩
      refine ⟨⟨fun _ => trivial, fun hc => (gn hc)⟩, ?_⟩
      refine (Tri.cond ⟨fun h2 => ?_, fun h2 => ?_⟩)
      · refine Tri.seq (Tri.reg hT ?_)
        refine Tri.ret ?_
        rw [toNat_cast] at h2; have h1' := gand_t h1; exact ⟨congrArg AV.bool (longL_t (i := i) (by omega) (by omega) (bigE_of h2)).symm, trivial⟩
      · refine (Tri.skip ?_)
        refine (Tri.reg hT ?_)
        rw [toNat_cast] at h2; have h1' := gand_t h1
        exact ⟨i + 1, ⟨by omega, by omega, fun j hj => by rcases Nat.lt_or_ge j i with h9 | h9; exact hi.2.2 j h9; obtain rfl : j = i := (by omega); exact bigE_of h2⟩, (by omega), Le.weak rfl rfl rfl rfl ⟨(by first | rfl | exact iv1 (by (try simp only [decide_eq_true_eq, decide_eq_false_iff_not, toNat_cast] at *); omega)), (by first | rfl | exact iv1 (by (try simp only [decide_eq_true_eq, decide_eq_false_iff_not, toNat_cast] at *); omega)), trivial⟩ trivial⟩
    · refine Tri.exit ?_
      refine Tri.seq (Tri.reg hT ?_)
      refine Tri.ret ?_
      have h9 := hi.1; have h8 := hi.2.1; have h1' : i = l.length ∨ i = 41 := (by have := gand_f h1; omega); exact ⟨congrArg AV.bool ((decide_eq_decide.2 (by omega)).trans (longL_e (i := i) h1' hi.2.2).symm), trivial⟩
end Go.Proofs.YtchiagnggnblaaaDoor.Ac
