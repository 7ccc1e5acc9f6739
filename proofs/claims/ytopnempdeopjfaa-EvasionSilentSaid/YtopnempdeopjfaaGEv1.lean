import Derived.Test.YtopnempdeopjfaaGSt3
set_option linter.all false
/- Plain words of chapter 24: buffers and variants; a stream whose first byte comes last. -/
namespace Go.Ov
open Go Go.Fw
def stepE (pol : Int) (out : List Pc) (p : Pc) : List Pc := if (insR out p pol).2.2 = 0 then (insR out p pol).1 else out
def bufE (l : List Pc) (pol : Int) : List Pc := (l.take 64).foldl (stepE pol) []
def varE (l : List Pc) (pol : Int) : List UInt8 := if pol < 1 ∨ pol > 4 then [] else (takeF (bufE l pol) 0).1
/-- A buffer that Insert made of pieces of at most so many bytes. -/
structure BufOk (out : List Pc) : Prop where
  v : Valid out
  len : out.length ≤ 64
theorem stepE_ok {pol : Int} {out : List Pc} (h : BufOk out) {p : Pc} (hp : ((pd p).length : Int) ≤ 2147483648) : BufOk (stepE pol out p) := by
  unfold stepE
  split
  · rename_i he
    exact ⟨(insGood h.v hp he).valid, insR_small h.len⟩
  · exact h
theorem bufOk_nil : BufOk [] := ⟨fun j hj => absurd hj (Nat.not_lt_zero _), by simp⟩
theorem foldE_ok (pol : Int) : ∀ (l : List Pc) (out : List Pc), BufOk out → (∀ p ∈ l, ((pd p).length : Int) ≤ 2147483648) → BufOk (l.foldl (stepE pol) out)
  | [], out, h, _ => h
  | p :: l, out, h, hl => foldE_ok pol l _ (stepE_ok h (hl p (by simp))) (fun q hq => hl q (by simp [hq]))
theorem bufE_ok (l : List Pc) (pol : Int) (hl : ∀ p ∈ l, ((pd p).length : Int) ≤ 2147483648) : BufOk (bufE l pol) :=
  foldE_ok pol _ _ bufOk_nil (fun p hp => hl p (List.mem_of_mem_take hp))
/-! ### TopVariants -/
def sT (x : Stt) (l : List Pc) : SS := ⟨l, 0, IntKind.u32.wrap (x.1 + 1), 8192, polX x, -1⟩
theorem newT_eq (x : Stt) : newS x.1 8192 x.2.2.1 = sT x [] := rfl
structure TInv (l : List Pc) (i : Nat) : Prop where
  few : Few l (2 * i) 8192
  one : ∀ c ∈ cells l, 1 ≤ c.1
  len : l.length ≤ 64
theorem TInv.nil : TInv [] 0 := ⟨Few.nil 8192, fun c hc => by simp [cells] at hc, by simp⟩
theorem TInv.s {x : Stt} {l : List Pc} {i : Nat} (h : TInv l i) : SInv (sT x l) 0 := by
  refine ⟨Int.le_refl _, Int.le_refl _, by show (1 : Int) ≤ 8192 ∧ (8192 : Int) ≤ 8192; omega, polX_rng x, h.few.v, fun c hc => ?_, h.len, .inl rfl, ?_⟩
  · have := h.one c hc
    have := h.few.rng c hc
    show (0 : Int) ≤ c.1 ∧ c.1 < 0 + 8192
    omega
  · show 0 ≤ IntKind.u32.wrap _ ∧ IntKind.u32.wrap _ < _
    rw [wrap_u32]; omega
theorem offT (x : Stt) (l : List Pc) (a : Int) (h : 0 ≤ a ∧ a ≤ 1000) : offS (sT x l) (seqO x a) = a := by
  unfold offS seqO
  show (0 : Int) + sdiff _ (IntKind.u32.wrap (IntKind.u32.wrap (x.1 + 1) + IntKind.u32.wrap 0)) = _
  simp only [sdiff_eq, wrap_u32]
  omega
theorem insR_same (l : List Pc) {p q : Pc} (pol : Int) (h1 : pa p = pa q) (h2 : pd p = pd q) : insR l p pol = insR l q pol := by
  have e : newP p = newP q := by unfold newP endP; rw [h1, h2]
  unfold insR
  rw [h1, h2, e]
/-- Any piece of the statement, into the stream. -/
theorem TInv.add {x : Stt} {l : List Pc} {i : Nat} (h : TInv l i) (hi : i < 30) {o : Pc} (ho : 0 ≤ pa o ∧ pa o ≤ 1000) (hl : pd o ≠ [] ∧ (pd o).length ≤ 100) :
    addS (sT x l) (seqO x (pa o)) (pd o) = (((takeF (insR l o (polX x)).1 0).1, 0, (insR l o (polX x)).2.1), takeN (sT x (insR l o (polX x)).1)) ∧ (insR l o (polX x)).2.2 = 0 ∧ InsFew l o (polX x) (2 * i) 8192 := by
  have eo := offT x l (pa o) ho
  have hp : 0 < (pd o).length := List.length_pos_iff.2 hl.1
  have hl2 := hl.2
  have eh : hiS (sT x l) (pa o) (pd o).length = pa o + (pd o).length := by
    show min (pa o + ((pd o).length : Int)) (0 + 8192) = _
    omega
  have ep : (sT x l).pos = 0 := rfl
  have elo : max (pa o) (sT x l).pos = pa o := by rw [ep]; omega
  have hlt : ¬ max (offS (sT x l) (seqO x (pa o))) (sT x l).pos ≥ hiS (sT x l) (offS (sT x l) (seqO x (pa o))) (pd o).length := by rw [eo, eh, elo]; omega
  have hR : hiS (sT x l) (offS (sT x l) (seqO x (pa o))) (pd o).length ≤ 8192 := by rw [eo, eh]; omega
  obtain ⟨k, ek⟩ := addS_few (s := sT x l) h.few (by omega) (polX_rng x).1 (polX_rng x).2 (Int.le_refl _) hlt hR (by decide)
  have ese : segP (offS (sT x l) (seqO x (pa o))) (max (offS (sT x l) (seqO x (pa o))) (sT x l).pos) (hiS (sT x l) (offS (sT x l) (seqO x (pa o))) (pd o).length) (pd o) = (pa o, pd o, 0, 0, ()) := by
    rw [eo, eh, elo]
    unfold segP
    rw [show (pa o + ((pd o).length : Int) - pa o).toNat = (pd o).length by omega, show (pa o - pa o).toNat = 0 by omega, List.take_length, List.drop_zero]
  have k2 := ins_few h.few (by omega) (polX_rng x).1 (polX_rng x).2 (p := o) hl.1 ho.1 (by show pa o + ((pd o).length : Int) ≤ 8192; omega) (by decide)
  have es : insR l o (polX x) = insR l (pa o, pd o, 0, 0, ()) (polX x) := insR_same l (polX x) rfl rfl
  rw [ese] at k ek
  rw [eo, eh, elo] at ek
  have e1 : insR l (pa o, pd o, 0, 0, ()) (polX x) = (J (insM (cells l) (polX x) (pa o, pd o, 0, 0, ())), ((conS (cells l) (pa o, pd o, 0, 0, ()) : Nat) : Int), 0) := k.eq
  refine ⟨?_, by rw [k2.eq], k2⟩
  rw [ek, es, e1]
  refine Prod.ext (Prod.ext rfl (Prod.ext ?_ rfl)) rfl
  show ((pd o).length : Int) - (pa o + (pd o).length - pa o) = 0
  omega
theorem TInv.next {x : Stt} {l : List Pc} {i : Nat} (h : TInv l i) (hi : i < 30) {o : Pc} (ho : 1 ≤ pa o ∧ pa o ≤ 1000) (hl : pd o ≠ [] ∧ (pd o).length ≤ 100) :
    addS (sT x l) (seqO x (pa o)) (pd o) = (([], 0, (insR l o (polX x)).2.1), sT x (stepE (polX x) l o)) ∧ TInv (stepE (polX x) l o) (i + 1) := by
  obtain ⟨h1, h2, k⟩ := h.add (x := x) hi (o := o) ⟨by omega, ho.2⟩ hl
  have est : stepE (polX x) l o = (insR l o (polX x)).1 := if_pos h2
  have hs := sorted_cells h.few.v
  have hv : Valid (insR l o (polX x)).1 := by rw [k.eq]; exact k.few.v
  have hone : ∀ z ∈ cells (insR l o (polX x)).1, 1 ≤ z.1 := fun z hz => by
    rw [k.eq] at hz
    have hz' : z ∈ cells (J (insM (cells l) (polX x) o)) := hz
    rw [k.cells] at hz'
    rcases mem_insM hs hz' with ⟨q1, _, _⟩ | q
    · omega
    · exact h.one z q
  have ht : takeF (insR l o (polX x)).1 0 = ([], 0) := take_exact hv (s := []) (fun j hj => by simp at hj) (by
    have : atC (cells (insR l o (polX x)).1) 0 = none := atC_none (fun z hz => by have := hone z hz; omega)
    simpa using this)
  have et : takeN (sT x (insR l o (polX x)).1) = sT x (insR l o (polX x)).1 := by
    unfold takeN
    have e5 : takeF (sT x (insR l o (polX x)).1).l (sT x (insR l o (polX x)).1).pos = ([], 0) := ht
    rw [e5]
    have e7 : cutL (sT x (insR l o (polX x)).1).l 0 = (insR l o (polX x)).1 := cutL_zero hv
    simp only [e7]
    rfl
  refine ⟨by rw [h1, et, est, ht], ?_⟩
  rw [est]
  refine ⟨?_, hone, insR_small h.len⟩
  rw [k.eq]
  exact ⟨k.few.v, k.few.rng, k.few.brk⟩
/-- What the statement lets in. -/
structure TopOk (l : List Pc) : Prop where
  n : l.length ≤ 20
  ok : ∀ i, i < l.length → pd (l.getD i (Ty.dflt pT)) ≠ [] ∧ (pd (l.getD i (Ty.dflt pT))).length ≤ 100 ∧ 0 ≤ pa (l.getD i (Ty.dflt pT)) ∧ pa (l.getD i (Ty.dflt pT)) ≤ 1000 ∧ (i = l.length - 1 ↔ pa (l.getD i (Ty.dflt pT)) = 0)
def runTop (x : Stt) (l : List Pc) : List UInt8 × SS := l.foldl (fun a o => (a.1 ++ (addS a.2 (seqO x (pa o)) (pd o)).1.1, (addS a.2 (seqO x (pa o)) (pd o)).2)) ([], sT x [])
theorem runTop_next (x : Stt) {l : List Pc} {i : Nat} (h : i < l.length) : runTop x (l.take (i + 1)) = ((runTop x (l.take i)).1 ++ (addS (runTop x (l.take i)).2 (seqO x (pa (l.getD i (Ty.dflt pT)))) (pd (l.getD i (Ty.dflt pT)))).1.1, (addS (runTop x (l.take i)).2 (seqO x (pa (l.getD i (Ty.dflt pT)))) (pd (l.getD i (Ty.dflt pT)))).2) := by
  unfold runTop
  exact foldl_next _ _ _ h
theorem foldE_next (pol : Int) {l : List Pc} {i : Nat} (h : i < l.length) : (l.take (i + 1)).foldl (stepE pol) [] = stepE pol ((l.take i).foldl (stepE pol) []) (l.getD i (Ty.dflt pT)) := foldl_next _ _ _ h
theorem top_inv (x : Stt) {l : List Pc} (h : TopOk l) : ∀ {i : Nat}, i < l.length → TInv ((l.take i).foldl (stepE (polX x)) []) i ∧ runTop x (l.take i) = ([], sT x ((l.take i).foldl (stepE (polX x)) []))
  | 0, _ => ⟨TInv.nil, rfl⟩
  | i + 1, hi => by
    obtain ⟨h1, h2⟩ := top_inv x h (i := i) (by omega)
    obtain ⟨a1, a2, a3, a4, a5⟩ := h.ok i (by omega)
    have hn := h.n
    have h0 : pa (l.getD i (Ty.dflt pT)) ≠ 0 := fun hh => by have := a5.2 hh; omega
    obtain ⟨k1, k2⟩ := h1.next (x := x) (by omega) ⟨by omega, a4⟩ ⟨a1, a2⟩
    rw [foldE_next (polX x) (by omega), runTop_next x (by omega), h2, k1]
    exact ⟨k2, rfl⟩
structure TopStep (x : Stt) (l : List Pc) (i : Nat) : Prop where
  inv : SInv (runTop x (l.take i)).2 0
  cut : (addS (runTop x (l.take i)).2 (seqO x (pa (l.getD i (Ty.dflt pT)))) (pd (l.getD i (Ty.dflt pT)))).1.2.1 = 0
  out : i < l.length - 1 → (addS (runTop x (l.take i)).2 (seqO x (pa (l.getD i (Ty.dflt pT)))) (pd (l.getD i (Ty.dflt pT)))).1.1 = []
  len : (runTop x (l.take i)).1 = []
  dlen : (addS (runTop x (l.take i)).2 (seqO x (pa (l.getD i (Ty.dflt pT)))) (pd (l.getD i (Ty.dflt pT)))).1.1.length ≤ 100000
theorem top_step (x : Stt) {l : List Pc} (h : TopOk l) {i : Nat} (hi : i < l.length) : TopStep x l i := by
  obtain ⟨h1, h2⟩ := top_inv x h hi
  obtain ⟨a1, a2, a3, a4, a5⟩ := h.ok i hi
  have hn := h.n
  obtain ⟨k1, k2, k3⟩ := h1.add (x := x) (by omega) (o := l.getD i (Ty.dflt pT)) ⟨a3, a4⟩ ⟨a1, a2⟩
  refine ⟨by rw [h2]; exact h1.s, by rw [h2, k1], fun hlt => ?_, by rw [h2], ?_⟩
  · have h0 : pa (l.getD i (Ty.dflt pT)) ≠ 0 := fun hh => by have := a5.2 hh; omega
    obtain ⟨k1, k2⟩ := h1.next (x := x) (by omega) ⟨by omega, a4⟩ ⟨a1, a2⟩
    rw [h2, k1]
  · rw [h2]
    have ha := addS_ok (h1.s (x := x)) (seqO x (pa (l.getD i (Ty.dflt pT)))) (pd (l.getD i (Ty.dflt pT)))
    have hb := addS_inv (h1.s (x := x)) (seqO x (pa (l.getD i (Ty.dflt pT)))) (pd (l.getD i (Ty.dflt pT)))
    have hc := hb.posB
    have e0 : (sT x ((l.take i).foldl (stepE (polX x)) [])).pos = 0 := rfl
    have := ha.1
    show (addS (sT x ((l.take i).foldl (stepE (polX x)) [])) (seqO x (pa (l.getD i (Ty.dflt pT)))) (pd (l.getD i (Ty.dflt pT)))).1.1.length ≤ 100000
    omega
theorem top_end (x : Stt) {l : List Pc} (h : TopOk l) (hne : l.length ≠ 0) (hp : polX x = x.2.2.1) : (runTop x l).1 = varE l x.2.2.1 := by
  have hi : l.length - 1 < l.length := by omega
  obtain ⟨h1, h2⟩ := top_inv x h hi
  obtain ⟨a1, a2, a3, a4, a5⟩ := h.ok _ hi
  have hn := h.n
  obtain ⟨k1, k2, k3⟩ := h1.add (x := x) (by omega) (o := l.getD (l.length - 1) (Ty.dflt pT)) ⟨a3, a4⟩ ⟨a1, a2⟩
  have e := runTop_next x hi
  have e2 := foldE_next (polX x) hi
  rw [show l.length - 1 + 1 = l.length by omega, List.take_length] at e e2
  have e3 : bufE l (polX x) = (insR ((l.take (l.length - 1)).foldl (stepE (polX x)) []) (l.getD (l.length - 1) (Ty.dflt pT)) (polX x)).1 := by
    unfold bufE
    rw [List.take_of_length_le (Nat.le_trans hn (by decide)), e2, stepE, if_pos k2]
  have hr := polX_rng x
  have e4 : varE l (polX x) = (takeF (bufE l (polX x)) 0).1 := if_neg (by omega)
  have e5 : (runTop x l).1 = (takeF (bufE l (polX x)) 0).1 := by
    rw [e, h2, e3]
    show [] ++ (addS (sT x _) _ _).1.1 = _
    rw [k1]
    rfl
  rw [e5, ← e4, hp]
end Go.Ov

/- Plain words of chapter 24: the example of TopVariants. -/
namespace Go.Ov
open Go Go.Fw
def OkT (l : List Pc) (i : Nat) : Prop := pd (l.getD i (Ty.dflt pT)) ≠ [] ∧ (pd (l.getD i (Ty.dflt pT))).length ≤ 100 ∧ 0 ≤ pa (l.getD i (Ty.dflt pT)) ∧ pa (l.getD i (Ty.dflt pT)) ≤ 1000 ∧ (i = l.length - 1 ↔ pa (l.getD i (Ty.dflt pT)) = 0)
theorem lenSum_le {l : List Pc} (hv : Valid l) : lenSum l ≤ 4294967296 := by
  have h1 := cells_len l
  have h2 := cells_within (sorted_cells hv) 4294967296 0 (fun c hc => by have := cells_rng hv c hc; omega)
  omega
abbrev xT (isn : Int) : Stt := (isn, 8192, 2, ())
abbrev bT : Pc := (2, [98, 98, 98, 98], 0, 0, ())
abbrev aT : Pc := (0, [97, 97, 97, 97], 0, 0, ())
abbrev lT1 : List Pc := [(2, [98, 98, 98, 98], 2, 6, ())]
theorem seq3 (isn : Int) : seqO (xT isn) 2 = IntKind.u32.wrap (isn + 3) := by unfold seqO; simp only [wrap_u32]; omega
theorem seq1 (isn : Int) : seqO (xT isn) 0 = IntKind.u32.wrap (isn + 1) := by unfold seqO; simp only [wrap_u32]; omega
theorem top_a (isn : Int) : addS (sT (xT isn) []) (IntKind.u32.wrap (isn + 3)) [98, 98, 98, 98] = (([], 0, 0), sT (xT isn) lT1) ∧ TInv lT1 1 := by
  have := TInv.nil.next (x := xT isn) (by decide) (o := bT) (by decide) (by decide)
  rw [← seq3]
  exact this
theorem top_b (isn : Int) : ∃ s', addS (sT (xT isn) lT1) (IntKind.u32.wrap (isn + 1)) [97, 97, 97, 97] = (([97, 97, 97, 97, 98, 98], 0, 2), s') := by
  have := (top_a isn).2.add (x := xT isn) (by decide) (o := aT) (by decide) (by decide)
  rw [← seq1]
  exact ⟨_, this.1⟩
theorem top_v : varE [bT, aT] 2 = [97, 97, 97, 97, 98, 98] := by kernel_rfl
end Go.Ov

