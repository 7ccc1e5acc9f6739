/- Plain words of chapter 20: pieces ahead of a stream. -/
import Derived.Test.YtnleiflijccefaaSt8
set_option linter.all false
set_option linter.unusedVariables false
set_option linter.unusedSimpArgs false
namespace Go.Ov
open Go Go.Fw
theorem addS_few {s : SS} {n : Nat} {R : Int} (h : Few s.l n R) (hn : n + 2 ≤ 64) (h1 : 1 ≤ s.pol) (h4 : s.pol ≤ 4) (p0 : 0 ≤ s.pos) {seq : Int} {d : List UInt8}
    (hlt : ¬ max (offS s seq) s.pos ≥ hiS s (offS s seq) d.length) (hR : hiS s (offS s seq) d.length ≤ R) (hR2 : R ≤ 2147483648) :
    InsFew s.l (segP (offS s seq) (max (offS s seq) s.pos) (hiS s (offS s seq) d.length) d) s.pol n R ∧
    addS s seq d = (((takeF (J (insM (cells s.l) s.pol (segP (offS s seq) (max (offS s seq) s.pos) (hiS s (offS s seq) d.length) d))) s.pos).1, d.length - (hiS s (offS s seq) d.length - max (offS s seq) s.pos), ((conS (cells s.l) (segP (offS s seq) (max (offS s seq) s.pos) (hiS s (offS s seq) d.length) d) : Nat) : Int)),
      takeN { s with l := J (insM (cells s.l) s.pol (segP (offS s seq) (max (offS s seq) s.pos) (hiS s (offS s seq) d.length) d)) }) := by
  have o := hi_ok hlt
  have hl := segP_len (d := d) o.alo (by have := o.lohi; omega) o.hin
  have olo := o.lohi
  have opl := o.plo
  have e1 : pa (segP (offS s seq) (max (offS s seq) s.pos) (hiS s (offS s seq) d.length) d) = max (offS s seq) s.pos := rfl
  have e2 : endP (segP (offS s seq) (max (offS s seq) s.pos) (hiS s (offS s seq) d.length) d) = max (offS s seq) s.pos + ((pd (segP (offS s seq) (max (offS s seq) s.pos) (hiS s (offS s seq) d.length) d)).length : Int) := rfl
  have k := ins_few h hn h1 h4 (p := segP (offS s seq) (max (offS s seq) s.pos) (hiS s (offS s seq) d.length) d) (fun hh => by rw [hh] at hl; simp only [List.length_nil] at hl; omega) (by omega) (by omega) hR2
  refine ⟨k, ?_⟩
  have e : insS s seq d = (J (insM (cells s.l) s.pol (segP (offS s seq) (max (offS s seq) s.pos) (hiS s (offS s seq) d.length) d)), ((conS (cells s.l) (segP (offS s seq) (max (offS s seq) s.pos) (hiS s (offS s seq) d.length) d) : Nat) : Int), 0) := k.eq
  unfold addS
  rw [if_neg hlt, e, if_neg (by simp)]
theorem cutL_zero {l : List Pc} (hv : Valid l) : cutL l 0 = l := by
  have key : ∀ (l : List Pc), (∀ o ∈ l, OkP o) → cutL l 0 = l := by
    intro l
    induction l with
    | nil => intro _; rfl
    | cons o l ih =>
      intro h
      rw [cutL_cons, ih (fun x hx => h x (by simp [hx]))]
      obtain ⟨a1, a2, a3, a4, a5, a6⟩ := h o (by simp)
      have hp : 0 < (pd o).length := List.length_pos_iff.2 a1
      have e : endP o = pa o + (pd o).length := rfl
      have : cut1 0 o = some o := by rw [cut1, if_neg (by omega), if_neg (by omega)]
      rw [this]; rfl
  exact key l (valid_pw.1 hv).1
abbrev pp (c : Ca) : Pc := (c.2.1 - 1, c.2.2.1, 0, 0, ())
abbrev polX (x : Stt) : Int := min (max x.2.2.1 1) 4
theorem polX_rng (x : Stt) : 1 ≤ polX x ∧ polX x ≤ 4 := by unfold polX; omega
def mS (pol : Int) (l : List Pc) (c : Ca) : List Pc := if c.2.1 < 2 ∨ c.2.1 > 600 then l else (insR l (pp c) pol).1
def sP (x : Stt) (l : List Pc) : SS := ⟨l, 0, IntKind.u32.wrap (x.1 + 1), 1000, polX x, -1⟩
theorem newP_eq (x : Stt) : newS x.1 1000 x.2.2.1 = sP x [] := rfl
structure PInv (l : List Pc) (i : Nat) : Prop where
  few : Few l (2 * i) 1000
  one : ∀ c ∈ cells l, 1 ≤ c.1
  len : l.length ≤ 64
theorem PInv.s {x : Stt} {l : List Pc} {i : Nat} (h : PInv l i) : SInv (sP x l) 0 := by
  refine ⟨Int.le_refl _, Int.le_refl _, by show (1 : Int) ≤ 1000 ∧ (1000 : Int) ≤ 8192; omega, polX_rng x, h.few.v, fun c hc => ?_, h.len, .inl rfl, ?_⟩
  · have := h.one c hc
    have := h.few.rng c hc
    show (0 : Int) ≤ c.1 ∧ c.1 < 0 + 1000
    omega
  · show 0 ≤ IntKind.u32.wrap _ ∧ IntKind.u32.wrap _ < _
    rw [wrap_u32]; omega
theorem offP (x : Stt) (l : List Pc) (c : Ca) (h : ¬ (c.2.1 < 2 ∨ c.2.1 > 600)) : offS (sP x l) (seqS x.1 c) = c.2.1 - 1 := by
  unfold offS seqS
  show (0 : Int) + sdiff _ (IntKind.u32.wrap (IntKind.u32.wrap (x.1 + 1) + IntKind.u32.wrap 0)) = _
  simp only [sdiff_eq, wrap_u32]
  omega
theorem PInv.next {x : Stt} {l : List Pc} {i : Nat} (h : PInv l i) (hi : i < 12) {c : Ca} (hc : ¬ (c.2.1 < 2 ∨ c.2.1 > 600)) (hl : c.2.2.1.length ≤ 300) :
    addS (sP x l) (seqS x.1 c) c.2.2.1 = (([], 0, (insR l (pp c) (polX x)).2.1), sP x (mS (polX x) l c)) ∧ (insR l (pp c) (polX x)).2.2 = 0 ∧ PInv (mS (polX x) l c) (i + 1) := by
  have eo := offP x l c hc
  have em : mS (polX x) l c = (insR l (pp c) (polX x)).1 := if_neg hc
  have eh : hiS (sP x l) (c.2.1 - 1) c.2.2.1.length = c.2.1 - 1 + c.2.2.1.length := by
    show min (c.2.1 - 1 + (c.2.2.1.length : Int)) (0 + 1000) = _
    omega
  have ep : (sP x l).pos = 0 := rfl
  by_cases hd : c.2.2.1 = []
  · have e1 : insR l (pp c) (polX x) = (l, 0, 0) := if_pos hd
    rw [em, e1]
    refine ⟨?_, rfl, ⟨⟨h.few.v, h.few.rng, Nat.le_trans h.few.brk (by omega)⟩, h.one, h.len⟩⟩
    unfold addS
    rw [eo, eh, ep, if_pos (by rw [hd]; simp only [List.length_nil]; omega), hd]
    rfl
  · have hp : 0 < c.2.2.1.length := List.length_pos_iff.2 hd
    have elo : max (c.2.1 - 1) (sP x l).pos = c.2.1 - 1 := by rw [ep]; omega
    have hlt : ¬ max (offS (sP x l) (seqS x.1 c)) (sP x l).pos ≥ hiS (sP x l) (offS (sP x l) (seqS x.1 c)) c.2.2.1.length := by rw [eo, eh, elo]; omega
    have hR : hiS (sP x l) (offS (sP x l) (seqS x.1 c)) c.2.2.1.length ≤ 1000 := by rw [eo, eh]; omega
    obtain ⟨k, ek⟩ := addS_few (s := sP x l) h.few (by omega) (polX_rng x).1 (polX_rng x).2 (Int.le_refl _) hlt hR (by decide)
    have ese : segP (offS (sP x l) (seqS x.1 c)) (max (offS (sP x l) (seqS x.1 c)) (sP x l).pos) (hiS (sP x l) (offS (sP x l) (seqS x.1 c)) c.2.2.1.length) c.2.2.1 = pp c := by
      rw [eo, eh, elo]
      unfold segP pp
      rw [show (c.2.1 - 1 + (c.2.2.1.length : Int) - (c.2.1 - 1)).toNat = c.2.2.1.length by omega, show (c.2.1 - 1 - (c.2.1 - 1)).toNat = 0 by omega, List.take_length, List.drop_zero]
    rw [ese] at k ek
    rw [eo, eh, elo] at ek
    have ei : insR l (pp c) (polX x) = (J (insM (cells l) (polX x) (pp c)), ((conS (cells l) (pp c) : Nat) : Int), 0) := k.eq
    have hs := sorted_cells h.few.v
    have h1 : ∀ z ∈ cells (J (insM (cells l) (polX x) (pp c))), 1 ≤ z.1 := fun z hz => by
      have hcl : cells (J (insM (cells l) (polX x) (pp c))) = insM (cells l) (polX x) (pp c) := k.cells
      rw [hcl] at hz
      rcases mem_insM hs hz with ⟨q1, _, _⟩ | q
      · have : pa (pp c) = c.2.1 - 1 := rfl
        omega
      · exact h.one z q
    have hkv : Valid (J (insM (cells l) (polX x) (pp c))) := k.few.v
    have hn : atC (cells (J (insM (cells l) (polX x) (pp c)))) 0 = none := atC_none (fun z hz => by have := h1 z hz; omega)
    have ht : takeF (J (insM (cells l) (polX x) (pp c))) 0 = ([], 0) := take_exact hkv (s := []) (fun j hj => by simp at hj) (by simpa using hn)
    rw [em, ei]
    refine ⟨?_, rfl, ⟨⟨k.few.v, k.few.rng, k.few.brk⟩, h1, ?_⟩⟩
    · rw [ek]
      have e5 : takeF (J (insM (cells (sP x l).l) (sP x l).pol (pp c))) (sP x l).pos = ([], 0) := ht
      have e6 : takeN { sP x l with l := J (insM (cells (sP x l).l) (sP x l).pol (pp c)) } = sP x (J (insM (cells l) (polX x) (pp c))) := by
        unfold takeN
        simp only
        rw [e5]
        have e7 : cutL (J (insM (cells (sP x l).l) (sP x l).pol (pp c))) 0 = J (insM (cells l) (polX x) (pp c)) := cutL_zero hkv
        simp only [e7]
        rfl
      rw [e5, e6]
      refine Prod.ext (Prod.ext rfl (Prod.ext ?_ rfl)) rfl
      show (c.2.2.1.length : Int) - (c.2.1 - 1 + c.2.2.1.length - (c.2.1 - 1)) = 0
      omega
    · have := insR_small (p := pp c) (pol := polX x) h.len
      rw [ei] at this
      exact this
def pcsS (x : Stt) (l : List Ca) : List Pc := l.foldl (mS (polX x)) []
theorem pcs_next (x : Stt) {l : List Ca} {i : Nat} (h : i < l.length) : pcsS x (l.take (i + 1)) = mS (polX x) (pcsS x (l.take i)) (l.getD i (Ty.dflt kT)) := foldl_next _ _ _ h
theorem pcs_inv (x : Stt) {l : List Ca} (h12 : l.length ≤ 12) (hl : ∀ i, i < l.length → (l.getD i (Ty.dflt kT)).2.2.1.length ≤ 300) : ∀ {i : Nat}, i ≤ l.length → PInv (pcsS x (l.take i)) i
  | 0, _ => ⟨by have := Few.nil 1000; simpa [pcsS] using this, fun c hc => by simp [pcsS, cells] at hc, by simp [pcsS]⟩
  | i + 1, hi => by
    have ih := pcs_inv x h12 hl (i := i) (by omega)
    rw [pcs_next x (by omega)]
    by_cases hc : (l.getD i (Ty.dflt kT)).2.1 < 2 ∨ (l.getD i (Ty.dflt kT)).2.1 > 600
    · rw [mS, if_pos hc]
      exact ⟨⟨ih.few.v, ih.few.rng, Nat.le_trans ih.few.brk (by omega)⟩, ih.one, ih.len⟩
    · exact (ih.next (x := x) (by omega) hc (hl i (by omega))).2.2
/-- The byte that was lacking. -/
theorem PInv.last {x : Stt} {l : List Pc} {i : Nat} (h : PInv l i) (hi : i ≤ 12) : (addS (sP x l) (IntKind.u32.wrap (x.1 + 1)) [122]).1.1 = 122 :: (takeF l 1).1 := by
  have eo : offS (sP x l) (IntKind.u32.wrap (x.1 + 1)) = 0 := by
    unfold offS
    show (0 : Int) + sdiff _ (IntKind.u32.wrap (IntKind.u32.wrap (x.1 + 1) + IntKind.u32.wrap 0)) = _
    simp only [sdiff_eq, wrap_u32]
    omega
  have eh : hiS (sP x l) 0 ([122] : List UInt8).length = 1 := rfl
  have ep : (sP x l).pos = 0 := rfl
  obtain ⟨k, ek⟩ := addS_few (s := sP x l) (seq := IntKind.u32.wrap (x.1 + 1)) (d := [122]) h.few (by omega) (polX_rng x).1 (polX_rng x).2 (Int.le_refl _) (by rw [eo, eh, ep]; decide) (by rw [eo, eh]; decide) (by decide)
  have ese : segP (offS (sP x l) (IntKind.u32.wrap (x.1 + 1))) (max (offS (sP x l) (IntKind.u32.wrap (x.1 + 1))) (sP x l).pos) (hiS (sP x l) (offS (sP x l) (IntKind.u32.wrap (x.1 + 1))) ([122] : List UInt8).length) [122] = (0, [122], 0, 0, ()) := by
    rw [eo, eh, ep]; rfl
  rw [ese] at k ek
  rw [ek]
  show (takeF (J (insM (cells l) (polX x) (0, [122], 0, 0, ()))) 0).1 = _
  have hs := sorted_cells h.few.v
  have hcl : cells (J (insM (cells l) (polX x) (0, [122], 0, 0, ()))) = insM (cells l) (polX x) (0, [122], 0, 0, ()) := k.cells
  have hkv : Valid (J (insM (cells l) (polX x) (0, [122], 0, 0, ()))) := k.few.v
  have hat := atC_insM hs (polX x) ((0, [122], 0, 0, ()) : Pc)
  have tk := takeOk h.few.v 1
  have e0 : pa ((0, [122], 0, 0, ()) : Pc) = 0 := rfl
  have e1 : endP ((0, [122], 0, 0, ()) : Pc) = 1 := rfl
  have hn0 : atC (cells l) 0 = none := atC_none (fun z hz => by have := h.one z hz; omega)
  have hge : ∀ a : Int, 1 ≤ a → atC (cells (J (insM (cells l) (polX x) (0, [122], 0, 0, ())))) a = atC (cells l) a := fun a ha => by
    rw [hcl, hat, if_neg (by omega)]
  have hfin : takeF (J (insM (cells l) (polX x) (0, [122], 0, 0, ()))) 0 = (122 :: (takeF l 1).1, 0 + ((122 :: (takeF l 1).1).length : Int)) := by
   refine take_exact hkv (fun j hj => ?_) ?_
   · cases j with
     | zero =>
       refine ⟨pick (cells l) (polX x) (newP (0, [122], 0, 0, ())) 0, ?_, ?_⟩
       · rw [hcl, hat]; rfl
       · unfold pick
         rw [hn0]; rfl
     | succ j =>
       simp only [List.length_cons] at hj
       obtain ⟨o, q1, q2⟩ := tk.some_ j (by omega)
       refine ⟨o, ?_, by simpa using q2⟩
       rw [hge _ (by omega), ← q1]
       congr 1
       omega
   · rw [hge _ (by simp only [List.length_cons]; omega), ← tk.none_]
     congr 1
     simp only [List.length_cons]
     omega
  rw [hfin]
end Go.Ov
