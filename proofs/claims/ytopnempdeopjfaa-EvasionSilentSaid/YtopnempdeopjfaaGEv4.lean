import Derived.Test.YtopnempdeopjfaaGEv3
import Derived.Test.YtopnempdeopjfaaGSt2
set_option linter.all false
/- Chapter 24, plain: what is folded lies apart, and is folded to itself. -/
namespace Go.Ov
open Go Go.Fw
def Apart (x y : Pc) : Prop := endP x < pa y
def Sep (Z : List Pc) : Prop := (∀ p ∈ Z, pd p ≠ [] ∧ 0 ≤ pa p ∧ endP p ≤ 4294967296 ∧ pf p = 0 ∧ pt p = 0) ∧ Z.Pairwise Apart
theorem end_gt {p : Pc} (h : pd p ≠ []) : pa p < endP p := by
  have : 0 < (pd p).length := List.length_pos_iff.2 h
  unfold endP; omega
theorem sep_join {Z : List Pc} {q : Pc} (h : Sep Z) (hq : pd q ≠ [] ∧ 0 ≤ pa q ∧ endP q ≤ 4294967296) (hb : ∀ p ∈ Z, endP p ≤ pa q) : Sep (joinP Z (zP q)) ∧ ∀ p ∈ joinP Z (zP q), endP p ≤ endP q := by
  have hlt := end_gt hq.1
  rcases List.eq_nil_or_concat Z with rfl | ⟨out, r, rfl⟩
  · rw [joinP_nil]
    refine ⟨⟨fun p hp => ?_, List.pairwise_singleton _ _⟩, fun p hp => ?_⟩
    · rw [List.mem_singleton.1 hp]; exact ⟨hq.1, hq.2.1, hq.2.2, rfl, rfl⟩
    · rw [List.mem_singleton.1 hp]; exact Int.le_refl _
  · rw [List.concat_eq_append] at h hb ⊢
    have hr := h.1 r (by simp)
    have hpw := List.pairwise_append.1 h.2
    have hrq := hb r (by simp)
    rw [joinP_snoc]
    by_cases e : r.1 + (r.2.1.length : Int) = (zP q).1 ∧ r.2.2.1 = (zP q).2.2.1 ∧ r.2.2.2.1 = (zP q).2.2.2.1
    · rw [if_pos e]
      have e1 : pa r + ((pd r).length : Int) = pa q := e.1
      have en : endP ((r.1, r.2.1 ++ (zP q).2.1, (zP q).2.2.1, (zP q).2.2.2.1, ()) : Pc) = endP q := by
        show pa r + ((pd r ++ pd q).length : Int) = pa q + (pd q).length
        rw [List.length_append]; omega
      refine ⟨⟨fun p hp => ?_, List.pairwise_append.2 ⟨hpw.1, List.pairwise_singleton _ _, fun x hx y hy => ?_⟩⟩, fun p hp => ?_⟩
      · rcases List.mem_append.1 hp with hp | hp
        · exact h.1 p (by simp [hp])
        · rw [List.mem_singleton.1 hp]
          refine ⟨fun hh => ?_, hr.2.1, by rw [en]; exact hq.2.2, rfl, rfl⟩
          have : pd r ++ pd q = [] := hh
          exact hq.1 (List.append_eq_nil_iff.1 this).2
      · rw [List.mem_singleton.1 hy]
        exact hpw.2.2 x hx r (by simp)
      · rcases List.mem_append.1 hp with hp | hp
        · have := hb p (by simp [hp]); omega
        · rw [List.mem_singleton.1 hp, en]; exact Int.le_refl _
    · rw [if_neg e]
      have e1 : ¬ endP r = pa q := fun h1 => e ⟨h1, hr.2.2.2.1, hr.2.2.2.2⟩
      have hall : ∀ p ∈ out ++ [r], endP p < pa q := fun p hp => by
        rcases List.mem_append.1 hp with hp | hp
        · have h1 : endP p < pa r := hpw.2.2 p hp r (by simp)
          have h2 := end_gt hr.1
          omega
        · rw [List.mem_singleton.1 hp]; omega
      have e2 : out ++ [r, zP q] = (out ++ [r]) ++ [zP q] := by simp
      rw [e2]
      refine ⟨⟨fun p hp => ?_, List.pairwise_append.2 ⟨h.2, List.pairwise_singleton _ _, fun x hx y hy => ?_⟩⟩, fun p hp => ?_⟩
      · rcases List.mem_append.1 hp with hp | hp
        · exact h.1 p hp
        · rw [List.mem_singleton.1 hp]; exact ⟨hq.1, hq.2.1, hq.2.2, rfl, rfl⟩
      · rw [List.mem_singleton.1 hy]
        exact hall x hx
      · rcases List.mem_append.1 hp with hp | hp
        · have := hall p hp; omega
        · rw [List.mem_singleton.1 hp]; exact Int.le_refl _
theorem sep_foldZ {L : List Pc} (hv : Valid L) : ∀ k, k ≤ L.length → Sep (foldZ L k) ∧ (k < L.length → ∀ p ∈ foldZ L k, endP p ≤ pa (L.getD k (Ty.dflt pT)))
  | 0, _ => by rw [foldZ_zero]; exact ⟨⟨fun p hp => by simp at hp, List.Pairwise.nil⟩, fun _ p hp => by simp at hp⟩
  | k + 1, hk => by
    obtain ⟨h1, h2⟩ := sep_foldZ hv k (by omega)
    have hin := valid_inF hv (i := k) (by omega)
    have hne := (hv k (by omega)).1.1
    have := sep_join h1 ⟨hne, hin.1, hin.2⟩ (h2 (by omega))
    rw [foldZ_next (by omega)]
    exact ⟨this.1, fun hk2 p hp => Int.le_trans (this.2 p hp) (((hv (k + 1) hk2).2 (by omega)))⟩
theorem fin_z {z : Pc} (h : pf z = 0 ∧ pt z = 0) : zP (fin z) = z := by
  obtain ⟨a, d, f, t, ⟨⟩⟩ := z
  obtain ⟨h1, h2⟩ := h
  have h1 : f = 0 := h1
  have h2 : t = 0 := h2
  subst h1; subst h2; rfl
theorem cells_foldl_join : ∀ (m l : List Pc), cells (m.foldl joinP l) = cells l ++ cells m
  | [], l => by simp [cells]
  | p :: m, l => by
    rw [List.foldl_cons, cells_foldl_join m, cells_joinP, List.append_assoc]
    congr 1
theorem atC_zC (a : Int) : ∀ (c : List Cl), atC (c.map zC) a = (atC c a).map zC
  | [] => rfl
  | x :: c => by
    have e : (zC x).1 = x.1 := rfl
    simp only [List.map_cons, atC, e]
    split
    · rfl
    · exact atC_zC a c
structure FoldOk (L F : List Pc) : Prop where
  pw : F.Pairwise Apart
  el : ∀ p ∈ F, pd p ≠ [] ∧ 0 ≤ pa p ∧ endP p ≤ 4294967296 ∧ pf p = pa p ∧ pt p = endP p
  z : F.map zP = foldZ L L.length
  len : F.length ≤ L.length
theorem foldOk {L : List Pc} (hv : Valid L) : FoldOk L (foldF L) := by
  have h := (sep_foldZ hv L.length (Nat.le_refl _)).1
  have ha : ∀ x y, Apart (fin x) (fin y) = Apart x y := fun x y => rfl
  refine ⟨?_, fun p hp => ?_, ?_, ?_⟩
  · unfold foldF
    rw [List.pairwise_map]
    exact h.2
  · obtain ⟨z, hz, rfl⟩ := List.mem_map.1 hp
    have := h.1 z hz
    exact ⟨this.1, this.2.1, this.2.2.1, rfl, rfl⟩
  · unfold foldF
    rw [List.map_map]
    have : ∀ z ∈ foldZ L L.length, (zP ∘ fin) z = id z := fun z hz => fin_z (h.1 z hz).2.2.2
    rw [List.map_congr_left this, List.map_id]
  · unfold foldF
    rw [List.length_map]
    exact foldZ_len L _
theorem FoldOk.valid {L F : List Pc} (h : FoldOk L F) : Valid F := valid_pw.2 ⟨fun p hp => by
  obtain ⟨h1, h2, h3, h4, h5⟩ := h.el p hp
  have := end_gt h1
  refine ⟨h1, by rw [h4]; exact h2, by rw [h4]; exact Int.le_refl _, by rw [h5]; exact h3, by rw [h5]; omega, by rw [h5]; unfold endP; omega⟩, h.pw.imp fun {x y} hxy => by have : endP x < pa y := hxy; omega⟩
theorem FoldOk.cells {L F : List Pc} (h : FoldOk L F) : (Ov.cells F).map zC = (Ov.cells L).map zC := by
  rw [← cells_z, h.z]
  unfold foldZ
  rw [List.take_length, cells_foldl_join, cells_z]
  simp [Ov.cells]
theorem FoldOk.at_ {L F : List Pc} (h : FoldOk L F) (b : Int) : (atC (Ov.cells F) b).map (·.2.1) = (atC (Ov.cells L) b).map (·.2.1) := by
  have e : (atC (Ov.cells F) b).map zC = (atC (Ov.cells L) b).map zC := by rw [← atC_zC, ← atC_zC, h.cells]
  have := congrArg (Option.map (fun c : Cl => c.2.1)) e
  rw [Option.map_map, Option.map_map] at this
  exact this
theorem FoldOk.take {L F : List Pc} (h : FoldOk L F) (hv : Valid L) : takeF F 0 = takeF L 0 := takeF_ext h.valid hv fun b _ => h.at_ b
theorem FoldOk.sum {L F : List Pc} (h : FoldOk L F) : lenSum F = lenSum L := by
  rw [lenSum_cells, lenSum_cells]
  have := congrArg List.length h.cells
  rw [List.length_map, List.length_map] at this
  rw [this]
/-! ### inserting what lies apart -/
theorem joinL_apart {out : List Pc} {p : Pc} (h : ∀ r ∈ out, endP r < pa p) : joinL out p = out ++ [p] := by
  rw [joinL_eq]
  rcases List.eq_nil_or_concat out with rfl | ⟨o, r, rfl⟩
  · rfl
  · rw [List.concat_eq_append] at h ⊢
    have hr := h r (by simp)
    rw [joinP_snoc, if_neg (fun e => by have : endP r = pa p := e.1; omega)]
    simp
theorem foldl_joinL_apart : ∀ (m acc : List Pc), (acc ++ m).Pairwise Apart → m.foldl joinL acc = acc ++ m
  | [], acc, _ => by simp
  | p :: m, acc, h => by
    have h2 := List.pairwise_append.1 h
    rw [List.foldl_cons, joinL_apart (fun r hr => h2.2.2 r hr p (by simp)), foldl_joinL_apart m _ (by simpa using h)]
    simp
theorem insLoop_below (pol : Int) (q : Pc) : ∀ (l : List Pc) (s : Ins), (∀ o ∈ l, endP o ≤ pa q) → insLoop pol q l s = ⟨l.foldl joinL s.out, s.conf, s.cov, s.at_⟩
  | [], s, _ => rfl
  | o :: r, s, h => by
    rw [insLoop, if_pos (h o (by simp)), insLoop_below pol q r _ (fun x hx => h x (by simp [hx]))]
    rfl
theorem ins_apart {out : List Pc} {p : Pc} {pol : Int} (h1 : 1 ≤ pol) (h4 : pol ≤ 4) (hpw : out.Pairwise Apart) (h : ∀ r ∈ out, endP r < pa p) (hne : pd p ≠ []) (p0 : 0 ≤ pa p) (p1 : pa p ≤ 2147483648) (hl : out.length < 64) :
    insR out p pol = (out ++ [newP p], 0, 0) := by
  have hq : insAll pol (newP p) out = ⟨out ++ [newP p], 0, 0, endP p⟩ := by
    unfold insAll
    rw [insLoop_below pol (newP p) out _ (fun o ho => by have := h o ho; show endP o ≤ pa p; omega)]
    have e0 : out.foldl joinL [] = out := by simpa using foldl_joinL_apart out [] (by simpa using hpw)
    have hlt := end_gt hne
    have e1 : partP (newP p) (pa p) (endP p) = newP p := partP_all (newP p)
    have e2 : insFill (newP p) ⟨out.foldl joinL [], 0, 0, pa p⟩ = ⟨joinL (out.foldl joinL []) (partP (newP p) (pa p) (endP p)), 0, 0, endP p⟩ := if_pos hlt
    refine Eq.trans e2 ?_
    rw [e0, e1, joinL_apart (p := newP p) h]
  unfold insR
  rw [if_neg hne, if_neg (by omega), hq]
  have hlen : ¬ (out ++ [newP p]).length > 64 := by simp; omega
  simp only
  rw [if_neg (by omega), if_neg hlen]
theorem fold_apart {pol : Int} (h1 : 1 ≤ pol) (h4 : pol ≤ 4) : ∀ (m acc : List Pc), (acc ++ m).Pairwise Apart → (∀ p ∈ m, pd p ≠ [] ∧ 0 ≤ pa p ∧ pa p ≤ 2147483648 ∧ newP p = p) → (acc ++ m).length ≤ 64 → m.foldl (stepE pol) acc = acc ++ m
  | [], acc, _, _, _ => by simp
  | p :: m, acc, hpw, hm, hl => by
    have h2 := List.pairwise_append.1 hpw
    obtain ⟨m1, m2, m3, m4⟩ := hm p (by simp)
    simp only [List.length_append, List.length_cons] at hl
    have hi := ins_apart h1 h4 h2.1 (fun r hr => h2.2.2 r hr p (by simp)) m1 m2 m3 (by omega)
    have hs : stepE pol acc p = acc ++ [p] := by
      unfold stepE
      rw [hi, m4]
      rfl
    rw [List.foldl_cons, hs, fold_apart h1 h4 m _ (by simpa using hpw) (fun x hx => hm x (by simp [hx])) (by simp only [List.length_append, List.length_cons, List.length_nil]; omega)]
    simp
/-! ### where runs begin -/
def StartOk (c : List Cl) : Prop := ∀ a, (atC c a).isSome = true → atC c (a - 1) = none → a ≤ 2147483648
/-- What a round of the buffer does. -/
theorem stepE_cases {pol : Int} {out : List Pc} {p : Pc} (hv : Valid out) (h1 : 1 ≤ pol) (h4 : pol ≤ 4) (hp : ((pd p).length : Int) ≤ 2147483648) :
    stepE pol out p = out ∨ (pd p ≠ [] ∧ 0 ≤ pa p ∧ pa p ≤ 2147483648 ∧ Valid (stepE pol out p) ∧ cells (stepE pol out p) = mrg (cells out) pol (newP p) (pd p).length) := by
  by_cases he : (insR out p pol).2.2 = 0
  · have es : stepE pol out p = (insR out p pol).1 := if_pos he
    by_cases hne : pd p = []
    · left
      rw [es]
      have : insR out p pol = (out, 0, 0) := if_pos hne
      rw [this]
    right
    by_cases h2 : rangeB p.1 pol = true
    · rw [insR_range (decide_eq_false hne) h2] at he
      cases he
    have h2' : rangeB p.1 pol = false := by simpa using h2
    have hr := rangeB_f h2'
    have e := insR_end hv (decide_eq_false hne) h2'
    have hr1 : 0 ≤ pa p ∧ pa p ≤ 2147483648 := by
      have : ¬ (pa p < 0 ∨ pa p > 2147483648 ∨ pol < 1 ∨ pol > 5) := hr
      omega
    refine ⟨hne, hr1.1, hr1.2, by rw [es]; exact (insGood hv hp he).valid, ?_⟩
    rw [es]
    rw [e, if_neg (by omega)] at he ⊢
    split at he
    · cases he
    rename_i h5
    rw [if_neg h5]
    exact cells_J _ (fun x hx => (mrg_ok hv pol hr1.1 (by unfold endP; omega) x hx).2.2.2.2)
  · exact .inl (if_neg he)
theorem mrg_some {out : List Pc} (hv : Valid out) (pol : Int) (p : Pc) (a : Int) : (atC (mrg (cells out) pol (newP p) (pd p).length) a).isSome = (decide (pa p ≤ a ∧ a < endP p) || (atC (cells out) a).isSome) := by
  have := atC_mrg (sorted_cells hv) pol (newP p) a
  have e : (newP p).2.1 = pd p := rfl
  rw [e] at this
  rw [this]
  unfold look
  by_cases q : pa p ≤ a ∧ a < endP p
  · rw [if_pos (show (newP p).1 ≤ a ∧ a < (newP p).1 + ((newP p).2.1.length : Int) from q), decide_eq_true q]; rfl
  · rw [if_neg (show ¬ ((newP p).1 ≤ a ∧ a < (newP p).1 + ((newP p).2.1.length : Int)) from q), decide_eq_false q]; rfl
theorem start_step {pol : Int} {out : List Pc} {p : Pc} (hv : Valid out) (h1 : 1 ≤ pol) (h4 : pol ≤ 4) (hp : ((pd p).length : Int) ≤ 2147483648) (h : StartOk (cells out)) : StartOk (cells (stepE pol out p)) := by
  rcases stepE_cases hv h1 h4 hp with e | ⟨_, _, hr, _, e⟩
  · rw [e]; exact h
  rw [e]
  intro a ha hn
  rw [mrg_some hv] at ha
  have hn' : (atC (mrg (cells out) pol (newP p) (pd p).length) (a - 1)).isSome = false := by rw [hn]; rfl
  rw [mrg_some hv, Bool.or_eq_false_iff] at hn'
  rcases Bool.or_eq_true_iff.1 ha with ha | ha
  · have ha := of_decide_eq_true ha
    have hb := of_decide_eq_false hn'.1
    omega
  · exact h a ha (by cases hh : atC (cells out) (a - 1) with | none => rfl | some c => rw [hh] at hn'; cases hn'.2)
theorem start_bufE {pol : Int} (h1 : 1 ≤ pol) (h4 : pol ≤ 4) : ∀ (l out : List Pc), BufOk out → StartOk (cells out) → (∀ p ∈ l, ((pd p).length : Int) ≤ 2147483648) → StartOk (cells (l.foldl (stepE pol) out)) ∧ lenSum (l.foldl (stepE pol) out) ≤ lenSum out + lenSum l
  | [], out, _, hs, _ => ⟨hs, by simp [lenSum]⟩
  | p :: l, out, hb, hs, hl => by
    have hp := hl p (by simp)
    obtain ⟨g1, g2⟩ := start_bufE h1 h4 l _ (stepE_ok (pol := pol) hb hp) (start_step hb.v h1 h4 hp hs) (fun q hq => hl q (by simp [hq]))
    refine ⟨g1, Int.le_trans g2 ?_⟩
    have : lenSum (stepE pol out p) ≤ lenSum out + (pd p).length := by
      unfold stepE
      split
      · rename_i he
        exact (insGood hb.v hp he).most
      · omega
    simp only [lenSum]
    omega
theorem bufE_sum (l : List Pc) {pol : Int} (h1 : 1 ≤ pol) (h4 : pol ≤ 4) (hl : ∀ p ∈ l, ((pd p).length : Int) ≤ 1073741824) : StartOk (cells (bufE l pol)) ∧ lenSum (bufE l pol) ≤ lenSum l := by
  obtain ⟨g1, g2⟩ := start_bufE h1 h4 (l.take 64) [] bufOk_nil (fun a ha => by simp [cells, atC] at ha) (fun p hp => by have := hl p (List.mem_of_mem_take hp); omega)
  refine ⟨g1, ?_⟩
  have e : lenSum [] = 0 := rfl
  have := lenSum_mono l 64
  unfold bufE
  omega
theorem pw_mem {F : List Pc} (h : F.Pairwise Apart) {o p : Pc} (ho : o ∈ F) (hp : p ∈ F) : o = p ∨ Apart o p ∨ Apart p o := by
  induction h with
  | nil => cases ho
  | @cons x l hx _ ih =>
    rcases List.mem_cons.1 ho with ho2 | ho2
    · rcases List.mem_cons.1 hp with hp2 | hp2
      · exact .inl (ho2.trans hp2.symm)
      · rw [ho2]; exact .inr (.inl (hx p hp2))
    · rcases List.mem_cons.1 hp with hp2 | hp2
      · rw [hp2]; exact .inr (.inr (hx o ho2))
      · exact ih ho2 hp2
theorem FoldOk.low {L F : List Pc} (h : FoldOk L F) (hs : StartOk (Ov.cells L)) : ∀ p ∈ F, pa p ≤ 2147483648 := fun p hp => by
  have hsame : ∀ b, (atC (Ov.cells F) b).isSome = (atC (Ov.cells L) b).isSome := fun b => by
    have := congrArg Option.isSome (h.at_ b)
    simpa using this
  refine hs (pa p) ?_ ?_
  · rw [← hsame]
    have hl : 0 < (pd p).length := List.length_pos_iff.2 (h.el p hp).1
    have := cell_of h.valid hp hl
    rw [show pa p + ((0 : Nat) : Int) = pa p by omega] at this
    rw [this]; rfl
  · have e : atC (Ov.cells F) (pa p - 1) = none := atC_none fun x hx hxa => by
      obtain ⟨o, ho, hxo⟩ := List.mem_flatMap.1 hx
      have hso : Sorted (cellsOf o) := by
        have := sorted_cells (l := [o]) (valid_pw.2 ⟨fun q hq => by rw [List.mem_singleton.1 hq]; exact (valid_pw.1 h.valid).1 o ho, List.pairwise_singleton _ _⟩)
        simpa [Ov.cells] using this
      have hc := atC_mem hso hxo
      rw [atC_cellsOf] at hc
      split at hc
      · rename_i hr
        have hr1 : pa o ≤ x.1 ∧ x.1 < endP o := hr
        rcases pw_mem h.pw ho hp with rfl | q | q
        · omega
        · have q : endP o < pa p := q
          omega
        · have q : endP p < pa o := q
          have := end_gt (h.el p hp).1
          omega
      · cases hc
    have hf := hsame (pa p - 1)
    rw [e] at hf
    cases hh : atC (Ov.cells L) (pa p - 1) with
    | none => rfl
    | some c => rw [hh] at hf; cases hf
/-! ### the whole -/
structure FoldsOk (l : List Pc) (pol : Int) : Prop where
  ok : FoldOk (bufE l pol) (foldV l pol)
  buf : ∀ k, 1 ≤ k → k ≤ 4 → bufE (foldV l pol) k = foldV l pol
  vr : ∀ k, 1 ≤ k → k ≤ 4 → varE (foldV l pol) k = varE l pol
  fd : ∀ k, 1 ≤ k → k ≤ 4 → foldV (foldV l pol) k = foldV l pol
  small : ∀ p ∈ foldV l pol, ((pd p).length : Int) ≤ 1073741824
  len : (foldV l pol).length ≤ 64
theorem foldsOk {l : List Pc} {pol : Int} (h1 : 1 ≤ pol) (h4 : pol ≤ 4) (hl : ∀ p ∈ l, ((pd p).length : Int) ≤ 1073741824) (hs : lenSum l ≤ 400) : FoldsOk l pol := by
  have hb := bufE_ok l pol (fun p hp => by have := hl p hp; omega)
  have hst := bufE_sum l h1 h4 hl
  have hF : foldV l pol = foldF (bufE l pol) := if_neg (by omega)
  have ok := foldOk hb.v
  rw [← hF] at ok
  have hlen : (foldV l pol).length ≤ 64 := Nat.le_trans ok.len hb.len
  have hlow := ok.low hst.1
  have hbuf : ∀ k, 1 ≤ k → k ≤ 4 → bufE (foldV l pol) k = foldV l pol := fun k k1 k4 => by
    unfold bufE
    rw [List.take_of_length_le hlen]
    have := fold_apart k1 k4 (foldV l pol) [] (by simpa using ok.pw) (fun p hp => by
      obtain ⟨e1, e2, e3, e4, e5⟩ := ok.el p hp
      refine ⟨e1, e2, hlow p hp, ?_⟩
      unfold newP
      obtain ⟨a, d, f, t, ⟨⟩⟩ := p
      have e4 : f = a := e4
      have e5 : t = endP (a, d, f, t, ()) := e5
      have e6 : endP ((a, d, f, t, ()) : Pc) = a + d.length := rfl
      subst e4
      rw [← e5]) (by simpa using hlen)
    simpa using this
  have htk := ok.take hb.v
  refine ⟨ok, hbuf, fun k k1 k4 => ?_, fun k k1 k4 => ?_, fun p hp => ?_, hlen⟩
  · unfold varE
    rw [if_neg (by omega), if_neg (by omega), hbuf k k1 k4, htk]
  · have : foldV (foldV l pol) k = foldF (bufE (foldV l pol) k) := if_neg (by omega)
    rw [this, hbuf k k1 k4]
    have e0 : foldZ (foldV l pol) (foldV l pol).length = (foldV l pol).map zP := by
      unfold foldZ
      rw [List.take_length]
      have e1 : ((foldV l pol).map zP).foldl joinL [] = [] ++ (foldV l pol).map zP := foldl_joinL_apart _ [] (by
        rw [List.nil_append, List.pairwise_map]
        exact ok.pw)
      have e2 : joinL = joinP := by funext a b; exact joinL_eq a b
      rw [e2] at e1
      simpa using e1
    unfold foldF
    rw [e0, List.map_map]
    have : ∀ z ∈ foldV l pol, (fin ∘ zP) z = id z := fun z hz => by
      obtain ⟨e1, e2, e3, e4, e5⟩ := ok.el z hz
      obtain ⟨a, d, f, t, ⟨⟩⟩ := z
      have e4 : f = a := e4
      have e5 : t = endP (a, d, f, t, ()) := e5
      show ((a, d, a, endP (zP (a, d, f, t, ())), ()) : Pc) = (a, d, f, t, ())
      rw [e4, e5]; rfl
    rw [List.map_congr_left this, List.map_id]
  · obtain ⟨i, hi, rfl⟩ := Fw.mem_getD (Ty.dflt pT : Pc) hp
    have h2 := lenSum_ge (foldV l pol) i hi
    have h3 := ok.sum
    omega
theorem FoldsOk.same {l : List Pc} {pol : Int} (h : FoldsOk l pol) : (!decide (AllEq (v4 (foldV l pol)))) = false := by
  have e : v4 (foldV l pol) = (varE l pol, varE l pol, varE l pol, varE l pol) := by
    unfold v4
    rw [h.vr 1 (by decide) (by decide), h.vr 2 (by decide) (by decide), h.vr 3 (by decide) (by decide), h.vr 4 (by decide) (by decide)]
  rw [e, decide_eq_true (show AllEq (varE l pol, varE l pol, varE l pol, varE l pol) from ⟨rfl, rfl, rfl⟩)]
  rfl
theorem FoldsOk.at_ {l : List Pc} {pol : Int} (h : FoldsOk l pol) {i : Nat} (hi : i < (foldV l pol).length) :
    pf ((foldV l pol).getD i (Ty.dflt pT)) = pa ((foldV l pol).getD i (Ty.dflt pT)) ∧ pt ((foldV l pol).getD i (Ty.dflt pT)) = pa ((foldV l pol).getD i (Ty.dflt pT)) + (pd ((foldV l pol).getD i (Ty.dflt pT))).length ∧
    0 ≤ pa ((foldV l pol).getD i (Ty.dflt pT)) ∧ pa ((foldV l pol).getD i (Ty.dflt pT)) + (pd ((foldV l pol).getD i (Ty.dflt pT))).length ≤ 4294967296 ∧ (0 < i → pt ((foldV l pol).getD (i - 1) (Ty.dflt pT)) < pa ((foldV l pol).getD i (Ty.dflt pT))) := by
  have hm := Fw.getD_mem (d := (Ty.dflt pT : Pc)) hi
  obtain ⟨e1, e2, e3, e4, e5⟩ := h.ok.el _ hm
  refine ⟨e4, e5, e2, e3, fun h0 => ?_⟩
  have hm2 := Fw.getD_mem (d := (Ty.dflt pT : Pc)) (show i - 1 < (foldV l pol).length by omega)
  rw [(h.ok.el _ hm2).2.2.2.2]
  have := List.pairwise_iff_getElem.1 h.ok.pw (i - 1) i (by omega) hi (by omega)
  rw [show (foldV l pol).getD (i - 1) (Ty.dflt pT) = (foldV l pol)[i - 1] by simp [List.getD, show i - 1 < (foldV l pol).length by omega], show (foldV l pol).getD i (Ty.dflt pT) = (foldV l pol)[i] by simp [List.getD, hi]]
  exact this
theorem foldsC {b : Bool} {pol oth : Int} (h : (if (if (if (if (!b) = true then true else decide (pol < 1)) = true then true else decide (pol > 4)) = true then true else decide (oth < 1)) = true then true else decide (oth > 4)) = false) :
    b = true ∧ 1 ≤ pol ∧ pol ≤ 4 ∧ 1 ≤ oth ∧ oth ≤ 4 := by
  cases b
  · simp at h
  · simp only [Bool.not_true, Bool.false_eq_true, if_false, Bool.if_true_left, Bool.decide_eq_true, Bool.or_eq_false_iff, decide_eq_false_iff_not] at h
    refine ⟨rfl, ?_, ?_, ?_, ?_⟩ <;> omega
theorem foldB {p q : Pc} {i : Nat} (h1 : pf p = pa p) (h2 : pt p = pa p + (pd p).length) (h3 : 0 ≤ pa p) (h4 : pa p + (pd p).length ≤ 4294967296) (h5 : 0 < i → pt q < pa p) :
    (if (if decide (p.2.2.1 ≠ p.1) = true then true else decide (p.2.2.2.1 ≠ IntKind.i64.wrap (p.1 + (p.2.1.length : Int)))) = true then true else if decide ((i : Int) > 0) = true then decide (p.1 ≤ q.2.2.2.1) else false) = false := by
  have h1 : p.2.2.1 = p.1 := h1
  have h2 : p.2.2.2.1 = p.1 + (p.2.1.length : Int) := h2
  have h3 : 0 ≤ p.1 := h3
  have h4 : p.1 + (p.2.1.length : Int) ≤ 4294967296 := h4
  have h5 : 0 < i → q.2.2.2.1 < p.1 := h5
  rw [wrapId (by omega), h1, h2, decide_eq_false (fun h => h rfl), decide_eq_false (fun h => h rfl)]
  simp only [Bool.false_eq_true, if_false]
  by_cases h0 : (i : Int) > 0
  · have := h5 (by omega)
    rw [decide_eq_true h0, if_pos rfl, decide_eq_false (by omega)]
  · rw [decide_eq_false h0]; rfl
end Go.Ov

/- Chapter 24, plain: pieces of one text are never ambiguous. -/
namespace Go.Ov
open Go Go.Fw
/-- A piece of the text. -/
def PieceOf (T : List UInt8) (p : Pc) : Prop := ∃ a b : Nat, a ≤ b ∧ b ≤ T.length ∧ pa p = a ∧ pd p = (T.take b).drop a
def covP (l : List Pc) (x : Int) : Prop := ∃ p ∈ l, pa p ≤ x ∧ x < endP p
theorem PieceOf.rng {T : List UInt8} {p : Pc} (h : PieceOf T p) : 0 ≤ pa p ∧ endP p ≤ T.length ∧ ∀ x, pa p ≤ x → x < endP p → bt (pd p) (x - pa p) = bt T x := by
  obtain ⟨a, b, h1, h2, h3, h4⟩ := h
  have hl : (pd p).length = b - a := by rw [h4, List.length_drop, List.length_take]; omega
  have he : endP p = b := by unfold endP; omega
  refine ⟨by omega, by omega, fun x hx1 hx2 => ?_⟩
  rw [h4, bt_extract T a b (x - pa p) (by omega) (by omega)]
  congr 1
  omega
structure Agr (T : List UInt8) (m : List Pc) (out : List Pc) : Prop where
  few : Few out (2 * m.length) 60
  at_ : ∀ x, (covP m x → ∃ o, atC (cells out) x = some o ∧ o.2.1 = bt T x) ∧ (¬ covP m x → atC (cells out) x = none)
theorem Agr.next {T : List UInt8} {m out : List Pc} (h : Agr T m out) (hT : T.length ≤ 60) (hm : m.length < 20) {pol : Int} (h1 : 1 ≤ pol) (h4 : pol ≤ 4) {p : Pc} (hp : PieceOf T p) : Agr T (m ++ [p]) (stepE pol out p) := by
  obtain ⟨r1, r2, r3⟩ := hp.rng
  have hcov : ∀ x, covP (m ++ [p]) x ↔ covP m x ∨ (pa p ≤ x ∧ x < endP p) := fun x => by
    constructor
    · rintro ⟨q, hq, hx⟩
      rcases List.mem_append.1 hq with hq | hq
      · exact .inl ⟨q, hq, hx⟩
      · rw [List.mem_singleton.1 hq] at hx; exact .inr hx
    · rintro (⟨q, hq, hx⟩ | hx)
      · exact ⟨q, by simp [hq], hx⟩
      · exact ⟨p, by simp, hx⟩
  by_cases hne : pd p = []
  · have e : stepE pol out p = out := by
      unfold stepE
      have : insR out p pol = (out, 0, 0) := if_pos hne
      rw [this]
      exact if_pos rfl
    have he : endP p = pa p := by unfold endP; rw [hne]; simp
    rw [e]
    refine ⟨⟨h.few.v, h.few.rng, Nat.le_trans h.few.brk (by simp; omega)⟩, fun x => ⟨fun hx => ?_, fun hx => ?_⟩⟩
    · rcases (hcov x).1 hx with hx | hx
      · exact (h.at_ x).1 hx
      · omega
    · exact (h.at_ x).2 (fun hc => hx ((hcov x).2 (.inl hc)))
  · have k := ins_few h.few (by omega) h1 h4 hne r1 (by omega) (by decide)
    have e : stepE pol out p = J (insM (cells out) pol p) := by
      unfold stepE
      rw [k.eq]
      exact if_pos rfl
    rw [e]
    refine ⟨⟨k.few.v, k.few.rng, Nat.le_trans k.few.brk (by simp; omega)⟩, fun x => ?_⟩
    rw [k.cells, atC_insM (sorted_cells h.few.v)]
    by_cases hx : pa p ≤ x ∧ x < endP p
    · rw [if_pos hx]
      refine ⟨fun _ => ⟨_, rfl, ?_⟩, fun hc => absurd ((hcov x).2 (.inr hx)) hc⟩
      have hnew : (newC (newP p) x).2.1 = bt T x := r3 x hx.1 hx.2
      unfold pick
      cases ho : atC (cells out) x with
      | none => exact hnew
      | some o =>
        simp only
        split
        · exact hnew
        · by_cases hc : covP m x
          · obtain ⟨o', e1, e2⟩ := (h.at_ x).1 hc
            rw [ho] at e1
            obtain rfl := Option.some.inj e1
            exact e2
          · have := (h.at_ x).2 hc
            rw [ho] at this; cases this
    · rw [if_neg hx]
      refine ⟨fun hc => ?_, fun hc => (h.at_ x).2 (fun hc2 => hc ((hcov x).2 (.inl hc2)))⟩
      rcases (hcov x).1 hc with hc | hc
      · exact (h.at_ x).1 hc
      · exact absurd hc hx
theorem agr_fold {T : List UInt8} (hT : T.length ≤ 60) {pol : Int} (h1 : 1 ≤ pol) (h4 : pol ≤ 4) : ∀ (l m out : List Pc), Agr T m out → (m ++ l).length ≤ 20 → (∀ p ∈ l, PieceOf T p) → Agr T (m ++ l) (l.foldl (stepE pol) out)
  | [], m, out, h, _, _ => by simpa using h
  | p :: l, m, out, h, hl, hp => by
    have hl2 : (m ++ p :: l).length ≤ 20 := hl
    simp only [List.length_append, List.length_cons] at hl2
    have := agr_fold hT h1 h4 l (m ++ [p]) _ (h.next hT (by omega) h1 h4 (hp p (by simp))) (by simp only [List.length_append, List.length_cons, List.length_nil]; omega) (fun q hq => hp q (by simp [hq]))
    simpa using this
theorem agr_nil (T : List UInt8) : Agr T [] [] := ⟨Few.nil 60, fun x => ⟨fun hc => by obtain ⟨p, hp, _⟩ := hc; simp at hp, fun _ => rfl⟩⟩
structure AgrOk (T : List UInt8) (l : List Pc) : Prop where
  len : l.length ≤ 12
  text : T.length ≤ 60
  el : ∀ p ∈ l, PieceOf T p
theorem AgrOk.buf {T : List UInt8} {l : List Pc} (h : AgrOk T l) {pol : Int} (h1 : 1 ≤ pol) (h4 : pol ≤ 4) : Agr T l (bufE l pol) := by
  have := agr_fold h.text h1 h4 l [] [] (agr_nil T) (by have := h.len; simp; omega) h.el
  unfold bufE
  rw [List.take_of_length_le (by have := h.len; omega)]
  simpa using this
theorem AgrOk.same {T : List UInt8} {l m : List Pc} (h : AgrOk T l) (k : AgrOk T m) (hlm : ∀ p, p ∈ l ↔ p ∈ m) {p q : Int} (p1 : 1 ≤ p) (p4 : p ≤ 4) (q1 : 1 ≤ q) (q4 : q ≤ 4) : varE l p = varE m q := by
  have a := h.buf p1 p4
  have b := k.buf q1 q4
  have hc : ∀ x, covP l x ↔ covP m x := fun x => ⟨fun ⟨r, hr, hx⟩ => ⟨r, (hlm r).1 hr, hx⟩, fun ⟨r, hr, hx⟩ => ⟨r, (hlm r).2 hr, hx⟩⟩
  unfold varE
  rw [if_neg (by omega), if_neg (by omega)]
  refine congrArg Prod.fst (takeF_ext a.few.v b.few.v fun x _ => ?_)
  by_cases hx : covP l x
  · obtain ⟨o, e1, e2⟩ := (a.at_ x).1 hx
    obtain ⟨o', e3, e4⟩ := (b.at_ x).1 ((hc x).1 hx)
    rw [e1, e3]
    show some o.2.1 = some o'.2.1
    rw [e2, e4]
  · rw [(a.at_ x).2 hx, (b.at_ x).2 (fun h => hx ((hc x).2 h))]
theorem AgrOk.all {T : List UInt8} {l : List Pc} (h : AgrOk T l) : AllEq (v4 l) :=
  have k : ∀ p q : Int, 1 ≤ p → p ≤ 4 → 1 ≤ q → q ≤ 4 → varE l p = varE l q := fun p q p1 p4 q1 q4 => h.same h (fun _ => Iff.rfl) p1 p4 q1 q4
  ⟨k 2 1 (by decide) (by decide) (by decide) (by decide), k 3 1 (by decide) (by decide) (by decide) (by decide), k 4 1 (by decide) (by decide) (by decide) (by decide)⟩
theorem AgrOk.prefix {T : List UInt8} {l : List Pc} (h : AgrOk T l) : (varE l 1).length ≤ T.length ∧ T.take (varE l 1).length = varE l 1 := by
  have a := h.buf (pol := 1) (by decide) (by decide)
  have tk := (takeOk a.few.v 0).some_
  have ev : varE l 1 = (takeF (bufE l 1) 0).1 := if_neg (by decide)
  rw [ev]
  generalize takeF (bufE l 1) 0 = r at tk ⊢
  have hk : ∀ k, k < r.1.length → k < T.length ∧ T.getD k 0 = r.1.getD k 0 := fun k hk => by
    obtain ⟨o, e1, e2⟩ := tk k hk
    by_cases hx : covP l (0 + (k : Int))
    · obtain ⟨o', e3, e4⟩ := (a.at_ _).1 hx
      rw [e1] at e3
      obtain rfl := Option.some.inj e3
      obtain ⟨p, hp, hp1, hp2⟩ := hx
      have := (h.el p hp).rng
      refine ⟨by omega, ?_⟩
      rw [e4] at e2
      unfold bt at e2
      rw [show ((0 : Int) + (k : Int)).toNat = k by omega] at e2
      exact UInt8.toNat_inj.1 (by omega)
    · rw [(a.at_ _).2 hx] at e1; cases e1
  have hl : r.1.length ≤ T.length := by
    rcases Nat.eq_zero_or_pos r.1.length with q | q
    · omega
    · have := (hk (r.1.length - 1) (by omega)).1; omega
  refine ⟨hl, Fw.ext_getD (0 : UInt8) (by rw [List.length_take]; omega) fun i hi => ?_⟩
  rw [List.length_take] at hi
  have := (hk i (by omega)).2
  rw [← this]
  simp only [List.getD_eq_getElem?_getD, List.getElem?_take]
  rw [if_pos (by omega)]
theorem pieceOf_cut {T : List UInt8} {f t : Int} (h0 : 0 ≤ f) (h1 : f ≤ t) (h2 : t ≤ T.length) : PieceOf T (f, (T.take t.toNat).drop f.toNat, 0, 0, ()) :=
  ⟨f.toNat, t.toNat, by omega, by omega, by show f = _; omega, rfl⟩
theorem pieceOf_all (T : List UInt8) : PieceOf T (0, T, 0, 0, ()) := ⟨0, T.length, Nat.zero_le _, Nat.le_refl _, rfl, by show T = _; simp⟩
theorem PieceOf.small {T : List UInt8} {p : Pc} (hT : T.length ≤ 60) (h : PieceOf T p) : ((pd p).length : Int) ≤ 1073741824 := by
  obtain ⟨h1, h2, _⟩ := h.rng
  unfold endP at h2
  omega
end Go.Ov

/- Chapter 24, plain: the pieces that the cuts name. -/
namespace Go.Ov
open Go Go.Fw
abbrev cuT : Ty := .cons (.int .i64) (.cons (.int .i64) .nil)
abbrev Cu := Int × Int × Unit
abbrev qP (T : List UInt8) (c : Cu) : Pc := (c.1, (T.take c.2.1.toNat).drop c.1.toNat, 0, 0, ())
def CutOk (T : List UInt8) (c : Cu) : Prop := 0 ≤ c.1 ∧ c.1 ≤ c.2.1 ∧ c.2.1 ≤ (T.length : Int)
def qL (T : List UInt8) (cuts : List Cu) (i : Nat) : List Pc := (cuts.take i).map (qP T)
theorem qL_next (T : List UInt8) {cuts : List Cu} {i : Nat} (h : i < cuts.length) : qL T cuts i ++ [qP T (cuts.getD i (Ty.dflt cuT))] = qL T cuts (i + 1) := by
  unfold qL
  rw [Fw.take_getD (Ty.dflt cuT : Cu) h, List.map_append]; rfl
theorem qL_len (T : List UInt8) {cuts : List Cu} {i : Nat} (h : i ≤ cuts.length) : (qL T cuts i).length = i := by
  unfold qL; rw [List.length_map, List.length_take]; omega
theorem agrC {f t n : Int} (h : (if (if (if decide (f < 0) = true then true else decide (f > n)) = true then true else decide (t < f)) = true then true else decide (t > n)) = false) : 0 ≤ f ∧ f ≤ n ∧ f ≤ t ∧ t ≤ n := by
  simp only [Bool.if_true_left, Bool.decide_eq_true, Bool.or_eq_false_iff, decide_eq_false_iff_not] at h
  omega
theorem agrok_q {T : List UInt8} {cuts : List Cu} (hT : T.length ≤ 60) (hc : cuts.length ≤ 12) (h : ∀ j, j < cuts.length → CutOk T (cuts.getD j (Ty.dflt cuT))) : AgrOk T (qL T cuts cuts.length) :=
  ⟨by rw [qL_len T (Nat.le_refl _)]; exact hc, hT, fun p hp => by
    unfold qL at hp
    rw [List.take_length] at hp
    obtain ⟨c, hc, rfl⟩ := List.mem_map.1 hp
    obtain ⟨j, hj, rfl⟩ := Fw.mem_getD (Ty.dflt cuT : Cu) hc
    obtain ⟨h1, h2, h3⟩ := h j hj
    exact pieceOf_cut h1 h2 h3⟩
theorem AgrOk.rev {T : List UInt8} {l : List Pc} (h : AgrOk T l) : AgrOk T l.reverse := ⟨by rw [List.length_reverse]; exact h.len, h.text, fun p hp => h.el p (List.mem_reverse.1 hp)⟩
theorem AgrOk.small {T : List UInt8} {l : List Pc} (h : AgrOk T l) : ∀ p ∈ l, ((pd p).length : Int) ≤ 1073741824 := fun p hp => (h.el p hp).small h.text
theorem rev_next {l : List Pc} {k : Nat} (h : k < l.length) : l.reverse.take k ++ [l.getD (l.length - 1 - k) (Ty.dflt pT)] = l.reverse.take (k + 1) := by
  rw [Fw.take_getD (Ty.dflt pT : Pc) (show k < l.reverse.length by rw [List.length_reverse]; exact h)]
  congr 2
  simp only [List.getD_eq_getElem?_getD, List.getElem?_reverse h]
theorem agrok_one {T : List UInt8} (hT : T.length ≤ 60) : AgrOk T [(0, T, 0, 0, ())] := ⟨by simp, hT, fun p hp => by rw [List.mem_singleton.1 hp]; exact pieceOf_all T⟩
end Go.Ov

