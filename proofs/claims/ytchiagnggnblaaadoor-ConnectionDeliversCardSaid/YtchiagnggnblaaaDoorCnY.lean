import Derived.Test.YtchiagnggnblaaaDoorCnX
set_option linter.all false
/- Chapter 21, plain: a text is sent and its direction ends. -/
namespace Go.Proofs.YtchiagnggnblaaaDoor.Ac
open Go Go.Fw Go.Ov Go.Proofs.YtchiagnggnblaaaDoor.Fx
structure DEnd (T : List UInt8) (c : Cnn) : Prop where
  st : c.st = 4
  off1 : offC c 1 = T.length
  off2 : offC c 2 = 0
  siz : sizC c = 0
  some_ : ∃ y, c.ss = some y
theorem empty_O {T : List UInt8} {l : List Pc} {K : Nat} (h : OInv T l T.length K) : l = [] := by
  cases l with
  | nil => rfl
  | cons o r =>
    obtain ⟨a1, _⟩ := (valid_pw.1 h.few.v).1 o (by simp)
    have hp : 0 < (pd o).length := List.length_pos_iff.2 a1
    have h1 := atC_some (cell_of h.few.v (o := o) (by simp) hp)
    have := h.con _ h1.1
    omega
theorem fin_D {f0 f1 pol : Int} {T : List UInt8} (hT : T.length ≤ 200) {K : Nat} {c : Cnn} (h : DOpen f0 f1 pol T K c T.length) :
    GoodD (T, 0) (segS c (sgF f0 f1 T)).1 (T, 1) ∧ DEnd T (segS c (sgF f0 f1 T)).2 := by
  obtain ⟨p, g, l, rfl, ho, s1, s2, s3, s4⟩ := h.ex
  have hl := empty_O ho
  subst hl
  have hp0 := ho.p0
  have hr := rsn_D (f0, 0, pol, ()) [] (pos := T.length) (a := T.length) ⟨hp0, by omega, hp0, by omega⟩ (p := p) (g := g) (k := IntKind.u32.wrap (f1 + 1)) (f := 17) (.inr rfl) s1 s3 s4 [] (by simp)
  have hr : rsnM p g (sO (f0, 0, pol, ()) [] T.length) (seqO (f0, 0, pol, ()) T.length) (IntKind.u32.wrap (f1 + 1)) 17 [] [] = 0 := by
    rcases hr with h | ⟨_, _, h⟩
    · exact h
    · exact absurd rfl h
  have eend : endS (sO (f0, 0, pol, ()) [] T.length) (IntKind.u32.wrap (seqO (f0, 0, pol, ()) T.length + IntKind.u32.wrap (([] : List UInt8).length : Int))) = (true, { sO (f0, 0, pol, ()) [] T.length with end_ := T.length, l := [] }) := by
    have eq : IntKind.u32.wrap (seqO (f0, 0, pol, ()) T.length + IntKind.u32.wrap (([] : List UInt8).length : Int)) = seqO (f0, 0, pol, ()) T.length := by
      unfold seqO
      simp only [wrap_u32, List.length_nil]
      omega
    rw [eq]
    have eo := offO (f0, 0, pol, ()) [] T.length T.length ⟨by omega, by omega, by omega, by omega⟩
    unfold endS
    rw [eo, if_neg (by show ¬ ((-1 : Int) ≠ -1); omega), if_neg (by show ¬ ((T.length : Int) < T.length ∨ (T.length : Int) > T.length + 1000); omega)]
    rfl
  have et : tkT (newS f1 1000 pol) (IntKind.u32.wrap (f1 + 1)) = newS f1 1000 pol := by unfold tkT; rw [lost_D]
  have ea := add_nil (f0, 0, pol, ()) [] (pos := T.length) (a := T.length) ⟨hp0, by omega, hp0, by omega⟩
  have es : tkS (sO (f0, 0, pol, ()) [] T.length) (seqO (f0, 0, pol, ()) T.length) 17 [] = { sO (f0, 0, pol, ()) [] T.length with end_ := T.length, l := [] } := by
    unfold tkS finM
    rw [ea, if_pos (by decide), eend]
  have eE : endedS { sO (f0, 0, pol, ()) [] T.length with end_ := T.length, l := [] } = true := decide_eq_true rfl
  have hseg : segS ⟨3, p, g, some (sO (f0, 0, pol, ()) [] T.length, newS f1 1000 pol)⟩ (sgF f0 f1 T) =
      ([(4, 1, (T.length : Int), 0, [], ())], Cnn.mk 4 (tkH p (sO (f0, 0, pol, ()) [] T.length) (seqO (f0, 0, pol, ()) T.length) 17 [] []) g (some ({ sO (f0, 0, pol, ()) [] T.length with end_ := T.length, l := [] }, newS f1 1000 pol))) := by
    have e : sgH 1 2 3 p g (sO (f0, 0, pol, ()) [] T.length) (newS f1 1000 pol) (seqO (f0, 0, pol, ()) T.length) (IntKind.u32.wrap (f1 + 1)) 17 [] [] =
        ([(4, 1, (T.length : Int), 0, [], ())], 4, tkH p (sO (f0, 0, pol, ()) [] T.length) (seqO (f0, 0, pol, ()) T.length) 17 [] [], { sO (f0, 0, pol, ()) [] T.length with end_ := T.length, l := [] }, newS f1 1000 pol) := by
      unfold sgH
      rw [if_neg (by rw [fl17]; decide)]
      unfold prM
      rw [if_neg (by rw [hr]; decide), if_neg (by decide)]
      unfold tkE tkE3 tkE2 tkE1
      rw [es, et, ea, lost_D]
      dsimp only
      have hn : ∀ c d q, numM c d q 0 = [] := fun c d q => if_neg (by simp)
      rw [hn, hn]
      have hrep2 : repM 2 (newS f1 1000 pol) [] (endedS (newS f1 1000 pol)) = [] := rfl
      rw [hrep2, List.append_nil, List.append_nil, List.nil_append]
      unfold repM rp2 rp1
      rw [ended_O _ [] hp0, eE, if_pos rfl, if_pos (show (!false && true) = true from rfl), List.nil_append]
      unfold stM
      rw [eE, ended_N]
      rfl
    have e2 : segS ⟨3, p, g, some (sO (f0, 0, pol, ()) [] T.length, newS f1 1000 pol)⟩ (sgF f0 f1 T) =
      ((sgH 1 2 3 p g (sO (f0, 0, pol, ()) [] T.length) (newS f1 1000 pol) (seqO (f0, 0, pol, ()) T.length) (IntKind.u32.wrap (f1 + 1)) 17 [] []).1, ⟨(sgH 1 2 3 p g (sO (f0, 0, pol, ()) [] T.length) (newS f1 1000 pol) (seqO (f0, 0, pol, ()) T.length) (IntKind.u32.wrap (f1 + 1)) 17 [] []).2.1, (sgH 1 2 3 p g (sO (f0, 0, pol, ()) [] T.length) (newS f1 1000 pol) (seqO (f0, 0, pol, ()) T.length) (IntKind.u32.wrap (f1 + 1)) 17 [] []).2.2.1, g,
        some ((sgH 1 2 3 p g (sO (f0, 0, pol, ()) [] T.length) (newS f1 1000 pol) (seqO (f0, 0, pol, ()) T.length) (IntKind.u32.wrap (f1 + 1)) 17 [] []).2.2.2.1, (sgH 1 2 3 p g (sO (f0, 0, pol, ()) [] T.length) (newS f1 1000 pol) (seqO (f0, 0, pol, ()) T.length) (IntKind.u32.wrap (f1 + 1)) 17 [] []).2.2.2.2)⟩) := rfl
    rw [e2, e]
  rw [hseg]
  refine ⟨?_, ⟨rfl, rfl, rfl, rfl, ⟨_, rfl⟩⟩⟩
  exact GoodD.one (x := (T, 0)) (e := ((4, 1, (T.length : Int), 0, [], ()) : Evt)) ⟨fun h => absurd h (by dsimp only; decide), .inr (.inr (.inl rfl)), by dsimp only; omega, by dsimp only; omega, by dsimp only; decide⟩
theorem segS_1 {c : Cnn} {e : Sg} (h : e.1 = 1) : segS c e = seg1 c (tqS e) (tkK e) (tfF e) (toO e) (txX e) := if_pos h
/-! ### the handshake -/
abbrev dH (pol : Int) : Hf := hostH 1000 pol
abbrev dC0 (pol : Int) : Cnn := new0 (dH pol) (dH pol)
abbrev dC1 (f0 pol : Int) : Cnn := ⟨1, begH (dH pol) f0 [], dH pol, none⟩
abbrev dC2 (f0 f1 pol : Int) : Cnn := ⟨2, begH (dH pol) f0 [], begH (dH pol) f1 [], none⟩
theorem hs_0 (f0 f1 pol : Int) : segS (dC0 pol) ((shkM f0 f1).getD 0 (Ty.dflt sgT)) = ([], dC1 f0 pol) := by
  rw [segS_1 rfl]
  show seg1 (dC0 pol) f0 0 2 [] [] = _
  unfold seg1
  dsimp only
  have ho : opensB 0 (dH pol) (dH pol) f0 0 2 [] [] = false := by
    unfold opensB
    rw [show c3 2 0 = false by kernel_rfl, Bool.and_false, Bool.false_and]
  rw [ho, if_neg (by decide)]
  have hn : sgN1 0 (dH pol) (dH pol) f0 0 2 [] [] = ([], 1, begH (dH pol) f0 []) := by
    unfold sgN1
    rw [if_neg (by rw [show flags 2 = true by kernel_rfl]; decide), if_pos (by kernel_rfl)]
  rw [hn]
theorem hs_1 (f0 f1 pol : Int) : segS (dC1 f0 pol) ((shkM f0 f1).getD 1 (Ty.dflt sgT)) = ([], dC2 f0 f1 pol) := by
  show seg2 (dC1 f0 pol) f1 (IntKind.u32.wrap (f0 + 1)) 18 [] [] = _
  unfold seg2
  dsimp only
  have hn : sgN2 1 (begH (dH pol) f0 []) (dH pol) f1 (IntKind.u32.wrap (f0 + 1)) 18 [] = ([], 2, begH (dH pol) f1 []) := by
    unfold sgN2
    rw [if_neg (by rw [show flags 18 = true by kernel_rfl]; decide), if_pos (by kernel_rfl), if_neg (fun h => h rfl)]
  rw [hn]
theorem hs_2 (f0 f1 pol : Int) (T : List UInt8) : ∃ c, segS (dC2 f0 f1 pol) ((shkM f0 f1).getD 2 (Ty.dflt sgT)) = ([(1, 1, 0, 0, [], ())], c) ∧ DOpen f0 f1 pol T 0 c 0 := by
  have eq : IntKind.u32.wrap (f0 + 1) = seqO (f0, 0, pol, ()) 0 := by
    unfold seqO
    simp only [wrap_u32]
    omega
  have e0 : segS (dC2 f0 f1 pol) ((shkM f0 f1).getD 2 (Ty.dflt sgT)) = seg1 (dC2 f0 f1 pol) (seqO (f0, 0, pol, ()) 0) (IntKind.u32.wrap (f1 + 1)) 16 [] [] := by
    rw [← eq, segS_1 rfl]; rfl
  rw [e0]
  have hr : rsnM (begH (dH pol) f0 []) (begH (dH pol) f1 []) (sO (f0, 0, pol, ()) [] 0) (seqO (f0, 0, pol, ()) 0) (IntKind.u32.wrap (f1 + 1)) 16 [] [] = 0 := by
    rcases rsn_D (f0, 0, pol, ()) [] (pos := 0) (a := 0) (by decide) (p := begH (dH pol) f0 []) (g := begH (dH pol) f1 []) (k := IntKind.u32.wrap (f1 + 1)) (f := 16) (.inl rfl) rfl rfl rfl [] (by decide) with h | ⟨_, _, h⟩
    · exact h
    · exact absurd rfl h
  have hN : nwS (begH (dH pol) f0 []) = sO (f0, 0, pol, ()) [] 0 := rfl
  have hM : nwS (begH (dH pol) f1 []) = newS f1 1000 pol := rfl
  have hE : esR (begH (dH pol) f0 []) (begH (dH pol) f1 []) (seqO (f0, 0, pol, ()) 0) (IntKind.u32.wrap (f1 + 1)) 16 [] [] = 0 := by
    unfold esR
    rw [hN, hr, if_neg (fun h => h.2 rfl)]
  have ho : opensB 2 (begH (dH pol) f0 []) (begH (dH pol) f1 []) (seqO (f0, 0, pol, ()) 0) (IntKind.u32.wrap (f1 + 1)) 16 [] [] = true := by
    unfold opensB
    rw [hE, fl16, show c3 16 2 = true by kernel_rfl]
    rfl
  have et : tkT (newS f1 1000 pol) (IntKind.u32.wrap (f1 + 1)) = newS f1 1000 pol := by unfold tkT; rw [lost_D]
  have ea := add_nil (f0, 0, pol, ()) [] (pos := 0) (a := 0) (by decide)
  have es : tkS (sO (f0, 0, pol, ()) [] 0) (seqO (f0, 0, pol, ()) 0) 16 [] = sO (f0, 0, pol, ()) [] 0 := by
    unfold tkS finM
    rw [ea, if_neg (by decide)]
  have htk : tkE 1 2 (sO (f0, 0, pol, ()) [] 0) (newS f1 1000 pol) (seqO (f0, 0, pol, ()) 0) (IntKind.u32.wrap (f1 + 1)) 16 [] = [] := by
    unfold tkE tkE3 tkE2 tkE1
    rw [es, et, ea, lost_D]
    rfl
  refine ⟨⟨3, tkH (begH (dH pol) f0 []) (sO (f0, 0, pol, ()) [] 0) (seqO (f0, 0, pol, ()) 0) 16 [] [], begH (dH pol) f1 [], some (sO (f0, 0, pol, ()) [] 0, newS f1 1000 pol)⟩, ?_, ⟨_, _, _, rfl, ⟨(Few.nil 1000), fun c hc => by simp [cells] at hc, Int.le_refl _, by omega, by decide⟩, rfl, rfl, rfl, rfl⟩⟩
  unfold seg1
  dsimp only
  rw [ho, if_pos rfl, hN, hM, htk, es, et, stM_D _ _ (Int.le_refl _)]
/-! ### the whole run -/
abbrev Ct := Int × Int × Unit
def dL (f0 f1 : Int) (T : List UInt8) (pcs : List Ct) : List Sg := shkM f0 f1 ++ pcs.map (fun c => sgD f0 f1 T c.1 c.2.1) ++ [sgF f0 f1 T]
inductive DAt (f0 f1 pol : Int) (T : List UInt8) (pcs : List Ct) : Nat → Cnn → Got → Prop
  | s0 : DAt f0 f1 pol T pcs 0 (dC0 pol) ([], 0)
  | s1 : DAt f0 f1 pol T pcs 1 (dC1 f0 pol) ([], 0)
  | s2 : DAt f0 f1 pol T pcs 2 (dC2 f0 f1 pol) ([], 0)
  | op (j : Nat) (c : Cnn) (pos : Int) (hj : j ≤ pcs.length) (h : DOpen f0 f1 pol T (2 * j) c pos) (hl : j = pcs.length → pos = T.length) : DAt f0 f1 pol T pcs (3 + j) c (T.take pos.toNat, 0)
  | fin (c : Cnn) (h : DEnd T c) : DAt f0 f1 pol T pcs (4 + pcs.length) c (T, 1)
theorem dL_len (f0 f1 : Int) (T : List UInt8) (pcs : List Ct) : (dL f0 f1 T pcs).length = 4 + pcs.length := by
  unfold dL shkM
  simp
  omega
theorem DAt.step {f0 f1 pol : Int} {T : List UInt8} {cuts : List Ct} (hT : T.length ≤ 200) (h12 : cuts.length ≤ 12) (hc : ∀ c ∈ cuts, 0 ≤ c.1 ∧ c.1 ≤ c.2.1 ∧ c.2.1 ≤ T.length) {i : Nat} {c : Cnn} {x : Got} (h : DAt f0 f1 pol T (cuts ++ [(0, (T.length : Int), ())]) i c x) (hi : i < (dL f0 f1 T (cuts ++ [(0, (T.length : Int), ())])).length) :
    ∃ y, GoodD x (segS c ((dL f0 f1 T (cuts ++ [(0, (T.length : Int), ())])).getD i (Ty.dflt sgT))).1 y ∧ DAt f0 f1 pol T (cuts ++ [(0, (T.length : Int), ())]) (i + 1) (segS c ((dL f0 f1 T (cuts ++ [(0, (T.length : Int), ())])).getD i (Ty.dflt sgT))).2 y := by
  generalize hP : cuts ++ [(0, (T.length : Int), ())] = pcs at *
  have hpl : pcs.length = cuts.length + 1 := by rw [← hP]; simp
  rw [dL_len] at hi
  have hsh : ∀ k, k < 3 → (dL f0 f1 T pcs).getD k (Ty.dflt sgT) = (shkM f0 f1).getD k (Ty.dflt sgT) := fun k hk => by
    unfold dL
    rw [List.append_assoc, List.getD_eq_getElem?_getD, List.getElem?_append_left (by show k < 3; exact hk), ← List.getD_eq_getElem?_getD]
  cases h with
  | s0 => rw [hsh 0 (by decide), hs_0]; exact ⟨_, GoodD.nil _, .s1⟩
  | s1 => rw [hsh 1 (by decide), hs_1]; exact ⟨_, GoodD.nil _, .s2⟩
  | s2 =>
    rw [hsh 2 (by decide)]
    obtain ⟨c, he, ho⟩ := hs_2 f0 f1 pol T
    rw [he]
    refine ⟨_, GoodD.one (x := ([], 0)) (e := ((1, 1, 0, 0, [], ()) : Evt)) ⟨fun h => absurd h (by decide), .inl rfl, by decide, by decide, by decide⟩, ?_⟩
    exact DAt.op 0 c 0 (by omega) ho (fun h => by omega)
  | op j c pos hj ho hl =>
    have hgL : ∀ j, j < pcs.length → (dL f0 f1 T pcs).getD (3 + j) (Ty.dflt sgT) = sgD f0 f1 T (pcs.getD j (0, 0, ())).1 (pcs.getD j (0, 0, ())).2.1 := fun j hj => by
      unfold dL
      rw [List.getD_eq_getElem?_getD, List.getElem?_append_left (by rw [List.length_append, List.length_map]; show 3 + j < 3 + pcs.length; omega), List.getElem?_append_right (by show 3 ≤ 3 + j; omega)]
      rw [show 3 + j - (shkM f0 f1).length = j from by show 3 + j - 3 = j; omega, List.getElem?_map, List.getD_eq_getElem?_getD, List.getElem?_eq_getElem hj]
      rfl
    by_cases hlt : j < pcs.length
    · rw [hgL j hlt]
      have hmem : pcs.getD j (0, 0, ()) ∈ pcs := getD_mem hlt
      have hr : 0 ≤ (pcs.getD j (0, 0, ())).1 ∧ (pcs.getD j (0, 0, ())).1 ≤ (pcs.getD j (0, 0, ())).2.1 ∧ (pcs.getD j (0, 0, ())).2.1 ≤ T.length := by
        rw [← hP] at hmem ⊢
        rcases List.mem_append.1 hmem with h | h
        · exact hc _ h
        · simp only [List.mem_singleton] at h
          rw [h]
          exact ⟨Int.le_refl _, by dsimp only; omega, Int.le_refl _⟩
      obtain ⟨pos', hd, hg, _, hb⟩ := step_D hT (by omega) ho hr.1 hr.2.1 hr.2.2
      refine ⟨_, hg, ?_⟩
      have := DAt.op (pcs := pcs) (j + 1) _ pos' (by omega) (show DOpen f0 f1 pol T (2 * (j + 1)) _ pos' by rw [show 2 * (j + 1) = 2 * j + 2 by omega]; exact hd) (fun hj => by
        have hlast : pcs.getD j (0, 0, ()) = (0, (T.length : Int), ()) := by
          rw [← hP, List.getD_eq_getElem?_getD, List.getElem?_append_right (by omega), show j - cuts.length = 0 by omega]
          rfl
        rw [hlast] at hb
        obtain ⟨_, _, _, _, hoi, _⟩ := hd.ex
        have := hoi.p1
        rcases hb with h | h
        · have h : (T.length : Int) ≤ pos' := h
          omega
        · exact absurd rfl h)
      rw [show 3 + (j + 1) = 3 + j + 1 by omega] at this
      exact this
    · have hjl : j = pcs.length := by omega
      have hp := hl hjl
      subst hp
      have hlastL : (dL f0 f1 T pcs).getD (3 + j) (Ty.dflt sgT) = sgF f0 f1 T := by
        unfold dL
        rw [List.getD_eq_getElem?_getD, List.getElem?_append_right (by rw [List.length_append, List.length_map]; show 3 + pcs.length ≤ 3 + j; omega)]
        rw [show 3 + j - (shkM f0 f1 ++ pcs.map (fun c => sgD f0 f1 T c.1 c.2.1)).length = 0 from by rw [List.length_append, List.length_map]; show 3 + j - (3 + pcs.length) = 0; omega]
        rfl
      rw [hlastL]
      obtain ⟨hg, hd⟩ := fin_D hT ho
      have ht : T.take ((T.length : Int)).toNat = T := by rw [Int.toNat_natCast, List.take_length]
      rw [ht]
      refine ⟨_, hg, ?_⟩
      have := DAt.fin (f0 := f0) (f1 := f1) (pol := pol) (pcs := pcs) _ hd
      rw [show 4 + pcs.length = 3 + j + 1 by omega] at this
      exact this
  | fin c h => omega
theorem DAt.last {f0 f1 pol : Int} {T : List UInt8} {pcs : List Ct} {c : Cnn} {x : Got} (h : DAt f0 f1 pol T pcs (4 + pcs.length) c x) : x = (T, 1) ∧ DEnd T c := by
  generalize hn : 4 + pcs.length = n at h
  cases h with
  | s0 => omega
  | s1 => omega
  | s2 => omega
  | op j c pos hj ho hl => omega
  | fin c h => exact ⟨rfl, h⟩
end Go.Proofs.YtchiagnggnblaaaDoor.Ac
