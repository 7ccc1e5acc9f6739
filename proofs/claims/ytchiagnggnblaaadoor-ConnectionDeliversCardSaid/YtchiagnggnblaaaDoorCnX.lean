import Derived.Test.YtchiagnggnblaaaDoorCnR
import Derived.Test.YtchiagnggnblaaaDoorGCn2
set_option linter.all false
/- Chapter 21, plain: the parts of one text are delivered in order. -/
namespace Go.Proofs.YtchiagnggnblaaaDoor.Ac
open Go Go.Fw Go.Ov Go.Proofs.YtchiagnggnblaaaDoor.Fx
abbrev Got := List UInt8 × Int
def dlE (x : Got) (e : Evt) : Got := if e.1 = 2 then (x.1 ++ e.2.2.2.2.1, x.2) else if e.1 = 4 then (x.1, x.2 + 1) else x
structure OkD (x : Got) (e : Evt) : Prop where
  dat : e.1 = 2 → e.2.1 = 1 ∧ e.2.2.1 = x.1.length ∧ x.2 = 0
  kind : e.1 = 1 ∨ e.1 = 2 ∨ e.1 = 4 ∨ e.1 = 7
  num : 0 ≤ x.2 ∧ x.2 ≤ 1
  len : x.1.length ≤ 1000
  len2 : e.2.2.2.2.1.length ≤ 1000
def foldD (x : Got) (l : List Evt) : Got := l.foldl dlE x
structure GoodD (x : Got) (l : List Evt) (y : Got) : Prop where
  fold : foldD x l = y
  ok : ∀ k, k < l.length → OkD (foldD x (l.take k)) (l.getD k (Ty.dflt evT))
  few : l.length ≤ 1
theorem GoodD.nil (x : Got) : GoodD x [] x := ⟨rfl, fun k hk => by simp at hk, by simp⟩
theorem GoodD.one {x : Got} {e : Evt} (h : OkD x e) : GoodD x [e] (dlE x e) := ⟨rfl, fun k hk => by
  simp at hk
  subst hk
  exact h, by simp⟩
def pcT (T : List UInt8) (a b : Int) : List UInt8 := (T.take b.toNat).drop a.toNat
def sgD (f0 f1 : Int) (T : List UInt8) (a b : Int) : Sg := (1, (0, 0, IntKind.u32.wrap (IntKind.u32.wrap (f0 + 1) + IntKind.u32.wrap a), IntKind.u32.wrap (f1 + 1), 16, 0, 0, [], pcT T a b, ()), ())
def sgF (f0 f1 : Int) (T : List UInt8) : Sg := (1, (0, 0, IntKind.u32.wrap (IntKind.u32.wrap (f0 + 1) + IntKind.u32.wrap T.length), IntKind.u32.wrap (f1 + 1), 17, 0, 0, [], [], ()), ())
theorem diff_eq (a b : Int) : diff a b = (a - b + 2147483648) % 4294967296 - 2147483648 := sdiff_eq a b
/-- The connection while the text is sent. -/
structure DOpen (f0 f1 pol : Int) (T : List UInt8) (K : Nat) (c : Cnn) (pos : Int) : Prop where
  ex : ∃ p g l, c = ⟨3, p, g, some (sO (f0, 0, pol, ()) l pos, newS f1 1000 pol)⟩ ∧ OInv T l pos K ∧ p.stamps = false ∧ p.stamped = false ∧ p.win = 1000 ∧ g.high = IntKind.u32.wrap (f1 + 1)
theorem lost_D (f1 pol : Int) : lostS (newS f1 1000 pol) (IntKind.u32.wrap (f1 + 1)) = ((0, []), newS f1 1000 pol) := by
  have e : offS (newS f1 1000 pol) (IntKind.u32.wrap (f1 + 1)) = 0 := by
    unfold offS newS
    dsimp only
    simp only [sdiff_eq, wrap_u32]
    omega
  have e2 : limS (newS f1 1000 pol) (IntKind.u32.wrap (f1 + 1)) = 0 := by
    unfold limS
    rw [e, if_neg (by show ¬ ((-1 : Int) ≠ -1); omega)]
    show min 0 (0 + min (max 1000 1) 8192) = (0 : Int)
    omega
  unfold lostS
  rw [e2]
  rfl
theorem ended_O (x : Stt) (l : List Pc) {pos : Int} (h : 0 ≤ pos) : endedS (sO x l pos) = false := decide_eq_false (by show ¬ (-1 : Int) = pos; omega)
theorem ended_N (f1 pol : Int) : endedS (newS f1 1000 pol) = false := rfl
theorem next_O (x : Stt) (l : List Pc) {pos : Int} (h : 0 ≤ pos) : nextS (sO x l pos) = IntKind.u32.wrap (IntKind.u32.wrap (x.1 + 1) + IntKind.u32.wrap pos) := by
  unfold nextS
  rw [ended_O x l h, if_neg (by decide)]
  rfl
theorem add_nil (x : Stt) (l : List Pc) {pos a : Int} (h : 0 ≤ pos ∧ pos ≤ 200 ∧ 0 ≤ a ∧ a ≤ 200) : addS (sO x l pos) (seqO x a) [] = (([], 0, 0), sO x l pos) := by
  have eo := offO x l pos a h
  unfold addS
  rw [if_pos]
  · rfl
  · rw [eo]
    unfold hiS
    rw [if_neg (by show ¬ ((-1 : Int) ≠ -1); omega)]
    simp only [List.length_nil]
    omega
theorem fl16 : flags 16 = true := by kernel_rfl
theorem fl17 : flags 17 = true := by kernel_rfl
/-- Why a segment of the text is refused. -/
theorem rsn_D (x : Stt) (l : List Pc) {pos a : Int} (h : 0 ≤ pos ∧ pos ≤ 200 ∧ 0 ≤ a ∧ a ≤ 200) {p g : Hf} {k f : Int} (hf : f = 16 ∨ f = 17) (hs : p.stamps = false) (hw : p.win = 1000) (hk : g.high = k) (z : List UInt8) (hz : z.length ≤ 200) :
    (rsnM p g (sO x l pos) (seqO x a) k f [] z = 0) ∨ (rsnM p g (sO x l pos) (seqO x a) k f [] z = 6 ∧ a + z.length ≤ pos ∧ a ≠ pos) := by
  have hd : diff (seqO x a) (nextS (sO x l pos)) = a - pos := by
    rw [next_O x l h.1, diff_eq]
    unfold seqO
    simp only [wrap_u32]
    omega
  have hk0 : diff g.high k = 0 := by rw [hk, diff_eq]; omega
  have hr : rsnM p g (sO x l pos) (seqO x a) k f [] z = if (!within (seqO x a) z.length (nextS (sO x l pos)) 1000) = true then 6 else 0 := by
    unfold rsnM segA
    rw [hs, hw, hk0]
    rcases hf with rfl | rfl
    · rw [fl16]
      rfl
    · rw [fl17]
      rfl
  rw [hr]
  cases hwi : within (seqO x a) z.length (nextS (sO x l pos)) 1000 with
  | true => exact .inl rfl
  | false =>
    right
    refine ⟨rfl, ?_⟩
    unfold within at hwi
    rw [hd] at hwi
    split at hwi
    · rename_i h0
      simp at hwi
      omega
    · rename_i h0
      have w : IntKind.i64.wrap (a - pos + min (max (z.length : Int) 0) 1048576) = a - pos + min (max (z.length : Int) 0) 1048576 := wrapId (by omega)
      rw [w] at hwi
      simp at hwi
      omega
theorem stM_D (x : Stt) (l : List Pc) {pos : Int} (h : 0 ≤ pos) (f1 pol : Int) : stM (sO x l pos) (newS f1 1000 pol) = 3 := by
  unfold stM
  rw [ended_O x l h, ended_N]
  rfl
/-- A part of the text is sent. -/
theorem step_D {f0 f1 pol : Int} {T : List UInt8} (hT : T.length ≤ 200) {K : Nat} (hK : K + 2 ≤ 64) {c : Cnn} {pos : Int} (h : DOpen f0 f1 pol T K c pos) {a b : Int} (ha : 0 ≤ a) (hab : a ≤ b) (hb : b ≤ T.length) :
    ∃ pos', DOpen f0 f1 pol T (K + 2) (segS c (sgD f0 f1 T a b)).2 pos' ∧ GoodD (T.take pos.toNat, 0) (segS c (sgD f0 f1 T a b)).1 (T.take pos'.toNat, 0) ∧ b ≤ max pos' b ∧ (b ≤ pos' ∨ a ≠ 0) := by
  obtain ⟨p, g, l, rfl, ho, s1, s2, s3, s4⟩ := h.ex
  have hp0 := ho.p0
  have hp1 := ho.p1
  have hz : ((pcT T a b).length : Int) = b - a := by
    unfold pcT
    rw [List.length_drop, List.length_take]
    omega
  have hr := rsn_D (f0, 0, pol, ()) l (pos := pos) (a := a) ⟨hp0, by omega, ha, by omega⟩ (p := p) (g := g) (k := IntKind.u32.wrap (f1 + 1)) (f := 16) (.inl rfl) s1 s3 s4 (pcT T a b) (by omega)
  have hseg : segS ⟨3, p, g, some (sO (f0, 0, pol, ()) l pos, newS f1 1000 pol)⟩ (sgD f0 f1 T a b) =
      ((prM 1 2 3 p g (sO (f0, 0, pol, ()) l pos) (newS f1 1000 pol) (seqO (f0, 0, pol, ()) a) (IntKind.u32.wrap (f1 + 1)) 16 [] (pcT T a b)).1,
        ⟨(prM 1 2 3 p g (sO (f0, 0, pol, ()) l pos) (newS f1 1000 pol) (seqO (f0, 0, pol, ()) a) (IntKind.u32.wrap (f1 + 1)) 16 [] (pcT T a b)).2.1, (prM 1 2 3 p g (sO (f0, 0, pol, ()) l pos) (newS f1 1000 pol) (seqO (f0, 0, pol, ()) a) (IntKind.u32.wrap (f1 + 1)) 16 [] (pcT T a b)).2.2.1, g,
          some ((prM 1 2 3 p g (sO (f0, 0, pol, ()) l pos) (newS f1 1000 pol) (seqO (f0, 0, pol, ()) a) (IntKind.u32.wrap (f1 + 1)) 16 [] (pcT T a b)).2.2.2.1, (prM 1 2 3 p g (sO (f0, 0, pol, ()) l pos) (newS f1 1000 pol) (seqO (f0, 0, pol, ()) a) (IntKind.u32.wrap (f1 + 1)) 16 [] (pcT T a b)).2.2.2.2)⟩) := by
    have e : sgH 1 2 3 p g (sO (f0, 0, pol, ()) l pos) (newS f1 1000 pol) (seqO (f0, 0, pol, ()) a) (IntKind.u32.wrap (f1 + 1)) 16 [] (pcT T a b) = prM 1 2 3 p g (sO (f0, 0, pol, ()) l pos) (newS f1 1000 pol) (seqO (f0, 0, pol, ()) a) (IntKind.u32.wrap (f1 + 1)) 16 [] (pcT T a b) := by
      unfold sgH
      rw [if_neg (by rw [fl16]; decide)]
    rw [← e]
    rfl
  rw [hseg]
  have hgl : (T.take pos.toNat).length = pos.toNat := by rw [List.length_take]; omega
  rcases hr with hr | ⟨hr, hr1, hr2⟩
  ·
    have e1 : prM 1 2 3 p g (sO (f0, 0, pol, ()) l pos) (newS f1 1000 pol) (seqO (f0, 0, pol, ()) a) (IntKind.u32.wrap (f1 + 1)) 16 [] (pcT T a b) =
        (tkE 1 2 (sO (f0, 0, pol, ()) l pos) (newS f1 1000 pol) (seqO (f0, 0, pol, ()) a) (IntKind.u32.wrap (f1 + 1)) 16 (pcT T a b), stM (tkS (sO (f0, 0, pol, ()) l pos) (seqO (f0, 0, pol, ()) a) 16 (pcT T a b)) (tkT (newS f1 1000 pol) (IntKind.u32.wrap (f1 + 1))), tkH p (sO (f0, 0, pol, ()) l pos) (seqO (f0, 0, pol, ()) a) 16 [] (pcT T a b), tkS (sO (f0, 0, pol, ()) l pos) (seqO (f0, 0, pol, ()) a) 16 (pcT T a b), tkT (newS f1 1000 pol) (IntKind.u32.wrap (f1 + 1))) := by
      unfold prM
      rw [if_neg (by rw [hr]; decide), if_neg (by decide)]
    rw [e1]
    have et : tkT (newS f1 1000 pol) (IntKind.u32.wrap (f1 + 1)) = newS f1 1000 pol := by unfold tkT; rw [lost_D]
    have es : ∀ s z, tkS s (seqO (f0, 0, pol, ()) a) 16 z = (addS s (seqO (f0, 0, pol, ()) a) z).2 := fun s z => by
      unfold tkS finM
      rw [if_neg (by decide)]
    obtain ⟨l', pos', cut, hadd, hpp, hinv, hpos'⟩ : ∃ l' pos' cut, addS (sO (f0, 0, pol, ()) l pos) (seqO (f0, 0, pol, ()) a) (pcT T a b) = (((T.drop pos.toNat).take (pos' - pos).toNat, cut, 0), sO (f0, 0, pol, ()) l' pos') ∧ pos ≤ pos' ∧ OInv T l' pos' (K + 2) ∧ (b ≤ pos' ∨ a ≠ 0) := by
      by_cases hE : a = b
      · subst hE
        have : pcT T a a = [] := List.length_eq_zero_iff.1 (by omega)
        rw [this, add_nil (f0, 0, pol, ()) l ⟨hp0, by omega, ha, by omega⟩]
        refine ⟨l, pos, 0, by rw [show (pos - pos).toNat = 0 by omega, List.take_zero], Int.le_refl _, ho.mono (by omega), by omega⟩
      · obtain ⟨l', pos', hst⟩ := stepW (f0, 0, pol, ()) ho hK hT (z := b - a) (by omega) (a := a) ⟨ha, by omega⟩
        obtain ⟨cut, hc⟩ := hst.res
        have ez : segT T a (b - a) = pcT T a b := by
          unfold segT pcT
          rw [show min (a + (b - a)) (T.length : Int) = b by omega]
        rw [ez] at hc
        refine ⟨l', pos', cut, hc, hst.ge, hst.inv, ?_⟩
        by_cases h0 : a = 0
        · left
          have := (hst.same (by omega)).2
          omega
        · exact .inr h0
    have hp1' := hinv.p1
    have hp0' := hinv.p0
    have es2 : tkS (sO (f0, 0, pol, ()) l pos) (seqO (f0, 0, pol, ()) a) 16 (pcT T a b) = sO (f0, 0, pol, ()) l' pos' := by rw [es, hadd]
    refine ⟨pos', ⟨tkH p (sO (f0, 0, pol, ()) l pos) (seqO (f0, 0, pol, ()) a) 16 [] (pcT T a b), g, l', ?_, hinv, s1, s2, s3, s4⟩, ?_, by omega, hpos'⟩
    · rw [es2, et, stM_D _ _ hp0']
    · dsimp only
      unfold tkE tkE3 tkE2 tkE1
      rw [es2, et, hadd, lost_D]
      dsimp only
      have hn : ∀ c d q, numM c d q 0 = [] := fun c d q => if_neg (by simp)
      rw [hn, hn]
      have hrep2 : repM 2 (newS f1 1000 pol) [] (endedS (newS f1 1000 pol)) = [] := rfl
      rw [hrep2, List.append_nil, List.append_nil, List.nil_append]
      unfold repM rp2
      rw [ended_O _ l hp0, ended_O _ l' hp0', if_neg (by decide), List.append_nil]
      unfold rp1
      have hdl : (((T.drop pos.toNat).take (pos' - pos).toNat).length : Int) = pos' - pos := by
        rw [List.length_take, List.length_drop]
        omega
      split
      · rename_i h0
        have : pos' = pos := by rw [h0] at hdl; simp at hdl; omega
        rw [this]
        exact GoodD.nil _
      · rename_i h0
        have e5 : (sO (f0, 0, pol, ()) l' pos').pos - (((T.drop pos.toNat).take (pos' - pos).toNat).length : Int) = pos := by
          show pos' - _ = pos
          omega
        rw [e5]
        have := GoodD.one (x := (T.take pos.toNat, 0)) (e := ((2, 1, pos, 0, (T.drop pos.toNat).take (pos' - pos).toNat, ()) : Evt)) ⟨fun _ => ⟨rfl, by dsimp only; omega, rfl⟩, .inr (.inl rfl), by dsimp only; omega, by dsimp only; omega, by dsimp only; omega⟩
        have e6 : dlE (T.take pos.toNat, 0) (2, 1, pos, 0, (T.drop pos.toNat).take (pos' - pos).toNat, ()) = (T.take pos'.toNat, 0) := by
          unfold dlE
          rw [if_pos rfl]
          dsimp only
          rw [take_more hp0 hpp]
        rw [e6] at this
        exact this
  ·
    have e1 : prM 1 2 3 p g (sO (f0, 0, pol, ()) l pos) (newS f1 1000 pol) (seqO (f0, 0, pol, ()) a) (IntKind.u32.wrap (f1 + 1)) 16 [] (pcT T a b) = ([(7, 1, pos, 6, [], ())], 3, p, sO (f0, 0, pol, ()) l pos, newS f1 1000 pol) := by
      unfold prM
      rw [if_pos (by rw [hr]; decide), hr]
      rfl
    rw [e1]
    refine ⟨pos, ⟨p, g, l, rfl, ho.mono (by omega), s1, s2, s3, s4⟩, ?_, by omega, .inl (by omega)⟩
    exact GoodD.one (x := (T.take pos.toNat, 0)) (e := ((7, 1, pos, 6, [], ()) : Evt)) ⟨fun h => absurd h (by dsimp only; decide), .inr (.inr (.inr rfl)), by dsimp only; omega, by dsimp only; omega, by dsimp only; decide⟩
end Go.Proofs.YtchiagnggnblaaaDoor.Ac
