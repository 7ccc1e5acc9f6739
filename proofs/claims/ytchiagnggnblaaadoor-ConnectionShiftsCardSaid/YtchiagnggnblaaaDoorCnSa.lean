import Derived.Test.YtchiagnggnblaaaDoorCnR
import Derived.Test.YtchiagnggnblaaaDoorGSt2
set_option linter.all false
/- Chapter 21, plain: only differences of sequence numbers count. -/
namespace Go.Proofs.YtchiagnggnblaaaDoor.Ac
open Go Go.Fw Go.Ov Go.Proofs.YtchiagnggnblaaaDoor.Fx
def shH (b : Int) (p : Hf) : Hf := { nm := p.nm, v6 := p.v6, hi := p.hi, lo := p.lo, ln := p.ln, pol := p.pol, frag := p.frag, hops := p.hops, win := p.win, stamps := p.stamps, val := p.val, sv := p.sv, isn := IntKind.u32.wrap (p.isn + b), high := IntKind.u32.wrap (p.high + b), stamped := p.stamped, stamp := p.stamp }
def U32 (x : Int) : Prop := 0 ≤ x ∧ x < 4294967296
theorem dif_sh (s nx b : Int) : diff (IntKind.u32.wrap (s + b)) (IntKind.u32.wrap (nx + b)) = diff s nx := by
  unfold diff
  congr 2
  simp only [wrap_u32]
  omega
theorem eq_sh {s nx b : Int} (hs : U32 s) (hn : U32 nx) : decide (IntKind.u32.wrap (s + b) = IntKind.u32.wrap (nx + b)) = decide (s = nx) := by
  unfold U32 at hs hn
  refine decide_eq_decide.2 ?_
  simp only [wrap_u32]
  omega
theorem next_rng {s : SS} {B : Int} (h : SInv s B) : U32 (nextS s) := by
  unfold nextS U32
  split <;> rw [wrap_u32] <;> omega
theorem seg_sh {s k f : Int} {o : List optT.D} {n : Int} {op : Bool} {nx sn w : Int} {st : Bool} {stamp : Int} {stamps : Bool} (b0 b1 : Int) (hs : U32 s) (hnx : U32 nx) :
    segA (IntKind.u32.wrap (s + b0)) (IntKind.u32.wrap (k + b1)) f o n op (IntKind.u32.wrap (nx + b0)) (IntKind.u32.wrap (sn + b1)) w st stamp stamps = segA s k f o n op nx sn w st stamp stamps := by
  have hw : within (IntKind.u32.wrap (s + b0)) n (IntKind.u32.wrap (nx + b0)) w = within s n nx w := by unfold within; rw [dif_sh]
  unfold segA
  rw [eq_sh hs hnx, hw, dif_sh]
theorem rsn_sh {p g : Hf} {s : SS} {B : Int} (is : SInv s B) (b0 b1 q k f : Int) (o : List optT.D) (x : List UInt8) (hq : U32 q) :
    rsnM (shH b0 p) (shH b1 g) (shS b0 s) (IntKind.u32.wrap (q + b0)) (IntKind.u32.wrap (k + b1)) f o x = rsnM p g s q k f o x := by
  unfold rsnM
  rw [nextS_sh]
  exact seg_sh b0 b1 hq (next_rng is)
theorem ended_sh (b : Int) (s : SS) : endedS (shS b s) = endedS s := rfl
theorem fin_sh (b : Int) (s : SS) (q f : Int) (x : List UInt8) : finM (shS b s) (IntKind.u32.wrap (q + b)) f x = shS b (finM s q f x) := by
  unfold finM
  split
  · have e : IntKind.u32.wrap (IntKind.u32.wrap (q + b) + IntKind.u32.wrap x.length) = IntKind.u32.wrap (IntKind.u32.wrap (q + IntKind.u32.wrap x.length) + b) := by
      simp only [wrap_u32]; omega
    rw [e, endS_sh b s (IntKind.u32.wrap (q + IntKind.u32.wrap x.length)) _ (off_sh b s _)]
  · rfl
theorem tkS_sh (b : Int) (s : SS) (q f : Int) (x : List UInt8) : tkS (shS b s) (IntKind.u32.wrap (q + b)) f x = shS b (tkS s q f x) := by
  unfold tkS
  rw [addS_sh b s q _ x (off_sh b s q)]
  exact fin_sh ..
theorem tkT_sh (b : Int) (t : SS) (k : Int) : tkT (shS b t) (IntKind.u32.wrap (k + b)) = shS b (tkT t k) := by
  unfold tkT
  rw [lostS_sh b t k _ (off_sh b t k)]
theorem rep_sh (d b : Int) (s : SS) (x : List UInt8) (had : Bool) : repM d (shS b s) x had = repM d s x had := rfl
theorem tkE_sh (b0 b1 d e : Int) (s t : SS) (q k f : Int) (x : List UInt8) : tkE d e (shS b0 s) (shS b1 t) (IntKind.u32.wrap (q + b0)) (IntKind.u32.wrap (k + b1)) f x = tkE d e s t q k f x := by
  unfold tkE tkE3 tkE2 tkE1
  rw [tkS_sh, tkT_sh, rep_sh, rep_sh, addS_sh b0 s q _ x (off_sh b0 s q), lostS_sh b1 t k _ (off_sh b1 t k)]
  rfl
theorem edg_sh (b q f : Int) (x : List UInt8) : edgM (IntKind.u32.wrap (q + b)) f x = IntKind.u32.wrap (edgM q f x + b) := by
  unfold edgM
  simp only [wrap_u32]; omega
theorem tkH_sh (b : Int) (p : Hf) (s : SS) (q f : Int) (o : List optT.D) (x : List UInt8) : tkH (shH b p) (shS b s) (IntKind.u32.wrap (q + b)) f o x = shH b (tkH p s q f o x) := by
  have e1 : stpM (shH b p) (shS b s) (IntKind.u32.wrap (q + b)) o = stpM p s q o := by
    unfold stpM
    rw [nextS_sh, dif_sh]
    rfl
  have e2 : higM (shH b p) (IntKind.u32.wrap (q + b)) f x = IntKind.u32.wrap (higM p q f x + b) := by
    unfold higM
    rw [edg_sh]
    have : diff (shH b p).high (IntKind.u32.wrap (edgM q f x + b)) = diff p.high (edgM q f x) := dif_sh ..
    rw [this]
    split
    · rfl
    · rfl
  unfold tkH
  rw [e1, e2]
  rfl
theorem prM_sh {d e st : Int} {p g : Hf} {s t : SS} {B : Int} (is : SInv s B) (b0 b1 q k f : Int) (o : List optT.D) (x : List UInt8) (hq : U32 q) :
    sgH d e st (shH b0 p) (shH b1 g) (shS b0 s) (shS b1 t) (IntKind.u32.wrap (q + b0)) (IntKind.u32.wrap (k + b1)) f o x =
      ((sgH d e st p g s t q k f o x).1, (sgH d e st p g s t q k f o x).2.1, shH b0 (sgH d e st p g s t q k f o x).2.2.1, shS b0 (sgH d e st p g s t q k f o x).2.2.2.1, shS b1 (sgH d e st p g s t q k f o x).2.2.2.2) := by
  unfold sgH
  split
  · rfl
  · unfold prM
    rw [rsn_sh is b0 b1 q k f o x hq, tkE_sh, tkS_sh, tkT_sh, tkH_sh]
    split
    · rfl
    · split
      · rfl
      · rfl
/-- The same receiver. -/
def eqA (p p' : Hf) : Prop := ∀ q o, begH p q o = begH p' q o
theorem eqA.sh (p : Hf) (b : Int) : eqA p (shH b p) := fun _ _ => rfl
theorem eqA.beg (p : Hf) (q : Int) (o : List optT.D) : eqA p (begH p q o) := fun _ _ => rfl
theorem eqA.trans {p q r : Hf} (h : eqA p q) (k : eqA q r) : eqA p r := fun a o => (h a o).trans (k a o)
theorem eqA.symm {p q : Hf} (h : eqA p q) : eqA q p := fun a o => (h a o).symm
theorem eqA.tk (p : Hf) (s : SS) (q f : Int) (o : List optT.D) (x : List UInt8) : eqA p (tkH p s q f o x) := fun _ _ => rfl
theorem beg_sh {p p' : Hf} (h : eqA p p') (b q : Int) (o : List optT.D) : begH p' (IntKind.u32.wrap (q + b)) o = shH b (begH p q o) := by
  rw [← h]
  unfold begH shH
  simp only [wrap_u32]
  congr 1
  omega
structure ShC (b0 b1 : Int) (c d : Cnn) : Prop where
  st : d.st = c.st
  ss : d.ss = c.ss.map (fun y => (shS b0 y.1, shS b1 y.2))
  pa : eqA c.p d.p
  ga : eqA c.g d.g
  p : (c.ss ≠ none ∨ c.st = 1 ∨ c.st = 2) → d.p = shH b0 c.p
  g : (c.ss ≠ none ∨ c.st = 2) → d.g = shH b1 c.g
theorem ShC.new (b0 b1 : Int) (p g : Hf) : ShC b0 b1 (new0 p g) (new0 p g) :=
  ⟨rfl, rfl, fun _ _ => rfl, fun _ _ => rfl, fun h => absurd h (by simp), fun h => absurd h (by simp)⟩
theorem nwS_sh (b : Int) (p : Hf) : nwS (shH b p) = shS b (nwS p) := newS_sh p.isn b p.win p.pol
theorem ne_sh {k i b : Int} (hk : U32 k) : (IntKind.u32.wrap (k + b) ≠ IntKind.u32.wrap (IntKind.u32.wrap (i + b) + 1)) ↔ (k ≠ IntKind.u32.wrap (i + 1)) := by
  unfold U32 at hk
  simp only [wrap_u32]
  omega
theorem esR_sh (b0 b1 : Int) (p g : Hf) (q k f : Int) (o : List optT.D) (x : List UInt8) (hq : U32 q) (hk : U32 k) : esR (shH b0 p) (shH b1 g) (IntKind.u32.wrap (q + b0)) (IntKind.u32.wrap (k + b1)) f o x = esR p g q k f o x := by
  unfold esR
  rw [nwS_sh, rsn_sh (nwS_inv p) b0 b1 q k f o x hq]
  have e : (rsnM p g (nwS p) q k f o x = 0 ∧ IntKind.u32.wrap (k + b1) ≠ IntKind.u32.wrap ((shH b1 g).isn + 1)) ↔ (rsnM p g (nwS p) q k f o x = 0 ∧ k ≠ IntKind.u32.wrap (g.isn + 1)) := and_congr_right fun _ => ne_sh hk
  by_cases h : rsnM p g (nwS p) q k f o x = 0 ∧ k ≠ IntKind.u32.wrap (g.isn + 1)
  · rw [if_pos h, if_pos (e.2 h)]
  · rw [if_neg h, if_neg (fun q => h (e.1 q))]
theorem sh_step {b0 b1 : Int} {c d : Cnn} {B : Int} (hi : CInv c B) (h : ShC b0 b1 c d) (dir q k f : Int) (o : List optT.D) (x : List UInt8) (hq : U32 q) (hk : U32 k) :
    (segC dir d (IntKind.u32.wrap (q + if dir = 1 then b0 else b1)) (IntKind.u32.wrap (k + if dir = 1 then b1 else b0)) f o x).1 = (segC dir c q k f o x).1 ∧
    ShC b0 b1 (segC dir c q k f o x).2 (segC dir d (IntKind.u32.wrap (q + if dir = 1 then b0 else b1)) (IntKind.u32.wrap (k + if dir = 1 then b1 else b0)) f o x).2 := by
  obtain ⟨st, p, g, ss⟩ := c
  obtain ⟨st', p', g', ss'⟩ := d
  obtain ⟨h1, h2, pa, ga, hp, hg⟩ := h
  have h1 : st' = st := h1
  subst h1
  unfold segC
  by_cases e1 : dir = 1
  · rw [if_pos e1, if_pos e1, if_pos e1, if_pos e1]
    cases ss with
    | none =>
      have h2 : ss' = none := h2
      subst h2
      have hst : st' = 0 ∨ st' = 1 ∨ st' = 2 := hi
      unfold seg1
      dsimp only
      by_cases h2s : st' = 2
      · have hpe : p' = shH b0 p := hp (.inr (.inr h2s))
        have hge : g' = shH b1 g := hg (.inr h2s)
        subst hpe; subst hge; subst h2s
        have eo : opensB 2 (shH b0 p) (shH b1 g) (IntKind.u32.wrap (q + b0)) (IntKind.u32.wrap (k + b1)) f o x = opensB 2 p g q k f o x := by unfold opensB; rw [esR_sh b0 b1 p g q k f o x hq hk]
        rw [eo]
        split
        · rw [nwS_sh, nwS_sh, tkE_sh, tkS_sh, tkT_sh, tkH_sh]
          exact ⟨rfl, ⟨rfl, rfl, eqA.sh _ _, ga, fun _ => rfl, fun _ => rfl⟩⟩
        · have e : sgN1 2 (shH b0 p) (shH b1 g) (IntKind.u32.wrap (q + b0)) (IntKind.u32.wrap (k + b1)) f o x = ((sgN1 2 p g q k f o x).1, (sgN1 2 p g q k f o x).2.1, shH b0 (sgN1 2 p g q k f o x).2.2) := by
            unfold sgN1
            rw [esR_sh b0 b1 p g q k f o x hq hk, beg_sh (eqA.sh p b0)]
            (repeat' split) <;> rfl
          rw [e]
          refine ⟨rfl, ⟨rfl, rfl, eqA.sh _ _, ga, fun _ => rfl, fun _ => rfl⟩⟩
      · have ec : ∀ (p g : Hf) (q k : Int), opensB st' p g q k f o x = false := fun p g q k => by
          unfold opensB c3
          rw [decide_eq_false h2s]
          simp
        rw [ec, ec, if_neg (by decide), if_neg (by decide)]
        have e3 : c3 f st' = false := by
          unfold c3
          rw [decide_eq_false h2s]
          simp
        unfold sgN1
        rw [e3]
        split
        · exact ⟨rfl, ⟨rfl, rfl, pa, ga, hp, hg⟩⟩
        · split
          · rw [beg_sh pa]
            exact ⟨rfl, ⟨rfl, rfl, eqA.sh _ _, ga, fun _ => rfl, fun h => absurd h (by simp)⟩⟩
          · rw [if_neg (by decide), if_neg (by decide)]
            exact ⟨rfl, ⟨rfl, rfl, pa, ga, hp, hg⟩⟩
    | some y =>
      obtain ⟨s, t⟩ := y
      have h2 : ss' = some (shS b0 s, shS b1 t) := h2
      subst h2
      obtain ⟨is, it, hst⟩ : SInv s B ∧ SInv t B ∧ _ := hi
      have hpe : p' = shH b0 p := hp (.inl (by simp))
      have hge : g' = shH b1 g := hg (.inl (by simp))
      subst hpe; subst hge
      unfold seg1
      dsimp only
      split
      · rw [prM_sh is b0 b1 q k f o x hq]
        exact ⟨rfl, ⟨rfl, rfl, eqA.sh _ _, eqA.sh _ _, fun _ => rfl, fun _ => rfl⟩⟩
      · split
        · rw [beg_sh (eqA.sh p b0)]
          exact ⟨rfl, ⟨rfl, rfl, eqA.sh _ _, eqA.sh _ _, fun _ => rfl, fun h => absurd h (by simp)⟩⟩
        · exact ⟨rfl, ⟨rfl, rfl, eqA.sh _ _, eqA.sh _ _, fun _ => rfl, fun _ => rfl⟩⟩
  · rw [if_neg e1, if_neg e1, if_neg e1, if_neg e1]
    by_cases e2 : dir = 2
    · rw [if_pos e2, if_pos e2]
      cases ss with
      | none =>
        have h2 : ss' = none := h2
        subst h2
        have hst : st' = 0 ∨ st' = 1 ∨ st' = 2 := hi
        unfold seg2
        dsimp only
        unfold sgN2
        split
        · exact ⟨rfl, ⟨rfl, rfl, pa, ga, hp, hg⟩⟩
        · split
          · rename_i hc
            have h12 : st' = 1 ∨ st' = 2 := by
              unfold c2 at hc
              simp only [Bool.and_eq_true, Bool.or_eq_true, decide_eq_true_eq] at hc
              exact hc.2
            have hp2 : p' = shH b0 p := hp (.inr h12)
            subst hp2
            have e : (IntKind.u32.wrap (k + b0) ≠ IntKind.u32.wrap ((shH b0 p).isn + 1)) ↔ (k ≠ IntKind.u32.wrap (p.isn + 1)) := ne_sh hk
            by_cases hx : k ≠ IntKind.u32.wrap (p.isn + 1)
            · rw [if_pos hx, if_pos (e.2 hx)]
              exact ⟨rfl, ⟨rfl, rfl, pa, ga, hp, hg⟩⟩
            · rw [if_neg hx, if_neg (fun q => hx (e.1 q)), beg_sh ga]
              exact ⟨rfl, ⟨rfl, rfl, pa, eqA.sh _ _, fun _ => rfl, fun _ => rfl⟩⟩
          · exact ⟨rfl, ⟨rfl, rfl, pa, ga, hp, hg⟩⟩
      | some y =>
        obtain ⟨s, t⟩ := y
        have h2 : ss' = some (shS b0 s, shS b1 t) := h2
        subst h2
        obtain ⟨is, it, hst⟩ : SInv s B ∧ SInv t B ∧ _ := hi
        have hpe : p' = shH b0 p := hp (.inl (by simp))
        have hge : g' = shH b1 g := hg (.inl (by simp))
        subst hpe; subst hge
        unfold seg2
        dsimp only
        split
        · rw [prM_sh it b1 b0 q k f o x hq]
          exact ⟨rfl, ⟨rfl, rfl, eqA.sh _ _, eqA.sh _ _, fun _ => rfl, fun _ => rfl⟩⟩
        · exact ⟨rfl, ⟨rfl, rfl, eqA.sh _ _, eqA.sh _ _, fun _ => rfl, fun _ => rfl⟩⟩
    · rw [if_neg e2, if_neg e2]
      exact ⟨rfl, ⟨rfl, h2, pa, ga, hp, hg⟩⟩
end Go.Proofs.YtchiagnggnblaaaDoor.Ac
