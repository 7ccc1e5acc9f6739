/- The framework, part 18: arguments of plain type as data. -/
import Derived.Test.YtnleiflijccefaaFw17
import Derived.Below
import Derived.ChangeSlices
import Derived.ChangeArms
import Derived.Deep.Slices
import Derived.SizedLaws
import Derived.WideShapes
import Derived.Carry
import Derived.WalkKit
import Derived.ProofKit
import Derived.OpenShut
import Derived.ShutString
import Derived.ChangeOld
set_option linter.all false
set_option linter.unusedVariables false
set_option linter.unusedSimpArgs false
namespace Go.Fw
open Go.ChangeShapes Go.WideShapes Go.Deep Go.RowKit Go.ChangeAt

/-- What an argument of a plain type is, beyond its kind. -/
def Good : (t : Ty) → t.D → Prop
  | .bool, _ => True
  | .int k, n => (Lit.int k n).wf = true
  | .str, s => s.length ≤ 140737488351232
  | .nil, _ => True
  | .cons a b, x => Good a x.1 ∧ Good b x.2
  | .list t, xs => xs.length ≤ 140737488351232 ∧ ∀ x ∈ xs, Good t x

def okFs (P : Program) (f : TypeId → Ty → Bool) : List (TypeId × Nat) → Nat → Ty → Bool
  | [], _, .nil => true
  | (t, o) :: r, off, .cons a b => Nat.beq o off && Nat.beq (P.cellsOf t) a.size && f t a && okFs P f r (off + a.size) b
  | _, _, _ => false
def okTy (P : Program) : Nat → TypeId → Ty → Bool
  | 0, _, _ => false
  | d + 1, t, ty => match P.underlying t with
    | some .bool => match ty with | .bool => true | _ => false
    | some (.int k) => match ty with | .int k' => decide (k = k') | _ => false
    | some .string => match ty with | .str => true | _ => false
    | some (.slice e) => match ty with | .list u => Nat.beq (P.cellsOf e) u.size && Nat.blt 0 u.size && Nat.blt 0 (P.bytesOf e) && okTy P d e u | _ => false
    | some (.struct fs) => Nat.beq (P.cellsOf t) ty.size && okFs P (okTy P d) (fs.toList.map fun f => (f.type, f.offset)) 0 ty
    | some (.array n e) => Nat.beq (P.cellsOf t) ty.size && okFs P (okTy P d) ((List.range n).map fun i => (e, i * P.cellsOf e)) 0 ty
    | _ => false

/-- All that there is. -/
def RW (w : World) : Prot := fun b _ => b < w.heap.size

def Opens (P : Program) (t : TypeId) (ty : Ty) : Prop :=
  ∀ {H : Type} (held : Bool) (enc : TypeId × Value → H) (W : World) (fuel : Nat) (cs : List Value) (d : DataW H) (ps : List MemPlace),
    DataW.trod enc P W 0 (fun _ => true) held fuel t cs = some (d, ps) → (∀ n ∈ d.weights P t, n ≤ 140737488351232) → ∃ x : ty.D, Rep W (RW W) ty x cs ∧ Good ty x

theorem mem_weightsAll {H : Type} {P : Program} {e : TypeId} {n : Nat} : ∀ (l : List (DataW H)) (d : DataW H), d ∈ l → n ∈ d.weights P e → n ∈ DataW.weightsAll P e l
  | _ :: r, d, hd, hn => by
    rw [DataW.weightsAll]
    rcases List.mem_cons.1 hd with rfl | hd
    · exact List.mem_append.2 (.inl hn)
    · exact List.mem_append.2 (.inr (mem_weightsAll r d hd hn))
theorem weightsEach_same {H : Type} {P : Program} {e : TypeId} : ∀ (n : Nat) (l : List (DataW H)) (q : Nat), q ∈ DataW.weightsEach P (List.replicate n e) l → q ∈ DataW.weightsAll P e l
  | 0, l, q, h => by simp [DataW.weightsEach] at h
  | n + 1, [], q, h => by simp [List.replicate_succ, DataW.weightsEach] at h
  | n + 1, d :: r, q, h => by
    rw [List.replicate_succ, DataW.weightsEach] at h
    rw [DataW.weightsAll]
    rcases List.mem_append.1 h with h | h
    · exact List.mem_append.2 (.inl h)
    · exact List.mem_append.2 (.inr (weightsEach_same n r q h))

theorem opens_int {P : Program} {t : TypeId} {ik : IntKind} (hu : P.underlying t = some (.int ik)) : Opens P t (.int ik) := by
  intro H held enc W fuel cs d ps h _
  obtain ⟨n, rfl, _, hw⟩ := DataW.trod_int hu h
  exact ⟨n, by simp [Rep], hw⟩
theorem opens_bool {P : Program} {t : TypeId} (hu : P.underlying t = some .bool) : Opens P t .bool := by
  intro H held enc W fuel cs d ps h _
  have key : ∃ b, cs = [.bool b] := by
    cases fuel with
    | zero => cases h
    | succ fuel =>
      simp only [DataW.trod, hu] at h
      split at h <;> first | (cases h; done) | (simp_all; done) | (rename_i b _ _; exact ⟨b, rfl⟩) | (rename_i b _; exact ⟨b, rfl⟩) | (rename_i b; exact ⟨b, rfl⟩)
  obtain ⟨b, rfl⟩ := key
  exact ⟨b, by simp [Rep], trivial⟩
theorem opens_string {P : Program} {t : TypeId} (hu : P.underlying t = some .string) : Opens P t .str := by
  intro H held enc W fuel cs d ps h hw
  obtain ⟨s, rfl, hx, _⟩ := DataW.trod_string hu h
  obtain ⟨rfl, _⟩ := Prod.mk.inj hx
  refine ⟨s.data.toList, by simp [Rep, bs], ?_⟩
  exact hw s.data.toList.length (by simp [DataW.weights])

theorem Addr.add_zero' (a : Addr) : a.add 0 = a := by simp [Addr.add]
theorem cell_spot {W : World} {a : Addr} {v : Value} (h : W.cell? a = some v) : a.block < W.heap.size ∧ a = ⟨a.block, a.off, none⟩ := by
  unfold World.cell? at h
  split at h
  · rename_i hb
    refine ⟨(Array.getElem?_eq_some_iff.1 hb).1, ?_⟩
    split at h
    · cases h
    · rename_i hs
      cases a
      simp_all
  · cases h

theorem opens_slice {P : Program} {t e : TypeId} {u : Ty} (hu : P.underlying t = some (.slice e)) (hC : P.cellsOf e = u.size) (h0 : 0 < u.size) (hB : 0 < P.bytesOf e) (he : Opens P e u) : Opens P t (.list u) := by
  intro H held enc W fuel cs d ps h hw
  rcases open_slice hu h with ⟨rfl, _⟩ | ⟨a, len, cap, m, n, D, Pl, rfl, _, hl, hm, hmm, hx, hel⟩
  · exact ⟨[], by simp only [Rep]; exact ⟨none, 0, rfl, Nat.le_refl _, .inl (by simp)⟩, by simp [Good]⟩
  · simp only [if_true] at hmm
    subst hmm
    obtain ⟨rfl, rfl⟩ := Prod.mk.inj hx
    have hwe : ∀ i, i < len → ∀ q ∈ (D i).weights P e, q ≤ 140737488351232 := fun i hi q hq => hw q (by
      simp only [DataW.weights, hu]
      exact List.mem_cons_of_mem _ (List.mem_append.2 (.inl (mem_weightsAll _ (D i) (List.mem_map.2 ⟨i, List.mem_range.2 hi, rfl⟩) hq))))
    have hlen : len ≤ 140737488351232 := by
      have h1 := hw ((((List.range len).map D).length + ((List.range (m - len)).map fun j => D (len + j)).length) * P.bytesOf e) (by simp only [DataW.weights, hu]; exact List.mem_cons_self)
      simp only [List.length_map, List.length_range] at h1
      exact Nat.le_trans (Nat.le_trans (Nat.le_add_right _ _) (Nat.le_mul_of_pos_right _ hB)) h1
    haveI : Inhabited u.D := ⟨u.dflt⟩
    obtain ⟨F, hF⟩ := choose_lt (n := len) (p := fun i x => ∃ cs', W.cells? 0 (a.add (i * P.cellsOf e)) (P.cellsOf e) = some cs' ∧ Rep W (RW W) u x cs' ∧ Good u x) (fun i hi => by
      obtain ⟨cs', h1, h2⟩ := hel i (by omega)
      obtain ⟨x, hx1, hx2⟩ := he held enc W n cs' _ _ h2 (hwe i hi)
      exact ⟨x, cs', h1, hx1, hx2⟩)
    refine ⟨(List.range len).map F, ?_, ?_⟩
    · simp only [Rep]
      refine ⟨some a, m, by simp, by simpa using hl, ?_⟩
      by_cases hc0 : m = 0
      · exact .inl ⟨by simp; omega, hc0⟩
      · right
        have hspot : a.block < W.heap.size ∧ a = ⟨a.block, a.off, none⟩ := by
          obtain ⟨cs', h1, _⟩ := hel 0 (by omega)
          obtain ⟨_, h3, h4⟩ := World.cells?_some h1
          have h5 := h4 0 (by omega)
          have h6 : cs'[0]? = some cs'[0] := by simp [h3, hC, h0]
          rw [h6] at h5
          have := cell_spot h5
          simpa [Addr.add] using this
        refine ⟨a.block, a.off, by rw [← hspot.2], fun i hi => ?_⟩
        simp only [List.length_map, List.length_range] at hi
        obtain ⟨cs', h1, h2, _⟩ := hF i hi
        obtain ⟨_, h3, h4⟩ := World.cells?_some h1
        refine ⟨cs', h3.trans hC, fun j v hj => ⟨hspot.1, ?_⟩, by simpa using h2⟩
        have hjl := (List.getElem?_eq_some_iff.1 hj).1
        have h5 := h4 j (by omega)
        rw [hj, hspot.2, hC, Addr.add_lit, Addr.add_lit] at h5
        exact h5
    · refine ⟨by simpa using hlen, fun x hx => ?_⟩
      obtain ⟨i, hi, rfl⟩ := List.mem_map.1 hx
      obtain ⟨_, _, _, h3⟩ := hF i (List.mem_range.1 hi)
      exact h3

theorem opens_fs {P : Program} {f : TypeId → Ty → Bool} (hf : ∀ t ty, f t ty = true → Opens P t ty) {H : Type} (held : Bool) (enc : TypeId × Value → H) (W : World) (fuel : Nat) (cs : List Value) :
    ∀ (l : List (TypeId × Nat)) (off : Nat) (ty : Ty) (xs : List (DataW H × List MemPlace)), okFs P f l off ty = true →
    l.mapM (fun f => DataW.trod enc P W 0 (fun _ => true) held fuel f.1 ((cs.drop f.2).take (P.cellsOf f.1))) = some xs → (∀ n ∈ DataW.weightsEach P (l.map (·.1)) (xs.map (·.1)), n ≤ 140737488351232) →
    cs.length = off + ty.size → ∃ x : ty.D, Rep W (RW W) ty x (cs.drop off) ∧ Good ty x
  | [], off, ty, xs, hk, hx, hw, hl => by
    cases ty <;> simp only [okFs, Bool.false_eq_true] at hk
    exact ⟨(), by simp [Rep]; simp [Ty.size] at hl; omega, trivial⟩
  | (t, o) :: r, off, ty, xs, hk, hx, hw, hl => by
    cases ty <;> simp only [okFs, Bool.false_eq_true] at hk
    rename_i a b
    simp only [Bool.and_eq_true] at hk
    obtain ⟨⟨⟨h1, h2⟩, h3⟩, h4⟩ := hk
    have h1 := Nat.eq_of_beq_eq_true h1
    have h2 := Nat.eq_of_beq_eq_true h2
    subst h1
    simp only [List.mapM_cons] at hx
    obtain ⟨y, hy, hx⟩ := Option.bind_eq_some_iff.1 hx
    obtain ⟨ys, hys, hx⟩ := Option.bind_eq_some_iff.1 hx
    simp at hx
    subst hx
    simp only [Ty.size] at hl
    rw [h2] at hy
    obtain ⟨x, hx1, hx2⟩ := hf t a h3 held enc W fuel _ y.1 y.2 hy (fun n hn => hw n (by simp [DataW.weightsEach, hn]))
    obtain ⟨x', hx3, hx4⟩ := opens_fs hf held enc W fuel cs r (o + a.size) b ys h4 hys (fun n hn => hw n (by
      simp only [List.map_cons, DataW.weightsEach]
      exact List.mem_append.2 (.inr hn))) (by omega)
    refine ⟨(x, x'), ?_, hx2, hx4⟩
    simp only [Rep]
    refine ⟨(cs.drop o).take a.size, cs.drop (o + a.size), ?_, hx1, hx3⟩
    rw [← List.drop_drop, List.take_append_drop]

theorem opens_ty {P : Program} : ∀ (d : Nat) (t : TypeId) (ty : Ty), okTy P d t ty = true → Opens P t ty
  | 0, _, _, h => by simp [okTy] at h
  | d + 1, t, ty, h => by
    simp only [okTy] at h
    split at h
    · rename_i hu
      cases ty <;> simp only [Bool.false_eq_true] at h
      exact opens_bool hu
    · rename_i k hu
      cases ty <;> simp only [Bool.false_eq_true, decide_eq_true_eq] at h
      subst h
      exact opens_int hu
    · rename_i hu
      cases ty <;> simp only [Bool.false_eq_true] at h
      exact opens_string hu
    · rename_i e hu
      cases ty <;> simp only [Bool.false_eq_true] at h
      rename_i u
      simp only [Bool.and_eq_true] at h
      obtain ⟨⟨⟨h1, h2⟩, h3⟩, h4⟩ := h
      exact opens_slice hu (Nat.eq_of_beq_eq_true h1) (by rw [Nat.blt_eq] at h2; exact h2) (by rw [Nat.blt_eq] at h3; exact h3) (opens_ty d e u h4)
    · rename_i fs hu
      simp only [Bool.and_eq_true] at h
      obtain ⟨h1, h2⟩ := h
      have h1 := Nat.eq_of_beq_eq_true h1
      intro held enc W fuel cs dd ps hd hw
      cases fuel with
      | zero => cases hd
      | succ fuel =>
        have hd' : (if cs.length = P.cellsOf t then (fs.toList.mapM fun f => DataW.trod enc P W 0 (fun _ => true) held fuel f.type ((cs.drop f.offset).take (P.cellsOf f.type))).map fun xs => (DataW.agg (xs.map (·.1)), xs.flatMap (·.2)) else none) = some (dd, ps) := by
          rw [← hd]
          simp only [DataW.trod, hu]
        split at hd'
        case isFalse => cases hd'
        case isTrue hlen =>
        obtain ⟨xs, hxs, hx⟩ := Option.map_eq_some_iff.1 hd'
        obtain ⟨rfl, rfl⟩ := Prod.mk.inj hx
        obtain ⟨x, hx1, hx2⟩ := opens_fs (opens_ty d) held enc W fuel cs _ 0 ty xs h2 (by rw [List.mapM_map]; exact hxs) (fun n hn => hw n (by
          simp only [DataW.weights, hu]
          have e : (fs.toList.map fun f => (f.type, f.offset)).map (·.1) = fs.toList.map (·.type) := by simp [List.map_map, Function.comp_def]
          rw [e] at hn
          exact hn)) (by omega)
        exact ⟨x, by simpa using hx1, hx2⟩
    · rename_i n e hu
      simp only [Bool.and_eq_true] at h
      obtain ⟨h1, h2⟩ := h
      have h1 := Nat.eq_of_beq_eq_true h1
      intro held enc W fuel cs dd ps hd hw
      cases fuel with
      | zero => cases hd
      | succ fuel =>
        have hd' : (if cs.length = P.cellsOf t then ((List.range n).mapM fun i => DataW.trod enc P W 0 (fun _ => true) held fuel e ((cs.drop (i * P.cellsOf e)).take (P.cellsOf e))).map fun xs => (DataW.agg (xs.map (·.1)), xs.flatMap (·.2)) else none) = some (dd, ps) := by
          rw [← hd]
          simp only [DataW.trod, hu]
        split at hd'
        case isFalse => cases hd'
        case isTrue hlen =>
        obtain ⟨xs, hxs, hx⟩ := Option.map_eq_some_iff.1 hd'
        obtain ⟨rfl, rfl⟩ := Prod.mk.inj hx
        obtain ⟨x, hx1, hx2⟩ := opens_fs (opens_ty d) held enc W fuel cs _ 0 ty xs h2 (by rw [List.mapM_map]; exact hxs) (fun q hn => hw q (by
          simp only [DataW.weights, hu]
          refine weightsEach_same n _ q ?_
          have e' : ((List.range n).map fun i => (e, i * P.cellsOf e)).map (·.1) = List.replicate n e := by
            rw [List.map_map]
            exact List.map_const' .. |>.trans (by simp)
          rw [e'] at hn
          exact hn)) (by omega)
        exact ⟨x, by simpa using hx1, hx2⟩
    · simp at h

/-! ### all arguments -/
def argsT : List (Bool × Ty) → Ty
  | [] => .nil
  | (_, t) :: r => .cons t (argsT r)
def argsAV : (l : List (Bool × Ty)) → (argsT l).D → List AV
  | [], _ => []
  | (true, t) :: r, x => .agg (explode t x.1) :: argsAV r x.2
  | (false, t) :: r, x => (explode t x.1).headD .any :: argsAV r x.2
def oneTy : Ty → Bool
  | .bool | .int _ | .str | .list _ => true
  | _ => false
def okArgs (P : Program) : List TypeId → List (Bool × Ty) → Bool
  | [], [] => true
  | t :: ts, (b, ty) :: r => okTy P 30 t ty && P.readableRec t && decide (t < P.types.size) && (match P.underlying t with | some (.struct _) | some (.array ..) => b | _ => !b && oneTy ty) && okArgs P ts r
  | _, _ => false

theorem okWide_agg {P : Program} {w : World} {r : Reach} {base : Nat} {t : TypeId} {v : Value} (hb : (match P.underlying t with | some (.struct _) | some (.array ..) => true | _ => false) = true) (h : Value.okWide P w r base t v) : ∃ cs, v = .agg cs := by
  unfold Value.okWide at h
  split at h
  · obtain ⟨cs, rfl, _⟩ := h; exact ⟨cs, rfl⟩
  · obtain ⟨cs, rfl, _⟩ := h; exact ⟨cs, rfl⟩
  · rename_i h1 h2
    split at hb
    · rename_i fs hu; exact absurd hu (h1 fs)
    · rename_i n e hu; exact absurd hu (h2 n e)
    · simp at hb

theorem okFs_one {P : Program} {f : TypeId → Ty → Bool} {l : List (TypeId × Nat)} {off : Nat} {ty : Ty} (h : oneTy ty = true) : okFs P f l off ty = false := by
  cases ty <;> simp [oneTy] at h <;> cases l <;> simp [okFs]
theorem okWide_one {P : Program} {w w' : World} {R : Prot} {r : Reach} {base d : Nat} {t : TypeId} {v : Value} {ty : Ty} {x : ty.D} (ho : okTy P (d + 1) t ty = true) (h1 : oneTy ty = true) (h : Value.okWide P w r base t v) (hr : Rep w' R ty x v.cells.toList) : v.cells = #[v] := by
  simp only [okTy] at ho
  split at ho
  · rename_i hu; obtain ⟨b, rfl⟩ := okWide_bool hu h; rfl
  · rename_i k hu; obtain ⟨b, rfl⟩ := okWide_int hu h; rfl
  · rename_i hu; obtain ⟨b, rfl⟩ := okWide_string hu h; rfl
  · rename_i e hu; obtain ⟨a, l, c, rfl⟩ := okWide_slice hu h; rfl
  · simp [okFs_one h1] at ho
  · simp [okFs_one h1] at ho
  · simp at ho

theorem explode_one {φ : Place} {R : Prot} {w : World} {ty : Ty} {x : ty.D} {v : Value} (h1 : oneTy ty = true) (h : Rep w R ty x [v]) : RepV φ R w ((explode ty x).headD .any) v := by
  have := h.explode (φ := φ)
  cases ty <;> simp [oneTy] at h1 <;> simp only [Fw.explode, RepVs] at this <;> obtain ⟨u, us, he, hu, _⟩ := this <;> simp at he <;> (obtain ⟨rfl, _⟩ := he) <;> simpa [Fw.explode] using hu

theorem opens_args {P : Program} {H : Type} {enc : TypeId × Value → H} {W : World} {base : Nat} {φ : Place} : ∀ (ts : List TypeId) (l : List (Bool × Ty)) (vs : List Value) (ds : List (DataW H)) (ps : List MemPlace),
    okArgs P ts l = true → DataW.TrodAll enc P W 0 (fun _ => true) true ts vs ds ps → (∀ n ∈ DataW.weightsEach P ts ds, n ≤ 140737488351232) → (∀ (j : Nat) t v, ts[j]? = some t → vs[j]? = some v → Value.okWide P W .any base t v) →
    ds.length = ts.length ∧ (∃ x : (argsT l).D, RepVs φ (RW W) W (argsAV l x) vs ∧ Good (argsT l) x) ∧
    ∀ W', Below W.heap.size W W' → laidOutB P = true → DataW.TrodAll enc P W' 0 (fun b => decide (b < W.heap.size)) true ts vs ds ps
  | [], l, vs, ds, ps, hk, ht, hw, hv => by
    cases l <;> simp only [okArgs, Bool.false_eq_true] at hk
    cases vs <;> cases ds <;> simp only [DataW.TrodAll] at ht
    exact ⟨rfl, ⟨(), by simp [argsAV, RepVs], trivial⟩, fun _ _ _ => ht⟩
  | t :: ts, l, vs, ds, ps, hk, ht, hw, hv => by
    cases l with
    | nil => simp [okArgs] at hk
    | cons q l =>
    obtain ⟨b, ty⟩ := q
    simp only [okArgs, Bool.and_eq_true, decide_eq_true_eq] at hk
    obtain ⟨⟨⟨⟨k1, k2⟩, k3⟩, k4⟩, k5⟩ := hk
    cases vs with
    | nil => simp [DataW.TrodAll] at ht
    | cons v vs =>
    cases ds with
    | nil => simp [DataW.TrodAll] at ht
    | cons d ds =>
    simp only [DataW.TrodAll] at ht
    obtain ⟨p, p', ⟨fuel, h1⟩, h2, rfl⟩ := ht
    have hval := hv 0 t v rfl rfl
    obtain ⟨x, hx, hg⟩ := opens_ty 30 t ty k1 true enc W fuel _ d p h1 (fun n hn => hw n (by simp [DataW.weightsEach, hn]))
    obtain ⟨e1, ⟨y, hy, hgy⟩, hback⟩ := opens_args (base := base) (φ := φ) ts l vs ds p' k5 h2 (fun n hn => hw n (by simp only [DataW.weightsEach]; exact List.mem_append.2 (.inr hn))) (fun j t v hj hj' => hv (j + 1) t v (by simpa using hj) (by simpa using hj'))
    refine ⟨by simp [e1], ⟨(x, y), ?_, hg, hgy⟩, fun W' hb hl => ⟨p, p', Below.trod hl k2 k3 ⟨fuel, h1⟩ hb (fun q hq => DataW.trod_lt fuel t _ _ h1 q hq), hback W' hb hl, rfl⟩⟩
    cases b with
    | true =>
      have hagg : (match P.underlying t with | some (.struct _) | some (.array ..) => true | _ => false) = true := by
        split at k4 <;> simp_all
      obtain ⟨cs, rfl⟩ := okWide_agg hagg hval
      exact ⟨_, vs, rfl, by simp only [RepV]; exact ⟨cs, rfl, hx.explode⟩, hy⟩
    | false =>
      have ho : oneTy ty = true := by split at k4 <;> simp_all
      have hc := okWide_one (R := RW W) (w' := W) k1 ho hval hx
      rw [hc] at hx
      exact ⟨_, vs, rfl, explode_one ho hx, hy⟩

theorem evo_below {φ φ' : Place} {w w' : World} {R' : Prot} (h : Evo (RW w) (Owns φ noHeap) w R' (Owns φ' noHeap) w') : Below w.heap.size w w' :=
  ⟨h.os, h.tape, h.output, h.size, fun k hk => h.keep k hk (by rintro ⟨_, _, _, h, _⟩; simp [noHeap] at h)⟩

theorem weightsEach_app {H : Type} {P : Program} : ∀ (ts us : List TypeId) (ds : List (DataW H)) (n : Nat), n ∈ DataW.weightsEach P ts ds → n ∈ DataW.weightsEach P (ts ++ us) ds
  | [], us, ds, n, h => by simp [DataW.weightsEach] at h
  | t :: ts, us, [], n, h => by simp [DataW.weightsEach] at h
  | t :: ts, us, d :: ds, n, h => by
    simp only [DataW.weightsEach, List.cons_append, List.mem_append] at h ⊢
    exact h.imp id (weightsEach_app ts us ds n)
/-- A law: its contract says that it returns true; so its call keeps what a row asks. -/
theorem law_calls {P : Program} {H : Type} {enc : TypeId × Value → H} {f : FuncId} {fn : Func} {s : ChangeSpec} {W : World} {base : Nat} {args : Array Value} {ds gs : List (DataW H)} {before : List MemPlace} {l : List (Bool × Ty)} {tb : TypeId} {gl : Gl}
    (hlaid : laidOutB P = true) (hargs : okArgs P fn.params.toList l = true) (hres : fn.resultTypes = #[tb]) (htb : P.underlying tb = some .bool) (hvars : s.vars = [])
    (hspec : ∀ ds : List (DataW H), ds.length = fn.params.toList.length → (s.fn H ds).results = [.lit (.bool true)] ∧ (s.fn H ds).args = ds ∧ (s.fn H ds).vars = [])
    (contract : ∀ x, Good (argsT l) x → PSpec P gl f (argsAV l x) (.bool true))
    (hval : ∀ (j : Nat) t v, fn.params[j]? = some t → args[j]? = some v → Value.okWide P W .any base t v)
    (hW : DataW.Whole enc P fn.params.toList s.vars false W args.toList ds gs before)
    (hsz : (DataW.weightsEach P (fn.params.toList ++ s.plain.varTypes P) (ds ++ gs)).all (· ≤ reachBytes) = true)
    (hgl : GlOK gl (fun _ => none) (RW W) W) :
    Calls P f args W fun e W' => ∃ v, e = .returned v ∧ s.post enc P fn false true false false W args v W' := by
  have hW' := hW
  obtain ⟨p, q, hA, hV, rfl, hfz, hnd⟩ := hW
  rw [hvars] at hV
  obtain ⟨rfl, rfl⟩ := trodVars_none hV
  rw [List.append_nil] at hsz
  have hwts : ∀ n ∈ DataW.weightsEach P fn.params.toList ds, n ≤ 140737488351232 := fun n hn => by
    have hmem : n ∈ DataW.weightsEach P (fn.params.toList ++ s.plain.varTypes P) ds := weightsEach_app _ _ _ n hn
    exact of_decide_eq_true (List.all_eq_true.1 hsz n hmem)
  obtain ⟨hlen, ⟨x, hx, hg⟩, hback⟩ := opens_args (base := base) (φ := fun _ => none) fn.params.toList l args.toList ds p hargs hA hwts (fun j t v h1 h2 => hval j t v (by simpa using h1) (by simpa using h2))
  obtain ⟨_, hcall⟩ := contract x hg
  have hc := hcall (fun _ => none) (RW W) W args.toList ⟨fun _ _ h => by simp [noHeap] at h, fun _ _ _ _ _ _ _ h => by simp [noHeap] at h⟩ (fun b o h => h) hgl hx
  rw [Array.toArray_toList] at hc
  refine hc.mono ?_
  rintro e W' ⟨v, φ', R', rfl, hv, _, _, hevo, _⟩
  simp only [RepV] at hv
  subst hv
  have bel := evo_below hevo
  obtain ⟨s1, s2, s3⟩ := hspec ds hlen
  refine ⟨_, rfl, ds, [], _, [], p, [], hW', ?_, ?_, ?_, bel.frame _, fun h => by cases h⟩
  · rw [List.append_nil, s1, hres]
    exact trodAll_mk1 (shut_bool htb _)
  · rw [List.append_nil, s2]
    exact hback W' bel hlaid
  · rw [List.append_nil, s3, hvars]
    rfl

/-- A package variable that is laid as a list of whole numbers. -/
theorem laid_ints {P : Program} {t e : TypeId} {k : IntKind} (hu : P.underlying t = some (.slice e)) (hC : P.cellsOf e = 1) (he : P.underlying e = some (.int k)) {H : Type} {held : Bool} {enc : TypeId × Value → H} {W : World} {fuel : Nat} {cs : List Value}
    {ns : List Int} {rest : List (DataW H)} {ps : List MemPlace} (hns : ns ≠ []) (h : DataW.trod enc P W 0 (fun _ => true) held fuel t cs = some (.slice (ns.map fun n => .lit (.int k n)) rest, ps)) : Rep W (RW W) (.list (.int k)) ns cs := by
  rcases open_slice hu h with ⟨_, hx⟩ | ⟨a, len, cap, m, n, D, Pl, rfl, _, hl, hm, hmm, hx, hel⟩
  · simp at hx
  · simp only [if_true] at hmm
    subst hmm
    obtain ⟨hx, _⟩ := Prod.mk.inj hx
    simp only [DataW.slice.injEq] at hx
    obtain ⟨hx, _⟩ := hx
    have hlen : ns.length = len := by have := congrArg List.length hx; simpa using this
    subst hlen
    have hpos : 0 < ns.length := by cases ns <;> simp_all
    have helem : ∀ i (hi : i < ns.length), W.cell? (a.add i) = some (.int k ns[i]) := by
      intro i hi
      obtain ⟨cs', h1, h2⟩ := hel i (by omega)
      obtain ⟨_, h3, h4⟩ := World.cells?_some h1
      have h5 := h4 0 (by omega)
      obtain ⟨v, rfl, hd, _⟩ := DataW.trod_int he h2
      obtain ⟨hd, _⟩ := Prod.mk.inj hd
      have h6 : (ns.map fun n => (DataW.lit (.int k n) : DataW H))[i]? = ((List.range ns.length).map D)[i]? := by rw [hx]
      simp only [List.getElem?_map, List.getElem?_range hi, List.getElem?_eq_getElem hi, Option.map_some, Option.some.injEq] at h6
      rw [hd] at h6
      simp only [DataW.lit.injEq, Lit.int.injEq, true_and] at h6
      rw [hC, Nat.mul_one, Addr.add_zero'] at h5
      rw [h5, h6]
      rfl
    have hspot := cell_spot (helem 0 hpos)
    simp only [Rep]
    refine ⟨some a, m, rfl, hl, .inr ⟨a.block, a.off, ?_, fun i hi => ⟨[.int k ns[i]], rfl, fun j v hj => ?_, rfl⟩⟩⟩
    · have := hspot.2
      rw [Addr.add_zero'] at this
      rw [← this]
    · rw [Addr.add_zero'] at hspot
      cases j with
      | zero =>
        simp at hj
        subst hj
        refine ⟨hspot.1, ?_⟩
        have := helem i hi
        rw [hspot.2, Addr.add_lit] at this
        simpa [Ty.size] using this
      | succ j => simp at hj
theorem glOK_one {φ : Place} {w : World} {g : Nat} {v : Value} {av : AV} (hlt : g < w.heap.size) (hc : w.cell? ⟨g, 0, none⟩ = some v) (hr : RepV φ (RW w) w av v) (hid : ∀ id, AV.hasAny id [av] = false) : GlOK [(g, [av])] φ (RW w) w := by
  intro g' cs h
  simp only [lookup] at h
  split at h
  · rename_i hb
    have hb := Nat.eq_of_beq_eq_true hb
    subst hb
    simp only [Option.some.injEq] at h
    subst h
    refine ⟨?_, hid⟩
    simp only [RepV, RepVs]
    refine ⟨g, 0, [v], rfl, fun i u hu => ?_, v, [], rfl, hr, rfl⟩
    cases i with
    | zero => simp at hu; subst hu; exact ⟨hlt, hc⟩
    | succ i => simp at hu
  · simp at h
theorem glOK_nil {φ : Place} {R : Prot} {w : World} : GlOK [] φ R w := by
  intro g cs h
  simp [lookup] at h
end Go.Fw
