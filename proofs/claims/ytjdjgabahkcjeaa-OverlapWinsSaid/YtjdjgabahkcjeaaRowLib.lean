/- Arguments of whatever plain type (whole numbers, bools, strings, structs, small arrays, slices of these) opened as the printed contracts want them. -/
import Derived.Test.YtjdjgabahkcjeaaWWords
import Derived.Below
import Derived.ChangeSlices
import Derived.ChangeArms
import Derived.Deep.Slices
import Derived.SizedLaws
import Derived.WideShapes
import Derived.Carry
set_option linter.unusedVariables false
set_option linter.unusedSimpArgs false
namespace Go.Proofs.Ytjdjgabahkcjeaa.RowLib
open Go.RowKit Go.Proofs.YtjdjgabahkcjeaaW.PrintWords Go.ChangeShapes Go.WideShapes Go.Deep

/-- What a reading of a value's cells at a type tells: a datum of Lean's, and what its reach allows. -/
def Opens {α : Type} (P : Program) (t : TypeId) (k : Kd α) (G : α → Prop) : Prop :=
  ∀ {H : Type} (enc : TypeId × Value → H) (W : World) (fuel : Nat) (cs : List Value) (d : DataW H) (ps : List MemPlace),
    DataW.trod enc P W 0 (fun _ => true) true fuel t cs = some (d, ps) → (∀ n ∈ d.weights P t, n ≤ 140737488351232) → ∃ x : α, k.K W x cs ∧ G x

theorem opens_int {P : Program} {t : TypeId} {ik : IntKind} (hu : P.underlying t = some (.int ik)) : Opens P t (Kd.int ik) (fun x => (Lit.int ik x).wf = true) := by
  intro H enc W fuel cs d ps h _
  obtain ⟨n, rfl, _, hw⟩ := DataW.trod_int hu h
  exact ⟨n, rfl, hw⟩
theorem opens_bool {P : Program} {t : TypeId} (hu : P.underlying t = some .bool) : Opens P t Kd.bool (fun _ => True) := by
  intro H enc W fuel cs d ps h _
  cases fuel with
  | zero => cases h
  | succ fuel =>
    simp only [DataW.trod, hu] at h
    split at h <;> first | (cases h; done) | (simp_all; done) | (rename_i b _ _; exact ⟨b, rfl, trivial⟩) | (rename_i b _; exact ⟨b, rfl, trivial⟩) | (rename_i b; exact ⟨b, rfl, trivial⟩)
theorem opens_string {P : Program} {t : TypeId} (hu : P.underlying t = some .string) : Opens P t Kd.string (fun s => s.size ≤ 140737488351232) := by
  intro H enc W fuel cs d ps h hw
  obtain ⟨s, rfl, hx, _⟩ := DataW.trod_string hu h
  obtain ⟨rfl, _⟩ := Prod.mk.inj hx
  refine ⟨s, rfl, ?_⟩
  have := hw s.data.toList.length (by simp [DataW.weights])
  simpa using this
theorem mem_weightsAll {H : Type} {P : Program} {e : TypeId} {n : Nat} : ∀ (l : List (DataW H)) (d : DataW H), d ∈ l → n ∈ d.weights P e → n ∈ DataW.weightsAll P e l
  | _ :: r, d, hd, hn => by
    rw [DataW.weightsAll]
    rcases List.mem_cons.1 hd with rfl | hd
    · exact List.mem_append.2 (.inl hn)
    · exact List.mem_append.2 (.inr (mem_weightsAll r d hd hn))
theorem opens_slice {α : Type} {P : Program} {t e : TypeId} {k : Kd α} {G : α → Prop} (B : Nat) (z : α) (hu : P.underlying t = some (.slice e)) (hC : P.cellsOf e = k.sz) (hB : P.bytesOf e = B) (he : Opens P e k G) :
    Opens P t (Kd.slice e k) (fun xs => xs.length * B ≤ 140737488351232 ∧ ∀ x ∈ xs, G x) := by
  intro H enc W fuel cs d ps h hw
  rcases open_slice hu h with ⟨rfl, _⟩ | ⟨a, len, cap, m, n, D, Pl, rfl, _, hl, hm, hmm, hx, hel⟩
  · exact ⟨[], ⟨none, 0, rfl, Nat.le_refl _, Kd.C_nil k W⟩, by simp, by simp⟩
  · simp only [if_true] at hmm
    subst hmm
    obtain ⟨rfl, rfl⟩ := Prod.mk.inj hx
    have hwe : ∀ i, i < len → ∀ q ∈ (D i).weights P e, q ≤ 140737488351232 := fun i hi q hq => hw q (by
      simp only [DataW.weights, hu]
      exact List.mem_cons_of_mem _ (List.mem_append.2 (.inl (mem_weightsAll _ (D i) (List.mem_map.2 ⟨i, List.mem_range.2 hi, rfl⟩) hq))))
    have hlen : len * B ≤ 140737488351232 := by
      have h1 := hw ((((List.range len).map D).length + ((List.range (m - len)).map fun j => D (len + j)).length) * P.bytesOf e) (by simp only [DataW.weights, hu]; exact List.mem_cons_self)
      rw [hB] at h1
      refine Nat.le_trans (Nat.mul_le_mul_right _ ?_) h1
      simp
    haveI : Inhabited α := ⟨z⟩
    obtain ⟨F, hF⟩ := choose_lt (n := len) (p := fun i x => ∃ cs', W.cells? 0 (a.add (i * P.cellsOf e)) (P.cellsOf e) = some cs' ∧ k.K W x cs' ∧ G x) (fun i hi => by
      obtain ⟨cs', h1, h2⟩ := hel i (by omega)
      obtain ⟨x, hx1, hx2⟩ := he enc W n cs' _ _ h2 (hwe i hi)
      exact ⟨x, cs', h1, hx1, hx2⟩)
    have hml : m ≤ 9223372036854775807 := by simpa [maxLen] using hm
    refine ⟨(List.range len).map F, ⟨some a, m, by simp, by simpa using hl, ⟨by simp, by simp; omega, fun _ => ⟨a, rfl, fun j p hj => ?_⟩⟩⟩, by simpa using hlen, fun x hx => ?_⟩
    · obtain ⟨hj1, rfl⟩ : j < len ∧ F j = p := by
        rw [List.getElem?_map] at hj
        obtain ⟨i, hi, rfl⟩ := Option.map_eq_some_iff.1 hj
        obtain ⟨h1, h2⟩ := List.getElem?_eq_some_iff.1 hi
        simp at h1 h2
        subst h2
        exact ⟨h1, rfl⟩
      obtain ⟨cs', h1, h2, _⟩ := hF j hj1
      obtain ⟨_, h3, h4⟩ := World.cells?_some h1
      refine ⟨cs', h3.trans hC, h2, fun i u hu' => ?_⟩
      have h5 := h4 i (by have := (List.getElem?_eq_some_iff.1 hu').1; omega)
      rw [← hC]
      simpa [Go.Deep.add_add, hu'] using h5
    · obtain ⟨i, hi, rfl⟩ := List.mem_map.1 hx
      obtain ⟨_, _, _, h3⟩ := hF i (List.mem_range.1 hi)
      exact h3

/-- Fields (their types and offsets), one behind the other from an offset on. -/
def OpensF {α : Type} (P : Program) (fs : List (TypeId × Nat)) (off : Nat) (k : Kd α) (G : α → Prop) : Prop :=
  ∀ {H : Type} (enc : TypeId × Value → H) (W : World) (fuel : Nat) (cs : List Value) (xs : List (DataW H × List MemPlace)),
    fs.mapM (fun f => DataW.trod enc P W 0 (fun _ => true) true fuel f.1 ((cs.drop f.2).take (P.cellsOf f.1))) = some xs → (∀ n ∈ DataW.weightsEach P (fs.map (·.1)) (xs.map (·.1)), n ≤ 140737488351232) →
    cs.length = off + k.sz → ∃ x : α, k.K W x (cs.drop off) ∧ G x
theorem opensF_one {α : Type} {P : Program} {t : TypeId} {off : Nat} {k : Kd α} {G : α → Prop} (hC : P.cellsOf t = k.sz) (h : Opens P t k G) : OpensF P [(t, off)] off k G := by
  intro H enc W fuel cs xs hx hw hl
  simp only [List.mapM_cons, List.mapM_nil] at hx
  obtain ⟨y, hy, hx⟩ := Option.bind_eq_some_iff.1 hx
  simp at hx
  subst hx
  rw [hC, List.take_of_length_le (by simp; omega)] at hy
  exact h enc W fuel _ y.1 y.2 hy (fun n hn => hw n (by simp [DataW.weightsEach, hn]))
theorem opensF_cons {α β : Type} {P : Program} {t : TypeId} {fs : List (TypeId × Nat)} {off off' : Nat} {k : Kd α} {k' : Kd β} {G : α → Prop} {G' : β → Prop} (hC : P.cellsOf t = k.sz) (ho : off + k.sz = off') (h : Opens P t k G) (hf : OpensF P fs off' k' G') :
    OpensF P ((t, off) :: fs) off (Kd.pair k k') (fun x => G x.1 ∧ G' x.2) := by
  intro H enc W fuel cs xs hx hw hl
  subst ho
  simp only [List.mapM_cons] at hx
  obtain ⟨y, hy, hx⟩ := Option.bind_eq_some_iff.1 hx
  obtain ⟨ys, hys, hx⟩ := Option.bind_eq_some_iff.1 hx
  simp at hx
  subst hx
  have hsz : (Kd.pair k k').sz = k.sz + k'.sz := rfl
  rw [hsz] at hl
  rw [hC] at hy
  obtain ⟨x, hx1, hx2⟩ := h enc W fuel _ y.1 y.2 hy (fun n hn => hw n (by simp [DataW.weightsEach, hn]))
  obtain ⟨x', hx3, hx4⟩ := hf enc W fuel cs ys hys (fun n hn => hw n (by
    simp only [List.map_cons, DataW.weightsEach]
    exact List.mem_append.2 (.inr hn))) (by omega)
  refine ⟨(x, x'), ⟨(cs.drop off).take k.sz, cs.drop (off + k.sz), ?_, hx1, hx3⟩, hx2, hx4⟩
  rw [← List.drop_drop, List.take_append_drop]
theorem opens_struct {α : Type} {P : Program} {t : TypeId} {fs : Array Field} {l : List (TypeId × Nat)} {k : Kd α} {G : α → Prop} (hu : P.underlying t = some (.struct fs)) (hl : fs.toList.map (fun f => (f.type, f.offset)) = l) (hC : P.cellsOf t = k.sz) (h : OpensF P l 0 k G) : Opens P t k G := by
  intro H enc W fuel cs d ps hd hw
  subst hl
  cases fuel with
  | zero => cases hd
  | succ fuel =>
    have hd' : (if cs.length = P.cellsOf t then (fs.toList.mapM fun f => DataW.trod enc P W 0 (fun _ => true) true fuel f.type ((cs.drop f.offset).take (P.cellsOf f.type))).map fun xs => (DataW.agg (xs.map (·.1)), xs.flatMap (·.2)) else none) = some (d, ps) := by
      rw [← hd]
      simp only [DataW.trod, hu]
    split at hd'
    case isFalse => cases hd'
    case isTrue hlen =>
    obtain ⟨xs, hxs, hx⟩ := Option.map_eq_some_iff.1 hd'
    obtain ⟨rfl, rfl⟩ := Prod.mk.inj hx
    obtain ⟨x, hx1, hx2⟩ := h enc W fuel cs xs (by rw [List.mapM_map]; exact hxs) (fun n hn => hw n (by
      simp only [DataW.weights, hu]
      have e : (fs.toList.map fun f => (f.type, f.offset)).map (·.1) = fs.toList.map (·.type) := by simp [List.map_map, Function.comp_def]
      rw [e] at hn
      exact hn)) (by rw [hlen, hC]; omega)
    exact ⟨x, by simpa using hx1, hx2⟩
theorem weightsEach_same {H : Type} {P : Program} {e : TypeId} : ∀ (n : Nat) (l : List (DataW H)) (q : Nat), q ∈ DataW.weightsEach P (List.replicate n e) l → q ∈ DataW.weightsAll P e l
  | 0, l, q, h => by simp [DataW.weightsEach] at h
  | n + 1, [], q, h => by simp [List.replicate_succ, DataW.weightsEach] at h
  | n + 1, d :: r, q, h => by
    rw [List.replicate_succ, DataW.weightsEach] at h
    rw [DataW.weightsAll]
    rcases List.mem_append.1 h with h | h
    · exact List.mem_append.2 (.inl h)
    · exact List.mem_append.2 (.inr (weightsEach_same n r q h))
theorem opens_array {α : Type} {P : Program} {t e : TypeId} {n : Nat} {l : List (TypeId × Nat)} {k : Kd α} {G : α → Prop} (hu : P.underlying t = some (.array n e)) (hl : (List.range n).map (fun i => (e, i * P.cellsOf e)) = l) (hC : P.cellsOf t = k.sz) (h : OpensF P l 0 k G) : Opens P t k G := by
  intro H enc W fuel cs d ps hd hw
  subst hl
  cases fuel with
  | zero => cases hd
  | succ fuel =>
    have hd' : (if cs.length = P.cellsOf t then ((List.range n).mapM fun i => DataW.trod enc P W 0 (fun _ => true) true fuel e ((cs.drop (i * P.cellsOf e)).take (P.cellsOf e))).map fun xs => (DataW.agg (xs.map (·.1)), xs.flatMap (·.2)) else none) = some (d, ps) := by
      rw [← hd]
      simp only [DataW.trod, hu]
    split at hd'
    case isFalse => cases hd'
    case isTrue hlen =>
    obtain ⟨xs, hxs, hx⟩ := Option.map_eq_some_iff.1 hd'
    obtain ⟨rfl, rfl⟩ := Prod.mk.inj hx
    obtain ⟨x, hx1, hx2⟩ := h enc W fuel cs xs (by rw [List.mapM_map]; exact hxs) (fun q hn => hw q (by
      simp only [DataW.weights, hu]
      refine weightsEach_same n _ q ?_
      have e' : ((List.range n).map fun i => (e, i * P.cellsOf e)).map (·.1) = List.replicate n e := by
        rw [List.map_map]
        exact List.map_const' .. |>.trans (by simp)
      rw [e'] at hn
      exact hn)) (by rw [hlen, hC]; omega)
    exact ⟨x, by simpa using hx1, hx2⟩
theorem opens_iso {α β : Type} {P : Program} {t : TypeId} {k : Kd α} {G : α → Prop} (f : β → α) (g : α → β) (hfg : ∀ x, f (g x) = x) (h : Opens P t k G) : Opens P t (Kd.iso k f) (fun y => G (f y)) := by
  intro H enc W fuel cs d ps hd hw
  obtain ⟨x, hx1, hx2⟩ := h enc W fuel cs d ps hd hw
  refine ⟨g x, ?_, ?_⟩
  · show k.K W (f (g x)) cs
    rw [hfg]
    exact hx1
  · show G (f (g x))
    rw [hfg]
    exact hx2
/-- An argument. -/
theorem opened {α : Type} {P : Program} {t : TypeId} {k : Kd α} {G : α → Prop} (ho : Opens P t k G) {H : Type} {enc : TypeId × Value → H} {W : World} {v : Value} {d : DataW H} {ps : List MemPlace} (h : DataW.Trod enc P W 0 (fun _ => true) true t v d ps)
    {ts : List TypeId} {ds : List (DataW H)} (hsz : (DataW.weightsEach P ts ds).all (· ≤ reachBytes) = true) (hin : ∀ n ∈ d.weights P t, n ∈ DataW.weightsEach P ts ds) : ∃ x : α, k.K W x v.cells.toList ∧ G x := by
  obtain ⟨fuel, hf⟩ := h
  refine ho enc W fuel _ d ps hf (fun n hn => ?_)
  have := List.all_eq_true.1 hsz n (hin n hn)
  exact of_decide_eq_true this
theorem agg_of {P : Program} {w : World} {r : Reach} {base : Nat} {t : TypeId} {fs : Array Field} {v : Value} {cs : List Value} (ht : P.underlying t = some (.struct fs)) (h : Value.okWide P w r base t v) (hc : v.cells.toList = cs) : v = .agg cs.toArray := by
  obtain ⟨xs, rfl, _⟩ := okWide_struct ht h
  subst hc
  simp [Value.cells]
end Go.Proofs.Ytjdjgabahkcjeaa.RowLib
