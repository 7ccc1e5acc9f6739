/- The framework, part 9: one operation of a region, guards and all; a state behind it. -/
import Derived.Test.YtnleiflijccefaaFw9a
set_option linter.all false
set_option linter.unusedSectionVars false
set_option linter.unusedSimpArgs false
namespace Go.Fw

theorem ChunkRel.mono {φ φ' : Place} {R R' : Prot} {w w' : World} {id : Nat} {c : Chunk} (h : ChunkRel φ R w id c) (hid : φ' id = φ id)
    (hn : ∀ cs j, c = .box cs → AV.hasAny j cs = true → φ' j = φ j) (hR : ∀ b o, R b o → R' b o) (hk : ∀ b o, R b o → w'.cell? ⟨b, o, none⟩ = w.cell? ⟨b, o, none⟩)
    (hb : ∀ b cap, φ id = some (b, cap) → b < w.heap.size → w'.heap[b]? = w.heap[b]? ∧ ∀ o, R' b o → R b o) : ChunkRel φ' R' w' id c := by
  cases c with
  | box cs =>
    obtain ⟨b, cap, vs, e, fr, h1, h2, h3, h4, h5⟩ := h
    have hlt : b < w.heap.size := (Array.getElem?_eq_some_iff.1 h2).1
    obtain ⟨hb1, hb2⟩ := hb b cap h1 hlt
    exact ⟨b, cap, vs, e, fr, by rw [hid, h1], by rw [hb1, h2], RepVs.mono hR hk (fun j hj => hn cs j rfl hj) h3, fun o h => h4 o (hb2 o h), h5⟩
  | arr t xs =>
    rcases h with ⟨h1, h2⟩ | ⟨b, cap, vs, e, fr, h1, h2, h3, h4, h5, h6, h7⟩
    · exact .inl ⟨by rw [hid, h1], h2⟩
    · have hlt : b < w.heap.size := (Array.getElem?_eq_some_iff.1 h2).1
      obtain ⟨hb1, hb2⟩ := hb b cap h1 hlt
      exact .inr ⟨b, cap, vs, e, fr, by rw [hid, h1], by rw [hb1, h2], h3, h4, fun i hi => Rep.mono hR hk (h5 i hi), fun o h => h6 o (hb2 o h), h7⟩

theorem ChunkRel.block {φ : Place} {R : Prot} {w : World} {id : Nat} {c : Chunk} (h : ChunkRel φ R w id c) {b cap : Nat} (hp : φ id = some (b, cap)) : b < w.heap.size ∧ ∀ o, ¬ R b o := by
  cases c with
  | box cs =>
    obtain ⟨b', cap', vs, e, fr, h1, h2, h3, h4, h5⟩ := h
    rw [hp] at h1
    simp only [Option.some.injEq, Prod.mk.injEq] at h1
    obtain ⟨rfl, rfl⟩ := h1
    exact ⟨(Array.getElem?_eq_some_iff.1 h2).1, h4⟩
  | arr t xs =>
    rcases h with ⟨h1, h2⟩ | ⟨b', cap', vs, e, fr, h1, h2, h3, h4, h5, h6, h7⟩
    · rw [hp] at h1; simp at h1
    · rw [hp] at h1
      simp only [Option.some.injEq, Prod.mk.injEq] at h1
      obtain ⟨rfl, rfl⟩ := h1
      exact ⟨(Array.getElem?_eq_some_iff.1 h2).1, h6⟩

abbrev Upd := List (Nat × List AV × Option (List AV))
def newCells (old : List AV) : Option (List AV) → List AV
  | some n => n
  | none => old
def applyU (H : Heap) : Upd → Heap
  | [] => H
  | (j, old, n) :: r => fun k => if k = j then some (.box (newCells old n)) else applyU H r k
def updOK (H : Heap) : Upd → Prop
  | [] => True
  | (j, old, _) :: r => H j = some (.box old) ∧ updOK H r
def Upd.owns (φ : Place) (u : Upd) (b : Nat) : Prop := ∃ x ∈ u, ∃ cap, φ x.1 = some (b, cap)

theorem updOK.get {H : Heap} : ∀ {u : Upd}, updOK H u → ∀ x ∈ u, H x.1 = some (.box x.2.1)
  | [], _, x, hx => by simp at hx
  | (j, old, n) :: r, h, x, hx => by
    rcases List.mem_cons.1 hx with rfl | hx
    · exact h.1
    · exact updOK.get h.2 x hx
theorem applyU_none {H : Heap} : ∀ {u : Upd} {k : Nat}, (∀ x ∈ u, x.1 ≠ k) → applyU H u k = H k
  | [], _, _ => rfl
  | (j, old, n) :: r, k, h => by
    simp only [applyU]
    rw [if_neg (fun e => h _ (List.mem_cons_self ..) e.symm)]
    exact applyU_none (fun x hx => h x (List.mem_cons_of_mem _ hx))
theorem applyU_inv {H : Heap} : ∀ {u : Upd} {k : Nat} {c : Chunk}, applyU H u k = some c → (∃ x ∈ u, x.1 = k ∧ c = .box (newCells x.2.1 x.2.2)) ∨ ((∀ x ∈ u, x.1 ≠ k) ∧ H k = some c)
  | [], _, _, h => .inr ⟨fun x hx => by simp at hx, h⟩
  | (j, old, n) :: r, k, c, h => by
    simp only [applyU] at h
    split at h
    · rename_i e
      simp only [Option.some.injEq] at h
      exact .inl ⟨_, List.mem_cons_self .., e.symm, h.symm⟩
    · rename_i e
      rcases applyU_inv h with ⟨x, hx, h1⟩ | ⟨h1, h2⟩
      · exact .inl ⟨x, List.mem_cons_of_mem _ hx, h1⟩
      · exact .inr ⟨fun x hx => by rcases List.mem_cons.1 hx with rfl | hx; exact fun h => e h.symm; exact h1 x hx, h2⟩
theorem applyU_some {H : Heap} : ∀ {u : Upd} {k : Nat} {c : Chunk}, H k = some c → ∃ c', applyU H u k = some c'
  | [], _, c, h => ⟨c, h⟩
  | (j, old, n) :: r, k, c, h => by
    simp only [applyU]
    split
    · exact ⟨_, rfl⟩
    · exact applyU_some h

structure StepU (φ : Place) (R : Prot) (w : World) (upd : Upd) (id : Nat) (c : Option Chunk) (φ' : Place) (R' : Prot) (w' : World) : Prop where
  evo : Evo R (Upd.owns φ upd) w R' (fun b => Upd.owns φ upd b ∨ (c.isSome = true ∧ ∃ cap, φ' id = some (b, cap))) w'
  rb : RB R' w'
  place : ∀ j, j ≠ id → φ' j = φ j
  chunk : ∀ ch, c = some ch → ChunkRel φ' R' w' id ch ∧ ∀ b cap, φ' id = some (b, cap) → w.heap.size ≤ b
  upds : ∀ x ∈ upd, ChunkRel φ' R' w' x.1 (.box (newCells x.2.1 x.2.2))

theorem StepTo.toU {φ : Place} {R : Prot} {w : World} {id : Nat} {c : Option Chunk} {φ' : Place} {R' : Prot} {w' : World} (h : StepTo φ R w id c φ' R' w') : StepU φ R w [] id c φ' R' w' :=
  ⟨⟨h.evo.os, h.evo.tape, h.evo.output, h.evo.size, fun b hb _ => h.evo.keep b hb (fun h => h), h.evo.rmono, h.evo.rkeep, fun b o hr => by
      rcases h.evo.rnew b o hr with h1 | h1 | h1
      · exact .inl h1
      · exact .inr (.inl h1)
      · exact h1.elim, fun b hb => by
      rcases hb with ⟨x, hx, _⟩ | hb
      · simp at hx
      · rcases h.evo.onew b hb with h1 | h1
        · exact .inl h1
        · exact h1.elim⟩, h.rb, h.place, h.chunk, fun x hx => by simp at hx⟩

def addC (H : Heap) (id : Nat) (c : Option Chunk) : Heap := fun j => if j = id then (match c with | some ch => some ch | none => H j) else H j
def setE (E : Nat → AV) (dst : Option Nat) (v : AV) : Nat → AV := fun t => if dst = some t then v else E t

theorem SatF.step {R : Prot} {φ : Place} {n next : Nat} {E : Nat → AV} {H : Heap} {gl : Gl} {a : Act} {w : World} (h : SatF R φ n next E H gl a w) {id : Nat} (hfresh : H id = none)
    {next' : Nat} (hnx : id < next') (hle : next ≤ next') {upd : Upd} (hu : updOK H upd)
    {c : Option Chunk} {φ' : Place} {R' : Prot} {w' : World} (hs : StepU φ R w upd id c φ' R' w') {v : AV} {u : Value} (hv : RepV φ' R' w' v u) (dst : Option Nat) (hd : ∀ d, dst = some d → d < n)
    (hn1 : ∀ j, v.has j = true → (∃ ch, H j = some ch) ∨ (j = id ∧ c.isSome = true)) (hn2 : ∀ cs j, c = some (.box cs) → AV.hasAny j cs = true → ∃ ch, H j = some ch)
    (hn3 : ∀ x ∈ upd, ∀ j, AV.hasAny j (newCells x.2.1 x.2.2) = true → ∃ ch, H j = some ch) :
    SatF R' φ' n next' (setE E dst v) (addC (applyU H upd) id c) gl (a.put dst u) w' ∧ Evo R (Owns φ H) w R' (Owns φ' (addC (applyU H upd) id c)) w' := by
  have hne : ∀ j ch, H j = some ch → j ≠ id := fun j ch hj e => by subst e; rw [hfresh] at hj; simp at hj
  have hug := hu.get
  have hadd : ∀ j ch, H j = some ch → ∃ ch', addC (applyU H upd) id c j = some ch' := fun j ch hj => by
    obtain ⟨ch', h'⟩ := applyU_some (u := upd) hj
    exact ⟨ch', by simp [addC, hne j ch hj, h']⟩
  have hinv : ∀ j ch, addC (applyU H upd) id c j = some ch → (j = id ∧ c = some ch) ∨ (j ≠ id ∧ applyU H upd j = some ch) := by
    intro j ch hj
    unfold addC at hj
    by_cases e : j = id
    · rw [if_pos e] at hj
      cases c with
      | some ch' => simp at hj; exact .inl ⟨e, by rw [hj]⟩
      | none =>
        simp at hj
        rcases applyU_inv hj with ⟨x, hx, h1, _⟩ | ⟨_, h2⟩
        · have := hug x hx
          rw [h1, e, hfresh] at this
          simp at this
        · rw [e, hfresh] at h2; simp at h2
    · rw [if_neg e] at hj; exact .inr ⟨e, hj⟩
  have hold : ∀ j ch b cap, H j = some ch → φ j = some (b, cap) → b < w.heap.size := fun j ch b cap hj hp => ((h.heap.rel j ch hj).block hp).1
  have happ : ∀ j ch, applyU H upd j = some ch → ∃ ch', H j = some ch' := fun j ch hj => by
    rcases applyU_inv hj with ⟨x, hx, h1, _⟩ | ⟨_, h2⟩
    · exact ⟨_, h1 ▸ hug x hx⟩
    · exact ⟨_, h2⟩
  have hnot : ∀ j ch b cap, H j = some ch → (∀ x ∈ upd, x.1 ≠ j) → φ j = some (b, cap) → ¬ Upd.owns φ upd b := by
    rintro j ch b cap hj hx hp ⟨x, hxm, cap', hp'⟩
    exact hx x hxm (h.heap.inj x.1 j _ _ b cap' cap (hug x hxm) hj hp' hp)
  refine ⟨⟨fun t => ?_, fun t j hj => ?_, fun j cs k hj hk => ?_, fun j ch hj => ?_, ?_, ⟨fun j ch hj => ?_, fun j j' ch ch' b cap cap' hj hj' hp hp' => ?_⟩, hs.rb, ?_, fun g cs hg => ?_⟩, ?_⟩
  · rw [getD_put a dst u t (fun d hd' => by rw [h.sz]; exact hd d hd')]
    unfold setE
    split
    · exact hv
    · exact RepV.mono hs.evo.rmono hs.evo.rkeep (fun j hj => by
        obtain ⟨ch, hch⟩ := h.named t j hj
        exact hs.place j (hne j ch hch)) (h.env t)
  · unfold setE at hj
    split at hj
    · rcases hn1 j hj with ⟨ch, hch⟩ | ⟨rfl, hc⟩
      · exact hadd j ch hch
      · obtain ⟨ch, rfl⟩ := Option.isSome_iff_exists.1 hc
        exact ⟨ch, by simp [addC]⟩
    · obtain ⟨ch, hch⟩ := h.named t j hj
      exact hadd j ch hch
  · rcases hinv j _ hj with ⟨rfl, hc⟩ | ⟨_, hj⟩
    · obtain ⟨ch, hch⟩ := hn2 cs k hc hk
      exact hadd k ch hch
    · rcases applyU_inv hj with ⟨x, hx, _, h1⟩ | ⟨_, hj⟩
      · simp only [Chunk.box.injEq] at h1
        obtain ⟨ch, hch⟩ := hn3 x hx k (by rw [← h1]; exact hk)
        exact hadd k ch hch
      · obtain ⟨ch, hch⟩ := h.hnamed j cs k hj hk
        exact hadd k ch hch
  · rcases hinv j _ hj with ⟨rfl, _⟩ | ⟨_, hj⟩
    · exact hnx
    · obtain ⟨ch', hj⟩ := happ j ch hj
      have := h.hnext j ch' hj; omega
  · cases dst <;> simp [Act.put, h.sz]
  · rcases hinv j _ hj with ⟨rfl, hc⟩ | ⟨hji, hj⟩
    · exact (hs.chunk ch hc).1
    · rcases applyU_inv hj with ⟨x, hx, rfl, h1⟩ | ⟨hnu, hj⟩
      · rw [h1]; exact hs.upds x hx
      · exact (h.heap.rel j ch hj).mono (hs.place j hji) (fun cs k hcs hk => by
          subst hcs
          obtain ⟨ch', hch'⟩ := h.hnamed j cs k hj hk
          exact hs.place k (hne k ch' hch')) hs.evo.rmono hs.evo.rkeep (fun b cap hp hlt => ⟨hs.evo.keep b hlt (hnot j ch b cap hj hnu hp), fun o hr => by
            rcases hs.evo.rnew b o hr with h1 | h1 | h1
            · exact h1
            · omega
            · exact absurd h1 (hnot j ch b cap hj hnu hp)⟩)
  · rcases hinv j _ hj with ⟨e1, hc⟩ | ⟨hji, hj2⟩
    · rcases hinv j' _ hj' with ⟨e2, hc'⟩ | ⟨hji', hj2'⟩
      · rw [e1, e2]
      · rw [e1] at hp
        have h1 := (hs.chunk ch hc).2 b cap hp
        rw [hs.place j' hji'] at hp'
        obtain ⟨ch2, hj2'⟩ := happ j' ch' hj2'
        have := hold j' ch2 b cap' hj2' hp'
        omega
    · rw [hs.place j hji] at hp
      obtain ⟨ch1, hj2⟩ := happ j ch hj2
      rcases hinv j' _ hj' with ⟨e2, hc'⟩ | ⟨hji', hj2'⟩
      · rw [e2] at hp'
        have h1 := (hs.chunk ch' hc').2 b cap' hp'
        have := hold j ch1 b cap hj2 hp
        omega
      · rw [hs.place j' hji'] at hp'
        obtain ⟨ch2, hj2'⟩ := happ j' ch' hj2'
        exact h.heap.inj j j' ch1 ch2 b cap cap' hj2 hj2' hp hp'
  · cases dst <;> simpa [Act.put] using h.defers
  · have := h.gl g cs hg
    refine ⟨RepV.mono hs.evo.rmono hs.evo.rkeep (fun j hj => ?_) this.1, this.2⟩
    simp only [AV.has] at hj
    rw [this.2 j] at hj
    simp at hj
  · have hsub : ∀ b, Upd.owns φ upd b → Owns φ H b := fun b ⟨x, hx, cap, hp⟩ => ⟨x.1, _, cap, hug x hx, hp⟩
    refine ⟨hs.evo.os, hs.evo.tape, hs.evo.output, hs.evo.size, fun b hb ho => hs.evo.keep b hb (fun h => ho (hsub b h)), hs.evo.rmono, hs.evo.rkeep, fun b o hr => ?_, fun b hb => ?_⟩
    · rcases hs.evo.rnew b o hr with h1 | h1 | h1
      · exact .inl h1
      · exact .inr (.inl h1)
      · exact .inr (.inr (hsub b h1))
    · obtain ⟨j, ch, cap, hj, hp⟩ := hb
      rcases hinv j _ hj with ⟨rfl, hc⟩ | ⟨hji, hj⟩
      · exact .inl ((hs.chunk ch hc).2 b cap hp)
      · rw [hs.place j hji] at hp
        obtain ⟨ch', hj⟩ := happ j ch hj
        exact .inr ⟨j, ch', cap, hj, hp⟩

/-! ### guards -/
def okP : AV → Prop
  | .maybe g _ => g = true
  | _ => True
theorem needs_iff {v : AV} {p : Prop} (h : needs v p) : okP v ∧ p := by
  cases v <;> simp_all [needs, okP]
theorem needsAll_iff {p : Prop} : ∀ {vs : List AV}, needsAll vs p → (∀ v ∈ vs, okP v) ∧ p
  | [], h => ⟨fun _ h => by simp at h, h⟩
  | v :: vs, h => by
    obtain ⟨h1, h2⟩ := needs_iff h
    obtain ⟨h3, h4⟩ := needsAll_iff h2
    exact ⟨fun u hu => by rcases List.mem_cons.1 hu with rfl | hu; exact h1; exact h3 u hu, h4⟩
theorem RepV.un {φ : Place} {R : Prot} {w : World} {v : AV} {u : Value} (h : RepV φ R w v u) (hk : okP v) : RepV φ R w v.un u := by
  cases v <;> simp_all [AV.un, okP]
  simp only [RepV] at h
  exact h.1 trivial
theorem un_has {v : AV} (id : Nat) (hk : okP v) : v.un.has id = v.has id := by cases v <;> simp_all [AV.un, AV.has, okP]

def gd (b want : Bool) : Bool := match want with | true => b | false => !b
def gOf (ops : Array Oper) (ev : Operand → AV) (g : Nat × Bool) : Option Bool :=
  match (ops[g.1]?).bind (·.dst) with
  | some t => match ev (.tmp t) with
    | .bool b => some (gd b g.2)
    | .maybe c (.bool b) => some (c && gd b g.2)
    | _ => none
  | none => none

theorem gOf_sound {φ : Place} {R : Prot} {w : World} {ops : Array Oper} {ev : Operand → AV} {g : Nat × Bool} {b : Bool} (h : gOf ops ev g = some b) (a : Act)
    (hr : ∀ t, (ops[g.1]?).bind (·.dst) = some t → RepV φ R w (ev (.tmp t)) (a.tmps.getD t undef)) (o : Oper) (ho : o.guard = some g) :
    Region.wanted o (yielded ops a.tmps) = b := by
  unfold gOf at h
  split at h
  · rename_i t ht
    have hv := hr t ht
    have key : ∀ x, a.tmps.getD t undef = .bool x → yielded ops a.tmps g.1 = some x := by
      intro x hx
      unfold yielded
      rw [ht]
      simp only [Option.bind_some]
      rw [Array.getD_eq_getD_getElem?] at hx
      cases hh : a.tmps[t]? with
      | none => simp [hh, undef] at hx
      | some y => simp [hh] at hx; simp [hx]
    have key2 : a.tmps.getD t undef = undef → yielded ops a.tmps g.1 = none := by
      intro hx
      unfold yielded
      rw [ht]
      simp only [Option.bind_some]
      rw [Array.getD_eq_getD_getElem?] at hx
      cases hh : a.tmps[t]? with
      | none => rfl
      | some y => simp [hh] at hx; simp [hx, undef]
    split at h
    · rename_i x hx
      rw [hx] at hv
      simp only [RepV] at hv
      simp only [Option.some.injEq] at h
      subst h
      unfold Region.wanted
      have hk := key x hv
      obtain ⟨j, want⟩ := g
      simp only at hk
      simp only [ho, hk]
      cases x <;> cases want <;> rfl
    · rename_i c x hx
      rw [hx] at hv
      simp only [RepV] at hv
      simp only [Option.some.injEq] at h
      subst h
      unfold Region.wanted
      cases c with
      | true =>
        have hk := key x (hv.1 rfl)
        obtain ⟨j, want⟩ := g
        simp only at hk
        simp only [ho, hk]
        cases x <;> cases want <;> rfl
      | false =>
        have hk := key2 (hv.2 rfl)
        obtain ⟨j, want⟩ := g
        simp only at hk
        simp only [ho, hk]
        rfl
    · simp at h
  · simp at h

theorem pick_rep {φ : Place} {R : Prot} {w : World} {c : Bool} {x y : AV} {u v : Value} (hx : c = true → RepV φ R w x u) (hy : c = false → RepV φ R w y v) : RepV φ R w (AV.pick c x y) (if c = true then u else v) := by
  unfold AV.pick
  split
  · cases c <;> simp_all [RepV]
  · split
    · rename_i hk; subst hk
      cases c <;> simp_all [RepV]
    · simp [RepV]
  · cases c <;> simp_all [RepV]
  · simp [RepV]
theorem pick_has (c : Bool) (x y : AV) (id : Nat) : (AV.pick c x y).has id = false := by
  unfold AV.pick
  split
  · simp [AV.has]
  · split <;> simp [AV.has]
  · simp [AV.has]
  · simp [AV.has]

mutual
def AV.ids : AV → List Nat
  | .loc id _ => [id]
  | .own id _ => [id]
  | .eloc id _ _ _ => [id]
  | .agg cs => AV.idsL cs
  | .tup cs => AV.idsL cs
  | .rop cs _ => AV.idsL cs
  | .fn _ cs => AV.idsL cs
  | .maybe _ a => AV.ids a
  | _ => []
def AV.idsL : List AV → List Nat
  | [] => []
  | a :: as => AV.ids a ++ AV.idsL as
end
mutual
theorem AV.has_ids {id : Nat} : ∀ {a : AV}, a.has id = true → id ∈ a.ids
  | .any, h => by simp [AV.has] at h
  | .bool _, h => by simp [AV.has] at h
  | .int _ _, h => by simp [AV.has] at h
  | .str _, h => by simp [AV.has] at h
  | .list _ _, h => by simp [AV.has] at h
  | .agg cs, h => by simp only [AV.has] at h; simpa [AV.ids] using AV.hasAny_ids h
  | .tup cs, h => by simp only [AV.has] at h; simpa [AV.ids] using AV.hasAny_ids h
  | .rop cs _, h => by simp only [AV.has] at h; simpa [AV.ids] using AV.hasAny_ids h
  | .loc j _, h => by simp only [AV.has, beq_iff_eq] at h; simp [AV.ids, h]
  | .own j _, h => by simp only [AV.has, beq_iff_eq] at h; simp [AV.ids, h]
  | .eloc j _ _ _, h => by simp only [AV.has, beq_iff_eq] at h; simp [AV.ids, h]
  | .nilp, h => by simp [AV.has] at h
  | .nils, h => by simp [AV.has] at h
  | .nilf, h => by simp [AV.has] at h
  | .fn _ cs, h => by simp only [AV.has] at h; simpa [AV.ids] using AV.hasAny_ids h
  | .maybe g a, h => by simp only [AV.has, Bool.and_eq_true] at h; simpa [AV.ids] using AV.has_ids h.2
  | .ub _ _, h => by simp [AV.has] at h
theorem AV.hasAny_ids {id : Nat} : ∀ {as : List AV}, AV.hasAny id as = true → id ∈ AV.idsL as
  | [], h => by simp [AV.hasAny] at h
  | a :: as, h => by
    simp only [AV.hasAny, Bool.or_eq_true] at h
    simp only [AV.idsL, List.mem_append]
    exact h.imp AV.has_ids AV.hasAny_ids
end

def keysOK : Upd → Bool
  | [] => true
  | x :: r => !(r.any fun y => y.1 == x.1) && keysOK r
def allIn (l : List Nat) (u : Upd) : Bool := keysOK u && l.all fun j => u.any fun x => x.1 == j
/-- The chunks as an update finds them. -/
def Upd.old (u : Upd) : Upd := u.map fun x => (x.1, x.2.1, none)
/-- A contract of a function that reads or changes some chunks of cells. -/
def CSpec (P : Program) (gl : Gl) (f : FuncId) (args : List AV) (upd : Upd) (ret : AV) : Prop := FSpec P gl f args (applyU noHeap upd.old) ret (applyU noHeap upd)

def updIds (u : Upd) : List Nat := u.flatMap fun x => AV.idsL (newCells x.2.1 x.2.2)

/-- A store into cells. -/
def storeU (T : Tab) (lk : Heap) (t : TypeId) (a x : AV) (K : AV → Upd → Option Chunk → Prop) : Prop :=
  match a, x.cells, tget T t with
  | .loc id off, some us, some e => match lk id with
    | some (.box cs) => match Nat.beq us.length e.size, Nat.ble (off + e.size) cs.length, us.all AV.one with
      | true, true, true => K .any [(id, cs, some (cs.take off ++ us ++ cs.drop (off + e.size)))] none
      | _, _, _ => False
    | _ => False
  | _, _, _ => False

/-- An operation without its guard. -/
def opU (P : Program) (T : Tab) (gl : Gl) (lk : Heap) (ev : Operand → AV) (id : Nat) (op : Op) (K : AV → Upd → Option Chunk → Prop) : Prop :=
  match op with
  | .pick c a b => match (ev c).un with
    | .bool cb => needs (ev c) (((cb = true → okP (ev a)) ∧ (cb = false → okP (ev b))) ∧ K (AV.pick cb (ev a).un (ev b).un) [] none)
    | _ => False
  | .store t a x => needs (ev a) (needs (ev x) (storeU T lk t (ev a).un (ev x).un K))
  | .call ⟨.value f, args, ats⟩ => needsAll ((Op.call ⟨.value f, args, ats⟩).operands.toList.map ev) (floV P T gl lk (fun x => (ev x).un) id (.call ⟨.value f, args, ats⟩) (fun v c => K v [] c) ∨
      match (ev f).un with
      | .fn g caps => (∃ upd ret, updOK lk upd ∧ CSpec P gl g (args.toList.map (fun x => (ev x).un) ++ caps) upd ret ∧ allIn (ret.ids ++ updIds upd) upd = true ∧ K ret upd none) ∨
          ∃ cs, (∀ j, AV.hasAny j cs = false) ∧ NSpec P gl g (args.toList.map (fun x => (ev x).un) ++ caps) cs ∧ K (.loc id 0) [] (some (.box cs))
      | _ => False)
  | .call ⟨.builtin .append, ⟨[s, x]⟩, ⟨[ts, tx]⟩⟩ => needs (ev s) (needs (ev x) (match (ev s).un with
      | .nils => appNilV T lk id ts tx (ev x).un (fun v c => K v [] c)
      | _ => False))
  | op => needsAll (op.operands.toList.map ev) (floV P T gl lk (fun x => (ev x).un) id op (fun v c => K v [] c))

def opG (P : Program) (T : Tab) (ops : Array Oper) (gl : Gl) (lk : Heap) (ev : Operand → AV) (id : Nat) (o : Oper) (K : AV → Upd → Option Chunk → Prop) : Prop :=
  match o.guard with
  | none => opU P T gl lk ev id o.op K
  | some g => match gOf ops ev g with
    | some b => ∃ v upd, updOK lk upd ∧ upd.all (fun x => x.2.2.isNone) = true ∧ allIn (updIds upd) upd = true ∧ (b = true → opU P T gl lk ev id o.op (fun v' u' c' => v' = v ∧ u' = upd ∧ c' = none)) ∧ K (.maybe b v) upd none
    | none => False

/-- The slot that the guard looks at. -/
def guardSlot (ops : Array Oper) (o : Oper) (t : Nat) : Prop := ∃ g, o.guard = some g ∧ (ops[g.1]?).bind (·.dst) = some t

/-- What an operation may name. -/
def Named (o : Oper) (ev : Operand → AV) (lk : Heap) (upd : Upd) (j : Nat) : Prop := (∃ x ∈ o.op.operands, From lk (ev x) j) ∨ (∃ x ∈ upd, x.1 = j)

structure OpFact (P : Program) (gl : Gl) (ops : Array Oper) (o : Oper) (ev : Operand → AV) (lk : Heap) (id : Nat) (v : AV) (upd : Upd) (c : Option Chunk) : Prop where
  ok : updOK lk upd
  keys : keysOK upd = true
  run : ∀ φ R (a : Act) w, (∀ x ∈ o.op.operands, RepV φ R w (ev x) (a.eval x)) → (∀ t, guardSlot ops o t → RepV φ R w (ev (.tmp t)) (a.tmps.getD t undef)) →
    (∀ x ∈ o.op.operands, ChOK φ R w lk (ev x)) → HRel φ R w (applyU noHeap upd.old) → RB R w → GlOK gl φ R w → ∀ (next : Act → World → Prop) (Q : Exit → Act → World → Prop),
    (∀ φ' R' w' u, StepU φ R w upd id c φ' R' w' → RepV φ' R' w' v u → next (a.put o.dst u) w') →
    (if Region.wanted o (yielded ops a.tmps) = true then o.wp P a w next Q ∨ (o.asks P a w ∧ LetsOut Q) else next (a.put o.dst undef) w)
  names : ∀ j, v.has j = true → Named o ev lk upd j ∨ (j = id ∧ c.isSome = true)
  cnames : ∀ cs j, c = some (.box cs) → AV.hasAny j cs = true → Named o ev lk upd j
  unames : ∀ x ∈ upd, ∀ j, AV.hasAny j (newCells x.2.1 x.2.2) = true → Named o ev lk upd j

theorem old_get {upd : Upd} {k : Nat} {c : Chunk} (h : applyU noHeap upd.old k = some c) : ∃ x ∈ upd, x.1 = k ∧ c = .box x.2.1 := by
  rcases applyU_inv h with ⟨x, hx, h1, h2⟩ | ⟨_, h2⟩
  · obtain ⟨y, hy, rfl⟩ := List.mem_map.1 hx
    exact ⟨y, hy, h1, h2⟩
  · simp [noHeap] at h2
theorem old_mem {upd : Upd} {x : Nat × List AV × Option (List AV)} (hx : x ∈ upd) : ∃ c, applyU noHeap upd.old x.1 = some c := by
  induction upd with
  | nil => simp at hx
  | cons y r ih =>
    simp only [Upd.old, List.map_cons, applyU]
    by_cases e : x.1 = y.1
    · exact ⟨_, by rw [if_pos e]⟩
    · rw [if_neg e]
      rcases List.mem_cons.1 hx with rfl | hx
      · exact absurd rfl e
      · exact ih hx
theorem stepU_idle {φ : Place} {R : Prot} {w : World} {upd : Upd} {id : Nat} (hR : RB R w) (hall : upd.all (fun x => x.2.2.isNone) = true) (lk : Heap) (hok : updOK lk upd) (h : HRel φ R w (applyU noHeap upd.old)) :
    StepU φ R w upd id none φ R w where
  evo := ⟨rfl, rfl, rfl, Nat.le_refl _, fun _ _ _ => rfl, fun _ _ h => h, fun _ _ _ => rfl, fun _ _ h => .inl h, fun b h => .inr (by rcases h with h | h; exact h; simp at h)⟩
  rb := hR
  place _ _ := rfl
  chunk ch h := by simp at h
  upds x hx := by
    rw [List.all_eq_true] at hall
    have h1 : x.2.2 = none := by have := hall x hx; simpa using this
    obtain ⟨c, hc⟩ := old_mem hx
    obtain ⟨y, hy, h2, h3⟩ := old_get hc
    have h4 := hok.get x hx
    have h5 := hok.get y hy
    rw [h2, h4] at h5
    simp only [Option.some.injEq, Chunk.box.injEq] at h5
    rw [h1]
    have := h.rel _ _ hc
    rw [h3, ← h5] at this
    exact this

/-- An operation without a guard. -/
structure FloU (P : Program) (gl : Gl) (o : Oper) (ev : Operand → AV) (lk : Heap) (id : Nat) (v : AV) (upd : Upd) (c : Option Chunk) : Prop where
  ok : updOK lk upd
  keys : keysOK upd = true
  run : ∀ φ R (a : Act) w, (∀ x ∈ o.op.operands, RepV φ R w (ev x) (a.eval x)) →
    (∀ x ∈ o.op.operands, ChOK φ R w lk (ev x)) → HRel φ R w (applyU noHeap upd.old) → RB R w → GlOK gl φ R w → ∀ (next : Act → World → Prop) (Q : Exit → Act → World → Prop),
    (∀ φ' R' w' u, StepU φ R w upd id c φ' R' w' → RepV φ' R' w' v u → next (a.put o.dst u) w') → o.wp P a w next Q
  names : ∀ j, v.has j = true → Named o ev lk upd j ∨ (j = id ∧ c.isSome = true)
  cnames : ∀ cs j, c = some (.box cs) → AV.hasAny j cs = true → Named o ev lk upd j
  unames : ∀ x ∈ upd, ∀ j, AV.hasAny j (newCells x.2.1 x.2.2) = true → Named o ev lk upd j

def setBlk (w : World) (b : Nat) (o : Obj) : World := { heap := w.heap.setIfInBounds b o, tape := w.tape, drawn := w.drawn, os := w.os, output := w.output }
theorem setBlk_get {w : World} {b : Nat} {o : Obj} (h : b < w.heap.size) : (setBlk w b o).heap[b]? = some o := by simp [setBlk, h]
theorem setBlk_ne {w : World} {b k : Nat} {o : Obj} (h : b ≠ k) : (setBlk w b o).heap[k]? = w.heap[k]? := by simp [setBlk, Array.getElem?_setIfInBounds_ne h]
theorem setBlk_cell {w : World} {b k j : Nat} {o : Obj} (h : b ≠ k) : (setBlk w b o).cell? ⟨k, j, none⟩ = w.cell? ⟨k, j, none⟩ := by
  simp only [World.cell?, setBlk_ne h]
theorem setCell_blk {w : World} {b k : Nat} {vs : Array Value} {e : TypeId} {fr : Nat × Nat} {u : Value} (h : w.heap[b]? = some (.cells vs e fr)) :
    w.setCell ⟨b, k, none⟩ u = setBlk w b (.cells (vs.setIfInBounds k u) e fr) := by
  unfold World.setCell setBlk
  congr 1
  apply Array.ext_getElem?
  intro i
  simp only [Array.getElem?_modify, Array.getElem?_setIfInBounds]
  obtain ⟨hb, hg⟩ := Array.getElem?_eq_some_iff.1 h
  by_cases e : b = i
  · subst e
    simp [hb, hg]
  · simp [e]

theorem run_storeCells_blk {P : Program} {b off : Nat} {e : TypeId} {fr : Nat × Nat} : ∀ (us : List Value) (i : Nat) (vs : Array Value) (w : World), w.heap[b]? = some (.cells vs e fr) → off + i + us.length ≤ vs.size →
    NoFr fr vs.size → (∀ u ∈ us, u.oneCell' = true) → ∃ vs' : Array Value, vs'.toList = vs.toList.take (off + i) ++ us ++ vs.toList.drop (off + i + us.length) ∧
      (storeCells ⟨b, off, none⟩ us i).run P w = .ok () (setBlk w b (.cells vs' e fr))
  | [], i, vs, w, h, hl, hf, h1 => by
    refine ⟨vs, by simp, ?_⟩
    simp only [storeCells, Sem.run_pure]
    congr 1
    obtain ⟨hb, hg⟩ := Array.getElem?_eq_some_iff.1 h
    unfold setBlk
    have : w.heap.setIfInBounds b (.cells vs e fr) = w.heap := by
      apply Array.ext_getElem?
      intro j
      simp only [Array.getElem?_setIfInBounds]
      split
      · rename_i hbj; subst hbj; first | exact h.symm | (rw [if_pos hb, h])
      · rfl
    rw [this]
  | u :: us, i, vs, w, h, hl, hf, h1 => by
    simp only [List.length_cons] at hl
    have hlt : b < w.heap.size := (Array.getElem?_eq_some_iff.1 h).1
    have hk : off + i < vs.size := by omega
    have hc : w.cell? ⟨b, off + i, none⟩ = some vs[off + i] := by simp [World.cell?, h, hk]
    have hfz : w.frozen? ⟨b, off + i, none⟩ = false := by
      have := hf (off + i) hk
      simp only [World.frozen?, h]
      simp only [Bool.and_eq_false_iff, decide_eq_false_iff_not]
      omega
    obtain ⟨vs', hv, hr⟩ := run_storeCells_blk (P := P) (b := b) (off := off) (e := e) (fr := fr) us (i + 1) (vs.setIfInBounds (off + i) u) (setBlk w b (.cells (vs.setIfInBounds (off + i) u) e fr)) (setBlk_get hlt) (by simp; omega) (by simpa using hf) (fun x hx => h1 x (List.mem_cons_of_mem _ hx))
    refine ⟨vs', ?_, ?_⟩
    · rw [hv]
      have hll : off + i < vs.toList.length := by simpa using hk
      simp only [Array.toList_setIfInBounds, List.length_cons]
      rw [show off + (i + 1) = off + i + 1 by omega, show off + i + 1 + us.length = off + i + (us.length + 1) by omega]
      rw [List.take_add_one, List.take_set_of_le (Nat.le_refl _), List.getElem?_set_self hll, List.drop_set_of_lt (by omega)]
      simp
    · simp only [storeCells, Sem.run_bind, Addr.add_lit]
      rw [run_store P w _ u _ (h1 u (List.mem_cons_self ..)), hc]
      simp only [hfz, Bool.false_eq_true, if_false, Result.andThen_ok, setCell_blk h]
      rw [hr]
      congr 1
      unfold setBlk
      simp

/-- A write into an owned block. -/
theorem stepU_write {φ : Place} {R : Prot} {w : World} {id j : Nat} {old new : List AV} {b cap : Nat} {vs vs' : Array Value} {e : TypeId} {fr : Nat × Nat} (hR : RB R w) (hp : φ j = some (b, cap))
    (hb : w.heap[b]? = some (.cells vs e fr)) (hnR : ∀ o, ¬ R b o) (hnf : NoFr fr vs'.size) (hnew : RepVs φ R w new vs'.toList) :
    StepU φ R w [(j, old, some new)] id none φ R (setBlk w b (.cells vs' e fr)) := by
  have hlt : b < w.heap.size := (Array.getElem?_eq_some_iff.1 hb).1
  have hcell : ∀ k o, R k o → (setBlk w b (.cells vs' e fr)).cell? ⟨k, o, none⟩ = w.cell? ⟨k, o, none⟩ := fun k o hr => setBlk_cell (fun h => by subst h; exact hnR o hr)
  refine ⟨⟨rfl, rfl, rfl, by simp [setBlk], fun k hk ho => setBlk_ne (fun h => ho ⟨_, List.mem_cons_self .., cap, h ▸ hp⟩), fun _ _ h => h, hcell, fun _ _ h => .inl h, fun k h => ?_⟩, fun k o h => by have := hR k o h; simpa [setBlk] using this, fun _ _ => rfl, fun _ h => by simp at h, fun x hx => ?_⟩
  · rcases h with h | h
    · exact .inr h
    · simp at h
  · simp only [List.mem_singleton] at hx
    subst hx
    exact ⟨b, cap, vs', e, fr, hp, setBlk_get hlt, RepVs.mono (fun _ _ h => h) hcell (fun _ _ => rfl) hnew, hnR, hnf⟩

theorem allIn_keys {l : List Nat} {u : Upd} (h : allIn l u = true) : keysOK u = true := by
  unfold allIn at h
  rw [Bool.and_eq_true] at h
  exact h.1
theorem allIn_mem {l : List Nat} {u : Upd} (h : allIn l u = true) {j : Nat} (hj : j ∈ l) : ∃ x ∈ u, x.1 = j := by
  unfold allIn at h
  rw [Bool.and_eq_true] at h
  have h := h.2
  rw [List.all_eq_true] at h
  have := h j hj
  rw [List.any_eq_true] at this
  obtain ⟨x, hx, h1⟩ := this
  exact ⟨x, hx, by simpa using h1⟩

theorem keysOK_get {H : Heap} : ∀ {u : Upd}, keysOK u = true → ∀ x ∈ u, applyU H u x.1 = some (.box (newCells x.2.1 x.2.2))
  | [], _, x, hx => by simp at hx
  | y :: r, h, x, hx => by
    obtain ⟨j, old, n⟩ := y
    simp only [keysOK, Bool.and_eq_true, Bool.not_eq_true'] at h
    simp only [applyU]
    rcases List.mem_cons.1 hx with rfl | hx
    · rw [if_pos rfl]
    · have : ¬ x.1 = j := fun e => by
        have h1 := h.1
        rw [List.any_eq_false] at h1
        exact h1 x hx (by simp [e])
      rw [if_neg this]
      exact keysOK_get h.2 x hx

section
variable {P : Program} {T : Tab} (hT : tabOK P T = true)
include hT

omit hT in
theorem Flo.toU {gl : Gl} {lk : Heap} {ev : Operand → AV} {id : Nat} {o : Oper} {v : AV} {c : Option Chunk} (h : Flo P gl o ev lk id v c) : FloU P gl o ev lk id v [] c where
  ok := trivial
  keys := rfl
  run φ R a w hr hc _ hR hgl next Q hnext := h.run φ R a w hr hc hR hgl next Q (fun φ' R' w' u hs hu => hnext φ' R' w' u hs.toU hu)
  names j hj := (h.names j hj).imp (fun h => .inl h) (fun h => h)
  cnames cs j hc hj := .inl (h.cnames cs j hc hj)
  unames x hx := by simp at hx

theorem store_sound {gl : Gl} {lk : Heap} {ev : Operand → AV} {id : Nat} {K : AV → Upd → Option Chunk → Prop} {t : TypeId} {x y : Operand} (h : storeU T lk t (ev x) (ev y) K) (o : Oper) (ho : o.op = .store t x y) :
    ∃ v upd c, K v upd c ∧ FloU P gl o ev lk id v upd c := by
  unfold storeU at h
  split at h
  · rename_i j off us e ha hx he
    split at h
    · rename_i cs hlk
      split at h
      · rename_i h1 h2 h3
        have h1 := Nat.eq_of_beq_eq_true h1
        have h2 := Nat.le_of_ble_eq_true h2
        refine ⟨_, _, _, h, ⟨⟨hlk, trivial⟩, rfl, fun φ R a w hr hc hh hR _ next Q hnext => ?_, fun j hj => by simp [AV.has] at hj, fun cs j h => by simp at h, fun z hz k hk => ?_⟩⟩
        · have hrx := hr x (by simp [ho, Op.operands])
          have hry := hr y (by simp [ho, Op.operands])
          rw [ha] at hrx
          simp only [RepV] at hrx
          obtain ⟨b, cap, hp, hax⟩ := hrx
          have hcr := hc x (by simp [ho, Op.operands]) j _ (by rw [ha]; simp [AV.has]) hlk
          obtain ⟨b', cap', vs, te, fr, hp', hb, hvs, hnR, hnf⟩ := hcr
          rw [hp] at hp'
          simp only [Option.some.injEq, Prod.mk.injEq] at hp'
          obtain ⟨rfl, rfl⟩ := hp'
          have hyc := AV.cells_rep hx hry
          have hyl := hyc.length
          have hvl := hvs.length
          simp only [Array.length_toList] at hyl hvl
          obtain ⟨vs', hv', hrun⟩ := run_storeCells_blk (P := P) (b := b) (off := off) (e := te) (fr := fr) (a.eval y).cells.toList 0 vs w hb (by simp; omega) hnf (hyc.one h3)
          have hex : (execOp a.eval o).run P w = .ok .skip (setBlk w b (.cells vs' te fr)) := by
            simp only [execOp, ho, hax, Instr.storeAt, Instr.sureAddr, storeVar, Sem.run_bind, Sem.run_pure, Result.andThen_ok, run_sizeOf_tab hT he]
            rw [if_neg (by omega)]
            rw [hrun]
            rfl
          unfold Oper.wp
          rw [hex]
          have hsz : vs'.size = vs.size := by
            have := congrArg List.length hv'
            simp at this
            omega
          refine hnext φ R _ undef (stepU_write hR hp hb hnR (by rw [hsz]; exact hnf) ?_) (by simp [RepV])
          rw [hv']
          simp only [Nat.add_zero, Array.length_toList]
          refine RepVs.append (RepVs.append (RepVs.take _ hvs) hyc) ?_
          rw [hyl, h1]
          exact RepVs.drop _ hvs
        · simp only [List.mem_singleton] at hz
          subst hz
          simp only [newCells, hasAny_append, Bool.or_eq_true] at hk
          rcases hk with (hk | hk) | hk
          · exact .inl ⟨x, by simp [ho, Op.operands], .inr ⟨j, cs, by rw [ha]; simp [AV.has], hlk, hasAny_take _ _ hk⟩⟩
          · rw [AV.cells_has hx] at hk
            exact .inl ⟨y, by simp [ho, Op.operands], .inl hk⟩
          · exact .inl ⟨x, by simp [ho, Op.operands], .inr ⟨j, cs, by rw [ha]; simp [AV.has], hlk, hasAny_drop _ _ hk⟩⟩
      · exact h.elim
    · exact h.elim
  · exact h.elim

omit hT in
theorem call_sound {gl : Gl} {lk : Heap} {ev : Operand → AV} {id : Nat} {f : Operand} {args : Array Operand} {ats : Array TypeId} {g : FuncId} {caps : List AV} {ret : AV} {upd : Upd}
    (hf : ev f = .fn g caps) (hok : updOK lk upd) (hs : CSpec P gl g (args.toList.map ev ++ caps) upd ret) (hin : allIn (ret.ids ++ updIds upd) upd = true) (o : Oper) (ho : o.op = .call ⟨.value f, args, ats⟩) :
    FloU P gl o ev lk id ret upd none where
  ok := hok
  keys := allIn_keys hin
  run φ R a w hr hc hh hR hgl next Q hnext := by
    obtain ⟨⟨fn, hfn, hname, hbody⟩, hs⟩ := hs
    have hfr := hr f (by simp [ho, Op.operands, Call.operands])
    rw [hf] at hfr
    simp only [RepV] at hfr
    obtain ⟨cv, hfv, hcaps⟩ := hfr
    have hargs : RepVs φ R w (args.toList.map ev ++ caps) ((args.map a.eval).toList ++ cv.toList) := by
      refine RepVs.append ?_ hcaps
      rw [Array.toList_map]
      exact repVs_map _ _ _ (fun x hx => hr x (by simp [ho, Op.operands, Call.operands]; exact .inr (by simpa using hx)))
    have hcall := hs φ R w _ hh hR hgl hargs
    have hrun : (execOp a.eval o).run P w = .ok (.enter g ((args.map a.eval).toList ++ cv.toList).toArray) w := by
      simp only [execOp, ho, resolve, hfv, Deferred.ofValue, invoke, callFunc, Sem.run_bind, Sem.run_pure, Result.andThen_ok, run_program, hfn, hname, hbody, Bool.false_eq_true, if_false]
      congr 2
      apply Array.ext'
      simp
    unfold Oper.wp
    rw [hrun, Oper.upon_enter]
    refine hcall.mono ?_
    rintro e w' ⟨v, φ', R', rfl, hv, hh', hrb, hevo, hst⟩
    let φ'' : Place := fun j => match applyU noHeap upd.old j with | some _ => φ' j | none => φ j
    have hkeys : ∀ x ∈ upd, φ'' x.1 = φ' x.1 := fun x hx => by
      obtain ⟨c, hc⟩ := old_mem hx
      simp only [φ'', hc]
    have hsame : ∀ j, φ'' j = φ j := fun j => by
      simp only [φ'']
      split
      · rename_i c hc
        obtain ⟨x, hx, rfl, rfl⟩ := old_get hc
        exact (hst _ _ hc).1
      · rfl
    have hφ : ∀ x ∈ upd, φ' x.1 = φ x.1 := fun x hx => by rw [← hkeys x hx, hsame]
    have hown1 : ∀ b, Owns φ (applyU noHeap upd.old) b → Upd.owns φ upd b := by
      rintro b ⟨j, c, cap, hj, hp⟩
      obtain ⟨x, hx, rfl, _⟩ := old_get hj
      exact ⟨x, hx, cap, hp⟩
    have hown2 : ∀ b, Upd.owns φ upd b → Owns φ (applyU noHeap upd.old) b := by
      rintro b ⟨x, hx, cap, hp⟩
      obtain ⟨c, hc⟩ := old_mem hx
      exact ⟨x.1, c, cap, hc, hp⟩
    have hidr : ∀ j, j ∈ ret.ids ++ updIds upd → φ j = φ' j := fun j hj => by
      obtain ⟨x, hx, rfl⟩ := allIn_mem hin hj
      exact (hφ x hx).symm
    refine hnext φ R' w' v ⟨⟨hevo.os, hevo.tape, hevo.output, hevo.size, fun b hb ho => hevo.keep b hb (fun h => ho (hown1 b h)), hevo.rmono, hevo.rkeep, fun b o' h => ?_, fun b h => ?_⟩, hrb, fun _ _ => rfl, fun _ h => by simp at h, fun x hx => ?_⟩ ?_
    · rcases hevo.rnew b o' h with h | h | h
      · exact .inl h
      · exact .inr (.inl h)
      · exact .inr (.inr (hown1 b h))
    · rcases h with h | h
      · exact .inr h
      · simp at h
    · have hk : keysOK upd = true := allIn_keys hin
      have hrel := hh'.rel x.1 _ (keysOK_get hk x hx)
      obtain ⟨b, cap, vs, e, fr, h1, h2, h3, h4, h5⟩ := hrel
      exact ⟨b, cap, vs, e, fr, by rw [← hφ x hx]; exact h1, h2, RepVs.mono (fun _ _ h => h) (fun _ _ _ => rfl) (fun j hj => hidr j (List.mem_append_right _ (List.mem_flatMap.2 ⟨x, hx, AV.hasAny_ids hj⟩))) h3, h4, h5⟩
    · exact RepV.mono (fun _ _ h => h) (fun _ _ _ => rfl) (fun j hj => hidr j (List.mem_append_left _ (AV.has_ids hj))) hv
  names j hj := .inl (.inr (allIn_mem hin (List.mem_append_left _ (AV.has_ids hj))))
  cnames cs j h := by simp at h
  unames x hx j hj := .inr (allIn_mem hin (List.mem_append_right _ (List.mem_flatMap.2 ⟨x, hx, AV.hasAny_ids hj⟩)))

theorem opU_sound {gl : Gl} {lk : Heap} {ev : Operand → AV} {id : Nat} {K : AV → Upd → Option Chunk → Prop} (o : Oper) (h : opU P T gl lk ev id o.op K) (hid : ∀ x ∈ o.op.operands, (ev x).has id = false) :
    ∃ v upd c, K v upd c ∧ FloU P gl o ev lk id v upd c := by
  have lift : ∀ (v : AV) (upd : Upd) (c : Option Chunk), (∀ x ∈ o.op.operands, okP (ev x)) → FloU P gl o (fun x => (ev x).un) lk id v upd c → FloU P gl o ev lk id v upd c := by
    intro v upd c hok hf
    have hN : ∀ j, Named o (fun x => (ev x).un) lk upd j → Named o ev lk upd j := by
      rintro j (⟨x, hx, h1 | ⟨k, cs, h1, h2⟩⟩ | h)
      · exact .inl ⟨x, hx, .inl (by rw [un_has _ (hok x hx)] at h1; exact h1)⟩
      · exact .inl ⟨x, hx, .inr ⟨k, cs, by rw [un_has _ (hok x hx)] at h1; exact h1, h2⟩⟩
      · exact .inr h
    exact ⟨hf.ok, hf.keys, fun φ R a w hr hc hh hR hgl next Q hnext => hf.run φ R a w (fun x hx => (hr x hx).un (hok x hx)) (fun x hx id' c' h1 h2 => hc x hx id' c' (by rw [un_has _ (hok x hx)] at h1; exact h1) h2) hh hR hgl next Q hnext,
      fun j hj => (hf.names j hj).imp (hN j) (fun h => h), fun cs j hc hj => hN j (hf.cnames cs j hc hj), fun x hx j hj => hN j (hf.unames x hx j hj)⟩
  have flo : ∀ (p : Prop), needsAll (o.op.operands.toList.map ev) p → (∀ x ∈ o.op.operands, okP (ev x)) ∧ p := fun p h => by
    obtain ⟨h1, h2⟩ := needsAll_iff h
    exact ⟨fun x hx => h1 _ (List.mem_map.2 ⟨x, by simpa using hx, rfl⟩), h2⟩
  unfold opU at h
  split at h
  · rename_i c a b ho
    split at h
    · rename_i cb hcb
      obtain ⟨h1, ⟨h2, h3⟩, h⟩ := needs_iff h
      refine ⟨_, _, _, h, ⟨trivial, rfl, fun φ R act w hr hc _ hR _ next Q hnext => ?_, fun j hj => by rw [pick_has] at hj; simp at hj, fun cs j h => by simp at h, fun x hx => by simp at hx⟩⟩
      have hc1 := (hr c (by simp [ho, Op.operands])).un h1
      have ha := hr a (by simp [ho, Op.operands])
      have hb := hr b (by simp [ho, Op.operands])
      rw [hcb] at hc1
      simp only [RepV] at hc1
      unfold Oper.wp
      have hrun : (execOp act.eval o).run P w = .ok (.value (if cb = true then act.eval a else act.eval b)) w := by
        simp [execOp, ho, hc1, asBool]
      rw [hrun]
      exact hnext φ R w _ (StepTo.refl hR).toU (pick_rep (fun h => ha.un (h2 h)) (fun h => hb.un (h3 h)))
    · exact h.elim
  · rename_i t x y ho
    obtain ⟨h1, h⟩ := needs_iff h
    obtain ⟨h2, h⟩ := needs_iff h
    obtain ⟨v, upd, c, hk, hf⟩ := store_sound (id := id) hT (ev := fun x => (ev x).un) h o ho
    exact ⟨v, upd, c, hk, lift v upd c (fun z hz => by
      rw [ho] at hz
      simp [Op.operands] at hz
      rcases hz with rfl | rfl
      · exact h1
      · exact h2) hf⟩
  · rename_i f args ats ho
    rw [← ho] at h
    obtain ⟨hok, h⟩ := flo _ h
    rcases h with h | h
    · obtain ⟨v, c, hk, hf⟩ := floV_sound hT h (fun x hx => by rw [un_has _ (hok x hx)]; exact hid x hx) o rfl
      exact ⟨v, [], c, hk, lift v [] c hok hf.toU⟩
    · split at h
      · rename_i g caps hf
        rcases h with ⟨upd, ret, h1, h2, h3, h4⟩ | ⟨cs, h1, h2, h3⟩
        · exact ⟨_, _, _, h4, lift _ _ _ hok (call_sound (ev := fun x => (ev x).un) hf h1 h2 h3 o ho)⟩
        · exact ⟨_, _, _, h3, lift _ _ _ hok (flo_callNew hT (ev := fun x => (ev x).un) hf h1 h2 o ho).toU⟩
      · exact h.elim
  · rename_i s x ts tx ho
    obtain ⟨h1, h⟩ := needs_iff h
    obtain ⟨h2, h⟩ := needs_iff h
    split at h
    · rename_i hs
      obtain ⟨v, c, hk, hf⟩ := appNil_sound (gl := gl) hT (ev := fun x => (ev x).un) hs h o ho
      exact ⟨v, [], c, hk, lift v [] c (fun z hz => by
        rw [ho] at hz
        simp [Op.operands, Call.operands] at hz
        rcases hz with rfl | rfl
        · exact h1
        · exact h2) hf.toU⟩
    · exact h.elim
  · obtain ⟨hok, h⟩ := flo _ h
    obtain ⟨v, c, hk, hf⟩ := floV_sound hT h (fun x hx => by rw [un_has _ (hok x hx)]; exact hid x hx) o rfl
    exact ⟨v, [], c, hk, lift v [] c hok hf.toU⟩

theorem opG_sound {gl : Gl} {ops : Array Oper} {lk : Heap} {ev : Operand → AV} {id : Nat} {K : AV → Upd → Option Chunk → Prop} (o : Oper) (h : opG P T ops gl lk ev id o K) (hid : ∀ x ∈ o.op.operands, (ev x).has id = false) :
    ∃ v upd c, K v upd c ∧ OpFact P gl ops o ev lk id v upd c := by
  unfold opG at h
  split at h
  · rename_i hg
    obtain ⟨v, upd, c, hk, hf⟩ := opU_sound hT o h hid
    refine ⟨v, upd, c, hk, ⟨hf.ok, hf.keys, fun φ R a w hr _ hc hh hR hgl next Q hnext => ?_, hf.names, hf.cnames, hf.unames⟩⟩
    have : Region.wanted o (yielded ops a.tmps) = true := by simp [Region.wanted, hg]
    rw [if_pos this]
    exact .inl (hf.run φ R a w hr hc hh hR hgl next Q hnext)
  · rename_i g hg
    split at h
    · rename_i b hb
      obtain ⟨v, upd, hok, hro, hin, h1, h2⟩ := h
      cases b with
      | true =>
        obtain ⟨v', upd', c', ⟨rfl, rfl, rfl⟩, hf⟩ := opU_sound hT o (h1 rfl) hid
        refine ⟨_, _, _, h2, ⟨hok, allIn_keys hin, fun φ R a w hr hgs hc hh hR hgl next Q hnext => ?_, fun j hj => hf.names j (by simpa [AV.has] using hj), fun cs j h => by simp at h, hf.unames⟩⟩
        rw [gOf_sound hb a (fun t ht => hgs t ⟨g, hg, ht⟩) o hg]
        rw [if_pos rfl]
        exact .inl (hf.run φ R a w hr hc hh hR hgl next Q (fun φ' R' w' u hs hu => hnext φ' R' w' u hs (by unfold RepV; exact ⟨fun _ => hu, fun h => by simp at h⟩)))
      | false =>
        refine ⟨_, _, _, h2, ⟨hok, allIn_keys hin, fun φ R a w hr hgs hc hh hR hgl next Q hnext => ?_, fun j hj => by simp [AV.has] at hj, fun cs j h => by simp at h, fun x hx j hj => .inr (allIn_mem hin (List.mem_flatMap.2 ⟨x, hx, AV.hasAny_ids hj⟩))⟩⟩
        rw [gOf_sound hb a (fun t ht => hgs t ⟨g, hg, ht⟩) o hg]
        rw [if_neg (by simp)]
        exact hnext φ R w undef (stepU_idle hR hro lk hok hh) (by unfold RepV; exact ⟨fun h => by simp at h, fun _ => rfl⟩)
    · exact h.elim
end
end Go.Fw
