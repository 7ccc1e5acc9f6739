/- The framework, part 16: steps that turn only what is known: nil taken for an own empty slice; an own slice given up, and from then on plain data. -/
import Derived.Test.YtnleiflijccefaaFw15
set_option linter.all false
set_option linter.unusedSectionVars false
set_option linter.unusedSimpArgs false
set_option linter.unusedVariables false
namespace Go.Fw

def St.toOwn (st : St) (t : Nat) (ty : Ty) : St := { n := st.n, fix := st.fix, next := st.next + 1, env := (t, .own st.next 0) :: st.env, heap := (st.next, .arr ty []) :: st.heap, gl := st.gl }

theorem Le.own {st : St} (t : Nat) (ty : Ty) (h : st.get t = .nils) : Le st (st.toOwn t ty) := fun R φ a w hs => by
  have hfresh : st.lk st.next = none := by
    cases hh : st.lk st.next with
    | none => rfl
    | some c => have := hs.s.hnext _ _ hh; omega
  have hne : ∀ j c, st.lk j = some c → j ≠ st.next := fun j c hj e => by subst e; rw [hfresh] at hj; simp at hj
  have hget : ∀ u, (st.toOwn t ty).get u = if t = u then .own st.next 0 else st.get u := fun u => by
    simp only [St.toOwn, St.get, lookup_cons]
    by_cases e : t = u <;> simp [e]
  have hlk : ∀ k, (st.toOwn t ty).lk k = if st.next = k then some (.arr ty []) else st.lk k := fun k => by
    simp only [St.toOwn, St.lk, lookup_cons]
  have hφ : ∀ j, j ≠ st.next → setPlace φ st.next none j = φ j := fun j hj => by simp [setPlace, hj]
  have hkeep : ∀ j, (∃ c, st.lk j = some c) → ∃ c, (st.toOwn t ty).lk j = some c := fun j ⟨c, hc⟩ => by
    rw [hlk, if_neg (fun e => hne j c hc e.symm)]; exact ⟨c, hc⟩
  have hinv : ∀ j c, (st.toOwn t ty).lk j = some c → (j = st.next ∧ c = .arr ty []) ∨ (j ≠ st.next ∧ st.lk j = some c) := fun j c hj => by
    rw [hlk] at hj
    split at hj
    · rename_i e; simp only [Option.some.injEq] at hj; exact .inl ⟨e.symm, hj.symm⟩
    · rename_i e; exact .inr ⟨fun h => e h.symm, hj⟩
  refine ⟨R, setPlace φ st.next none, ⟨⟨fun u => ?_, fun u j hj => ?_, fun j cs k hj hk => ?_, fun j c hj => ?_, hs.s.sz, ⟨fun j c hj => ?_, fun j k c d b cap cap' hj hk hp hp' => ?_⟩, hs.s.rlt, hs.s.defers, fun g cs hg => ?_⟩, ?_⟩,
    ⟨⟨rfl, rfl, rfl, Nat.le_refl _, fun _ _ _ => rfl, fun _ _ h => h, fun _ _ _ => rfl, fun _ _ h => .inl h, fun b ⟨j, c, cap, hj, hp⟩ => ?_⟩, fun id hid => hφ id (by have := hs.fx; omega), rfl, rfl⟩⟩
  · rw [hget]
    split
    · rename_i e
      have := hs.s.env t
      rw [h] at this
      simp only [RepV] at this ⊢
      rw [← e]
      exact .inl ⟨by simp [setPlace], by simp, this⟩
    · exact RepV.mono (fun _ _ h => h) (fun _ _ _ => rfl) (fun j hj => by obtain ⟨c, hc⟩ := hs.s.named u j hj; exact hφ j (hne j c hc)) (hs.s.env u)
  · rw [hget] at hj
    split at hj
    · simp [AV.has] at hj
      subst hj
      exact ⟨_, by rw [hlk, if_pos rfl]⟩
    · exact hkeep j (hs.s.named u j hj)
  · rcases hinv j _ hj with ⟨_, h⟩ | ⟨_, hj⟩
    · simp at h
    · exact hkeep k (hs.s.hnamed j cs k hj hk)
  · show j < st.next + 1
    rcases hinv j _ hj with ⟨e, _⟩ | ⟨_, hj⟩
    · omega
    · have := hs.s.hnext j c hj; omega
  · rcases hinv j _ hj with ⟨rfl, rfl⟩ | ⟨hji, hj⟩
    · exact .inl ⟨by simp [setPlace], rfl⟩
    · exact (hs.s.heap.rel j c hj).mono (hφ j hji) (fun cs k hc hk => by
        subst hc
        obtain ⟨c', hc'⟩ := hs.s.hnamed j cs k hj hk
        exact hφ k (hne k c' hc')) (fun _ _ h => h) (fun _ _ _ => rfl) (fun _ _ _ _ => ⟨rfl, fun _ h => h⟩)
  · rcases hinv j _ hj with ⟨rfl, _⟩ | ⟨hji, hj⟩
    · simp [setPlace] at hp
    · rcases hinv k _ hk with ⟨rfl, _⟩ | ⟨hki, hk⟩
      · simp [setPlace] at hp'
      · rw [hφ j hji] at hp; rw [hφ k hki] at hp'
        exact hs.s.heap.inj j k c d b cap cap' hj hk hp hp'
  · have := hs.s.gl g cs hg
    refine ⟨RepV.mono (fun _ _ h => h) (fun _ _ _ => rfl) (fun j hj => ?_) this.1, this.2⟩
    simp only [AV.has] at hj
    rw [this.2 j] at hj
    simp at hj
  · have := hs.fx
    show st.fix ≤ st.next + 1
    omega
  · rcases hinv j _ hj with ⟨rfl, _⟩ | ⟨hji, hj⟩
    · simp [setPlace] at hp
    · rw [hφ j hji] at hp
      exact .inr ⟨j, c, cap, hj, hp⟩

def eraseH (id : Nat) : List (Nat × Chunk) → List (Nat × Chunk)
  | [] => []
  | (k, c) :: r => match Nat.beq k id with
    | true => eraseH id r
    | false => (k, c.scrub id) :: eraseH id r
theorem lookup_eraseH (id k : Nat) : ∀ (h : List (Nat × Chunk)), lookup k (eraseH id h) = if k = id then none else (lookup k h).map (Chunk.scrub id)
  | [] => by simp [eraseH, lookup]
  | (j, c) :: r => by
    have ih := lookup_eraseH id k r
    simp only [eraseH]
    split
    · rename_i e
      have e := Nat.eq_of_beq_eq_true e
      rw [ih, lookup_cons]
      by_cases hk : k = id
      · simp [hk]
      · rw [if_neg hk, if_neg hk, if_neg (fun h => hk (by rw [← h, e]))]
    · rename_i e
      have e : j ≠ id := fun h => by rw [h, Nat.beq_refl] at e; simp at e
      rw [lookup_cons, lookup_cons, ih]
      by_cases hj : j = k
      · subst hj; simp [e]
      · rw [if_neg hj, if_neg hj]

def St.freeze (st : St) (t id : Nat) (v : AV) : St := { n := st.n, fix := st.fix, next := st.next, env := (t, v) :: scrubEnv id st.env, heap := eraseH id st.heap, gl := st.gl }

/-- An own slice is given up: what is in it is plain data from then on. -/
theorem Le.freeze {st : St} (t id n : Nat) {ty : Ty} {xs : List ty.D} (ht : st.get t = .own id n) (hid : st.lk id = some (.arr ty xs)) (hn : n ≤ xs.length) : Le st (st.freeze t id (.list ty (xs.take n))) := fun R φ a w hs => by
  have hrel := hs.s.heap.rel id _ hid
  have hv := hs.s.env t
  rw [ht] at hv
  let R' : Prot := fun b o => R b o ∨ ∃ cap, φ id = some (b, cap)
  have hR : ∀ b o, R b o → R' b o := fun b o h => .inl h
  have hget : ∀ u, (st.freeze t id (.list ty (xs.take n))).get u = if t = u then .list ty (xs.take n) else (st.get u).scrub id := fun u => by
    simp only [St.freeze, St.get, lookup_cons, scrubEnv, lookup_map]
    by_cases e : t = u
    · simp [e]
    · rw [if_neg e, if_neg e]
      cases lookup u st.env <;> simp [AV.scrub, AV.may, AV.has]
  have hlk : ∀ k, (st.freeze t id (.list ty (xs.take n))).lk k = if k = id then none else (st.lk k).map (Chunk.scrub id) := fun k => lookup_eraseH id k st.heap
  have hinv : ∀ j c, (st.freeze t id (.list ty (xs.take n))).lk j = some c → j ≠ id ∧ ∃ c', st.lk j = some c' ∧ c = c'.scrub id := fun j c hj => by
    rw [hlk] at hj
    split at hj
    · simp at hj
    · rename_i e
      obtain ⟨c', h1, h2⟩ := Option.map_eq_some_iff.1 hj
      exact ⟨e, c', h1, h2.symm⟩
  have hsome : ∀ j, j ≠ id → (∃ c, st.lk j = some c) → ∃ c, (st.freeze t id (.list ty (xs.take n))).lk j = some c := fun j hj ⟨c, hc⟩ => by
    rw [hlk, if_neg hj, hc]; exact ⟨_, rfl⟩
  have hown : ∀ b j c cap, j ≠ id → st.lk j = some c → φ j = some (b, cap) → ∀ cap', φ id ≠ some (b, cap') := fun b j c cap hj hc hpj cap' h =>
    hj (hs.s.heap.inj j id c _ b cap cap' hc hid hpj h)
  have hnR : ∀ b j c cap, j ≠ id → st.lk j = some c → φ j = some (b, cap) → ∀ o, ¬ R' b o := fun b j c cap hj hc hpj o h => by
    rcases h with h | ⟨c9, h⟩
    · exact ((hs.s.heap.rel j c hc).block hpj).2 o h
    · exact hown b j c cap hj hc hpj c9 h
  refine ⟨R', φ, ⟨⟨fun u => ?_, fun u j hj => ?_, fun j cs k hj hk => ?_, fun j c hj => ?_, hs.s.sz, ⟨fun j c hj => ?_, fun j k c d b cap cap' hj hk hp hp' => ?_⟩, fun b o h => ?_, hs.s.defers, fun g cs hg => ?_⟩, hs.fx⟩,
    ⟨⟨rfl, rfl, rfl, Nat.le_refl _, fun _ _ _ => rfl, hR, fun _ _ _ => rfl, fun b o h => ?_, fun b ⟨j, c, cap, hj, hp⟩ => ?_⟩, fun _ _ => rfl, rfl, rfl⟩⟩
  · rw [hget]
    split
    · rename_i e
      rw [← e]
      simp only [RepV] at hv
      simp only [RepV, Rep]
      have hlen : (xs.take n).length = n := by simp; omega
      rcases hv with ⟨hφ, rfl, hv⟩ | ⟨b, cap, hφ, hcap, hv⟩
      · exact ⟨none, 0, by rw [hv]; simp, by simp, .inl ⟨by simp, rfl⟩⟩
      · refine ⟨some ⟨b, 0, none⟩, cap, by rw [hv, hlen], by omega, .inr ⟨b, 0, rfl, fun i hi => ?_⟩⟩
        rcases hrel with ⟨h1, h2⟩ | ⟨b', cap', vs, e', fr, hφ', hh, hvs, hxc, hel, _, _⟩
        · rw [hφ] at h1; simp at h1
        · rw [hφ] at hφ'
          simp only [Option.some.injEq, Prod.mk.injEq] at hφ'
          obtain ⟨rfl, rfl⟩ := hφ'
          have hi' : i < xs.length := by rw [hlen] at hi; omega
          have hr := hel i hi'
          refine ⟨_, hr.length, fun k v hk => ⟨.inr ⟨cap, hφ⟩, ?_⟩, by rw [List.getElem_take]; exact Rep.mono hR (fun _ _ _ => rfl) hr⟩
          rw [List.getElem?_take] at hk
          split at hk
          · rw [List.getElem?_drop] at hk
            simp only [World.cell?, hh, Nat.zero_add]
            simpa using hk
          · simp at hk
    · exact scrub_rep (hs.s.env u) (fun _ _ => rfl) hR (fun _ _ _ => rfl)
  · rw [hget] at hj
    split at hj
    · simp [AV.has] at hj
    · exact hsome j (scrub_ne hj) (hs.s.named u j (scrub_sub hj))
  · obtain ⟨hne, c', h1, h2⟩ := hinv j _ hj
    cases c' with
    | box cs' =>
      simp only [Chunk.scrub, Chunk.box.injEq] at h2
      rw [h2] at hk
      exact hsome k (hasAny_scrub hk).1 (hs.s.hnamed j cs' k h1 (hasAny_scrub hk).2)
    | arr t l => simp [Chunk.scrub] at h2
  · obtain ⟨_, c', h1, _⟩ := hinv j _ hj
    exact hs.s.hnext j c' h1
  · obtain ⟨hne, c', h1, rfl⟩ := hinv j _ hj
    have hrelj := hs.s.heap.rel j c' h1
    cases c' with
    | box cs =>
      obtain ⟨b, cap, vs, e, fr, q1, q2, q3, q4, q5⟩ := hrelj
      exact ⟨b, cap, vs, e, fr, q1, q2, scrub_reps (fun _ _ => rfl) hR (fun _ _ _ => rfl) q3, hnR b j _ cap hne h1 q1, q5⟩
    | arr t l =>
      rcases hrelj with h | ⟨b, cap, vs, e, fr, q1, q2, q3, q4, q5, q6, q7⟩
      · exact .inl h
      · exact .inr ⟨b, cap, vs, e, fr, q1, q2, q3, q4, fun i hi => Rep.mono hR (fun _ _ _ => rfl) (q5 i hi), hnR b j _ cap hne h1 q1, q7⟩
  · obtain ⟨_, c', h1, _⟩ := hinv j _ hj
    obtain ⟨_, d', h2, _⟩ := hinv k _ hk
    exact hs.s.heap.inj j k c' d' b cap cap' h1 h2 hp hp'
  · rcases h with h | ⟨cap, h⟩
    · exact hs.s.rlt b o h
    · exact (hrel.block h).1
  · have := hs.s.gl g cs hg
    refine ⟨RepV.mono hR (fun _ _ _ => rfl) (fun j hj => ?_) this.1, this.2⟩
    simp only [AV.has] at hj
    rw [this.2 j] at hj
  · rcases h with h | ⟨cap, h⟩
    · exact .inl h
    · exact .inr (.inr ⟨id, _, cap, hid, h⟩)
  · obtain ⟨_, c', h1, _⟩ := hinv j _ hj
    exact .inr ⟨j, c', cap, h1, hp⟩
end Go.Fw
