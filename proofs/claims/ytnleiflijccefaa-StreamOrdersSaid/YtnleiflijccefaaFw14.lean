/- The framework, part 14: statements whose order Go leaves open: any order comes to the same. -/
import Derived.Test.YtnleiflijccefaaFw13
set_option linter.all false
set_option linter.unusedSectionVars false
set_option linter.unusedSimpArgs false
namespace Go.Fw

/-- A run of the head in the order of the text. -/
structure Run (P : Program) (ops : Array Oper) (os : List Oper) (st : St) (sts : Nat → St) (vs : Nat → AV) (us : Nat → Upd) (cs : Nat → Option Chunk) : Prop where
  zero : sts 0 = st
  fact : ∀ i o, os[i]? = some o → OpFact P (sts i).gl ops o (sts i).ev (sts i).lk (sts i).next (vs i) (us i) (cs i)
  next : ∀ i o, os[i]? = some o → sts (i + 1) = (sts i).step o.dst (vs i) (us i) (cs i)

def logE (os : List Oper) (sts : Nat → St) (us : Nat → Upd) (cs : Nat → Option Chunk) (i : Nat) : List Nat × List Nat :=
  match os[i]? with
  | some o => (touched (sts i).ev o (us i), writes (sts i).next (us i) (cs i))
  | none => ([], [])

section
variable {P : Program} {T : Tab} (hT : tabOK P T = true)
include hT

theorem head_run {ops : Array Oper} : ∀ (os : List Oper) (st : St) (log : List (List Nat × List Nat)) (K : St → List (List Nat × List Nat) → Prop), awpHead P T ops os st log K → WF st.next st.get st.lk st.gl →
    ∃ sts vs us cs, Run P ops os st sts vs us cs ∧ K (sts os.length) (((List.range os.length).map (logE os sts us cs)).reverse ++ log)
  | [], st, log, K, h, hw => ⟨fun _ => st, fun _ => .any, fun _ => [], fun _ => none, ⟨rfl, fun i o h => by simp at h, fun i o h => by simp at h⟩, by simpa [awpHead] using h⟩
  | o :: r, st, log, K, h, hw => by
    simp only [awpHead] at h
    obtain ⟨v, upd, c, hk, hf⟩ := opG_sound hT o h (fun x _ => by
      cases hx : AV.has st.next (st.ev x) with
      | false => rfl
      | true =>
        obtain ⟨c, hc⟩ := hw.ev x _ hx
        have := hw.hnext _ _ hc
        omega)
    obtain ⟨sts, vs, us, cs, hrun, hk⟩ := head_run r _ _ K hk (hw.step hf)
    refine ⟨fun i => match i with | 0 => st | i + 1 => sts i, fun i => match i with | 0 => v | i + 1 => vs i, fun i => match i with | 0 => upd | i + 1 => us i, fun i => match i with | 0 => c | i + 1 => cs i, ⟨rfl, fun i o' ho' => ?_, fun i o' ho' => ?_⟩, ?_⟩
    · cases i with
      | zero => simp at ho'; subst ho'; exact hf
      | succ i => exact hrun.fact i o' (by simpa using ho')
    · cases i with
      | zero => simp at ho'; subst ho'; exact hrun.zero
      | succ i => exact hrun.next i o' (by simpa using ho')
    · have e : ((List.range (o :: r).length).map (logE (o :: r) (fun i => match i with | 0 => st | i + 1 => sts i) (fun i => match i with | 0 => upd | i + 1 => us i) (fun i => match i with | 0 => c | i + 1 => cs i))).reverse ++ log =
          ((List.range r.length).map (logE r sts us cs)).reverse ++ ((touched st.ev o upd, writes st.next upd c) :: log) := by
        simp only [List.length_cons, List.range_succ_eq_map, List.map_cons, List.map_map, List.reverse_cons, List.append_assoc, List.singleton_append]
        congr 1
      rw [e]
      exact hk

end

/-! ### the writers of slots and of chunks -/
def findW : Upd → Nat → Option (List AV)
  | [], _ => none
  | (j, _, some n) :: r, k => if j = k then some n else findW r k
  | (_, _, none) :: r, k => findW r k

theorem applyU_findW {H : Heap} : ∀ {u : Upd}, keysOK u = true → updOK H u → ∀ k, applyU H u k = ((findW u k).map fun n => some (Chunk.box n)).getD (H k)
  | [], _, _, _ => rfl
  | (j, old, some n) :: r, hk, hu, k => by
    obtain ⟨h1, h2⟩ := keys_tail hk
    simp only [applyU, findW, newCells]
    by_cases e : k = j
    · subst e; simp
    · rw [if_neg e, if_neg (fun h => e h.symm), applyU_findW h2 hu.2 k]
  | (j, old, none) :: r, hk, hu, k => by
    obtain ⟨h1, h2⟩ := keys_tail hk
    simp only [applyU, findW, newCells]
    by_cases e : k = j
    · rw [if_pos e, ← applyU_findW h2 hu.2 k, e, applyU_none (fun x hx => h1 x hx)]
      exact hu.1.symm
    · rw [if_neg e, applyU_findW h2 hu.2 k]

theorem findW_mem : ∀ {u : Upd} {k : Nat}, (findW u k).isSome = true → k ∈ (u.filterMap fun x => match x.2.2 with | some _ => some x.1 | none => none) ∧ k ∈ u.map (·.1)
  | [], _, h => by simp [findW] at h
  | (j, _, some n) :: r, k, h => by
    simp only [findW] at h
    by_cases e : j = k
    · subst e; simp
    · rw [if_neg e] at h
      have := findW_mem h
      exact ⟨by simp [this.1], by simp only [List.map_cons, List.mem_cons]; exact .inr this.2⟩
  | (j, _, none) :: r, k, h => by
    simp only [findW] at h
    have := findW_mem h
    exact ⟨by simpa using this.1, by simp only [List.map_cons, List.mem_cons]; exact .inr this.2⟩

def wrE (os : List Oper) (vs : Nat → AV) (i t : Nat) : Option AV := match os[i]? with | some o => if o.dst = some t then some (vs i) else none | none => none
def wrH (os : List Oper) (base : Nat) (us : Nat → Upd) (cs : Nat → Option Chunk) (i k : Nat) : Option (Option Chunk) :=
  match os[i]? with
  | some _ => if k = base + i ∧ (cs i).isSome = true then some (cs i) else (findW (us i) k).map fun n => some (.box n)
  | none => none

theorem addC_wr {H : Heap} {u : Upd} {id : Nat} {c : Option Chunk} (hk : keysOK u = true) (hu : updOK H u) (k : Nat) :
    addC (applyU H u) id c k = (if k = id ∧ c.isSome = true then some c else (findW u k).map fun n => some (Chunk.box n)).getD (H k) := by
  unfold addC
  by_cases e : k = id
  · rw [if_pos e]
    cases c with
    | none => simp only [Option.isSome_none, Bool.false_eq_true, and_false, if_false]; exact applyU_findW hk hu k
    | some ch => simp [e]
  · rw [if_neg e, if_neg (fun h => e h.1)]
    exact applyU_findW hk hu k

section
variable {P : Program} {ops : Array Oper} {os : List Oper} {st : St} {sts : Nat → St} {vs : Nat → AV} {us : Nat → Upd} {cs : Nat → Option Chunk}

theorem Run.consts (h : Run P ops os st sts vs us cs) : ∀ i, i ≤ os.length → (sts i).n = st.n ∧ (sts i).fix = st.fix ∧ (sts i).next = st.next + i ∧ (sts i).gl = st.gl
  | 0, _ => by rw [h.zero]; exact ⟨rfl, rfl, rfl, rfl⟩
  | i + 1, hi => by
    have ih := h.consts i (by omega)
    have ho : os[i]? = some os[i] := by simp [show i < os.length by omega]
    rw [h.next i _ ho]
    exact ⟨ih.1, ih.2.1, by show (sts i).next + 1 = _; omega, ih.2.2.2⟩
theorem Run.get (h : Run P ops os st sts vs us cs) : ∀ i, i ≤ os.length → ∀ t, (sts i).get t = fold (wrE os vs) (fun _ => true) st.get i t
  | 0, _, t => by rw [h.zero]; rfl
  | i + 1, hi, t => by
    have ih := h.get i (by omega) t
    have ho : os[i]? = some os[i] := by simp [show i < os.length by omega]
    rw [h.next i _ ho, step_get]
    simp only [setE, fold, if_true, wrE, ho, ← ih]
    split <;> rfl
theorem Run.lk (h : Run P ops os st sts vs us cs) : ∀ i, i ≤ os.length → ∀ k, (sts i).lk k = fold (wrH os st.next us cs) (fun _ => true) st.lk i k
  | 0, _, k => by rw [h.zero]; rfl
  | i + 1, hi, k => by
    have ih := h.lk i (by omega) k
    have ho : os[i]? = some os[i] := by simp [show i < os.length by omega]
    have hf := h.fact i _ ho
    rw [h.next i _ ho, step_lk _ _ _ _ _ hf.keys hf.ok, addC_wr hf.keys hf.ok k]
    simp only [fold, if_true, wrH, ho, ← ih, (h.consts i (by omega)).2.2.1]

/-- Where nothing conflicts, or what conflicts is in order. -/
structure Ordered (ops : Array Oper) (os : List Oper) (sts : Nat → St) (us : Nat → Upd) (cs : Nat → Option Chunk) : Prop where
  pair : ∀ i j oi oj, i < j → os[i]? = some oi → os[j]? = some oj → ((masks ops.toList []).getD j 0).testBit i = true ∨
    (oi.apart ops oj = true ∧ (∀ k ∈ writes (sts i).next (us i) (cs i), k ∉ touched (sts j).ev oj (us j)) ∧ (∀ k ∈ writes (sts j).next (us j) (cs j), k ∉ touched (sts i).ev oi (us i)))

theorem ordered_of {ops : Array Oper} {os : List Oper} {N : Nat} (hos : ∀ i, os[i]? = if i < N then ops[i]? else none) (hN : os.length = N)
    (h : pairsOK ops ((List.range os.length).map (logE os sts us cs)) = true) : Ordered ops os sts us cs := ⟨fun i j oi oj hij hi hj => by
  have hjl : j < os.length := (List.getElem?_eq_some_iff.1 hj).1
  have hil : i < os.length := by omega
  unfold pairsOK at h
  rw [List.all_eq_true] at h
  have h1 := h j (by simp; exact hjl)
  rw [List.all_eq_true] at h1
  have h2 := h1 i (by simp; exact hij)
  have ei : ops[i]? = some oi := by have := hos i; rw [hi, if_pos (by omega)] at this; exact this.symm
  have ej : ops[j]? = some oj := by have := hos j; rw [hj, if_pos (by omega)] at this; exact this.symm
  have li : ((List.range os.length).map (logE os sts us cs))[i]? = some (logE os sts us cs i) := by simp [hil]
  have lj : ((List.range os.length).map (logE os sts us cs))[j]? = some (logE os sts us cs j) := by simp [hjl]
  simp only [ei, ej, li, lj, Bool.or_eq_true, Bool.and_eq_true] at h2
  refine h2.imp (fun h => h) (fun ⟨h3, h4⟩ => ⟨h3, ?_⟩)
  simp only [apartIds, logE, hi, hj, Bool.and_eq_true, List.all_eq_true, Bool.not_eq_true', List.contains_eq_mem, decide_eq_false_iff_not] at h4
  exact h4⟩

theorem wrE_dst {i t : Nat} (h : (wrE os vs i t).isSome = true) : ∃ o, os[i]? = some o ∧ o.dst = some t := by
  unfold wrE at h
  split at h
  · rename_i o ho
    split at h
    · rename_i hd; exact ⟨o, ho, hd⟩
    · simp at h
  · simp at h
theorem wrH_mem {i k base : Nat} (h : (wrH os base us cs i k).isSome = true) : ∃ o, os[i]? = some o ∧ ((k = base + i ∧ (cs i).isSome = true) ∨ (k ∈ ((us i).filterMap fun x => match x.2.2 with | some _ => some x.1 | none => none) ∧ k ∈ (us i).map (·.1))) := by
  unfold wrH at h
  split at h
  · rename_i o ho
    refine ⟨o, ho, ?_⟩
    split at h
    · rename_i hc; exact .inl hc
    · exact .inr (findW_mem (by simpa using h))
  · simp at h

theorem fold_none {K V : Type} {wr : Nat → K → Option V} {L : Nat → Bool} {init : K → V} {k : K} : ∀ n, (∀ j, j < n → L j = true → wr j k = none) → fold wr L init n k = init k
  | 0, _ => rfl
  | n + 1, h => by
    simp only [fold, fold_none n (fun j hj => h j (by omega))]
    cases hl : L n with
    | false => simp
    | true => simp [h n (by omega) hl]

theorem updOK_of {H : Heap} : ∀ {u : Upd}, (∀ x ∈ u, H x.1 = some (.box x.2.1)) → updOK H u
  | [], _ => trivial
  | (j, old, n) :: r, h => ⟨h _ (List.mem_cons_self ..), updOK_of fun x hx => h x (List.mem_cons_of_mem _ hx)⟩

theorem Run.bound (h : Run P ops os st sts vs us cs) (h0 : ∀ k c, st.lk k = some c → k < st.next) : ∀ m, m ≤ os.length → ∀ k c, (sts m).lk k = some c → k < st.next + m
  | 0, _, k, c, hk => by rw [h.zero] at hk; exact h0 k c hk
  | m + 1, hm, k, c, hk => by
    have ho : os[m]? = some os[m] := by simp [show m < os.length by omega]
    have hf := h.fact m _ ho
    have hn := (h.consts m (by omega)).2.2.1
    rw [h.next m _ ho, step_lk _ _ _ _ _ hf.keys hf.ok] at hk
    unfold addC at hk
    split at hk
    · omega
    · rcases applyU_inv hk with ⟨x, hx, rfl, _⟩ | ⟨_, hk⟩
      · have := h.bound h0 m (by omega) x.1 _ (hf.ok.get x hx); omega
      · have := h.bound h0 m (by omega) k c hk; omega
theorem Run.newNone (h : Run P ops os st sts vs us cs) (h0 : ∀ k c, st.lk k = some c → k < st.next) {i : Nat} (hc : cs i = none) : ∀ m, m ≤ os.length → (sts m).lk (st.next + i) = none
  | 0, _ => by
    rw [h.zero]
    cases hk : st.lk (st.next + i) with
    | none => rfl
    | some c => have := h0 _ _ hk; omega
  | m + 1, hm => by
    have ho : os[m]? = some os[m] := by simp [show m < os.length by omega]
    have hf := h.fact m _ ho
    have hn := (h.consts m (by omega)).2.2.1
    have ih := h.newNone h0 hc m (by omega)
    rw [h.next m _ ho, step_lk _ _ _ _ _ hf.keys hf.ok]
    have hu : applyU (sts m).lk (us m) (st.next + i) = none := by
      rw [applyU_none]
      · exact ih
      · intro x hx e
        have := hf.ok.get x hx
        rw [e, ih] at this
        simp at this
    unfold addC
    split
    · rename_i e
      have : m = i := by omega
      subst this
      rw [hc]
      exact hu
    · exact hu

abbrev ED (os : List Oper) (st : St) (vs : Nat → AV) (L : Nat → Bool) : Nat → AV := fold (wrE os vs) L st.get os.length
abbrev HD (os : List Oper) (st : St) (us : Nat → Upd) (cs : Nat → Option Chunk) (L : Nat → Bool) : Heap := fold (wrH os st.next us cs) L st.lk os.length

theorem head_step (hrun : Run P ops os st sts vs us cs) (hord : Ordered ops os sts us cs) (hops : ∀ (i : Nat) (o : Oper), os[i]? = some o → ops[i]? = some o) (h0 : ∀ k c, st.lk k = some c → k < st.next)
    {L : Nat → Bool} (hcl : Cl ops L) {i : Nat} {o : Oper} (ho : os[i]? = some o) (hi : L i = false) (hready : ∀ e ∈ o.after, Region.binds .any e = true → L e.on = true)
    {R : Prot} {φ : Place} {a : Act} {w : World} (hs : SatF R φ st.n (st.next + os.length) (ED os st vs L) (HD os st us cs L) st.gl a w) (hd : dstB o st.n = true)
    {next : Act → World → Prop} {Q : Exit → Act → World → Prop}
    (hnext : ∀ R' φ' a' w', SatF R' φ' st.n (st.next + os.length) (ED os st vs (fun j => if j = i then true else L j)) (HD os st us cs (fun j => if j = i then true else L j)) st.gl a' w' →
      Evo R (Owns φ (HD os st us cs L)) w R' (Owns φ' (HD os st us cs (fun j => if j = i then true else L j))) w' → (∀ j, j < st.next → φ' j = φ j) → next a' w') :
    (if Region.wanted o (yielded ops a.tmps) = true then o.wp P a w next Q ∨ (o.asks P a w ∧ LetsOut Q) else next (a.put o.dst undef) w) := by
  have hil : i < os.length := (List.getElem?_eq_some_iff.1 ho).1
  have hf := hrun.fact i o ho
  obtain ⟨hcn, hcf, hcx, hcg⟩ := hrun.consts i (by omega)

  have conf : ∀ j oj, os[j]? = some oj → j ≠ i →
      ((L j = true ↔ j < i) ∨ (((j < i → oj.apart ops o = true) ∧ (i < j → o.apart ops oj = true)) ∧ (∀ k ∈ writes (sts i).next (us i) (cs i), k ∉ touched (sts j).ev oj (us j)) ∧ (∀ k ∈ writes (sts j).next (us j) (cs j), k ∉ touched (sts i).ev o (us i)))) := by
    intro j oj hj hne
    rcases Nat.lt_or_gt_of_ne hne with hlt | hgt
    · rcases hord.pair j i oj o hlt hj ho with h | ⟨h1, h2, h3⟩
      · exact .inl ⟨fun _ => hlt, fun _ => cl_mask hcl i o (hops i o ho) hready j h⟩
      · exact .inr ⟨⟨fun _ => h1, fun h => by omega⟩, h3, h2⟩
    · rcases hord.pair i j o oj hgt ho hj with h | ⟨h1, h2, h3⟩
      · refine .inl ⟨fun hl => ?_, fun h => by omega⟩
        have := cl_mask hcl j oj (hops j oj hj) (hcl j oj (hops j oj hj) hl) i h
        rw [hi] at this; simp at this
      · exact .inr ⟨⟨fun h => by omega, fun _ => h1⟩, h2, h3⟩
  have slotEq : ∀ t, (t ∈ o.looksAt ops ∨ o.dst = some t) → ED os st vs L t = (sts i).get t := by
    intro t ht
    rw [hrun.get i (by omega) t]
    refine fold_at (by omega) (fun j hj hw => ?_)
    obtain ⟨oj, hoj, hdj⟩ := wrE_dst hw
    by_cases e : j = i
    · subst e; simp [hi]
    · rcases conf j oj hoj e with h | ⟨⟨h1, h2⟩, _⟩
      · exact h
      · exfalso
        rcases Nat.lt_or_gt_of_ne e with hlt | hgt
        · obtain ⟨a1, a2, a3⟩ := Oper.apart_spec (h1 hlt)
          rcases ht with ht | ht
          · exact a1 t hdj ht
          · exact a2 t hdj ht
        · obtain ⟨a1, a2, a3⟩ := Oper.apart_spec (h2 hgt)
          rcases ht with ht | ht
          · exact a3 t hdj ht
          · exact a2 t ht hdj
  have heapEq : ∀ k, (k ∈ touched (sts i).ev o (us i)) → HD os st us cs L k = (sts i).lk k := by
    intro k hk
    rw [hrun.lk i (by omega) k]
    refine fold_at (by omega) (fun j hj hw => ?_)
    obtain ⟨oj, hoj, hm⟩ := wrH_mem hw
    by_cases e : j = i
    · subst e; simp [hi]
    · rcases conf j oj hoj e with h | ⟨_, _, h2⟩
      · exact h
      · exfalso
        refine h2 k ?_ hk
        have hxj := (hrun.consts j (by omega)).2.2.1
        unfold writes
        rcases hm with ⟨h1, h3⟩ | ⟨h1, _⟩
        · obtain ⟨ch, hch⟩ := Option.isSome_iff_exists.1 h3
          rw [hch, hxj, h1]; simp
        · exact List.mem_append_left _ h1
  have evEq : ∀ x ∈ o.op.operands, (sts i).ev x = evF (ED os st vs L) st.gl x := by
    intro x hx
    cases x with
    | tmp t =>
      show (sts i).get t = ED os st vs L t
      refine (slotEq t (.inl ?_)).symm
      unfold Oper.looksAt
      exact List.mem_append_left _ (List.mem_filterMap.2 ⟨.tmp t, by simpa using hx, rfl⟩)
    | const v => rfl
    | global g => simp only [St.ev, evF, hcg]
    | func f => rfl
  have touchOp : ∀ x ∈ o.op.operands, ∀ k, ((sts i).ev x).has k = true → k ∈ touched (sts i).ev o (us i) := fun x hx k hk =>
    List.mem_append_left _ (List.mem_flatMap.2 ⟨x, by simpa using hx, AV.has_ids hk⟩)
  have touchUp : ∀ x ∈ us i, x.1 ∈ touched (sts i).ev o (us i) := fun x hx => List.mem_append_right _ (List.mem_map.2 ⟨x, hx, rfl⟩)
  have hok : updOK (HD os st us cs L) (us i) := updOK_of fun x hx => by rw [heapEq _ (touchUp x hx)]; exact hf.ok.get x hx
  have hnamed : ∀ j, Named o (sts i).ev (sts i).lk (us i) j → ∃ ch, HD os st us cs L j = some ch := by
    rintro j (⟨x, hx, h1 | ⟨k, cells, h1, h2, h3⟩⟩ | ⟨x, hx, rfl⟩)
    · exact hs.ev_named x j (by rw [← evEq x hx]; exact h1)
    · exact hs.hnamed k cells j (by rw [heapEq k (touchOp x hx k h1)]; exact h2) h3
    · exact ⟨_, hok.get x hx⟩
  have hfresh : HD os st us cs L (st.next + i) = none := by
    have : HD os st us cs L (st.next + i) = st.lk (st.next + i) := by
      refine fold_none _ (fun j hj hl => ?_)
      cases hw : wrH os st.next us cs j (st.next + i) with
      | none => rfl
      | some v =>
        exfalso
        obtain ⟨oj, hoj, hm⟩ := wrH_mem (k := st.next + i) (i := j) (by rw [hw]; rfl)
        have hne : j ≠ i := fun e => by subst e; rw [hi] at hl; simp at hl
        rcases hm with ⟨h1, _⟩ | ⟨_, h1⟩
        · omega
        · obtain ⟨x, hx, hx1⟩ := List.mem_map.1 h1
          have hfj := hrun.fact j oj hoj
          have hlk := hfj.ok.get x hx
          rw [hx1] at hlk
          cases hci : cs i with
          | none =>
            rw [hrun.newNone h0 hci j (by omega)] at hlk
            simp at hlk
          | some ch =>
            have hb := hrun.bound h0 j (by omega) _ _ hlk
            rcases conf j oj hoj hne with h | ⟨_, h2, _⟩
            · have := h.1 hl; omega
            · refine h2 (st.next + i) ?_ (List.mem_append_right _ (List.mem_map.2 ⟨x, hx, hx1⟩))
              unfold writes
              rw [hci, hcx]; simp
    rw [this]
    cases hk : st.lk (st.next + i) with
    | none => rfl
    | some c => have := h0 _ _ hk; omega
  have eE : ED os st vs (fun j => if j = i then true else L j) = setE (ED os st vs L) o.dst (vs i) := by
    funext t
    unfold ED
    rw [fold_set hil hi (fun j hj hij hl hw => ?_)]
    · simp only [wrE, ho, setE]
      split <;> rfl
    · obtain ⟨oj, hoj, hdj⟩ := wrE_dst hw
      rcases conf j oj hoj (by omega) with h | ⟨⟨_, h2⟩, _⟩
      · have := h.1 hl; omega
      · obtain ⟨a1, a2, a3⟩ := Oper.apart_spec (h2 hij)
        simp only [wrE, ho]
        rw [if_neg (fun e => a2 t e hdj)]
  have eH : HD os st us cs (fun j => if j = i then true else L j) = addC (applyU (HD os st us cs L) (us i)) (st.next + i) (cs i) := by
    funext k
    rw [addC_wr hf.keys hok k]
    unfold HD
    rw [fold_set hil hi (fun j hj hij hl hw => ?_)]
    · simp only [wrH, ho]
    · obtain ⟨oj, hoj, hm⟩ := wrH_mem hw
      rcases conf j oj hoj (by omega) with h | ⟨_, h2, h3⟩
      · have := h.1 hl; omega
      · cases hwi : wrH os st.next us cs i k with
        | none => rfl
        | some v =>
          exfalso
          obtain ⟨oi, hoi, hmi⟩ := wrH_mem (k := k) (i := i) (by rw [hwi]; rfl)
          have hwi' : k ∈ writes (sts i).next (us i) (cs i) := by
            unfold writes
            rcases hmi with ⟨h1, h4⟩ | ⟨h1, _⟩
            · obtain ⟨ch, hch⟩ := Option.isSome_iff_exists.1 h4
              rw [hch, hcx, h1]; simp
            · exact List.mem_append_left _ h1
          rcases hm with ⟨h1, h4⟩ | ⟨_, h1⟩
          · rcases hmi with ⟨h5, _⟩ | ⟨_, h5⟩
            · omega
            · refine h3 k ?_ (List.mem_append_right _ h5)
              have hxj := (hrun.consts j (by omega)).2.2.1
              unfold writes
              obtain ⟨ch, hch⟩ := Option.isSome_iff_exists.1 h4
              rw [hch, hxj, h1]; simp
          · exact h2 k hwi' (List.mem_append_right _ h1)
  rw [eE, eH] at hnext
  refine hf.run φ R a w (fun x hx => by rw [evEq x hx]; exact hs.ev x) (fun t ht => ?_) (fun x hx id c hid hc => hs.heap.rel id c (by rw [heapEq id (touchOp x hx id hid)]; exact hc))
    (hrel_old hok hs.heap) hs.rlt (by rw [hcg]; exact hs.gl) next Q ?_
  · obtain ⟨g, hg, hgt⟩ := ht
    have : (sts i).ev (.tmp t) = ED os st vs L t := by
      show (sts i).get t = _
      refine (slotEq t (.inl ?_)).symm
      unfold Oper.looksAt
      refine List.mem_append_right _ ?_
      rw [hg]
      simp only [hgt]
      simp
    rw [this]
    exact hs.env t
  · intro φ' R' w' u hsu hu
    rw [hcx] at hsu
    obtain ⟨h1, h2⟩ := SatF.step hs hfresh (show st.next + i < st.next + os.length by omega) (Nat.le_refl _) hok hsu hu o.dst (fun d hd' => by
        simp only [dstB, hd', decide_eq_true_eq] at hd
        exact hd)
      (fun j hj => (hf.names j hj).imp (hnamed j) (fun ⟨e, hc⟩ => ⟨by rw [e, hcx], hc⟩)) (fun cells j hc hj => hnamed j (hf.cnames cells j hc hj)) (fun x hx j hj => hnamed j (hf.unames x hx j hj))
    exact hnext R' φ' _ w' h1 h2 (fun j hj => hsu.place j (by omega))
end
end Go.Fw
