/- The framework, part 13: statements whose order Go leaves open. -/
import Derived.Test.YtnleiflijccefaaFw12
import Derived.StillTail
set_option linter.all false
set_option linter.unusedSectionVars false
set_option linter.unusedSimpArgs false
namespace Go.Fw

/-! ### stores of keyed values, written by numbered writers -/
def fold {K V : Type} (wr : Nat → K → Option V) (L : Nat → Bool) (init : K → V) : Nat → K → V
  | 0, k => init k
  | m + 1, k => if L m = true then (wr m k).getD (fold wr L init m k) else fold wr L init m k

theorem fold_congr {K V : Type} {wr : Nat → K → Option V} {L L' : Nat → Bool} {init : K → V} {k : K} : ∀ n, (∀ j, j < n → L j = L' j) → fold wr L init n k = fold wr L' init n k
  | 0, _ => rfl
  | n + 1, h => by simp only [fold, fold_congr n (fun j hj => h j (by omega)), h n (by omega)]

theorem fold_at {K V : Type} {wr : Nat → K → Option V} {L : Nat → Bool} {init : K → V} {k : K} {i n : Nat} (hi : i ≤ n) (h : ∀ j, j < n → (wr j k).isSome = true → (L j = true ↔ j < i)) :
    fold wr L init n k = fold wr (fun _ => true) init i k := by
  have key : ∀ m, m ≤ n → fold wr L init m k = fold wr (fun _ => true) init (min m i) k := by
    intro m
    induction m with
    | zero => intro _; simp [fold]
    | succ m ih =>
      intro hm
      have ih := ih (by omega)
      simp only [fold]
      cases hw : wr m k with
      | none =>
        simp only [Option.getD_none, ite_self]
        rw [ih]
        by_cases hmi : m < i
        · rw [show min (m + 1) i = min m i + 1 by omega, show min m i = m by omega]
          simp [fold, hw]
        · rw [show min (m + 1) i = min m i by omega]
      | some v =>
        have := h m (by omega) (by simp [hw])
        by_cases hmi : m < i
        · rw [if_pos (this.2 hmi), show min (m + 1) i = m + 1 by omega]
          simp [fold, hw]
        · rw [if_neg (fun hl => hmi (this.1 hl)), ih, show min (m + 1) i = min m i by omega]
  rw [key n (Nat.le_refl _), Nat.min_eq_right hi]

theorem fold_set {K V : Type} {wr : Nat → K → Option V} {L : Nat → Bool} {init : K → V} {k : K} {i n : Nat} (hin : i < n) (hi : L i = false) (h : ∀ j, j < n → i < j → L j = true → (wr j k).isSome = true → wr i k = none) :
    fold wr (fun j => if j = i then true else L j) init n k = (wr i k).getD (fold wr L init n k) := by
  have lo : ∀ m, m ≤ i → fold wr (fun j => if j = i then true else L j) init m k = fold wr L init m k := fun m hm =>
    fold_congr m (fun j hj => by rw [if_neg (by omega)])
  have key : ∀ m, i < m → m ≤ n → fold wr (fun j => if j = i then true else L j) init m k = (wr i k).getD (fold wr L init m k) := by
    intro m
    induction m with
    | zero => intro h; omega
    | succ m ih =>
      intro h1 h2
      simp only [fold]
      by_cases e : m = i
      · subst e
        simp only [if_true]
        rw [lo m (Nat.le_refl _)]
        simp [hi]
      · simp only [if_neg e]
        rw [ih (by omega) (by omega)]
        cases hl : L m with
        | false => simp
        | true =>
          simp only [if_true]
          cases hw : wr m k with
          | none => simp
          | some v =>
            have := h m (by omega) (by omega) hl (by simp [hw])
            simp [this]
  exact key n hin (Nat.le_refl _)

/-! ### which operation waits for which -/
def maskOf (acc : List Nat) (o : Oper) : Nat := o.after.toList.foldl (fun s e => if Region.binds .any e then s ||| 2 ^ e.on ||| acc.getD e.on 0 else s) 0
def masks : List Oper → List Nat → List Nat
  | [], acc => acc
  | o :: r, acc => masks r (acc ++ [maskOf acc o])

theorem mask_fold (acc : List Nat) (i : Nat) : ∀ (es : List Edge) (s : Nat), (es.foldl (fun s e => if Region.binds .any e then s ||| 2 ^ e.on ||| acc.getD e.on 0 else s) s).testBit i = true →
    s.testBit i = true ∨ ∃ e ∈ es, Region.binds .any e = true ∧ (e.on = i ∨ (acc.getD e.on 0).testBit i = true)
  | [], s, h => .inl h
  | e :: es, s, h => by
    simp only [List.foldl_cons] at h
    rcases mask_fold acc i es _ h with h | ⟨e', he', h⟩
    · split at h
      · rename_i hb
        simp only [Nat.testBit_or, Bool.or_eq_true] at h
        rcases h with (h | h) | h
        · exact .inl h
        · rw [Nat.testBit_two_pow] at h
          exact .inr ⟨e, List.mem_cons_self .., hb, .inl (by simpa using h)⟩
        · exact .inr ⟨e, List.mem_cons_self .., hb, .inr h⟩
      · exact .inl h
    · exact .inr ⟨e', List.mem_cons_of_mem _ he', h⟩

theorem masks_spec : ∀ (os : List Oper) (pre : List Oper) (acc : List Nat), acc.length = pre.length →
    (∀ j o, pre[j]? = some o → ∀ i, (acc.getD j 0).testBit i = true → ∃ e ∈ o.after, Region.binds .any e = true ∧ (e.on = i ∨ (e.on < j ∧ (acc.getD e.on 0).testBit i = true))) →
    ∀ j o, (pre ++ os)[j]? = some o → ∀ i, ((masks os acc).getD j 0).testBit i = true → ∃ e ∈ o.after, Region.binds .any e = true ∧ (e.on = i ∨ (e.on < j ∧ ((masks os acc).getD e.on 0).testBit i = true))
  | [], pre, acc, _, h => by simpa [masks] using h
  | o' :: os, pre, acc, hl, h => by
    intro j o hj i hb
    simp only [masks] at hb ⊢
    have := masks_spec os (pre ++ [o']) (acc ++ [maskOf acc o']) (by simp [hl]) (fun j o hj i hb => by
      rcases Nat.lt_trichotomy j pre.length with hlt | heq | hgt
      · rw [List.getElem?_append_left hlt] at hj
        have e1 : (acc ++ [maskOf acc o']).getD j 0 = acc.getD j 0 := by simp [List.getD, List.getElem?_append_left (show j < acc.length by omega)]
        rw [e1] at hb
        obtain ⟨e, he, hbd, h1 | ⟨h1, h2⟩⟩ := h j o hj i hb
        · exact ⟨e, he, hbd, .inl h1⟩
        · exact ⟨e, he, hbd, .inr ⟨h1, by simpa [List.getD, List.getElem?_append_left (show e.on < acc.length by omega)] using h2⟩⟩
      · subst heq
        simp at hj
        subst hj
        have e1 : (acc ++ [maskOf acc o']).getD pre.length 0 = maskOf acc o' := by simp [List.getD, ← hl]
        rw [e1] at hb
        rcases mask_fold acc i _ 0 hb with hb | ⟨e, he, hbd, h1 | h1⟩
        · simp at hb
        · exact ⟨e, by simpa using he, hbd, .inl h1⟩
        · have hlt : e.on < acc.length := by
            rcases Nat.lt_or_ge e.on acc.length with h | h
            · exact h
            · simp [List.getD, List.getElem?_eq_none h] at h1
          exact ⟨e, by simpa using he, hbd, .inr ⟨by omega, by simpa [List.getD, List.getElem?_append_left hlt] using h1⟩⟩
      · rw [List.getElem?_eq_none (by simp; omega)] at hj
        simp at hj) j o (by simpa using hj) i hb
    exact this

/-- What is listed is closed under what it waits for. -/
def Cl (ops : Array Oper) (L : Nat → Bool) : Prop := ∀ j o, ops[j]? = some o → L j = true → ∀ e ∈ o.after, Region.binds .any e = true → L e.on = true
theorem cl_mask {ops : Array Oper} {L : Nat → Bool} (hc : Cl ops L) : ∀ (j : Nat) (o : Oper), ops[j]? = some o → (∀ e ∈ o.after, Region.binds .any e = true → L e.on = true) → ∀ i, ((masks ops.toList []).getD j 0).testBit i = true → L i = true := by
  intro j
  induction j using Nat.strongRecOn with
  | _ j ih =>
    intro o ho hall i hb
    obtain ⟨e, he, hbd, h | ⟨h1, h2⟩⟩ := masks_spec ops.toList [] [] rfl (fun j o h => by simp at h) j o (by simpa using ho) i hb
    · rw [← h]; exact hall e he hbd
    · have hlt : e.on < ops.size := by have := (Array.getElem?_eq_some_iff.1 ho).1; omega
      have hoe : ops[e.on]? = some ops[e.on] := by simp [hlt]
      exact ih e.on h1 _ hoe (hc e.on _ hoe (hall e he hbd)) i h2

/-! ### the head of a region: its operations in any order -/
def touched (ev : Operand → AV) (o : Oper) (upd : Upd) : List Nat := (o.op.operands.toList.flatMap fun x => (ev x).ids) ++ upd.map (·.1)
def writes (id : Nat) (upd : Upd) (c : Option Chunk) : List Nat := (upd.filterMap fun x => match x.2.2 with | some _ => some x.1 | none => none) ++ (match c with | some _ => [id] | none => [])

def awpHead (P : Program) (T : Tab) (ops : Array Oper) : List Oper → St → List (List Nat × List Nat) → (St → List (List Nat × List Nat) → Prop) → Prop
  | [], st, log, K => K st log
  | o :: r, st, log, K => opG P T ops st.gl st.lk st.ev st.next o fun v upd c => awpHead P T ops r (st.step o.dst v upd c) ((touched st.ev o upd, writes st.next upd c) :: log) K

def apartIds (e f : List Nat × List Nat) : Bool := e.2.all (fun k => !f.1.contains k) && f.2.all (fun k => !e.1.contains k)
def pairsOK (ops : Array Oper) (es : List (List Nat × List Nat)) : Bool :=
  let ms := masks ops.toList []
  (List.range es.length).all fun j => (List.range j).all fun i => (ms.getD j 0).testBit i ||
    match ops[i]?, ops[j]?, es[i]?, es[j]? with
    | some a, some b, some e, some f => a.apart ops b && apartIds e f
    | _, _, _, _ => false
def edgesB (ops : Array Oper) : Bool := (List.range ops.size).all fun j => match ops[j]? with | some o => o.after.all fun e => !Region.binds .any e || decide (e.on < j) | none => true
def drawB (ops : Array Oper) (N : Nat) : Bool := edgesB ops && (Nat.beq N ops.size || (Nat.blt N ops.size && Region.sinkB .any ops N && Region.chainB .any ops N))

def awpDraw (P : Program) (T : Tab) (ops : Array Oper) (N : Nat) (st : St) (K : St → Prop) : Prop :=
  awpHead P T ops (ops.toList.take N) st [] fun st' log => pairsOK ops log.reverse = true ∧ awpSeq P T ops (ops.toList.drop N) st' K

/-! ### abstract well-formedness -/
structure WF (next : Nat) (E : Nat → AV) (H : Heap) (gl : Gl) : Prop where
  named : ∀ t id, (E t).has id = true → ∃ c, H id = some c
  hnamed : ∀ j cs id, H j = some (.box cs) → AV.hasAny id cs = true → ∃ c, H id = some c
  hnext : ∀ id c, H id = some c → id < next
  glf : ∀ g cs, lookup g gl = some cs → ∀ id, AV.hasAny id cs = false
theorem WF.ev {next : Nat} {E : Nat → AV} {H : Heap} {gl : Gl} (h : WF next E H gl) (x : Operand) (id : Nat) (hx : (evF E gl x).has id = true) : ∃ c, H id = some c := by
  cases x with
  | tmp t => exact h.named t id hx
  | const v => simp [evF, constAV_has] at hx
  | global g =>
    simp only [evF] at hx
    cases hg : lookup g gl with
    | none => simp [hg, AV.has] at hx
    | some cs => simp [hg, AV.has, h.glf g cs hg id] at hx
  | func f => simp [evF, AV.has, AV.hasAny] at hx
theorem WF.named_ex {next : Nat} {E : Nat → AV} {H : Heap} {gl : Gl} (h : WF next E H gl) {o : Oper} {upd : Upd} (hu : updOK H upd) {j : Nat} (hj : Named o (evF E gl) H upd j) : ∃ ch, H j = some ch := by
  rcases hj with ⟨x, hx, h1 | ⟨k, cs, _, h2, h3⟩⟩ | ⟨x, hx, rfl⟩
  · exact h.ev x j h1
  · exact h.hnamed k cs j h2 h3
  · exact ⟨_, hu.get x hx⟩
theorem WF.step {st : St} (h : WF st.next st.get st.lk st.gl) {P : Program} {ops : Array Oper} {o : Oper} {v : AV} {upd : Upd} {c : Option Chunk} (hf : OpFact P st.gl ops o st.ev st.lk st.next v upd c) :
    WF (st.step o.dst v upd c).next (st.step o.dst v upd c).get (st.step o.dst v upd c).lk (st.step o.dst v upd c).gl := by
  rw [step_get, step_lk _ _ _ _ _ hf.keys hf.ok]
  have hsub : ∀ j, (∃ ch, st.lk j = some ch) → ∃ ch, addC (applyU st.lk upd) st.next c j = some ch := fun j ⟨ch, hch⟩ => by
    obtain ⟨ch', h'⟩ := applyU_some (u := upd) hch
    unfold addC
    by_cases e : j = st.next
    · have := h.hnext j ch hch; omega
    · exact ⟨ch', by rw [if_neg e, h']⟩
  have hinv : ∀ j ch, addC (applyU st.lk upd) st.next c j = some ch → (j = st.next ∧ c = some ch) ∨ applyU st.lk upd j = some ch := fun j ch hj => by
    unfold addC at hj
    split at hj
    · rename_i e
      cases c with
      | none => exact .inr hj
      | some c' => exact .inl ⟨e, hj⟩
    · exact .inr hj
  refine ⟨fun t j hj => ?_, fun j cs k hj hk => ?_, fun j ch hj => ?_, h.glf⟩
  · unfold setE at hj
    split at hj
    · rcases hf.names j hj with h1 | ⟨rfl, h2⟩
      · exact hsub j (h.named_ex hf.ok h1)
      · obtain ⟨ch, rfl⟩ := Option.isSome_iff_exists.1 h2
        exact ⟨ch, by simp [addC]⟩
    · exact hsub j (h.named t j hj)
  · rcases hinv j _ hj with ⟨_, hc⟩ | hj
    · exact hsub k (h.named_ex hf.ok (hf.cnames cs k hc hk))
    · rcases applyU_inv hj with ⟨x, hx, _, h1⟩ | ⟨_, hj⟩
      · simp only [Chunk.box.injEq] at h1
        exact hsub k (h.named_ex hf.ok (hf.unames x hx k (by rw [← h1]; exact hk)))
      · exact hsub k (h.hnamed j cs k hj hk)
  · show j < st.next + 1
    rcases hinv j _ hj with ⟨e, _⟩ | hj
    · omega
    · rcases applyU_inv hj with ⟨x, hx, h1, _⟩ | ⟨_, hj⟩
      · have := h.hnext x.1 _ (hf.ok.get x hx); omega
      · have := h.hnext j _ hj; omega
end Go.Fw
