/- The framework, part 10: sequences of operations. -/
import Derived.Test.YtnleiflijccefaaFw10a
set_option linter.all false
set_option linter.unusedSectionVars false
set_option linter.unusedSimpArgs false
namespace Go.Fw

def applyW (h : List (Nat × Chunk)) : Upd → List (Nat × Chunk)
  | [] => h
  | (j, _, some n) :: r => (j, .box n) :: applyW h r
  | (_, _, none) :: r => applyW h r

/-- The state behind an operation. -/
def St.step (st : St) (dst : Option Nat) (v : AV) (upd : Upd) (c : Option Chunk) : St :=
  { n := st.n, fix := st.fix, next := st.next + 1, env := (match dst with | some d => (d, v) :: st.env | none => st.env),
    heap := (match c with | some ch => (st.next, ch) :: applyW st.heap upd | none => applyW st.heap upd), gl := st.gl }

theorem keys_tail {x : Nat × List AV × Option (List AV)} {r : Upd} (h : keysOK (x :: r) = true) : (∀ y ∈ r, y.1 ≠ x.1) ∧ keysOK r = true := by
  simp only [keysOK, Bool.and_eq_true, Bool.not_eq_true'] at h
  refine ⟨fun y hy e => ?_, h.2⟩
  have := h.1
  rw [List.any_eq_false] at this
  exact this y hy (by simp [e])

theorem lookup_applyW {h : List (Nat × Chunk)} : ∀ {u : Upd}, keysOK u = true → updOK (fun k => lookup k h) u → ∀ k, lookup k (applyW h u) = applyU (fun k => lookup k h) u k
  | [], _, _, k => rfl
  | (j, old, some n) :: r, hk, hu, k => by
    obtain ⟨h1, h2⟩ := keys_tail hk
    simp only [applyW, applyU, lookup_cons, lookup_applyW h2 hu.2 k, newCells]
    by_cases e : j = k
    · rw [if_pos e, if_pos e.symm]
    · rw [if_neg e, if_neg (fun h => e h.symm)]
  | (j, old, none) :: r, hk, hu, k => by
    obtain ⟨h1, h2⟩ := keys_tail hk
    simp only [applyW, applyU, lookup_applyW h2 hu.2 k, newCells]
    by_cases e : k = j
    · rw [if_pos e, e, applyU_none (fun x hx => h1 x hx)]
      exact hu.1
    · rw [if_neg e]

theorem step_get (st : St) (dst : Option Nat) (v : AV) (upd : Upd) (c : Option Chunk) : (st.step dst v upd c).get = setE st.get dst v := by
  funext t
  cases dst with
  | none => simp [St.step, St.get, setE]
  | some d =>
    simp only [St.step, St.get, setE, lookup_cons, Option.some.injEq]
    by_cases h : d = t <;> simp [h]
theorem step_lk (st : St) (dst : Option Nat) (v : AV) (upd : Upd) (c : Option Chunk) (hk : keysOK upd = true) (hu : updOK st.lk upd) :
    (st.step dst v upd c).lk = addC (applyU st.lk upd) st.next c := by
  funext k
  cases c with
  | none =>
    simp only [St.lk, St.step, addC, lookup_applyW hk hu k]
    simp
  | some ch =>
    simp only [St.lk, St.step, addC, lookup_cons, lookup_applyW hk hu k]
    by_cases e : st.next = k
    · rw [if_pos e, if_pos e.symm]
    · rw [if_neg e, if_neg (fun h => e h.symm)]

theorem named_ex {R : Prot} {φ : Place} {n next : Nat} {E : Nat → AV} {H : Heap} {gl : Gl} {a : Act} {w : World} (h : SatF R φ n next E H gl a w) {o : Oper} {upd : Upd} (hu : updOK H upd) {j : Nat}
    (hj : Named o (evF E gl) H upd j) : ∃ ch, H j = some ch := by
  rcases hj with ⟨x, hx, h1 | ⟨k, cs, _, h2, h3⟩⟩ | ⟨x, hx, rfl⟩
  · exact h.ev_named x j h1
  · exact h.hnamed k cs j h2 h3
  · exact ⟨_, hu.get x hx⟩

theorem hrel_old {φ : Place} {R : Prot} {w : World} {H : Heap} {upd : Upd} (hu : updOK H upd) (h : HRel φ R w H) : HRel φ R w (applyU noHeap upd.old) := by
  have key : ∀ k c, applyU noHeap upd.old k = some c → H k = some c := fun k c hk => by
    obtain ⟨x, hx, rfl, rfl⟩ := old_get hk
    exact hu.get x hx
  exact ⟨fun k c hk => h.rel k c (key k c hk), fun k k' c c' b cap cap' hk hk' => h.inj k k' c c' b cap cap' (key k c hk) (key k' c' hk')⟩

theorem guardSlot_rep {R : Prot} {φ : Place} {n next : Nat} {E : Nat → AV} {H : Heap} {gl : Gl} {a : Act} {w : World} (h : SatF R φ n next E H gl a w) (t : Nat) : RepV φ R w (evF E gl (.tmp t)) (a.tmps.getD t undef) := h.env t

def dstB (o : Oper) (n : Nat) : Bool := match o.dst with | some d => decide (d < n) | none => true

/-- One operation, in the place where it stands. -/
theorem fact_step {P : Program} {ops : Array Oper} {o : Oper} {st : St} {v : AV} {upd : Upd} {c : Option Chunk} (hf : OpFact P st.gl ops o st.ev st.lk st.next v upd c) (hd : dstB o st.n = true)
    {R : Prot} {φ : Place} {a : Act} {w : World} (h : Sat R φ st a w) {next : Act → World → Prop} {Q : Exit → Act → World → Prop}
    (hnext : ∀ R' φ' a' w', Sat R' φ' (st.step o.dst v upd c) a' w' → Ext st R φ w (st.step o.dst v upd c) R' φ' w' → next a' w') :
    (if Region.wanted o (yielded ops a.tmps) = true then o.wp P a w next Q ∨ (o.asks P a w ∧ LetsOut Q) else next (a.put o.dst undef) w) := by
  obtain ⟨h, hfx⟩ := h
  refine hf.run φ R a w (fun x _ => h.ev x) (fun t _ => h.env t) (fun x hx id c' _ hc => h.heap.rel id c' hc) (hrel_old hf.ok h.heap) h.rlt h.gl next Q ?_
  intro φ' R' w' u hs hu
  have hfresh : st.lk st.next = none := by
    cases hh : st.lk st.next with
    | none => rfl
    | some c => have := h.hnext _ _ hh; omega
  obtain ⟨h1, h2⟩ := SatF.step h hfresh (Nat.lt_succ_self _) (Nat.le_succ _) hf.ok hs hu o.dst (fun d hd' => by
      simp only [dstB, hd', decide_eq_true_eq] at hd
      exact hd)
    (fun j hj => (hf.names j hj).imp (fun hn => named_ex h hf.ok hn) (fun h => h)) (fun cs j hc hj => named_ex h hf.ok (hf.cnames cs j hc hj)) (fun x hx j hj => named_ex h hf.ok (hf.unames x hx j hj))
  rw [← step_get st o.dst v upd c, ← step_lk st o.dst v upd c hf.keys hf.ok] at h1
  rw [← step_lk st o.dst v upd c hf.keys hf.ok] at h2
  exact hnext R' φ' _ w' ⟨h1, Nat.le_succ_of_le hfx⟩ ⟨h2, fun id hid => hs.place id (by omega), rfl, rfl⟩

/-! ### append to a slice of the call's own -/
def AV.may (id : Nat) (v : AV) : Bool := match v with | .maybe _ _ => true | v => v.has id
theorem may_has {id : Nat} {v : AV} (h : v.may id = false) : v.has id = false := by
  unfold AV.may at h
  split at h
  · simp at h
  · exact h
def AV.scrub (id : Nat) (v : AV) : AV := match v.may id with | true => .any | false => v
def Chunk.scrub (id : Nat) : Chunk → Chunk
  | .box cs => .box (cs.map (AV.scrub id))
  | c => c
def scrubEnv (id : Nat) (env : List (Nat × AV)) : List (Nat × AV) := env.map fun p => (p.1, p.2.scrub id)
def scrubHeap (id : Nat) (h : List (Nat × Chunk)) : List (Nat × Chunk) := h.map fun p => (p.1, p.2.scrub id)
def St.app (st : St) (dst : Option Nat) (id : Nat) (v : AV) (ch : Chunk) : St :=
  { n := st.n, fix := st.fix, next := st.next + 1, env := (match dst with | some d => (d, v) :: scrubEnv id st.env | none => scrubEnv id st.env), heap := (id, ch) :: scrubHeap id st.heap, gl := st.gl }

theorem scrub_has (id : Nat) (v : AV) : (v.scrub id).has id = false := by
  unfold AV.scrub
  split
  · rfl
  · rename_i h; exact may_has h
theorem scrub_sub {id j : Nat} {v : AV} (h : (v.scrub id).has j = true) : v.has j = true := by
  unfold AV.scrub at h
  split at h
  · simp [AV.has] at h
  · exact h
theorem scrub_ne {id j : Nat} {v : AV} (h : (v.scrub id).has j = true) : j ≠ id := fun e => by subst e; rw [scrub_has] at h; simp at h
theorem lookup_map {α β : Type} (f : α → β) (k : Nat) : ∀ (l : List (Nat × α)), lookup k (l.map fun p => (p.1, f p.2)) = (lookup k l).map f
  | [] => rfl
  | (j, a) :: r => by
    simp only [List.map_cons, lookup_cons, lookup_map f k r]
    split <;> simp
theorem scrub_rep {φ φ' : Place} {R R' : Prot} {w w' : World} {id : Nat} {v : AV} {u : Value} (h : RepV φ R w v u) (hp : ∀ j, j ≠ id → φ' j = φ j) (hR : ∀ b o, R b o → R' b o) (hw : ∀ b o, R b o → w'.cell? ⟨b, o, none⟩ = w.cell? ⟨b, o, none⟩) :
    RepV φ' R' w' (v.scrub id) u := by
  unfold AV.scrub
  split
  · simp [RepV]
  · rename_i hn
    have hn := may_has hn
    exact RepV.mono hR hw (fun j hj => hp j (fun e => by subst e; rw [hn] at hj; simp at hj)) h
theorem scrub_reps {φ φ' : Place} {R R' : Prot} {w w' : World} {id : Nat} (hp : ∀ j, j ≠ id → φ' j = φ j) (hR : ∀ b o, R b o → R' b o) (hw : ∀ b o, R b o → w'.cell? ⟨b, o, none⟩ = w.cell? ⟨b, o, none⟩) :
    ∀ {vs : List AV} {us : List Value}, RepVs φ R w vs us → RepVs φ' R' w' (vs.map (AV.scrub id)) us
  | [], _, h => by simpa [RepVs] using h
  | v :: vs, _, h => by
    simp only [RepVs] at h
    obtain ⟨u, us, rfl, h1, h⟩ := h
    exact ⟨u, us, rfl, scrub_rep h1 hp hR hw, scrub_reps hp hR hw h⟩
theorem hasAny_scrub {id j : Nat} {vs : List AV} (h : AV.hasAny j (vs.map (AV.scrub id)) = true) : j ≠ id ∧ AV.hasAny j vs = true := by
  obtain ⟨x, hx, h1⟩ := hasAny_map _ _ _ h
  refine ⟨scrub_ne h1, ?_⟩
  have h2 := scrub_sub h1
  clear h h1
  induction vs with
  | nil => simp at hx
  | cons y vs ih =>
    simp only [AV.hasAny, Bool.or_eq_true]
    rcases List.mem_cons.1 hx with rfl | hx
    · exact .inl h2
    · exact .inr (ih hx)

/-- A slice of the call's own has grown. -/
theorem app_sat {R : Prot} {φ : Place} {st : St} {a : Act} {w : World} (hs : Sat R φ st a w) {id : Nat} {ty : Ty} {old xs : List ty.D} (hid : st.lk id = some (.arr ty old)) (hfix : st.fix ≤ id) {m : Nat}
    {φ' : Place} {w' : World} (hp : ∀ j, j ≠ id → φ' j = φ j) {R' : Prot} (hR : ∀ b o, R b o → R' b o) (hRn : ∀ b o, R' b o → R b o ∨ w.heap.size ≤ b ∨ ∃ cap, φ id = some (b, cap)) (hRB : RB R' w') (hos : w'.os = w.os) (htp : w'.tape = w.tape) (hout : w'.output = w.output) (hsz : w.heap.size ≤ w'.heap.size)
    (hcell : ∀ b o, R b o → w'.cell? ⟨b, o, none⟩ = w.cell? ⟨b, o, none⟩) (hblk : ∀ b, b < w.heap.size → (∀ cap, φ id ≠ some (b, cap)) → w'.heap[b]? = w.heap[b]?)
    (hch : ChunkRel φ' R' w' id (.arr ty xs)) (hpl : ∀ b cap, φ' id = some (b, cap) → w.heap.size ≤ b ∨ ∃ cap', φ id = some (b, cap')) {u : Value} (hu : RepV φ' R' w' (.own id m) u)
    (dst : Option Nat) (hd : ∀ d, dst = some d → d < st.n) : Sat R' φ' (st.app dst id (.own id m) (.arr ty xs)) (a.put dst u) w' ∧ Ext st R φ w (st.app dst id (.own id m) (.arr ty xs)) R' φ' w' := by
  have hget : ∀ t, (st.app dst id (.own id m) (.arr ty xs)).get t = if dst = some t then .own id m else (st.get t).scrub id := by
    intro t
    cases dst with
    | none =>
      simp only [St.app, St.get, scrubEnv, lookup_map]
      cases lookup t st.env <;> simp [AV.scrub, AV.may, AV.has]
    | some d =>
      simp only [St.app, St.get, lookup_cons, scrubEnv, lookup_map, Option.some.injEq]
      by_cases e : d = t
      · simp [e]
      · rw [if_neg e, if_neg e]
        cases lookup t st.env <;> simp [AV.scrub, AV.may, AV.has]
  have hlk : ∀ k, (st.app dst id (.own id m) (.arr ty xs)).lk k = if k = id then some (.arr ty xs) else (st.lk k).map (Chunk.scrub id) := by
    intro k
    simp only [St.app, St.lk, lookup_cons, scrubHeap, lookup_map]
    by_cases e : id = k
    · rw [if_pos e, if_pos e.symm]
    · rw [if_neg e, if_neg (fun h => e h.symm)]
  have hsome : ∀ j, (∃ c, st.lk j = some c) → ∃ c, (st.app dst id (.own id m) (.arr ty xs)).lk j = some c := fun j ⟨c, hc⟩ => by
    rw [hlk]
    split
    · exact ⟨_, rfl⟩
    · exact ⟨_, by rw [hc]; rfl⟩
  have hinv : ∀ j c, (st.app dst id (.own id m) (.arr ty xs)).lk j = some c → (j = id ∧ c = .arr ty xs) ∨ (j ≠ id ∧ ∃ c', st.lk j = some c' ∧ c = c'.scrub id) := fun j c hj => by
    rw [hlk] at hj
    split at hj
    · rename_i e; simp only [Option.some.injEq] at hj; exact .inl ⟨e, hj.symm⟩
    · rename_i e
      obtain ⟨c', h1, h2⟩ := Option.map_eq_some_iff.1 hj
      exact .inr ⟨e, c', h1, h2.symm⟩
  have hown : ∀ b j c cap, j ≠ id → st.lk j = some c → φ j = some (b, cap) → b < w.heap.size ∧ (∀ o, ¬ R b o) ∧ ∀ cap', φ id ≠ some (b, cap') := fun b j c cap hj hc hpj => by
    have := (hs.s.heap.rel j c hc).block hpj
    exact ⟨this.1, this.2, fun cap' h => hj (hs.s.heap.inj j id c _ b cap cap' hc hid hpj h)⟩
  refine ⟨⟨⟨fun t => ?_, fun t j hj => ?_, fun j cs k hj hk => ?_, fun j c hj => ?_, ?_, ⟨fun j c hj => ?_, fun j k c d b cap cap' hj hk hpj hpk => ?_⟩, hRB, ?_, fun g cs hg => ?_⟩, ?_⟩,
    ⟨⟨hos, htp, hout, hsz, fun b hb ho => hblk b hb (fun cap h => ho ⟨id, _, cap, hid, h⟩), hR, hcell, fun b o h => by
      rcases hRn b o h with h | h | ⟨cap, h⟩
      · exact .inl h
      · exact .inr (.inl h)
      · exact .inr (.inr ⟨id, _, cap, hid, h⟩), fun b hb => ?_⟩, fun j hj => hp j (by omega), rfl, rfl⟩⟩
  · rw [hget, getD_put a dst u t (fun d hd' => by rw [hs.s.sz]; exact hd d hd')]
    split
    · exact hu
    · exact scrub_rep (hs.s.env t) hp hR hcell
  · rw [hget] at hj
    split at hj
    · simp [AV.has] at hj
      subst hj
      exact hsome _ ⟨_, hid⟩
    · exact hsome j (hs.s.named t j (scrub_sub hj))
  · rcases hinv j _ hj with ⟨_, h⟩ | ⟨_, c', h1, h2⟩
    · simp at h
    · cases c' with
      | box cs' =>
        simp only [Chunk.scrub, Chunk.box.injEq] at h2
        rw [h2] at hk
        exact hsome k (hs.s.hnamed j cs' k h1 (hasAny_scrub hk).2)
      | arr t l => simp [Chunk.scrub] at h2
  · show j < st.next + 1
    rcases hinv j _ hj with ⟨e, _⟩ | ⟨_, c', h1, _⟩
    · have := hs.s.hnext id _ hid; omega
    · have := hs.s.hnext j _ h1; omega
  · have := hs.s.sz
    cases dst <;> simp [Act.put, St.app, this]
  · rcases hinv j _ hj with ⟨rfl, rfl⟩ | ⟨hne, c', h1, rfl⟩
    · exact hch
    · have hrel := hs.s.heap.rel j c' h1
      cases c' with
      | box cs =>
        obtain ⟨b, cap, vs, e, fr, q1, q2, q3, q4, q5⟩ := hrel
        obtain ⟨ob1, ob2, ob3⟩ := hown b j _ cap hne h1 q1
        exact ⟨b, cap, vs, e, fr, by rw [hp j hne, q1], by rw [hblk b ob1 ob3, q2], scrub_reps hp hR hcell q3, fun o h => by
          rcases hRn b o h with h | h | ⟨c9, h⟩
          · exact q4 o h
          · omega
          · exact ob3 c9 h, q5⟩
      | arr t l =>
        exact ChunkRel.mono (c := .arr t l) hrel (hp j hne) (fun _ _ h => by simp at h) hR hcell (fun b cap hpj hlt => ⟨hblk b hlt (hown b j _ cap hne h1 hpj).2.2, fun o h => by
          rcases hRn b o h with h | h | ⟨c9, h⟩
          · exact h
          · omega
          · exact absurd h ((hown b j _ cap hne h1 hpj).2.2 c9)⟩)
  · rcases hinv j _ hj with ⟨e1, _⟩ | ⟨hne, c', h1, _⟩
    · rcases hinv k _ hk with ⟨e2, _⟩ | ⟨hne2, c2, h2, _⟩
      · rw [e1, e2]
      · rw [e1] at hpj
        rw [hp k hne2] at hpk
        obtain ⟨ob1, _, ob3⟩ := hown b k _ cap' hne2 h2 hpk
        rcases hpl b cap hpj with h | ⟨c3, h⟩
        · omega
        · exact absurd h (ob3 c3)
    · rw [hp j hne] at hpj
      rcases hinv k _ hk with ⟨e2, _⟩ | ⟨hne2, c2, h2, _⟩
      · rw [e2] at hpk
        obtain ⟨ob1, _, ob3⟩ := hown b j _ cap hne h1 hpj
        rcases hpl b cap' hpk with h | ⟨c3, h⟩
        · omega
        · exact absurd h (ob3 c3)
      · rw [hp k hne2] at hpk
        exact hs.s.heap.inj j k _ _ b cap cap' h1 h2 hpj hpk
  · have := hs.s.defers
    cases dst <;> simpa [Act.put] using this
  · have := hs.s.gl g cs hg
    refine ⟨RepV.mono hR hcell (fun j hj => ?_) this.1, this.2⟩
    simp only [AV.has] at hj
    rw [this.2 j] at hj
    simp at hj
  · have := hs.fx
    show st.fix ≤ st.next + 1
    omega
  · obtain ⟨j, c, cap, hj, hpj⟩ := hb
    rcases hinv j _ hj with ⟨e1, _⟩ | ⟨hne, c', h1, _⟩
    · rw [e1] at hpj
      rcases hpl b cap hpj with h | ⟨c3, h⟩
      · exact .inl h
      · exact .inr ⟨id, _, c3, hid, h⟩
    · rw [hp j hne] at hpj
      exact .inr ⟨j, c', cap, h1, hpj⟩

/-- Append to a slice of the call's own. -/
def appOwnV (T : Tab) (st : St) (dst : Option Nat) (id n : Nat) (ts tx : TypeId) (x : AV) (K : St → Prop) : Prop :=
  match tget T ts with
  | some e => match e.k with
    | .slice et => match tget T et, tyOf T 20 et, st.lk id with
      | some ee, some ty, some (.arr ty' xs) => if h : ty' = ty then match Nat.beq ee.size ty.size, notInt T tx, Nat.ble st.fix id, x.has id with
          | true, true, true, false => srcV st.lk ty x fun ys => (n ≤ xs.length ∧ (n + ys.length) * ee.bytes ≤ 140737488355328 ∧ n + ys.length ≤ 140737488355328) ∧
              K (st.app dst id (.own id (n + ys.length)) (.arr ty ((h ▸ xs : List ty.D).take n ++ ys)))
          | _, _, _, _ => False
        else False
      | _, _, _ => False
    | _ => False
  | none => False

/-- One chunk alone. -/
def oneC (id : Nat) (c : Chunk) : Heap := fun k => if k = id then some c else none

/-- A call that is handed a slice of the call's own, and hands it back, perhaps grown. -/
def callOwnV (P : Program) (st : St) (dst : Option Nat) (fv : AV) (args : List AV) (K : St → Prop) : Prop :=
  match fv with
  | .fn g caps => ∃ id ty xs ys m, st.lk id = some (.arr ty xs) ∧ st.fix ≤ id ∧ FSpec P st.gl g (args ++ caps) (oneC id (.arr ty xs)) (.own id m) (oneC id (.arr ty ys)) ∧ K (st.app dst id (.own id m) (.arr ty ys))
  | _ => False

def seqOp (P : Program) (T : Tab) (ops : Array Oper) (st : St) (o : Oper) (K : St → Prop) : Prop :=
  match o.op, o.guard with
  | .call ⟨.value f, args, ats⟩, none => (opG P T ops st.gl st.lk st.ev st.next o fun v upd c => K (st.step o.dst v upd c)) ∨
      needsAll ((Op.call ⟨.value f, args, ats⟩).operands.toList.map st.ev) (callOwnV P st o.dst (st.ev f).un (args.toList.map fun x => (st.ev x).un) K)
  | .call ⟨.builtin .append, ⟨[s, x]⟩, ⟨[ts, tx]⟩⟩, none => needs (st.ev s) (needs (st.ev x) (match (st.ev s).un with
      | .own id n => appOwnV T st o.dst id n ts tx (st.ev x).un K
      | .nils => appNilV T st.lk st.next ts tx (st.ev x).un (fun v c => K (st.step o.dst v [] c))
      | _ => False))
  | .store t x y, none => match st.ev x with
      | .eloc id sz i off => stElV T st o.dst t id sz i off (st.ev y) K
      | _ => opG P T ops st.gl st.lk st.ev st.next o fun v upd c => K (st.step o.dst v upd c)
  | _, _ => opG P T ops st.gl st.lk st.ev st.next o fun v upd c => K (st.step o.dst v upd c)

/-- Operations in their order. -/
def awpSeq (P : Program) (T : Tab) (ops : Array Oper) : List Oper → St → (St → Prop) → Prop
  | [], st, K => K st
  | o :: r, st, K => seqOp P T ops st o fun st' => awpSeq P T ops r st' K

section
variable {P : Program} {T : Tab} (hT : tabOK P T = true)
include hT

theorem appOwn_sound {ops : Array Oper} {st : St} {id n : Nat} {ts tx : TypeId} {s x : Operand} {K : St → Prop} (o : Oper) (ho : o.op = .call ⟨.builtin .append, ⟨[s, x]⟩, ⟨[ts, tx]⟩⟩) (hg : o.guard = none)
    (hsk : okP (st.ev s)) (hxk : okP (st.ev x)) (hsv : (st.ev s).un = .own id n) (h : appOwnV T st o.dst id n ts tx (st.ev x).un K) (hd : dstB o st.n = true) {R : Prot} {φ : Place} {a : Act} {w : World} (hs : Sat R φ st a w)
    {next : Act → World → Prop} {Q : Exit → Act → World → Prop} (hnext : ∀ R' φ' a' w' st', K st' → Sat R' φ' st' a' w' → Ext st R φ w st' R' φ' w' → next a' w') :
    (if Region.wanted o (yielded ops a.tmps) = true then o.wp P a w next Q ∨ (o.asks P a w ∧ LetsOut Q) else next (a.put o.dst undef) w) := by
  have hw : Region.wanted o (yielded ops a.tmps) = true := by simp [Region.wanted, hg]
  rw [if_pos hw]
  left
  unfold appOwnV at h
  split at h
  · rename_i e he
    split at h
    · rename_i et hk
      split at h
      · rename_i ee ty ty' xs hee hty hlk
        split at h
        · rename_i ety
          subst ety
          split at h
          · rename_i hsz hni hfix hxi
            have hsz := Nat.eq_of_beq_eq_true hsz
            have hfix := Nat.le_of_ble_eq_true hfix
            obtain ⟨ys, ⟨⟨hn, hb1, hb2⟩, hK⟩, hsrc⟩ := src_run hT h
            have hrs := (hs.s.ev s).un hsk
            have hrx := (hs.s.ev x).un hxk
            have hsv' : (evF st.get st.gl s).un = .own id n := hsv
            rw [hsv'] at hrs
            have hcx : ChOK φ R w st.lk (st.ev x).un := fun j c _ hc => hs.s.heap.rel j c hc
            have hcs : ChunkRel φ R w id (.arr ty' xs) := hs.s.heap.rel id _ hlk
            have hds : ∀ d, o.dst = some d → d < st.n := fun d hd' => by simp only [dstB, hd', decide_eq_true_eq] at hd; exact hd
            simp only [RepV] at hrs

            obtain ⟨p, cap, hav, hncap⟩ : ∃ p cap, a.eval s = .slice p n cap ∧ n ≤ cap := by
              rcases hrs with ⟨_, rfl, h9⟩ | ⟨b, cap, _, hc, h9⟩
              · exact ⟨none, 0, h9, Nat.le_refl _⟩
              · exact ⟨_, cap, h9, hc⟩
            have hex : (execOp a.eval o).run P w = ((Builtin.append_ #[ts, tx] o.type #[.slice p n cap, a.eval x]).run P w).andThen fun v w' => .ok (.value v) w' := by
              simp [execOp, ho, resolve, invoke, builtin, hav]
            unfold Oper.wp
            rw [hex]
            obtain ⟨cells, hrow, hl, hfc⟩ := hsrc φ R w _ hrx hcx
            by_cases hroom : n + ys.length ≤ cap
            · rw [append_room hT he hk hee hni hl (by rw [hsz]; exact hfc) hroom]
              rcases hrs with ⟨hφ, hn0, hsl⟩ | ⟨b, cap', hφ, hncap', hsl⟩
              · rw [hav] at hsl
                simp only [Value.slice.injEq] at hsl
                obtain ⟨rfl, _, rfl⟩ := hsl
                have hy0 : ys = [] := List.eq_nil_of_length_eq_zero (by omega)
                subst hy0; subst hn0
                simp only [Sem.run_pure, Result.andThen_ok]
                obtain ⟨h1, h2⟩ := app_sat hs hlk hfix (m := 0) (φ' := φ) (w' := w) (xs := []) (fun _ _ => rfl) (fun _ _ h => h) (fun _ _ h => .inl h) hs.s.rlt rfl rfl rfl (Nat.le_refl _) (fun _ _ _ => rfl) (fun _ _ _ => rfl) (.inl ⟨hφ, rfl⟩)
                  (fun b cap h => by rw [hφ] at h; simp at h) (u := .slice none 0 0) (by unfold RepV; exact .inl ⟨hφ, rfl, rfl⟩) o.dst hds
                exact hnext R φ _ _ _ (by simpa using hK) h1 h2
              · rw [hav] at hsl
                simp only [Value.slice.injEq] at hsl
                obtain ⟨rfl, _, rfl⟩ := hsl
                rcases hcs with ⟨h1, h2⟩ | ⟨b', cap', vs, te, fr, hφ', hh, hvs, hxcap, hel, hnR, hnf⟩
                · rw [hφ] at h1; simp at h1
                · rw [hφ] at hφ'
                  simp only [Option.some.injEq, Prod.mk.injEq] at hφ'
                  obtain ⟨rfl, rfl⟩ := hφ'
                  have hmul : (n + ys.length) * ty'.size ≤ cap * ty'.size := Nat.mul_le_mul_right _ hroom
                  rw [Nat.add_mul] at hmul
                  obtain ⟨vs', hv', hrun⟩ := run_storeCells_blk (P := P) (b := b) (off := 0 + n * ee.size) (e := te) (fr := fr) cells 0 vs w hh (by rw [hrow.1, hvs, hsz]; omega) hnf hrow.one
                  have hadd : (⟨b, 0, none⟩ : Addr).add (n * ee.size) = ⟨b, 0 + n * ee.size, none⟩ := Addr.add_lit _ _ _
                  simp only [hadd]
                  rw [hrun]
                  simp only [Result.andThen_ok]
                  have hlt : b < w.heap.size := (Array.getElem?_eq_some_iff.1 hh).1
                  have hcell : ∀ k o', R k o' → (setBlk w b (.cells vs' te fr)).cell? ⟨k, o', none⟩ = w.cell? ⟨k, o', none⟩ := fun k o' hr => setBlk_cell (fun h => by subst h; exact hnR o' hr)
                  have hvl : vs'.size = vs.size := by
                    have := congrArg List.length hv'
                    simp only [List.length_append, List.length_take, List.length_drop, Array.length_toList, hrow.1, hsz] at this
                    rw [hvs] at this ⊢
                    omega
                  have hle : n * ty'.size ≤ vs.toList.length := by simp [hvs]; exact Nat.mul_le_mul_right _ hncap
                  have hrow2 := (RowOf.take hel n hn hle).append hrow
                  have hel2 : ∀ (i : Nat) (hi : i < (xs.take n ++ ys).length), Rep (setBlk w b (.cells vs' te fr)) R ty' (xs.take n ++ ys)[i] ((vs'.toList.drop (i * ty'.size)).take ty'.size) := by
                    intro i hi
                    have hr2 := hrow2.2 i hi
                    have hlen2 := hrow2.1
                    have e1 : (vs'.toList.drop (i * ty'.size)).take ty'.size = ((vs.toList.take (n * ty'.size) ++ cells).drop (i * ty'.size)).take ty'.size := by
                      rw [hv']
                      simp only [Nat.zero_add, Nat.add_zero, hsz]
                      have hmi : (i + 1) * ty'.size ≤ (xs.take n ++ ys).length * ty'.size := Nat.mul_le_mul_right _ hi
                      rw [Nat.add_mul, Nat.one_mul, ← hlen2] at hmi
                      rw [List.drop_append_of_le_length (by omega), List.take_append_of_le_length (by simp only [List.length_drop]; omega)]
                    rw [e1]
                    exact Rep.mono (fun _ _ h => h) hcell hr2
                  obtain ⟨h1, h2⟩ := app_sat hs hlk hfix (m := n + ys.length) (φ' := φ) (w' := setBlk w b (.cells vs' te fr)) (xs := xs.take n ++ ys) (fun _ _ => rfl) (fun _ _ h => h) (fun _ _ h => .inl h) (fun k o' h => by have := hs.s.rlt k o' h; simpa [setBlk] using this) rfl rfl rfl (by simp [setBlk]) hcell
                    (fun k hk hne => setBlk_ne (fun h => hne cap (h ▸ hφ))) (.inr ⟨b, cap, vs', te, fr, hφ, setBlk_get hlt, by rw [hvl, hvs], by simp; omega, hel2, hnR, by rw [hvl]; exact hnf⟩)
                    (fun b2 c2 h => .inr ⟨c2, h⟩) (u := .slice (some ⟨b, 0, none⟩) (n + ys.length) cap) (by simp only [RepV]; exact .inr ⟨b, cap, hφ, hroom, rfl⟩) o.dst hds
                  exact hnext R φ _ _ _ hK h1 h2
            · obtain ⟨cells2, hrow2, _, hfc2⟩ := hsrc φ R { w with drawn := w.drawn + 1 } _ (hrx.drew _) (ChOK.drew hcx _)
              have hrow0 : ∃ oldc : List Value, RowOf { w with drawn := w.drawn + 1 } R ty' (xs.take n) oldc ∧ (Builtin.firstCells ee.size n (.slice p n cap)).run P { w with drawn := w.drawn + 1 } = .ok oldc.toArray { w with drawn := w.drawn + 1 } := by
                rcases hrs with ⟨hφ, hn0, hsl⟩ | ⟨b, cap', hφ, hncap', hsl⟩
                · rw [hav] at hsl
                  simp only [Value.slice.injEq] at hsl
                  obtain ⟨rfl, _, rfl⟩ := hsl
                  subst hn0
                  exact ⟨[], by simpa using RowOf.nil _ R ty', by simp [Builtin.firstCells]⟩
                · rw [hav] at hsl
                  simp only [Value.slice.injEq] at hsl
                  obtain ⟨rfl, _, rfl⟩ := hsl
                  rcases hcs with ⟨h1, h2⟩ | ⟨b', cap', vs, te, fr, hφ', hh, hvs, hxcap, hel, hnR, hnf⟩
                  · rw [hφ] at h1; simp at h1
                  · rw [hφ] at hφ'
                    simp only [Option.some.injEq, Prod.mk.injEq] at hφ'
                    obtain ⟨rfl, rfl⟩ := hφ'
                    have hle : n * ty'.size ≤ vs.toList.length := by simp [hvs]; exact Nat.mul_le_mul_right _ hncap
                    have hrw := RowOf.take hel n hn hle
                    refine ⟨vs.toList.take (n * ty'.size), ⟨hrw.1, fun i hi => Rep.mono (w := w) (w' := { w with drawn := w.drawn + 1 }) (fun _ _ h => h) (fun _ _ _ => rfl) (hrw.2 i hi)⟩, ?_⟩
                    have hl := run_loadCells_list (P := P) { w with drawn := w.drawn + 1 } ⟨b, 0, none⟩ (vs.toList.take (n * ty'.size)) (fun j v hj => by
                      rw [Addr.add_lit]
                      have hj' : vs.toList[j]? = some v := by
                        rw [List.getElem?_take] at hj
                        split at hj
                        · exact hj
                        · simp at hj
                      simp only [World.cell?, hh, Nat.zero_add]
                      simpa using hj')
                    have hll : (vs.toList.take (n * ty'.size)).length = n * ty'.size := by simp only [List.length_take]; omega
                    rw [hll] at hl
                    simp only [Builtin.firstCells, hsz]
                    exact hl
              obtain ⟨oldc, hrw0, hold⟩ := hrow0
              obtain ⟨newCap, zs, hcap, hzs, hrun⟩ := append_grow hT (rt := o.type) he hk hee hni hl (by rw [hsz]; exact hfc2) hold hroom hb1 hb2
              rw [hrun]
              simp only [Result.andThen_ok]
              have hR := hs.s.rlt
              have hcell : ∀ k o', R k o' → (pushed w (.cells (oldc.toArray ++ cells2.toArray ++ zs) et) (w.drawn + 1)).cell? ⟨k, o', none⟩ = w.cell? ⟨k, o', none⟩ := fun k o' hr => pushed_cell (hR k o' hr)
              have hrw := hrw0.append hrow2
              have hlen2 := hrw.1
              have hxl : (xs.take n ++ ys).length = n + ys.length := by simp; omega
              have hsize : (oldc.toArray ++ cells2.toArray ++ zs).size = newCap * ty'.size := by
                have h9 := hlen2
                simp only [List.length_append] at h9
                have h8 := hxl
                simp only [List.length_append] at h8
                simp only [Array.size_append, List.size_toArray, hzs, hsz]
                rw [h9, h8, ← Nat.add_mul]
                congr 1
                omega
              have hel2 : ∀ (i : Nat) (hi : i < (xs.take n ++ ys).length), Rep (pushed w (.cells (oldc.toArray ++ cells2.toArray ++ zs) et) (w.drawn + 1)) R ty' (xs.take n ++ ys)[i]
                  (((oldc.toArray ++ cells2.toArray ++ zs).toList.drop (i * ty'.size)).take ty'.size) := by
                intro i hi
                have hr2 := hrw.2 i hi
                have e1 : ((oldc.toArray ++ cells2.toArray ++ zs).toList.drop (i * ty'.size)).take ty'.size = ((oldc ++ cells2).drop (i * ty'.size)).take ty'.size := by
                  simp only [Array.toList_append]
                  have hmi : (i + 1) * ty'.size ≤ (xs.take n ++ ys).length * ty'.size := Nat.mul_le_mul_right _ hi
                  rw [Nat.add_mul, Nat.one_mul, ← hlen2] at hmi
                  rw [List.drop_append_of_le_length (by omega), List.take_append_of_le_length (by simp only [List.length_drop]; omega)]
                rw [e1]
                exact Rep.mono (w := { w with drawn := w.drawn + 1 }) (fun _ _ h => h) hcell hr2
              obtain ⟨h1, h2⟩ := app_sat hs hlk hfix (m := n + ys.length) (φ' := setPlace φ id (some (w.heap.size, newCap))) (w' := pushed w (.cells (oldc.toArray ++ cells2.toArray ++ zs) et) (w.drawn + 1)) (xs := xs.take n ++ ys)
                (fun j hj => by simp [setPlace, hj]) (fun _ _ h => h) (fun _ _ h => .inl h) (fun k o' h => by have := hR k o' h; show k < (w.heap.push _).size; rw [Array.size_push]; omega) rfl rfl rfl (by simp [pushed]) hcell (fun k hk _ => by show (w.heap.push _)[k]? = _; rw [Array.getElem?_push, if_neg (by omega)])
                (.inr ⟨w.heap.size, newCap, _, et, (0, 0), by simp [setPlace], pushed_get _ _ _, hsize, by omega, hel2, not_prot_new hR, noFr_zero _⟩)
                (fun b2 c2 h => by simp only [setPlace, if_true, Option.some.injEq, Prod.mk.injEq] at h; exact .inl (by omega)) (u := .slice (some ⟨w.heap.size, 0, none⟩) (n + ys.length) newCap)
                (by simp only [RepV]; exact .inr ⟨w.heap.size, newCap, by simp [setPlace], hcap, rfl⟩) o.dst hds
              exact hnext R _ _ _ _ hK h1 h2
          · exact h.elim
        · exact h.elim
      · exact h.elim
    · exact h.elim
  · exact h.elim

omit hT in
theorem callOwn_sound {ops : Array Oper} {st : St} {f : Operand} {args : Array Operand} {ats : Array TypeId} {K : St → Prop} (o : Oper) (ho : o.op = .call ⟨.value f, args, ats⟩) (hg : o.guard = none)
    (h : needsAll ((Op.call ⟨.value f, args, ats⟩).operands.toList.map st.ev) (callOwnV P st o.dst (st.ev f).un (args.toList.map fun x => (st.ev x).un) K)) (hd : dstB o st.n = true) {R : Prot} {φ : Place} {a : Act} {w : World} (hs : Sat R φ st a w)
    {next : Act → World → Prop} {Q : Exit → Act → World → Prop} (hnext : ∀ R' φ' a' w' st', K st' → Sat R' φ' st' a' w' → Ext st R φ w st' R' φ' w' → next a' w') :
    (if Region.wanted o (yielded ops a.tmps) = true then o.wp P a w next Q ∨ (o.asks P a w ∧ LetsOut Q) else next (a.put o.dst undef) w) := by
  have hw : Region.wanted o (yielded ops a.tmps) = true := by simp [Region.wanted, hg]
  rw [if_pos hw]
  left
  obtain ⟨hok, h⟩ := needsAll_iff h
  have hok : ∀ x ∈ (Op.call ⟨.value f, args, ats⟩).operands, okP (st.ev x) := fun x hx => hok _ (List.mem_map.2 ⟨x, by simpa using hx, rfl⟩)
  unfold callOwnV at h
  split at h
  · rename_i g caps hf
    obtain ⟨id, ty, xs, ys, m, hlk, hfix, ⟨⟨fn, hfn, hname, hbody⟩, hspec⟩, hK⟩ := h
    have hfr := (hs.s.ev f).un (hok f (by simp [Op.operands, Call.operands]))
    have hf' : (evF st.get st.gl f).un = .fn g caps := hf
    rw [hf'] at hfr
    simp only [RepV] at hfr
    obtain ⟨cv, hfv, hcaps⟩ := hfr
    have hargs : RepVs φ R w ((args.toList.map fun x => (st.ev x).un) ++ caps) ((args.map a.eval).toList ++ cv.toList) := by
      refine RepVs.append ?_ hcaps
      rw [Array.toList_map]
      exact repVs_map _ _ _ (fun x hx => (hs.s.ev x).un (hok x (by simp [Op.operands, Call.operands]; exact .inr (by simpa using hx))))
    have hone : ∀ k c, oneC id (.arr ty xs) k = some c → k = id ∧ c = .arr ty xs := fun k c hk => by
      unfold oneC at hk
      split at hk
      · rename_i e; simp only [Option.some.injEq] at hk; exact ⟨e, hk.symm⟩
      · simp at hk
    have hrel := hs.s.heap.rel id _ hlk
    have hcall := hspec φ R w _ ⟨fun k c hk => by obtain ⟨rfl, rfl⟩ := hone k c hk; exact hrel, fun k k' c c' _ _ _ hk hk' _ _ => by rw [(hone k c hk).1, (hone k' c' hk').1]⟩ hs.s.rlt hs.s.gl hargs
    have hrun : (execOp a.eval o).run P w = .ok (.enter g ((args.map a.eval).toList ++ cv.toList).toArray) w := by
      simp only [execOp, ho, resolve, hfv, Deferred.ofValue, invoke, callFunc, Sem.run_bind, Sem.run_pure, Result.andThen_ok, run_program, hfn, hname, hbody, Bool.false_eq_true, if_false]
      congr 2
      apply Array.ext'
      simp
    unfold Oper.wp
    rw [hrun, Oper.upon_enter]
    refine hcall.mono ?_
    rintro e w' ⟨v, φ1, R1, rfl, hv, hh', hrb, hevo, _⟩

    let φ' : Place := fun j => if j = id then φ1 id else φ j
    have hch1 : ChunkRel φ1 R1 w' id (.arr ty ys) := hh'.rel id _ (by simp [oneC])
    have hown : ∀ b, Owns φ (oneC id (.arr ty xs)) b → ∃ cap, φ id = some (b, cap) := by
      rintro b ⟨k, c, cap, hk, hp⟩
      obtain ⟨rfl, _⟩ := hone k c hk
      exact ⟨cap, hp⟩
    have hown1 : ∀ b cap, φ1 id = some (b, cap) → w.heap.size ≤ b ∨ ∃ cap', φ id = some (b, cap') := fun b cap hp => by
      rcases hevo.onew b ⟨id, .arr ty ys, cap, by simp [oneC], hp⟩ with h | h
      · exact .inl h
      · exact .inr (hown b h)
    have hφ'id : φ' id = φ1 id := by simp [φ']
    have hch : ChunkRel φ' R1 w' id (.arr ty ys) := ChunkRel.mono hch1 hφ'id (fun _ _ h => by simp at h) (fun _ _ h => h) (fun _ _ _ => rfl) (fun _ _ _ _ => ⟨rfl, fun _ h => h⟩)
    have hvr : RepV φ' R1 w' (.own id m) v := by
      simp only [RepV] at hv ⊢
      rw [hφ'id]
      exact hv
    obtain ⟨h1, h2⟩ := app_sat hs hlk hfix (m := m) (φ' := φ') (w' := w') (xs := ys) (fun j hj => by simp [φ', hj]) hevo.rmono (fun b o' h => by
        rcases hevo.rnew b o' h with h | h | h
        · exact .inl h
        · exact .inr (.inl h)
        · exact .inr (.inr (hown b h))) hrb hevo.os hevo.tape hevo.output hevo.size hevo.rkeep (fun b hb hne => hevo.keep b hb (fun h => by obtain ⟨cap, h⟩ := hown b h; exact hne cap h)) hch
      (fun b cap hp => hown1 b cap (by rw [← hφ'id]; exact hp)) hvr o.dst (fun d hd' => by simp only [dstB, hd', decide_eq_true_eq] at hd; exact hd)
    exact hnext R1 φ' _ _ _ hK h1 h2
  · exact h.elim

theorem seqOp_sound {ops : Array Oper} {st : St} {o : Oper} {K : St → Prop} (h : seqOp P T ops st o K) (hd : dstB o st.n = true) {R : Prot} {φ : Place} {a : Act} {w : World} (hs : Sat R φ st a w)
    {next : Act → World → Prop} {Q : Exit → Act → World → Prop} (hnext : ∀ R' φ' a' w' st', K st' → Sat R' φ' st' a' w' → Ext st R φ w st' R' φ' w' → next a' w') :
    (if Region.wanted o (yielded ops a.tmps) = true then o.wp P a w next Q ∨ (o.asks P a w ∧ LetsOut Q) else next (a.put o.dst undef) w) := by
  have hfresh : st.lk st.next = none := by
    cases hh : st.lk st.next with
    | none => rfl
    | some c => have := hs.s.hnext _ _ hh; omega
  have hid : ∀ x ∈ o.op.operands, (st.ev x).has st.next = false := fun x _ => by
    cases hx : AV.has st.next (st.ev x) with
    | false => rfl
    | true => obtain ⟨c, hc⟩ := hs.s.ev_named x _ hx; rw [hfresh] at hc; simp at hc
  unfold seqOp at h
  split at h
  · rename_i f args ats ho hg
    rcases h with h | h
    · obtain ⟨v, upd, c, hk, hf⟩ := opG_sound hT o h hid
      exact fact_step hf hd hs (fun R' φ' a' w' hs' he => hnext R' φ' a' w' _ hk hs' he)
    · exact callOwn_sound o ho hg h hd hs hnext
  · rename_i s x ts tx ho hg
    obtain ⟨h1, h⟩ := needs_iff h
    obtain ⟨h2, h⟩ := needs_iff h
    split at h
    · rename_i id n hsv
      exact appOwn_sound hT o ho hg h1 h2 hsv h hd hs hnext
    · rename_i hsv
      have h' : opG P T ops st.gl st.lk st.ev st.next o fun v upd c => K (st.step o.dst v upd c) := by
        unfold opG
        rw [hg]
        unfold opU
        rw [ho]
        have n1 : ∀ p, okP (st.ev s) → p → needs (st.ev s) p := fun p hk hp => by
          unfold needs; cases hv : st.ev s <;> simp_all [okP]
        have n2 : ∀ p, okP (st.ev x) → p → needs (st.ev x) p := fun p hk hp => by
          unfold needs; cases hv : st.ev x <;> simp_all [okP]
        refine n1 _ h1 (n2 _ h2 ?_)
        rw [hsv]
        exact h
      obtain ⟨v, upd, c, hk, hf⟩ := opG_sound hT o h' hid
      exact fact_step hf hd hs (fun R' φ' a' w' hs' he => hnext R' φ' a' w' _ hk hs' he)
    · exact h.elim
  · rename_i t x y ho hg
    split at h
    · rename_i id sz i off hxv
      exact stEl_sound hT o ho hg hxv h hs hnext
    · obtain ⟨v, upd, c, hk, hf⟩ := opG_sound hT o h hid
      exact fact_step hf hd hs (fun R' φ' a' w' hs' he => hnext R' φ' a' w' _ hk hs' he)
  · obtain ⟨v, upd, c, hk, hf⟩ := opG_sound hT o h hid
    exact fact_step hf hd hs (fun R' φ' a' w' hs' he => hnext R' φ' a' w' _ hk hs' he)

theorem seq_sound {ops : Array Oper} {Q : Exit → Act → World → Prop} : ∀ (os : List Oper) (k : Nat) (st : St) (K : St → Prop) (R : Prot) (φ : Place) (a : Act) (w : World),
    awpSeq P T ops os st K → (∀ i o, os[i]? = some o → ops[k + i]? = some o) → os.all (dstB · st.n) = true → Sat R φ st a w →
    (∀ R' φ' st' a' w', K st' → Sat R' φ' st' a' w' → Ext st R φ w st' R' φ' w' → Q .normal a' w') → wpOps P ops Q (List.range' k os.length) a w
  | [], k, st, K, R, φ, a, w, h, _, _, hs, hQ => by
    simp only [List.length_nil, List.range'_zero, wpOps]
    exact hQ R φ st a w h hs (Ext.refl _ _ _ _)
  | o :: r, k, st, K, R, φ, a, w, h, hi, hd, hs, hQ => by
    simp only [awpSeq] at h
    simp only [List.all_cons, Bool.and_eq_true] at hd
    have h0 := hi 0 o rfl
    simp only [Nat.add_zero] at h0
    simp only [List.length_cons, List.range'_succ, wpOps, h0]
    refine seqOp_sound hT h hd.1 hs ?_
    intro R' φ' a' w' st' hk hs' he
    exact seq_sound r (k + 1) _ K R' φ' a' w' hk (fun i o' ho' => by have := hi (i + 1) o' (by simpa using ho'); rw [show k + 1 + i = k + (i + 1) by omega]; exact this) (by rw [he.n]; exact hd.2) hs'
      (fun R2 φ2 st2 a2 w2 hk2 hs2 he2 => hQ R2 φ2 st2 a2 w2 hk2 hs2 (he.trans he2))
end
end Go.Fw
