/- The framework, part 11: code, loops, functions. -/
import Derived.Test.YtnleiflijccefaaFw10
set_option linter.all false
set_option linter.unusedSectionVars false
set_option linter.unusedSimpArgs false
namespace Go.Fw

/-- One state says no more than another. -/
def Le (st S : St) : Prop := ∀ R φ a w, Sat R φ st a w → ∃ R' φ', Sat R' φ' S a w ∧ Ext st R φ w S R' φ' w
theorem Le.refl (st : St) : Le st st := fun R φ _ w h => ⟨R, φ, h, Ext.refl _ _ _ _⟩
theorem Le.trans {a b c : St} (h : Le a b) (k : Le b c) : Le a c := fun R φ x w hs => by
  obtain ⟨R1, φ1, h1, e1⟩ := h R φ x w hs
  obtain ⟨R2, φ2, h2, e2⟩ := k R1 φ1 x w h1
  exact ⟨R2, φ2, h2, e1.trans e2⟩

def codeDst (n : Nat) : Code → Bool
  | .region _ ops _ => ops.all (dstB · n)
  | .seq a b => codeDst n a && codeDst n b
  | .cond _ a b => codeDst n a && codeDst n b
  | .block _ c => codeDst n c
  | .loop c => codeDst n c
  | .scope c => codeDst n c
  | _ => true

structure Post (st : St) (R : Prot) (φ : Place) (w : World) (Q : Exit → St → Prop) (e : Exit) (a' : Act) (w' : World) : Prop where
  panic : ∀ ch, e ≠ .panic ch
  out : e ≠ .outgrown
  ex : ∃ R' φ' st', Q e st' ∧ Sat R' φ' st' a' w' ∧ Ext st R φ w st' R' φ' w'

/-- From every tmps and world that the state fits, the code comes to an exit and a state of Q. -/
structure Tri (P : Program) (c : Code) (Q : Exit → St → Prop) (st : St) : Prop where
  of : codeDst st.n c = true → ∀ R φ a w, Sat R φ st a w → c.wp P (Post st R φ w Q) a w

section
variable {P : Program}

theorem Tri.le {c : Code} {Q : Exit → St → Prop} {st : St} (S : St) (h : Le st S) (k : Tri P c Q S) : Tri P c Q st := ⟨fun hd R φ a w hs => by
  obtain ⟨R1, φ1, h1, e1⟩ := h R φ a w hs
  have hn : S.n = st.n := e1.n
  exact wp_mono (k.of (by rw [hn]; exact hd) R1 φ1 a w h1) fun e a' w' ⟨p1, p2, R', φ', st', q, hs', he⟩ => ⟨p1, p2, R', φ', st', q, hs', e1.trans he⟩⟩
theorem Tri.mono {c : Code} {Q Q' : Exit → St → Prop} {st : St} (h : Tri P c Q st) (hq : ∀ e s, Q e s → Q' e s) : Tri P c Q' st := ⟨fun hd R φ a w hs =>
  wp_mono (h.of hd R φ a w hs) fun e a' w' ⟨p1, p2, R', φ', st', q, hs', he⟩ => ⟨p1, p2, R', φ', st', hq e st' q, hs', he⟩⟩
theorem Tri.skip {Q : Exit → St → Prop} {st : St} (h : Q .normal st) : Tri P .skip Q st := ⟨fun _ R φ a w hs => wp_skip ⟨by simp, by simp, R, φ, st, h, hs, Ext.refl _ _ _ _⟩⟩
theorem Tri.label {Q : Exit → St → Prop} {st : St} {l : Nat} (h : Q .normal st) : Tri P (.label l) Q st := ⟨fun _ R φ a w hs => wp_label ⟨by simp, by simp, R, φ, st, h, hs, Ext.refl _ _ _ _⟩⟩
theorem Tri.exit {Q : Exit → St → Prop} {st : St} {id : Nat} (h : Q (.exit id) st) : Tri P (.exit id) Q st := ⟨fun _ R φ a w hs => wp_exit ⟨by simp, by simp, R, φ, st, h, hs, Ext.refl _ _ _ _⟩⟩
theorem Tri.ret {Q : Exit → St → Prop} {st : St} (h : Q .ret st) : Tri P .ret Q st := ⟨fun _ R φ a w hs => wp_ret ⟨by simp, by simp, R, φ, st, h, hs, Ext.refl _ _ _ _⟩⟩

def thenQ (next : St → Prop) (Q : Exit → St → Prop) : Exit → St → Prop
  | .normal, s => next s
  | e, s => Q e s
def blockQ (id : Nat) (Q : Exit → St → Prop) : Exit → St → Prop
  | .exit id', s => match Nat.beq id' id with
    | true => Q .normal s
    | false => Q (.exit id') s
  | e, s => Q e s

theorem Tri.seq {x y : Code} {Q : Exit → St → Prop} {st : St} (h : Tri P x (thenQ (fun s => Tri P y Q s) Q) st) : Tri P (.seq x y) Q st := ⟨fun hd R φ a w hs => by
  simp only [codeDst, Bool.and_eq_true] at hd
  refine wp_seq (wp_mono (h.of hd.1 R φ a w hs) ?_)
  rintro e a' w' ⟨p1, p2, R', φ', st', q, hs', he⟩
  cases e with
  | normal =>
    have hn : st'.n = st.n := he.n
    exact wp_mono (q.of (by rw [hn]; exact hd.2) R' φ' a' w' hs') fun e2 a2 w2 ⟨r1, r2, R2, φ2, st2, q2, hs2, he2⟩ => ⟨r1, r2, R2, φ2, st2, q2, hs2, he.trans he2⟩
  | panic ch => exact absurd rfl (p1 ch)
  | outgrown => exact absurd rfl p2
  | exit id => exact ⟨p1, p2, R', φ', st', q, hs', he⟩
  | goto l => exact ⟨p1, p2, R', φ', st', q, hs', he⟩
  | ret => exact ⟨p1, p2, R', φ', st', q, hs', he⟩⟩

theorem Tri.block {id : Nat} {c : Code} {Q : Exit → St → Prop} {st : St} (h : Tri P c (blockQ id Q) st) : Tri P (.block id c) Q st := ⟨fun hd R φ a w hs => by
  refine wp_block (wp_mono (h.of (by simpa [codeDst] using hd) R φ a w hs) ?_)
  rintro e a' w' ⟨p1, p2, R', φ', st', q, hs', he⟩
  cases e with
  | exit id' =>
    simp only [Exit.inBlock]
    simp only [blockQ] at q
    split
    · rename_i e
      rw [e, Nat.beq_refl] at q
      exact ⟨by simp, by simp, R', φ', st', q, hs', he⟩
    · rename_i e
      have : Nat.beq id' id = false := by
        cases hb : Nat.beq id' id with
        | false => rfl
        | true => exact absurd (Nat.eq_of_beq_eq_true hb) e
      rw [this] at q
      exact ⟨by simp, by simp, R', φ', st', q, hs', he⟩
  | panic ch => exact absurd rfl (p1 ch)
  | outgrown => exact absurd rfl p2
  | normal => exact ⟨p1, p2, R', φ', st', q, hs', he⟩
  | goto l => exact ⟨p1, p2, R', φ', st', q, hs', he⟩
  | ret => exact ⟨p1, p2, R', φ', st', q, hs', he⟩⟩

/-- What a test of a value asks. -/
def condV (v : AV) (x y : Prop) : Prop :=
  needs v (match v.un with
    | .bool b => (b = true → x) ∧ (b = false → y)
    | .ub p q => (p → x) ∧ (q → y)
    | _ => False)
theorem Tri.cond {c : Operand} {x y : Code} {Q : Exit → St → Prop} {st : St} (h : condV (st.ev c) (Tri P x Q st) (Tri P y Q st)) : Tri P (.cond c x y) Q st := ⟨fun hd R φ a w hs => by
  simp only [codeDst, Bool.and_eq_true] at hd
  unfold condV at h
  obtain ⟨hk, h⟩ := needs_iff h
  have hr := (hs.s.ev c).un hk
  split at h
  · rename_i b hb
    have hb' : AV.un (evF st.get st.gl c) = .bool b := hb
    rw [hb'] at hr
    simp only [RepV] at hr
    exact wp_cond_split hr (fun e => (h.1 e).of hd.1 R φ a w hs) (fun e => (h.2 e).of hd.2 R φ a w hs)
  · rename_i p q hb
    have hb' : AV.un (evF st.get st.gl c) = .ub p q := hb
    rw [hb'] at hr
    simp only [RepV] at hr
    obtain ⟨b, hr, hp, hq⟩ := hr
    exact wp_cond_split hr (fun e => (h.1 (hp e)).of hd.1 R φ a w hs) (fun e => (h.2 (hq e)).of hd.2 R φ a w hs)
  · exact h.elim⟩

theorem Tri.loop {c : Code} {Q : Exit → St → Prop} {st : St} {ι : Type} (S : ι → St) (p : ι → Prop) (μ : ι → Nat) (i : ι) (h0 : p i) (hl : Le st (S i))
    (hr : ∀ i, p i → Tri P c (thenQ (fun s => ∃ j, p j ∧ μ j < μ i ∧ Le s (S j)) Q) (S i)) : Tri P (.loop c) Q st := ⟨fun hd R φ a w hs => by
  have hd' : codeDst st.n c = true := by simpa [codeDst] using hd
  obtain ⟨R1, φ1, hs1, e1⟩ := hl R φ a w hs
  intro b k cs
  have key : ∀ (m : Nat) (i : ι) R' φ' a' w', μ i = m → p i → Sat R' φ' (S i) a' w' → Ext st R φ w (S i) R' φ' w' →
      ∃ e a2 w2, Post st R φ w Q e a2 w2 ∧ Arrives P (lone (b.at a' (.code c :: .inLoop c :: k)) cs w') b k cs e a2 w2 := by
    intro m
    induction m using Nat.strongRecOn with
    | _ m ih =>
      intro i R' φ' a' w' hm hp hs' he
      have hn : (S i).n = st.n := he.n
      obtain ⟨e, a2, w2, ⟨p1, p2, R2, φ2, st2, q, hs2, he2⟩, harr⟩ := (hr i hp).of (by rw [hn]; exact hd') R' φ' a' w' hs' b (.inLoop c :: k) cs
      cases e with
      | normal =>
        obtain ⟨j, hpj, hlt, hle⟩ := q
        obtain ⟨R3, φ3, hs3, he3⟩ := hle R2 φ2 a2 w2 hs2
        obtain ⟨e', a3, w3, hq3, harr3⟩ := ih (μ j) (by omega) j R3 φ3 a2 w2 rfl hpj hs3 ((he.trans he2).trans he3)
        exact ⟨e', a3, w3, hq3, .of_steps (Steps.trans harr (.one step_inLoop)) harr3⟩
      | exit id => exact ⟨_, a2, w2, ⟨p1, p2, R2, φ2, st2, q, hs2, he.trans he2⟩, .pass (x := .inLoop c) rfl (fun _ _ => .inl (by simp)) harr⟩
      | goto l => exact ⟨_, a2, w2, ⟨p1, p2, R2, φ2, st2, q, hs2, he.trans he2⟩, .pass (x := .inLoop c) rfl (fun _ _ => .inl (by simp)) harr⟩
      | ret => exact ⟨_, a2, w2, ⟨p1, p2, R2, φ2, st2, q, hs2, he.trans he2⟩, .pass (x := .inLoop c) rfl (fun _ _ => .inl (by simp)) harr⟩
      | panic ch => exact absurd rfl (p1 ch)
      | outgrown => exact absurd rfl p2
  obtain ⟨e, a', w', hq, harr⟩ := key _ i R1 φ1 a w rfl h0 hs1 e1
  exact ⟨e, a', w', hq, .of_steps (.one step_loop) harr⟩⟩
end

section
variable {P : Program} {T : Tab}
theorem Tri.region (hT : tabOK P T = true) {id : Nat} {ops : Array Oper} {Q : Exit → St → Prop} {st : St} (h : awpSeq P T ops ops.toList st (fun s => Q .normal s)) : Tri P (.region id ops false) Q st := ⟨fun hd R φ a w hs => by
  refine wp_region ?_
  have hall : ops.toList.all (dstB · st.n) = true := by simpa [codeDst] using hd
  have := seq_sound hT (Q := Post st R φ w Q) ops.toList 0 st _ R φ a w h (fun i o ho => by simpa using ho) hall hs
    (fun R' φ' st' a' w' hk hs' he => ⟨by simp, by simp, R', φ', st', hk, hs', he⟩)
  rw [List.range_eq_range']
  simpa using this⟩

/-! ### weakening -/
def envLe : List (Nat × AV) → St → Prop
  | [], _ => True
  | (t, v) :: r, st => st.get t = v ∧ envLe r st
def heapLe : List (Nat × Chunk) → St → Prop
  | [], _ => True
  | (j, c) :: r, st => st.lk j = some c ∧ heapLe r st
def hasKey (j : Nat) : List (Nat × Chunk) → Bool
  | [] => false
  | (k, _) :: r => Nat.beq k j || hasKey j r
def idsIn (h : List (Nat × Chunk)) : List Nat → Bool
  | [] => true
  | j :: r => hasKey j h && idsIn h r
def heapClosed (h : List (Nat × Chunk)) (n : Nat) : List (Nat × Chunk) → Bool
  | [] => true
  | (k, .box cs) :: r => Nat.blt k n && idsIn h (AV.idsL cs) && heapClosed h n r
  | (k, .arr _ _) :: r => Nat.blt k n && heapClosed h n r
def envClosed (h : List (Nat × Chunk)) : List (Nat × AV) → Bool
  | [] => true
  | (_, v) :: r => idsIn h v.ids && envClosed h r
def St.closed (S : St) : Bool := envClosed S.heap S.env && heapClosed S.heap S.next S.heap && Nat.ble S.fix S.next

theorem hasKey_lk {h : List (Nat × Chunk)} {j : Nat} (hk : hasKey j h = true) : ∃ c, lookup j h = some c := by
  induction h with
  | nil => simp [hasKey] at hk
  | cons x r ih =>
    obtain ⟨k, c⟩ := x
    simp only [hasKey, Bool.or_eq_true] at hk
    rw [lookup_cons]
    by_cases e : k = j
    · exact ⟨c, by rw [if_pos e]⟩
    · rw [if_neg e]
      rcases hk with hk | hk
      · exact absurd (Nat.eq_of_beq_eq_true hk) e
      · exact ih hk
theorem idsIn_mem {h : List (Nat × Chunk)} : ∀ {l : List Nat} {j : Nat}, idsIn h l = true → j ∈ l → ∃ c, lookup j h = some c
  | [], _, _, hj => by simp at hj
  | k :: r, j, hk, hj => by
    simp only [idsIn, Bool.and_eq_true] at hk
    rcases List.mem_cons.1 hj with rfl | hj
    · exact hasKey_lk hk.1
    · exact idsIn_mem hk.2 hj
theorem envClosed_mem {h : List (Nat × Chunk)} : ∀ {env : List (Nat × AV)} {t : Nat} {v : AV} {j : Nat}, envClosed h env = true → lookup t env = some v → v.has j = true → ∃ c, lookup j h = some c
  | [], _, _, _, _, hl, _ => by simp [lookup] at hl
  | (k, u) :: r, t, v, j, hc, hl, hj => by
    simp only [envClosed, Bool.and_eq_true] at hc
    rw [lookup_cons] at hl
    split at hl
    · simp only [Option.some.injEq] at hl
      subst hl
      exact idsIn_mem hc.1 (AV.has_ids hj)
    · exact envClosed_mem hc.2 hl hj
theorem heapClosed_mem {h : List (Nat × Chunk)} {n : Nat} : ∀ {l : List (Nat × Chunk)} {k : Nat} {c : Chunk}, heapClosed h n l = true → lookup k l = some c → k < n ∧ ∀ cs j, c = .box cs → AV.hasAny j cs = true → ∃ c, lookup j h = some c
  | [], _, _, _, hl => by simp [lookup] at hl
  | (k', .box cs') :: r, k, c, hc, hl => by
    simp only [heapClosed, Bool.and_eq_true] at hc
    rw [lookup_cons] at hl
    split at hl
    · rename_i e
      simp only [Option.some.injEq] at hl
      subst hl
      refine ⟨by rw [← e]; exact Nat.le_of_ble_eq_true hc.1.1, fun cs j h1 h2 => ?_⟩
      simp only [Chunk.box.injEq] at h1
      subst h1
      exact idsIn_mem hc.1.2 (AV.hasAny_ids h2)
    · exact heapClosed_mem hc.2 hl
  | (k', .arr _ _) :: r, k, c, hc, hl => by
    simp only [heapClosed, Bool.and_eq_true] at hc
    rw [lookup_cons] at hl
    split at hl
    · rename_i e
      simp only [Option.some.injEq] at hl
      subst hl
      exact ⟨by rw [← e]; exact Nat.le_of_ble_eq_true hc.1, fun cs j h1 => by simp at h1⟩
    · exact heapClosed_mem hc.2 hl
theorem envLe_get {st : St} : ∀ {env : List (Nat × AV)} {t : Nat} {v : AV}, envLe env st → lookup t env = some v → st.get t = v
  | [], _, _, _, hl => by simp [lookup] at hl
  | (k, u) :: r, t, v, h, hl => by
    rw [lookup_cons] at hl
    split at hl
    · rename_i e
      simp only [Option.some.injEq] at hl
      subst hl
      rw [← e]; exact h.1
    · exact envLe_get h.2 hl
theorem heapLe_get {st : St} : ∀ {l : List (Nat × Chunk)} {j : Nat} {c : Chunk}, heapLe l st → lookup j l = some c → st.lk j = some c
  | [], _, _, _, hl => by simp [lookup] at hl
  | (k, u) :: r, t, v, h, hl => by
    rw [lookup_cons] at hl
    split at hl
    · rename_i e
      simp only [Option.some.injEq] at hl
      subst hl
      rw [← e]; exact h.1
    · exact heapLe_get h.2 hl

theorem Le.weak {st S : St} (hn : S.n = st.n) (hf : S.fix = st.fix) (hg : S.gl = st.gl) (hc : S.closed = true) (he : envLe S.env st) (hh : heapLe S.heap st) : Le st S := fun R φ a w hs => by
  unfold St.closed at hc
  simp only [Bool.and_eq_true] at hc
  have hlk : ∀ j c, S.lk j = some c → st.lk j = some c := fun j c hj => heapLe_get hh hj
  refine ⟨R, φ, ⟨⟨fun t => ?_, fun t j hj => ?_, fun j cs k hj hk => (heapClosed_mem hc.1.2 hj).2 cs k rfl hk, fun j c hj => (heapClosed_mem hc.1.2 hj).1, by rw [hn]; exact hs.s.sz,
    ⟨fun j c hj => hs.s.heap.rel j c (hlk j c hj), fun j k c d b cap cap' hj hk => hs.s.heap.inj j k c d b cap cap' (hlk j c hj) (hlk k d hk)⟩, hs.s.rlt, hs.s.defers, by rw [hg]; exact hs.s.gl⟩, Nat.le_of_ble_eq_true hc.2⟩,
    ⟨⟨rfl, rfl, rfl, Nat.le_refl _, fun _ _ _ => rfl, fun _ _ h => h, fun _ _ _ => rfl, fun _ _ h => .inl h, fun b ⟨j, c, cap, hj, hp⟩ => .inr ⟨j, c, cap, hlk j c hj, hp⟩⟩, fun _ _ => rfl, hf, hn⟩⟩
  · cases hl : lookup t S.env with
    | none =>
      have : S.get t = .any := by simp [St.get, hl]
      rw [this]; simp [RepV]
    | some v =>
      have : S.get t = v := by simp [St.get, hl]
      rw [this, ← envLe_get he hl]
      exact hs.s.env t
  · cases hl : lookup t S.env with
    | none =>
      have : S.get t = .any := by simp [St.get, hl]
      rw [this] at hj; simp [AV.has] at hj
    | some v =>
      have : S.get t = v := by simp [St.get, hl]
      rw [this] at hj
      exact envClosed_mem hc.1.1 hl hj

/-! ### functions -/
def resV (T : Tab) (st : St) : List ResultVar → List AV → (List AV → Prop) → Prop
  | [], acc, K => K acc.reverse
  | .tmp t :: r, acc, K => needs (st.get t) (resV T st r ((st.get t).un :: acc) K)
  | .cell a t :: r, acc, K => needs (st.get a) (loadV T st.lk t (st.get a).un fun v => resV T st r (v :: acc) K)

def packV : List AV → AV
  | [v] => v
  | vs => .tup vs

/-- The end of a function: what it returns, and the chunks that its caller gets back. -/
def Ends (T : Tab) (fn : Func) (ret : AV) (h' : List (Nat × Chunk)) (e : Exit) (st : St) : Prop :=
  match e with
  | .normal | .ret => resV T st fn.results.toList [] (fun vs => packV vs = ret ∧ heapLe h' st)
  | _ => False

def argEnv : Nat → List AV → List (Nat × AV)
  | _, [] => []
  | k, v :: r => (k, v) :: argEnv (k + 1) r
def St.init (fn : Func) (args : List AV) (h : List (Nat × Chunk)) (fix next : Nat) (gl : Gl) : St := { n := fn.ntmps, fix := fix, next := next, env := argEnv 0 args, heap := h, gl := gl }
end
end Go.Fw
