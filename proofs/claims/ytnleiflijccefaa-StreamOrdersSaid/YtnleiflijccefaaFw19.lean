/- The framework, part 19: scopes. -/
import Derived.Test.YtnleiflijccefaaFw18
import Derived.Scope
set_option linter.all false
namespace Go.Fw
variable {P : Program}
theorem gl' {a b : Bool} (h : (if a = true then b else false) = true) : a = true := by cases a <;> simp_all
theorem gr' {a b : Bool} (h : (if a = true then b else false) = true) : b = true := by cases a <;> simp_all
def scopeQ (Q : Exit → St → Prop) : Exit → St → Prop
  | .goto _, _ => False
  | e, s => Q e s
theorem Tri.scope {c : Code} {Q : Exit → St → Prop} {st : St} (h : Tri P c (scopeQ Q) st) : Tri P (.scope c) Q st := ⟨fun hd R φ a w hs => by
  refine wp_scope_straight ?_
  refine wp_mono (h.of (by simpa [codeDst] using hd) R φ a w hs) ?_
  rintro e a' w' ⟨p1, p2, R', φ', st', q, hs', he⟩
  cases e with
  | goto l => exact q.elim
  | panic ch => exact absurd rfl (p1 ch)
  | outgrown => exact absurd rfl p2
  | normal => exact ⟨p1, p2, R', φ', st', q, hs', he⟩
  | exit id => exact ⟨p1, p2, R', φ', st', q, hs', he⟩
  | ret => exact ⟨p1, p2, R', φ', st', q, hs', he⟩⟩

/-! ### a slice of the caller's own, by whatever number -/
theorem lookup_oneC (c : Chunk) : (fun k => lookup k [(0, c)]) = oneC 0 c := by
  funext k
  simp only [lookup, oneC]
  cases k with
  | zero => rfl
  | succ k => rfl
theorem own_args {φ : Place} {R : Prot} {w : World} {id n : Nat} {rest : List AV} (hid : ∀ j, AV.hasAny j rest = false) {vs : List Value} (h : RepVs φ R w (.own id n :: rest) vs) :
    RepVs (fun k => if k = 0 then φ id else none) R w (.own 0 n :: rest) vs := by
  simp only [RepVs] at h ⊢
  obtain ⟨u, us, e, h1, h2⟩ := h
  refine ⟨u, us, e, ?_, RepVs.mono (fun _ _ h => h) (fun _ _ _ => rfl) (fun j hj => by rw [hid j] at hj; simp at hj) h2⟩
  simpa [RepV] using h1

theorem FSpec.own {gl : Gl} {f : FuncId} {n m : Nat} {rest : List AV} {ty : Ty} {xs ys : List ty.D} (id : Nat) (hid : ∀ j, AV.hasAny j rest = false)
    (h : FSpec P gl f (.own 0 n :: rest) (oneC 0 (.arr ty xs)) (.own 0 m) (oneC 0 (.arr ty ys))) : FSpec P gl f (.own id n :: rest) (oneC id (.arr ty xs)) (.own id m) (oneC id (.arr ty ys)) := by
  refine ⟨h.1, fun φ R w vs hh hR hgl hargs => ?_⟩
  have hone : ∀ {i k : Nat} {c d : Chunk}, oneC i c k = some d → k = i ∧ d = c := fun {i k c d} hk => by
    unfold oneC at hk
    split at hk
    · rename_i e; simp at hk; exact ⟨e, hk.symm⟩
    · simp at hk
  have hself : ∀ (i : Nat) (c : Chunk), oneC i c i = some c := fun i c => by simp [oneC]
  have hown : ∀ (φ φ0 : Place) (i j : Nat) (c d : Chunk), φ0 j = φ i → ∀ b, Owns φ0 (oneC j c) b → Owns φ (oneC i d) b := by
    rintro φ φ0 i j c d he b ⟨k, ch, cap, hk, hp⟩
    obtain ⟨rfl, rfl⟩ := hone hk
    exact ⟨i, d, cap, hself i d, by rw [← he]; exact hp⟩
  have h0 : HRel (fun k => if k = 0 then φ id else none) R w (oneC 0 (.arr ty xs)) := by
    refine ⟨fun k c hk => ?_, fun k j c d b cap cap' hk hj _ _ => ?_⟩
    · obtain ⟨rfl, rfl⟩ := hone hk
      have := hh.rel id _ (hself id _)
      simpa [ChunkRel] using this
    · obtain ⟨rfl, _⟩ := hone hk
      obtain ⟨rfl, _⟩ := hone hj
      rfl
  have hgl0 : GlOK gl (fun k => if k = 0 then φ id else none) R w := fun g cs hg => by
    refine ⟨RepV.mono (fun _ _ h => h) (fun _ _ _ => rfl) (fun j hj => ?_) (hgl g cs hg).1, (hgl g cs hg).2⟩
    simp only [AV.has] at hj
    rw [(hgl g cs hg).2 j] at hj
    simp at hj
  refine (h.2 _ R w vs h0 hR hgl0 (own_args hid hargs)).mono ?_
  rintro e w' ⟨v, φ', R', rfl, hv, hh', hR', hevo, _⟩
  refine ⟨v, fun k => if k = id then φ' 0 else φ k, R', rfl, ?_, ⟨fun k c hk => ?_, fun k j c d b cap cap' hk hj _ _ => ?_⟩, hR', ⟨hevo.os, hevo.tape, hevo.output, hevo.size, fun b hb ho => ?_, hevo.rmono, hevo.rkeep, fun b o hb => ?_, fun b hb => ?_⟩, fun j cs hj => ?_⟩
  · simpa [RepV] using hv
  · obtain ⟨rfl, rfl⟩ := hone hk
    have := hh'.rel 0 _ (hself 0 _)
    simpa [ChunkRel] using this
  · obtain ⟨rfl, _⟩ := hone hk
    obtain ⟨rfl, _⟩ := hone hj
    rfl
  · exact hevo.keep b hb fun h => ho (hown φ _ id 0 _ _ (by simp) b h)
  · rcases hevo.rnew b o hb with h | h | h
    · exact .inl h
    · exact .inr (.inl h)
    · exact .inr (.inr (hown φ _ id 0 _ _ (by simp) b h))
  · have hb' : Owns φ' (oneC 0 (.arr ty ys)) b := hown φ' _ 0 id _ _ (by simp) b hb
    rcases hevo.onew b hb' with h | h
    · exact .inl h
    · exact .inr (hown φ _ id 0 _ _ (by simp) b h)
  · obtain ⟨_, h⟩ := hone hj
    simp at h

theorem fspec_own {T : Tab} (hT : tabOK P T = true) {gl : Gl} {f : FuncId} {fn : Func} {c : Code} {n m : Nat} {rest : List AV} {ty : Ty} {xs ys : List ty.D} (hf : P.funcs[f]? = some fn) (hname : (fn.name == "runtime.NumGoroutine") = false) (hb : fn.body = some c)
    (hlen : Nat.ble (rest.length + 1) fn.ntmps = true) (hd : codeDst fn.ntmps c = true) (hcl : (St.init fn (.own 0 n :: rest) [(0, .arr ty xs)] 0 1 gl).closed = true) (hid : ∀ j, AV.hasAny j rest = false)
    (htri : Tri P c (Ends T fn (.own 0 m) [(0, .arr ty ys)]) (St.init fn (.own 0 n :: rest) [(0, .arr ty xs)] 0 1 gl)) (id : Nat) : FSpec P gl f (.own id n :: rest) (oneC id (.arr ty xs)) (.own id m) (oneC id (.arr ty ys)) := by
  refine FSpec.own id hid ?_
  have := fspec_intro hT [(0, .arr ty xs)] [(0, .arr ty ys)] 0 1 hf hname hb (by simpa using hlen) hd hcl rfl htri
  rw [lookup_oneC, lookup_oneC] at this
  exact this

/-! ### weakening, where a nil slice may become an empty list -/
def envLeV : List (Nat × AV) → St → Prop
  | [], _ => True
  | (t, v) :: r, st => leV (st.get t) v ∧ envLeV r st
def leC (a b : Chunk) : Prop := match a, b with | .box as, .box bs => leL as bs | a, b => a = b
def heapLeV : List (Nat × Chunk) → St → Prop
  | [], _ => True
  | (j, c) :: r, st => (match st.lk j with | some c' => leC c' c | none => False) ∧ heapLeV r st
theorem envLeV_get {st : St} : ∀ {env : List (Nat × AV)} {t : Nat} {v : AV}, envLeV env st → lookup t env = some v → leV (st.get t) v
  | [], _, _, _, hl => by simp [lookup] at hl
  | (k, u) :: r, t, v, h, hl => by
    rw [lookup_cons] at hl
    split at hl
    · rename_i e
      simp only [Option.some.injEq] at hl
      subst hl
      rw [← e]; exact h.1
    · exact envLeV_get h.2 hl
theorem heapLeV_get {st : St} : ∀ {l : List (Nat × Chunk)} {j : Nat} {c : Chunk}, heapLeV l st → lookup j l = some c → ∃ c', st.lk j = some c' ∧ leC c' c
  | [], _, _, _, hl => by simp [lookup] at hl
  | (k, u) :: r, t, v, h, hl => by
    rw [lookup_cons] at hl
    split at hl
    · rename_i e
      simp only [Option.some.injEq] at hl
      subst hl
      have h1 := h.1
      rw [e] at h1
      split at h1
      · rename_i c' hc'; exact ⟨c', hc', h1⟩
      · exact h1.elim
    · exact heapLeV_get h.2 hl
theorem leC_rel {φ : Place} {R : Prot} {w : World} {id : Nat} {a b : Chunk} (h : leC a b) (hr : ChunkRel φ R w id a) : ChunkRel φ R w id b := by
  unfold leC at h
  split at h
  · obtain ⟨bl, cap, vs, e, fr, h1, h2, h3, h4, h5⟩ := hr
    exact ⟨bl, cap, vs, e, fr, h1, h2, leL_rep h h3, h4, h5⟩
  · subst h; exact hr
theorem Le.weakV {st S : St} (hn : S.n = st.n) (hf : S.fix = st.fix) (hg : S.gl = st.gl) (hc : S.closed = true) (he : envLeV S.env st) (hh : heapLeV S.heap st) : Le st S := fun R φ a w hs => by
  unfold St.closed at hc
  simp only [Bool.and_eq_true] at hc
  have hlk : ∀ j c, S.lk j = some c → ∃ c', st.lk j = some c' ∧ leC c' c := fun j c hj => heapLeV_get hh hj
  refine ⟨R, φ, ⟨⟨fun t => ?_, fun t j hj => ?_, fun j cs k hj hk => (heapClosed_mem hc.1.2 hj).2 cs k rfl hk, fun j c hj => (heapClosed_mem hc.1.2 hj).1, by rw [hn]; exact hs.s.sz,
    ⟨fun j c hj => ?_, fun j k c d b cap cap' hj hk => ?_⟩, hs.s.rlt, hs.s.defers, by rw [hg]; exact hs.s.gl⟩, Nat.le_of_ble_eq_true hc.2⟩,
    ⟨⟨rfl, rfl, rfl, Nat.le_refl _, fun _ _ _ => rfl, fun _ _ h => h, fun _ _ _ => rfl, fun _ _ h => .inl h, fun b ⟨j, c, cap, hj, hp⟩ => ?_⟩, fun _ _ => rfl, hf, hn⟩⟩
  · cases hl : lookup t S.env with
    | none =>
      have : S.get t = .any := by simp [St.get, hl]
      rw [this]; simp [RepV]
    | some v =>
      have : S.get t = v := by simp [St.get, hl]
      rw [this]
      exact leV_rep (envLeV_get he hl) (hs.s.env t)
  · cases hl : lookup t S.env with
    | none =>
      have : S.get t = .any := by simp [St.get, hl]
      rw [this] at hj; simp [AV.has] at hj
    | some v =>
      have : S.get t = v := by simp [St.get, hl]
      rw [this] at hj
      exact envClosed_mem hc.1.1 hl hj
  · obtain ⟨c', h1, h2⟩ := hlk j c hj
    exact leC_rel h2 (hs.s.heap.rel j c' h1)
  · obtain ⟨c', h1, _⟩ := hlk j c hj
    obtain ⟨d', h2, _⟩ := hlk k d hk
    exact hs.s.heap.inj j k c' d' b cap cap' h1 h2
  · obtain ⟨c', h1, _⟩ := hlk j c hj
    exact .inr ⟨j, c', cap, h1, hp⟩
end Go.Fw
