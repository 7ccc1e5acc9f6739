/- The framework, part 12: a function's contract out of its body. -/
import Derived.Test.YtnleiflijccefaaFw11
set_option linter.all false
set_option linter.unusedSectionVars false
set_option linter.unusedSimpArgs false
namespace Go.Fw

section
variable {P : Program} {T : Tab} (hT : tabOK P T = true)
include hT

omit hT in
theorem loadV_ptr {lk : Heap} {t : TypeId} {a : AV} {K : AV → Prop} (h : loadV T lk t a K) {φ : Place} {R : Prot} {w : World} {u : Value} (hr : RepV φ R w a u) : ∃ ad, u = .pointer (some ad) := by
  unfold loadV at h
  split at h
  · simp only [RepV] at hr; obtain ⟨b, base, us, rfl, _⟩ := hr; exact ⟨_, rfl⟩
  · simp only [RepV] at hr; obtain ⟨b, cap, _, rfl⟩ := hr; exact ⟨_, rfl⟩
  · simp only [RepV] at hr; obtain ⟨b, cap, _, rfl⟩ := hr; exact ⟨_, rfl⟩
  · exact h.elim

theorem res_sound {R : Prot} {φ : Place} {st : St} {a : Act} {w : World} (hs : Sat R φ st a w) : ∀ (rs : List ResultVar) (acc : List AV) (accv : List Value) (K : List AV → Prop), resV T st rs acc K → RepVs φ R w acc accv →
    ∃ as vs, K as ∧ RepVs φ R w as (accv.reverse ++ vs) ∧ vs.length = rs.length ∧ (rs.mapM (m := Sem) fun
      | .tmp t => pure (a.tmps.getD t undef)
      | .cell x t => do loadVar t (← asAddr (a.tmps.getD x undef))).run P w = .ok vs w
  | [], acc, accv, K, h, hr => by
    refine ⟨acc.reverse, [], h, ?_, rfl, rfl⟩
    have key : ∀ (as : List AV) (vs : List Value) (bs : List AV) (us : List Value), RepVs φ R w as vs → RepVs φ R w bs us → RepVs φ R w (as.reverse ++ bs) (vs.reverse ++ us) := by
      intro as
      induction as with
      | nil => intro vs bs us h h2; simp only [RepVs] at h; subst h; simpa using h2
      | cons x as ih =>
        intro vs bs us h h2
        simp only [RepVs] at h
        obtain ⟨v, vs, rfl, h1, h⟩ := h
        have := ih vs (x :: bs) (v :: us) h ⟨v, us, rfl, h1, h2⟩
        simpa using this
    have := key acc accv [] [] hr (by simp [RepVs])
    simpa using this
  | .tmp t :: rs, acc, accv, K, h, hr => by
    obtain ⟨h1, h⟩ := needs_iff h
    have hv := (hs.s.env t).un h1
    obtain ⟨as, vs, hk, hrep, hl, hrun⟩ := res_sound hs rs _ (a.tmps.getD t undef :: accv) K h ⟨_, _, rfl, hv, hr⟩
    refine ⟨as, a.tmps.getD t undef :: vs, hk, by simpa using hrep, by simp [hl], ?_⟩
    simp only [List.mapM_cons, Sem.run_bind, Sem.run_pure, Result.andThen_ok, hrun]
  | .cell x t :: rs, acc, accv, K, h, hr => by
    obtain ⟨h1, h⟩ := needs_iff h
    have hv := (hs.s.env x).un h1
    obtain ⟨ad, had⟩ := loadV_ptr h hv
    obtain ⟨v, h, hn, hld⟩ := loadV_sound hT h
    obtain ⟨u, hu, hrun1⟩ := hld φ R w _ hv (fun id c _ hc => hs.s.heap.rel id c hc)
    obtain ⟨as, vs, hk, hrep, hl, hrun⟩ := res_sound hs rs _ (u :: accv) K h ⟨_, _, rfl, hu, hr⟩
    refine ⟨as, u :: vs, hk, by simpa using hrep, by simp [hl], ?_⟩
    rw [had] at hrun1
    have hrun2 : (loadVar t ad).run P w = .ok u w := by simpa [Instr.loadAt, Instr.sureAddr] using hrun1
    have hasA : (asAddr (a.tmps.getD x undef)).run P w = .ok ad w := by rw [had]; rfl
    simp only [List.mapM_cons, Sem.run_bind, Sem.run_pure, Result.andThen_ok, hasA, hrun2, hrun]

theorem results_sound {R : Prot} {φ : Place} {st : St} {a : Act} {w : World} (hs : Sat R φ st a w) (fn : Func) (K : List AV → Prop) (h : resV T st fn.results.toList [] K) :
    ∃ as v, K as ∧ RepV φ R w (packV as) v ∧ (results fn a.tmps).run P w = .ok v w := by
  obtain ⟨as, vs, hk, hrep, hl, hrun⟩ := res_sound hT hs fn.results.toList [] [] K h (by simp [RepVs])
  simp only [List.reverse_nil, List.nil_append] at hrep
  have hm : (fn.results.mapM (m := Sem) fun
      | .tmp t => pure (a.tmps.getD t undef)
      | .cell x t => do loadVar t (← asAddr (a.tmps.getD x undef))).run P w = .ok vs.toArray w := by
    rw [Array.mapM_eq_mapM_toList, Sem.run_map, hrun]
    rfl
  have hr : (results fn a.tmps).run P w = .ok (if h : vs.toArray.size = 1 then vs.toArray[0] else .tuple vs.toArray) w := by
    unfold results
    rw [Sem.run_bind]
    have hm' := hm
    refine Eq.trans (congrArg (fun r => Result.andThen r _) (Eq.trans ?_ hm')) ?_
    · congr 2
    · rfl
  refine ⟨as, _, hk, ?_, hr⟩
  have hlen := hrep.length
  match as, vs, hrep, hlen with
  | [], [], _, _ => simp [packV, RepV, RepVs]
  | [x], [v], hrep, _ =>
    simp only [RepVs] at hrep
    obtain ⟨_, _, he, h1, _⟩ := hrep
    simp only [List.cons.injEq] at he
    obtain ⟨rfl, _⟩ := he
    simpa [packV] using h1
  | x :: y :: r, v :: u :: r', hrep, _ =>
    simp only [packV, RepV]
    exact ⟨(v :: u :: r').toArray, by simp, by simpa using hrep⟩

/-- The chunks that come in and go out. -/
def boxesOK (fix : Nat) (h' : List (Nat × Chunk)) : List (Nat × Chunk) → Bool
  | [] => true
  | (k, .box _) :: r => Nat.blt k fix && (match lookup k h' with | some (.box _) => true | _ => false) && boxesOK fix h' r
  | (_, .arr _ _) :: r => boxesOK fix h' r
omit hT in
theorem boxesOK_get {fix : Nat} {h' : List (Nat × Chunk)} : ∀ {l : List (Nat × Chunk)} {k : Nat} {cs : List AV}, boxesOK fix h' l = true → lookup k l = some (.box cs) → k < fix ∧ ∃ cs', lookup k h' = some (.box cs')
  | [], _, _, _, hl => by simp [lookup] at hl
  | (j, .box _) :: r, k, cs, h, hl => by
    simp only [boxesOK, Bool.and_eq_true] at h
    rw [lookup_cons] at hl
    split at hl
    · rename_i e
      subst e
      refine ⟨Nat.le_of_ble_eq_true h.1.1, ?_⟩
      have := h.1.2
      split at this
      · rename_i cs' hc; exact ⟨cs', hc⟩
      · simp at this
    · exact boxesOK_get h.2 hl
  | (j, .arr _ _) :: r, k, cs, h, hl => by
    simp only [boxesOK] at h
    rw [lookup_cons] at hl
    split at hl
    · simp at hl
    · exact boxesOK_get h hl

omit hT in
theorem argEnv_get {φ : Place} {R : Prot} {w : World} : ∀ (args : List AV) (k : Nat) (vs : List Value) (pre post : List Value), RepVs φ R w args vs → pre.length = k →
    ∀ t, RepV φ R w (match lookup t (argEnv k args) with | some a => a | none => .any) ((pre ++ vs ++ post).getD t undef)
  | [], k, vs, pre, post, _, _, t => by simp [argEnv, lookup, RepV]
  | x :: r, k, vs, pre, post, h, hk, t => by
    simp only [RepVs] at h
    obtain ⟨v, vs, rfl, h1, h⟩ := h
    simp only [argEnv, lookup_cons]
    by_cases e : k = t
    · subst e
      subst hk
      simp [List.getD, h1]
    · rw [if_neg e]
      have := argEnv_get r (k + 1) vs (pre ++ [v]) post h (by simp [hk]) t
      simpa using this

theorem fspec_intro {gl : Gl} {f : FuncId} {fn : Func} {c : Code} {args : List AV} {ret : AV} (h h' : List (Nat × Chunk)) (fix next : Nat)
    (hf : P.funcs[f]? = some fn) (hname : (fn.name == "runtime.NumGoroutine") = false) (hb : fn.body = some c) (hlen : Nat.ble args.length fn.ntmps = true) (hd : codeDst fn.ntmps c = true)
    (hcl : (St.init fn args h fix next gl).closed = true) (hbox : boxesOK fix h' h = true)
    (htri : Tri P c (Ends T fn ret h') (St.init fn args h fix next gl)) : FSpec P gl f args (fun k => lookup k h) ret (fun k => lookup k h') := by
  refine ⟨⟨fn, hf, hname, by simp [hb]⟩, fun φ R w vs hh hR hgl hargs => ?_⟩
  have hal := hargs.length
  have hlen := Nat.le_of_ble_eq_true hlen
  refine calls_of_wp hf hb ?_
  unfold St.closed at hcl
  simp only [Bool.and_eq_true] at hcl
  have hsat : Sat R φ (St.init fn args h fix next gl) { tmps := vs.toArray ++ Array.replicate (fn.ntmps - vs.toArray.size) undef, defers := [] } w := by
    refine ⟨⟨fun t => ?_, fun t j hj => ?_, fun j cs k hj hk => (heapClosed_mem hcl.1.2 hj).2 cs k rfl hk, fun j c hj => (heapClosed_mem hcl.1.2 hj).1, ?_, hh, hR, rfl, hgl⟩, Nat.le_of_ble_eq_true hcl.2⟩
    · have := argEnv_get args 0 vs [] (List.replicate (fn.ntmps - vs.length) undef) hargs rfl t
      have e : (vs.toArray ++ Array.replicate (fn.ntmps - vs.toArray.size) undef).getD t undef = (([] : List Value) ++ vs ++ List.replicate (fn.ntmps - vs.length) undef).getD t undef := by
        rw [Array.getD_eq_getD_getElem?, List.getD_eq_getElem?_getD, ← Array.getElem?_toList]
        simp
      rw [e]
      exact this
    · cases hl : lookup t (St.init fn args h fix next gl).env with
      | none =>
        have : (St.init fn args h fix next gl).get t = .any := by simp [St.get, hl]
        rw [this] at hj; simp [AV.has] at hj
      | some v =>
        have : (St.init fn args h fix next gl).get t = v := by simp [St.get, hl]
        rw [this] at hj
        exact envClosed_mem hcl.1.1 hl hj
    · simp [St.init]; omega
  refine wp_mono (htri.of hd R φ _ w hsat) ?_
  rintro e a' w' ⟨p1, p2, R', φ', st', q, hs', he⟩
  have fin : resV T st' fn.results.toList [] (fun vs => packV vs = ret ∧ heapLe h' st') → a'.defers = [] ∧ ∃ v, (results fn a'.tmps).run P w' = .ok v w' ∧
      ∃ v' φ' R', Ending.returned v = .returned v' ∧ RepV φ' R' w' ret v' ∧ HRel φ' R' w' (fun k => lookup k h') ∧ RB R' w' ∧ Evo R (Owns φ (fun k => lookup k h)) w R' (Owns φ' (fun k => lookup k h')) w' ∧
        ∀ id cs, lookup id h = some (.box cs) → φ' id = φ id ∧ ∃ cs', lookup id h' = some (.box cs') := by
    intro hres
    obtain ⟨as, v, ⟨hk, hle⟩, hv, hrun⟩ := results_sound hT hs' fn _ hres
    refine ⟨hs'.s.defers, v, hrun, v, φ', R', rfl, hk ▸ hv, ?_, hs'.s.rlt, ?_, fun id cs hid => ?_⟩
    · exact ⟨fun j c hj => hs'.s.heap.rel j c (heapLe_get hle hj), fun j k c d b cap cap' hj hk => hs'.s.heap.inj j k c d b cap cap' (heapLe_get hle hj) (heapLe_get hle hk)⟩
    · refine ⟨he.evo.os, he.evo.tape, he.evo.output, he.evo.size, he.evo.keep, he.evo.rmono, he.evo.rkeep, he.evo.rnew, fun b hb => ?_⟩
      obtain ⟨j, c, cap, hj, hp⟩ := hb
      exact he.evo.onew b ⟨j, c, cap, heapLe_get hle hj, hp⟩
    · obtain ⟨h1, h2⟩ := boxesOK_get hbox hid
      exact ⟨he.place id h1, h2⟩
  cases e with
  | normal => exact fin q
  | ret => exact fin q
  | exit id => exact q.elim
  | goto l => exact q.elim
  | panic ch => exact absurd rfl (p1 ch)
  | outgrown => exact absurd rfl p2

/-- The plain case: no chunk comes in, none goes out. -/
theorem pspec_intro {gl : Gl} {f : FuncId} {fn : Func} {c : Code} {args : List AV} {ret : AV}
    (hf : P.funcs[f]? = some fn) (hname : (fn.name == "runtime.NumGoroutine") = false) (hb : fn.body = some c) (hlen : Nat.ble args.length fn.ntmps = true) (hd : codeDst fn.ntmps c = true)
    (hcl : (St.init fn args [] 0 0 gl).closed = true) (htri : Tri P c (Ends T fn ret []) (St.init fn args [] 0 0 gl)) : PSpec P gl f args ret := by
  have := fspec_intro hT [] [] 0 0 hf hname hb hlen hd hcl rfl htri
  exact this
end
end Go.Fw
