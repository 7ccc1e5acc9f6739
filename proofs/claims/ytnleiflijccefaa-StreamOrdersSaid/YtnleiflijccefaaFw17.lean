/- The framework, part 17: the same steps, with states kept in normal form. -/
import Derived.Test.YtnleiflijccefaaFw16
set_option linter.all false
set_option linter.unusedSectionVars false
set_option linter.unusedSimpArgs false
set_option linter.unusedVariables false
namespace Go.Fw

def normA (v : AV) (K : AV → Prop) : Prop :=
  match v with
  | .any => K .any | .bool b => K (.bool b) | .int k n => K (.int k n) | .str s => K (.str s) | .list t xs => K (.list t xs)
  | .agg cs => K (.agg cs) | .tup cs => K (.tup cs) | .rop cs o => K (.rop cs o) | .loc i o => K (.loc i o) | .own i n => K (.own i n)
  | .eloc i s j o => K (.eloc i s j o) | .nilp => K .nilp | .nils => K .nils | .nilf => K .nilf | .fn f cs => K (.fn f cs) | .maybe g u => K (.maybe g u) | .ub p q => K (.ub p q)
theorem normA_eq (v : AV) (K : AV → Prop) : normA v K = K v := by cases v <;> rfl
def normL : List AV → (List AV → Prop) → Prop
  | [], K => K []
  | a :: r, K => normA a fun a' => normL r fun r' => K (a' :: r')
theorem normL_eq : ∀ (l : List AV) (K : List AV → Prop), normL l K = K l
  | [], K => rfl
  | a :: r, K => by simp only [normL, normA_eq, normL_eq r]
def normB (v : AV) (K : AV → Prop) : Prop :=
  match v with
  | .agg cs => normL cs fun cs => K (.agg cs)
  | .tup cs => normL cs fun cs => K (.tup cs)
  | .rop cs o => normL cs fun cs => K (.rop cs o)
  | .fn f cs => normL cs fun cs => K (.fn f cs)
  | v => normA v K
theorem normB_eq (v : AV) (K : AV → Prop) : normB v K = K v := by cases v <;> simp only [normB, normA_eq, normL_eq]
def normV (v : AV) (K : AV → Prop) : Prop :=
  match v with
  | .maybe g u => normB u fun u => K (.maybe g u)
  | v => normB v K
theorem normV_eq (v : AV) (K : AV → Prop) : normV v K = K v := by cases v <;> simp only [normV, normB_eq]
def normC (c : Chunk) (K : Chunk → Prop) : Prop :=
  match c with
  | .box cs => normL cs fun cs => K (.box cs)
  | .arr t xs => K (.arr t xs)
theorem normC_eq (c : Chunk) (K : Chunk → Prop) : normC c K = K c := by cases c <;> simp only [normC, normL_eq]
def normU (h : List (Nat × Chunk)) : Upd → (List (Nat × Chunk) → Prop) → Prop
  | [], K => K h
  | (j, _, some n) :: r, K => normL n fun n => normU h r fun h => K ((j, .box n) :: h)
  | (_, _, none) :: r, K => normU h r K
theorem normU_eq (h : List (Nat × Chunk)) : ∀ (u : Upd) (K : List (Nat × Chunk) → Prop), normU h u K = K (applyW h u)
  | [], K => rfl
  | (j, _, some n) :: r, K => by simp only [normU, normL_eq, normU_eq h r, applyW]
  | (j, _, none) :: r, K => by simp only [normU, normU_eq h r, applyW]
def normE (id : Nat) : List (Nat × AV) → (List (Nat × AV) → Prop) → Prop
  | [], K => K []
  | (t, v) :: r, K => match v.may id with
    | true => normE id r fun r => K ((t, .any) :: r)
    | false => normE id r fun r => K ((t, v) :: r)
theorem normE_eq (id : Nat) : ∀ (l : List (Nat × AV)) (K : List (Nat × AV) → Prop), normE id l K = K (scrubEnv id l)
  | [], K => rfl
  | (t, v) :: r, K => by
    simp only [normE]
    cases h : v.may id <;> simp only [normE_eq id r, scrubEnv, List.map_cons, AV.scrub, h]
def normS (id : Nat) : List AV → (List AV → Prop) → Prop
  | [], K => K []
  | v :: r, K => match v.may id with
    | true => normS id r fun r => K (.any :: r)
    | false => normS id r fun r => K (v :: r)
theorem normS_eq (id : Nat) : ∀ (l : List AV) (K : List AV → Prop), normS id l K = K (l.map (AV.scrub id))
  | [], K => rfl
  | v :: r, K => by
    simp only [normS]
    cases h : v.may id <;> simp only [normS_eq id r, List.map_cons, AV.scrub, h]
def normHp (id : Nat) : List (Nat × Chunk) → (List (Nat × Chunk) → Prop) → Prop
  | [], K => K []
  | (j, c) :: r, K => match c with
    | .box cs => normS id cs fun cs => normHp id r fun r => K ((j, .box cs) :: r)
    | .arr t xs => normHp id r fun r => K ((j, .arr t xs) :: r)
theorem normHp_eq (id : Nat) : ∀ (l : List (Nat × Chunk)) (K : List (Nat × Chunk) → Prop), normHp id l K = K (scrubHeap id l)
  | [], K => rfl
  | (j, c) :: r, K => by cases c <;> simp only [normHp, normS_eq, normHp_eq id r, scrubHeap, List.map_cons, Chunk.scrub]

def stepN (n fix next : Nat) (env : List (Nat × AV)) (heap : List (Nat × Chunk)) (gl : Gl) (dst : Option Nat) (v : AV) (upd : Upd) (c : Option Chunk) (K : St → Prop) : Prop :=
  normV v fun v => normU heap upd fun heap =>
    match c, dst with
    | none, some d => K ⟨n, fix, next + 1, (d, v) :: env, heap, gl⟩
    | none, none => K ⟨n, fix, next + 1, env, heap, gl⟩
    | some ch, some d => normC ch fun ch => K ⟨n, fix, next + 1, (d, v) :: env, (next, ch) :: heap, gl⟩
    | some ch, none => normC ch fun ch => K ⟨n, fix, next + 1, env, (next, ch) :: heap, gl⟩
theorem stepN_eq (n fix next : Nat) (env : List (Nat × AV)) (heap : List (Nat × Chunk)) (gl : Gl) (dst : Option Nat) (v : AV) (upd : Upd) (c : Option Chunk) (K : St → Prop) :
    stepN n fix next env heap gl dst v upd c K = K (St.step ⟨n, fix, next, env, heap, gl⟩ dst v upd c) := by
  cases c <;> cases dst <;> simp only [stepN, normV_eq, normU_eq, normC_eq, St.step]

def appN (n fix next : Nat) (env : List (Nat × AV)) (heap : List (Nat × Chunk)) (gl : Gl) (dst : Option Nat) (id : Nat) (v : AV) (ch : Chunk) (K : St → Prop) : Prop :=
  normA v fun v => normE id env fun env => normHp id heap fun heap =>
    match dst with
    | some d => K ⟨n, fix, next + 1, (d, v) :: env, (id, ch) :: heap, gl⟩
    | none => K ⟨n, fix, next + 1, env, (id, ch) :: heap, gl⟩
theorem appN_eq (n fix next : Nat) (env : List (Nat × AV)) (heap : List (Nat × Chunk)) (gl : Gl) (dst : Option Nat) (id : Nat) (v : AV) (ch : Chunk) (K : St → Prop) :
    appN n fix next env heap gl dst id v ch K = K (St.app ⟨n, fix, next, env, heap, gl⟩ dst id v ch) := by
  cases dst <;> simp only [appN, normA_eq, normE_eq, normHp_eq, St.app]

def appOwnN (T : Tab) (n fix next : Nat) (env : List (Nat × AV)) (heap : List (Nat × Chunk)) (gl : Gl) (dst : Option Nat) (id m : Nat) (ts tx : TypeId) (x : AV) (K : St → Prop) : Prop :=
  match tget T ts with
  | some e => match e.k with
    | .slice et => match tget T et, tyOf T 20 et, lookup id heap with
      | some ee, some ty, some (.arr ty' xs) => if h : ty' = ty then match Nat.beq ee.size ty.size, notInt T tx, Nat.ble fix id, x.has id with
          | true, true, true, false => srcV (fun id => lookup id heap) ty x fun ys => (m ≤ xs.length ∧ (m + ys.length) * ee.bytes ≤ 140737488355328 ∧ m + ys.length ≤ 140737488355328) ∧
              appN n fix next env heap gl dst id (.own id (m + ys.length)) (.arr ty ((h ▸ xs : List ty.D).take m ++ ys)) K
          | _, _, _, _ => False
        else False
      | _, _, _ => False
    | _ => False
  | none => False
theorem appOwnN_eq (T : Tab) (n fix next : Nat) (env : List (Nat × AV)) (heap : List (Nat × Chunk)) (gl : Gl) (dst : Option Nat) (id m : Nat) (ts tx : TypeId) (x : AV) (K : St → Prop) :
    appOwnN T n fix next env heap gl dst id m ts tx x K = appOwnV T ⟨n, fix, next, env, heap, gl⟩ dst id m ts tx x K := by
  simp only [appOwnN, appOwnV, appN_eq]
  rfl

def callOwnN (P : Program) (n fix next : Nat) (env : List (Nat × AV)) (heap : List (Nat × Chunk)) (gl : Gl) (dst : Option Nat) (fv : AV) (args : List AV) (K : St → Prop) : Prop :=
  match fv with
  | .fn g caps => ∃ id ty xs ys m, lookup id heap = some (.arr ty xs) ∧ fix ≤ id ∧ FSpec P gl g (args ++ caps) (oneC id (.arr ty xs)) (.own id m) (oneC id (.arr ty ys)) ∧ appN n fix next env heap gl dst id (.own id m) (.arr ty ys) K
  | _ => False
theorem callOwnN_eq (P : Program) (n fix next : Nat) (env : List (Nat × AV)) (heap : List (Nat × Chunk)) (gl : Gl) (dst : Option Nat) (fv : AV) (args : List AV) (K : St → Prop) :
    callOwnN P n fix next env heap gl dst fv args K = callOwnV P ⟨n, fix, next, env, heap, gl⟩ dst fv args K := by
  cases fv <;> simp only [callOwnN, callOwnV, appN_eq]

def stElN (T : Tab) (n fix next : Nat) (env : List (Nat × AV)) (heap : List (Nat × Chunk)) (gl : Gl) (dst : Option Nat) (t : TypeId) (id sz i off : Nat) (y : AV) (K : St → Prop) : Prop :=
  match y.cells, tget T t, lookup id heap, dst with
  | some us, some e, some (.arr ty xs), none => match Nat.beq us.length e.size, Nat.beq sz ty.size, Nat.ble (off + e.size) ty.size, us.all AV.one with
    | true, true, true, true => i < xs.length ∧ ∃ y', assemble ty ((explode ty (xs.getD i ty.dflt)).take off ++ us ++ (explode ty (xs.getD i ty.dflt)).drop (off + e.size)) = some (y', []) ∧
        K ⟨n, fix, next + 1, env, (id, .arr ty (xs.set i y')) :: heap, gl⟩
    | _, _, _, _ => False
  | _, _, _, _ => False
theorem stElN_eq (T : Tab) (n fix next : Nat) (env : List (Nat × AV)) (heap : List (Nat × Chunk)) (gl : Gl) (dst : Option Nat) (t : TypeId) (id sz i off : Nat) (y : AV) (K : St → Prop) :
    stElN T n fix next env heap gl dst t id sz i off y K = stElV T ⟨n, fix, next, env, heap, gl⟩ dst t id sz i off y K := by
  simp only [stElN, stElV]
  rfl

/-- One operation, the state in its parts. -/
def seqOpN (P : Program) (T : Tab) (ops : Array Oper) (n fix next : Nat) (env : List (Nat × AV)) (heap : List (Nat × Chunk)) (gl : Gl) (o : Oper) (K : St → Prop) : Prop :=
  match o.op, o.guard with
  | .call ⟨.value f, args, ats⟩, none => (opG P T ops gl (fun id => lookup id heap) (St.ev ⟨n, fix, next, env, heap, gl⟩) next o fun v upd c => stepN n fix next env heap gl o.dst v upd c K) ∨
      needsAll ((Op.call ⟨.value f, args, ats⟩).operands.toList.map (St.ev ⟨n, fix, next, env, heap, gl⟩)) (callOwnN P n fix next env heap gl o.dst (St.ev ⟨n, fix, next, env, heap, gl⟩ f).un (args.toList.map fun x => (St.ev ⟨n, fix, next, env, heap, gl⟩ x).un) K)
  | .call ⟨.builtin .append, ⟨[s, x]⟩, ⟨[ts, tx]⟩⟩, none => needs (St.ev ⟨n, fix, next, env, heap, gl⟩ s) (needs (St.ev ⟨n, fix, next, env, heap, gl⟩ x) (match (St.ev ⟨n, fix, next, env, heap, gl⟩ s).un with
      | .own id m => appOwnN T n fix next env heap gl o.dst id m ts tx (St.ev ⟨n, fix, next, env, heap, gl⟩ x).un K
      | .nils => appNilV T (fun id => lookup id heap) next ts tx (St.ev ⟨n, fix, next, env, heap, gl⟩ x).un (fun v c => stepN n fix next env heap gl o.dst v [] c K)
      | _ => False))
  | .store t x y, none => match St.ev ⟨n, fix, next, env, heap, gl⟩ x with
      | .eloc id sz i off => stElN T n fix next env heap gl o.dst t id sz i off (St.ev ⟨n, fix, next, env, heap, gl⟩ y) K
      | _ => opG P T ops gl (fun id => lookup id heap) (St.ev ⟨n, fix, next, env, heap, gl⟩) next o fun v upd c => stepN n fix next env heap gl o.dst v upd c K
  | _, _ => opG P T ops gl (fun id => lookup id heap) (St.ev ⟨n, fix, next, env, heap, gl⟩) next o fun v upd c => stepN n fix next env heap gl o.dst v upd c K
theorem seqOpN_eq (P : Program) (T : Tab) (ops : Array Oper) (n fix next : Nat) (env : List (Nat × AV)) (heap : List (Nat × Chunk)) (gl : Gl) (o : Oper) (K : St → Prop) :
    seqOpN P T ops n fix next env heap gl o K = seqOp P T ops ⟨n, fix, next, env, heap, gl⟩ o K := by
  unfold seqOpN seqOp
  simp only [stepN_eq, appOwnN_eq, callOwnN_eq, stElN_eq]
  rfl

def awpSeqN (P : Program) (T : Tab) (ops : Array Oper) : List Oper → St → (St → Prop) → Prop
  | [], st, K => K st
  | o :: r, ⟨n, fix, next, env, heap, gl⟩, K => seqOpN P T ops n fix next env heap gl o fun st' => awpSeqN P T ops r st' K
theorem awpSeqN_eq (P : Program) (T : Tab) (ops : Array Oper) (K : St → Prop) : ∀ (l : List Oper) (st : St), awpSeqN P T ops l st K = awpSeq P T ops l st K
  | [], st => rfl
  | o :: r, ⟨n, fix, next, env, heap, gl⟩ => by simp only [awpSeqN, awpSeq, seqOpN_eq, awpSeqN_eq P T ops K r]

theorem Tri.reg {P : Program} {T : Tab} (hT : tabOK P T = true) {id : Nat} {ops : Array Oper} {Q : Exit → St → Prop} {st : St} (h : awpSeqN P T ops ops.toList st (fun s => Q .normal s)) : Tri P (.region id ops false) Q st :=
  Tri.region hT (by rw [← awpSeqN_eq]; exact h)

def awpHeadN (P : Program) (T : Tab) (ops : Array Oper) : List Oper → St → List (List Nat × List Nat) → (St → List (List Nat × List Nat) → Prop) → Prop
  | [], st, log, K => K st log
  | o :: r, ⟨n, fix, next, env, heap, gl⟩, log, K => opG P T ops gl (fun id => lookup id heap) (St.ev ⟨n, fix, next, env, heap, gl⟩) next o fun v upd c =>
      stepN n fix next env heap gl o.dst v upd c fun s => awpHeadN P T ops r s ((touched (St.ev ⟨n, fix, next, env, heap, gl⟩) o upd, writes next upd c) :: log) K
theorem awpHeadN_eq (P : Program) (T : Tab) (ops : Array Oper) (K : St → List (List Nat × List Nat) → Prop) : ∀ (l : List Oper) (st : St) (log : List (List Nat × List Nat)), awpHeadN P T ops l st log K = awpHead P T ops l st log K
  | [], st, log => rfl
  | o :: r, ⟨n, fix, next, env, heap, gl⟩, log => by simp only [awpHeadN, awpHead, stepN_eq, awpHeadN_eq P T ops K r]

theorem Tri.drw {P : Program} {T : Tab} (hT : tabOK P T = true) (hm : P.follows .mixedOrders = true) (N : Nat) {id : Nat} {ops : Array Oper} {Q : Exit → St → Prop} {st : St} (hb : drawB ops N = true)
    (h : awpHeadN P T ops (ops.toList.take N) st [] fun st' log => pairsOK ops log.reverse = true ∧ awpSeqN P T ops (ops.toList.drop N) st' fun s => Q .normal s) : Tri P (.region id ops true) Q st :=
  Tri.draw hT hm N hb (by simp only [awpHeadN_eq, awpSeqN_eq] at h; exact h)
end Go.Fw
namespace Go.Fw
theorem gl {c b : Bool} (h : (c && b) = true) : c = true := by cases c <;> simp_all
theorem ga {c b : Bool} (h : c = true) (k : b = true) : (c && b) = true := by rw [h, k]; rfl
theorem gn {b : Bool} (h : b = false) : (!b) = true := by rw [h]; rfl
end Go.Fw
namespace Go.Fw
theorem wrapId {x : Int} (h : -9223372036854775808 ≤ x ∧ x ≤ 9223372036854775807) : IntKind.i64.wrap x = x := IntWalk.i64_in x (by omega)
theorem iv1 {i : Nat} (h : i < 9223372036854775807) : AV.int .i64 (IntKind.i64.wrap ((i : Int) + 1)) = AV.int .i64 ((i + 1 : Nat) : Int) := by
  rw [wrapId (by omega)]; rfl
end Go.Fw
namespace Go.Fw
/-! ### a nil slice is an empty list -/
def leA (a b : AV) : Prop := match a, b with | .nils, .list _ xs => xs = [] | a, b => a = b
def leL : List AV → List AV → Prop
  | [], [] => True
  | a :: as, b :: bs => leA a b ∧ leL as bs
  | _, _ => False
def leV (a b : AV) : Prop := match a, b with | .agg as, .agg bs => leL as bs | a, b => leA a b
def leVs : List AV → List AV → Prop
  | [], [] => True
  | a :: as, b :: bs => leV a b ∧ leVs as bs
  | _, _ => False
theorem leA_rep {φ : Place} {R : Prot} {w : World} {a b : AV} {v : Value} (h : leA a b) (hr : RepV φ R w a v) : RepV φ R w b v := by
  unfold leA at h
  split at h
  · subst h
    simp only [RepV] at hr ⊢
    subst hr
    simp only [Rep]
    exact ⟨none, 0, rfl, Nat.le_refl _, .inl (by simp)⟩
  · subst h; exact hr
theorem leL_rep {φ : Place} {R : Prot} {w : World} : ∀ {as bs : List AV} {vs : List Value}, leL as bs → RepVs φ R w as vs → RepVs φ R w bs vs
  | [], [], _, _, h => h
  | a :: as, b :: bs, vs, h, hr => by
    simp only [RepVs] at hr ⊢
    obtain ⟨u, us, e, h1, h2⟩ := hr
    exact ⟨u, us, e, leA_rep h.1 h1, leL_rep h.2 h2⟩
  | [], _ :: _, _, h, _ => h.elim
  | _ :: _, [], _, h, _ => h.elim
theorem leV_rep {φ : Place} {R : Prot} {w : World} {a b : AV} {v : Value} (h : leV a b) (hr : RepV φ R w a v) : RepV φ R w b v := by
  unfold leV at h
  split at h
  · simp only [RepV] at hr ⊢
    obtain ⟨vs, e, h1⟩ := hr
    exact ⟨vs, e, leL_rep h h1⟩
  · exact leA_rep h hr
theorem leVs_rep {φ : Place} {R : Prot} {w : World} : ∀ {as bs : List AV} {vs : List Value}, leVs as bs → RepVs φ R w as vs → RepVs φ R w bs vs
  | [], [], _, _, h => h
  | a :: as, b :: bs, vs, h, hr => by
    simp only [RepVs] at hr ⊢
    obtain ⟨u, us, e, h1, h2⟩ := hr
    exact ⟨u, us, e, leV_rep h.1 h1, leVs_rep h.2 h2⟩
  | [], _ :: _, _, h, _ => h.elim
  | _ :: _, [], _, h, _ => h.elim
theorem FSpec.le {P : Program} {gl : Gl} {f : FuncId} {args args' : List AV} {h h' : Heap} {ret : AV} (k : FSpec P gl f args' h ret h') (hle : leVs args args') : FSpec P gl f args h ret h' :=
  ⟨k.1, fun φ R w vs h1 h2 h3 h4 => k.2 φ R w vs h1 h2 h3 (leVs_rep hle h4)⟩
theorem PSpec.le {P : Program} {gl : Gl} {f : FuncId} {args args' : List AV} {ret : AV} (k : PSpec P gl f args' ret) (hle : leVs args args') : PSpec P gl f args ret := FSpec.le k hle
end Go.Fw
namespace Go.Fw
/-- Two ways that meet again: both come to the one state. -/
theorem Tri.join {P : Program} {x y : Code} {Q : Exit → St → Prop} {st : St} (p : Prop) (S : St) (h : Tri P x (thenQ (fun s => p ∧ Le s S) Q) st) (k : p → Tri P y Q S) : Tri P (.seq x y) Q st :=
  Tri.seq (h.mono fun e s hs => by
    cases e with
    | normal => exact Tri.le S hs.2 (k hs.1)
    | _ => exact hs)
theorem drop_getD {α : Type} (d : α) {l : List α} {i : Nat} (h : i < l.length) : l.drop i = l.getD i d :: l.drop (i + 1) := by
  rw [List.drop_eq_getElem_cons h]
  simp [List.getD, h]
theorem take_getD {α : Type} (d : α) {l : List α} {i : Nat} (h : i < l.length) : l.take (i + 1) = l.take i ++ [l.getD i d] := by
  rw [List.take_succ]
  simp [List.getD, h]
theorem getD_mem {α : Type} {d : α} {l : List α} {i : Nat} (h : i < l.length) : l.getD i d ∈ l := by
  simp [List.getD, h]
theorem mem_getD {α : Type} (d : α) {l : List α} {x : α} (h : x ∈ l) : ∃ i, i < l.length ∧ l.getD i d = x := by
  obtain ⟨i, hi, rfl⟩ := List.mem_iff_getElem.1 h
  exact ⟨i, hi, by simp [List.getD, hi]⟩
theorem ext_getD {α : Type} (d : α) {l m : List α} (hl : l.length = m.length) (h : ∀ i, i < l.length → l.getD i d = m.getD i d) : l = m := by
  apply List.ext_getElem hl
  intro i h1 h2
  have := h i h1
  simpa [List.getD, h1, h2] using this
theorem toNat_cast (i : Nat) : ((i : Int)).toNat = i := rfl
end Go.Fw
