import Derived.Test.YtfaplilocljknaaGFw4
import Derived.Below
import Derived.ChangeSlices
import Derived.ChangeArms
import Derived.Deep.Slices
import Derived.SizedLaws
import Derived.WideShapes
import Derived.Carry
import Derived.WalkKit
import Derived.ProofKit
import Derived.OpenShut
import Derived.ShutString
import Derived.ChangeOld
import Derived.Scope
set_option linter.all false
namespace Go.Fw
def normA (v:AV) (K:AV→Prop):Prop:=
  match v with
  | .any=>K .any | .bool b=>K (.bool b) | .int k n=>K (.int k n) | .str s=>K (.str s) | .list t xs=>K (.list t xs)
  | .agg cs=>K (.agg cs) | .tup cs=>K (.tup cs) | .rop cs o=>K (.rop cs o) | .loc i o=>K (.loc i o) | .own i n=>K (.own i n)
  | .eloc i s j o=>K (.eloc i s j o) | .nilp=>K .nilp | .nils=>K .nils | .nilf=>K .nilf | .fn f cs=>K (.fn f cs) | .maybe g u=>K (.maybe g u) | .ub p q=>K (.ub p q) | .ex X=>K (.ex X)
theorem normA_eq (v:AV) (K:AV→Prop):normA v K = K v:=by cases v <;> rfl
def normL:List AV→(List AV→Prop)→Prop
  | [],K=>K []
  | a :: r,K=>normA a fun a'=>normL r fun r'=>K (a' :: r')
theorem normL_eq:∀ (l:List AV) (K:List AV→Prop),normL l K = K l
  | [],K=>rfl
  | a :: r,K=>by simp only [normL,normA_eq,normL_eq r]
def normB (v:AV) (K:AV→Prop):Prop:=
  match v with
  | .agg cs=>normL cs fun cs=>K (.agg cs)
  | .tup cs=>normL cs fun cs=>K (.tup cs)
  | .rop cs o=>normL cs fun cs=>K (.rop cs o)
  | .fn f cs=>normL cs fun cs=>K (.fn f cs)
  | v=>normA v K
theorem normB_eq (v:AV) (K:AV→Prop):normB v K = K v:=by cases v <;> simp only [normB,normA_eq,normL_eq]
def normV (v:AV) (K:AV→Prop):Prop:=
  match v with
  | .maybe g u=>normB u fun u=>K (.maybe g u)
  | v=>normB v K
theorem normV_eq (v:AV) (K:AV→Prop):normV v K = K v:=by cases v <;> simp only [normV,normB_eq]
def normC (c:Chunk) (K:Chunk→Prop):Prop:=
  match c with
  | .box cs=>normL cs fun cs=>K (.box cs)
  | .arr t xs=>K (.arr t xs)
  | .ext X=>K (.ext X)
theorem normC_eq (c:Chunk) (K:Chunk→Prop):normC c K = K c:=by cases c <;> simp only [normC,normL_eq]
def normU (h:List (Nat × Chunk)):Upd→(List (Nat × Chunk)→Prop)→Prop
  | [],K=>K h
  | (j,_,some n) :: r,K=>normL n fun n=>normU h r fun h=>K ((j,.box n) :: h)
  | (_,_,none) :: r,K=>normU h r K
theorem normU_eq (h:List (Nat × Chunk)):∀ (u:Upd) (K:List (Nat × Chunk)→Prop),normU h u K = K (applyW h u)
  | [],K=>rfl
  | (j,_,some n) :: r,K=>by simp only [normU,normL_eq,normU_eq h r,applyW]
  | (j,_,none) :: r,K=>by simp only [normU,normU_eq h r,applyW]
def normE (id:Nat):List (Nat × AV)→(List (Nat × AV)→Prop)→Prop
  | [],K=>K []
  | (t,v) :: r,K=>match v.may id with
    | true=>normE id r fun r=>K ((t,.any) :: r)
    | false=>normE id r fun r=>K ((t,v) :: r)
theorem normE_eq (id:Nat):∀ (l:List (Nat × AV)) (K:List (Nat × AV)→Prop),normE id l K = K (scrubEnv id l)
  | [],K=>rfl
  | (t,v) :: r,K=>by
    simp only [normE]
    cases h:v.may id <;> simp only [normE_eq id r,scrubEnv,List.map_cons,AV.scrub,h]
def normS (id:Nat):List AV→(List AV→Prop)→Prop
  | [],K=>K []
  | v :: r,K=>match v.may id with
    | true=>normS id r fun r=>K (.any :: r)
    | false=>normS id r fun r=>K (v :: r)
theorem normS_eq (id:Nat):∀ (l:List AV) (K:List AV→Prop),normS id l K = K (l.map (AV.scrub id))
  | [],K=>rfl
  | v :: r,K=>by
    simp only [normS]
    cases h:v.may id <;> simp only [normS_eq id r,List.map_cons,AV.scrub,h]
def normHp (id:Nat):List (Nat × Chunk)→(List (Nat × Chunk)→Prop)→Prop
  | [],K=>K []
  | (j,c) :: r,K=>match c with
    | .box cs=>normS id cs fun cs=>normHp id r fun r=>K ((j,.box cs) :: r)
    | .arr t xs=>normHp id r fun r=>K ((j,.arr t xs) :: r)
    | .ext X=>match X.ids.contains id with
      | true=>normHp id r fun r=>K ((j,.ext (.top X.fixed)) :: r)
      | false=>normHp id r fun r=>K ((j,.ext X) :: r)
theorem normHp_eq (id:Nat):∀ (l:List (Nat × Chunk)) (K:List (Nat × Chunk)→Prop),normHp id l K = K (scrubHeap id l)
  | [],K=>rfl
  | (j,.box cs) :: r,K=>by simp only [normHp,normS_eq,normHp_eq id r,scrubHeap,List.map_cons,Chunk.scrub]
  | (j,.arr t xs) :: r,K=>by simp only [normHp,normS_eq,normHp_eq id r,scrubHeap,List.map_cons,Chunk.scrub]
  | (j,.ext X) :: r,K=>by
    have e:Chunk.scrub id (.ext X) = match X.ids.contains id with|true=>.ext (.top X.fixed)|false=>.ext X:=rfl
    simp only [normHp,scrubHeap,List.map_cons,e]
    cases h:X.ids.contains id <;> simp only [normHp_eq id r,scrubHeap]
def stepN (n fix next:Nat) (env:List (Nat × AV)) (heap:List (Nat × Chunk)) (gl:Gl) (dst:Option Nat) (v:AV) (upd:Upd) (c:Option Chunk) (K:St→Prop):Prop:=
  normV v fun v=>normU heap upd fun heap=>
    match c,dst with
    | none,some d=>K ⟨n,fix,next + 1,(d,v) :: env,heap,gl⟩
    | none,none=>K ⟨n,fix,next + 1,env,heap,gl⟩
    | some ch,some d=>normC ch fun ch=>K ⟨n,fix,next + 1,(d,v) :: env,(next,ch) :: heap,gl⟩
    | some ch,none=>normC ch fun ch=>K ⟨n,fix,next + 1,env,(next,ch) :: heap,gl⟩
theorem stepN_eq (n fix next:Nat) (env:List (Nat × AV)) (heap:List (Nat × Chunk)) (gl:Gl) (dst:Option Nat) (v:AV) (upd:Upd) (c:Option Chunk) (K:St→Prop) :
    stepN n fix next env heap gl dst v upd c K = K (St.step ⟨n,fix,next,env,heap,gl⟩ dst v upd c):=by
  cases c <;> cases dst <;> simp only [stepN,normV_eq,normU_eq,normC_eq,St.step]
def appN (n fix next:Nat) (env:List (Nat × AV)) (heap:List (Nat × Chunk)) (gl:Gl) (dst:Option Nat) (id:Nat) (v:AV) (ch:Chunk) (K:St→Prop):Prop:=
  normA v fun v=>normE id env fun env=>normHp id heap fun heap=>
    match dst with
    | some d=>K ⟨n,fix,next + 1,(d,v) :: env,(id,ch) :: heap,gl⟩
    | none=>K ⟨n,fix,next + 1,env,(id,ch) :: heap,gl⟩
theorem appN_eq (n fix next:Nat) (env:List (Nat × AV)) (heap:List (Nat × Chunk)) (gl:Gl) (dst:Option Nat) (id:Nat) (v:AV) (ch:Chunk) (K:St→Prop) :
    appN n fix next env heap gl dst id v ch K = K (St.app ⟨n,fix,next,env,heap,gl⟩ dst id v ch):=by
  cases dst <;> simp only [appN,normA_eq,normE_eq,normHp_eq,St.app]
def appOwnN (T:Tab) (n fix next:Nat) (env:List (Nat × AV)) (heap:List (Nat × Chunk)) (gl:Gl) (dst:Option Nat) (id m:Nat) (ts tx:TypeId) (x:AV) (K:St→Prop):Prop:=
  match tget T ts with
  | some e=>match e.k with
    | .slice et=>match tget T et,tyOf T 20 et,lookup id heap with
      | some ee,some ty,some (.arr ty' xs)=>if h:ty' = ty then match Nat.beq ee.size ty.size,notInt T tx,Nat.ble fix id,x.has id with
          | true,true,true,false=>srcV (fun id=>lookup id heap) ty x fun ys=>(m≤xs.length∧(m + ys.length) * ee.bytes≤140737488355328∧m + ys.length≤140737488355328)∧
              appN n fix next env heap gl dst id (.own id (m + ys.length)) (.arr ty ((h ▸ xs:List ty.D).take m ++ ys)) K
          | _,_,_,_=>False
        else False
      | _,_,_=>False
    | _=>False
  | none=>False
theorem appOwnN_eq (T:Tab) (n fix next:Nat) (env:List (Nat × AV)) (heap:List (Nat × Chunk)) (gl:Gl) (dst:Option Nat) (id m:Nat) (ts tx:TypeId) (x:AV) (K:St→Prop) :
    appOwnN T n fix next env heap gl dst id m ts tx x K = appOwnV T ⟨n,fix,next,env,heap,gl⟩ dst id m ts tx x K:=by
  simp only [appOwnN,appOwnV,appN_eq]
  rfl
def callOwnN (P:Program) (n fix next:Nat) (env:List (Nat × AV)) (heap:List (Nat × Chunk)) (gl:Gl) (dst:Option Nat) (fv:AV) (args:List AV) (K:St→Prop):Prop:=
  match fv with
  | .fn g caps=>∃ id ty xs ys m,lookup id heap = some (.arr ty xs)∧fix≤id∧FSpec P gl g (args ++ caps) (oneC id (.arr ty xs)) (.own id m) (oneC id (.arr ty ys))∧appN n fix next env heap gl dst id (.own id m) (.arr ty ys) K
  | _=>False
theorem callOwnN_eq (P:Program) (n fix next:Nat) (env:List (Nat × AV)) (heap:List (Nat × Chunk)) (gl:Gl) (dst:Option Nat) (fv:AV) (args:List AV) (K:St→Prop) :
    callOwnN P n fix next env heap gl dst fv args K = callOwnV P ⟨n,fix,next,env,heap,gl⟩ dst fv args K:=by
  cases fv <;> simp only [callOwnN,callOwnV,appN_eq]
def stElN (T:Tab) (n fix next:Nat) (env:List (Nat × AV)) (heap:List (Nat × Chunk)) (gl:Gl) (dst:Option Nat) (t:TypeId) (id sz i off:Nat) (y:AV) (K:St→Prop):Prop:=
  match y.cells,tget T t,lookup id heap,dst with
  | some us,some e,some (.arr ty xs),none=>match Nat.beq us.length e.size,Nat.beq sz ty.size,Nat.ble (off + e.size) ty.size,us.all AV.one with
    | true,true,true,true=>i < xs.length∧∃ y',assemble ty ((explode ty (xs.getD i ty.dflt)).take off ++ us ++ (explode ty (xs.getD i ty.dflt)).drop (off + e.size)) = some (y',[])∧
        K ⟨n,fix,next + 1,env,(id,.arr ty (xs.set i y')) :: heap,gl⟩
    | _,_,_,_=>False
  | _,_,_,_=>False
theorem stElN_eq (T:Tab) (n fix next:Nat) (env:List (Nat × AV)) (heap:List (Nat × Chunk)) (gl:Gl) (dst:Option Nat) (t:TypeId) (id sz i off:Nat) (y:AV) (K:St→Prop) :
    stElN T n fix next env heap gl dst t id sz i off y K = stElV T ⟨n,fix,next,env,heap,gl⟩ dst t id sz i off y K:=by
  simp only [stElN,stElV]
  rfl
def seqOpN (P:Program) (T:Tab) (ops:Array Oper) (n fix next:Nat) (env:List (Nat × AV)) (heap:List (Nat × Chunk)) (gl:Gl) (o:Oper) (K:St→Prop):Prop:=
  match o.op,o.guard with
  | .call ⟨.value f,args,ats⟩,none=>(opG P T ops gl (fun id=>lookup id heap) (St.ev ⟨n,fix,next,env,heap,gl⟩) next o fun v upd c=>stepN n fix next env heap gl o.dst v upd c K)∨
      needsAll ((Op.call ⟨.value f,args,ats⟩).operands.toList.map (St.ev ⟨n,fix,next,env,heap,gl⟩)) (callOwnN P n fix next env heap gl o.dst (St.ev ⟨n,fix,next,env,heap,gl⟩ f).un (args.toList.map fun x=>(St.ev ⟨n,fix,next,env,heap,gl⟩ x).un) K)
  | .call ⟨.builtin .append,⟨[s,x]⟩,⟨[ts,tx]⟩⟩,none=>needs (St.ev ⟨n,fix,next,env,heap,gl⟩ s) (needs (St.ev ⟨n,fix,next,env,heap,gl⟩ x) (match (St.ev ⟨n,fix,next,env,heap,gl⟩ s).un with
      | .own id m=>appOwnN T n fix next env heap gl o.dst id m ts tx (St.ev ⟨n,fix,next,env,heap,gl⟩ x).un K
      | .nils=>appNilV T (fun id=>lookup id heap) next ts tx (St.ev ⟨n,fix,next,env,heap,gl⟩ x).un (fun v c=>stepN n fix next env heap gl o.dst v [] c K)
      | _=>False))
  | .store t x y,none=>match St.ev ⟨n,fix,next,env,heap,gl⟩ x with
      | .eloc id sz i off=>stElN T n fix next env heap gl o.dst t id sz i off (St.ev ⟨n,fix,next,env,heap,gl⟩ y) K
      | _=>opG P T ops gl (fun id=>lookup id heap) (St.ev ⟨n,fix,next,env,heap,gl⟩) next o fun v upd c=>stepN n fix next env heap gl o.dst v upd c K
  | _,_=>opG P T ops gl (fun id=>lookup id heap) (St.ev ⟨n,fix,next,env,heap,gl⟩) next o fun v upd c=>stepN n fix next env heap gl o.dst v upd c K
theorem seqOpN_eq (P:Program) (T:Tab) (ops:Array Oper) (n fix next:Nat) (env:List (Nat × AV)) (heap:List (Nat × Chunk)) (gl:Gl) (o:Oper) (K:St→Prop) :
    seqOpN P T ops n fix next env heap gl o K = seqOp P T ops ⟨n,fix,next,env,heap,gl⟩ o K:=by
  unfold seqOpN seqOp
  simp only [stepN_eq,appOwnN_eq,callOwnN_eq,stElN_eq]
  rfl
def awpSeqN (P:Program) (T:Tab) (ops:Array Oper):List Oper→St→(St→Prop)→Prop
  | [],st,K=>K st
  | o :: r,⟨n,fix,next,env,heap,gl⟩,K=>seqOpN P T ops n fix next env heap gl o fun st'=>awpSeqN P T ops r st' K
theorem awpSeqN_eq (P:Program) (T:Tab) (ops:Array Oper) (K:St→Prop):∀ (l:List Oper) (st:St),awpSeqN P T ops l st K = awpSeq P T ops l st K
  | [],st=>rfl
  | o :: r,⟨n,fix,next,env,heap,gl⟩=>by simp only [awpSeqN,awpSeq,seqOpN_eq,awpSeqN_eq P T ops K r]
theorem Tri.reg {P:Program} {T:Tab} (hT:tabOK P T = true) {id:Nat} {ops:Array Oper} {Q:Exit→St→Prop} {st:St} (h:awpSeqN P T ops ops.toList st (fun s=>Q .normal s)):Tri P (.region id ops false) Q st:=
  Tri.region hT (by rw [← awpSeqN_eq];exact h)
def awpHeadN (P:Program) (T:Tab) (ops:Array Oper):List Oper→St→List (List Nat × List Nat)→(St→List (List Nat × List Nat)→Prop)→Prop
  | [],st,log,K=>K st log
  | o :: r,⟨n,fix,next,env,heap,gl⟩,log,K=>opG P T ops gl (fun id=>lookup id heap) (St.ev ⟨n,fix,next,env,heap,gl⟩) next o fun v upd c=>
      stepN n fix next env heap gl o.dst v upd c fun s=>awpHeadN P T ops r s ((touched (St.ev ⟨n,fix,next,env,heap,gl⟩) o upd,writes next upd c) :: log) K
theorem awpHeadN_eq (P:Program) (T:Tab) (ops:Array Oper) (K:St→List (List Nat × List Nat)→Prop):∀ (l:List Oper) (st:St) (log:List (List Nat × List Nat)),awpHeadN P T ops l st log K = awpHead P T ops l st log K
  | [],st,log=>rfl
  | o :: r,⟨n,fix,next,env,heap,gl⟩,log=>by simp only [awpHeadN,awpHead,stepN_eq,awpHeadN_eq P T ops K r]
theorem Tri.drw {P:Program} {T:Tab} (hT:tabOK P T = true) (hm:P.follows .mixedOrders = true) (N:Nat) {id:Nat} {ops:Array Oper} {Q:Exit→St→Prop} {st:St} (hb:drawB ops N = true)
    (h:awpHeadN P T ops (ops.toList.take N) st [] fun st' log=>pairsOK ops log.reverse = true∧awpSeqN P T ops (ops.toList.drop N) st' fun s=>Q .normal s):Tri P (.region id ops true) Q st:=
  Tri.draw hT hm N hb (by simp only [awpHeadN_eq,awpSeqN_eq] at h;exact h)
end Go.Fw
namespace Go.Fw
theorem gl {c b:Bool} (h:(c && b) = true):c = true:=by cases c <;> simp_all
theorem ga {c b:Bool} (h:c = true) (k:b = true):(c && b) = true:=by rw [h,k];rfl
theorem gn {b:Bool} (h:b = false):(!b) = true:=by rw [h];rfl
end Go.Fw
namespace Go.Fw
theorem wrapId {x:Int} (h:-9223372036854775808≤x∧x≤9223372036854775807):IntKind.i64.wrap x = x:=IntWalk.i64_in x (by omega)
theorem iv1 {i:Nat} (h:i < 9223372036854775807):AV.int .i64 (IntKind.i64.wrap ((i:Int) + 1)) = AV.int .i64 ((i + 1:Nat):Int):=by
  rw [wrapId (by omega)];rfl
end Go.Fw
namespace Go.Fw
def leA (a b:AV):Prop:=match a,b with|.nils,.list _ xs=>xs = []|a,b=>a = b
def leL:List AV→List AV→Prop
  | [],[]=>True
  | a :: as,b :: bs=>leA a b∧leL as bs
  | _,_=>False
def leV (a b:AV):Prop:=match a,b with|.agg as,.agg bs=>leL as bs|a,b=>leA a b
def leVs:List AV→List AV→Prop
  | [],[]=>True
  | a :: as,b :: bs=>leV a b∧leVs as bs
  | _,_=>False
theorem leA_rep {φ:Place} {R:Prot} {w:World} {a b:AV} {v:Value} (h:leA a b) (hr:RepV φ R w a v):RepV φ R w b v:=by
  unfold leA at h
  split at h
  · subst h
    simp only [RepV] at hr ⊢
    subst hr
    simp only [Rep]
    exact ⟨none,0,rfl,Nat.le_refl _,.inl (by simp)⟩
  · subst h;exact hr
theorem leL_rep {φ:Place} {R:Prot} {w:World}:∀ {as bs:List AV} {vs:List Value},leL as bs→RepVs φ R w as vs→RepVs φ R w bs vs
  | [],[],_,_,h=>h
  | a :: as,b :: bs,vs,h,hr=>by
    simp only [RepVs] at hr ⊢
    obtain ⟨u,us,e,h1,h2⟩:=hr
    exact ⟨u,us,e,leA_rep h.1 h1,leL_rep h.2 h2⟩
  | [],_ :: _,_,h,_=>h.elim
  | _ :: _,[],_,h,_=>h.elim
theorem leV_rep {φ:Place} {R:Prot} {w:World} {a b:AV} {v:Value} (h:leV a b) (hr:RepV φ R w a v):RepV φ R w b v:=by
  unfold leV at h
  split at h
  · simp only [RepV] at hr ⊢
    obtain ⟨vs,e,h1⟩:=hr
    exact ⟨vs,e,leL_rep h h1⟩
  · exact leA_rep h hr
theorem leVs_rep {φ:Place} {R:Prot} {w:World}:∀ {as bs:List AV} {vs:List Value},leVs as bs→RepVs φ R w as vs→RepVs φ R w bs vs
  | [],[],_,_,h=>h
  | a :: as,b :: bs,vs,h,hr=>by
    simp only [RepVs] at hr ⊢
    obtain ⟨u,us,e,h1,h2⟩:=hr
    exact ⟨u,us,e,leV_rep h.1 h1,leVs_rep h.2 h2⟩
  | [],_ :: _,_,h,_=>h.elim
  | _ :: _,[],_,h,_=>h.elim
theorem FSpec.le {P:Program} {gl:Gl} {f:FuncId} {args args':List AV} {h h':Heap} {ret:AV} (k:FSpec P gl f args' h ret h') (hle:leVs args args'):FSpec P gl f args h ret h':=
  ⟨k.1,fun φ R w vs h1 h2 h3 h4=>k.2 φ R w vs h1 h2 h3 (leVs_rep hle h4)⟩
theorem PSpec.le {P:Program} {gl:Gl} {f:FuncId} {args args':List AV} {ret:AV} (k:PSpec P gl f args' ret) (hle:leVs args args'):PSpec P gl f args ret:=FSpec.le k hle
end Go.Fw
namespace Go.Fw
theorem Tri.join {P:Program} {x y:Code} {Q:Exit→St→Prop} {st:St} (p:Prop) (S:St) (h:Tri P x (thenQ (fun s=>p∧Le s S) Q) st) (k:p→Tri P y Q S):Tri P (.seq x y) Q st:=
  Tri.seq (h.mono fun e s hs=>by
    cases e with
    | normal=>exact Tri.le S hs.2 (k hs.1)
    | _=>exact hs)
theorem drop_getD {α:Type} (d:α) {l:List α} {i:Nat} (h:i < l.length):l.drop i = l.getD i d :: l.drop (i + 1):=by
  rw [List.drop_eq_getElem_cons h]
  simp [List.getD,h]
theorem take_getD {α:Type} (d:α) {l:List α} {i:Nat} (h:i < l.length):l.take (i + 1) = l.take i ++ [l.getD i d]:=by
  rw [List.take_succ]
  simp [List.getD,h]
theorem getD_mem {α:Type} {d:α} {l:List α} {i:Nat} (h:i < l.length):l.getD i d∈l:=by
  simp [List.getD,h]
theorem mem_getD {α:Type} (d:α) {l:List α} {x:α} (h:x∈l):∃ i,i < l.length∧l.getD i d = x:=by
  obtain ⟨i,hi,rfl⟩:=List.mem_iff_getElem.1 h
  exact ⟨i,hi,by simp [List.getD,hi]⟩
theorem ext_getD {α:Type} (d:α) {l m:List α} (hl:l.length = m.length) (h:∀ i,i < l.length→l.getD i d = m.getD i d):l = m:=by
  apply List.ext_getElem hl
  intro i h1 h2
  have:=h i h1
  simpa [List.getD,h1,h2] using this
theorem toNat_cast (i:Nat):((i:Int)).toNat = i:=rfl
end Go.Fw
namespace Go.Fw
open Go.ChangeShapes Go.WideShapes Go.Deep Go.RowKit Go.ChangeAt
def Good:(t:Ty)→t.D→Prop
  | .bool,_=>True
  | .int k,n=>(Lit.int k n).wf = true
  | .str,s=>s.length≤140737488351232
  | .nil,_=>True
  | .cons a b,x=>Good a x.1∧Good b x.2
  | .list t,xs=>xs.length≤140737488351232∧∀ x∈xs,Good t x
def okFs (P:Program) (f:TypeId→Ty→Bool):List (TypeId × Nat)→Nat→Ty→Bool
  | [],_,.nil=>true
  | (t,o) :: r,off,.cons a b=>Nat.beq o off && Nat.beq (P.cellsOf t) a.size && f t a && okFs P f r (off + a.size) b
  | _,_,_=>false
def okTy (P:Program):Nat→TypeId→Ty→Bool
  | 0,_,_=>false
  | d + 1,t,ty=>match P.underlying t with
    | some .bool=>match ty with | .bool=>true | _=>false
    | some (.int k)=>match ty with | .int k'=>decide (k = k') | _=>false
    | some .string=>match ty with | .str=>true | _=>false
    | some (.slice e)=>match ty with | .list u=>Nat.beq (P.cellsOf e) u.size && Nat.blt 0 u.size && Nat.blt 0 (P.bytesOf e) && okTy P d e u | _=>false
    | some (.struct fs)=>Nat.beq (P.cellsOf t) ty.size && okFs P (okTy P d) (fs.toList.map fun f=>(f.type,f.offset)) 0 ty
    | some (.array n e)=>Nat.beq (P.cellsOf t) ty.size && okFs P (okTy P d) ((List.range n).map fun i=>(e,i * P.cellsOf e)) 0 ty
    | _=>false
def RW (w:World):Prot:=fun b _=>b < w.heap.size
def Opens (P:Program) (t:TypeId) (ty:Ty):Prop:=
  ∀ {H:Type} (held:Bool) (enc:TypeId × Value→H) (W:World) (fuel:Nat) (cs:List Value) (d:DataW H) (ps:List MemPlace),
    DataW.trod enc P W 0 (fun _=>true) held fuel t cs = some (d,ps)→(∀ n∈d.weights P t,n≤140737488351232)→∃ x:ty.D,Rep W (RW W) ty x cs∧Good ty x
theorem mem_weightsAll {H:Type} {P:Program} {e:TypeId} {n:Nat}:∀ (l:List (DataW H)) (d:DataW H),d∈l→n∈d.weights P e→n∈DataW.weightsAll P e l
  | _ :: r,d,hd,hn=>by
    rw [DataW.weightsAll]
    rcases List.mem_cons.1 hd with rfl|hd
    · exact List.mem_append.2 (.inl hn)
    · exact List.mem_append.2 (.inr (mem_weightsAll r d hd hn))
theorem weightsEach_same {H:Type} {P:Program} {e:TypeId}:∀ (n:Nat) (l:List (DataW H)) (q:Nat),q∈DataW.weightsEach P (List.replicate n e) l→q∈DataW.weightsAll P e l
  | 0,l,q,h=>by simp [DataW.weightsEach] at h
  | n + 1,[],q,h=>by simp [List.replicate_succ,DataW.weightsEach] at h
  | n + 1,d :: r,q,h=>by
    rw [List.replicate_succ,DataW.weightsEach] at h
    rw [DataW.weightsAll]
    rcases List.mem_append.1 h with h|h
    · exact List.mem_append.2 (.inl h)
    · exact List.mem_append.2 (.inr (weightsEach_same n r q h))
theorem opens_int {P:Program} {t:TypeId} {ik:IntKind} (hu:P.underlying t = some (.int ik)):Opens P t (.int ik):=by
  intro H held enc W fuel cs d ps h _
  obtain ⟨n,rfl,_,hw⟩:=DataW.trod_int hu h
  exact ⟨n,by simp [Rep],hw⟩
theorem opens_bool {P:Program} {t:TypeId} (hu:P.underlying t = some .bool):Opens P t .bool:=by
  intro H held enc W fuel cs d ps h _
  have key:∃ b,cs = [.bool b]:=by
    cases fuel with
    | zero=>cases h
    | succ fuel=>
      simp only [DataW.trod,hu] at h
      split at h <;> first|(cases h;done)|(simp_all;done)|(rename_i b _ _;exact ⟨b,rfl⟩)|(rename_i b _;exact ⟨b,rfl⟩)|(rename_i b;exact ⟨b,rfl⟩)
  obtain ⟨b,rfl⟩:=key
  exact ⟨b,by simp [Rep],trivial⟩
theorem opens_string {P:Program} {t:TypeId} (hu:P.underlying t = some .string):Opens P t .str:=by
  intro H held enc W fuel cs d ps h hw
  obtain ⟨s,rfl,hx,_⟩:=DataW.trod_string hu h
  obtain ⟨rfl,_⟩:=Prod.mk.inj hx
  refine ⟨s.data.toList,by simp [Rep,bs],?_⟩
  exact hw s.data.toList.length (by simp [DataW.weights])
theorem cell_spot {W:World} {a:Addr} {v:Value} (h:W.cell? a = some v):a.block < W.heap.size∧a = ⟨a.block,a.off,none⟩:=by
  unfold World.cell? at h
  split at h
  · rename_i hb
    refine ⟨(Array.getElem?_eq_some_iff.1 hb).1,?_⟩
    split at h
    · cases h
    · rename_i hs
      cases a
      simp_all
  · cases h
theorem opens_slice {P:Program} {t e:TypeId} {u:Ty} (hu:P.underlying t = some (.slice e)) (hC:P.cellsOf e = u.size) (h0:0 < u.size) (hB:0 < P.bytesOf e) (he:Opens P e u):Opens P t (.list u):=by
  intro H held enc W fuel cs d ps h hw
  rcases open_slice hu h with ⟨rfl,_⟩|⟨a,len,cap,m,n,D,Pl,rfl,_,hl,hm,hmm,hx,hel⟩
  · exact ⟨[],by simp only [Rep];exact ⟨none,0,rfl,Nat.le_refl _,.inl (by simp)⟩,by simp [Good]⟩
  · simp only [if_true] at hmm
    subst hmm
    obtain ⟨rfl,rfl⟩:=Prod.mk.inj hx
    have hwe:∀ i,i < len→∀ q∈(D i).weights P e,q≤140737488351232:=fun i hi q hq=>hw q (by
      simp only [DataW.weights,hu]
      exact List.mem_cons_of_mem _ (List.mem_append.2 (.inl (mem_weightsAll _ (D i) (List.mem_map.2 ⟨i,List.mem_range.2 hi,rfl⟩) hq))))
    have hlen:len≤140737488351232:=by
      have h1:=hw ((((List.range len).map D).length + ((List.range (m - len)).map fun j=>D (len + j)).length) * P.bytesOf e) (by simp only [DataW.weights,hu];exact List.mem_cons_self)
      simp only [List.length_map,List.length_range] at h1
      exact Nat.le_trans (Nat.le_trans (Nat.le_add_right _ _) (Nat.le_mul_of_pos_right _ hB)) h1
    haveI:Inhabited u.D:=⟨u.dflt⟩
    obtain ⟨F,hF⟩:=choose_lt (n:=len) (p:=fun i x=>∃ cs',W.cells? 0 (a.add (i * P.cellsOf e)) (P.cellsOf e) = some cs'∧Rep W (RW W) u x cs'∧Good u x) (fun i hi=>by
      obtain ⟨cs',h1,h2⟩:=hel i (by omega)
      obtain ⟨x,hx1,hx2⟩:=he held enc W n cs' _ _ h2 (hwe i hi)
      exact ⟨x,cs',h1,hx1,hx2⟩)
    refine ⟨(List.range len).map F,?_,?_⟩
    · simp only [Rep]
      refine ⟨some a,m,by simp,by simpa using hl,?_⟩
      by_cases hc0:m = 0
      · exact .inl ⟨by simp;omega,hc0⟩
      · right
        have hspot:a.block < W.heap.size∧a = ⟨a.block,a.off,none⟩:=by
          obtain ⟨cs',h1,_⟩:=hel 0 (by omega)
          obtain ⟨_,h3,h4⟩:=World.cells?_some h1
          have h5:=h4 0 (by omega)
          have h6:cs'[0]? = some cs'[0]:=by simp [h3,hC,h0]
          rw [h6] at h5
          have:=cell_spot h5
          simpa [Addr.add] using this
        refine ⟨a.block,a.off,by rw [← hspot.2],fun i hi=>?_⟩
        simp only [List.length_map,List.length_range] at hi
        obtain ⟨cs',h1,h2,_⟩:=hF i hi
        obtain ⟨_,h3,h4⟩:=World.cells?_some h1
        refine ⟨cs',h3.trans hC,fun j v hj=>⟨hspot.1,?_⟩,by simpa using h2⟩
        have hjl:=(List.getElem?_eq_some_iff.1 hj).1
        have h5:=h4 j (by omega)
        rw [hj,hspot.2,hC,Addr.add_lit,Addr.add_lit] at h5
        exact h5
    · refine ⟨by simpa using hlen,fun x hx=>?_⟩
      obtain ⟨i,hi,rfl⟩:=List.mem_map.1 hx
      obtain ⟨_,_,_,h3⟩:=hF i (List.mem_range.1 hi)
      exact h3
theorem opens_fs {P:Program} {f:TypeId→Ty→Bool} (hf:∀ t ty,f t ty = true→Opens P t ty) {H:Type} (held:Bool) (enc:TypeId × Value→H) (W:World) (fuel:Nat) (cs:List Value) :
    ∀ (l:List (TypeId × Nat)) (off:Nat) (ty:Ty) (xs:List (DataW H × List MemPlace)),okFs P f l off ty = true→
    l.mapM (fun f=>DataW.trod enc P W 0 (fun _=>true) held fuel f.1 ((cs.drop f.2).take (P.cellsOf f.1))) = some xs→(∀ n∈DataW.weightsEach P (l.map (·.1)) (xs.map (·.1)),n≤140737488351232)→
    cs.length = off + ty.size→∃ x:ty.D,Rep W (RW W) ty x (cs.drop off)∧Good ty x
  | [],off,ty,xs,hk,hx,hw,hl=>by
    cases ty <;> simp only [okFs,Bool.false_eq_true] at hk
    exact ⟨(),by simp [Rep];simp [Ty.size] at hl;omega,trivial⟩
  | (t,o) :: r,off,ty,xs,hk,hx,hw,hl=>by
    cases ty <;> simp only [okFs,Bool.false_eq_true] at hk
    rename_i a b
    simp only [Bool.and_eq_true] at hk
    obtain ⟨⟨⟨h1,h2⟩,h3⟩,h4⟩:=hk
    have h1:=Nat.eq_of_beq_eq_true h1
    have h2:=Nat.eq_of_beq_eq_true h2
    subst h1
    simp only [List.mapM_cons] at hx
    obtain ⟨y,hy,hx⟩:=Option.bind_eq_some_iff.1 hx
    obtain ⟨ys,hys,hx⟩:=Option.bind_eq_some_iff.1 hx
    simp at hx
    subst hx
    simp only [Ty.size] at hl
    rw [h2] at hy
    obtain ⟨x,hx1,hx2⟩:=hf t a h3 held enc W fuel _ y.1 y.2 hy (fun n hn=>hw n (by simp [DataW.weightsEach,hn]))
    obtain ⟨x',hx3,hx4⟩:=opens_fs hf held enc W fuel cs r (o + a.size) b ys h4 hys (fun n hn=>hw n (by
      simp only [List.map_cons,DataW.weightsEach]
      exact List.mem_append.2 (.inr hn))) (by omega)
    refine ⟨(x,x'),?_,hx2,hx4⟩
    simp only [Rep]
    refine ⟨(cs.drop o).take a.size,cs.drop (o + a.size),?_,hx1,hx3⟩
    rw [← List.drop_drop,List.take_append_drop]
theorem opens_ty {P:Program}:∀ (d:Nat) (t:TypeId) (ty:Ty),okTy P d t ty = true→Opens P t ty
  | 0,_,_,h=>by simp [okTy] at h
  | d + 1,t,ty,h=>by
    simp only [okTy] at h
    split at h
    · rename_i hu
      cases ty <;> simp only [Bool.false_eq_true] at h
      exact opens_bool hu
    · rename_i k hu
      cases ty <;> simp only [Bool.false_eq_true,decide_eq_true_eq] at h
      subst h
      exact opens_int hu
    · rename_i hu
      cases ty <;> simp only [Bool.false_eq_true] at h
      exact opens_string hu
    · rename_i e hu
      cases ty <;> simp only [Bool.false_eq_true] at h
      rename_i u
      simp only [Bool.and_eq_true] at h
      obtain ⟨⟨⟨h1,h2⟩,h3⟩,h4⟩:=h
      exact opens_slice hu (Nat.eq_of_beq_eq_true h1) (by rw [Nat.blt_eq] at h2;exact h2) (by rw [Nat.blt_eq] at h3;exact h3) (opens_ty d e u h4)
    · rename_i fs hu
      simp only [Bool.and_eq_true] at h
      obtain ⟨h1,h2⟩:=h
      have h1:=Nat.eq_of_beq_eq_true h1
      intro held enc W fuel cs dd ps hd hw
      cases fuel with
      | zero=>cases hd
      | succ fuel=>
        have hd':(if cs.length = P.cellsOf t then (fs.toList.mapM fun f=>DataW.trod enc P W 0 (fun _=>true) held fuel f.type ((cs.drop f.offset).take (P.cellsOf f.type))).map fun xs=>(DataW.agg (xs.map (·.1)),xs.flatMap (·.2)) else none) = some (dd,ps):=by
          rw [← hd]
          simp only [DataW.trod,hu]
        split at hd'
        case isFalse=>cases hd'
        case isTrue hlen=>
        obtain ⟨xs,hxs,hx⟩:=Option.map_eq_some_iff.1 hd'
        obtain ⟨rfl,rfl⟩:=Prod.mk.inj hx
        obtain ⟨x,hx1,hx2⟩:=opens_fs (opens_ty d) held enc W fuel cs _ 0 ty xs h2 (by rw [List.mapM_map];exact hxs) (fun n hn=>hw n (by
          simp only [DataW.weights,hu]
          have e:(fs.toList.map fun f=>(f.type,f.offset)).map (·.1) = fs.toList.map (·.type):=by simp [List.map_map,Function.comp_def]
          rw [e] at hn
          exact hn)) (by omega)
        exact ⟨x,by simpa using hx1,hx2⟩
    · rename_i n e hu
      simp only [Bool.and_eq_true] at h
      obtain ⟨h1,h2⟩:=h
      have h1:=Nat.eq_of_beq_eq_true h1
      intro held enc W fuel cs dd ps hd hw
      cases fuel with
      | zero=>cases hd
      | succ fuel=>
        have hd':(if cs.length = P.cellsOf t then ((List.range n).mapM fun i=>DataW.trod enc P W 0 (fun _=>true) held fuel e ((cs.drop (i * P.cellsOf e)).take (P.cellsOf e))).map fun xs=>(DataW.agg (xs.map (·.1)),xs.flatMap (·.2)) else none) = some (dd,ps):=by
          rw [← hd]
          simp only [DataW.trod,hu]
        split at hd'
        case isFalse=>cases hd'
        case isTrue hlen=>
        obtain ⟨xs,hxs,hx⟩:=Option.map_eq_some_iff.1 hd'
        obtain ⟨rfl,rfl⟩:=Prod.mk.inj hx
        obtain ⟨x,hx1,hx2⟩:=opens_fs (opens_ty d) held enc W fuel cs _ 0 ty xs h2 (by rw [List.mapM_map];exact hxs) (fun q hn=>hw q (by
          simp only [DataW.weights,hu]
          refine weightsEach_same n _ q ?_
          have e':((List.range n).map fun i=>(e,i * P.cellsOf e)).map (·.1) = List.replicate n e:=by
            rw [List.map_map]
            exact List.map_const' .. |>.trans (by simp)
          rw [e'] at hn
          exact hn)) (by omega)
        exact ⟨x,by simpa using hx1,hx2⟩
    · simp at h
def argsT:List (Bool × Ty)→Ty
  | []=>.nil
  | (_,t) :: r=>.cons t (argsT r)
def argsAV:(l:List (Bool × Ty))→(argsT l).D→List AV
  | [],_=>[]
  | (true,t) :: r,x=>.agg (explode t x.1) :: argsAV r x.2
  | (false,t) :: r,x=>(explode t x.1).headD .any :: argsAV r x.2
def oneTy:Ty→Bool
  | .bool | .int _ | .str | .list _=>true
  | _=>false
def okArgs (P:Program):List TypeId→List (Bool × Ty)→Bool
  | [],[]=>true
  | t :: ts,(b,ty) :: r=>okTy P 30 t ty && P.readableRec t && decide (t < P.types.size) && (match P.underlying t with | some (.struct _) | some (.array ..)=>b | _=>!b && oneTy ty) && okArgs P ts r
  | _,_=>false
theorem okWide_agg {P:Program} {w:World} {r:Reach} {base:Nat} {t:TypeId} {v:Value} (hb:(match P.underlying t with|some (.struct _)|some (.array ..)=>true|_=>false) = true) (h:Value.okWide P w r base t v):∃ cs,v = .agg cs:=by
  unfold Value.okWide at h
  split at h
  · obtain ⟨cs,rfl,_⟩:=h;exact ⟨cs,rfl⟩
  · obtain ⟨cs,rfl,_⟩:=h;exact ⟨cs,rfl⟩
  · rename_i h1 h2
    split at hb
    · rename_i fs hu;exact absurd hu (h1 fs)
    · rename_i n e hu;exact absurd hu (h2 n e)
    · simp at hb
theorem okFs_one {P:Program} {f:TypeId→Ty→Bool} {l:List (TypeId × Nat)} {off:Nat} {ty:Ty} (h:oneTy ty = true):okFs P f l off ty = false:=by
  cases ty <;> simp [oneTy] at h <;> cases l <;> simp [okFs]
theorem okWide_one {P:Program} {w w':World} {R:Prot} {r:Reach} {base d:Nat} {t:TypeId} {v:Value} {ty:Ty} {x:ty.D} (ho:okTy P (d + 1) t ty = true) (h1:oneTy ty = true) (h:Value.okWide P w r base t v) (hr:Rep w' R ty x v.cells.toList):v.cells = #[v]:=by
  simp only [okTy] at ho
  split at ho
  · rename_i hu;obtain ⟨b,rfl⟩:=okWide_bool hu h;rfl
  · rename_i k hu;obtain ⟨b,rfl⟩:=okWide_int hu h;rfl
  · rename_i hu;obtain ⟨b,rfl⟩:=okWide_string hu h;rfl
  · rename_i e hu;obtain ⟨a,l,c,rfl⟩:=okWide_slice hu h;rfl
  · simp [okFs_one h1] at ho
  · simp [okFs_one h1] at ho
  · simp at ho
theorem explode_one {φ:Place} {R:Prot} {w:World} {ty:Ty} {x:ty.D} {v:Value} (h1:oneTy ty = true) (h:Rep w R ty x [v]):RepV φ R w ((explode ty x).headD .any) v:=by
  have:=h.explode (φ:=φ)
  cases ty <;> simp [oneTy] at h1 <;> simp only [Fw.explode,RepVs] at this <;> obtain ⟨u,us,he,hu,_⟩:=this <;> simp at he <;> (obtain ⟨rfl,_⟩:=he) <;> simpa [Fw.explode] using hu
theorem opens_args {P:Program} {H:Type} {enc:TypeId × Value→H} {W:World} {base:Nat} {φ:Place}:∀ (ts:List TypeId) (l:List (Bool × Ty)) (vs:List Value) (ds:List (DataW H)) (ps:List MemPlace),
    okArgs P ts l = true→DataW.TrodAll enc P W 0 (fun _=>true) true ts vs ds ps→(∀ n∈DataW.weightsEach P ts ds,n≤140737488351232)→(∀ (j:Nat) t v,ts[j]? = some t→vs[j]? = some v→Value.okWide P W .any base t v)→
    ds.length = ts.length∧(∃ x:(argsT l).D,RepVs φ (RW W) W (argsAV l x) vs∧Good (argsT l) x)∧
    ∀ W',Below W.heap.size W W'→laidOutB P = true→DataW.TrodAll enc P W' 0 (fun b=>decide (b < W.heap.size)) true ts vs ds ps
  | [],l,vs,ds,ps,hk,ht,hw,hv=>by
    cases l <;> simp only [okArgs,Bool.false_eq_true] at hk
    cases vs <;> cases ds <;> simp only [DataW.TrodAll] at ht
    exact ⟨rfl,⟨(),by simp [argsAV,RepVs],trivial⟩,fun _ _ _=>ht⟩
  | t :: ts,l,vs,ds,ps,hk,ht,hw,hv=>by
    cases l with
    | nil=>simp [okArgs] at hk
    | cons q l=>
    obtain ⟨b,ty⟩:=q
    simp only [okArgs,Bool.and_eq_true,decide_eq_true_eq] at hk
    obtain ⟨⟨⟨⟨k1,k2⟩,k3⟩,k4⟩,k5⟩:=hk
    cases vs with
    | nil=>simp [DataW.TrodAll] at ht
    | cons v vs=>
    cases ds with
    | nil=>simp [DataW.TrodAll] at ht
    | cons d ds=>
    simp only [DataW.TrodAll] at ht
    obtain ⟨p,p',⟨fuel,h1⟩,h2,rfl⟩:=ht
    have hval:=hv 0 t v rfl rfl
    obtain ⟨x,hx,hg⟩:=opens_ty 30 t ty k1 true enc W fuel _ d p h1 (fun n hn=>hw n (by simp [DataW.weightsEach,hn]))
    obtain ⟨e1,⟨y,hy,hgy⟩,hback⟩:=opens_args (base:=base) (φ:=φ) ts l vs ds p' k5 h2 (fun n hn=>hw n (by simp only [DataW.weightsEach];exact List.mem_append.2 (.inr hn))) (fun j t v hj hj'=>hv (j + 1) t v (by simpa using hj) (by simpa using hj'))
    refine ⟨by simp [e1],⟨(x,y),?_,hg,hgy⟩,fun W' hb hl=>⟨p,p',Below.trod hl k2 k3 ⟨fuel,h1⟩ hb (fun q hq=>DataW.trod_lt fuel t _ _ h1 q hq),hback W' hb hl,rfl⟩⟩
    cases b with
    | true=>
      have hagg:(match P.underlying t with|some (.struct _)|some (.array ..)=>true|_=>false) = true:=by
        split at k4 <;> simp_all
      obtain ⟨cs,rfl⟩:=okWide_agg hagg hval
      exact ⟨_,vs,rfl,by simp only [RepV];exact ⟨cs,rfl,hx.explode⟩,hy⟩
    | false=>
      have ho:oneTy ty = true:=by split at k4 <;> simp_all
      have hc:=okWide_one (R:=RW W) (w':=W) k1 ho hval hx
      rw [hc] at hx
      exact ⟨_,vs,rfl,explode_one ho hx,hy⟩
theorem evo_below {φ φ':Place} {w w':World} {R':Prot} (h:Evo (RW w) (Owns φ noHeap) w R' (Owns φ' noHeap) w'):Below w.heap.size w w':=
  ⟨h.os,h.tape,h.output,h.size,fun k hk=>h.keep k hk (by rintro ⟨_,_,_,_,h,_⟩;simp [noHeap] at h)⟩
theorem weightsEach_app {H:Type} {P:Program}:∀ (ts us:List TypeId) (ds:List (DataW H)) (n:Nat),n∈DataW.weightsEach P ts ds→n∈DataW.weightsEach P (ts ++ us) ds
  | [],us,ds,n,h=>by simp [DataW.weightsEach] at h
  | t :: ts,us,[],n,h=>by simp [DataW.weightsEach] at h
  | t :: ts,us,d :: ds,n,h=>by
    simp only [DataW.weightsEach,List.cons_append,List.mem_append] at h ⊢
    exact h.imp id (weightsEach_app ts us ds n)
theorem law_calls {P:Program} {H:Type} {enc:TypeId × Value→H} {f:FuncId} {fn:Func} {s:ChangeSpec} {W:World} {base:Nat} {args:Array Value} {ds gs:List (DataW H)} {before:List MemPlace} {l:List (Bool × Ty)} {tb:TypeId} {gl:Gl}
    (hlaid:laidOutB P = true) (hargs:okArgs P fn.params.toList l = true) (hres:fn.resultTypes = #[tb]) (htb:P.underlying tb = some .bool) (hvars:s.vars = [])
    (hspec:∀ ds:List (DataW H),ds.length = fn.params.toList.length→(s.fn H ds).results = [.lit (.bool true)]∧(s.fn H ds).args = ds∧(s.fn H ds).vars = [])
    (contract:∀ x,Good (argsT l) x→PSpec P gl f (argsAV l x) (.bool true))
    (hval:∀ (j:Nat) t v,fn.params[j]? = some t→args[j]? = some v→Value.okWide P W .any base t v)
    (hW:DataW.Whole enc P fn.params.toList s.vars false W args.toList ds gs before)
    (hsz:(DataW.weightsEach P (fn.params.toList ++ s.plain.varTypes P) (ds ++ gs)).all (·≤reachBytes) = true)
    (hgl:GlOK gl (fun _=>none) (RW W) W) :
    Calls P f args W fun e W'=>∃ v,e = .returned v∧s.post enc P fn false true false false W args v W':=by
  have hW':=hW
  obtain ⟨p,q,hA,hV,rfl,hfz,hnd⟩:=hW
  rw [hvars] at hV
  obtain ⟨rfl,rfl⟩:=trodVars_none hV
  rw [List.append_nil] at hsz
  have hwts:∀ n∈DataW.weightsEach P fn.params.toList ds,n≤140737488351232:=fun n hn=>by
    have hmem:n∈DataW.weightsEach P (fn.params.toList ++ s.plain.varTypes P) ds:=weightsEach_app _ _ _ n hn
    exact of_decide_eq_true (List.all_eq_true.1 hsz n hmem)
  obtain ⟨hlen,⟨x,hx,hg⟩,hback⟩:=opens_args (base:=base) (φ:=fun _=>none) fn.params.toList l args.toList ds p hargs hA hwts (fun j t v h1 h2=>hval j t v (by simpa using h1) (by simpa using h2))
  obtain ⟨_,hcall⟩:=contract x hg
  have hc:=hcall (fun _=>none) (RW W) W args.toList ⟨fun _ _ h=>by simp [noHeap] at h,fun _ _ _ _ _ _ _ _ _ h=>by simp [noHeap] at h⟩ (fun b o h=>h) hgl hx
  rw [Array.toArray_toList] at hc
  refine hc.mono ?_
  rintro e W' ⟨v,φ',R',rfl,hv,_,_,hevo,_⟩
  simp only [RepV] at hv
  subst hv
  have bel:=evo_below hevo
  obtain ⟨s1,s2,s3⟩:=hspec ds hlen
  refine ⟨_,rfl,ds,[],_,[],p,[],hW',?_,?_,?_,bel.frame _,fun h=>by cases h⟩
  · rw [List.append_nil,s1,hres]
    exact trodAll_mk1 (shut_bool htb _)
  · rw [List.append_nil,s2]
    exact hback W' bel hlaid
  · rw [List.append_nil,s3,hvars]
    rfl
theorem glOK_nil {φ:Place} {R:Prot} {w:World}:GlOK [] φ R w:=by
  intro g cs h
  simp [lookup] at h
end Go.Fw
namespace Go.Fw
variable {P:Program}
theorem gl' {a b:Bool} (h:(if a = true then b else false) = true):a = true:=by cases a <;> simp_all
theorem gr' {a b:Bool} (h:(if a = true then b else false) = true):b = true:=by cases a <;> simp_all
def scopeQ (Q:Exit→St→Prop):Exit→St→Prop
  | .goto _,_=>False
  | e,s=>Q e s
theorem Tri.scope {c:Code} {Q:Exit→St→Prop} {st:St} (h:Tri P c (scopeQ Q) st):Tri P (.scope c) Q st:=⟨fun hd R φ a w hs=>by
  refine wp_scope_straight ?_
  refine wp_mono (h.of (by simpa [codeDst] using hd) R φ a w hs) ?_
  rintro e a' w' ⟨p1,p2,R',φ',st',q,hs',he⟩
  cases e with
  | goto l=>exact q.elim
  | panic ch=>exact absurd rfl (p1 ch)
  | outgrown=>exact absurd rfl p2
  | normal=>exact ⟨p1,p2,R',φ',st',q,hs',he⟩
  | exit id=>exact ⟨p1,p2,R',φ',st',q,hs',he⟩
  | ret=>exact ⟨p1,p2,R',φ',st',q,hs',he⟩⟩
theorem lookup_oneC (c:Chunk):(fun k=>lookup k [(0,c)]) = oneC 0 c:=by
  funext k
  simp only [lookup,oneC]
  cases k with
  | zero=>rfl
  | succ k=>rfl
theorem own_args {φ:Place} {R:Prot} {w:World} {id n:Nat} {rest:List AV} (hid:∀ j,AV.hasAny j rest = false) {vs:List Value} (h:RepVs φ R w (.own id n :: rest) vs) :
    RepVs (fun k=>if k = 0 then φ id else none) R w (.own 0 n :: rest) vs:=by
  simp only [RepVs] at h ⊢
  obtain ⟨u,us,e,h1,h2⟩:=h
  refine ⟨u,us,e,?_,RepVs.mono (fun _ _ h=>h) (fun _ _ _=>rfl) (fun j hj=>by rw [hid j] at hj;simp at hj) h2⟩
  simpa [RepV] using h1
theorem FSpec.own {gl:Gl} {f:FuncId} {n m:Nat} {rest:List AV} {ty:Ty} {xs ys:List ty.D} (id:Nat) (hid:∀ j,AV.hasAny j rest = false)
    (h:FSpec P gl f (.own 0 n :: rest) (oneC 0 (.arr ty xs)) (.own 0 m) (oneC 0 (.arr ty ys))):FSpec P gl f (.own id n :: rest) (oneC id (.arr ty xs)) (.own id m) (oneC id (.arr ty ys)):=by
  refine ⟨h.1,fun φ R w vs hh hR hgl hargs=>?_⟩
  have hone:∀ {i k:Nat} {c d:Chunk},oneC i c k = some d→k = i∧d = c:=fun {i k c d} hk=>by
    unfold oneC at hk
    split at hk
    · rename_i e;simp at hk;exact ⟨e,hk.symm⟩
    · simp at hk
  have hself:∀ (i:Nat) (c:Chunk),oneC i c i = some c:=fun i c=>by simp [oneC]
  have hown:∀ (φ φ0:Place) (i j:Nat) (c d:Chunk),c.single→φ0 j = φ i→∀ b,Owns φ0 (oneC j c) b→Owns φ (oneC i d) b:=by
    rintro φ φ0 i j c d hcs he b ⟨k,ch,b0,cap,hk,hp,hx⟩
    obtain ⟨rfl,rfl⟩:=hone hk
    obtain rfl:=hcs b0 cap b hx
    exact Owns.main (hself i d) (by rw [← he];exact hp)
  have h0:HRel (fun k=>if k = 0 then φ id else none) R w (oneC 0 (.arr ty xs)):=by
    refine ⟨fun k c hk=>?_,fun k j c d b b' cap cap' x hk hj _ _ _ _=>?_⟩
    · obtain ⟨rfl,rfl⟩:=hone hk
      have:=hh.rel id _ (hself id _)
      simpa [ChunkRel] using this
    · obtain ⟨rfl,_⟩:=hone hk
      obtain ⟨rfl,_⟩:=hone hj
      rfl
  have hgl0:GlOK gl (fun k=>if k = 0 then φ id else none) R w:=fun g cs hg=>by
    refine ⟨RepV.mono (fun _ _ h=>h) (fun _ _ _=>rfl) (fun j hj=>?_) (hgl g cs hg).1,(hgl g cs hg).2⟩
    simp only [AV.has] at hj
    rw [(hgl g cs hg).2 j] at hj
    simp at hj
  refine (h.2 _ R w vs h0 hR hgl0 (own_args hid hargs)).mono ?_
  rintro e w' ⟨v,φ',R',rfl,hv,hh',hR',hevo,_⟩
  refine ⟨v,fun k=>if k = id then φ' 0 else φ k,R',rfl,?_,⟨fun k c hk=>?_,fun k j c d b b' cap cap' x hk hj _ _ _ _=>?_⟩,hR',⟨hevo.os,hevo.tape,hevo.output,hevo.size,fun b hb ho=>?_,hevo.rmono,hevo.rkeep,fun b o hb=>?_,fun b hb=>?_⟩,fun j cs hj hcf=>?_⟩
  · simpa [RepV] using hv
  · obtain ⟨rfl,rfl⟩:=hone hk
    have:=hh'.rel 0 _ (hself 0 _)
    simpa [ChunkRel] using this
  · obtain ⟨rfl,_⟩:=hone hk
    obtain ⟨rfl,_⟩:=hone hj
    rfl
  · exact hevo.keep b hb fun h=>ho (hown φ _ id 0 _ _ (fun _ _ _ h=>by exact h) (by simp) b h)
  · rcases hevo.rnew b o hb with h|h|h
    · exact .inl h
    · exact .inr (.inl h)
    · exact .inr (.inr (hown φ _ id 0 _ _ (fun _ _ _ h=>by exact h) (by simp) b h))
  · have hb':Owns φ' (oneC 0 (.arr ty ys)) b:=hown φ' _ 0 id _ _ (fun _ _ _ h=>by exact h) (by simp) b hb
    rcases hevo.onew b hb' with h|h
    · exact .inl h
    · exact .inr (hown φ _ id 0 _ _ (fun _ _ _ h=>by exact h) (by simp) b h)
  · obtain ⟨_,h⟩:=hone hj
    subst h
    simp [Chunk.fixed] at hcf
theorem fspec_own {T : Tab} (hT : tabOK P T = true) {gl : Gl} {f : FuncId} {fn : Func} {c : Code} {n m : Nat} {rest : List AV} {ty : Ty} {xs ys : List ty.D} (hf : P.funcs[f]? = some fn) (hname : (fn.name == "runtime.NumGoroutine") = false) (hb : fn.body = some c)
    (hlen:Nat.ble (rest.length + 1) fn.ntmps = true) (hd:codeDst fn.ntmps c = true) (hcl:(St.init fn (.own 0 n :: rest) [(0,.arr ty xs)] 0 1 gl).closed = true) (hid:∀ j,AV.hasAny j rest = false)
    (htri:Tri P c (Ends T fn (.own 0 m) [(0,.arr ty ys)]) (St.init fn (.own 0 n :: rest) [(0,.arr ty xs)] 0 1 gl)) (id:Nat):FSpec P gl f (.own id n :: rest) (oneC id (.arr ty xs)) (.own id m) (oneC id (.arr ty ys)):=by
  refine FSpec.own id hid ?_
  have:=fspec_intro hT [(0,.arr ty xs)] [(0,.arr ty ys)] 0 1 hf hname hb (by simpa using hlen) hd hcl rfl htri
  rw [lookup_oneC,lookup_oneC] at this
  exact this
def envLeV:List (Nat × AV)→St→Prop
  | [],_=>True
  | (t,v) :: r,st=>leV (st.get t) v∧envLeV r st
def leC (a b:Chunk):Prop:=match a,b with|.box as,.box bs=>leL as bs|a,b=>a = b
def heapLeV:List (Nat × Chunk)→St→Prop
  | [],_=>True
  | (j,c) :: r,st=>(match st.lk j with | some c'=>leC c' c | none=>False)∧heapLeV r st
theorem envLeV_get {st:St}:∀ {env:List (Nat × AV)} {t:Nat} {v:AV},envLeV env st→lookup t env = some v→leV (st.get t) v
  | [],_,_,_,hl=>by simp [lookup] at hl
  | (k,u) :: r,t,v,h,hl=>by
    rw [lookup_cons] at hl
    split at hl
    · rename_i e
      simp only [Option.some.injEq] at hl
      subst hl
      rw [← e];exact h.1
    · exact envLeV_get h.2 hl
theorem heapLeV_get {st:St}:∀ {l:List (Nat × Chunk)} {j:Nat} {c:Chunk},heapLeV l st→lookup j l = some c→∃ c',st.lk j = some c'∧leC c' c
  | [],_,_,_,hl=>by simp [lookup] at hl
  | (k,u) :: r,t,v,h,hl=>by
    rw [lookup_cons] at hl
    split at hl
    · rename_i e
      simp only [Option.some.injEq] at hl
      subst hl
      have h1:=h.1
      rw [e] at h1
      split at h1
      · rename_i c' hc';exact ⟨c',hc',h1⟩
      · exact h1.elim
    · exact heapLeV_get h.2 hl
theorem leC_at {a b:Chunk} (h:leC a b) {bl cap x:Nat} (hx:b.at bl cap x):a.at bl cap x:=by
  unfold leC at h
  split at h
  · exact hx
  · subst h;exact hx
theorem leC_rel {φ:Place} {R:Prot} {w:World} {id:Nat} {a b:Chunk} (h:leC a b) (hr:ChunkRel φ R w id a):ChunkRel φ R w id b:=by
  unfold leC at h
  split at h
  · obtain ⟨bl,cap,vs,e,fr,h1,h2,h3,h4,h5⟩:=hr
    exact ⟨bl,cap,vs,e,fr,h1,h2,leL_rep h h3,h4,h5⟩
  · subst h;exact hr
theorem Le.weakV {st S:St} (hn:S.n = st.n) (hf:S.fix = st.fix) (hg:S.gl = st.gl) (hc:S.closed = true) (he:envLeV S.env st) (hh:heapLeV S.heap st):Le st S:=fun R φ a w hs=>by
  unfold St.closed at hc
  simp only [Bool.and_eq_true] at hc
  have hlk:∀ j c,S.lk j = some c→∃ c',st.lk j = some c'∧leC c' c:=fun j c hj=>heapLeV_get hh hj
  refine ⟨R,φ,⟨⟨fun t=>?_,fun t j hj=>?_,fun j cs k hj hk=>(heapClosed_mem hc.1.2 hj).2 k hk,fun j c hj=>(heapClosed_mem hc.1.2 hj).1,by rw [hn];exact hs.s.sz,
    ⟨fun j c hj=>?_,fun j k c d b b' cap cap' x hj hk hp hp' hx hx'=>?_⟩,hs.s.rlt,hs.s.defers,by rw [hg];exact hs.s.gl⟩,Nat.le_of_ble_eq_true hc.2⟩,
    ⟨⟨rfl,rfl,rfl,Nat.le_refl _,fun _ _ _=>rfl,fun _ _ h=>h,fun _ _ _=>rfl,fun _ _ h=>.inl h,fun b ⟨j,c,b0,cap,hj,hp,hx⟩=>?_⟩,fun _ _=>rfl,hf,hn⟩⟩
  · cases hl:lookup t S.env with
    | none=>
      have:S.get t = .any:=by simp [St.get,hl]
      rw [this];simp [RepV]
    | some v=>
      have:S.get t = v:=by simp [St.get,hl]
      rw [this]
      exact leV_rep (envLeV_get he hl) (hs.s.env t)
  · cases hl:lookup t S.env with
    | none=>
      have:S.get t = .any:=by simp [St.get,hl]
      rw [this] at hj;simp [AV.has] at hj
    | some v=>
      have:S.get t = v:=by simp [St.get,hl]
      rw [this] at hj
      exact envClosed_mem hc.1.1 hl hj
  · obtain ⟨c',h1,h2⟩:=hlk j c hj
    exact leC_rel h2 (hs.s.heap.rel j c' h1)
  · obtain ⟨c',h1,ha⟩:=hlk j c hj
    obtain ⟨d',h2,ha'⟩:=hlk k d hk
    exact hs.s.heap.inj j k c' d' b b' cap cap' x h1 h2 hp hp' (leC_at ha hx) (leC_at ha' hx')
  · obtain ⟨c',h1,ha⟩:=hlk j c hj
    exact .inr ⟨j,c',b0,cap,h1,hp,leC_at ha hx⟩
end Go.Fw
namespace Go.Fw
def OpTri (P:Program) (ops:Array Oper) (o:Oper) (st:St) (K:St→Prop):Prop:=
  dstB o st.n = true→∀ (R:Prot) (φ:Place) (a:Act) (w:World),Sat R φ st a w→∀ (next:Act→World→Prop) (Q:Exit→Act→World→Prop),
    (∀ R' φ' a' w' st',K st'→Sat R' φ' st' a' w'→Ext st R φ w st' R' φ' w'→next a' w')→
    (if Region.wanted o (yielded ops a.tmps) = true then o.wp P a w next Q∨(o.asks P a w∧LetsOut Q) else next (a.put o.dst undef) w)
def St.idle (st:St) (dst:Option Nat):St:=
  { n:=st.n,fix:=st.fix,next:=st.next + 1,env:=(match dst with|some d=>(d,.maybe false .any) :: st.env|none=>st.env),heap:=st.heap,gl:=st.gl }
def altOp (P:Program) (T:Tab) (ops:Array Oper) (S:St) (o:Oper) (K:St→Prop):Prop:=seqOp P T ops S o K∨OpTri P ops o S K
def markOp (P:Program) (T:Tab) (ops:Array Oper) (S:St) (o:Oper) (K:St→Prop):Prop:=
  altOp P T ops S o K∨(∃ g,o.guard = some g∧gOf ops S.ev g = some true∧altOp P T ops S { o with guard:=none } K)∨
    ∃ g b,o.guard = some g∧gOf ops S.ev g = some b∧(b = true→altOp P T ops S { o with guard:=none } K)∧(b = false→K (S.idle o.dst))
def awpM (P:Program) (T:Tab) (ops:Array Oper):List Oper→Nat→List Nat→St→(St→Prop)→Prop
  | [],_,_,st,K=>K st
  | o :: r,i,c :: cs,st,K=>match Nat.beq c i with
    | true=>∃ S,Le st S∧markOp P T ops S o (fun st'=>awpM P T ops r (i + 1) cs st' K)
    | false=>seqOp P T ops st o fun st'=>awpM P T ops r (i + 1) (c :: cs) st' K
  | o :: r,i,[],st,K=>seqOp P T ops st o fun st'=>awpM P T ops r (i + 1) [] st' K
theorem Ext.idle {st:St} {R:Prot} {φ:Place} {w:World} (dst:Option Nat):Ext st R φ w (st.idle dst) R φ w:=⟨Evo.refl _ _ _,fun _ _=>rfl,rfl,rfl⟩
theorem Sat.idle {R:Prot} {φ:Place} {st:St} {a:Act} {w:World} (h:Sat R φ st a w) {dst:Option Nat} (hd:∀ d,dst = some d→d < st.n):Sat R φ (st.idle dst) (a.put dst undef) w:=by
  have hget:∀ t,(st.idle dst).get t = if dst = some t then .maybe false .any else st.get t:=fun t=>by
    cases dst with
    | none=>simp [St.idle,St.get]
    | some d=>
      simp only [St.idle,St.get,lookup_cons,Option.some.injEq]
      by_cases e:d = t <;> simp [e]
  refine ⟨⟨fun t=>?_,fun t j hj=>?_,h.s.hnamed,fun j c hj=>?_,?_,h.s.heap,h.s.rlt,?_,h.s.gl⟩,?_⟩
  · rw [hget,getD_put a dst undef t (fun d hd'=>by rw [h.s.sz];exact hd d hd')]
    split
    · unfold RepV;exact ⟨fun h=>by simp at h,fun _=>rfl⟩
    · exact h.s.env t
  · rw [hget] at hj
    split at hj
    · simp [AV.has] at hj
    · exact h.s.named t j hj
  · have:=h.s.hnext j c hj
    show j < st.next + 1
    omega
  · have:=h.s.sz
    cases dst <;> simp [Act.put,St.idle,this]
  · have:=h.s.defers
    cases dst <;> simpa [Act.put] using this
  · have:=h.fx
    show st.fix≤st.next + 1
    omega
section
variable {P:Program} {T:Tab} (hT:tabOK P T = true)
include hT
theorem alt_sound {ops:Array Oper} {S:St} {o:Oper} {K:St→Prop} (h:altOp P T ops S o K) (hd:dstB o S.n = true) {R:Prot} {φ:Place} {a:Act} {w:World} (hs:Sat R φ S a w)
    {next:Act→World→Prop} {Q:Exit→Act→World→Prop} (hnext:∀ R' φ' a' w' st',K st'→Sat R' φ' st' a' w'→Ext S R φ w st' R' φ' w'→next a' w') :
    (if Region.wanted o (yielded ops a.tmps) = true then o.wp P a w next Q∨(o.asks P a w∧LetsOut Q) else next (a.put o.dst undef) w):=by
  rcases h with h|h
  · exact seqOp_sound hT h hd hs hnext
  · exact h hd R φ a w hs next Q hnext
theorem markOp_sound {ops:Array Oper} {S:St} {o:Oper} {K:St→Prop} (h:markOp P T ops S o K) (hd:dstB o S.n = true) {R:Prot} {φ:Place} {a:Act} {w:World} (hs:Sat R φ S a w)
    {next:Act→World→Prop} {Q:Exit→Act→World→Prop} (hnext:∀ R' φ' a' w' st',K st'→Sat R' φ' st' a' w'→Ext S R φ w st' R' φ' w'→next a' w') :
    (if Region.wanted o (yielded ops a.tmps) = true then o.wp P a w next Q∨(o.asks P a w∧LetsOut Q) else next (a.put o.dst undef) w):=by
  have want:∀ g,o.guard = some g→gOf ops S.ev g = some true→altOp P T ops S { o with guard:=none } K→
      (if Region.wanted o (yielded ops a.tmps) = true then o.wp P a w next Q∨(o.asks P a w∧LetsOut Q) else next (a.put o.dst undef) w):=by
    intro g hg hgo h
    have hwant:Region.wanted o (yielded ops a.tmps) = true:=gOf_sound hgo a (fun t _=>hs.s.env t) o hg
    have:=alt_sound hT (o:={ o with guard:=none }) h hd hs (next:=next) (Q:=Q) hnext
    have hw0:Region.wanted { o with guard:=none } (yielded ops a.tmps) = true:=by simp [Region.wanted]
    rw [if_pos hw0] at this
    rw [if_pos hwant]
    exact this
  rcases h with h|⟨g,hg,hgo,h⟩|⟨g,b,hg,hgo,h1,h2⟩
  · exact alt_sound hT h hd hs hnext
  · exact want g hg hgo h
  · cases b with
    | true=>exact want g hg hgo (h1 rfl)
    | false=>
      have hwant:Region.wanted o (yielded ops a.tmps) = false:=gOf_sound hgo a (fun t _=>hs.s.env t) o hg
      rw [if_neg (by simp [hwant])]
      exact hnext R φ _ w _ (h2 rfl) (hs.idle (fun d hd'=>by simp only [dstB,hd',decide_eq_true_eq] at hd;exact hd)) (Ext.idle _)
theorem mark_step {ops:Array Oper} {o:Oper} {r:List Oper} {i:Nat} {cs:List Nat} {st:St} {K:St→Prop} (h:awpM P T ops (o :: r) i cs st K) (hd:dstB o st.n = true) {R:Prot} {φ:Place} {a:Act} {w:World} (hs:Sat R φ st a w)
    {next:Act→World→Prop} {Q:Exit→Act→World→Prop} (hnext:∀ R' φ' a' w' st' cs',awpM P T ops r (i + 1) cs' st' K→Sat R' φ' st' a' w'→Ext st R φ w st' R' φ' w'→next a' w') :
    (if Region.wanted o (yielded ops a.tmps) = true then o.wp P a w next Q∨(o.asks P a w∧LetsOut Q) else next (a.put o.dst undef) w):=by
  cases cs with
  | nil=>
    simp only [awpM] at h
    exact seqOp_sound hT h hd hs (fun R' φ' a' w' st' hk hs' he=>hnext R' φ' a' w' st' [] hk hs' he)
  | cons c cs=>
    simp only [awpM] at h
    split at h
    · obtain ⟨S,hle,h⟩:=h
      obtain ⟨R1,φ1,hs1,he1⟩:=hle R φ a w hs
      exact markOp_sound hT h (by rw [he1.n];exact hd) hs1 (fun R' φ' a' w' st' hk hs' he=>hnext R' φ' a' w' st' cs hk hs' (he1.trans he))
    · exact seqOp_sound hT h hd hs (fun R' φ' a' w' st' hk hs' he=>hnext R' φ' a' w' st' (c :: cs) hk hs' he)
theorem mark_sound {ops:Array Oper} {Q:Exit→Act→World→Prop}:∀ (os:List Oper) (k:Nat) (i:Nat) (cs:List Nat) (st:St) (K:St→Prop) (R:Prot) (φ:Place) (a:Act) (w:World),
    awpM P T ops os i cs st K→(∀ i o,os[i]? = some o→ops[k + i]? = some o)→os.all (dstB · st.n) = true→Sat R φ st a w→
    (∀ R' φ' st' a' w',K st'→Sat R' φ' st' a' w'→Ext st R φ w st' R' φ' w'→Q .normal a' w')→wpOps P ops Q (List.range' k os.length) a w
  | [],k,i,cs,st,K,R,φ,a,w,h,_,_,hs,hQ=>by
    simp only [List.length_nil,List.range'_zero,wpOps]
    simp only [awpM] at h
    exact hQ R φ st a w h hs (Ext.refl _ _ _ _)
  | o :: r,k,i,cs,st,K,R,φ,a,w,h,hi,hd,hs,hQ=>by
    simp only [List.all_cons,Bool.and_eq_true] at hd
    have h0:=hi 0 o rfl
    simp only [Nat.add_zero] at h0
    simp only [List.length_cons,List.range'_succ,wpOps,h0]
    refine mark_step hT h hd.1 hs ?_
    intro R' φ' a' w' st' cs' hk hs' he
    exact mark_sound r (k + 1) (i + 1) cs' _ K R' φ' a' w' hk (fun i o' ho'=>by have:=hi (i + 1) o' (by simpa using ho');rw [show k + 1 + i = k + (i + 1) by omega];exact this) (by rw [he.n];exact hd.2) hs'
      (fun R2 φ2 st2 a2 w2 hk2 hs2 he2=>hQ R2 φ2 st2 a2 w2 hk2 hs2 (he.trans he2))
end
def withSt (S:St) (f:Nat→Nat→Nat→List (Nat × AV)→List (Nat × Chunk)→Gl→Prop):Prop:=match S with|⟨n,fix,next,env,heap,gl⟩=>f n fix next env heap gl
def altOpN (P:Program) (T:Tab) (ops:Array Oper) (S:St) (o:Oper) (K:St→Prop):Prop:=
  (withSt S fun n fix next env heap gl=>seqOpN P T ops n fix next env heap gl o K)∨OpTri P ops o S K
theorem altOpN_eq (P:Program) (T:Tab) (ops:Array Oper) (S:St) (o:Oper) (K:St→Prop):altOpN P T ops S o K = altOp P T ops S o K:=by
  obtain ⟨n',fix',next',env',heap',gl'⟩:=S
  simp only [altOpN,altOp,withSt,seqOpN_eq]
def idleN (n fix next:Nat) (env:List (Nat × AV)) (heap:List (Nat × Chunk)) (gl:Gl) (dst:Option Nat) (K:St→Prop):Prop:=
  match dst with|some d=>K ⟨n,fix,next + 1,(d,.maybe false .any) :: env,heap,gl⟩|none=>K ⟨n,fix,next + 1,env,heap,gl⟩
def markOpN (P:Program) (T:Tab) (ops:Array Oper) (S:St) (o:Oper) (K:St→Prop):Prop:=
  altOpN P T ops S o K∨(∃ g,o.guard = some g∧gOf ops S.ev g = some true∧altOpN P T ops S { o with guard:=none } K)∨
    ∃ g b,o.guard = some g∧gOf ops S.ev g = some b∧(b = true→altOpN P T ops S { o with guard:=none } K)∧(b = false→withSt S fun n fix next env heap gl=>idleN n fix next env heap gl o.dst K)
theorem markOpN_eq (P:Program) (T:Tab) (ops:Array Oper) (S:St) (o:Oper) (K:St→Prop):markOpN P T ops S o K = markOp P T ops S o K:=by
  have e:(withSt S fun n fix next env heap gl=>idleN n fix next env heap gl o.dst K) = K (S.idle o.dst):=by
    obtain ⟨n',fix',next',env',heap',gl'⟩:=S
    cases o.dst <;> simp only [withSt,idleN,St.idle]
  simp only [markOpN,markOp,altOpN_eq,e]
def awpMN (P:Program) (T:Tab) (ops:Array Oper):List Oper→Nat→List Nat→St→(St→Prop)→Prop
  | [],_,_,st,K=>K st
  | o :: r,i,c :: cs,⟨n,fix,next,env,heap,gl⟩,K=>match Nat.beq c i with
    | true=>∃ S,Le ⟨n,fix,next,env,heap,gl⟩ S∧markOpN P T ops S o (fun st'=>awpMN P T ops r (i + 1) cs st' K)
    | false=>seqOpN P T ops n fix next env heap gl o fun st'=>awpMN P T ops r (i + 1) (c :: cs) st' K
  | o :: r,i,[],⟨n,fix,next,env,heap,gl⟩,K=>seqOpN P T ops n fix next env heap gl o fun st'=>awpMN P T ops r (i + 1) [] st' K
theorem awpMN_eq (P:Program) (T:Tab) (ops:Array Oper) (K:St→Prop):∀ (l:List Oper) (i:Nat) (cs:List Nat) (st:St),awpMN P T ops l i cs st K = awpM P T ops l i cs st K
  | [],_,_,st=>by simp only [awpMN,awpM]
  | o :: r,i,[],⟨n,fix,next,env,heap,gl⟩=>by simp only [awpMN,awpM,seqOpN_eq,awpMN_eq P T ops K r]
  | o :: r,i,c :: cs,⟨n,fix,next,env,heap,gl⟩=>by
    simp only [awpMN,awpM]
    cases Nat.beq c i with
    | false=>simp only [seqOpN_eq,awpMN_eq P T ops K r]
    | true=>simp only [markOpN_eq,awpMN_eq P T ops K r]
theorem Tri.regM {P:Program} {T:Tab} (hT:tabOK P T = true) (cs:List Nat) {id:Nat} {ops:Array Oper} {Q:Exit→St→Prop} {st:St} (h:awpMN P T ops ops.toList 0 cs st (fun s=>Q .normal s)):Tri P (.region id ops false) Q st:=⟨fun hd R φ a w hs=>by
  rw [awpMN_eq] at h
  refine wp_region ?_
  have hall:ops.toList.all (dstB · st.n) = true:=by simpa [codeDst] using hd
  have:=mark_sound hT (Q:=Post st R φ w Q) ops.toList 0 0 cs st _ R φ a w h (fun i o ho=>by simpa using ho) hall hs
    (fun R' φ' st' a' w' hk hs' he=>⟨by simp,by simp,R',φ',st',hk,hs',he⟩)
  rw [List.range_eq_range']
  simpa using this⟩
theorem Tri.drwM {P:Program} {T:Tab} (hT:tabOK P T = true) (hm:P.follows .mixedOrders = true) (N:Nat) (cs:List Nat) {id:Nat} {ops:Array Oper} {Q:Exit→St→Prop} {st:St} (hb:drawB ops N = true)
    (h:awpHeadN P T ops (ops.toList.take N) st [] fun st' log=>pairsOK ops log.reverse = true∧awpMN P T ops (ops.toList.drop N) N cs st' fun s=>Q .normal s):Tri P (.region id ops true) Q st:=
  Tri.drawW hT hm N hb (fun l st=>awpM P T ops l N cs st fun s=>Q .normal s) (fun l st=>∃ i cs,awpM P T ops l i cs st fun s=>Q .normal s) (fun l st h=>⟨N,cs,h⟩) (fun st ⟨_,_,h⟩=>by simpa only [awpM] using h)
    (fun o r st ⟨i,cs,h⟩ hd R φ a w hs next Q hn=>mark_step hT h hd hs (fun R' φ' a' w' st' cs' hk hs' he=>hn R' φ' a' w' st' ⟨_,cs',hk⟩ hs' he))
    (by simp only [awpHeadN_eq,awpMN_eq] at h;exact h)
end Go.Fw
namespace Go.Fw
variable {P:Program}
abbrev oneU (id:Nat) (cs:List AV) (n:Option (List AV)):Upd:=[(id,cs,n)]
theorem one_get {id:Nat} {cs:List AV} {n:Option (List AV)} {k:Nat} {d:Chunk} (h:applyU noHeap (oneU id cs n) k = some d):k = id∧d = .box (newCells cs n):=by
  simp only [applyU,noHeap] at h
  split at h
  · rename_i e;simp only [Option.some.injEq] at h;exact ⟨e,h.symm⟩
  · cases h
theorem one_self (id:Nat) (cs:List AV) (n:Option (List AV)):applyU noHeap (oneU id cs n) id = some (.box (newCells cs n)):=by simp [applyU]
theorem CSpec.box {gl:Gl} {f:FuncId} {off:Nat} {rest:List AV} {cs:List AV} {n:Option (List AV)} {ret:AV} (id:Nat) (hid:∀ j,AV.hasAny j rest = false) (hcs:∀ j,AV.hasAny j cs = false) (hn:∀ j,AV.hasAny j (newCells cs n) = false) (hret:∀ j,ret.has j = false)
    (h:CSpec P gl f (.loc 0 off :: rest) (oneU 0 cs n) ret):CSpec P gl f (.loc id off :: rest) (oneU id cs n) ret:=by
  refine ⟨h.1,fun φ R w vs hh hR hgl hargs=>?_⟩
  have hold:∀ i,(oneU i cs n).old = oneU i cs none:=fun i=>rfl
  rw [hold] at hh
  have hown:∀ (φ φ0:Place) (i j:Nat) (c c':Option (List AV)),φ0 j = φ i→∀ b,Owns φ0 (applyU noHeap (oneU j cs c)) b→Owns φ (applyU noHeap (oneU i cs c')) b:=by
    rintro φ φ0 i j c c' he b ⟨k,ch,b0,cap,hk,hp,hx⟩
    obtain ⟨rfl,rfl⟩:=one_get hk
    cases hx
    exact Owns.main (one_self i cs c') (by rw [← he];exact hp)
  obtain ⟨b,cap,bv,te,fr,hp,hb,hrs,hnR,hnf⟩:=hh.rel id _ (one_self id cs none)
  have h0:HRel (fun k=>if k = 0 then φ id else none) R w (applyU noHeap (oneU 0 cs none)):=by
    refine ⟨fun k c hk=>?_,fun k j c d b b' cap cap' x hk hj _ _ _ _=>?_⟩
    · obtain ⟨rfl,rfl⟩:=one_get hk
      exact ⟨b,cap,bv,te,fr,by simp [hp],hb,RepVs.mono (fun _ _ h=>h) (fun _ _ _=>rfl) (fun j hj=>by have:=hcs j;simp only [newCells] at hj;rw [this] at hj;cases hj) hrs,hnR,hnf⟩
    · obtain ⟨rfl,_⟩:=one_get hk
      obtain ⟨rfl,_⟩:=one_get hj
      rfl
  have hgl0:GlOK gl (fun k=>if k = 0 then φ id else none) R w:=fun g cs hg=>by
    refine ⟨RepV.mono (fun _ _ h=>h) (fun _ _ _=>rfl) (fun j hj=>?_) (hgl g cs hg).1,(hgl g cs hg).2⟩
    simp only [AV.has] at hj
    rw [(hgl g cs hg).2 j] at hj
    simp at hj
  have hargs0:RepVs (fun k=>if k = 0 then φ id else none) R w (.loc 0 off :: rest) vs:=by
    simp only [RepVs] at hargs ⊢
    obtain ⟨u,us,e,h1,h2⟩:=hargs
    refine ⟨u,us,e,?_,RepVs.mono (fun _ _ h=>h) (fun _ _ _=>rfl) (fun j hj=>by rw [hid j] at hj;simp at hj) h2⟩
    simpa [RepV] using h1
  refine (h.2 _ R w vs h0 hR hgl0 hargs0).mono ?_
  rintro e w' ⟨v,φ',R',rfl,hv,hh',hR',hevo,hkeep⟩
  have hk0:=(hkeep 0 _ (one_self 0 cs none) rfl).1
  refine ⟨v,fun k=>if k = id then φ' 0 else φ k,R',rfl,RepV.mono (fun _ _ h=>h) (fun _ _ _=>rfl) (fun j hj=>by rw [hret j] at hj;cases hj) hv,⟨fun k c hk=>?_,fun k j c d b b' cap cap' x hk hj _ _ _ _=>?_⟩,hR',
    ⟨hevo.os,hevo.tape,hevo.output,hevo.size,fun b hb ho=>hevo.keep b hb (fun h=>ho (hown _ _ _ _ _ _ (by simp) b h)),hevo.rmono,hevo.rkeep,fun b o hb=>?_,fun b hb=>?_⟩,fun j cs' hj _=>?_⟩
  · obtain ⟨rfl,rfl⟩:=one_get hk
    obtain ⟨b,cap,bv,te,fr,hp,hb,hrs,hnR,hnf⟩:=hh'.rel 0 _ (one_self 0 cs n)
    exact ⟨b,cap,bv,te,fr,by simp [hp],hb,RepVs.mono (fun _ _ h=>h) (fun _ _ _=>rfl) (fun j hj=>by rw [hn j] at hj;cases hj) hrs,hnR,hnf⟩
  · obtain ⟨rfl,_⟩:=one_get hk
    obtain ⟨rfl,_⟩:=one_get hj
    rfl
  · rcases hevo.rnew b o hb with h|h|h
    · exact .inl h
    · exact .inr (.inl h)
    · exact .inr (.inr (hown _ _ _ _ _ _ (by simp) b h))
  · have:Owns φ' (applyU noHeap (oneU 0 cs n)) b:=hown _ _ _ _ _ _ (by simp) b hb
    rcases hevo.onew b this with h|h
    · exact .inl h
    · exact .inr (hown _ _ _ _ _ _ (by simp) b h)
  · obtain ⟨rfl,_⟩:=one_get hj
    refine ⟨by simpa using hk0,_,one_self _ cs n,rfl⟩
theorem lookup_oneU (cs:List AV) (n:Option (List AV)):(fun k=>lookup k [(0,Chunk.box (newCells cs n))]) = applyU noHeap (oneU 0 cs n):=by
  funext k
  simp only [applyU,noHeap,lookup]
  cases k with
  | zero=>rfl
  | succ k=>rfl
theorem cspec_intro {T : Tab} (hT : tabOK P T = true) {gl : Gl} {f : FuncId} {fn : Func} {c : Code} {off : Nat} {rest : List AV} {cs : List AV} {n : Option (List AV)} {ret : AV} (hf : P.funcs[f]? = some fn) (hname : (fn.name == "runtime.NumGoroutine") = false) (hb : fn.body = some c)
    (hlen:Nat.ble (rest.length + 1) fn.ntmps = true) (hd:codeDst fn.ntmps c = true) (hcl:(St.init fn (.loc 0 off :: rest) [(0,.box cs)] 1 1 gl).closed = true)
    (hid:∀ j,AV.hasAny j rest = false) (hcs:∀ j,AV.hasAny j cs = false) (hn:∀ j,AV.hasAny j (newCells cs n) = false) (hret:∀ j,ret.has j = false)
    (htri:Tri P c (Ends T fn ret [(0,.box (newCells cs n))]) (St.init fn (.loc 0 off :: rest) [(0,.box cs)] 1 1 gl)) (id:Nat):CSpec P gl f (.loc id off :: rest) (oneU id cs n) ret:=by
  refine CSpec.box id hid hcs hn hret ?_
  have:=fspec_intro hT [(0,.box cs)] [(0,.box (newCells cs n))] 1 1 hf hname hb (by simpa using hlen) hd hcl rfl htri
  rw [lookup_oneU cs n] at this
  have e:=lookup_oneU cs none
  simp only [newCells] at e
  rw [e] at this
  exact this
end Go.Fw
