import Derived.Test.YtfaplilocljknaaGFw3
import Derived.StillTail
set_option linter.all false
namespace Go.Fw
def Le (st S:St):Prop:=∀ R φ a w,Sat R φ st a w→∃ R' φ',Sat R' φ' S a w∧Ext st R φ w S R' φ' w
theorem Le.refl (st:St):Le st st:=fun R φ _ w h=>⟨R,φ,h,Ext.refl _ _ _ _⟩
theorem Le.trans {a b c:St} (h:Le a b) (k:Le b c):Le a c:=fun R φ x w hs=>by
  obtain ⟨R1,φ1,h1,e1⟩:=h R φ x w hs
  obtain ⟨R2,φ2,h2,e2⟩:=k R1 φ1 x w h1
  exact ⟨R2,φ2,h2,e1.trans e2⟩
def codeDst (n:Nat):Code→Bool
  | .region _ ops _=>ops.all (dstB · n)
  | .seq a b=>codeDst n a && codeDst n b
  | .cond _ a b=>codeDst n a && codeDst n b
  | .block _ c=>codeDst n c
  | .loop c=>codeDst n c
  | .scope c=>codeDst n c
  | _=>true
structure Post (st:St) (R:Prot) (φ:Place) (w:World) (Q:Exit→St→Prop) (e:Exit) (a':Act) (w':World):Prop where
  panic:∀ ch,e≠.panic ch
  out:e≠.outgrown
  ex:∃ R' φ' st',Q e st'∧Sat R' φ' st' a' w'∧Ext st R φ w st' R' φ' w'
structure Tri (P:Program) (c:Code) (Q:Exit→St→Prop) (st:St):Prop where
  of:codeDst st.n c = true→∀ R φ a w,Sat R φ st a w→c.wp P (Post st R φ w Q) a w
section
variable {P:Program}
theorem Tri.le {c:Code} {Q:Exit→St→Prop} {st:St} (S:St) (h:Le st S) (k:Tri P c Q S):Tri P c Q st:=⟨fun hd R φ a w hs=>by
  obtain ⟨R1,φ1,h1,e1⟩:=h R φ a w hs
  have hn:S.n = st.n:=e1.n
  exact wp_mono (k.of (by rw [hn];exact hd) R1 φ1 a w h1) fun e a' w' ⟨p1,p2,R',φ',st',q,hs',he⟩=>⟨p1,p2,R',φ',st',q,hs',e1.trans he⟩⟩
theorem Tri.mono {c:Code} {Q Q':Exit→St→Prop} {st:St} (h:Tri P c Q st) (hq:∀ e s,Q e s→Q' e s):Tri P c Q' st:=⟨fun hd R φ a w hs=>
  wp_mono (h.of hd R φ a w hs) fun e a' w' ⟨p1,p2,R',φ',st',q,hs',he⟩=>⟨p1,p2,R',φ',st',hq e st' q,hs',he⟩⟩
theorem Tri.skip {Q:Exit→St→Prop} {st:St} (h:Q .normal st):Tri P .skip Q st:=⟨fun _ R φ a w hs=>wp_skip ⟨by simp,by simp,R,φ,st,h,hs,Ext.refl _ _ _ _⟩⟩
theorem Tri.label {Q:Exit→St→Prop} {st:St} {l:Nat} (h:Q .normal st):Tri P (.label l) Q st:=⟨fun _ R φ a w hs=>wp_label ⟨by simp,by simp,R,φ,st,h,hs,Ext.refl _ _ _ _⟩⟩
theorem Tri.exit {Q:Exit→St→Prop} {st:St} {id:Nat} (h:Q (.exit id) st):Tri P (.exit id) Q st:=⟨fun _ R φ a w hs=>wp_exit ⟨by simp,by simp,R,φ,st,h,hs,Ext.refl _ _ _ _⟩⟩
theorem Tri.ret {Q:Exit→St→Prop} {st:St} (h:Q .ret st):Tri P .ret Q st:=⟨fun _ R φ a w hs=>wp_ret ⟨by simp,by simp,R,φ,st,h,hs,Ext.refl _ _ _ _⟩⟩
def thenQ (next:St→Prop) (Q:Exit→St→Prop):Exit→St→Prop
  | .normal,s=>next s
  | e,s=>Q e s
def blockQ (id:Nat) (Q:Exit→St→Prop):Exit→St→Prop
  | .exit id',s=>match Nat.beq id' id with
    | true=>Q .normal s
    | false=>Q (.exit id') s
  | e,s=>Q e s
theorem Tri.seq {x y:Code} {Q:Exit→St→Prop} {st:St} (h:Tri P x (thenQ (fun s=>Tri P y Q s) Q) st):Tri P (.seq x y) Q st:=⟨fun hd R φ a w hs=>by
  simp only [codeDst,Bool.and_eq_true] at hd
  refine wp_seq (wp_mono (h.of hd.1 R φ a w hs) ?_)
  rintro e a' w' ⟨p1,p2,R',φ',st',q,hs',he⟩
  cases e with
  | normal=>
    have hn:st'.n = st.n:=he.n
    exact wp_mono (q.of (by rw [hn];exact hd.2) R' φ' a' w' hs') fun e2 a2 w2 ⟨r1,r2,R2,φ2,st2,q2,hs2,he2⟩=>⟨r1,r2,R2,φ2,st2,q2,hs2,he.trans he2⟩
  | panic ch=>exact absurd rfl (p1 ch)
  | outgrown=>exact absurd rfl p2
  | exit id=>exact ⟨p1,p2,R',φ',st',q,hs',he⟩
  | goto l=>exact ⟨p1,p2,R',φ',st',q,hs',he⟩
  | ret=>exact ⟨p1,p2,R',φ',st',q,hs',he⟩⟩
theorem Tri.block {id:Nat} {c:Code} {Q:Exit→St→Prop} {st:St} (h:Tri P c (blockQ id Q) st):Tri P (.block id c) Q st:=⟨fun hd R φ a w hs=>by
  refine wp_block (wp_mono (h.of (by simpa [codeDst] using hd) R φ a w hs) ?_)
  rintro e a' w' ⟨p1,p2,R',φ',st',q,hs',he⟩
  cases e with
  | exit id'=>
    simp only [Exit.inBlock]
    simp only [blockQ] at q
    split
    · rename_i e
      rw [e,Nat.beq_refl] at q
      exact ⟨by simp,by simp,R',φ',st',q,hs',he⟩
    · rename_i e
      have:Nat.beq id' id = false:=by
        cases hb:Nat.beq id' id with
        | false=>rfl
        | true=>exact absurd (Nat.eq_of_beq_eq_true hb) e
      rw [this] at q
      exact ⟨by simp,by simp,R',φ',st',q,hs',he⟩
  | panic ch=>exact absurd rfl (p1 ch)
  | outgrown=>exact absurd rfl p2
  | normal=>exact ⟨p1,p2,R',φ',st',q,hs',he⟩
  | goto l=>exact ⟨p1,p2,R',φ',st',q,hs',he⟩
  | ret=>exact ⟨p1,p2,R',φ',st',q,hs',he⟩⟩
def condV (v:AV) (x y:Prop):Prop:=
  needs v (match v.un with
    | .bool b=>(b = true→x)∧(b = false→y)
    | .ub p q=>(p→x)∧(q→y)
    | _=>False)
theorem Tri.cond {c:Operand} {x y:Code} {Q:Exit→St→Prop} {st:St} (h:condV (st.ev c) (Tri P x Q st) (Tri P y Q st)):Tri P (.cond c x y) Q st:=⟨fun hd R φ a w hs=>by
  simp only [codeDst,Bool.and_eq_true] at hd
  unfold condV at h
  obtain ⟨hk,h⟩:=needs_iff h
  have hr:=(hs.s.ev c).un hk
  split at h
  · rename_i b hb
    have hb':AV.un (evF st.get st.gl c) = .bool b:=hb
    rw [hb'] at hr
    simp only [RepV] at hr
    exact wp_cond_split hr (fun e=>(h.1 e).of hd.1 R φ a w hs) (fun e=>(h.2 e).of hd.2 R φ a w hs)
  · rename_i p q hb
    have hb':AV.un (evF st.get st.gl c) = .ub p q:=hb
    rw [hb'] at hr
    simp only [RepV] at hr
    obtain ⟨b,hr,hp,hq⟩:=hr
    exact wp_cond_split hr (fun e=>(h.1 (hp e)).of hd.1 R φ a w hs) (fun e=>(h.2 (hq e)).of hd.2 R φ a w hs)
  · exact h.elim⟩
theorem Tri.loop {c:Code} {Q:Exit→St→Prop} {st:St} {ι:Type} (S:ι→St) (p:ι→Prop) (μ:ι→Nat) (i:ι) (h0:p i) (hl:Le st (S i))
    (hr:∀ i,p i→Tri P c (thenQ (fun s=>∃ j,p j∧μ j < μ i∧Le s (S j)) Q) (S i)):Tri P (.loop c) Q st:=⟨fun hd R φ a w hs=>by
  have hd':codeDst st.n c = true:=by simpa [codeDst] using hd
  obtain ⟨R1,φ1,hs1,e1⟩:=hl R φ a w hs
  intro b k cs
  have key:∀ (m:Nat) (i:ι) R' φ' a' w',μ i = m→p i→Sat R' φ' (S i) a' w'→Ext st R φ w (S i) R' φ' w'→
      ∃ e a2 w2,Post st R φ w Q e a2 w2∧Arrives P (lone (b.at a' (.code c :: .inLoop c :: k)) cs w') b k cs e a2 w2:=by
    intro m
    induction m using Nat.strongRecOn with
    | _ m ih=>
      intro i R' φ' a' w' hm hp hs' he
      have hn:(S i).n = st.n:=he.n
      obtain ⟨e,a2,w2,⟨p1,p2,R2,φ2,st2,q,hs2,he2⟩,harr⟩:=(hr i hp).of (by rw [hn];exact hd') R' φ' a' w' hs' b (.inLoop c :: k) cs
      cases e with
      | normal=>
        obtain ⟨j,hpj,hlt,hle⟩:=q
        obtain ⟨R3,φ3,hs3,he3⟩:=hle R2 φ2 a2 w2 hs2
        obtain ⟨e',a3,w3,hq3,harr3⟩:=ih (μ j) (by omega) j R3 φ3 a2 w2 rfl hpj hs3 ((he.trans he2).trans he3)
        exact ⟨e',a3,w3,hq3,.of_steps (Steps.trans harr (.one step_inLoop)) harr3⟩
      | exit id=>exact ⟨_,a2,w2,⟨p1,p2,R2,φ2,st2,q,hs2,he.trans he2⟩,.pass (x:=.inLoop c) rfl (fun _ _=>.inl (by simp)) harr⟩
      | goto l=>exact ⟨_,a2,w2,⟨p1,p2,R2,φ2,st2,q,hs2,he.trans he2⟩,.pass (x:=.inLoop c) rfl (fun _ _=>.inl (by simp)) harr⟩
      | ret=>exact ⟨_,a2,w2,⟨p1,p2,R2,φ2,st2,q,hs2,he.trans he2⟩,.pass (x:=.inLoop c) rfl (fun _ _=>.inl (by simp)) harr⟩
      | panic ch=>exact absurd rfl (p1 ch)
      | outgrown=>exact absurd rfl p2
  obtain ⟨e,a',w',hq,harr⟩:=key _ i R1 φ1 a w rfl h0 hs1 e1
  exact ⟨e,a',w',hq,.of_steps (.one step_loop) harr⟩⟩
end
section
variable {P:Program} {T:Tab}
theorem Tri.region (hT:tabOK P T = true) {id:Nat} {ops:Array Oper} {Q:Exit→St→Prop} {st:St} (h:awpSeq P T ops ops.toList st (fun s=>Q .normal s)):Tri P (.region id ops false) Q st:=⟨fun hd R φ a w hs=>by
  refine wp_region ?_
  have hall:ops.toList.all (dstB · st.n) = true:=by simpa [codeDst] using hd
  have:=seq_sound hT (Q:=Post st R φ w Q) ops.toList 0 st _ R φ a w h (fun i o ho=>by simpa using ho) hall hs
    (fun R' φ' st' a' w' hk hs' he=>⟨by simp,by simp,R',φ',st',hk,hs',he⟩)
  rw [List.range_eq_range']
  simpa using this⟩
def envLe:List (Nat × AV)→St→Prop
  | [],_=>True
  | (t,v) :: r,st=>st.get t = v∧envLe r st
def heapLe:List (Nat × Chunk)→St→Prop
  | [],_=>True
  | (j,c) :: r,st=>st.lk j = some c∧heapLe r st
def hasKey (j:Nat):List (Nat × Chunk)→Bool
  | []=>false
  | (k,_) :: r=>Nat.beq k j || hasKey j r
def idsIn (h:List (Nat × Chunk)):List Nat→Bool
  | []=>true
  | j :: r=>hasKey j h && idsIn h r
def heapClosed (h:List (Nat × Chunk)) (n:Nat):List (Nat × Chunk)→Bool
  | []=>true
  | (k,.box cs) :: r=>Nat.blt k n && idsIn h (AV.idsL cs) && heapClosed h n r
  | (k,.arr _ _) :: r=>Nat.blt k n && heapClosed h n r
  | (k,.ext X) :: r=>Nat.blt k n && idsIn h X.ids && heapClosed h n r
def envClosed (h:List (Nat × Chunk)):List (Nat × AV)→Bool
  | []=>true
  | (_,v) :: r=>idsIn h v.ids && envClosed h r
def St.closed (S:St):Bool:=envClosed S.heap S.env && heapClosed S.heap S.next S.heap && Nat.ble S.fix S.next
theorem hasKey_lk {h:List (Nat × Chunk)} {j:Nat} (hk:hasKey j h = true):∃ c,lookup j h = some c:=by
  induction h with
  | nil=>simp [hasKey] at hk
  | cons x r ih=>
    obtain ⟨k,c⟩:=x
    simp only [hasKey,Bool.or_eq_true] at hk
    rw [lookup_cons]
    by_cases e:k = j
    · exact ⟨c,by rw [if_pos e]⟩
    · rw [if_neg e]
      rcases hk with hk|hk
      · exact absurd (Nat.eq_of_beq_eq_true hk) e
      · exact ih hk
theorem idsIn_mem {h:List (Nat × Chunk)}:∀ {l:List Nat} {j:Nat},idsIn h l = true→j∈l→∃ c,lookup j h = some c
  | [],_,_,hj=>by simp at hj
  | k :: r,j,hk,hj=>by
    simp only [idsIn,Bool.and_eq_true] at hk
    rcases List.mem_cons.1 hj with rfl|hj
    · exact hasKey_lk hk.1
    · exact idsIn_mem hk.2 hj
theorem envClosed_mem {h:List (Nat × Chunk)}:∀ {env:List (Nat × AV)} {t:Nat} {v:AV} {j:Nat},envClosed h env = true→lookup t env = some v→v.has j = true→∃ c,lookup j h = some c
  | [],_,_,_,_,hl,_=>by simp [lookup] at hl
  | (k,u) :: r,t,v,j,hc,hl,hj=>by
    simp only [envClosed,Bool.and_eq_true] at hc
    rw [lookup_cons] at hl
    split at hl
    · simp only [Option.some.injEq] at hl
      subst hl
      exact idsIn_mem hc.1 (AV.has_ids hj)
    · exact envClosed_mem hc.2 hl hj
theorem heapClosed_mem {h:List (Nat × Chunk)} {n:Nat}:∀ {l:List (Nat × Chunk)} {k:Nat} {c:Chunk},heapClosed h n l = true→lookup k l = some c→k < n∧∀ j,c.has j = true→∃ c,lookup j h = some c
  | [],_,_,_,hl=>by simp [lookup] at hl
  | (k',.box cs') :: r,k,c,hc,hl=>by
    simp only [heapClosed,Bool.and_eq_true] at hc
    rw [lookup_cons] at hl
    split at hl
    · rename_i e
      simp only [Option.some.injEq] at hl
      subst hl
      exact ⟨by rw [← e];exact Nat.le_of_ble_eq_true hc.1.1,fun j h2=>idsIn_mem hc.1.2 (AV.hasAny_ids (by simpa only [Chunk.has] using h2))⟩
    · exact heapClosed_mem hc.2 hl
  | (k',.arr _ _) :: r,k,c,hc,hl=>by
    simp only [heapClosed,Bool.and_eq_true] at hc
    rw [lookup_cons] at hl
    split at hl
    · rename_i e
      simp only [Option.some.injEq] at hl
      subst hl
      exact ⟨by rw [← e];exact Nat.le_of_ble_eq_true hc.1,fun j h1=>by simp [Chunk.has] at h1⟩
    · exact heapClosed_mem hc.2 hl
  | (k',.ext X) :: r,k,c,hc,hl=>by
    simp only [heapClosed,Bool.and_eq_true] at hc
    rw [lookup_cons] at hl
    split at hl
    · rename_i e
      simp only [Option.some.injEq] at hl
      subst hl
      exact ⟨by rw [← e];exact Nat.le_of_ble_eq_true hc.1.1,fun j h2=>idsIn_mem hc.1.2 (by simpa [Chunk.has] using h2)⟩
    · exact heapClosed_mem hc.2 hl
theorem envLe_get {st:St}:∀ {env:List (Nat × AV)} {t:Nat} {v:AV},envLe env st→lookup t env = some v→st.get t = v
  | [],_,_,_,hl=>by simp [lookup] at hl
  | (k,u) :: r,t,v,h,hl=>by
    rw [lookup_cons] at hl
    split at hl
    · rename_i e
      simp only [Option.some.injEq] at hl
      subst hl
      rw [← e];exact h.1
    · exact envLe_get h.2 hl
theorem heapLe_get {st:St}:∀ {l:List (Nat × Chunk)} {j:Nat} {c:Chunk},heapLe l st→lookup j l = some c→st.lk j = some c
  | [],_,_,_,hl=>by simp [lookup] at hl
  | (k,u) :: r,t,v,h,hl=>by
    rw [lookup_cons] at hl
    split at hl
    · rename_i e
      simp only [Option.some.injEq] at hl
      subst hl
      rw [← e];exact h.1
    · exact heapLe_get h.2 hl
theorem Le.weak {st S:St} (hn:S.n = st.n) (hf:S.fix = st.fix) (hg:S.gl = st.gl) (hc:S.closed = true) (he:envLe S.env st) (hh:heapLe S.heap st):Le st S:=fun R φ a w hs=>by
  unfold St.closed at hc
  simp only [Bool.and_eq_true] at hc
  have hlk:∀ j c,S.lk j = some c→st.lk j = some c:=fun j c hj=>heapLe_get hh hj
  refine ⟨R,φ,⟨⟨fun t=>?_,fun t j hj=>?_,fun j cs k hj hk=>(heapClosed_mem hc.1.2 hj).2 k hk,fun j c hj=>(heapClosed_mem hc.1.2 hj).1,by rw [hn];exact hs.s.sz,
    ⟨fun j c hj=>hs.s.heap.rel j c (hlk j c hj),fun j k c d b b' cap cap' x hj hk=>hs.s.heap.inj j k c d b b' cap cap' x (hlk j c hj) (hlk k d hk)⟩,hs.s.rlt,hs.s.defers,by rw [hg];exact hs.s.gl⟩,Nat.le_of_ble_eq_true hc.2⟩,
    ⟨⟨rfl,rfl,rfl,Nat.le_refl _,fun _ _ _=>rfl,fun _ _ h=>h,fun _ _ _=>rfl,fun _ _ h=>.inl h,fun b ⟨j,c,b0,cap,hj,hp,hx⟩=>.inr ⟨j,c,b0,cap,hlk j c hj,hp,hx⟩⟩,fun _ _=>rfl,hf,hn⟩⟩
  · cases hl:lookup t S.env with
    | none=>
      have:S.get t = .any:=by simp [St.get,hl]
      rw [this];simp [RepV]
    | some v=>
      have:S.get t = v:=by simp [St.get,hl]
      rw [this,← envLe_get he hl]
      exact hs.s.env t
  · cases hl:lookup t S.env with
    | none=>
      have:S.get t = .any:=by simp [St.get,hl]
      rw [this] at hj;simp [AV.has] at hj
    | some v=>
      have:S.get t = v:=by simp [St.get,hl]
      rw [this] at hj
      exact envClosed_mem hc.1.1 hl hj
def resV (T:Tab) (st:St):List ResultVar→List AV→(List AV→Prop)→Prop
  | [],acc,K=>K acc.reverse
  | .tmp t :: r,acc,K=>needs (st.get t) (resV T st r ((st.get t).un :: acc) K)
  | .cell a t :: r,acc,K=>needs (st.get a) (loadV T st.lk t (st.get a).un fun v=>resV T st r (v :: acc) K)
def packV:List AV→AV
  | [v]=>v
  | vs=>.tup vs
def Ends (T:Tab) (fn:Func) (ret:AV) (h':List (Nat × Chunk)) (e:Exit) (st:St):Prop:=
  match e with
  | .normal | .ret=>resV T st fn.results.toList [] (fun vs=>packV vs = ret∧heapLe h' st)
  | _=>False
def argEnv:Nat→List AV→List (Nat × AV)
  | _,[]=>[]
  | k,v :: r=>(k,v) :: argEnv (k + 1) r
def St.init (fn:Func) (args:List AV) (h:List (Nat × Chunk)) (fix next:Nat) (gl:Gl):St:={ n:=fn.ntmps,fix:=fix,next:=next,env:=argEnv 0 args,heap:=h,gl:=gl }
end
end Go.Fw
namespace Go.Fw
section
variable {P:Program} {T:Tab} (hT:tabOK P T = true)
include hT
omit hT in
theorem loadV_ptr {lk:Heap} {t:TypeId} {a:AV} {K:AV→Prop} (h:loadV T lk t a K) {φ:Place} {R:Prot} {w:World} {u:Value} (hr:RepV φ R w a u):∃ ad,u = .pointer (some ad):=by
  unfold loadV at h
  split at h
  · simp only [RepV] at hr;obtain ⟨b,base,us,rfl,_⟩:=hr;exact ⟨_,rfl⟩
  · simp only [RepV] at hr;obtain ⟨b,cap,_,rfl⟩:=hr;exact ⟨_,rfl⟩
  · simp only [RepV] at hr;obtain ⟨b,cap,_,rfl⟩:=hr;exact ⟨_,rfl⟩
  · exact h.elim
theorem res_sound {R:Prot} {φ:Place} {st:St} {a:Act} {w:World} (hs:Sat R φ st a w):∀ (rs:List ResultVar) (acc:List AV) (accv:List Value) (K:List AV→Prop),resV T st rs acc K→RepVs φ R w acc accv→
    ∃ as vs,K as∧RepVs φ R w as (accv.reverse ++ vs)∧vs.length = rs.length∧(rs.mapM (m:=Sem) fun
      | .tmp t=>pure (a.tmps.getD t undef)
      | .cell x t=>do loadVar t (← asAddr (a.tmps.getD x undef))).run P w = .ok vs w
  | [],acc,accv,K,h,hr=>by
    refine ⟨acc.reverse,[],h,?_,rfl,rfl⟩
    have key:∀ (as:List AV) (vs:List Value) (bs:List AV) (us:List Value),RepVs φ R w as vs→RepVs φ R w bs us→RepVs φ R w (as.reverse ++ bs) (vs.reverse ++ us):=by
      intro as
      induction as with
      | nil=>intro vs bs us h h2;simp only [RepVs] at h;subst h;simpa using h2
      | cons x as ih=>
        intro vs bs us h h2
        simp only [RepVs] at h
        obtain ⟨v,vs,rfl,h1,h⟩:=h
        have:=ih vs (x :: bs) (v :: us) h ⟨v,us,rfl,h1,h2⟩
        simpa using this
    have:=key acc accv [] [] hr (by simp [RepVs])
    simpa using this
  | .tmp t :: rs,acc,accv,K,h,hr=>by
    obtain ⟨h1,h⟩:=needs_iff h
    have hv:=(hs.s.env t).un h1
    obtain ⟨as,vs,hk,hrep,hl,hrun⟩:=res_sound hs rs _ (a.tmps.getD t undef :: accv) K h ⟨_,_,rfl,hv,hr⟩
    refine ⟨as,a.tmps.getD t undef :: vs,hk,by simpa using hrep,by simp [hl],?_⟩
    simp only [List.mapM_cons,Sem.run_bind,Sem.run_pure,Result.andThen_ok,hrun]
  | .cell x t :: rs,acc,accv,K,h,hr=>by
    obtain ⟨h1,h⟩:=needs_iff h
    have hv:=(hs.s.env x).un h1
    obtain ⟨ad,had⟩:=loadV_ptr h hv
    obtain ⟨v,h,hn,hld⟩:=loadV_sound hT h
    obtain ⟨u,hu,hrun1⟩:=hld φ R w _ hv (fun id c _ hc=>hs.s.heap.rel id c hc)
    obtain ⟨as,vs,hk,hrep,hl,hrun⟩:=res_sound hs rs _ (u :: accv) K h ⟨_,_,rfl,hu,hr⟩
    refine ⟨as,u :: vs,hk,by simpa using hrep,by simp [hl],?_⟩
    rw [had] at hrun1
    have hrun2:(loadVar t ad).run P w = .ok u w:=by simpa [Instr.loadAt,Instr.sureAddr] using hrun1
    have hasA:(asAddr (a.tmps.getD x undef)).run P w = .ok ad w:=by rw [had];rfl
    simp only [List.mapM_cons,Sem.run_bind,Sem.run_pure,Result.andThen_ok,hasA,hrun2,hrun]
theorem results_sound {R:Prot} {φ:Place} {st:St} {a:Act} {w:World} (hs:Sat R φ st a w) (fn:Func) (K:List AV→Prop) (h:resV T st fn.results.toList [] K) :
    ∃ as v,K as∧RepV φ R w (packV as) v∧(results fn a.tmps).run P w = .ok v w:=by
  obtain ⟨as,vs,hk,hrep,hl,hrun⟩:=res_sound hT hs fn.results.toList [] [] K h (by simp [RepVs])
  simp only [List.reverse_nil,List.nil_append] at hrep
  have hm:(fn.results.mapM (m:=Sem) fun
      | .tmp t=>pure (a.tmps.getD t undef)
      | .cell x t=>do loadVar t (← asAddr (a.tmps.getD x undef))).run P w = .ok vs.toArray w:=by
    rw [Array.mapM_eq_mapM_toList,Sem.run_map,hrun]
    rfl
  have hr:(results fn a.tmps).run P w = .ok (if h:vs.toArray.size = 1 then vs.toArray[0] else .tuple vs.toArray) w:=by
    unfold results
    rw [Sem.run_bind]
    have hm':=hm
    refine Eq.trans (congrArg (fun r=>Result.andThen r _) (Eq.trans ?_ hm')) ?_
    · congr 2
    · rfl
  refine ⟨as,_,hk,?_,hr⟩
  have hlen:=hrep.length
  match as,vs,hrep,hlen with
  | [],[],_,_=>simp [packV,RepV,RepVs]
  | [x],[v],hrep,_=>
    simp only [RepVs] at hrep
    obtain ⟨_,_,he,h1,_⟩:=hrep
    simp only [List.cons.injEq] at he
    obtain ⟨rfl,_⟩:=he
    simpa [packV] using h1
  | x :: y :: r,v :: u :: r',hrep,_=>
    simp only [packV,RepV]
    exact ⟨(v :: u :: r').toArray,by simp,by simpa using hrep⟩
def boxesOK (fix:Nat) (h':List (Nat × Chunk)):List (Nat × Chunk)→Bool
  | []=>true
  | (k,c) :: r=>(match c.fixed with | true=>Nat.blt k fix && (match lookup k h' with | some c'=>c'.fixed | none=>false) | false=>true) && boxesOK fix h' r
omit hT in
theorem boxesOK_get {fix:Nat} {h':List (Nat × Chunk)}:∀ {l:List (Nat × Chunk)} {k:Nat} {c:Chunk},boxesOK fix h' l = true→lookup k l = some c→c.fixed = true→k < fix∧∃ c',lookup k h' = some c'∧c'.fixed = true
  | [],_,_,_,hl,_=>by simp [lookup] at hl
  | (j,d) :: r,k,c,h,hl,hc=>by
    simp only [boxesOK,Bool.and_eq_true] at h
    rw [lookup_cons] at hl
    split at hl
    · rename_i e
      subst e
      simp only [Option.some.injEq] at hl
      subst hl
      have h1:=h.1
      rw [hc] at h1
      simp only [Bool.and_eq_true] at h1
      refine ⟨Nat.le_of_ble_eq_true h1.1,?_⟩
      have:=h1.2
      split at this
      · rename_i c' hc';exact ⟨c',hc',this⟩
      · simp at this
    · exact boxesOK_get h.2 hl hc
omit hT in
theorem argEnv_get {φ:Place} {R:Prot} {w:World}:∀ (args:List AV) (k:Nat) (vs:List Value) (pre post:List Value),RepVs φ R w args vs→pre.length = k→
    ∀ t,RepV φ R w (match lookup t (argEnv k args) with|some a=>a|none=>.any) ((pre ++ vs ++ post).getD t undef)
  | [],k,vs,pre,post,_,_,t=>by simp [argEnv,lookup,RepV]
  | x :: r,k,vs,pre,post,h,hk,t=>by
    simp only [RepVs] at h
    obtain ⟨v,vs,rfl,h1,h⟩:=h
    simp only [argEnv,lookup_cons]
    by_cases e:k = t
    · subst e
      subst hk
      simp [List.getD,h1]
    · rw [if_neg e]
      have:=argEnv_get r (k + 1) vs (pre ++ [v]) post h (by simp [hk]) t
      simpa using this
theorem fspec_intro {gl:Gl} {f:FuncId} {fn:Func} {c:Code} {args:List AV} {ret:AV} (h h':List (Nat × Chunk)) (fix next:Nat)
    (hf : P.funcs[f]? = some fn) (hname : (fn.name == "runtime.NumGoroutine") = false) (hb : fn.body = some c) (hlen : Nat.ble args.length fn.ntmps = true) (hd : codeDst fn.ntmps c = true)
    (hcl:(St.init fn args h fix next gl).closed = true) (hbox:boxesOK fix h' h = true)
    (htri:Tri P c (Ends T fn ret h') (St.init fn args h fix next gl)):FSpec P gl f args (fun k=>lookup k h) ret (fun k=>lookup k h'):=by
  refine ⟨⟨fn,hf,hname,by simp [hb]⟩,fun φ R w vs hh hR hgl hargs=>?_⟩
  have hal:=hargs.length
  have hlen:=Nat.le_of_ble_eq_true hlen
  refine calls_of_wp hf hb ?_
  unfold St.closed at hcl
  simp only [Bool.and_eq_true] at hcl
  have hsat:Sat R φ (St.init fn args h fix next gl) { tmps:=vs.toArray ++ Array.replicate (fn.ntmps - vs.toArray.size) undef,defers:=[] } w:=by
    refine ⟨⟨fun t=>?_,fun t j hj=>?_,fun j cs k hj hk=>(heapClosed_mem hcl.1.2 hj).2 k hk,fun j c hj=>(heapClosed_mem hcl.1.2 hj).1,?_,hh,hR,rfl,hgl⟩,Nat.le_of_ble_eq_true hcl.2⟩
    · have:=argEnv_get args 0 vs [] (List.replicate (fn.ntmps - vs.length) undef) hargs rfl t
      have e:(vs.toArray ++ Array.replicate (fn.ntmps - vs.toArray.size) undef).getD t undef = (([]:List Value) ++ vs ++ List.replicate (fn.ntmps - vs.length) undef).getD t undef:=by
        rw [Array.getD_eq_getD_getElem?,List.getD_eq_getElem?_getD,← Array.getElem?_toList]
        simp
      rw [e]
      exact this
    · cases hl:lookup t (St.init fn args h fix next gl).env with
      | none=>
        have:(St.init fn args h fix next gl).get t = .any:=by simp [St.get,hl]
        rw [this] at hj;simp [AV.has] at hj
      | some v=>
        have:(St.init fn args h fix next gl).get t = v:=by simp [St.get,hl]
        rw [this] at hj
        exact envClosed_mem hcl.1.1 hl hj
    · simp [St.init];omega
  refine wp_mono (htri.of hd R φ _ w hsat) ?_
  rintro e a' w' ⟨p1,p2,R',φ',st',q,hs',he⟩
  have fin:resV T st' fn.results.toList [] (fun vs=>packV vs = ret∧heapLe h' st')→a'.defers = []∧∃ v,(results fn a'.tmps).run P w' = .ok v w'∧
      ∃ v' φ' R',Ending.returned v = .returned v'∧RepV φ' R' w' ret v'∧HRel φ' R' w' (fun k=>lookup k h')∧RB R' w'∧Evo R (Owns φ (fun k=>lookup k h)) w R' (Owns φ' (fun k=>lookup k h')) w'∧
        ∀ id c,lookup id h = some c→c.fixed = true→φ' id = φ id∧∃ c',lookup id h' = some c'∧c'.fixed = true:=by
    intro hres
    obtain ⟨as,v,⟨hk,hle⟩,hv,hrun⟩:=results_sound hT hs' fn _ hres
    refine ⟨hs'.s.defers,v,hrun,v,φ',R',rfl,hk ▸ hv,?_,hs'.s.rlt,?_,fun id cs hid hcf=>?_⟩
    · exact ⟨fun j c hj=>hs'.s.heap.rel j c (heapLe_get hle hj),fun j k c d b b' cap cap' x hj hk=>hs'.s.heap.inj j k c d b b' cap cap' x (heapLe_get hle hj) (heapLe_get hle hk)⟩
    · refine ⟨he.evo.os,he.evo.tape,he.evo.output,he.evo.size,he.evo.keep,he.evo.rmono,he.evo.rkeep,he.evo.rnew,fun b hb=>?_⟩
      obtain ⟨j,c,b0,cap,hj,hp,hx⟩:=hb
      exact he.evo.onew b ⟨j,c,b0,cap,heapLe_get hle hj,hp,hx⟩
    · obtain ⟨h1,h2⟩:=boxesOK_get hbox hid hcf
      exact ⟨he.place id h1,h2⟩
  cases e with
  | normal=>exact fin q
  | ret=>exact fin q
  | exit id=>exact q.elim
  | goto l=>exact q.elim
  | panic ch=>exact absurd rfl (p1 ch)
  | outgrown=>exact absurd rfl p2
theorem pspec_intro {gl:Gl} {f:FuncId} {fn:Func} {c:Code} {args:List AV} {ret:AV}
    (hf : P.funcs[f]? = some fn) (hname : (fn.name == "runtime.NumGoroutine") = false) (hb : fn.body = some c) (hlen : Nat.ble args.length fn.ntmps = true) (hd : codeDst fn.ntmps c = true)
    (hcl:(St.init fn args [] 0 0 gl).closed = true) (htri:Tri P c (Ends T fn ret []) (St.init fn args [] 0 0 gl)):PSpec P gl f args ret:=by
  have:=fspec_intro hT [] [] 0 0 hf hname hb hlen hd hcl rfl htri
  exact this
end
end Go.Fw
namespace Go.Fw
def fold {K V:Type} (wr:Nat→K→Option V) (L:Nat→Bool) (init:K→V):Nat→K→V
  | 0,k=>init k
  | m + 1,k=>if L m = true then (wr m k).getD (fold wr L init m k) else fold wr L init m k
theorem fold_congr {K V:Type} {wr:Nat→K→Option V} {L L':Nat→Bool} {init:K→V} {k:K}:∀ n,(∀ j,j < n→L j = L' j)→fold wr L init n k = fold wr L' init n k
  | 0,_=>rfl
  | n + 1,h=>by simp only [fold,fold_congr n (fun j hj=>h j (by omega)),h n (by omega)]
theorem fold_at {K V:Type} {wr:Nat→K→Option V} {L:Nat→Bool} {init:K→V} {k:K} {i n:Nat} (hi:i≤n) (h:∀ j,j < n→(wr j k).isSome = true→(L j = true ↔ j < i)) :
    fold wr L init n k = fold wr (fun _=>true) init i k:=by
  have key:∀ m,m≤n→fold wr L init m k = fold wr (fun _=>true) init (min m i) k:=by
    intro m
    induction m with
    | zero=>intro _;simp [fold]
    | succ m ih=>
      intro hm
      have ih:=ih (by omega)
      simp only [fold]
      cases hw:wr m k with
      | none=>
        simp only [Option.getD_none,ite_self]
        rw [ih]
        by_cases hmi:m < i
        · rw [show min (m + 1) i = min m i + 1 by omega,show min m i = m by omega]
          simp [fold,hw]
        · rw [show min (m + 1) i = min m i by omega]
      | some v=>
        have:=h m (by omega) (by simp [hw])
        by_cases hmi:m < i
        · rw [if_pos (this.2 hmi),show min (m + 1) i = m + 1 by omega]
          simp [fold,hw]
        · rw [if_neg (fun hl=>hmi (this.1 hl)),ih,show min (m + 1) i = min m i by omega]
  rw [key n (Nat.le_refl _),Nat.min_eq_right hi]
theorem fold_set {K V:Type} {wr:Nat→K→Option V} {L:Nat→Bool} {init:K→V} {k:K} {i n:Nat} (hin:i < n) (hi:L i = false) (h:∀ j,j < n→i < j→L j = true→(wr j k).isSome = true→wr i k = none) :
    fold wr (fun j=>if j = i then true else L j) init n k = (wr i k).getD (fold wr L init n k):=by
  have lo:∀ m,m≤i→fold wr (fun j=>if j = i then true else L j) init m k = fold wr L init m k:=fun m hm=>
    fold_congr m (fun j hj=>by rw [if_neg (by omega)])
  have key:∀ m,i < m→m≤n→fold wr (fun j=>if j = i then true else L j) init m k = (wr i k).getD (fold wr L init m k):=by
    intro m
    induction m with
    | zero=>intro h;omega
    | succ m ih=>
      intro h1 h2
      simp only [fold]
      by_cases e:m = i
      · subst e
        simp only [if_true]
        rw [lo m (Nat.le_refl _)]
        simp [hi]
      · simp only [if_neg e]
        rw [ih (by omega) (by omega)]
        cases hl:L m with
        | false=>simp
        | true=>
          simp only [if_true]
          cases hw:wr m k with
          | none=>simp
          | some v=>
            have:=h m (by omega) (by omega) hl (by simp [hw])
            simp [this]
  exact key n hin (Nat.le_refl _)
def maskOf (acc:List Nat) (o:Oper):Nat:=o.after.toList.foldl (fun s e=>if Region.binds .any e then s ||| 2 ^ e.on ||| acc.getD e.on 0 else s) 0
def masks:List Oper→List Nat→List Nat
  | [],acc=>acc
  | o :: r,acc=>masks r (acc ++ [maskOf acc o])
theorem mask_fold (acc:List Nat) (i:Nat):∀ (es:List Edge) (s:Nat),(es.foldl (fun s e=>if Region.binds .any e then s ||| 2 ^ e.on ||| acc.getD e.on 0 else s) s).testBit i = true→
    s.testBit i = true∨∃ e∈es,Region.binds .any e = true∧(e.on = i∨(acc.getD e.on 0).testBit i = true)
  | [],s,h=>.inl h
  | e :: es,s,h=>by
    simp only [List.foldl_cons] at h
    rcases mask_fold acc i es _ h with h|⟨e',he',h⟩
    · split at h
      · rename_i hb
        simp only [Nat.testBit_or,Bool.or_eq_true] at h
        rcases h with (h|h)|h
        · exact .inl h
        · rw [Nat.testBit_two_pow] at h
          exact .inr ⟨e,List.mem_cons_self ..,hb,.inl (by simpa using h)⟩
        · exact .inr ⟨e,List.mem_cons_self ..,hb,.inr h⟩
      · exact .inl h
    · exact .inr ⟨e',List.mem_cons_of_mem _ he',h⟩
theorem masks_spec:∀ (os:List Oper) (pre:List Oper) (acc:List Nat),acc.length = pre.length→
    (∀ j o,pre[j]? = some o→∀ i,(acc.getD j 0).testBit i = true→∃ e∈o.after,Region.binds .any e = true∧(e.on = i∨(e.on < j∧(acc.getD e.on 0).testBit i = true)))→
    ∀ j o,(pre ++ os)[j]? = some o→∀ i,((masks os acc).getD j 0).testBit i = true→∃ e∈o.after,Region.binds .any e = true∧(e.on = i∨(e.on < j∧((masks os acc).getD e.on 0).testBit i = true))
  | [],pre,acc,_,h=>by simpa [masks] using h
  | o' :: os,pre,acc,hl,h=>by
    intro j o hj i hb
    simp only [masks] at hb ⊢
    have:=masks_spec os (pre ++ [o']) (acc ++ [maskOf acc o']) (by simp [hl]) (fun j o hj i hb=>by
      rcases Nat.lt_trichotomy j pre.length with hlt|heq|hgt
      · rw [List.getElem?_append_left hlt] at hj
        have e1:(acc ++ [maskOf acc o']).getD j 0 = acc.getD j 0:=by simp [List.getD,List.getElem?_append_left (show j < acc.length by omega)]
        rw [e1] at hb
        obtain ⟨e,he,hbd,h1|⟨h1,h2⟩⟩:=h j o hj i hb
        · exact ⟨e,he,hbd,.inl h1⟩
        · exact ⟨e,he,hbd,.inr ⟨h1,by simpa [List.getD,List.getElem?_append_left (show e.on < acc.length by omega)] using h2⟩⟩
      · subst heq
        simp at hj
        subst hj
        have e1:(acc ++ [maskOf acc o']).getD pre.length 0 = maskOf acc o':=by simp [List.getD,← hl]
        rw [e1] at hb
        rcases mask_fold acc i _ 0 hb with hb|⟨e,he,hbd,h1|h1⟩
        · simp at hb
        · exact ⟨e,by simpa using he,hbd,.inl h1⟩
        · have hlt:e.on < acc.length:=by
            rcases Nat.lt_or_ge e.on acc.length with h|h
            · exact h
            · simp [List.getD,List.getElem?_eq_none h] at h1
          exact ⟨e,by simpa using he,hbd,.inr ⟨by omega,by simpa [List.getD,List.getElem?_append_left hlt] using h1⟩⟩
      · rw [List.getElem?_eq_none (by simp;omega)] at hj
        simp at hj) j o (by simpa using hj) i hb
    exact this
def Cl (ops:Array Oper) (L:Nat→Bool):Prop:=∀ j o,ops[j]? = some o→L j = true→∀ e∈o.after,Region.binds .any e = true→L e.on = true
theorem cl_mask {ops:Array Oper} {L:Nat→Bool} (hc:Cl ops L):∀ (j:Nat) (o:Oper),ops[j]? = some o→(∀ e∈o.after,Region.binds .any e = true→L e.on = true)→∀ i,((masks ops.toList []).getD j 0).testBit i = true→L i = true:=by
  intro j
  induction j using Nat.strongRecOn with
  | _ j ih=>
    intro o ho hall i hb
    obtain ⟨e,he,hbd,h|⟨h1,h2⟩⟩:=masks_spec ops.toList [] [] rfl (fun j o h=>by simp at h) j o (by simpa using ho) i hb
    · rw [← h];exact hall e he hbd
    · have hlt:e.on < ops.size:=by have:=(Array.getElem?_eq_some_iff.1 ho).1;omega
      have hoe:ops[e.on]? = some ops[e.on]:=by simp [hlt]
      exact ih e.on h1 _ hoe (hc e.on _ hoe (hall e he hbd)) i h2
def quiet (o:Oper):Bool:=match o.op,o.guard with
  | .move _,none=>true
  | .nilCheck _,none=>true
  | .fieldAddr _ _ _,none=>true
  | _,_=>false
def touched (ev:Operand→AV) (o:Oper) (upd:Upd):List Nat:=(match quiet o with|true=>[]|false=>o.op.operands.toList.flatMap fun x=>(ev x).ids) ++ upd.map (·.1)
def writes (id:Nat) (upd:Upd) (c:Option Chunk):List Nat:=(upd.filterMap fun x=>match x.2.2 with|some _=>some x.1|none=>none) ++ (match c with|some _=>[id]|none=>[])
def awpHead (P:Program) (T:Tab) (ops:Array Oper):List Oper→St→List (List Nat × List Nat)→(St→List (List Nat × List Nat)→Prop)→Prop
  | [],st,log,K=>K st log
  | o :: r,st,log,K=>opG P T ops st.gl st.lk st.ev st.next o fun v upd c=>awpHead P T ops r (st.step o.dst v upd c) ((touched st.ev o upd,writes st.next upd c) :: log) K
def apartIds (e f:List Nat × List Nat):Bool:=e.2.all (fun k=>!f.1.contains k) && f.2.all (fun k=>!e.1.contains k)
def pairsOK (ops:Array Oper) (es:List (List Nat × List Nat)):Bool:=
  let ms:=masks ops.toList []
  (List.range es.length).all fun j=>(List.range j).all fun i=>(ms.getD j 0).testBit i ||
    match ops[i]?,ops[j]?,es[i]?,es[j]? with
    | some a,some b,some e,some f=>a.apart ops b && apartIds e f
    | _,_,_,_=>false
def edgesB (ops:Array Oper):Bool:=(List.range ops.size).all fun j=>match ops[j]? with|some o=>o.after.all fun e=>!Region.binds .any e || decide (e.on < j)|none=>true
def drawB (ops:Array Oper) (N:Nat):Bool:=edgesB ops && (Nat.beq N ops.size || (Nat.blt N ops.size && Region.sinkB .any ops N && Region.chainB .any ops N))
def awpDraw (P:Program) (T:Tab) (ops:Array Oper) (N:Nat) (st:St) (K:St→Prop):Prop:=
  awpHead P T ops (ops.toList.take N) st [] fun st' log=>pairsOK ops log.reverse = true∧awpSeq P T ops (ops.toList.drop N) st' K
structure WF (next:Nat) (E:Nat→AV) (H:Heap) (gl:Gl):Prop where
  named:∀ t id,(E t).has id = true→∃ c,H id = some c
  hnamed:∀ j c id,H j = some c→c.has id = true→∃ c,H id = some c
  hnext:∀ id c,H id = some c→id < next
  glf:∀ g cs,lookup g gl = some cs→∀ id,AV.hasAny id cs = false
theorem WF.ev {next:Nat} {E:Nat→AV} {H:Heap} {gl:Gl} (h:WF next E H gl) (x:Operand) (id:Nat) (hx:(evF E gl x).has id = true):∃ c,H id = some c:=by
  cases x with
  | tmp t=>exact h.named t id hx
  | const v=>simp [evF,constAV_has] at hx
  | global g=>
    simp only [evF] at hx
    cases hg:lookup g gl with
    | none=>simp [hg,AV.has] at hx
    | some cs=>simp [hg,AV.has,h.glf g cs hg id] at hx
  | func f=>simp [evF,AV.has,AV.hasAny] at hx
theorem WF.named_ex {next:Nat} {E:Nat→AV} {H:Heap} {gl:Gl} (h:WF next E H gl) {o:Oper} {upd:Upd} (hu:updOK H upd) {j:Nat} (hj:Named o (evF E gl) H upd j):∃ ch,H j = some ch:=by
  rcases hj with ⟨x,hx,h1|⟨k,cs,_,h2,h3⟩⟩|⟨x,hx,rfl⟩
  · exact h.ev x j h1
  · exact h.hnamed k _ j h2 h3
  · exact ⟨_,hu.get x hx⟩
theorem WF.step {st:St} (h:WF st.next st.get st.lk st.gl) {P:Program} {ops:Array Oper} {o:Oper} {v:AV} {upd:Upd} {c:Option Chunk} (hf:OpFact P st.gl ops o st.ev st.lk st.next v upd c) :
    WF (st.step o.dst v upd c).next (st.step o.dst v upd c).get (st.step o.dst v upd c).lk (st.step o.dst v upd c).gl:=by
  rw [step_get,step_lk _ _ _ _ _ hf.keys hf.ok]
  have hsub:∀ j,(∃ ch,st.lk j = some ch)→∃ ch,addC (applyU st.lk upd) st.next c j = some ch:=fun j ⟨ch,hch⟩=>by
    obtain ⟨ch',h'⟩:=applyU_some (u:=upd) hch
    unfold addC
    by_cases e:j = st.next
    · have:=h.hnext j ch hch;omega
    · exact ⟨ch',by rw [if_neg e,h']⟩
  have hinv:∀ j ch,addC (applyU st.lk upd) st.next c j = some ch→(j = st.next∧c = some ch)∨applyU st.lk upd j = some ch:=fun j ch hj=>by
    unfold addC at hj
    split at hj
    · rename_i e
      cases c with
      | none=>exact .inr hj
      | some c'=>exact .inl ⟨e,hj⟩
    · exact .inr hj
  refine ⟨fun t j hj=>?_,fun j cs k hj hk=>?_,fun j ch hj=>?_,h.glf⟩
  · unfold setE at hj
    split at hj
    · rcases hf.names j hj with h1|⟨rfl,h2⟩
      · exact hsub j (h.named_ex hf.ok h1)
      · obtain ⟨ch,rfl⟩:=Option.isSome_iff_exists.1 h2
        exact ⟨ch,by simp [addC]⟩
    · exact hsub j (h.named t j hj)
  · rcases hinv j _ hj with ⟨_,hc⟩|hj
    · exact hsub k (h.named_ex hf.ok (hf.cnames cs k hc hk))
    · rcases applyU_inv hj with ⟨x,hx,_,h1⟩|⟨_,hj⟩
      · subst h1
        exact hsub k (h.named_ex hf.ok (hf.unames x hx k hk))
      · exact hsub k (h.hnamed j cs k hj hk)
  · show j < st.next + 1
    rcases hinv j _ hj with ⟨e,_⟩|hj
    · omega
    · rcases applyU_inv hj with ⟨x,hx,h1,_⟩|⟨_,hj⟩
      · have:=h.hnext x.1 _ (hf.ok.get x hx);omega
      · have:=h.hnext j _ hj;omega
end Go.Fw
namespace Go.Fw
theorem quiet_opG {P:Program} {T:Tab} {ops:Array Oper} {gl:Gl} {lk:Heap} {ev:Operand→AV} {id:Nat} {o:Oper} {K:AV→Upd→Option Chunk→Prop} (hq:quiet o = true) (h:opG P T ops gl lk ev id o K):opG P T ops gl noHeap ev id o K:=by
  unfold quiet at hq
  split at hq
  · rename_i x hop hg
    unfold opG at h ⊢
    rw [hg] at h ⊢
    rw [hop] at h ⊢
    exact h
  · rename_i x hop hg
    unfold opG at h ⊢
    rw [hg] at h ⊢
    rw [hop] at h ⊢
    exact h
  · rename_i x y z hop hg
    unfold opG at h ⊢
    rw [hg] at h ⊢
    rw [hop] at h ⊢
    exact h
  · cases hq
theorem Named.lift {o:Oper} {ev:Operand→AV} {lk:Heap} {upd:Upd} {j:Nat} (h:Named o ev noHeap upd j):Named o ev lk upd j:=by
  rcases h with ⟨x,hx,h1|⟨k,cells,h1,h2,h3⟩⟩|h
  · exact .inl ⟨x,hx,.inl h1⟩
  · cases h2
  · exact .inr h
theorem OpFact.lift {P:Program} {gl:Gl} {ops:Array Oper} {o:Oper} {ev:Operand→AV} {lk:Heap} {id:Nat} {v:AV} {upd:Upd} {c:Option Chunk} (h:OpFact P gl ops o ev noHeap id v upd c):OpFact P gl ops o ev lk id v upd c:=by
  have hu:upd = []:=by
    cases upd with
    | nil=>rfl
    | cons x r=>obtain ⟨j,old,n⟩:=x;exact absurd h.ok.1 (by simp [noHeap])
  subst hu
  exact ⟨trivial,h.keys,fun φ R a w h1 h2 h3 h4 h5 h6 next Q h7=>h.run φ R a w h1 h2 (fun x hx id c hid hc=>by cases hc) h4 h5 h6 next Q h7,fun j hj=>(h.names j hj).imp Named.lift (fun h=>h),fun ch j hc hj=>(h.cnames ch j hc hj).lift,fun x hx j hj=>(h.unames x hx j hj).lift⟩
structure Run (P:Program) (ops:Array Oper) (os:List Oper) (st:St) (sts:Nat→St) (vs:Nat→AV) (us:Nat→Upd) (cs:Nat→Option Chunk):Prop where
  zero:sts 0 = st
  fact:∀ i o,os[i]? = some o→OpFact P (sts i).gl ops o (sts i).ev (sts i).lk (sts i).next (vs i) (us i) (cs i)
  next:∀ i o,os[i]? = some o→sts (i + 1) = (sts i).step o.dst (vs i) (us i) (cs i)
  mv:∀ i o,os[i]? = some o→quiet o = true→OpFact P (sts i).gl ops o (sts i).ev noHeap (sts i).next (vs i) (us i) (cs i)
def logE (os:List Oper) (sts:Nat→St) (us:Nat→Upd) (cs:Nat→Option Chunk) (i:Nat):List Nat × List Nat:=
  match os[i]? with
  | some o=>(touched (sts i).ev o (us i),writes (sts i).next (us i) (cs i))
  | none=>([],[])
section
variable {P:Program} {T:Tab} (hT:tabOK P T = true)
include hT
theorem head_run {ops:Array Oper}:∀ (os:List Oper) (st:St) (log:List (List Nat × List Nat)) (K:St→List (List Nat × List Nat)→Prop),awpHead P T ops os st log K→WF st.next st.get st.lk st.gl→
    ∃ sts vs us cs,Run P ops os st sts vs us cs∧K (sts os.length) (((List.range os.length).map (logE os sts us cs)).reverse ++ log)
  | [],st,log,K,h,hw=>⟨fun _=>st,fun _=>.any,fun _=>[],fun _=>none,⟨rfl,fun i o h=>by simp at h,fun i o h=>by simp at h,fun i o h=>by simp at h⟩,by simpa [awpHead] using h⟩
  | o :: r,st,log,K,h,hw=>by
    simp only [awpHead] at h
    have hfr:∀ x∈o.op.operands,AV.has st.next (st.ev x) = false:=fun x _=>by
      cases hx:AV.has st.next (st.ev x) with
      | false=>rfl
      | true=>
        obtain ⟨c,hc⟩:=hw.ev x _ hx
        have:=hw.hnext _ _ hc
        omega
    obtain ⟨v,upd,c,hk,hf,hm⟩:∃ v upd c,awpHead P T ops r (st.step o.dst v upd c) ((touched st.ev o upd,writes st.next upd c) :: log) K∧OpFact P st.gl ops o st.ev st.lk st.next v upd c∧(quiet o = true→OpFact P st.gl ops o st.ev noHeap st.next v upd c):=by
      by_cases hq:quiet o = true
      · obtain ⟨v,upd,c,hk,hf⟩:=opG_sound hT o (quiet_opG hq h) hfr
        exact ⟨v,upd,c,hk,hf.lift,fun _=>hf⟩
      · obtain ⟨v,upd,c,hk,hf⟩:=opG_sound hT o h hfr
        exact ⟨v,upd,c,hk,hf,fun h=>absurd h hq⟩
    obtain ⟨sts,vs,us,cs,hrun,hk⟩:=head_run r _ _ K hk (hw.step hf)
    refine ⟨fun i=>match i with|0=>st|i + 1=>sts i,fun i=>match i with|0=>v|i + 1=>vs i,fun i=>match i with|0=>upd|i + 1=>us i,fun i=>match i with|0=>c|i + 1=>cs i,⟨rfl,fun i o' ho'=>?_,fun i o' ho'=>?_,fun i o' ho' hq=>?_⟩,?_⟩
    · cases i with
      | zero=>simp at ho';subst ho';exact hf
      | succ i=>exact hrun.fact i o' (by simpa using ho')
    · cases i with
      | zero=>simp at ho';subst ho';exact hrun.zero
      | succ i=>exact hrun.next i o' (by simpa using ho')
    · cases i with
      | zero=>simp at ho';subst ho';exact hm hq
      | succ i=>exact hrun.mv i o' (by simpa using ho') hq
    · have e:((List.range (o :: r).length).map (logE (o :: r) (fun i=>match i with|0=>st|i + 1=>sts i) (fun i=>match i with|0=>upd|i + 1=>us i) (fun i=>match i with|0=>c|i + 1=>cs i))).reverse ++ log =
          ((List.range r.length).map (logE r sts us cs)).reverse ++ ((touched st.ev o upd,writes st.next upd c) :: log):=by
        simp only [List.length_cons,List.range_succ_eq_map,List.map_cons,List.map_map,List.reverse_cons,List.append_assoc,List.singleton_append]
        congr 1
      rw [e]
      exact hk
end
def findW:Upd→Nat→Option (List AV)
  | [],_=>none
  | (j,_,some n) :: r,k=>if j = k then some n else findW r k
  | (_,_,none) :: r,k=>findW r k
theorem applyU_findW {H:Heap}:∀ {u:Upd},keysOK u = true→updOK H u→∀ k,applyU H u k = ((findW u k).map fun n=>some (Chunk.box n)).getD (H k)
  | [],_,_,_=>rfl
  | (j,old,some n) :: r,hk,hu,k=>by
    obtain ⟨h1,h2⟩:=keys_tail hk
    simp only [applyU,findW,newCells]
    by_cases e:k = j
    · subst e;simp
    · rw [if_neg e,if_neg (fun h=>e h.symm),applyU_findW h2 hu.2 k]
  | (j,old,none) :: r,hk,hu,k=>by
    obtain ⟨h1,h2⟩:=keys_tail hk
    simp only [applyU,findW,newCells]
    by_cases e:k = j
    · rw [if_pos e,← applyU_findW h2 hu.2 k,e,applyU_none (fun x hx=>h1 x hx)]
      exact hu.1.symm
    · rw [if_neg e,applyU_findW h2 hu.2 k]
theorem findW_mem:∀ {u:Upd} {k:Nat},(findW u k).isSome = true→k∈(u.filterMap fun x=>match x.2.2 with|some _=>some x.1|none=>none)∧k∈u.map (·.1)
  | [],_,h=>by simp [findW] at h
  | (j,_,some n) :: r,k,h=>by
    simp only [findW] at h
    by_cases e:j = k
    · subst e;simp
    · rw [if_neg e] at h
      have:=findW_mem h
      exact ⟨by simp [this.1],by simp only [List.map_cons,List.mem_cons];exact .inr this.2⟩
  | (j,_,none) :: r,k,h=>by
    simp only [findW] at h
    have:=findW_mem h
    exact ⟨by simpa using this.1,by simp only [List.map_cons,List.mem_cons];exact .inr this.2⟩
def wrE (os:List Oper) (vs:Nat→AV) (i t:Nat):Option AV:=match os[i]? with|some o=>if o.dst = some t then some (vs i) else none|none=>none
def wrH (os:List Oper) (base:Nat) (us:Nat→Upd) (cs:Nat→Option Chunk) (i k:Nat):Option (Option Chunk):=
  match os[i]? with
  | some _=>if k = base + i∧(cs i).isSome = true then some (cs i) else (findW (us i) k).map fun n=>some (.box n)
  | none=>none
theorem addC_wr {H:Heap} {u:Upd} {id:Nat} {c:Option Chunk} (hk:keysOK u = true) (hu:updOK H u) (k:Nat) :
    addC (applyU H u) id c k = (if k = id∧c.isSome = true then some c else (findW u k).map fun n=>some (Chunk.box n)).getD (H k):=by
  unfold addC
  by_cases e:k = id
  · rw [if_pos e]
    cases c with
    | none=>simp only [Option.isSome_none,Bool.false_eq_true,and_false,if_false];exact applyU_findW hk hu k
    | some ch=>simp [e]
  · rw [if_neg e,if_neg (fun h=>e h.1)]
    exact applyU_findW hk hu k
section
variable {P:Program} {ops:Array Oper} {os:List Oper} {st:St} {sts:Nat→St} {vs:Nat→AV} {us:Nat→Upd} {cs:Nat→Option Chunk}
theorem Run.consts (h:Run P ops os st sts vs us cs):∀ i,i≤os.length→(sts i).n = st.n∧(sts i).fix = st.fix∧(sts i).next = st.next + i∧(sts i).gl = st.gl
  | 0,_=>by rw [h.zero];exact ⟨rfl,rfl,rfl,rfl⟩
  | i + 1,hi=>by
    have ih:=h.consts i (by omega)
    have ho:os[i]? = some os[i]:=by simp [show i < os.length by omega]
    rw [h.next i _ ho]
    exact ⟨ih.1,ih.2.1,by show (sts i).next + 1 = _;omega,ih.2.2.2⟩
theorem Run.get (h:Run P ops os st sts vs us cs):∀ i,i≤os.length→∀ t,(sts i).get t = fold (wrE os vs) (fun _=>true) st.get i t
  | 0,_,t=>by rw [h.zero];rfl
  | i + 1,hi,t=>by
    have ih:=h.get i (by omega) t
    have ho:os[i]? = some os[i]:=by simp [show i < os.length by omega]
    rw [h.next i _ ho,step_get]
    simp only [setE,fold,if_true,wrE,ho,← ih]
    split <;> rfl
theorem Run.lk (h:Run P ops os st sts vs us cs):∀ i,i≤os.length→∀ k,(sts i).lk k = fold (wrH os st.next us cs) (fun _=>true) st.lk i k
  | 0,_,k=>by rw [h.zero];rfl
  | i + 1,hi,k=>by
    have ih:=h.lk i (by omega) k
    have ho:os[i]? = some os[i]:=by simp [show i < os.length by omega]
    have hf:=h.fact i _ ho
    rw [h.next i _ ho,step_lk _ _ _ _ _ hf.keys hf.ok,addC_wr hf.keys hf.ok k]
    simp only [fold,if_true,wrH,ho,← ih,(h.consts i (by omega)).2.2.1]
structure Ordered (ops:Array Oper) (os:List Oper) (sts:Nat→St) (us:Nat→Upd) (cs:Nat→Option Chunk):Prop where
  pair:∀ i j oi oj,i < j→os[i]? = some oi→os[j]? = some oj→((masks ops.toList []).getD j 0).testBit i = true∨
    (oi.apart ops oj = true∧(∀ k∈writes (sts i).next (us i) (cs i),k ∉ touched (sts j).ev oj (us j))∧(∀ k∈writes (sts j).next (us j) (cs j),k ∉ touched (sts i).ev oi (us i)))
theorem ordered_of {ops:Array Oper} {os:List Oper} {N:Nat} (hos:∀ i,os[i]? = if i < N then ops[i]? else none) (hN:os.length = N)
    (h:pairsOK ops ((List.range os.length).map (logE os sts us cs)) = true):Ordered ops os sts us cs:=⟨fun i j oi oj hij hi hj=>by
  have hjl:j < os.length:=(List.getElem?_eq_some_iff.1 hj).1
  have hil:i < os.length:=by omega
  unfold pairsOK at h
  rw [List.all_eq_true] at h
  have h1:=h j (by simp;exact hjl)
  rw [List.all_eq_true] at h1
  have h2:=h1 i (by simp;exact hij)
  have ei:ops[i]? = some oi:=by have:=hos i;rw [hi,if_pos (by omega)] at this;exact this.symm
  have ej:ops[j]? = some oj:=by have:=hos j;rw [hj,if_pos (by omega)] at this;exact this.symm
  have li:((List.range os.length).map (logE os sts us cs))[i]? = some (logE os sts us cs i):=by simp [hil]
  have lj:((List.range os.length).map (logE os sts us cs))[j]? = some (logE os sts us cs j):=by simp [hjl]
  simp only [ei,ej,li,lj,Bool.or_eq_true,Bool.and_eq_true] at h2
  refine h2.imp (fun h=>h) (fun ⟨h3,h4⟩=>⟨h3,?_⟩)
  simp only [apartIds,logE,hi,hj,Bool.and_eq_true,List.all_eq_true,Bool.not_eq_true',List.contains_eq_mem,decide_eq_false_iff_not] at h4
  exact h4⟩
theorem wrE_dst {i t:Nat} (h:(wrE os vs i t).isSome = true):∃ o,os[i]? = some o∧o.dst = some t:=by
  unfold wrE at h
  split at h
  · rename_i o ho
    split at h
    · rename_i hd;exact ⟨o,ho,hd⟩
    · simp at h
  · simp at h
theorem wrH_mem {i k base:Nat} (h:(wrH os base us cs i k).isSome = true):∃ o,os[i]? = some o∧((k = base + i∧(cs i).isSome = true)∨(k∈((us i).filterMap fun x=>match x.2.2 with|some _=>some x.1|none=>none)∧k∈(us i).map (·.1))):=by
  unfold wrH at h
  split at h
  · rename_i o ho
    refine ⟨o,ho,?_⟩
    split at h
    · rename_i hc;exact .inl hc
    · exact .inr (findW_mem (by simpa using h))
  · simp at h
theorem fold_none {K V:Type} {wr:Nat→K→Option V} {L:Nat→Bool} {init:K→V} {k:K}:∀ n,(∀ j,j < n→L j = true→wr j k = none)→fold wr L init n k = init k
  | 0,_=>rfl
  | n + 1,h=>by
    simp only [fold,fold_none n (fun j hj=>h j (by omega))]
    cases hl:L n with
    | false=>simp
    | true=>simp [h n (by omega) hl]
theorem updOK_of {H:Heap}:∀ {u:Upd},(∀ x∈u,H x.1 = some (.box x.2.1))→updOK H u
  | [],_=>trivial
  | (j,old,n) :: r,h=>⟨h _ (List.mem_cons_self ..),updOK_of fun x hx=>h x (List.mem_cons_of_mem _ hx)⟩
theorem Run.bound (h:Run P ops os st sts vs us cs) (h0:∀ k c,st.lk k = some c→k < st.next):∀ m,m≤os.length→∀ k c,(sts m).lk k = some c→k < st.next + m
  | 0,_,k,c,hk=>by rw [h.zero] at hk;exact h0 k c hk
  | m + 1,hm,k,c,hk=>by
    have ho:os[m]? = some os[m]:=by simp [show m < os.length by omega]
    have hf:=h.fact m _ ho
    have hn:=(h.consts m (by omega)).2.2.1
    rw [h.next m _ ho,step_lk _ _ _ _ _ hf.keys hf.ok] at hk
    unfold addC at hk
    split at hk
    · omega
    · rcases applyU_inv hk with ⟨x,hx,rfl,_⟩|⟨_,hk⟩
      · have:=h.bound h0 m (by omega) x.1 _ (hf.ok.get x hx);omega
      · have:=h.bound h0 m (by omega) k c hk;omega
theorem Run.newNone (h:Run P ops os st sts vs us cs) (h0:∀ k c,st.lk k = some c→k < st.next) {i:Nat} (hc:cs i = none):∀ m,m≤os.length→(sts m).lk (st.next + i) = none
  | 0,_=>by
    rw [h.zero]
    cases hk:st.lk (st.next + i) with
    | none=>rfl
    | some c=>have:=h0 _ _ hk;omega
  | m + 1,hm=>by
    have ho:os[m]? = some os[m]:=by simp [show m < os.length by omega]
    have hf:=h.fact m _ ho
    have hn:=(h.consts m (by omega)).2.2.1
    have ih:=h.newNone h0 hc m (by omega)
    rw [h.next m _ ho,step_lk _ _ _ _ _ hf.keys hf.ok]
    have hu:applyU (sts m).lk (us m) (st.next + i) = none:=by
      rw [applyU_none]
      · exact ih
      · intro x hx e
        have:=hf.ok.get x hx
        rw [e,ih] at this
        simp at this
    unfold addC
    split
    · rename_i e
      have:m = i:=by omega
      subst this
      rw [hc]
      exact hu
    · exact hu
abbrev ED (os:List Oper) (st:St) (vs:Nat→AV) (L:Nat→Bool):Nat→AV:=fold (wrE os vs) L st.get os.length
abbrev HD (os:List Oper) (st:St) (us:Nat→Upd) (cs:Nat→Option Chunk) (L:Nat→Bool):Heap:=fold (wrH os st.next us cs) L st.lk os.length
theorem head_step (hrun:Run P ops os st sts vs us cs) (hord:Ordered ops os sts us cs) (hops:∀ (i:Nat) (o:Oper),os[i]? = some o→ops[i]? = some o) (h0:∀ k c,st.lk k = some c→k < st.next)
    {L:Nat→Bool} (hcl:Cl ops L) {i:Nat} {o:Oper} (ho:os[i]? = some o) (hi:L i = false) (hready:∀ e∈o.after,Region.binds .any e = true→L e.on = true)
    {R:Prot} {φ:Place} {a:Act} {w:World} (hs:SatF R φ st.n (st.next + os.length) (ED os st vs L) (HD os st us cs L) st.gl a w) (hd:dstB o st.n = true)
    {next:Act→World→Prop} {Q:Exit→Act→World→Prop}
    (hnext:∀ R' φ' a' w',SatF R' φ' st.n (st.next + os.length) (ED os st vs (fun j=>if j = i then true else L j)) (HD os st us cs (fun j=>if j = i then true else L j)) st.gl a' w'→
      Evo R (Owns φ (HD os st us cs L)) w R' (Owns φ' (HD os st us cs (fun j=>if j = i then true else L j))) w'→(∀ j,j < st.next→φ' j = φ j)→next a' w') :
    (if Region.wanted o (yielded ops a.tmps) = true then o.wp P a w next Q∨(o.asks P a w∧LetsOut Q) else next (a.put o.dst undef) w):=by
  have hil:i < os.length:=(List.getElem?_eq_some_iff.1 ho).1
  have hf:=hrun.fact i o ho
  obtain ⟨hcn,hcf,hcx,hcg⟩:=hrun.consts i (by omega)
  have conf:∀ j oj,os[j]? = some oj→j≠i→
      ((L j = true ↔ j < i)∨(((j < i→oj.apart ops o = true)∧(i < j→o.apart ops oj = true))∧(∀ k∈writes (sts i).next (us i) (cs i),k ∉ touched (sts j).ev oj (us j))∧(∀ k∈writes (sts j).next (us j) (cs j),k ∉ touched (sts i).ev o (us i)))):=by
    intro j oj hj hne
    rcases Nat.lt_or_gt_of_ne hne with hlt|hgt
    · rcases hord.pair j i oj o hlt hj ho with h|⟨h1,h2,h3⟩
      · exact .inl ⟨fun _=>hlt,fun _=>cl_mask hcl i o (hops i o ho) hready j h⟩
      · exact .inr ⟨⟨fun _=>h1,fun h=>by omega⟩,h3,h2⟩
    · rcases hord.pair i j o oj hgt ho hj with h|⟨h1,h2,h3⟩
      · refine .inl ⟨fun hl=>?_,fun h=>by omega⟩
        have:=cl_mask hcl j oj (hops j oj hj) (hcl j oj (hops j oj hj) hl) i h
        rw [hi] at this;simp at this
      · exact .inr ⟨⟨fun h=>by omega,fun _=>h1⟩,h2,h3⟩
  have slotEq:∀ t,(t∈o.looksAt ops∨o.dst = some t)→ED os st vs L t = (sts i).get t:=by
    intro t ht
    rw [hrun.get i (by omega) t]
    refine fold_at (by omega) (fun j hj hw=>?_)
    obtain ⟨oj,hoj,hdj⟩:=wrE_dst hw
    by_cases e:j = i
    · subst e;simp [hi]
    · rcases conf j oj hoj e with h|⟨⟨h1,h2⟩,_⟩
      · exact h
      · exfalso
        rcases Nat.lt_or_gt_of_ne e with hlt|hgt
        · obtain ⟨a1,a2,a3⟩:=Oper.apart_spec (h1 hlt)
          rcases ht with ht|ht
          · exact a1 t hdj ht
          · exact a2 t hdj ht
        · obtain ⟨a1,a2,a3⟩:=Oper.apart_spec (h2 hgt)
          rcases ht with ht|ht
          · exact a3 t hdj ht
          · exact a2 t ht hdj
  have heapEq:∀ k,(k∈touched (sts i).ev o (us i))→HD os st us cs L k = (sts i).lk k:=by
    intro k hk
    rw [hrun.lk i (by omega) k]
    refine fold_at (by omega) (fun j hj hw=>?_)
    obtain ⟨oj,hoj,hm⟩:=wrH_mem hw
    by_cases e:j = i
    · subst e;simp [hi]
    · rcases conf j oj hoj e with h|⟨_,_,h2⟩
      · exact h
      · exfalso
        refine h2 k ?_ hk
        have hxj:=(hrun.consts j (by omega)).2.2.1
        unfold writes
        rcases hm with ⟨h1,h3⟩|⟨h1,_⟩
        · obtain ⟨ch,hch⟩:=Option.isSome_iff_exists.1 h3
          rw [hch,hxj,h1];simp
        · exact List.mem_append_left _ h1
  have evEq:∀ x∈o.op.operands,(sts i).ev x = evF (ED os st vs L) st.gl x:=by
    intro x hx
    cases x with
    | tmp t=>
      show (sts i).get t = ED os st vs L t
      refine (slotEq t (.inl ?_)).symm
      unfold Oper.looksAt
      exact List.mem_append_left _ (List.mem_filterMap.2 ⟨.tmp t,by simpa using hx,rfl⟩)
    | const v=>rfl
    | global g=>simp only [St.ev,evF,hcg]
    | func f=>rfl
  have touchOp:quiet o = false→∀ x∈o.op.operands,∀ k,((sts i).ev x).has k = true→k∈touched (sts i).ev o (us i):=fun hq x hx k hk=>
    List.mem_append_left _ (by rw [hq];exact List.mem_flatMap.2 ⟨x,by simpa using hx,AV.has_ids hk⟩)
  have touchUp:∀ x∈us i,x.1∈touched (sts i).ev o (us i):=fun x hx=>List.mem_append_right _ (List.mem_map.2 ⟨x,hx,rfl⟩)
  have hok:updOK (HD os st us cs L) (us i):=updOK_of fun x hx=>by rw [heapEq _ (touchUp x hx)];exact hf.ok.get x hx
  obtain ⟨lq,hf,hlq⟩:∃ lq,OpFact P (sts i).gl ops o (sts i).ev lq (sts i).next (vs i) (us i) (cs i)∧∀ x∈o.op.operands,∀ k c,((sts i).ev x).has k = true→lq k = some c→HD os st us cs L k = some c:=by
    cases hq:quiet o with
    | true=>exact ⟨noHeap,hrun.mv i o ho hq,fun x hx k c _ hc=>by cases hc⟩
    | false=>exact ⟨(sts i).lk,hf,fun x hx k c hk hc=>by rw [heapEq k (touchOp hq x hx k hk)];exact hc⟩
  have hnamed:∀ j,Named o (sts i).ev lq (us i) j→∃ ch,HD os st us cs L j = some ch:=by
    rintro j (⟨x,hx,h1|⟨k,cells,h1,h2,h3⟩⟩|⟨x,hx,rfl⟩)
    · exact hs.ev_named x j (by rw [← evEq x hx];exact h1)
    · exact hs.hnamed k (.box cells) j (hlq x hx k _ h1 h2) h3
    · exact ⟨_,hok.get x hx⟩
  have hfresh:HD os st us cs L (st.next + i) = none:=by
    have:HD os st us cs L (st.next + i) = st.lk (st.next + i):=by
      refine fold_none _ (fun j hj hl=>?_)
      cases hw:wrH os st.next us cs j (st.next + i) with
      | none=>rfl
      | some v=>
        exfalso
        obtain ⟨oj,hoj,hm⟩:=wrH_mem (k:=st.next + i) (i:=j) (by rw [hw];rfl)
        have hne:j≠i:=fun e=>by subst e;rw [hi] at hl;simp at hl
        rcases hm with ⟨h1,_⟩|⟨_,h1⟩
        · omega
        · obtain ⟨x,hx,hx1⟩:=List.mem_map.1 h1
          have hfj:=hrun.fact j oj hoj
          have hlk:=hfj.ok.get x hx
          rw [hx1] at hlk
          cases hci:cs i with
          | none=>
            rw [hrun.newNone h0 hci j (by omega)] at hlk
            simp at hlk
          | some ch=>
            have hb:=hrun.bound h0 j (by omega) _ _ hlk
            rcases conf j oj hoj hne with h|⟨_,h2,_⟩
            · have:=h.1 hl;omega
            · refine h2 (st.next + i) ?_ (List.mem_append_right _ (List.mem_map.2 ⟨x,hx,hx1⟩))
              unfold writes
              rw [hci,hcx];simp
    rw [this]
    cases hk:st.lk (st.next + i) with
    | none=>rfl
    | some c=>have:=h0 _ _ hk;omega
  have eE:ED os st vs (fun j=>if j = i then true else L j) = setE (ED os st vs L) o.dst (vs i):=by
    funext t
    unfold ED
    rw [fold_set hil hi (fun j hj hij hl hw=>?_)]
    · simp only [wrE,ho,setE]
      split <;> rfl
    · obtain ⟨oj,hoj,hdj⟩:=wrE_dst hw
      rcases conf j oj hoj (by omega) with h|⟨⟨_,h2⟩,_⟩
      · have:=h.1 hl;omega
      · obtain ⟨a1,a2,a3⟩:=Oper.apart_spec (h2 hij)
        simp only [wrE,ho]
        rw [if_neg (fun e=>a2 t e hdj)]
  have eH:HD os st us cs (fun j=>if j = i then true else L j) = addC (applyU (HD os st us cs L) (us i)) (st.next + i) (cs i):=by
    funext k
    rw [addC_wr hf.keys hok k]
    unfold HD
    rw [fold_set hil hi (fun j hj hij hl hw=>?_)]
    · simp only [wrH,ho]
    · obtain ⟨oj,hoj,hm⟩:=wrH_mem hw
      rcases conf j oj hoj (by omega) with h|⟨_,h2,h3⟩
      · have:=h.1 hl;omega
      · cases hwi:wrH os st.next us cs i k with
        | none=>rfl
        | some v=>
          exfalso
          obtain ⟨oi,hoi,hmi⟩:=wrH_mem (k:=k) (i:=i) (by rw [hwi];rfl)
          have hwi':k∈writes (sts i).next (us i) (cs i):=by
            unfold writes
            rcases hmi with ⟨h1,h4⟩|⟨h1,_⟩
            · obtain ⟨ch,hch⟩:=Option.isSome_iff_exists.1 h4
              rw [hch,hcx,h1];simp
            · exact List.mem_append_left _ h1
          rcases hm with ⟨h1,h4⟩|⟨_,h1⟩
          · rcases hmi with ⟨h5,_⟩|⟨_,h5⟩
            · omega
            · refine h3 k ?_ (List.mem_append_right _ h5)
              have hxj:=(hrun.consts j (by omega)).2.2.1
              unfold writes
              obtain ⟨ch,hch⟩:=Option.isSome_iff_exists.1 h4
              rw [hch,hxj,h1];simp
          · exact h2 k hwi' (List.mem_append_right _ h1)
  rw [eE,eH] at hnext
  refine hf.run φ R a w (fun x hx=>by rw [evEq x hx];exact hs.ev x) (fun t ht=>?_) (fun x hx id c hid hc=>hs.heap.rel id c (hlq x hx id c hid hc))
    (hrel_old hok hs.heap) hs.rlt (by rw [hcg];exact hs.gl) next Q ?_
  · obtain ⟨g,hg,hgt⟩:=ht
    have:(sts i).ev (.tmp t) = ED os st vs L t:=by
      show (sts i).get t = _
      refine (slotEq t (.inl ?_)).symm
      unfold Oper.looksAt
      refine List.mem_append_right _ ?_
      rw [hg]
      simp only [hgt]
      simp
    rw [this]
    exact hs.env t
  · intro φ' R' w' u hsu hu
    rw [hcx] at hsu
    obtain ⟨h1,h2⟩:=SatF.step hs hfresh (show st.next + i < st.next + os.length by omega) (Nat.le_refl _) hok hsu hu o.dst (fun d hd'=>by
        simp only [dstB,hd',decide_eq_true_eq] at hd
        exact hd)
      (fun j hj=>(hf.names j hj).imp (hnamed j) (fun ⟨e,hc⟩=>⟨by rw [e,hcx],hc⟩)) (fun cells j hc hj=>hnamed j (hf.cnames cells j hc hj)) (fun x hx j hj=>hnamed j (hf.unames x hx j hj))
    exact hnext R' φ' _ w' h1 h2 (fun j hj=>hsu.place j (by omega))
end
end Go.Fw
namespace Go.Fw
theorem filter_less {p q:Nat→Bool} {i:Nat} (hp:p i = true) (hq:q i = false) (hne:∀ j,j≠i→p j = q j):∀ (l:List Nat),l.Nodup→i∈l→(l.filter p).length = (l.filter q).length + 1
  | [],_,h=>by simp at h
  | x :: l,hnd,h=>by
    simp only [List.nodup_cons] at hnd
    by_cases e:x = i
    · subst e
      have:l.filter p = l.filter q:=List.filter_congr fun y hy=>hne y (fun e=>hnd.1 (e ▸ hy))
      simp [hp,hq,this]
    · have hi:i∈l:=by
        rcases List.mem_cons.1 h with h|h
        · exact absurd h.symm e
        · exact h
      have ih:=filter_less hp hq hne l hnd.2 hi
      have hx:=hne x e
      simp only [List.filter_cons,hx]
      split <;> simp [ih]
def unl (N:Nat) (listed:Array Bool):Nat:=((List.range N).filter fun i=>!listed.getD i true).length
theorem unl_set {N i:Nat} {listed:Array Bool} (hi:i < N) (hs:listed.size = N) (h:listed.getD i true = false):unl N listed = unl N (listed.setIfInBounds i true) + 1:=by
  unfold unl
  refine filter_less (i:=i) (by show (!listed.getD i true) = true;rw [h];rfl) (by simp [hs,hi]) (fun j hj=>?_) _ List.nodup_range (by simpa using hi)
  rw [getD_set_ne true (Ne.symm hj)]
theorem unl_zero {N:Nat} {listed:Array Bool} (h:unl N listed = 0):∀ j,j < N→listed.getD j true = true:=by
  intro j hj
  cases hl:listed.getD j true with
  | true=>rfl
  | false=>
    unfold unl at h
    have:j∈(List.range N).filter fun i=>!listed.getD i true:=by simp only [List.mem_filter,List.mem_range];exact ⟨hj,by rw [hl];rfl⟩
    rw [List.eq_nil_of_length_eq_zero h] at this
    simp at this
theorem getD_tf {listed:Array Bool} {j:Nat} (h:j < listed.size):listed.getD j true = listed.getD j false:=by simp [h]
theorem edges_lt {ops:Array Oper} (h:edgesB ops = true) {j:Nat} {o:Oper} (ho:ops[j]? = some o):∀ e∈o.after,Region.binds .any e = true→e.on < j:=by
  intro e he hb
  have hj:=(Array.getElem?_eq_some_iff.1 ho).1
  unfold edgesB at h
  rw [List.all_eq_true] at h
  have:=h j (by simpa using hj)
  simp only [ho] at this
  rw [Array.all_eq_true_iff_forall_mem] at this
  have:=this e he
  simpa [hb] using this
theorem ready_ex {ops:Array Oper} {listed:Array Bool} (he:edgesB ops = true) (hs:listed.size = ops.size):∀ (n j:Nat),j < n→j < ops.size→listed.getD j true = false→∃ i,i∈Region.ready .any ops listed
  | 0,j,h,_,_=>by omega
  | n + 1,j,h,hj,hl=>by
    by_cases hr:j∈Region.ready .any ops listed
    · exact ⟨j,hr⟩
    · have ho:ops[j]? = some ops[j]:=by simp [hj]
      have:∃ e∈ops[j].after,Region.binds .any e = true∧listed.getD e.on false = false:=by
        refine Classical.byContradiction fun hn=>hr (mem_ready.2 ⟨hl,_,ho,fun e hee hb=>?_⟩)
        cases hle:listed.getD e.on false with
        | true=>rfl
        | false=>exact absurd ⟨e,hee,hb,hle⟩ hn
      obtain ⟨e,hee,hb,hle⟩:=this
      have hlt:=edges_lt he ho e hee hb
      exact ready_ex he hs n e.on (by omega) (by omega) (by rw [getD_tf (by omega)];exact hle)
section
variable {P:Program} {T:Tab} (hT:tabOK P T = true)
include hT
theorem tail_any {ops:Array Oper} {N:Nat} (hdr:drawB ops N = true) {st0:St} {R0:Prot} {φ0:Place} {w0:World} {K:St→Prop} {Q:Exit→Act→World→Prop} (W:List Oper→St→Prop) (hnil:∀ st,W [] st→K st)
    (hstep:∀ (o:Oper) (r:List Oper) (st:St),W (o :: r) st→dstB o st.n = true→∀ (R:Prot) (φ:Place) (a:Act) (w:World),Sat R φ st a w→∀ (next:Act→World→Prop) (Q:Exit→Act→World→Prop),
      (∀ R' φ' a' w' st',W r st'→Sat R' φ' st' a' w'→Ext st R φ w st' R' φ' w'→next a' w')→
      (if Region.wanted o (yielded ops a.tmps) = true then o.wp P a w next Q∨(o.asks P a w∧LetsOut Q) else next (a.put o.dst undef) w)) (hd:ops.all (dstB · st0.n) = true)
    (hQ:∀ R φ st' a w,K st'→Sat R φ st' a w→Ext st0 R0 φ0 w0 st' R φ w→Q .normal a w) :
    ∀ (fuel m:Nat) (listed:Array Bool) (a:Act) (w:World) (st:St) (R:Prot) (φ:Place),N≤m→m≤ops.size→listed.size = ops.size→(∀ j,j < ops.size→(listed.getD j true = true ↔ j < m))→
      ops.size - m≤fuel→W (ops.toList.drop m) st→Sat R φ st a w→Ext st0 R0 φ0 w0 st R φ w→wpAny P .any ops Q fuel listed a w:=by
  unfold drawB at hdr
  simp only [Bool.and_eq_true,Bool.or_eq_true] at hdr
  obtain ⟨hedge,hdr⟩:=hdr
  have fin:∀ (m:Nat) (listed:Array Bool) (a:Act) (w:World) (st:St) (R:Prot) (φ:Place),m = ops.size→W (ops.toList.drop m) st→Sat R φ st a w→Ext st0 R0 φ0 w0 st R φ w→Q .normal a w:=by
    intro m listed a w st R φ hm h hs he
    have:ops.toList.drop m = []:=by simp [hm]
    rw [this] at h
    exact hQ R φ st a w (hnil st h) hs he
  have hready0:∀ (m:Nat) (listed:Array Bool),listed.size = ops.size→(∀ j,j < ops.size→(listed.getD j true = true ↔ j < m))→m≤ops.size→Region.ready .any ops listed = []→m = ops.size:=by
    intro m listed hsz hl hm hr
    rcases Nat.lt_or_ge m ops.size with h|h
    · have hlm:listed.getD m true = false:=by
        cases hh:listed.getD m true with
        | false=>rfl
        | true=>have:=(hl m h).1 hh;omega
      obtain ⟨i,hi⟩:=ready_ex hedge hsz (m + 1) m (by omega) h hlm
      rw [hr] at hi;simp at hi
    · omega
  intro fuel
  induction fuel with
  | zero=>
    intro m listed a w st R φ hNm hm hsz hl hf h hs he
    have hme:m = ops.size:=by omega
    refine ⟨?_,fin m listed a w st R φ hme h hs he⟩
    cases hr:Region.ready .any ops listed with
    | nil=>rfl
    | cons i r=>
      have hi:i∈Region.ready .any ops listed:=by rw [hr];exact List.mem_cons_self ..
      obtain ⟨h1,o,ho,_⟩:=mem_ready.1 hi
      have hlt:=(Array.getElem?_eq_some_iff.1 ho).1
      have:=(hl i hlt).2 (by omega)
      rw [this] at h1;simp at h1
  | succ fuel ih=>
    intro m listed a w st R φ hNm hm hsz hl hf h hs he
    refine ⟨fun hr=>fin m listed a w st R φ (hready0 m listed hsz hl hm hr) h hs he,fun i hi=>?_⟩
    obtain ⟨h1,o,ho,hall⟩:=mem_ready.1 hi
    have hlt:=(Array.getElem?_eq_some_iff.1 ho).1
    have him:m≤i:=by
      rcases Nat.lt_or_ge i m with h'|h'
      · have:=(hl i hlt).2 h';rw [this] at h1;simp at h1
      · exact h'
    have hie:i = m:=by
      rcases Nat.lt_or_ge m i with h'|h'
      · exfalso
        rcases hdr with hdr|⟨⟨hn,hsink⟩,hchain⟩
        · have:=Nat.eq_of_beq_eq_true hdr;omega
        · unfold Region.chainB at hchain
          rw [List.all_eq_true] at hchain
          have h2:=hchain i (by simpa using hlt)
          simp only [Bool.or_eq_true,decide_eq_true_eq] at h2
          rcases h2 with h2|h2
          · omega
          · obtain ⟨o',ho',e,hee,hb,hon⟩:=Region.waitsFor_spec h2
            have:o' = o:=Option.some.inj (ho'.symm.trans ho)
            subst this
            have h3:=hall e hee hb
            rw [hon,← getD_tf (by omega)] at h3
            have:=(hl (i - 1) (by omega)).1 h3
            omega
      · omega
    subst hie
    have hdrop:ops.toList.drop i = o :: ops.toList.drop (i + 1):=by
      have hlt':i < ops.toList.length:=by simpa using hlt
      rw [List.drop_eq_getElem_cons hlt']
      congr 1
      obtain ⟨_,hg⟩:=Array.getElem?_eq_some_iff.1 ho
      simpa using hg
    rw [hdrop] at h
    have hdo:dstB o st.n = true:=by
      rw [Array.all_eq_true_iff_forall_mem] at hd
      rw [he.n]
      exact hd o (by obtain ⟨h',rfl⟩:=Array.getElem?_eq_some_iff.1 ho;exact Array.getElem_mem h')
    unfold wpOp
    simp only [ho]
    refine hstep o _ st h hdo R φ a w hs _ _ ?_
    intro R' φ' a' w' st' hk hs' he'
    refine ih (i + 1) _ a' w' st' R' φ' (by omega) (by omega) (by simp [hsz]) (fun j hj=>?_) (by omega) hk hs' (he.trans he')
    by_cases e:i = j
    · subst e;simp [hsz,hj]
    · rw [getD_set_ne true e]
      rw [hl j hj]
      omega
theorem draw_sound {ops:Array Oper} {N:Nat} (hdr:drawB ops N = true) {st:St} {R0:Prot} {φ0:Place} {w0:World} {K:St→Prop} {Q:Exit→Act→World→Prop} (W0 W:List Oper→St→Prop) (hW:∀ l st,W0 l st→W l st) (hnil:∀ st,W [] st→K st)
    (hstep:∀ (o:Oper) (r:List Oper) (st:St),W (o :: r) st→dstB o st.n = true→∀ (R:Prot) (φ:Place) (a:Act) (w:World),Sat R φ st a w→∀ (next:Act→World→Prop) (Q:Exit→Act→World→Prop),
      (∀ R' φ' a' w' st',W r st'→Sat R' φ' st' a' w'→Ext st R φ w st' R' φ' w'→next a' w')→
      (if Region.wanted o (yielded ops a.tmps) = true then o.wp P a w next Q∨(o.asks P a w∧LetsOut Q) else next (a.put o.dst undef) w)) (hd:ops.all (dstB · st.n) = true)
    (h:awpHead P T ops (ops.toList.take N) st [] fun st' log=>pairsOK ops log.reverse = true∧W0 (ops.toList.drop N) st') {a0:Act} {w1:World} (hs0:Sat R0 φ0 st a0 w1) (he0:Ext st R0 φ0 w0 st R0 φ0 w1)
    (hQ:∀ R φ st' a w,K st'→Sat R φ st' a w→Ext st R0 φ0 w0 st' R φ w→Q .normal a w) :
    wpAny P .any ops Q ops.size (Array.replicate ops.size false) a0 w1:=by
  have hdr0:=hdr
  unfold drawB at hdr
  simp only [Bool.and_eq_true,Bool.or_eq_true] at hdr
  obtain ⟨hedge,hdr⟩:=hdr
  have hNle:N≤ops.size:=by
    rcases hdr with hdr|⟨⟨hn,_⟩,_⟩
    · have:=Nat.eq_of_beq_eq_true hdr;omega
    · have:=Nat.le_of_ble_eq_true hn;omega
  have hwf:WF st.next st.get st.lk st.gl:=⟨hs0.s.named,hs0.s.hnamed,hs0.s.hnext,fun g cs hg=>(hs0.s.gl g cs hg).2⟩
  obtain ⟨sts,vs,us,cs,hrun,hpairs,htail⟩:=head_run hT (ops.toList.take N) st [] _ h hwf
  replace htail:=hW _ _ htail
  have hNl:(ops.toList.take N).length = N:=by simp;omega
  rw [List.append_nil,List.reverse_reverse] at hpairs
  have hosg:∀ i,(ops.toList.take N)[i]? = if i < N then ops[i]? else none:=fun i=>by
    rw [List.getElem?_take]
    split <;> simp
  have hord:=ordered_of hosg hNl hpairs
  have hops:∀ (i:Nat) (o:Oper),(ops.toList.take N)[i]? = some o→ops[i]? = some o:=fun i o ho=>by
    rw [hosg i] at ho
    split at ho
    · exact ho
    · simp at ho
  rw [hNl] at htail
  have main:∀ (fuel:Nat) (listed:Array Bool) (a:Act) (w:World) (R:Prot) (φ:Place),HeadInv .any ops N listed→unl ops.size listed≤fuel→
      SatF R φ st.n (st.next + (ops.toList.take N).length) (ED (ops.toList.take N) st vs (fun j=>listed.getD j false)) (HD (ops.toList.take N) st us cs (fun j=>listed.getD j false)) st.gl a w→
      Evo R0 (Owns φ0 st.lk) w0 R (Owns φ (HD (ops.toList.take N) st us cs (fun j=>listed.getD j false))) w→(∀ j,j < st.next→φ j = φ0 j)→wpAny P .any ops Q fuel listed a w:=by
    have full:∀ (fuel:Nat) (listed:Array Bool) (a:Act) (w:World) (R:Prot) (φ:Place),HeadInv .any ops N listed→unl ops.size listed≤fuel→(∀ j,j < N→listed.getD j true = true)→
        SatF R φ st.n (st.next + (ops.toList.take N).length) (ED (ops.toList.take N) st vs (fun j=>listed.getD j false)) (HD (ops.toList.take N) st us cs (fun j=>listed.getD j false)) st.gl a w→
        Evo R0 (Owns φ0 st.lk) w0 R (Owns φ (HD (ops.toList.take N) st us cs (fun j=>listed.getD j false))) w→(∀ j,j < st.next→φ j = φ0 j)→wpAny P .any ops Q fuel listed a w:=by
      intro fuel listed a w R φ hinv hfuel hall hs hevo hpl
      obtain ⟨hcn,hcf,hcx,hcg⟩:=hrun.consts N (by omega)
      have eE:ED (ops.toList.take N) st vs (fun j=>listed.getD j false) = (sts N).get:=by
        funext t
        rw [hrun.get N (by omega) t]
        unfold ED
        rw [hNl]
        exact fold_congr N (fun j hj=>by rw [← getD_tf (by rw [hinv.size];omega)];exact hall j hj)
      have eH:HD (ops.toList.take N) st us cs (fun j=>listed.getD j false) = (sts N).lk:=by
        funext k
        rw [hrun.lk N (by omega) k]
        unfold HD
        rw [hNl]
        exact fold_congr N (fun j hj=>by rw [← getD_tf (by rw [hinv.size];omega)];exact hall j hj)
      rw [eE,eH] at hs
      rw [eH] at hevo
      have hsN:Sat R φ (sts N) a w:=by
        refine ⟨?_,by have:=hs0.fx;omega⟩
        rw [hcn,hcg,hcx]
        rw [hNl] at hs
        exact hs
      refine tail_any hT hdr0 W hnil hstep hd hQ fuel N listed a w (sts N) R φ (Nat.le_refl _) hNle hinv.size (fun j hj=>⟨fun hl=>?_,fun hl=>hall j hl⟩) ?_ htail hsN ⟨hevo,fun id hid=>hpl id (by have:=hs0.fx;omega),hcf,hcn⟩
      · rcases Nat.lt_or_ge j N with h'|h'
        · exact h'
        · have:=hinv.tail j h' hj;rw [this] at hl;simp at hl
      ·
        have:∀ k,k≤ops.size→N≤k→k - N≤((List.range k).filter fun i=>!listed.getD i true).length:=by
          intro k
          induction k with
          | zero=>intro _ _;omega
          | succ k ihk=>
            intro h1 h2
            rcases Nat.lt_or_ge k N with h'|h'
            · omega
            · have ih1:=ihk (by omega) h'
              have hk:=hinv.tail k h' (by omega)
              rw [List.range_succ,List.filter_append,List.length_append]
              have e1:([k].filter fun i=>!listed.getD i true) = [k]:=by rw [List.filter_cons_of_pos (by rw [hk];rfl)];rfl
              rw [e1]
              simp only [List.length_singleton]
              omega
        have:=this ops.size (Nat.le_refl _) hNle
        unfold unl at hfuel
        omega
    intro fuel
    induction fuel with
    | zero=>
      intro listed a w R φ hinv hfuel hs hevo hpl
      exact full 0 listed a w R φ hinv hfuel (fun j hj=>unl_zero (N:=ops.size) (by omega) j (by omega)) hs hevo hpl
    | succ fuel ih=>
      intro listed a w R φ hinv hfuel hs hevo hpl
      by_cases hall:∀ j,j < N→listed.getD j true = true
      · exact full (fuel + 1) listed a w R φ hinv hfuel hall hs hevo hpl
      · have:∃ j,j < N∧listed.getD j true = false:=by
          refine Classical.byContradiction fun hn=>hall fun j hj=>?_
          cases hl:listed.getD j true with
          | true=>rfl
          | false=>exact absurd ⟨j,hj,hl⟩ hn
        obtain ⟨j0,hj0,hl0⟩:=this
        refine ⟨fun hr=>?_,fun i hi=>?_⟩
        · obtain ⟨i,hi⟩:=ready_ex hedge hinv.size (j0 + 1) j0 (by omega) (by omega) hl0
          rw [hr] at hi;simp at hi
        · have hiN:i < N:=by
            rcases Nat.lt_or_ge i N with h'|h'
            · exact h'
            · exfalso
              rcases hdr with hdr|⟨⟨hn,hsink⟩,hchain⟩
              · have:=Nat.eq_of_beq_eq_true hdr
                obtain ⟨_,o,ho,_⟩:=mem_ready.1 hi
                have:=(Array.getElem?_eq_some_iff.1 ho).1
                omega
              · exact tail_waits hsink hchain (by have:=Nat.le_of_ble_eq_true hn;omega) hinv _ j0 rfl hj0 hl0 i h' hi
          obtain ⟨h1,o,ho,hallr⟩:=mem_ready.1 hi
          have ho':(ops.toList.take N)[i]? = some o:=by rw [hosg i,if_pos hiN];exact ho
          have hi0:listed.getD i false = false:=getD_both h1
          have hdo:dstB o st.n = true:=by
            rw [Array.all_eq_true_iff_forall_mem] at hd
            exact hd o (by obtain ⟨h',rfl⟩:=Array.getElem?_eq_some_iff.1 ho;exact Array.getElem_mem h')
          have hL:(fun j=>if j = i then true else listed.getD j false) = fun j=>(listed.setIfInBounds i true).getD j false:=by
            funext j
            by_cases e:j = i
            · subst e;simp [hinv.size];omega
            · rw [if_neg e,getD_set_ne false (Ne.symm e)]
          unfold wpOp
          simp only [ho]
          refine head_step hrun hord hops hs0.s.hnext (L:=fun j=>listed.getD j false) (fun j oj hj hl=>hinv.closed j oj hj hl) ho' hi0 hallr hs hdo ?_
          intro R' φ' a' w' hs' hevo' hpl'
          rw [hL] at hs' hevo'
          refine ih _ a' w' R' φ' (hinv.set hi hiN) ?_ hs' (hevo.trans hevo') (fun j hj=>by rw [hpl' j hj,hpl j hj])
          have:=unl_set (N:=ops.size) (i:=i) (by omega) hinv.size h1
          omega
  have hE0:ED (ops.toList.take N) st vs (fun j=>(Array.replicate ops.size false).getD j false) = st.get:=by
    funext t
    exact fold_none _ (fun j _ hl=>by rw [getD_replicate_false] at hl;simp at hl)
  have hH0:HD (ops.toList.take N) st us cs (fun j=>(Array.replicate ops.size false).getD j false) = st.lk:=by
    funext k
    exact fold_none _ (fun j _ hl=>by rw [getD_replicate_false] at hl;simp at hl)
  refine main ops.size _ a0 w1 R0 φ0 ⟨by simp,fun j oj hj hl=>by rw [getD_replicate_false] at hl;simp at hl,fun t ht ht'=>by simp [ht']⟩ ?_ ?_ ?_ (fun _ _=>rfl)
  · unfold unl
    have:=List.length_filter_le (fun i=>!(Array.replicate ops.size false).getD i true) (List.range ops.size)
    simpa using this
  · rw [hE0,hH0]
    exact ⟨hs0.s.env,hs0.s.named,hs0.s.hnamed,fun id c hc=>by have:=hs0.s.hnext id c hc;omega,hs0.s.sz,hs0.s.heap,hs0.s.rlt,hs0.s.defers,hs0.s.gl⟩
  · rw [hH0]
    exact he0.evo
theorem SatF.drew {R:Prot} {φ:Place} {n next:Nat} {E:Nat→AV} {H:Heap} {gl:Gl} {a:Act} {w:World} (h:SatF R φ n next E H gl a w) (d:Nat):SatF R φ n next E H gl a { w with drawn:=d }:=
  ⟨fun t=>RepV.mono (w:=w) (w':={ w with drawn:=d }) (fun _ _ h=>h) (fun _ _ _=>rfl) (fun _ _=>rfl) (h.env t),h.named,h.hnamed,h.hnext,h.sz,
    ⟨fun j c hj=>(h.heap.rel j c hj).mono rfl (fun _ _=>rfl) (fun _ _ h=>h) (fun _ _ _=>rfl) (fun _ _ _ _ _ _=>⟨rfl,fun _ h=>h⟩),h.heap.inj⟩,h.rlt,h.defers,
    fun g cs hg=>⟨RepV.mono (w:=w) (w':={ w with drawn:=d }) (fun _ _ h=>h) (fun _ _ _=>rfl) (fun _ _=>rfl) (h.gl g cs hg).1,(h.gl g cs hg).2⟩⟩
theorem Tri.drawW (hm:P.follows .mixedOrders = true) {id:Nat} {ops:Array Oper} {Q:Exit→St→Prop} {st:St} (N:Nat) (hdr:drawB ops N = true) (W0 W:List Oper→St→Prop) (hW:∀ l st,W0 l st→W l st) (hnil:∀ st,W [] st→Q .normal st)
    (hstep:∀ (o:Oper) (r:List Oper) (st:St),W (o :: r) st→dstB o st.n = true→∀ (R:Prot) (φ:Place) (a:Act) (w:World),Sat R φ st a w→∀ (next:Act→World→Prop) (Q:Exit→Act→World→Prop),
      (∀ R' φ' a' w' st',W r st'→Sat R' φ' st' a' w'→Ext st R φ w st' R' φ' w'→next a' w')→
      (if Region.wanted o (yielded ops a.tmps) = true then o.wp P a w next Q∨(o.asks P a w∧LetsOut Q) else next (a.put o.dst undef) w))
    (h:awpHead P T ops (ops.toList.take N) st [] fun st' log=>pairsOK ops log.reverse = true∧W0 (ops.toList.drop N) st'):Tri P (.region id ops true) Q st:=⟨fun hd R φ a w hs=>by
  refine wp_region_any hm ?_
  refine draw_sound hT hdr W0 W hW hnil hstep hd h ⟨hs.s.drew hT _,hs.fx⟩ ⟨Evo.drew R _ w _,fun _ _=>rfl,rfl,rfl⟩ ?_
  intro R' φ' st' a' w' hk hs' he
  exact ⟨by simp,by simp,R',φ',st',hk,hs',he⟩⟩
theorem Tri.draw (hm:P.follows .mixedOrders = true) {id:Nat} {ops:Array Oper} {Q:Exit→St→Prop} {st:St} (N:Nat) (hdr:drawB ops N = true) (h:awpDraw P T ops N st (fun s=>Q .normal s)):Tri P (.region id ops true) Q st:=⟨fun hd R φ a w hs=>by
  refine wp_region_any hm ?_
  refine draw_sound hT hdr (fun l st=>awpSeq P T ops l st (fun s=>Q .normal s)) (fun l st=>awpSeq P T ops l st (fun s=>Q .normal s)) (fun _ _ h=>h) (fun _ h=>h) (fun o r st h hd R φ a w hs next Q hn=>seqOp_sound hT h hd hs hn) hd h ⟨hs.s.drew hT _,hs.fx⟩ ⟨Evo.drew R _ w _,fun _ _=>rfl,rfl,rfl⟩ ?_
  intro R' φ' st' a' w' hk hs' he
  exact ⟨by simp,by simp,R',φ',st',hk,hs',he⟩⟩
end
end Go.Fw
namespace Go.Fw
def St.toOwn (st:St) (t:Nat) (ty:Ty):St:={ n:=st.n,fix:=st.fix,next:=st.next + 1,env:=(t,.own st.next 0) :: st.env,heap:=(st.next,.arr ty []) :: st.heap,gl:=st.gl }
theorem Le.own {st:St} (t:Nat) (ty:Ty) (h:st.get t = .nils):Le st (st.toOwn t ty):=fun R φ a w hs=>by
  have hfresh:st.lk st.next = none:=by
    cases hh:st.lk st.next with
    | none=>rfl
    | some c=>have:=hs.s.hnext _ _ hh;omega
  have hne:∀ j c,st.lk j = some c→j≠st.next:=fun j c hj e=>by subst e;rw [hfresh] at hj;simp at hj
  have hget:∀ u,(st.toOwn t ty).get u = if t = u then .own st.next 0 else st.get u:=fun u=>by
    simp only [St.toOwn,St.get,lookup_cons]
    by_cases e:t = u <;> simp [e]
  have hlk:∀ k,(st.toOwn t ty).lk k = if st.next = k then some (.arr ty []) else st.lk k:=fun k=>by
    simp only [St.toOwn,St.lk,lookup_cons]
  have hφ:∀ j,j≠st.next→setPlace φ st.next none j = φ j:=fun j hj=>by simp [setPlace,hj]
  have hkeep:∀ j,(∃ c,st.lk j = some c)→∃ c,(st.toOwn t ty).lk j = some c:=fun j ⟨c,hc⟩=>by
    rw [hlk,if_neg (fun e=>hne j c hc e.symm)];exact ⟨c,hc⟩
  have hinv:∀ j c,(st.toOwn t ty).lk j = some c→(j = st.next∧c = .arr ty [])∨(j≠st.next∧st.lk j = some c):=fun j c hj=>by
    rw [hlk] at hj
    split at hj
    · rename_i e;simp only [Option.some.injEq] at hj;exact .inl ⟨e.symm,hj.symm⟩
    · rename_i e;exact .inr ⟨fun h=>e h.symm,hj⟩
  refine ⟨R,setPlace φ st.next none,⟨⟨fun u=>?_,fun u j hj=>?_,fun j cs k hj hk=>?_,fun j c hj=>?_,hs.s.sz,⟨fun j c hj=>?_,fun j k c d b b' cap cap' x hj hk hp hp' hx hx'=>?_⟩,hs.s.rlt,hs.s.defers,fun g cs hg=>?_⟩,?_⟩,
    ⟨⟨rfl,rfl,rfl,Nat.le_refl _,fun _ _ _=>rfl,fun _ _ h=>h,fun _ _ _=>rfl,fun _ _ h=>.inl h,fun b ⟨j,c,b0,cap,hj,hp,hx⟩=>?_⟩,fun id hid=>hφ id (by have:=hs.fx;omega),rfl,rfl⟩⟩
  · rw [hget]
    split
    · rename_i e
      have:=hs.s.env t
      rw [h] at this
      simp only [RepV] at this ⊢
      rw [← e]
      exact .inl ⟨by simp [setPlace],by simp,this⟩
    · exact RepV.mono (fun _ _ h=>h) (fun _ _ _=>rfl) (fun j hj=>by obtain ⟨c,hc⟩:=hs.s.named u j hj;exact hφ j (hne j c hc)) (hs.s.env u)
  · rw [hget] at hj
    split at hj
    · simp [AV.has] at hj
      subst hj
      exact ⟨_,by rw [hlk,if_pos rfl]⟩
    · exact hkeep j (hs.s.named u j hj)
  · rcases hinv j _ hj with ⟨_,h⟩|⟨_,hj⟩
    · subst h;simp [Chunk.has] at hk
    · exact hkeep k (hs.s.hnamed j cs k hj hk)
  · show j < st.next + 1
    rcases hinv j _ hj with ⟨e,_⟩|⟨_,hj⟩
    · omega
    · have:=hs.s.hnext j c hj;omega
  · rcases hinv j _ hj with ⟨rfl,rfl⟩|⟨hji,hj⟩
    · exact .inl ⟨by simp [setPlace],rfl⟩
    · exact (hs.s.heap.rel j c hj).mono (hφ j hji) (fun k hk=>by
        obtain ⟨c',hc'⟩:=hs.s.hnamed j c k hj hk
        exact hφ k (hne k c' hc')) (fun _ _ h=>h) (fun _ _ _=>rfl) (fun _ _ _ _ _ _=>⟨rfl,fun _ h=>h⟩)
  · rcases hinv j _ hj with ⟨rfl,_⟩|⟨hji,hj⟩
    · simp [setPlace] at hp
    · rcases hinv k _ hk with ⟨rfl,_⟩|⟨hki,hk⟩
      · simp [setPlace] at hp'
      · rw [hφ j hji] at hp;rw [hφ k hki] at hp'
        exact hs.s.heap.inj j k c d b b' cap cap' x hj hk hp hp' hx hx'
  · have:=hs.s.gl g cs hg
    refine ⟨RepV.mono (fun _ _ h=>h) (fun _ _ _=>rfl) (fun j hj=>?_) this.1,this.2⟩
    simp only [AV.has] at hj
    rw [this.2 j] at hj
    simp at hj
  · have:=hs.fx
    show st.fix≤st.next + 1
    omega
  · rcases hinv j _ hj with ⟨rfl,_⟩|⟨hji,hj⟩
    · simp [setPlace] at hp
    · rw [hφ j hji] at hp
      exact .inr ⟨j,c,b0,cap,hj,hp,hx⟩
def eraseH (id:Nat):List (Nat × Chunk)→List (Nat × Chunk)
  | []=>[]
  | (k,c) :: r=>match Nat.beq k id with
    | true=>eraseH id r
    | false=>(k,c.scrub id) :: eraseH id r
theorem lookup_eraseH (id k:Nat):∀ (h:List (Nat × Chunk)),lookup k (eraseH id h) = if k = id then none else (lookup k h).map (Chunk.scrub id)
  | []=>by simp [eraseH,lookup]
  | (j,c) :: r=>by
    have ih:=lookup_eraseH id k r
    simp only [eraseH]
    split
    · rename_i e
      have e:=Nat.eq_of_beq_eq_true e
      rw [ih,lookup_cons]
      by_cases hk:k = id
      · simp [hk]
      · rw [if_neg hk,if_neg hk,if_neg (fun h=>hk (by rw [← h,e]))]
    · rename_i e
      have e:j≠id:=fun h=>by rw [h,Nat.beq_refl] at e;simp at e
      rw [lookup_cons,lookup_cons,ih]
      by_cases hj:j = k
      · subst hj;simp [e]
      · rw [if_neg hj,if_neg hj]
def St.freeze (st:St) (t id:Nat) (v:AV):St:={ n:=st.n,fix:=st.fix,next:=st.next,env:=(t,v) :: scrubEnv id st.env,heap:=eraseH id st.heap,gl:=st.gl }
theorem Le.freeze {st:St} (t id n:Nat) {ty:Ty} {xs:List ty.D} (ht:st.get t = .own id n) (hid:st.lk id = some (.arr ty xs)) (hn:n≤xs.length):Le st (st.freeze t id (.list ty (xs.take n))):=fun R φ a w hs=>by
  have hrel:=hs.s.heap.rel id _ hid
  have hv:=hs.s.env t
  rw [ht] at hv
  let R':Prot:=fun b o=>R b o∨∃ cap,φ id = some (b,cap)
  have hR:∀ b o,R b o→R' b o:=fun b o h=>.inl h
  have hget:∀ u,(st.freeze t id (.list ty (xs.take n))).get u = if t = u then .list ty (xs.take n) else (st.get u).scrub id:=fun u=>by
    simp only [St.freeze,St.get,lookup_cons,scrubEnv,lookup_map]
    by_cases e:t = u
    · simp [e]
    · rw [if_neg e,if_neg e]
      cases lookup u st.env <;> simp [AV.scrub,AV.may,AV.has]
  have hlk:∀ k,(st.freeze t id (.list ty (xs.take n))).lk k = if k = id then none else (st.lk k).map (Chunk.scrub id):=fun k=>lookup_eraseH id k st.heap
  have hinv:∀ j c,(st.freeze t id (.list ty (xs.take n))).lk j = some c→j≠id∧∃ c',st.lk j = some c'∧c = c'.scrub id:=fun j c hj=>by
    rw [hlk] at hj
    split at hj
    · simp at hj
    · rename_i e
      obtain ⟨c',h1,h2⟩:=Option.map_eq_some_iff.1 hj
      exact ⟨e,c',h1,h2.symm⟩
  have hsome:∀ j,j≠id→(∃ c,st.lk j = some c)→∃ c,(st.freeze t id (.list ty (xs.take n))).lk j = some c:=fun j hj ⟨c,hc⟩=>by
    rw [hlk,if_neg hj,hc];exact ⟨_,rfl⟩
  have hown:∀ b j c cap x,j≠id→st.lk j = some c→φ j = some (b,cap)→c.at b cap x→∀ cap',φ id≠some (x,cap'):=fun b j c cap x hj hc hpj hx cap' h=>
    hj (hs.s.heap.inj j id c _ b x cap cap' x hc hid hpj h hx rfl)
  refine ⟨R',φ,⟨⟨fun u=>?_,fun u j hj=>?_,fun j cs k hj hk=>?_,fun j c hj=>?_,hs.s.sz,⟨fun j c hj=>?_,fun j k c d b b' cap cap' x hj hk hp hp' hx hx'=>?_⟩,fun b o h=>?_,hs.s.defers,fun g cs hg=>?_⟩,hs.fx⟩,
    ⟨⟨rfl,rfl,rfl,Nat.le_refl _,fun _ _ _=>rfl,hR,fun _ _ _=>rfl,fun b o h=>?_,fun b ⟨j,c,b0,cap,hj,hp,hx⟩=>?_⟩,fun _ _=>rfl,rfl,rfl⟩⟩
  · rw [hget]
    split
    · rename_i e
      rw [← e]
      simp only [RepV] at hv
      simp only [RepV,Rep]
      have hlen:(xs.take n).length = n:=by simp;omega
      rcases hv with ⟨hφ,rfl,hv⟩|⟨b,cap,hφ,hcap,hv⟩
      · exact ⟨none,0,by rw [hv];simp,by simp,.inl ⟨by simp,rfl⟩⟩
      · refine ⟨some ⟨b,0,none⟩,cap,by rw [hv,hlen],by omega,.inr ⟨b,0,rfl,fun i hi=>?_⟩⟩
        rcases hrel with ⟨h1,h2⟩|⟨b',cap',vs,e',fr,hφ',hh,hvs,hxc,hel,_,_⟩
        · rw [hφ] at h1;simp at h1
        · rw [hφ] at hφ'
          simp only [Option.some.injEq,Prod.mk.injEq] at hφ'
          obtain ⟨rfl,rfl⟩:=hφ'
          have hi':i < xs.length:=by rw [hlen] at hi;omega
          have hr:=hel i hi'
          refine ⟨_,hr.length,fun k v hk=>⟨.inr ⟨cap,hφ⟩,?_⟩,by rw [List.getElem_take];exact Rep.mono hR (fun _ _ _=>rfl) hr⟩
          rw [List.getElem?_take] at hk
          split at hk
          · rw [List.getElem?_drop] at hk
            simp only [World.cell?,hh,Nat.zero_add]
            simpa using hk
          · simp at hk
    · exact scrub_rep (hs.s.env u) (fun _ _=>rfl) hR (fun _ _ _=>rfl)
  · rw [hget] at hj
    split at hj
    · simp [AV.has] at hj
    · exact hsome j (scrub_ne hj) (hs.s.named u j (scrub_sub hj))
  · obtain ⟨hne,c',h1,h2⟩:=hinv j _ hj
    subst h2
    exact hsome k (Chunk.scrub_has hk).1 (hs.s.hnamed j c' k h1 (Chunk.scrub_has hk).2)
  · obtain ⟨_,c',h1,_⟩:=hinv j _ hj
    exact hs.s.hnext j c' h1
  · obtain ⟨hne,c',h1,rfl⟩:=hinv j _ hj
    exact Chunk.scrub_rel (hs.s.heap.rel j c' h1) rfl (fun _ _=>rfl) hR (fun _ _ _=>rfl) (fun b cap x hpj hx _=>⟨rfl,fun o h=>by
      rcases h with h|⟨c9,h⟩
      · exact h
      · exact absurd h (hown b j _ cap x hne h1 hpj hx c9)⟩)
  · obtain ⟨_,c',h1,rfl⟩:=hinv j _ hj
    obtain ⟨_,d',h2,rfl⟩:=hinv k _ hk
    exact hs.s.heap.inj j k c' d' b b' cap cap' x h1 h2 hp hp' (Chunk.at_scrub hx) (Chunk.at_scrub hx')
  · rcases h with h|⟨cap,h⟩
    · exact hs.s.rlt b o h
    · exact (hrel.block h).1
  · have:=hs.s.gl g cs hg
    refine ⟨RepV.mono hR (fun _ _ _=>rfl) (fun j hj=>?_) this.1,this.2⟩
    simp only [AV.has] at hj
    rw [this.2 j] at hj
  · rcases h with h|⟨cap,h⟩
    · exact .inl h
    · exact .inr (.inr (Owns.main hid h))
  · obtain ⟨_,c',h1,rfl⟩:=hinv j _ hj
    exact .inr ⟨j,c',b0,cap,h1,hp,Chunk.at_scrub hx⟩
end Go.Fw
