import Derived.Test.YtfaplilocljknaaGFw12
import Derived.MapKept
set_option linter.all false
namespace Go.Fw
variable {P:Program}
def GSpec (P:Program) (gl:Gl) (f:FuncId) (args:List AV) (h:List (Nat × Chunk)) {γ:Type} (ok:γ→Prop) (ret:γ→AV) (h':γ→List (Nat × Chunk)):Prop:=
  Entered P f∧∀ φ R w (vs:List Value),HRel φ R w (fun k=>lookup k h)→RB R w→GlOK gl φ R w→RepVs φ R w args vs→Calls P f vs.toArray w fun e w'=>
    ∃ g,ok g∧∃ v φ' R',e = .returned v∧RepV φ' R' w' (ret g) v∧HRel φ' R' w' (fun k=>lookup k (h' g))∧RB R' w'∧Evo R (Owns φ (fun k=>lookup k h)) w R' (Owns φ' (fun k=>lookup k (h' g))) w'∧
      ∀ id c,lookup id h = some c→c.fixed = true→φ' id = φ id∧∃ c',lookup id (h' g) = some c'∧c'.fixed = true
theorem GSpec.mono {γ δ:Type} {ok:γ→Prop} {ok2:δ→Prop} {gl:Gl} {f:FuncId} {args:List AV} {h:List (Nat × Chunk)} {h':γ→List (Nat × Chunk)} {ret:γ→AV} (k:GSpec P gl f args h ok ret h')
    {ret2:δ→AV} {h2:δ→List (Nat × Chunk)} (m:∀ g,ok g→∃ d,ok2 d∧ret2 d = ret g∧h2 d = h' g):GSpec P gl f args h ok2 ret2 h2:=by
  refine ⟨k.1,fun φ R w vs hh hR hgl hargs=>(k.2 φ R w vs hh hR hgl hargs).mono ?_⟩
  rintro e w' ⟨g,hg,v,φ',R',q⟩
  obtain ⟨d,h1,h2,h3⟩:=m g hg
  exact ⟨d,h1,v,φ',R',by rw [h2,h3];exact q⟩
theorem GSpec.ren {γ:Type} {ok:γ→Prop} {gl:Gl} {f:FuncId} {args:List AV} {h:List (Nat × Chunk)} {h':γ→List (Nat × Chunk)} {ret:γ→AV} (k:GSpec P gl f args h ok ret h') (ρ:Nat→Nat) (hρ:∀ i j,ρ i = ρ j→i = j) :
    GSpec P gl f (AV.renL ρ args) (renH ρ h) ok (fun g=>(ret g).ren ρ) (fun g=>renH ρ (h' g)):=by
  refine ⟨k.1,fun φ R w vs hh hR hgl hargs=>?_⟩
  have h0:HRel (fun k=>φ (ρ k)) R w (fun k=>lookup k h):=
    ⟨fun j c hj=>ChunkRel.ren.1 (hh.rel (ρ j) _ (by simp only [lookup_renH hρ,hj];rfl)),
      fun i j c d b b' cap cap' x hi hj hp hp' hx hx'=>hρ _ _ (hh.inj (ρ i) (ρ j) (c.ren ρ) (d.ren ρ) b b' cap cap' x (by simp only [lookup_renH hρ,hi];rfl) (by simp only [lookup_renH hρ,hj];rfl) hp hp' (Chunk.at_ren.2 hx) (Chunk.at_ren.2 hx'))⟩
  have hgl0:GlOK gl (fun k=>φ (ρ k)) R w:=fun g cs hg=>by
    refine ⟨RepV.mono (fun _ _ h=>h) (fun _ _ _=>rfl) (fun j hj=>?_) (hgl g cs hg).1,(hgl g cs hg).2⟩
    simp only [AV.has] at hj
    rw [(hgl g cs hg).2 j] at hj
    simp at hj
  refine (k.2 _ R w vs h0 hR hgl0 (RepVs.ren.1 hargs)).mono ?_
  rintro e w' ⟨g,hg,v,φ',R',rfl,hv,hh',hR',hevo,hkeep⟩
  let φ2:Place:=fun j=>open Classical in if hj:∃ k,ρ k = j then φ' hj.choose else φ j
  have hφ2:∀ k,φ2 (ρ k) = φ' k:=fun k=>by
    have hj:∃ k',ρ k' = ρ k:=⟨k,rfl⟩
    simp only [φ2,dif_pos hj]
    rw [hρ _ _ hj.choose_spec]
  have e2:(fun k=>φ2 (ρ k)) = φ':=funext hφ2
  refine ⟨g,hg,v,φ2,R',rfl,RepV.ren.2 (by rw [e2];exact hv),⟨fun j c hj=>?_,fun i j c d b b' cap cap' x hi hj hp hp' hx hx'=>?_⟩,hR',
    ⟨hevo.os,hevo.tape,hevo.output,hevo.size,fun b hb ho=>hevo.keep b hb (fun hx=>ho ((owns_ren hρ).2 hx)),hevo.rmono,hevo.rkeep,fun b o hb=>?_,fun b hb=>?_⟩,fun j cs hj hcf=>?_⟩
  · obtain ⟨i,d,rfl,hi,rfl⟩:=renH_get hρ hj
    exact ChunkRel.ren.2 (by rw [e2];exact hh'.rel i d hi)
  · obtain ⟨i',c',rfl,hi',rfl⟩:=renH_get hρ hi
    obtain ⟨j',d',rfl,hj',rfl⟩:=renH_get hρ hj
    rw [hφ2] at hp hp'
    rw [hh'.inj i' j' c' d' b b' cap cap' x hi' hj' hp hp' (Chunk.at_ren.1 hx) (Chunk.at_ren.1 hx')]
  · rcases hevo.rnew b o hb with h|h|h
    · exact .inl h
    · exact .inr (.inl h)
    · exact .inr (.inr ((owns_ren hρ).2 h))
  · have hb2:=(owns_ren hρ).1 hb
    rw [e2] at hb2
    rcases hevo.onew b hb2 with h|h
    · exact .inl h
    · exact .inr ((owns_ren hρ).2 h)
  · obtain ⟨i,d,rfl,hi,hd⟩:=renH_get hρ hj
    subst hd
    have hfd:∀ c:Chunk,(c.ren ρ).fixed = c.fixed:=fun c=>by cases c <;> rfl
    obtain ⟨h1,c',h2,h3⟩:=hkeep i d hi (by rw [← hfd];exact hcf)
    exact ⟨by rw [hφ2,h1],c'.ren ρ,by simp only [lookup_renH hρ,h2];rfl,by rw [hfd];exact h3⟩
theorem GSpec.at {γ:Type} {ok:γ→Prop} {gl:Gl} {f:FuncId} {args args':List AV} {h g:List (Nat × Chunk)} {h' g':γ→List (Nat × Chunk)} {ret ret':γ→AV} (k:GSpec P gl f args h ok ret h') (is:List Nat) (hn:is.Nodup)
    (e1:args' = AV.renL (renOf is) args) (e2:g = renH (renOf is) h) (e3:∀ i,ret' i = (ret i).ren (renOf is)) (e4:∀ i,g' i = renH (renOf is) (h' i)):GSpec P gl f args' g ok ret' g':=by
  subst e1;subst e2
  obtain rfl:ret' = _:=funext e3
  obtain rfl:g' = _:=funext e4
  exact k.ren _ (renOf_inj hn)
section
variable {T:Tab} (hT:tabOK P T = true)
include hT
theorem gspec_intro {γ:Type} {ok:γ→Prop} {gl:Gl} {f:FuncId} {fn:Func} {c:Code} {args:List AV} {ret:γ→AV} (h:List (Nat × Chunk)) (h':γ→List (Nat × Chunk)) (fix next:Nat)
    (hf : P.funcs[f]? = some fn) (hname : (fn.name == "runtime.NumGoroutine") = false) (hb : fn.body = some c) (hlen : Nat.ble args.length fn.ntmps = true) (hd : codeDst fn.ntmps c = true)
    (hcl:(St.init fn args h fix next gl).closed = true) (hbox:∀ g,ok g→boxesOK fix (h' g) h = true)
    (htri:Tri P c (fun e st=>∃ g,ok g∧Ends T fn (ret g) (h' g) e st) (St.init fn args h fix next gl)):GSpec P gl f args h ok ret h':=by
  refine ⟨⟨fn,hf,hname,by simp [hb]⟩,fun φ R w vs hh hR hgl hargs=>?_⟩
  have hal:=hargs.length
  have hlen:=Nat.le_of_ble_eq_true hlen
  refine calls_of_wp hf hb ?_
  unfold St.closed at hcl
  simp only [Bool.and_eq_true] at hcl
  have hsat:Sat R φ (St.init fn args h fix next gl) { tmps:=vs.toArray ++ Array.replicate (fn.ntmps - vs.toArray.size) undef,defers:=[] } w:=by
    refine ⟨⟨fun t=>?_,fun t j hj=>?_,fun j cs k hj hk=>(heapClosed_mem hcl.1.2 hj).2 k hk,fun j c hj=>(heapClosed_mem hcl.1.2 hj).1,?_,hh,hR,rfl,hgl⟩,Nat.le_of_ble_eq_true hcl.2⟩
    · have:=argEnv_get args 0 vs [] (List.replicate (fn.ntmps - vs.length) undef) hargs rfl t
      have e:(vs.toArray ++ Array.replicate (fn.ntmps - vs.toArray.size) undef).getD t undef = (([]:List Value) ++ vs ++ List.replicate (fn.ntmps - vs.length) undef).getD t undef:=by
        rw [Array.getD_eq_getD_getElem?,List.getD_eq_getElem?_getD,← Array.getElem?_toList]
        simp
      rw [e]
      exact this
    · cases hl:lookup t (St.init fn args h fix next gl).env with
      | none=>
        have:(St.init fn args h fix next gl).get t = .any:=by simp [St.get,hl]
        rw [this] at hj;simp [AV.has] at hj
      | some v=>
        have:(St.init fn args h fix next gl).get t = v:=by simp [St.get,hl]
        rw [this] at hj
        exact envClosed_mem hcl.1.1 hl hj
    · simp [St.init];omega
  refine wp_mono (htri.of hd R φ _ w hsat) ?_
  rintro e a' w' ⟨p1,p2,R',φ',st',q,hs',he⟩
  obtain ⟨g,hg,q⟩:=q
  have fin:resV T st' fn.results.toList [] (fun vs=>packV vs = ret g∧heapLe (h' g) st')→a'.defers = []∧∃ v,(results fn a'.tmps).run P w' = .ok v w'∧
      ∃ g,ok g∧∃ v' φ' R',Ending.returned v = .returned v'∧RepV φ' R' w' (ret g) v'∧HRel φ' R' w' (fun k=>lookup k (h' g))∧RB R' w'∧Evo R (Owns φ (fun k=>lookup k h)) w R' (Owns φ' (fun k=>lookup k (h' g))) w'∧
        ∀ id c,lookup id h = some c→c.fixed = true→φ' id = φ id∧∃ c',lookup id (h' g) = some c'∧c'.fixed = true:=by
    intro hres
    obtain ⟨xs,v,⟨hk,hle⟩,hv,hrun⟩:=results_sound hT hs' fn _ hres
    refine ⟨hs'.s.defers,v,hrun,g,hg,v,φ',R',rfl,hk ▸ hv,?_,hs'.s.rlt,?_,fun id cs hid hcf=>?_⟩
    · exact ⟨fun j c hj=>hs'.s.heap.rel j c (heapLe_get hle hj),fun j k c d b b' cap cap' x hj hk=>hs'.s.heap.inj j k c d b b' cap cap' x (heapLe_get hle hj) (heapLe_get hle hk)⟩
    · refine ⟨he.evo.os,he.evo.tape,he.evo.output,he.evo.size,he.evo.keep,he.evo.rmono,he.evo.rkeep,he.evo.rnew,fun b hb=>?_⟩
      obtain ⟨j,c,b0,cap,hj,hp,hx⟩:=hb
      exact he.evo.onew b ⟨j,c,b0,cap,heapLe_get hle hj,hp,hx⟩
    · obtain ⟨h1,h2⟩:=boxesOK_get (hbox g hg) hid hcf
      exact ⟨he.place id h1,h2⟩
  cases e with
  | normal=>exact fin q
  | ret=>exact fin q
  | exit id=>exact q.elim
  | goto l=>exact q.elim
  | panic ch=>exact absurd rfl (p1 ch)
  | outgrown=>exact absurd rfl p2
end
theorem OpTri.callG {γ:Type} {ok:γ→Prop} {ops:Array Oper} {o:Oper} {n fix next:Nat} {env:List (Nat × AV)} {heap:List (Nat × Chunk)} {gl:Gl} {K:St→Prop} {f:Operand} {args:Array Operand} {ats:Array TypeId} {g:FuncId} {caps:List AV}
    {h:List (Nat × Chunk)} {h':γ→List (Nat × Chunk)} {ret:γ→AV} (next':Nat) (ho:o.op = .call ⟨.value f,args,ats⟩) (hg:o.guard = none) (hf:(St.ev ⟨n,fix,next,env,heap,gl⟩ f).un = .fn g caps)
    (hs:GSpec P gl g (args.toList.map (fun x=>(St.ev ⟨n,fix,next,env,heap,gl⟩ x).un) ++ caps) h ok ret h') (hok:needsAll ((Op.call ⟨.value f,args,ats⟩).operands.toList.map (St.ev ⟨n,fix,next,env,heap,gl⟩)) True)
    (hle:heapLe h ⟨n,fix,next,env,heap,gl⟩) (hchk:∀ i,ok i→callChk fix next next' h (h' i) (ret i) = true) (hK:∀ i,ok i→calledN n fix env heap gl o.dst (ret i) h (h' i) next' K):OpTri P ops o ⟨n,fix,next,env,heap,gl⟩ K:=by
  intro hd R φ a w hsat next0 Q hnext
  generalize hst:(⟨n,fix,next,env,heap,gl⟩:St) = st at *
  have hw:Region.wanted o (yielded ops a.tmps) = true:=by simp [Region.wanted,hg]
  rw [if_pos hw]
  left
  have hK:∀ i,ok i→K (st.called o.dst (ret i) h (h' i) next'):=fun i hi=>by have:=hK i hi;rw [calledN_eq n fix next env heap gl,hst] at this;exact this
  obtain ⟨hok,_⟩:=needsAll_iff hok
  have hok:∀ x∈(Op.call ⟨.value f,args,ats⟩).operands,okP (st.ev x):=fun x hx=>hok _ (List.mem_map.2 ⟨x,by simpa using hx,rfl⟩)
  obtain ⟨⟨fn,hfn,hname,hbody⟩,hspec⟩:=hs
  have hgl:st.gl = gl:=by rw [← hst]
  have hfx:st.fix = fix:=by rw [← hst]
  have hnx:st.next = next:=by rw [← hst]
  have hfr:=(hsat.s.ev f).un (hok f (by simp [Op.operands,Call.operands]))
  have hf':(evF st.get st.gl f).un = .fn g caps:=hf
  rw [hf'] at hfr
  simp only [RepV] at hfr
  obtain ⟨cv,hfv,hcaps⟩:=hfr
  have hargs:RepVs φ R w ((args.toList.map fun x=>(st.ev x).un) ++ caps) ((args.map a.eval).toList ++ cv.toList):=by
    refine RepVs.append ?_ hcaps
    rw [Array.toList_map]
    exact repVs_map _ _ _ (fun x hx=>(hsat.s.ev x).un (hok x (by simp [Op.operands,Call.operands];exact .inr (by simpa using hx))))
  have hlk:∀ j c,lookup j h = some c→st.lk j = some c:=fun j c hj=>heapLe_get hle hj
  have hcall:=hspec φ R w _ ⟨fun k c hk=>hsat.s.heap.rel k c (hlk k c hk),fun k k' c c' b b' cap cap' x hk hk'=>hsat.s.heap.inj k k' c c' b b' cap cap' x (hlk k c hk) (hlk k' c' hk')⟩ hsat.s.rlt (by rw [← hgl];exact hsat.s.gl) hargs
  have hrun:(execOp a.eval o).run P w = .ok (.enter g ((args.map a.eval).toList ++ cv.toList).toArray) w:=by
    simp only [execOp,ho,resolve,hfv,Deferred.ofValue,invoke,callFunc,Sem.run_bind,Sem.run_pure,Result.andThen_ok,run_program,hfn,hname,hbody,Bool.false_eq_true,if_false]
    congr 2
    apply Array.ext'
    simp
  unfold Oper.wp
  rw [hrun,Oper.upon_enter]
  refine hcall.mono ?_
  rintro e w' ⟨i,hi,v,φ1,R1,rfl,hv,hh',hrb,hevo,hkeep⟩
  obtain ⟨φ2,h1,h2⟩:=called_sat hsat hle (by rw [hfx,hnx];exact hchk i hi) hv hh' hrb hevo hkeep (dst:=o.dst) (fun d hd'=>by simp only [dstB,hd',decide_eq_true_eq] at hd;exact hd)
  exact hnext R1 φ2 _ _ _ (hK i hi) h1 h2
theorem OpTri.gcall {γ:Type} {ok:γ→Prop} {ops:Array Oper} {o:Oper} {n fix next:Nat} {env:List (Nat × AV)} {heap:List (Nat × Chunk)} {gl:Gl} {K:St→Prop} {f:Operand} {args:Array Operand} {ats:Array TypeId} {g:FuncId} {caps:List AV}
    {h:List (Nat × Chunk)} {h':γ→List (Nat × Chunk)} {ret:γ→AV} (add:Nat) (ho:o.op = .call ⟨.value f,args,ats⟩) (hg:o.guard = none) (hf:(St.ev ⟨n,fix,next,env,heap,gl⟩ f).un = .fn g caps)
    (hs:GSpec P gl g (args.toList.map (fun x=>(St.ev ⟨n,fix,next,env,heap,gl⟩ x).un) ++ caps) h ok ret h') (hok:needsAll ((Op.call ⟨.value f,args,ats⟩).operands.toList.map (St.ev ⟨n,fix,next,env,heap,gl⟩)) True)
    (hle:heapLe h ⟨n,fix,next,env,heap,gl⟩) (hchk:∀ i,ok i→callChk fix next (next + add) h (h' i) (ret i) = true) (hK:∀ i,ok i→calledN n fix env heap gl o.dst (ret i) h (h' i) (next + add) K):OpTri P ops o ⟨n,fix,next,env,heap,gl⟩ K:=
  OpTri.callG (next + add) ho hg hf hs hok hle hchk hK
end Go.Fw
namespace Go.Fw
variable {P:Program}
def plainC:List AV→Bool
  | []=>true
  | .bool _ :: r | .int _ _ :: r | .str _ :: r=>plainC r
  | _=>false
def pv:AV→Value
  | .bool b=>.bool b
  | .int k n=>.int k n
  | .str s=>.string (bs s)
  | _=>undef
theorem plain_rep {φ:Place} {R:Prot} {w:World}:∀ {cs:List AV} {us:List Value},plainC cs = true→(RepVs φ R w cs us ↔ us = cs.map pv)
  | [],us,_=>by simp [RepVs]
  | .bool b :: r,us,h=>by
    have ih:=fun vs=>plain_rep (φ:=φ) (R:=R) (w:=w) (cs:=r) (us:=vs) (by simpa [plainC] using h)
    simp only [RepVs,RepV,List.map_cons,pv]
    constructor
    · rintro ⟨u,vs,rfl,rfl,h2⟩;rw [(ih vs).1 h2]
    · rintro rfl;exact ⟨_,_,rfl,rfl,(ih _).2 rfl⟩
  | .int k n :: r,us,h=>by
    have ih:=fun vs=>plain_rep (φ:=φ) (R:=R) (w:=w) (cs:=r) (us:=vs) (by simpa [plainC] using h)
    simp only [RepVs,RepV,List.map_cons,pv]
    constructor
    · rintro ⟨u,vs,rfl,rfl,h2⟩;rw [(ih vs).1 h2]
    · rintro rfl;exact ⟨_,_,rfl,rfl,(ih _).2 rfl⟩
  | .str s :: r,us,h=>by
    have ih:=fun vs=>plain_rep (φ:=φ) (R:=R) (w:=w) (cs:=r) (us:=vs) (by simpa [plainC] using h)
    simp only [RepVs,RepV,List.map_cons,pv]
    constructor
    · rintro ⟨u,vs,rfl,rfl,h2⟩;rw [(ih vs).1 h2]
    · rintro rfl;exact ⟨_,_,rfl,rfl,(ih _).2 rfl⟩
theorem plain_has {cs:List AV} (h:plainC cs = true) (j:Nat):AV.hasAny j cs = false:=by
  induction cs with
  | nil=>rfl
  | cons a r ih=>cases a <;> simp_all [plainC,AV.hasAny,AV.has]
structure FK (κ δ:Type) where
  ka:Bool
  kc:κ→List AV
  kp:∀ k,plainC (kc k) = true
  kn:ka = false→∀ k,∃ x,kc k = [x]
  av:δ→Nat→AV
  ch:δ→Chunk
  avs:∀ d e j,(av d e).has j = true→j = e
  avo:∀ d e,okP (av d e)∧(av d e).un = av d e
  chs:∀ d j,(ch d).has j = false
  sing:∀ d,(ch d).single
def FK.ku {κ δ:Type} [DecidableEq κ] (F:FK κ δ) (k:κ):Value:=if F.ka then .agg ((F.kc k).map pv).toArray else ((F.kc k).map pv).headD undef
def FK.kav {κ δ:Type} [DecidableEq κ] (F:FK κ δ) (k:κ):AV:=match F.ka with|true=>.agg (F.kc k)|false=>(F.kc k).headD .any
theorem FK.kav_rep {κ δ:Type} [DecidableEq κ] (F:FK κ δ) {k:κ} {φ:Place} {R:Prot} {w:World} {u:Value}:RepV φ R w (F.kav k) u ↔ u = F.ku k:=by
  unfold FK.kav FK.ku
  cases ha:F.ka with
  | true=>
    simp only [RepV,if_true]
    constructor
    · rintro ⟨vs,rfl,h⟩
      have:=(plain_rep (F.kp k)).1 h
      rw [← this]
    · rintro rfl
      exact ⟨_,rfl,(plain_rep (F.kp k)).2 rfl⟩
  | false=>
    obtain ⟨x,hx⟩:=F.kn ha k
    have hp:=F.kp k
    rw [hx] at hp ⊢
    simp only [List.headD_cons,List.map_cons,List.map_nil,Bool.false_eq_true,if_false]
    have:=plain_rep (φ:=φ) (R:=R) (w:=w) (us:=[u]) hp
    simp only [RepVs,List.map_cons,List.map_nil,List.cons.injEq,and_true] at this
    rw [← this]
    constructor
    · intro h;exact ⟨u,[],⟨rfl,rfl⟩,h,rfl⟩
    · rintro ⟨u',_,⟨rfl,_⟩,h,_⟩;exact h
theorem FK.kav_has {κ δ:Type} [DecidableEq κ] (F:FK κ δ) (k:κ) (j:Nat):(F.kav k).has j = false:=by
  unfold FK.kav
  cases ha:F.ka with
  | true=>simp only [AV.has];exact plain_has (F.kp k) j
  | false=>
    obtain ⟨x,hx⟩:=F.kn ha k
    have:=plain_has (F.kp k) j
    rw [hx] at this ⊢
    simpa [AV.hasAny] using this
def keyFs (f:TypeId→Bool) (T:Tab) (n:Nat):List (Nat × TypeId)→Bool
  | []=>true
  | (off,ft) :: r=>(match tget T ft with | some fe=>Nat.ble (off + fe.size) n | none=>false) && f ft && keyFs f T n r
def keyT (T:Tab):Nat→TypeId→Bool
  | 0,_=>false
  | d + 1,t=>match tget T t with
    | some e=>match e.k with
      | .int _ | .bool | .str=>true
      | .struct fs=>keyFs (keyT T d) T e.size fs
      | _=>false
    | none=>false
section
variable {T:Tab} (hT:tabOK P T = true)
include hT
theorem checkKey_sound {w:World} (emp:Bool):∀ (d:Nat) (t:TypeId) (e:TE) (us:List Value),keyT T d t = true→tget T t = some e→us.length = e.size→∀ d',d≤d'→(Instr.checkKey emp d' t (valOf e us)).run P w = .ok () w:=by
  intro d
  induction d with
  | zero=>intro t e us h;simp [keyT] at h
  | succ d ih=>
    intro t e us h he hl d' hd'
    obtain ⟨d',rfl⟩:∃ m,d' = m + 1:=⟨d' - 1,by omega⟩
    unfold keyT at h
    simp only [he] at h
    have base:∀ {dd:TypeDesc},P.underlying t = some dd→(match dd with|.interface _|.array _ _|.struct _=>False|_=>True)→(Instr.checkKey emp (d' + 1) t (valOf e us)).run P w = .ok () w:=by
      intro dd hdd hnot
      unfold Instr.checkKey
      rw [Sem.run_bind,run_underlying hdd]
      simp only [Result.andThen_ok]
      cases dd <;> simp_all
    split at h
    · rename_i k hk;exact base (tk_int hT he hk) trivial
    · rename_i hk;exact base (tk_bool hT he hk) trivial
    · rename_i hk;exact base (tk_str hT he hk) trivial
    · rename_i fs hk
      obtain ⟨fields,hd,hfs,hn⟩:=tk_struct hT he hk
      have ha:e.agg = true:=tab_agg hT he hd
      simp only [valOf,ha,if_true]
      unfold Instr.checkKey
      rw [Sem.run_bind,run_underlying hd]
      simp only [Result.andThen_ok]
      rw [← Array.forIn_toList]
      subst hfs
      clear hd hk
      generalize fields.toList = fl at h hn
      clear fields
      induction fl with
      | nil=>simp
      | cons f fl ihf=>
        simp only [List.map_cons,keyFs,Bool.and_eq_true] at h
        obtain ⟨⟨h1,h2⟩,h3⟩:=h
        cases hfe:tget T f.type with
        | none=>rw [hfe] at h1;cases h1
        | some fe=>
          rw [hfe] at h1
          have h1:=Nat.le_of_ble_eq_true h1
          have hnf:=hn f (List.mem_cons_self ..)
          have ih1:=ih f.type fe ((us.drop f.offset).take fe.size) h2 hfe (by simp;omega) d' (by omega)
          rw [List.forIn_cons]
          simp only [if_pos hnf,Sem.run_bind]
          rw [part_run hT hfe (by omega)]
          simp only [Result.andThen_ok]
          rw [ih1]
          simp only [Result.andThen_ok,Sem.run_pure]
          have:=ihf h3 (fun f hf=>hn f (List.mem_cons_of_mem _ hf))
          rw [Sem.run_bind] at this
          exact this
    · cases h
omit hT in
theorem sameBits_plain:∀ (cs:List AV),plainC cs = true→∀ n,(cs.map pv).all (fun v=>Instr.sameBits n v v) = true
  | [],_,_=>rfl
  | .bool b :: r,h,n=>by
    simp only [List.map_cons,List.all_cons,pv,Bool.and_eq_true]
    exact ⟨by cases n <;> simp [Instr.sameBits],sameBits_plain r (by simpa [plainC] using h) n⟩
  | .int k m :: r,h,n=>by
    simp only [List.map_cons,List.all_cons,pv,Bool.and_eq_true]
    exact ⟨by cases n <;> simp [Instr.sameBits],sameBits_plain r (by simpa [plainC] using h) n⟩
  | .str s :: r,h,n=>by
    simp only [List.map_cons,List.all_cons,pv,Bool.and_eq_true]
    refine ⟨?_,sameBits_plain r (by simpa [plainC] using h) n⟩
    have:(bs s == bs s) = true:=(Go.MapKept.bytes_beq _ _).2 rfl
    cases n <;> simpa [Instr.sameBits] using this
theorem FK.ku_bits {κ δ:Type} [DecidableEq κ] (F:FK κ δ) (k:κ):Instr.sameBits 10000 (F.ku k) (F.ku k) = true:=by
  have h:=sameBits_plain (F.kc k) (F.kp k)
  unfold FK.ku
  cases ha:F.ka with
  | true=>
    simp only [if_true]
    show Instr.sameBits (9999 + 1) _ _ = true
    simp only [Instr.sameBits,beq_self_eq_true,Bool.true_and]
    have h9:=h 9999
    rw [List.all_eq_true] at h9 ⊢
    intro x hx
    obtain ⟨a,b⟩:=x
    have hab:∀ {l:List Value} {a b:Value},(a,b)∈l.zip l→a = b∧a∈l:=by
      intro l
      induction l with
      | nil=>intro a b h;simp at h
      | cons y l ih=>
        intro a b h
        simp only [List.zip_cons_cons,List.mem_cons,Prod.mk.injEq] at h
        rcases h with ⟨rfl,rfl⟩|h
        · exact ⟨rfl,List.mem_cons_self ..⟩
        · exact ⟨(ih h).1,List.mem_cons_of_mem _ (ih h).2⟩
    obtain ⟨rfl,hm⟩:=hab hx
    exact h9 a hm
  | false=>
    obtain ⟨x,hx⟩:=F.kn ha k
    have:=h 10000
    rw [hx] at this ⊢
    simpa using this
structure KeyLaw (P:Program) (T:Tab) (kt:TypeId) {κ δ:Type} [DecidableEq κ] (F:FK κ δ) (ke:TE):Prop where
  te:tget T kt = some ke
  agg:ke.agg = F.ka
  len:∀ k,(F.kc k).length = ke.size
  eq:∀ a b,eqT T 50 kt (F.kc a) (F.kc b) = some (decide (a = b))
  chk:keyT T 50 kt = true
theorem KeyLaw.val {kt:TypeId} {κ δ:Type} [DecidableEq κ] {F:FK κ δ} {ke:TE} (L:KeyLaw P T kt F ke) (k:κ):F.ku k = valOf ke ((F.kc k).map pv):=by
  unfold FK.ku valOf
  rw [L.agg]
theorem KeyLaw.check {kt:TypeId} {κ δ:Type} [DecidableEq κ] {F:FK κ δ} {ke:TE} (L:KeyLaw P T kt F ke) (k:κ) (emp:Bool) (w:World):(Instr.checkKey emp 10000 kt (F.ku k)).run P w = .ok () w:=by
  rw [KeyLaw.val hT L]
  exact checkKey_sound hT emp 50 kt ke _ L.chk L.te (by rw [List.length_map];exact L.len k) 10000 (by omega)
theorem KeyLaw.equal {kt:TypeId} {κ δ:Type} [DecidableEq κ] {F:FK κ δ} {ke:TE} (L:KeyLaw P T kt F ke) (a b:κ) (w:World):(Op.equal kt (F.ku a) (F.ku b)).run P w = .ok (decide (a = b)) w:=by
  rw [KeyLaw.val hT L,KeyLaw.val hT L]
  exact eqT_sound hT (φ:=fun _=>none) (R:=fun _ _=>False) 50 kt ke (F.kc a) (F.kc b) _ _ _ (L.eq a b) L.te ((plain_rep (F.kp a)).2 rfl) ((plain_rep (F.kp b)).2 rfl) (by rw [List.length_map];exact L.len a) (by rw [List.length_map];exact L.len b) _ (by decide)
theorem KeyLaw.now {kt:TypeId} {κ δ:Type} [DecidableEq κ] {F:FK κ δ} {ke:TE} (L:KeyLaw P T kt F ke) {dd:TypeDesc} (hd:P.underlying kt = some dd) (a b:κ):Instr.sameNow dd (F.ku a) (F.ku b) = none∨Instr.sameNow dd (F.ku a) (F.ku b) = some (decide (a = b)):=by
  have h:=KeyLaw.equal hT L a b
  cases hs:Instr.sameNow dd (F.ku a) (F.ku b) with
  | none=>exact .inl rfl
  | some r=>
    refine .inr ?_
    have hw:=L.equal hT a b default
    have:r = decide (a = b):=by
      cases dd <;> cases hua:F.ku a <;> cases hub:F.ku b <;> rw [hua,hub] at hs hw <;> simp only [Instr.sameNow] at hs <;> try (cases hs)
      · rename_i x y
        have:=run_equalIn_bool (P:=P) default 9999 kt x y hd
        have e:(Op.equal kt (.bool x) (.bool y)).run P default = (Op.equalIn (9999 + 1) kt (.bool x) (.bool y)).run P default:=rfl
        rw [e,this] at hw
        simp only [Result.ok.injEq,and_true] at hw
        rw [← hw]
      · rename_i k k1 x k2 y
        split at hs
        · rename_i hk
          subst hk
          simp only [Option.some.injEq] at hs
          have:=run_equalIn_int (P:=P) default 9999 kt k1 k x y hd
          have e:(Op.equal kt (.int k1 x) (.int k1 y)).run P default = (Op.equalIn (9999 + 1) kt (.int k1 x) (.int k1 y)).run P default:=rfl
          rw [e,this] at hw
          simp only [Result.ok.injEq,and_true] at hw
          rw [← hw,← hs]
        · cases hs
      · rename_i x y
        have:=run_equalIn_string (P:=P) default 9999 kt x y hd
        have e:(Op.equal kt (.string x) (.string y)).run P default = (Op.equalIn (9999 + 1) kt (.string x) (.string y)).run P default:=rfl
        rw [e,this] at hw
        simp only [Result.ok.injEq,and_true] at hw
        rw [← hw]
        obtain ⟨s,rfl⟩:∃ s,x = bs s:=⟨x.data.toList,by cases x;simp [bs]⟩
        obtain ⟨s',rfl⟩:∃ s,y = bs s:=⟨y.data.toList,by cases y;simp [bs]⟩
        rw [Bool.eq_iff_iff,Go.MapKept.bytes_beq,bs_toList,bs_toList]
        constructor
        · intro h
          have:=congrArg ByteArray.toList h
          rw [bs_toList,bs_toList] at this
          simpa using this
        · intro h
          have h:s = s':=by simpa using h
          rw [h]
    rw [this]
def fidx {α:Type} (p:α→Bool):List α→Option Nat
  | []=>none
  | x :: r=>match p x with | true=>some 0 | false=>(fidx p r).map (· + 1)
theorem find_keys {kt:TypeId} {κ δ:Type} [DecidableEq κ] {F:FK κ δ} {ke:TE} (L:KeyLaw P T kt F ke) (k:κ) (w:World):∀ (es:List MapEntry) (ks:List κ),es.map MapEntry.key = ks.map F.ku→
    (Instr.findKey kt (F.ku k) es).run P w = .ok ((fidx (fun j=>decide (k = j)) ks).bind fun i=>(es[i]?).map fun e=>(i,e.val)) w:=by
  intro es ks hks
  obtain ⟨dd,hd⟩:∃ dd,P.underlying kt = some dd:=by
    obtain ⟨_,d,_,hd,_⟩:=(tab_ok hT L.te).ex
    exact ⟨d,hd⟩
  have hnow:∀ (es:List MapEntry) (ks:List κ) (n:Nat),es.map MapEntry.key = ks.map F.ku→Instr.findNow dd (F.ku k) es n = none∨
      Instr.findNow dd (F.ku k) es n = some ((fidx (fun j=>decide (k = j)) ks).bind fun i=>(es[i]?).map fun e=>(n + i,e.val)):=by
    intro es
    induction es with
    | nil=>intro ks n h;cases ks with
      | nil=>exact .inr rfl
      | cons=>simp at h
    | cons e es ih=>
      intro ks n h
      cases ks with
      | nil=>simp at h
      | cons j ks=>
        simp only [List.map_cons,List.cons.injEq] at h
        simp only [Instr.findNow]
        rw [h.1]
        rcases KeyLaw.now hT L hd k j with h1|h1
        · rw [h1];exact .inl rfl
        · rw [h1]
          by_cases hkj:k = j
          · right;simp [fidx,hkj]
          · rw [decide_eq_false hkj]
            simp only
            rcases ih ks (n + 1) h.2 with h2|h2
            · exact .inl h2
            · right
              rw [h2]
              simp only [fidx,decide_eq_false hkj]
              cases fidx (fun j=>decide (k = j)) ks with
              | none=>rfl
              | some i=>simp [Nat.add_assoc,Nat.add_comm 1 i]
  have hask:∀ (es:List MapEntry) (ks:List κ) (n:Nat),es.map MapEntry.key = ks.map F.ku→
      (Instr.findAsking kt (F.ku k) es n).run P w = .ok ((fidx (fun j=>decide (k = j)) ks).bind fun i=>(es[i]?).map fun e=>(n + i,e.val)) w:=by
    intro es
    induction es with
    | nil=>intro ks n h;cases ks with
      | nil=>simp [Instr.findAsking,fidx]
      | cons=>simp at h
    | cons e es ih=>
      intro ks n h
      cases ks with
      | nil=>simp at h
      | cons j ks=>
        simp only [List.map_cons,List.cons.injEq] at h
        simp only [Instr.findAsking,Sem.run_bind]
        rw [h.1,KeyLaw.equal hT L k j w]
        simp only [Result.andThen_ok]
        by_cases hkj:k = j
        · simp [fidx,hkj]
        · rw [decide_eq_false hkj]
          simp only [Bool.false_eq_true,if_false]
          rw [ih ks (n + 1) h.2]
          simp only [fidx,decide_eq_false hkj]
          cases fidx (fun j=>decide (k = j)) ks with
          | none=>rfl
          | some i=>simp [Nat.add_assoc,Nat.add_comm 1 i]
  simp only [Instr.findKey,Sem.run_bind,run_underlying hd,Result.andThen_ok]
  rcases hnow es ks 0 hks with h|h
  · rw [h]
    simp only
    have:=hask es ks 0 hks
    simpa using this
  · rw [h]
    simp
end
end Go.Fw
namespace Go.Fw
variable {P:Program}
def ptrX (p:Nat):XV where
  ids:=[]
  rel _ _ _ v:=v = .pointer (some ⟨p,0,none⟩)
  mono _ _ _ h:=h
  one h:=by rw [h];rfl
def slX (p n c:Nat):XV where
  ids:=[]
  rel _ _ _ v:=n≤c∧v = .slice (some ⟨p,0,none⟩) n c
  mono _ _ _ h:=h
  one h:=by rw [h.2];rfl
structure FV {κ δ:Type} (F:FK κ δ) where
  pv:δ→Nat→Nat→AV
  pvs:∀ d p c j,(pv d p c).has j = false
  pvo:∀ d p c,okP (pv d p c)∧(pv d p c).un = pv d p c
  rep:∀ d e p c φ φ' R w v,φ e = some (p,c)→(RepV φ R w (F.av d e) v ↔ RepV φ' R w (pv d p c) v)
inductive ES (D:Type) where
  | own (d:D) (p c:Nat)
  | out (d:D) (e p c:Nat)
  | gone
structure Ent (κ δ:Type) where
  k:κ
  s:ES δ
  born:Nat
def ES.outs {D:Type}:ES D→List Nat
  | .out _ e _ _=>[e]
  | _=>[]
def ES.blk {D:Type}:ES D→List Nat
  | .own _ p _=>[p]
  | _=>[]
def entV {κ δ:Type} [DecidableEq κ] {F:FK κ δ} (V:FV F) (φ:Place) (R:Prot) (w:World) (s:ES δ) (v:Value):Prop:=
  match s with
  | .own d p c=>RepV φ R w (V.pv d p c) v∧ChunkRel (fun _=>some (p,c)) R w 0 (F.ch d)
  | .out d e p c=>φ e = some (p,c)∧RepV φ R w (V.pv d p c) v
  | .gone=>True
def entsRel {κ δ:Type} [DecidableEq κ] {F:FK κ δ} (V:FV F) (φ:Place) (R:Prot) (w:World):List (Ent κ δ)→List MapEntry→Prop
  | [],l=>l = []
  | E :: L,l=>∃ m r,l = m :: r∧m.key = F.ku E.k∧m.born = E.born∧entV V φ R w E.s m.val∧entsRel V φ R w L r
def outsL {κ δ:Type} [DecidableEq κ] (L:List (Ent κ δ)):List Nat:=L.flatMap fun E=>E.s.outs
def blksL {κ δ:Type} [DecidableEq κ] (L:List (Ent κ δ)):List Nat:=L.flatMap fun E=>E.s.blk
theorem ch_rel {κ δ:Type} [DecidableEq κ] {F:FK κ δ} {d:δ} {φ φ':Place} {R:Prot} {w:World} {i j:Nat} (h:ChunkRel φ R w i (F.ch d)) (hp:φ' j = φ i):ChunkRel φ' R w j (F.ch d):=by
  have key:∀ c:Chunk,(∀ j,c.has j = false)→ChunkRel φ R w i c→ChunkRel φ' R w j c:=by
    intro c hn h
    cases c with
    | box cs=>
      obtain ⟨b,cap,vs,e,fr,q1,q2,q3,q4,q5⟩:=h
      exact ⟨b,cap,vs,e,fr,by rw [hp,q1],q2,RepVs.mono (fun _ _ h=>h) (fun _ _ _=>rfl) (fun k hk=>by have:=hn k;simp only [Chunk.has] at this;rw [this] at hk;cases hk) q3,q4,q5⟩
    | arr t xs=>
      rcases h with ⟨q1,q2⟩|⟨b,cap,vs,e,fr,q1,q2,q3,q4,q5,q6,q7⟩
      · exact .inl ⟨by rw [hp,q1],q2⟩
      · exact .inr ⟨b,cap,vs,e,fr,by rw [hp,q1],q2,q3,q4,q5,q6,q7⟩
    | ext X=>
      rcases h with ⟨q1,q2⟩|⟨b,cap,o,q1,q2,q3,q4⟩
      · exact .inl ⟨by rw [hp,q1],q2⟩
      · exact .inr ⟨b,cap,o,by rw [hp,q1],q2,X.mono (fun _ _ h=>h) (fun _ _ _=>rfl) (fun k hk=>by have:=hn k;simp only [Chunk.has] at this;rw [this] at hk;cases hk) (fun _ _ _=>⟨rfl,fun _ h=>h⟩) q3,q4⟩
  exact key _ (F.chs d) h
theorem entV.mono {κ δ:Type} [DecidableEq κ] {F:FK κ δ} {V:FV F} {φ φ':Place} {R R':Prot} {w w':World} {s:ES δ} {v:Value} (hR:∀ b o,R b o→R' b o) (hw:∀ b o,R b o→w'.cell? ⟨b,o,none⟩ = w.cell? ⟨b,o,none⟩)
    (hφ:∀ e∈s.outs,φ' e = φ e) (hm:∀ x∈s.blk,x < w.heap.size→w'.heap[x]? = w.heap[x]?∧∀ o,R' x o→R x o) (h:entV V φ R w s v):entV V φ' R' w' s v:=by
  cases s with
  | own d p c=>
    refine ⟨RepV.mono hR hw (fun j hj=>absurd hj (by rw [V.pvs];decide)) h.1,ChunkRel.mono h.2 rfl (fun j hj=>absurd hj (by rw [F.chs];decide)) hR hw (fun b cap x hb hx hlt=>?_)⟩
    simp only [Option.some.injEq,Prod.mk.injEq] at hb
    have:=F.sing d b cap x hx
    exact hm x (by simp [ES.blk,this,hb.1]) hlt
  | out d e p c=>exact ⟨by rw [hφ e (by simp [ES.outs])];exact h.1,RepV.mono hR hw (fun j hj=>absurd hj (by rw [V.pvs];decide)) h.2⟩
  | gone=>trivial
theorem entV.apart {κ δ:Type} [DecidableEq κ] {F:FK κ δ} {V:FV F} {φ:Place} {R:Prot} {w:World} {s:ES δ} {v:Value} (h:entV V φ R w s v) {x:Nat} (hx:x∈s.blk):x < w.heap.size∧∀ o,¬ R x o:=by
  cases s with
  | own d p c=>
    simp only [ES.blk,List.mem_singleton] at hx
    subst hx
    exact h.2.block rfl
  | out d e p c=>simp [ES.blk] at hx
  | gone=>simp [ES.blk] at hx
theorem entsRel.mono {κ δ:Type} [DecidableEq κ] {F:FK κ δ} {V:FV F} {φ φ':Place} {R R':Prot} {w w':World} (hR:∀ b o,R b o→R' b o) (hw:∀ b o,R b o→w'.cell? ⟨b,o,none⟩ = w.cell? ⟨b,o,none⟩) :
    ∀ {L:List (Ent κ δ)} {l:List MapEntry},(∀ e∈outsL L,φ' e = φ e)→(∀ x∈blksL L,x < w.heap.size→w'.heap[x]? = w.heap[x]?∧∀ o,R' x o→R x o)→entsRel V φ R w L l→entsRel V φ' R' w' L l
  | [],l,_,_,h=>h
  | E :: L,l,hφ,hm,h=>by
    obtain ⟨m,r,rfl,h1,h2,h3,h4⟩:=h
    refine ⟨m,r,rfl,h1,h2,h3.mono hR hw (fun e he=>hφ e ?_) (fun x hx=>hm x ?_),entsRel.mono hR hw (fun e he=>hφ e ?_) (fun x hx=>hm x ?_) h4⟩
    · simp only [outsL,List.flatMap_cons,List.mem_append];exact .inl he
    · simp only [blksL,List.flatMap_cons,List.mem_append];exact .inl hx
    · simp only [outsL,List.flatMap_cons,List.mem_append];exact .inr he
    · simp only [blksL,List.flatMap_cons,List.mem_append];exact .inr hx
theorem entsRel.apart {κ δ:Type} [DecidableEq κ] {F:FK κ δ} {V:FV F} {φ:Place} {R:Prot} {w:World}:∀ {L:List (Ent κ δ)} {l:List MapEntry},entsRel V φ R w L l→∀ x∈blksL L,x < w.heap.size∧∀ o,¬ R x o
  | [],l,_,x,hx=>by simp [blksL] at hx
  | E :: L,l,h,x,hx=>by
    obtain ⟨m,r,rfl,h1,h2,h3,h4⟩:=h
    simp only [blksL,List.flatMap_cons,List.mem_append] at hx
    rcases hx with hx|hx
    · exact h3.apart hx
    · exact entsRel.apart h4 x hx
theorem entsRel.keys {κ δ:Type} [DecidableEq κ] {F:FK κ δ} {V:FV F} {φ:Place} {R:Prot} {w:World}:∀ {L:List (Ent κ δ)} {l:List MapEntry},entsRel V φ R w L l→l.map MapEntry.key = (L.map Ent.k).map F.ku
  | [],l,h=>by simp only [entsRel] at h;subst h;rfl
  | E :: L,l,h=>by
    obtain ⟨m,r,rfl,h1,h2,h3,h4⟩:=h
    simp only [List.map_cons,h1,entsRel.keys h4]
theorem entsRel.length {κ δ:Type} [DecidableEq κ] {F:FK κ δ} {V:FV F} {φ:Place} {R:Prot} {w:World} {L:List (Ent κ δ)} {l:List MapEntry} (h:entsRel V φ R w L l):l.length = L.length:=by
  have:=congrArg List.length (entsRel.keys h)
  simpa using this
def turnE {κ δ:Type} [DecidableEq κ] (L:List (Ent κ δ)) (k:κ) (s:ES δ):List (Ent κ δ):=L.map fun E=>if E.k = k then { E with s:=s } else E
def eraseE {κ δ:Type} [DecidableEq κ] (L:List (Ent κ δ)) (k:κ):List (Ent κ δ):=L.filter fun E=>decide (E.k≠k)
def findE {κ δ:Type} [DecidableEq κ] (L:List (Ent κ δ)) (k:κ):Option (Ent κ δ):=L.find? fun E=>decide (E.k = k)
theorem turnE_keys {κ δ:Type} [DecidableEq κ] (L:List (Ent κ δ)) (k:κ) (s:ES δ):(turnE L k s).map Ent.k = L.map Ent.k:=by
  simp only [turnE,List.map_map]
  apply List.map_congr_left
  intro E _
  simp only [Function.comp]
  split <;> rfl
theorem turnE_borns {κ δ:Type} [DecidableEq κ] (L:List (Ent κ δ)) (k:κ) (s:ES δ):(turnE L k s).map Ent.born = L.map Ent.born:=by
  simp only [turnE,List.map_map]
  apply List.map_congr_left
  intro E _
  simp only [Function.comp]
  split <;> rfl
theorem turnE_notin {κ δ:Type} [DecidableEq κ] {L:List (Ent κ δ)} {k:κ} {s:ES δ} (h:k ∉ L.map Ent.k):turnE L k s = L:=by
  unfold turnE
  conv=>rhs;rw [← List.map_id L]
  apply List.map_congr_left
  intro E hE
  rw [if_neg (show ¬ E.k = k from fun e=>h (e ▸ List.mem_map_of_mem hE))]
  rfl
theorem eraseE_notin {κ δ:Type} [DecidableEq κ] {L:List (Ent κ δ)} {k:κ} (h:k ∉ L.map Ent.k):eraseE L k = L:=by
  unfold eraseE
  rw [List.filter_eq_self]
  intro E hE
  simp only [decide_eq_true_eq]
  exact fun e=>h (e ▸ List.mem_map_of_mem hE)
theorem fidx_none {κ:Type} [DecidableEq κ] {k:κ}:∀ {ks:List κ},fidx (fun j=>decide (k = j)) ks = none ↔ k ∉ ks
  | []=>by simp [fidx]
  | j :: ks=>by
    simp only [fidx,List.mem_cons,not_or]
    by_cases e:k = j
    · simp [e]
    · simp [e,fidx_none]
theorem entsRel.split {κ δ:Type} [DecidableEq κ] {F:FK κ δ} {V:FV F} {φ:Place} {R:Prot} {w:World} {k:κ}:∀ {L:List (Ent κ δ)} {l:List MapEntry} {i:Nat},entsRel V φ R w L l→(L.map Ent.k).Nodup→fidx (fun j=>decide (k = j)) (L.map Ent.k) = some i→
    ∃ A E B a m b,L = A ++ E :: B∧l = a ++ m :: b∧a.length = i∧E.k = k∧k ∉ A.map Ent.k∧k ∉ B.map Ent.k∧m.key = F.ku k∧m.born = E.born∧entV V φ R w E.s m.val∧entsRel V φ R w A a∧entsRel V φ R w B b
  | [],l,i,_,_,hi=>by simp [fidx] at hi
  | E :: L,l,i,h,hn,hi=>by
    obtain ⟨m,r,rfl,h1,h2,h3,h4⟩:=h
    simp only [List.map_cons,List.nodup_cons] at hn
    simp only [List.map_cons,fidx] at hi
    by_cases e:k = E.k
    · simp only [e,decide_true,Option.some.injEq] at hi
      exact ⟨[],E,L,[],m,r,rfl,rfl,hi,e.symm,by simp,e ▸ hn.1,e ▸ h1,h2,h3,rfl,h4⟩
    · rw [decide_eq_false e] at hi
      simp only [Option.map_eq_some_iff] at hi
      obtain ⟨j,hj,rfl⟩:=hi
      obtain ⟨A,E',B,a,m',b,rfl,rfl,q1,q2,q3,q4,q5,q6,q7,q8,q9⟩:=entsRel.split h4 hn.2 hj
      exact ⟨E :: A,E',B,m :: a,m',b,rfl,rfl,by simp [q1],q2,by simp [q3];exact e,q4,q5,q6,q7,⟨m,a,rfl,h1,h2,h3,q8⟩,q9⟩
theorem entsRel.join {κ δ:Type} [DecidableEq κ] {F:FK κ δ} {V:FV F} {φ:Place} {R:Prot} {w:World} {E:Ent κ δ} {m:MapEntry} {B:List (Ent κ δ)} {b:List MapEntry} (h1:m.key = F.ku E.k) (h2:m.born = E.born) (h3:entV V φ R w E.s m.val) (h4:entsRel V φ R w B b) :
    ∀ {A:List (Ent κ δ)} {a:List MapEntry},entsRel V φ R w A a→entsRel V φ R w (A ++ E :: B) (a ++ m :: b)
  | [],a,h=>by simp only [entsRel] at h;subst h;exact ⟨m,b,rfl,h1,h2,h3,h4⟩
  | E' :: A,a,h=>by
    obtain ⟨m',r,rfl,q1,q2,q3,q4⟩:=h
    exact ⟨m',_,rfl,q1,q2,q3,entsRel.join h1 h2 h3 h4 q4⟩
theorem entsRel.append {κ δ:Type} [DecidableEq κ] {F:FK κ δ} {V:FV F} {φ:Place} {R:Prot} {w:World} {B:List (Ent κ δ)} {b:List MapEntry} (h4:entsRel V φ R w B b):∀ {A:List (Ent κ δ)} {a:List MapEntry},entsRel V φ R w A a→entsRel V φ R w (A ++ B) (a ++ b)
  | [],a,h=>by simp only [entsRel] at h;subst h;exact h4
  | E' :: A,a,h=>by
    obtain ⟨m',r,rfl,q1,q2,q3,q4⟩:=h
    exact ⟨m',_,rfl,q1,q2,q3,entsRel.append h4 q4⟩
theorem turnE_mid {κ δ:Type} [DecidableEq κ] {A B:List (Ent κ δ)} {E:Ent κ δ} {k:κ} {s:ES δ} (hA:k ∉ A.map Ent.k) (hB:k ∉ B.map Ent.k) (hk:E.k = k):turnE (A ++ E :: B) k s = A ++ { E with s:=s } :: B:=by
  have h1:=turnE_notin (s:=s) hA
  have h2:=turnE_notin (s:=s) hB
  unfold turnE at h1 h2 ⊢
  rw [List.map_append,List.map_cons,h1,h2,if_pos hk]
theorem eraseE_mid {κ δ:Type} [DecidableEq κ] {A B:List (Ent κ δ)} {E:Ent κ δ} {k:κ} (hA:k ∉ A.map Ent.k) (hB:k ∉ B.map Ent.k) (hk:E.k = k):eraseE (A ++ E :: B) k = A ++ B:=by
  have h1:=eraseE_notin hA
  have h2:=eraseE_notin hB
  unfold eraseE at h1 h2 ⊢
  rw [List.filter_append,List.filter_cons,h1,h2]
  simp [hk]
theorem findE_mid {κ δ:Type} [DecidableEq κ] {A B:List (Ent κ δ)} {E:Ent κ δ} {k:κ} (hA:k ∉ A.map Ent.k) (hk:E.k = k):findE (A ++ E :: B) k = some E:=by
  unfold findE
  rw [List.find?_append,List.find?_eq_none.2 (fun x hx=>by simp only [decide_eq_true_eq];exact fun e=>hA (e ▸ List.mem_map_of_mem hx))]
  simp [hk]
theorem findE_none {κ δ:Type} [DecidableEq κ] {L:List (Ent κ δ)} {k:κ}:findE L k = none ↔ k ∉ L.map Ent.k:=by
  unfold findE
  rw [List.find?_eq_none]
  simp only [decide_eq_true_eq,List.mem_map,not_exists,not_and]
theorem findE_mem {κ δ:Type} [DecidableEq κ] {L:List (Ent κ δ)} {k:κ} {E:Ent κ δ} (h:findE L k = some E):E∈L∧E.k = k:=by
  unfold findE at h
  exact ⟨List.mem_of_find?_eq_some h,by have:=List.find?_some h;simpa using this⟩
theorem perm_find {κ δ:Type} [DecidableEq κ] {L L':List (Ent κ δ)} (hp:L.Perm L') (hn:(L.map Ent.k).Nodup) (k:κ):findE L k = findE L' k:=by
  cases h:findE L k with
  | none=>exact ((findE_none.2 (fun hm=>findE_none.1 h ((hp.map Ent.k).mem_iff.2 hm)))).symm
  | some E=>
    obtain ⟨h1,h2⟩:=findE_mem h
    cases h':findE L' k with
    | none=>exact absurd ((hp.map Ent.k).mem_iff.1 (h2 ▸ List.mem_map_of_mem h1)) (findE_none.1 h')
    | some E'=>
      obtain ⟨h3,h4⟩:=findE_mem h'
      have h3:=hp.mem_iff.2 h3
      have:∀ {L:List (Ent κ δ)},(L.map Ent.k).Nodup→E∈L→E'∈L→E.k = E'.k→E = E':=by
        intro L
        induction L with
        | nil=>intro _ h;simp at h
        | cons x L ih=>
          intro hn hE hE' he
          simp only [List.map_cons,List.nodup_cons] at hn
          rcases List.mem_cons.1 hE with e1|g1
          · rcases List.mem_cons.1 hE' with e2|g2
            · rw [e1,e2]
            · exact absurd (e1 ▸ he ▸ List.mem_map_of_mem g2) hn.1
          · rcases List.mem_cons.1 hE' with e2|g2
            · exact absurd (e2 ▸ he ▸ List.mem_map_of_mem g1) hn.1
            · exact ih hn.2 g1 g2 he
      rw [this hn h1 h3 (h2.trans h4.symm)]
structure EntsOK {κ δ:Type} [DecidableEq κ] (L:List (Ent κ δ)) (clock b:Nat):Prop where
  keys:(L.map Ent.k).Nodup
  born:(L.map Ent.born).Nodup
  lt:∀ E∈L,E.born < clock
  blk:(blksL L).Nodup
  ne:b ∉ blksL L
def mapX {κ δ:Type} [DecidableEq κ] {F:FK κ δ} (V:FV F) (os:List Nat) (L:List (Ent κ δ)) (clock:Nat):XCh where
  ids:=os
  fixed:=true
  nil:=False
  rel φ R w b o _:=∃ es L',o = .map es clock∧L.Perm L'∧entsRel V φ R w L' es.toList∧EntsOK L clock b∧∀ x∈outsL L,x∈os
  more _ x:=x∈blksL L
  mono hR hw hφ hm h:=by
    obtain ⟨es,L',h1,h2,h3,h4,h5⟩:=h
    exact ⟨es,L',h1,h2,h3.mono hR hw (fun e he=>hφ e (by simp only [List.contains_eq_mem,decide_eq_true_eq];exact h5 e ((h2.flatMap_right _).mem_iff.2 he))) (fun x hx=>hm x ((h2.flatMap_right _).mem_iff.2 hx)),h4,h5⟩
  apart h x hx:=by
    obtain ⟨es,L',h1,h2,h3,h4,h5⟩:=h
    exact h3.apart x ((h2.flatMap_right _).mem_iff.1 hx)
end Go.Fw
