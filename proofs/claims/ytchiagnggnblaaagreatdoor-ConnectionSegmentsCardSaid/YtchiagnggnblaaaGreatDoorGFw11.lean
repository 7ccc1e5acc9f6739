import Derived.Test.YtchiagnggnblaaaGreatDoorGFw6
import Derived.Test.YtchiagnggnblaaaGreatDoorGFw8
import Derived.Test.YtchiagnggnblaaaGreatDoorGFw10
set_option linter.all false
namespace Go.Fw
variable {P:Program}
theorem FSpec.gw {gl:Gl} {f:FuncId} {args:List AV} {h h':Heap} {ret:AV} (k:FSpec P [] f args h ret h'):FSpec P gl f args h ret h':=
  ⟨k.1,fun φ R w vs hh hR _ hargs=>k.2 φ R w vs hh hR (fun g cs hg=>by simp [lookup] at hg) hargs⟩
theorem PSpec.gw {gl:Gl} {f:FuncId} {args:List AV} {ret:AV} (k:PSpec P [] f args ret):PSpec P gl f args ret:=FSpec.gw k
theorem CSpec.gw {gl:Gl} {f:FuncId} {args:List AV} {u:Upd} {ret:AV} (k:CSpec P [] f args u ret):CSpec P gl f args u ret:=FSpec.gw k
theorem NSpec.gw {gl:Gl} {f:FuncId} {args cs:List AV} (k:NSpec P [] f args cs):NSpec P gl f args cs:=by
  obtain ⟨j,h⟩:=k
  exact ⟨j,FSpec.gw h⟩
def boxesU:Upd→List (Nat × Chunk)
  | []=>[]
  | (j,old,n) :: r=>(j,.box (newCells old n)) :: boxesU r
theorem applyU_list:∀ (u:Upd),applyU noHeap u = fun k=>lookup k (boxesU u)
  | []=>rfl
  | (j,old,n) :: r=>by
    funext k
    have ih:=congrFun (applyU_list r) k
    simp only [applyU,boxesU,lookup_cons]
    by_cases e:j = k
    · rw [if_pos e.symm,if_pos e]
    · rw [if_neg (fun h=>e h.symm),if_neg e];exact ih
theorem CSpec.ofH {gl:Gl} {f:FuncId} {args:List AV} {u:Upd} {ret:AV} (k:HSpec P gl f args (boxesU u.old) ret (boxesU u)):CSpec P gl f args u ret:=by
  unfold CSpec
  rw [applyU_list,applyU_list]
  exact k
end Go.Fw
namespace Go.Fw
variable {P:Program}
def methV (f:FuncId) (x:AV):XV where
  ids:=x.ids
  rel φ R w v:=∃ u,v = .func (.func f) #[u] #[]∧RepV φ R w x u
  mono hR hw hφ h:=by
    obtain ⟨u,h1,h2⟩:=h
    exact ⟨u,h1,RepV.mono hR hw (fun j hj=>hφ j (by simpa using AV.has_ids hj)) h2⟩
  one h:=by obtain ⟨_,rfl,_⟩:=h;rfl
theorem OpTri.meth {ops:Array Oper} {o:Oper} {n fix next:Nat} {env:List (Nat × AV)} {heap:List (Nat × Chunk)} {gl:Gl} {K:St→Prop} {f:FuncId} {x:Operand} {id off:Nat} {c:Chunk}
    (ho:o.op = .makeFunc (.func f) #[x] #[]) (hg:o.guard = none) (hx:St.ev ⟨n,fix,next,env,heap,gl⟩ x = .loc id off) (hid:lookup id heap = some c)
    (hK:stepN n fix next env heap gl o.dst (.ex (methV f (.loc id off))) [] none K):OpTri P ops o ⟨n,fix,next,env,heap,gl⟩ K:=by
  intro hd R φ a w hs next0 Q hnext
  rw [stepN_eq] at hK
  generalize hst:(⟨n,fix,next,env,heap,gl⟩:St) = st at *
  have hid':st.lk id = some c:=by rw [← hst];exact hid
  have hw:Region.wanted o (yielded ops a.tmps) = true:=by simp [Region.wanted,hg]
  rw [if_pos hw]
  left
  have hrx:=hs.s.ev x
  have hx':evF st.get st.gl x = .loc id off:=hx
  rw [hx'] at hrx
  have hrun:(execOp a.eval o).run P w = .ok (.value (.func (.func f) #[a.eval x] #[])) w:=by
    simp [execOp,ho,Instr.makeFunc]
  unfold Oper.wp
  rw [hrun]
  have hfresh:st.lk st.next = none:=by
    cases hh:st.lk st.next with
    | none=>rfl
    | some c=>have:=hs.s.hnext _ _ hh;omega
  obtain ⟨h1,h2⟩:=SatF.step hs.s hfresh (next':=st.next + 1) (by omega) (Nat.le_succ _) (upd:=[]) trivial (StepTo.refl (id:=st.next) hs.s.rlt).toU (v:=.ex (methV f (.loc id off))) (u:=.func (.func f) #[a.eval x] #[])
    (by simp only [RepV];exact ⟨_,rfl,hrx⟩) o.dst
    (fun d hd'=>by simp only [dstB,hd',decide_eq_true_eq] at hd;exact hd) (fun j hj=>by
      simp only [AV.has,methV,AV.ids,List.contains_eq_mem,List.mem_cons,List.not_mem_nil,or_false,decide_eq_true_eq] at hj
      subst hj;exact .inl ⟨_,hid'⟩) (fun ch j hc=>by cases hc) (fun x hx=>by simp at hx)
  rw [← step_get st o.dst (.ex (methV f (.loc id off))) [] none] at h1
  have hlk:=step_lk st o.dst (.ex (methV f (.loc id off))) [] none rfl trivial
  rw [← hlk] at h1 h2
  exact hnext R φ _ w _ hK ⟨h1,Nat.le_succ_of_le hs.fx⟩ ⟨h2,fun _ _=>rfl,rfl,rfl⟩
theorem OpTri.mcall {ops:Array Oper} {o:Oper} {n fix next:Nat} {env:List (Nat × AV)} {heap:List (Nat × Chunk)} {gl:Gl} {K:St→Prop} {f:Operand} {args:Array Operand} {ats:Array TypeId} {g:FuncId} {x:AV}
    {h h':List (Nat × Chunk)} {ret:AV} (add:Nat) (ho:o.op = .call ⟨.value f,args,ats⟩) (hg:o.guard = none) (hf:(St.ev ⟨n,fix,next,env,heap,gl⟩ f).un = .ex (methV g x))
    (hs:HSpec P gl g (x :: args.toList.map (fun x=>(St.ev ⟨n,fix,next,env,heap,gl⟩ x).un)) h ret h') (hok:needsAll ((Op.call ⟨.value f,args,ats⟩).operands.toList.map (St.ev ⟨n,fix,next,env,heap,gl⟩)) True)
    (hle:heapLe h ⟨n,fix,next,env,heap,gl⟩) (hchk:callChk fix next (next + add) h h' ret = true) (hK:calledN n fix env heap gl o.dst ret h h' (next + add) K):OpTri P ops o ⟨n,fix,next,env,heap,gl⟩ K:=by
  intro hd R φ a w hsat next0 Q hnext
  generalize hst:(⟨n,fix,next,env,heap,gl⟩:St) = st at *
  have hw:Region.wanted o (yielded ops a.tmps) = true:=by simp [Region.wanted,hg]
  rw [if_pos hw]
  left
  rw [calledN_eq n fix next env heap gl,hst] at hK
  obtain ⟨hok,_⟩:=needsAll_iff hok
  have hok:∀ x∈(Op.call ⟨.value f,args,ats⟩).operands,okP (st.ev x):=fun x hx=>hok _ (List.mem_map.2 ⟨x,by simpa using hx,rfl⟩)
  obtain ⟨⟨fn,hfn,hname,hbody⟩,hspec⟩:=hs
  have hgl:st.gl = gl:=by rw [← hst]
  have hfx:st.fix = fix:=by rw [← hst]
  have hnx:st.next = next:=by rw [← hst]
  have hfr:=(hsat.s.ev f).un (hok f (by simp [Op.operands,Call.operands]))
  have hf':(evF st.get st.gl f).un = .ex (methV g x):=hf
  rw [hf'] at hfr
  simp only [RepV] at hfr
  obtain ⟨u,hfv,hrx⟩:=hfr
  have hargs:RepVs φ R w (x :: args.toList.map fun x=>(st.ev x).un) (u :: (args.map a.eval).toList):=by
    refine ⟨u,_,rfl,hrx,?_⟩
    rw [Array.toList_map]
    exact repVs_map _ _ _ (fun x hx=>(hsat.s.ev x).un (hok x (by simp [Op.operands,Call.operands];exact .inr (by simpa using hx))))
  have hlk:∀ j c,lookup j h = some c→st.lk j = some c:=fun j c hj=>heapLe_get hle hj
  have hcall:=hspec φ R w _ ⟨fun k c hk=>hsat.s.heap.rel k c (hlk k c hk),fun k k' c c' b cap cap' hk hk'=>hsat.s.heap.inj k k' c c' b cap cap' (hlk k c hk) (hlk k' c' hk')⟩ hsat.s.rlt (by rw [← hgl];exact hsat.s.gl) hargs
  have hrun:(execOp a.eval o).run P w = .ok (.enter g (u :: (args.map a.eval).toList).toArray) w:=by
    simp only [execOp,ho,resolve,hfv,Deferred.ofValue,invoke,callFunc,Sem.run_bind,Sem.run_pure,Result.andThen_ok,run_program,hfn,hname,hbody,Bool.false_eq_true,if_false]
    congr 2
    apply Array.ext'
    simp
  unfold Oper.wp
  rw [hrun,Oper.upon_enter]
  refine hcall.mono ?_
  rintro e w' ⟨v,φ1,R1,rfl,hv,hh',hrb,hevo,hkeep⟩
  obtain ⟨φ2,h1,h2⟩:=called_sat hsat hle (by rw [hfx,hnx];exact hchk) hv hh' hrb hevo hkeep (dst:=o.dst) (fun d hd'=>by simp only [dstB,hd',decide_eq_true_eq] at hd;exact hd)
  exact hnext R1 φ2 _ _ _ hK h1 h2
theorem CSpec.toH {gl:Gl} {f:FuncId} {args:List AV} {u:Upd} {ret:AV} (k:CSpec P gl f args u ret):HSpec P gl f args (boxesU u.old) ret (boxesU u):=by
  unfold CSpec at k
  rw [applyU_list,applyU_list] at k
  exact k
theorem OpTri.buildM {T:Tab} (hT:tabOK P T = true) {ops:Array Oper} {o:Oper} {n fix next:Nat} {env:List (Nat × AV)} {heap:List (Nat × Chunk)} {gl:Gl} {K:St→Prop} {t et:TypeId} {e ee:TE} {m:Nat} {l:List (Nat × Operand)} {ys:List AV}
    (ho:o.op = .buildSlice t m ⟨l⟩) (hg:o.guard = none) (he:tget T t = some e) (hk:e.k = .slice et) (hee:tget T et = some ee) (hsz:Nat.beq ee.size 1 = true) (hm:Nat.ble m 1000 = true) (hm0:Nat.blt 0 m = true)
    (hcs:fillCells (fun i=>some (i * ee.size,ee.size)) (l.map fun p=>(p.1,St.ev ⟨n,fix,next,env,heap,gl⟩ p.2)) (zerosOf ee.zero m) = some ys) (hl:Nat.beq ys.length m = true) (hids:idsIn heap (AV.idsL ys) = true)
    (hK:stepN n fix next env heap gl o.dst (.own next m) [] (some (.ext (boxS ys))) K):OpTri P ops o ⟨n,fix,next,env,heap,gl⟩ K:=by
  intro hd R φ a w hs next0 Q hnext
  rw [stepN_eq] at hK
  generalize hst:(⟨n,fix,next,env,heap,gl⟩:St) = st at *
  have hnx:st.next = next:=by rw [← hst]
  have hhp:st.heap = heap:=by rw [← hst]
  have hsz:=Nat.eq_of_beq_eq_true hsz
  have hm:=Nat.le_of_ble_eq_true hm
  have hm0:0 < m:=Nat.le_of_ble_eq_true hm0
  have hl:=Nat.eq_of_beq_eq_true hl
  have hw:Region.wanted o (yielded ops a.tmps) = true:=by simp [Region.wanted,hg]
  rw [if_pos hw]
  left
  obtain ⟨z,hz,hzc,hzs⟩:=zero_size hT hee
  have hzr:RepVs φ R w (zerosOf ee.zero m) ((Array.range (m * z.cells.size)).map (z.cells[· % z.cells.size]!)).toList:=zeros_rep (zeroChk_rep hzc) m
  obtain ⟨us',hf,hu⟩:=fill_sound (φ:=φ) (R:=R) (w:=w) (ev:=st.ev) (ρ:=a.eval) l _ ys _ hcs hzr (fun p hp=>hs.s.ev p.2)
  have hul:us'.size = m:=by
    have h1:=hu.length
    rw [Array.length_toList] at h1
    omega
  have hd2:=tk_slice hT he hk
  have hrun:(execOp a.eval o).run P w = .ok (.value (.slice (some ⟨w.heap.size,0,none⟩) m m)) (pushed w (.cells us' et (0,0)) w.drawn):=by
    simp only [execOp,ho,Instr.buildSlice,Sem.run_bind,run_underlying hd2,Result.andThen_ok,run_sizeOf_tab hT hee]
    rw [if_neg (by rw [hsz];omega)]
    have h0:¬ (m * ee.size = 0):=by rw [hsz];omega
    simp only [h0,if_false,Sem.run_bind,hz,Sem.run_pure,Result.andThen_ok]
    rw [hzs] at hf
    simp only [List.map_toArray] at hf ⊢
    rw [hzs,hf]
    rfl
  unfold Oper.wp
  rw [hrun]
  have hfresh:st.lk next = none:=by
    cases hh:st.lk next with
    | none=>rfl
    | some c=>have:=hs.s.hnext _ _ hh;omega
  have hR:=hs.s.rlt
  have hyn:∀ j,j∈AV.idsL ys→∃ c,st.lk j = some c:=fun j hj=>by
    obtain ⟨c,hc⟩:=idsIn_mem hids hj
    exact ⟨c,by rw [← hhp] at hc;exact hc⟩
  have hcell:∀ b k,R b k→(pushed w (.cells us' et (0,0)) w.drawn).cell? ⟨b,k,none⟩ = w.cell? ⟨b,k,none⟩:=fun b k hb=>pushed_cell (hR b k hb)
  have hstep:=(stepTo_push (φ:=φ) (id:=next) hR us' et (0,0) m (.ext (boxS ys)) w.drawn
    (.inr ⟨w.heap.size,m,_,by simp [setPlace],pushed_get _ _ _,⟨us',et,(0,0),us'.toList,[],rfl,hul,noFr_zero _,by simp,RepVs.mono (fun _ _ h=>h) hcell (fun j hj=>by
      have hj2:=AV.hasAny_ids hj
      obtain ⟨c,hc⟩:=hyn j hj2
      simp only [setPlace]
      rw [if_neg (fun e=>by subst e;rw [hfresh] at hc;cases hc)]) hu⟩,not_prot_new hR⟩)).toU
  obtain ⟨h1,h2⟩:=SatF.step hs.s hfresh (next':=st.next + 1) (by omega) (Nat.le_succ _) (upd:=[]) trivial hstep (v:=.own next m) (u:=.slice (some ⟨w.heap.size,0,none⟩) m m) (by simp only [RepV];exact .inr ⟨w.heap.size,m,by simp [setPlace],Nat.le_refl _,rfl⟩) o.dst
    (fun d hd'=>by simp only [dstB,hd',decide_eq_true_eq] at hd;exact hd) (fun j hj=>by simp [AV.has] at hj;exact .inr ⟨hj.symm,rfl⟩)
    (fun ch j hc hj=>by
      obtain rfl:=Option.some.inj hc
      exact hyn j (boxS_has hj)) (fun x hx=>by simp at hx)
  rw [← step_get st o.dst (.own next m) [] (some (.ext (boxS ys)))] at h1
  have hlk:=step_lk st o.dst (.own next m) [] (some (.ext (boxS ys))) rfl trivial
  rw [hnx] at hlk
  rw [← hlk] at h1 h2
  exact hnext R _ _ _ _ hK ⟨h1,Nat.le_succ_of_le hs.fx⟩ ⟨h2,fun id hid=>by have:=hs.fx;simp only [setPlace];rw [if_neg (by omega)],rfl,rfl⟩
end Go.Fw
namespace Go.Fw
variable {P:Program}
def optX (x:Option (List AV)):XCh where
  ids:=match x with|some cs=>AV.idsL cs|none=>[]
  fixed:=false
  nil:=x = none
  rel φ R w _ o _:=∃ cs vs e fr,x = some cs∧o = .cells vs e fr∧RepVs φ R w cs vs.toList∧NoFr fr vs.size
  mono hR hw hφ h:=by
    obtain ⟨cs,vs,e,fr,rfl,h2,h3,h4⟩:=h
    exact ⟨cs,vs,e,fr,rfl,h2,RepVs.mono hR hw (fun id hi=>hφ id (by simpa using AV.hasAny_ids hi)) h3,h4⟩
def Conv (c c':Chunk):Prop:=∀ φ R w id,ChunkRel φ R w id c→ChunkRel φ R w id c'
theorem Conv.refl (c:Chunk):Conv c c:=fun _ _ _ _ h=>h
theorem Conv.box (cs:List AV):Conv (.ext (optX (some cs))) (.box cs):=fun φ R w id h=>by
  rcases h with ⟨_,h⟩|⟨b,cap,o,h1,h2,⟨cs',vs,e,fr,h3,rfl,h4,h5⟩,h6⟩
  · cases h
  · simp only [Option.some.injEq] at h3
    subst h3
    exact ⟨b,cap,vs,e,fr,h1,h2,h4,h6,h5⟩
def heapLeX:List (Nat × Chunk)→St→Prop
  | [],_=>True
  | (j,c) :: r,st=>(∃ c',st.lk j = some c'∧Conv c' c)∧heapLeX r st
theorem heapLeX_get {st:St}:∀ {l:List (Nat × Chunk)} {j:Nat} {c:Chunk},heapLeX l st→lookup j l = some c→∃ c',st.lk j = some c'∧Conv c' c
  | [],_,_,_,hl=>by simp [lookup] at hl
  | (k,u) :: r,t,v,h,hl=>by
    rw [lookup_cons] at hl
    split at hl
    · rename_i e
      simp only [Option.some.injEq] at hl
      subst hl
      rw [← e];exact h.1
    · exact heapLeX_get h.2 hl
theorem Le.weakX {st S:St} (hn:S.n = st.n) (hf:S.fix = st.fix) (hg:S.gl = st.gl) (hc:S.closed = true) (he:envLe S.env st) (hh:heapLeX S.heap st):Le st S:=fun R φ a w hs=>by
  unfold St.closed at hc
  simp only [Bool.and_eq_true] at hc
  have hlk:∀ j c,S.lk j = some c→∃ c',st.lk j = some c'∧Conv c' c:=fun j c hj=>heapLeX_get hh hj
  refine ⟨R,φ,⟨⟨fun t=>?_,fun t j hj=>?_,fun j cs k hj hk=>(heapClosed_mem hc.1.2 hj).2 k hk,fun j c hj=>(heapClosed_mem hc.1.2 hj).1,by rw [hn];exact hs.s.sz,
    ⟨fun j c hj=>?_,fun j k c d b cap cap' hj hk hp hp'=>?_⟩,hs.s.rlt,hs.s.defers,by rw [hg];exact hs.s.gl⟩,Nat.le_of_ble_eq_true hc.2⟩,
    ⟨⟨rfl,rfl,rfl,Nat.le_refl _,fun _ _ _=>rfl,fun _ _ h=>h,fun _ _ _=>rfl,fun _ _ h=>.inl h,fun b ⟨j,c,cap,hj,hp⟩=>?_⟩,fun _ _=>rfl,hf,hn⟩⟩
  · cases hl:lookup t S.env with
    | none=>
      have:S.get t = .any:=by simp [St.get,hl]
      rw [this];simp [RepV]
    | some v=>
      have:S.get t = v:=by simp [St.get,hl]
      rw [this,← envLe_get he hl]
      exact hs.s.env t
  · cases hl:lookup t S.env with
    | none=>
      have:S.get t = .any:=by simp [St.get,hl]
      rw [this] at hj;simp [AV.has] at hj
    | some v=>
      have:S.get t = v:=by simp [St.get,hl]
      rw [this] at hj
      exact envClosed_mem hc.1.1 hl hj
  · obtain ⟨c',h1,h2⟩:=hlk j c hj
    exact h2 _ _ _ _ (hs.s.heap.rel j c' h1)
  · obtain ⟨c',h1,_⟩:=hlk j c hj
    obtain ⟨d',h2,_⟩:=hlk k d hk
    exact hs.s.heap.inj j k c' d' b cap cap' h1 h2 hp hp'
  · obtain ⟨c',h1,_⟩:=hlk j c hj
    exact .inr ⟨j,c',cap,h1,hp⟩
def St.addX (st:St) (c:Chunk):St:={ n:=st.n,fix:=st.fix,next:=st.next + 1,env:=st.env,heap:=(st.next,c) :: st.heap,gl:=st.gl }
theorem Le.none {st:St} {X:XCh} (hnil:X.nil) (hids:X.ids = []):Le st (st.addX (.ext X)):=fun R φ a w hs=>by
  have hfresh:st.lk st.next = .none:=by
    cases hh:st.lk st.next with
    | none=>rfl
    | some c=>have:=hs.s.hnext _ _ hh;omega
  have hne:∀ j c,st.lk j = some c→j≠st.next:=fun j c hj e=>by subst e;rw [hfresh] at hj;simp at hj
  have hlk:∀ k,(st.addX (.ext X)).lk k = if st.next = k then some (.ext X) else st.lk k:=fun k=>by
    simp only [St.addX,St.lk,lookup_cons]
  have hφ:∀ j,j≠st.next→setPlace φ st.next .none j = φ j:=fun j hj=>by simp [setPlace,hj]
  have hkeep:∀ j,(∃ c,st.lk j = some c)→∃ c,(st.addX (.ext X)).lk j = some c:=fun j ⟨c,hc⟩=>by
    rw [hlk,if_neg (fun e=>hne j c hc e.symm)];exact ⟨c,hc⟩
  have hinv:∀ j c,(st.addX (.ext X)).lk j = some c→(j = st.next∧c = .ext X)∨(j≠st.next∧st.lk j = some c):=fun j c hj=>by
    rw [hlk] at hj
    split at hj
    · rename_i e;simp only [Option.some.injEq] at hj;exact .inl ⟨e.symm,hj.symm⟩
    · rename_i e;exact .inr ⟨fun h=>e h.symm,hj⟩
  refine ⟨R,setPlace φ st.next .none,⟨⟨fun u=>?_,fun u j hj=>?_,fun j cs k hj hk=>?_,fun j c hj=>?_,hs.s.sz,⟨fun j c hj=>?_,fun j k c d b cap cap' hj hk hp hp'=>?_⟩,hs.s.rlt,hs.s.defers,fun g cs hg=>?_⟩,?_⟩,
    ⟨⟨rfl,rfl,rfl,Nat.le_refl _,fun _ _ _=>rfl,fun _ _ h=>h,fun _ _ _=>rfl,fun _ _ h=>.inl h,fun b ⟨j,c,cap,hj,hp⟩=>?_⟩,fun id hid=>hφ id (by have:=hs.fx;omega),rfl,rfl⟩⟩
  · exact RepV.mono (fun _ _ h=>h) (fun _ _ _=>rfl) (fun j hj=>by obtain ⟨c,hc⟩:=hs.s.named u j hj;exact hφ j (hne j c hc)) (hs.s.env u)
  · exact hkeep j (hs.s.named u j hj)
  · rcases hinv j _ hj with ⟨_,h⟩|⟨_,hj⟩
    · subst h;simp [Chunk.has,hids] at hk
    · exact hkeep k (hs.s.hnamed j cs k hj hk)
  · show j < st.next + 1
    rcases hinv j _ hj with ⟨e,_⟩|⟨_,hj⟩
    · omega
    · have:=hs.s.hnext j c hj;omega
  · rcases hinv j _ hj with ⟨rfl,rfl⟩|⟨hji,hj⟩
    · exact .inl ⟨by simp [setPlace],hnil⟩
    · exact (hs.s.heap.rel j c hj).mono (hφ j hji) (fun k hk=>by
        obtain ⟨c',hc'⟩:=hs.s.hnamed j c k hj hk
        exact hφ k (hne k c' hc')) (fun _ _ h=>h) (fun _ _ _=>rfl) (fun _ _ _ _=>⟨rfl,fun _ h=>h⟩)
  · rcases hinv j _ hj with ⟨rfl,_⟩|⟨hji,hj⟩
    · simp [setPlace] at hp
    · rcases hinv k _ hk with ⟨rfl,_⟩|⟨hki,hk⟩
      · simp [setPlace] at hp'
      · rw [hφ j hji] at hp;rw [hφ k hki] at hp'
        exact hs.s.heap.inj j k c d b cap cap' hj hk hp hp'
  · have:=hs.s.gl g cs hg
    refine ⟨RepV.mono (fun _ _ h=>h) (fun _ _ _=>rfl) (fun j hj=>?_) this.1,this.2⟩
    simp only [AV.has] at hj
    rw [this.2 j] at hj
    simp at hj
  · have:=hs.fx
    show st.fix≤st.next + 1
    omega
  · rcases hinv j _ hj with ⟨rfl,_⟩|⟨hji,hj⟩
    · simp [setPlace] at hp
    · rw [hφ j hji] at hp
      exact .inr ⟨j,c,cap,hj,hp⟩
theorem HSpec.conv {gl:Gl} {f:FuncId} {args:List AV} {h h1 H H1:List (Nat × Chunk)} {ret ret':AV} (k:HSpec P gl f args h ret h1) (ρ:Nat→Option Nat)
    (hpre:∀ j c,lookup j h = some c→∃ c',lookup j H = some c'∧Conv c' c)
    (hpost:∀ (φ:Place) R w,HRel φ R w (fun k=>lookup k h1)→∀ j c,lookup j H1 = some c→ChunkRel (fun k=>(ρ k).bind φ) R w j c)
    (hown:∀ j a,ρ j = some a→(∃ c,lookup j H1 = some c)→∃ c,lookup a h1 = some c)
    (hinj:∀ i j a,ρ i = some a→ρ j = some a→i = j)
    (hret:∀ (φ:Place) R w v,RepV φ R w ret v→RepV (fun k=>(ρ k).bind φ) R w ret' v)
    (hfix:∀ j c,lookup j H = some c→c.fixed = true→ρ j = some j∧(∃ c',lookup j h = some c'∧c'.fixed = true)∧∃ c',lookup j H1 = some c'∧c'.fixed = true) :
    HSpec P gl f args H ret' H1:=by
  refine ⟨k.1,fun φ R w vs hh hR hgl hargs=>?_⟩
  have h0:HRel φ R w (fun k=>lookup k h):=⟨fun j c hj=>by
      obtain ⟨c',h1,h2⟩:=hpre j c hj
      exact h2 _ _ _ _ (hh.rel j c' h1),fun i j c d b cap cap' hi hj hp hp'=>by
      obtain ⟨c',h1,_⟩:=hpre i c hi
      obtain ⟨d',h2,_⟩:=hpre j d hj
      exact hh.inj i j c' d' b cap cap' h1 h2 hp hp'⟩
  have hsub:∀ b,Owns φ (fun k=>lookup k h) b→Owns φ (fun k=>lookup k H) b:=fun b ⟨j,c,cap,hj,hp⟩=>by
    obtain ⟨c',h1,_⟩:=hpre j c hj
    exact ⟨j,c',cap,h1,hp⟩
  refine (k.2 φ R w vs h0 hR hgl hargs).mono ?_
  rintro e w' ⟨v,φ',R',rfl,hv,hh',hR',hevo,hkeep⟩
  have hplace:∀ j c b cap,lookup j H1 = some c→(ρ j).bind φ' = some (b,cap)→∃ a c',ρ j = some a∧lookup a h1 = some c'∧φ' a = some (b,cap):=fun j c b cap hj hp=>by
    cases hr:ρ j with
    | none=>rw [hr] at hp;cases hp
    | some a=>
      rw [hr] at hp
      obtain ⟨c',hc'⟩:=hown j a hr ⟨c,hj⟩
      exact ⟨a,c',rfl,hc',hp⟩
  have hsub':∀ b,Owns (fun k=>(ρ k).bind φ') (fun k=>lookup k H1) b→Owns φ' (fun k=>lookup k h1) b:=fun b ⟨j,c,cap,hj,hp⟩=>by
    obtain ⟨a,c',_,h2,h3⟩:=hplace j c b cap hj hp
    exact ⟨a,c',cap,h2,h3⟩
  refine ⟨v,fun k=>(ρ k).bind φ',R',rfl,hret _ _ _ _ hv,⟨fun j c hj=>hpost φ' R' w' hh' j c hj,fun i j c d b cap cap' hi hj hp hp'=>?_⟩,hR',
    ⟨hevo.os,hevo.tape,hevo.output,hevo.size,fun b hb ho=>hevo.keep b hb (fun hx=>ho (hsub b hx)),hevo.rmono,hevo.rkeep,fun b o hb=>?_,fun b hb=>?_⟩,fun j c hj hc=>?_⟩
  · obtain ⟨a,c',r1,h1,h2⟩:=hplace i c b cap hi hp
    obtain ⟨a',d',r2,h3,h4⟩:=hplace j d b cap' hj hp'
    have:=hh'.inj a a' c' d' b cap cap' h1 h3 h2 h4
    subst this
    exact hinj i j a r1 r2
  · rcases hevo.rnew b o hb with h|h|h
    · exact .inl h
    · exact .inr (.inl h)
    · exact .inr (.inr (hsub b h))
  · rcases hevo.onew b (hsub' b hb) with h|h
    · exact .inl h
    · exact .inr (hsub b h)
  · obtain ⟨r,⟨c',h1,h2⟩,h3⟩:=hfix j c hj hc
    obtain ⟨h4,_⟩:=hkeep j c' h1 h2
    exact ⟨by simp only [r,Option.bind_some,h4],h3⟩
end Go.Fw
