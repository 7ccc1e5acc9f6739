import Derived.Test.YtfaplilocljknaaGFw11
set_option linter.all false
namespace Go.Fw.Hv
open Go.Fw
abbrev Hs:=List (Nat × Chunk)
structure HvFact (P:Program) (gl:Gl) (o:Oper) (ev:Operand→AV) (lk:Heap) (v:AV) (h h':Hs):Prop where
  guard:o.guard = none
  call:∃ f args ats g caps,o.op = .call ⟨.value f,args,ats⟩∧(ev f).un = .fn g caps∧HSpec P gl g (args.toList.map (fun x=>(ev x).un) ++ caps) h v h'∧∀ x∈o.op.operands,okP (ev x)
  has:∀ j c,lookup j h = some c→lk j = some c
  keys:∀ j,(∃ c,lookup j h = some c) ↔ (∃ c,lookup j h' = some c)
  ret:∀ j,v.has j = false
  cl:∀ j c k,lookup j h' = some c→c.has k = true→∃ c',lookup k h' = some c'
  ne:h≠[]
def keysL (h:Hs):List Nat:=h.map (·.1)
theorem keysL_mem {h:Hs} {j:Nat}:j∈keysL h ↔ ∃ c,lookup j h = some c:=by
  induction h with
  | nil=>simp [keysL,lookup]
  | cons x r ih=>
    obtain ⟨k,c⟩:=x
    rw [lookup_cons]
    simp only [keysL,List.map_cons,List.mem_cons] at ih ⊢
    by_cases e:k = j
    · subst e;simp
    · rw [if_neg e,← ih]
      constructor
      · rintro (h|h)
        · exact absurd h.symm e
        · exact h
      · exact .inr
def moves (h:Hs) (j:Nat):Prop:=∃ c,lookup j h = some c∧c.fixed = false
def St.stepH (st:St) (dst:Option Nat) (v:AV) (h':Hs):St:=
  { n:=st.n,fix:=st.fix,next:=st.next + 1,env:=(match dst with|some d=>(d,v) :: st.env|none=>st.env),heap:=h' ++ st.heap,gl:=st.gl }
theorem stepH_get (st:St) (dst:Option Nat) (v:AV) (h':Hs):(St.stepH st dst v h').get = setE st.get dst v:=by
  funext t
  cases dst with
  | none=>simp [St.stepH,St.get,setE]
  | some d=>
    simp only [St.stepH,St.get,setE,lookup_cons,Option.some.injEq]
    by_cases h:d = t <;> simp [h]
theorem lookup_app (h g:Hs) (k:Nat):lookup k (h ++ g) = match lookup k h with|some c=>some c|none=>lookup k g:=by
  rw [lookup_append]
  cases lookup k h <;> rfl
theorem stepH_lk (st:St) (dst:Option Nat) (v:AV) (h':Hs) (k:Nat):(St.stepH st dst v h').lk k = match lookup k h' with|some c=>some c|none=>st.lk k:=lookup_app h' st.heap k
def logH (ev:Operand→AV) (o:Oper) (h:Hs):List Nat × List Nat:=((o.op.operands.toList.flatMap fun x=>(ev x).ids) ++ keysL h,keysL h)
def awpHeadH (P:Program) (T:Tab) (ops:Array Oper) (Ms:List (List Nat × List Nat)):List Oper→St→List (List Nat × List Nat)→(St→List (List Nat × List Nat)→Prop)→Prop
  | [],st,log,K=>K st log
  | o :: r,st,log,K=>match o.op,o.guard with
    | .call _,none=>opG P T ops st.gl st.lk st.ev st.next o (fun v upd c=>awpHeadH P T ops Ms r (st.step o.dst v upd c) ((touched st.ev o upd,writes st.next upd c) :: log) K)∨
        ∃ v h h',HvFact P st.gl o st.ev st.lk v h h'∧(movIds h,keysL h)∈Ms∧awpHeadH P T ops Ms r (St.stepH st o.dst v h') (logH st.ev o h :: log) K
    | _,_=>opG P T ops st.gl st.lk st.ev st.next o (fun v upd c=>awpHeadH P T ops Ms r (st.step o.dst v upd c) ((touched st.ev o upd,writes st.next upd c) :: log) K)
theorem WF.stepH {st:St} (h:WF st.next st.get st.lk st.gl) {P:Program} {o:Oper} {v:AV} {g g':Hs} (hf:HvFact P st.gl o st.ev st.lk v g g') :
    WF (St.stepH st o.dst v g').next (St.stepH st o.dst v g').get (St.stepH st o.dst v g').lk (St.stepH st o.dst v g').gl:=by
  have hsub:∀ j,(∃ ch,st.lk j = some ch)→∃ ch,(St.stepH st o.dst v g').lk j = some ch:=fun j ⟨ch,hch⟩=>by
    rw [stepH_lk]
    cases lookup j g' with
    | some c=>exact ⟨c,rfl⟩
    | none=>exact ⟨ch,hch⟩
  have hold:∀ j c,lookup j g' = some c→∃ ch,st.lk j = some ch:=fun j c hc=>by
    obtain ⟨c',hc'⟩:=(hf.keys j).2 ⟨c,hc⟩
    exact ⟨c',hf.has j c' hc'⟩
  refine ⟨fun t j hj=>?_,fun j c k hj hk=>?_,fun j c hj=>?_,h.glf⟩
  · rw [stepH_get] at hj
    unfold setE at hj
    split at hj
    · rw [hf.ret j] at hj;cases hj
    · exact hsub j (h.named t j hj)
  · rw [stepH_lk] at hj
    cases hl:lookup j g' with
    | some c'=>
      rw [hl] at hj
      simp only [Option.some.injEq] at hj
      subst hj
      obtain ⟨d,hd⟩:=hf.cl j c' k hl hk
      exact ⟨d,by rw [stepH_lk,hd]⟩
    | none=>
      rw [hl] at hj
      exact hsub k (h.hnamed j c k hj hk)
  · show j < st.next + 1
    rw [stepH_lk] at hj
    cases hl:lookup j g' with
    | some c'=>
      obtain ⟨ch,hch⟩:=hold j c' hl
      have:=h.hnext j ch hch;omega
    | none=>
      rw [hl] at hj
      have:=h.hnext j c hj;omega
inductive OpEff (P:Program) (ops:Array Oper) (o:Oper) (st st':St) (v:AV) (u:Upd) (c:Option Chunk) (g g':Hs):Prop
  | light (h:OpFact P st.gl ops o st.ev st.lk st.next v u c) (mv:quiet o = true→OpFact P st.gl ops o st.ev noHeap st.next v u c) (hg:g = []) (hg':g' = []) (hs:st' = st.step o.dst v u c)
  | heavy (h:HvFact P st.gl o st.ev st.lk v g g') (hu:u = []) (hc:c = none) (hs:st' = St.stepH st o.dst v g')
structure Run (P:Program) (ops:Array Oper) (os:List Oper) (st:St) (sts:Nat→St) (vs:Nat→AV) (us:Nat→Upd) (cs:Nat→Option Chunk) (gs gs':Nat→Hs) (Ms:List (List Nat × List Nat)):Prop where
  zero:sts 0 = st
  eff:∀ i o,os[i]? = some o→OpEff P ops o (sts i) (sts (i + 1)) (vs i) (us i) (cs i) (gs i) (gs' i)
  ms:∀ i o,os[i]? = some o→gs i≠[]→(movIds (gs i),keysL (gs i))∈Ms
def logE (os:List Oper) (sts:Nat→St) (us:Nat→Upd) (cs:Nat→Option Chunk) (gs:Nat→Hs) (i:Nat):List Nat × List Nat:=
  match os[i]? with
  | some o=>match gs i with
    | []=>(touched (sts i).ev o (us i),writes (sts i).next (us i) (cs i))
    | x :: r=>logH (sts i).ev o (x :: r)
  | none=>([],[])
section
variable {P:Program} {T:Tab} (hT:tabOK P T = true)
include hT
theorem head_run {ops:Array Oper} {Ms:List (List Nat × List Nat)}:∀ (os:List Oper) (st:St) (log:List (List Nat × List Nat)) (K:St→List (List Nat × List Nat)→Prop),awpHeadH P T ops Ms os st log K→WF st.next st.get st.lk st.gl→
    ∃ sts vs us cs gs gs',Run P ops os st sts vs us cs gs gs' Ms∧K (sts os.length) (((List.range os.length).map (logE os sts us cs gs)).reverse ++ log)
  | [],st,log,K,h,hw=>⟨fun _=>st,fun _=>.any,fun _=>[],fun _=>none,fun _=>[],fun _=>[],⟨rfl,fun i o h=>by simp at h,fun i o h=>by simp at h⟩,by simpa [awpHeadH] using h⟩
  | o :: r,st,log,K,h,hw=>by
    have h:opG P T ops st.gl st.lk st.ev st.next o (fun v upd c=>awpHeadH P T ops Ms r (st.step o.dst v upd c) ((touched st.ev o upd,writes st.next upd c) :: log) K)∨
        ∃ v h h',HvFact P st.gl o st.ev st.lk v h h'∧(movIds h,keysL h)∈Ms∧awpHeadH P T ops Ms r (St.stepH st o.dst v h') (logH st.ev o h :: log) K:=by
      simp only [awpHeadH] at h
      split at h
      · exact h
      · exact .inl h
    have hfr:∀ x∈o.op.operands,AV.has st.next (st.ev x) = false:=fun x _=>by
      cases hx:AV.has st.next (st.ev x) with
      | false=>rfl
      | true=>
        obtain ⟨c,hc⟩:=hw.ev x _ hx
        have:=hw.hnext _ _ hc
        omega
    obtain ⟨st1,v,u,c,g,g',le,hk,he,hm,hw1,hle⟩:∃ st1 v u c g g' le,awpHeadH P T ops Ms r st1 (le :: log) K∧OpEff P ops o st st1 v u c g g'∧(g≠[]→(movIds g,keysL g)∈Ms)∧WF st1.next st1.get st1.lk st1.gl∧
        le = (match g with|[]=>(touched st.ev o u,writes st.next u c)|x :: r=>logH st.ev o (x :: r)):=by
      rcases h with h|⟨v,g,g',hf,hms,hk⟩
      · by_cases hq:quiet o = true
        · obtain ⟨v,upd,c,hk,hf⟩:=opG_sound hT o (quiet_opG hq h) hfr
          exact ⟨_,v,upd,c,[],[],_,hk,.light hf.lift (fun _=>hf) rfl rfl rfl,fun h=>absurd rfl h,hw.step hf.lift,rfl⟩
        · obtain ⟨v,upd,c,hk,hf⟩:=opG_sound hT o h hfr
          exact ⟨_,v,upd,c,[],[],_,hk,.light hf (fun h=>absurd h hq) rfl rfl rfl,fun h=>absurd rfl h,hw.step hf,rfl⟩
      · refine ⟨_,v,[],none,g,g',_,hk,.heavy hf rfl rfl rfl,fun _=>hms,WF.stepH hw hf,?_⟩
        cases g with
        | nil=>exact absurd rfl hf.ne
        | cons x y=>rfl
    obtain ⟨sts,vs,us,cs,gs,gs',hrun,hk⟩:=head_run r _ _ K hk hw1
    refine ⟨fun i=>match i with|0=>st|i + 1=>sts i,fun i=>match i with|0=>v|i + 1=>vs i,fun i=>match i with|0=>u|i + 1=>us i,fun i=>match i with|0=>c|i + 1=>cs i,fun i=>match i with|0=>g|i + 1=>gs i,fun i=>match i with|0=>g'|i + 1=>gs' i,⟨rfl,fun i o' ho'=>?_,fun i o' ho'=>?_⟩,?_⟩
    · cases i with
      | zero=>simp at ho';subst ho';show OpEff P ops o st (sts 0) v u c g g';rw [hrun.zero];exact he
      | succ i=>exact hrun.eff i o' (by simpa using ho')
    · cases i with
      | zero=>exact hm
      | succ i=>exact hrun.ms i o' (by simpa using ho')
    · have e:((List.range (o :: r).length).map (logE (o :: r) (fun i=>match i with|0=>st|i + 1=>sts i) (fun i=>match i with|0=>u|i + 1=>us i) (fun i=>match i with|0=>c|i + 1=>cs i) (fun i=>match i with|0=>g|i + 1=>gs i))).reverse ++ log =
          ((List.range r.length).map (logE r sts us cs gs)).reverse ++ (le :: log):=by
        simp only [List.length_cons,List.range_succ_eq_map,List.map_cons,List.map_map,List.reverse_cons,List.append_assoc,List.singleton_append]
        rw [hle]
        congr 1
      rw [e]
      exact hk
end
def wrH (os:List Oper) (base:Nat) (us:Nat→Upd) (cs:Nat→Option Chunk) (gs':Nat→Hs) (i k:Nat):Option (Option Chunk):=
  match os[i]? with
  | some _=>match lookup k (gs' i) with
    | some c=>some (some c)
    | none=>if k = base + i∧(cs i).isSome = true then some (cs i) else (findW (us i) k).map fun n=>some (.box n)
  | none=>none
section
variable {P:Program} {ops:Array Oper} {os:List Oper} {st:St} {sts:Nat→St} {vs:Nat→AV} {us:Nat→Upd} {cs:Nat→Option Chunk} {gs gs':Nat→Hs} {Ms:List (List Nat × List Nat)}
theorem OpEff.next {o:Oper} {st st':St} {v:AV} {u:Upd} {c:Option Chunk} {g g':Hs} (h:OpEff P ops o st st' v u c g g'):st'.n = st.n∧st'.fix = st.fix∧st'.next = st.next + 1∧st'.gl = st.gl∧st'.get = setE st.get o.dst v:=by
  cases h with
  | light h mv hg hg' hs=>subst hs;exact ⟨rfl,rfl,rfl,rfl,step_get ..⟩
  | heavy h hu hc hs=>subst hs;exact ⟨rfl,rfl,rfl,rfl,stepH_get ..⟩
theorem Run.consts (h:Run P ops os st sts vs us cs gs gs' Ms):∀ i,i≤os.length→(sts i).n = st.n∧(sts i).fix = st.fix∧(sts i).next = st.next + i∧(sts i).gl = st.gl
  | 0,_=>by rw [h.zero];exact ⟨rfl,rfl,rfl,rfl⟩
  | i + 1,hi=>by
    have ih:=h.consts i (by omega)
    have ho:os[i]? = some os[i]:=by simp [show i < os.length by omega]
    have e:=(h.eff i _ ho).next
    exact ⟨e.1.trans ih.1,e.2.1.trans ih.2.1,by rw [e.2.2.1,ih.2.2.1];omega,e.2.2.2.1.trans ih.2.2.2⟩
theorem Run.get (h:Run P ops os st sts vs us cs gs gs' Ms):∀ i,i≤os.length→∀ t,(sts i).get t = fold (wrE os vs) (fun _=>true) st.get i t
  | 0,_,t=>by rw [h.zero];rfl
  | i + 1,hi,t=>by
    have ih:=h.get i (by omega) t
    have ho:os[i]? = some os[i]:=by simp [show i < os.length by omega]
    rw [(h.eff i _ ho).next.2.2.2.2]
    simp only [setE,fold,if_true,wrE,ho,← ih]
    split <;> rfl
theorem Run.lk (h:Run P ops os st sts vs us cs gs gs' Ms):∀ i,i≤os.length→∀ k,(sts i).lk k = fold (wrH os st.next us cs gs') (fun _=>true) st.lk i k
  | 0,_,k=>by rw [h.zero];rfl
  | i + 1,hi,k=>by
    have ih:=h.lk i (by omega) k
    have ho:os[i]? = some os[i]:=by simp [show i < os.length by omega]
    have hn:=(h.consts i (by omega)).2.2.1
    cases h.eff i _ ho with
    | light hf mv hg hg' hs=>
      rw [hs,step_lk _ _ _ _ _ hf.keys hf.ok,addC_wr hf.keys hf.ok k]
      simp only [fold,if_true,wrH,ho,← ih,hg',hn]
      rfl
    | heavy hf hu hc hs=>
      rw [hs,stepH_lk]
      simp only [fold,if_true,wrH,ho,← ih,hu,hc]
      cases lookup k (gs' i) with
      | some c=>rfl
      | none=>simp [findW]
def tchE (os:List Oper) (sts:Nat→St) (us:Nat→Upd) (cs:Nat→Option Chunk) (gs:Nat→Hs) (i:Nat):List Nat:=(logE os sts us cs gs i).1
def wrtE (os:List Oper) (sts:Nat→St) (us:Nat→Upd) (cs:Nat→Option Chunk) (gs:Nat→Hs) (i:Nat):List Nat:=(logE os sts us cs gs i).2
structure Ordered (ops:Array Oper) (os:List Oper) (sts:Nat→St) (us:Nat→Upd) (cs:Nat→Option Chunk) (gs:Nat→Hs):Prop where
  pair:∀ i j oi oj,i < j→os[i]? = some oi→os[j]? = some oj→((masks ops.toList []).getD j 0).testBit i = true∨
    (oi.apart ops oj = true∧(∀ k∈wrtE os sts us cs gs i,k ∉ tchE os sts us cs gs j)∧(∀ k∈wrtE os sts us cs gs j,k ∉ tchE os sts us cs gs i))
theorem ordered_of {ops:Array Oper} {os:List Oper} {N:Nat} (hos:∀ i,os[i]? = if i < N then ops[i]? else none) (hN:os.length = N)
    (h:pairsOK ops ((List.range os.length).map (logE os sts us cs gs)) = true):Ordered ops os sts us cs gs:=⟨fun i j oi oj hij hi hj=>by
  have hjl:j < os.length:=(List.getElem?_eq_some_iff.1 hj).1
  have hil:i < os.length:=by omega
  unfold pairsOK at h
  rw [List.all_eq_true] at h
  have h1:=h j (by simp;exact hjl)
  rw [List.all_eq_true] at h1
  have h2:=h1 i (by simp;exact hij)
  have ei:ops[i]? = some oi:=by have:=hos i;rw [hi,if_pos (by omega)] at this;exact this.symm
  have ej:ops[j]? = some oj:=by have:=hos j;rw [hj,if_pos (by omega)] at this;exact this.symm
  have li:((List.range os.length).map (logE os sts us cs gs))[i]? = some (logE os sts us cs gs i):=by simp [hil]
  have lj:((List.range os.length).map (logE os sts us cs gs))[j]? = some (logE os sts us cs gs j):=by simp [hjl]
  simp only [ei,ej,li,lj,Bool.or_eq_true,Bool.and_eq_true] at h2
  refine h2.imp (fun h=>h) (fun ⟨h3,h4⟩=>⟨h3,?_⟩)
  simp only [apartIds,Bool.and_eq_true,List.all_eq_true,Bool.not_eq_true',List.contains_eq_mem,decide_eq_false_iff_not] at h4
  exact h4⟩
theorem tch_light {i:Nat} {o:Oper} (ho:os[i]? = some o) (hg:gs i = []):tchE os sts us cs gs i = touched (sts i).ev o (us i)∧wrtE os sts us cs gs i = writes (sts i).next (us i) (cs i):=by
  simp [tchE,wrtE,logE,ho,hg]
theorem tch_heavy {i:Nat} {o:Oper} (ho:os[i]? = some o) (hg:gs i≠[]):tchE os sts us cs gs i = (logH (sts i).ev o (gs i)).1∧wrtE os sts us cs gs i = keysL (gs i):=by
  unfold tchE wrtE logE
  rw [ho]
  cases h:gs i with
  | nil=>exact absurd h hg
  | cons x r=>exact ⟨rfl,rfl⟩
theorem wrH_mem (h:Run P ops os st sts vs us cs gs gs' Ms) {i k:Nat} (hi:i≤os.length) (hw:(wrH os st.next us cs gs' i k).isSome = true):∃ o,os[i]? = some o∧k∈wrtE os sts us cs gs i:=by
  unfold wrH at hw
  split at hw
  · rename_i o ho
    refine ⟨o,ho,?_⟩
    cases h.eff i o ho with
    | light hf mv hg hg' hs=>
      rw [(tch_light ho hg).2]
      rw [hg'] at hw
      simp only [lookup] at hw
      unfold writes
      rw [(h.consts i hi).2.2.1]
      split at hw
      · rename_i hc
        obtain ⟨ch,hch⟩:=Option.isSome_iff_exists.1 hc.2
        rw [hch,hc.1];simp
      · exact List.mem_append_left _ (findW_mem (by simpa using hw)).1
    | heavy hf hu hc hs=>
      rw [(tch_heavy ho hf.ne).2]
      rw [hu,hc] at hw
      cases hl:lookup k (gs' i) with
      | some c=>exact keysL_mem.2 ((hf.keys k).2 ⟨c,hl⟩)
      | none=>rw [hl] at hw;simp [findW] at hw
  · simp at hw
theorem Run.bound (h:Run P ops os st sts vs us cs gs gs' Ms) (h0:∀ k c,st.lk k = some c→k < st.next):∀ m,m≤os.length→∀ k c,(sts m).lk k = some c→k < st.next + m
  | 0,_,k,c,hk=>by rw [h.zero] at hk;exact h0 k c hk
  | m + 1,hm,k,c,hk=>by
    have ho:os[m]? = some os[m]:=by simp [show m < os.length by omega]
    have hn:=(h.consts m (by omega)).2.2.1
    cases h.eff m _ ho with
    | light hf mv hg hg' hs=>
      rw [hs,step_lk _ _ _ _ _ hf.keys hf.ok] at hk
      unfold addC at hk
      split at hk
      · omega
      · rcases applyU_inv hk with ⟨x,hx,rfl,_⟩|⟨_,hk⟩
        · have:=h.bound h0 m (by omega) x.1 _ (hf.ok.get x hx);omega
        · have:=h.bound h0 m (by omega) k c hk;omega
    | heavy hf hu hc hs=>
      rw [hs,stepH_lk] at hk
      cases hl:lookup k (gs' m) with
      | some c'=>
        obtain ⟨d,hd⟩:=(hf.keys k).2 ⟨c',hl⟩
        have:=h.bound h0 m (by omega) k d (hf.has k d hd);omega
      | none=>
        rw [hl] at hk
        have:=h.bound h0 m (by omega) k c hk;omega
theorem Run.newNone (h:Run P ops os st sts vs us cs gs gs' Ms) (h0:∀ k c,st.lk k = some c→k < st.next) {i:Nat} (hc:cs i = none):∀ m,m≤os.length→(sts m).lk (st.next + i) = none
  | 0,_=>by
    rw [h.zero]
    cases hk:st.lk (st.next + i) with
    | none=>rfl
    | some c=>have:=h0 _ _ hk;omega
  | m + 1,hm=>by
    have ho:os[m]? = some os[m]:=by simp [show m < os.length by omega]
    have hn:=(h.consts m (by omega)).2.2.1
    have ih:=h.newNone h0 hc m (by omega)
    cases h.eff m _ ho with
    | light hf mv hg hg' hs=>
      rw [hs,step_lk _ _ _ _ _ hf.keys hf.ok]
      have hu:applyU (sts m).lk (us m) (st.next + i) = none:=by
        rw [applyU_none]
        · exact ih
        · intro x hx e
          have:=hf.ok.get x hx
          rw [e,ih] at this
          simp at this
      unfold addC
      split
      · rename_i e
        have:m = i:=by omega
        subst this
        rw [hc]
        exact hu
      · exact hu
    | heavy hf hu hc' hs=>
      rw [hs,stepH_lk]
      cases hl:lookup (st.next + i) (gs' m) with
      | some c'=>
        obtain ⟨d,hd⟩:=(hf.keys _).2 ⟨c',hl⟩
        have:=hf.has _ d hd
        rw [ih] at this;cases this
      | none=>exact ih
abbrev ED (os:List Oper) (st:St) (vs:Nat→AV) (L:Nat→Bool):Nat→AV:=fold (wrE os vs) L st.get os.length
abbrev HD (os:List Oper) (st:St) (us:Nat→Upd) (cs:Nat→Option Chunk) (gs':Nat→Hs) (L:Nat→Bool):Heap:=fold (wrH os st.next us cs gs') L st.lk os.length
structure Clean (os:List Oper) (st:St) (vs:Nat→AV) (us:Nat→Upd) (cs:Nat→Option Chunk) (gs gs':Nat→Hs):Prop where
  fix:∀ i o,os[i]? = some o→∀ m,m∈movIds (gs i)→st.fix≤m
  env:∀ i o,os[i]? = some o→∀ m,m∈movIds (gs i)→∀ t,(st.get t).has m = false
  val:∀ i o,os[i]? = some o→∀ m,m∈movIds (gs i)→∀ j t v,wrE os vs j t = some v→v.has m = false
  heap:∀ i o,os[i]? = some o→∀ m,m∈movIds (gs i)→∀ k c,st.lk k = some c→c.has m = true→k∈keysL (gs i)
  wr:∀ i o,os[i]? = some o→∀ m,m∈movIds (gs i)→∀ j k c,wrH os st.next us cs gs' j k = some (some c)→c.has m = true→k∈keysL (gs i)
theorem fold_some {K V:Type} {wr:Nat→K→Option V} {L:Nat→Bool} {init:K→V} {k:K}:∀ n,fold wr L init n k = init k∨∃ j,j < n∧wr j k = some (fold wr L init n k)
  | 0=>.inl rfl
  | n + 1=>by
    simp only [fold]
    split
    · cases h:wr n k with
      | none=>simp only [Option.getD_none];exact (fold_some n).imp (fun h=>h) (fun ⟨j,h1,h2⟩=>⟨j,by omega,h2⟩)
      | some v=>exact .inr ⟨n,by omega,by simp [h]⟩
    · exact (fold_some n).imp (fun h=>h) (fun ⟨j,h1,h2⟩=>⟨j,by omega,h2⟩)
theorem Clean.ed (h:Clean os st vs us cs gs gs') {i:Nat} {o:Oper} (ho:os[i]? = some o) {m:Nat} (hm:m∈movIds (gs i)) (L:Nat→Bool) (t:Nat):(ED os st vs L t).has m = false:=by
  rcases fold_some (wr:=wrE os vs) (L:=L) (init:=st.get) (k:=t) os.length with e|⟨j,_,e⟩
  · unfold ED;rw [e];exact h.env i o ho m hm t
  · exact h.val i o ho m hm j t _ e
theorem Clean.hd (h:Clean os st vs us cs gs gs') {i:Nat} {o:Oper} (ho:os[i]? = some o) {m:Nat} (hm:m∈movIds (gs i)) (L:Nat→Bool) {k:Nat} {c:Chunk} (hk:HD os st us cs gs' L k = some c) (hc:c.has m = true):k∈keysL (gs i):=by
  rcases fold_some (wr:=wrH os st.next us cs gs') (L:=L) (init:=st.lk) (k:=k) os.length with e|⟨j,_,e⟩
  · have e2:HD os st us cs gs' L k = st.lk k:=e
    rw [hk] at e2
    exact h.heap i o ho m hm k c e2.symm hc
  · have e2:wrH os st.next us cs gs' j k = some (HD os st us cs gs' L k):=e
    rw [hk] at e2
    exact h.wr i o ho m hm j k c e2 hc
theorem heavy_step {R:Prot} {φ:Place} {n nx:Nat} {E:Nat→AV} {H:Heap} {gl:Gl} {a:Act} {w:World} (hs:SatF R φ n nx E H gl a w) {h h':Hs} {ret:AV} {fix:Nat}
    (hlk:∀ j c,lookup j h = some c→H j = some c) (hkeys:∀ j,(∃ c,lookup j h = some c) ↔ (∃ c,lookup j h' = some c)) (hret:∀ j,ret.has j = false) (hcl:∀ j c k,lookup j h' = some c→c.has k = true→∃ c',lookup k h' = some c')
    (hfx:∀ m,m∈movIds h→fix≤m) (hE:∀ m,m∈movIds h→∀ t,(E t).has m = false) (hH:∀ m,m∈movIds h→∀ k c,H k = some c→c.has m = true→k∈keysL h)
    {φ1:Place} {R1:Prot} {w1:World} {v:Value} (hv:RepV φ1 R1 w1 ret v) (hh':HRel φ1 R1 w1 (fun k=>lookup k h')) (hrb:RB R1 w1)
    (hevo:Evo R (Owns φ (fun k=>lookup k h)) w R1 (Owns φ1 (fun k=>lookup k h')) w1) (hkeep:∀ id c,lookup id h = some c→c.fixed = true→φ1 id = φ id∧∃ c',lookup id h' = some c'∧c'.fixed = true)
    {dst:Option Nat} (hd:∀ d,dst = some d→d < n) :
    ∃ φ2,SatF R1 φ2 n nx (setE E dst ret) (fun k=>match lookup k h' with|some c=>some c|none=>H k) gl (a.put dst v) w1∧
      Evo R (Owns φ H) w R1 (Owns φ2 (fun k=>match lookup k h' with|some c=>some c|none=>H k)) w1∧∀ j,j < fix→φ2 j = φ j:=by
  let φ2:Place:=fun j=>match lookup j h with|some _=>φ1 j|none=>φ j
  have p1:∀ j c,lookup j h' = some c→φ2 j = φ1 j:=fun j c hj=>by
    obtain ⟨d,hd⟩:=(hkeys j).2 ⟨c,hj⟩
    simp only [φ2,hd]
  have hnh:∀ j,lookup j h' = none→lookup j h = none:=fun j hj=>by
    cases hl:lookup j h with
    | none=>rfl
    | some c=>obtain ⟨d,hd⟩:=(hkeys j).1 ⟨c,hl⟩;rw [hj] at hd;cases hd
  have p0:∀ j,lookup j h = none→φ2 j = φ j:=fun j hj=>by simp only [φ2,hj]
  have pm:∀ j,j ∉ movIds h→φ2 j = φ j:=fun j hj=>by
    cases hl:lookup j h with
    | none=>exact p0 j hl
    | some c=>
      simp only [φ2,hl]
      exact (hkeep j c hl (movIds_mem hl hj)).1
  have hinv:∀ j c,(match lookup j h' with|some c=>some c|none=>H j) = some c→lookup j h' = some c∨(lookup j h' = none∧H j = some c):=fun j c hj=>by
    cases hl:lookup j h' with
    | some d=>rw [hl] at hj;exact .inl hj
    | none=>rw [hl] at hj;exact .inr ⟨rfl,hj⟩
  have hex:∀ j,(∃ c,H j = some c)→∃ c,(match lookup j h' with|some c=>some c|none=>H j) = some c:=fun j ⟨c,hc⟩=>by
    cases hl:lookup j h' with
    | some d=>exact ⟨d,rfl⟩
    | none=>exact ⟨c,hc⟩
  have hold:∀ j c,lookup j h' = some c→∃ c',H j = some c':=fun j c hj=>by
    obtain ⟨d,hd⟩:=(hkeys j).2 ⟨c,hj⟩
    exact ⟨d,hlk j d hd⟩
  have hown:∀ b,Owns φ (fun k=>lookup k h) b→Owns φ H b:=fun b ⟨j,c,b0,cap,hj,hp,hx⟩=>⟨j,c,b0,cap,hlk j c hj,hp,hx⟩
  have hnot:∀ j c b cap x,H j = some c→lookup j h = none→φ j = some (b,cap)→c.at b cap x→¬ Owns φ (fun k=>lookup k h) x:=by
    rintro j c b cap x hj hk hp hx ⟨k,d,b',cap',hk',hp',hx'⟩
    have:=hs.heap.inj j k c d b b' cap cap' x hj (hlk k d hk') hp hp' hx hx'
    subst this
    have hk':lookup j h = some d:=hk'
    rw [hk] at hk'
    cases hk'
  have hget:∀ t,(a.put dst v).tmps.getD t undef = if dst = some t then v else a.tmps.getD t undef:=fun t=>getD_put a dst v t (fun d hd'=>by rw [hs.sz];exact hd d hd')
  refine ⟨φ2,⟨fun t=>?_,fun t j hj=>?_,fun j c k hj hk=>?_,fun j c hj=>?_,?_,⟨fun j c hj=>?_,fun j k c d b b' cap cap' x hj hk hp hp' hx hx'=>?_⟩,hrb,?_,fun g cs hg=>?_⟩,
    ⟨hevo.os,hevo.tape,hevo.output,hevo.size,fun b hb ho=>hevo.keep b hb (fun hx=>ho (hown b hx)),hevo.rmono,hevo.rkeep,fun b o hb=>?_,fun b hb=>?_⟩,fun j hj=>pm j (fun hm=>by have:=hfx j hm;omega)⟩
  · rw [hget]
    unfold setE
    split
    · exact RepV.mono (fun _ _ h=>h) (fun _ _ _=>rfl) (fun j hj=>by rw [hret j] at hj;cases hj) hv
    · exact RepV.mono hevo.rmono hevo.rkeep (fun j hj=>pm j (fun hm=>by rw [hE j hm t] at hj;cases hj)) (hs.env t)
  · unfold setE at hj
    split at hj
    · rw [hret j] at hj;cases hj
    · exact hex j (hs.named t j hj)
  · rcases hinv j c hj with hj|⟨_,hj⟩
    · obtain ⟨d,hd⟩:=hcl j c k hj hk
      exact ⟨d,by simp only [hd]⟩
    · exact hex k (hs.hnamed j c k hj hk)
  · rcases hinv j c hj with hj|⟨_,hj⟩
    · obtain ⟨d,hd⟩:=hold j c hj
      exact hs.hnext j d hd
    · exact hs.hnext j c hj
  · have:=hs.sz
    cases dst <;> simp [Act.put,this]
  · rcases hinv j c hj with hj|⟨hn,hj⟩
    · exact (hh'.rel j c hj).mono (p1 j c hj) (fun k hk=>by obtain ⟨d,hd⟩:=hcl j c k hj hk;exact p1 k d hd) (fun _ _ h=>h) (fun _ _ _=>rfl) (fun _ _ _ _ _ _=>⟨rfl,fun _ h=>h⟩)
    · refine (hs.heap.rel j c hj).mono (p0 j (hnh j hn)) (fun k hk=>pm k (fun hm=>?_)) hevo.rmono hevo.rkeep (fun b cap x hp hx hlt=>⟨hevo.keep x hlt (hnot j c b cap x hj (hnh j hn) hp hx),fun o hr=>?_⟩)
      · obtain ⟨d,hd⟩:=keysL_mem.1 (hH k hm j c hj hk)
        rw [hnh j hn] at hd;cases hd
      · rcases hevo.rnew x o hr with h|h|h
        · exact h
        · omega
        · exact absurd h (hnot j c b cap x hj (hnh j hn) hp hx)
  · have cross:∀ i c j d b b' cap cap' x,lookup i h' = some c→(lookup j h' = none∧H j = some d)→φ2 i = some (b,cap)→φ2 j = some (b',cap')→c.at b cap x→d.at b' cap' x→False:=by
      intro i c j d b b' cap cap' x hi ⟨hn,hj⟩ hp hp' hx hx'
      rw [p1 i c hi] at hp
      rw [p0 j (hnh j hn)] at hp'
      rcases hevo.onew x ⟨i,c,b,cap,hi,hp,hx⟩ with h|h
      · have:=((hs.heap.rel j d hj).blocks hp' hx').1;omega
      · exact hnot j d b' cap' x hj (hnh j hn) hp' hx' h
    rcases hinv j c hj with hj1|⟨hn,hj1⟩
    · rcases hinv k d hk with hk1|⟨hn2,hk1⟩
      · rw [p1 j c hj1] at hp
        rw [p1 k d hk1] at hp'
        exact hh'.inj j k c d b b' cap cap' x hj1 hk1 hp hp' hx hx'
      · exact (cross j c k d b b' cap cap' x hj1 ⟨hn2,hk1⟩ hp hp' hx hx').elim
    · rcases hinv k d hk with hk1|⟨hn2,hk1⟩
      · exact (cross k d j c b' b cap' cap x hk1 ⟨hn,hj1⟩ hp' hp hx' hx).elim
      · rw [p0 j (hnh j hn)] at hp
        rw [p0 k (hnh k hn2)] at hp'
        exact hs.heap.inj j k c d b b' cap cap' x hj1 hk1 hp hp' hx hx'
  · have:=hs.defers
    cases dst <;> simpa [Act.put] using this
  · have:=hs.gl g cs hg
    refine ⟨RepV.mono hevo.rmono hevo.rkeep (fun j hj=>?_) this.1,this.2⟩
    simp only [AV.has] at hj
    rw [this.2 j] at hj
    simp at hj
  · rcases hevo.rnew b o hb with h|h|h
    · exact .inl h
    · exact .inr (.inl h)
    · exact .inr (.inr (hown b h))
  · obtain ⟨j,c,b0,cap,hj,hp,hx⟩:=hb
    rcases hinv j c hj with hj|⟨hn,hj⟩
    · rw [p1 j c hj] at hp
      rcases hevo.onew b ⟨j,c,b0,cap,hj,hp,hx⟩ with h|h
      · exact .inl h
      · exact .inr (hown b h)
    · rw [p0 j (hnh j hn)] at hp
      exact .inr ⟨j,c,b0,cap,hj,hp,hx⟩
theorem head_step (hrun:Run P ops os st sts vs us cs gs gs' Ms) (hord:Ordered ops os sts us cs gs) (hclean:Clean os st vs us cs gs gs') (hops:∀ (i:Nat) (o:Oper),os[i]? = some o→ops[i]? = some o) (h0:∀ k c,st.lk k = some c→k < st.next)
    {L:Nat→Bool} (hcl:Cl ops L) {i:Nat} {o:Oper} (ho:os[i]? = some o) (hi:L i = false) (hready:∀ e∈o.after,Region.binds .any e = true→L e.on = true)
    (hfn:st.fix≤st.next) {R:Prot} {φ:Place} {a:Act} {w:World} (hs:SatF R φ st.n (st.next + os.length) (ED os st vs L) (HD os st us cs gs' L) st.gl a w) (hd:dstB o st.n = true)
    {next:Act→World→Prop} {Q:Exit→Act→World→Prop}
    (hnext:∀ R' φ' a' w',SatF R' φ' st.n (st.next + os.length) (ED os st vs (fun j=>if j = i then true else L j)) (HD os st us cs gs' (fun j=>if j = i then true else L j)) st.gl a' w'→
      Evo R (Owns φ (HD os st us cs gs' L)) w R' (Owns φ' (HD os st us cs gs' (fun j=>if j = i then true else L j))) w'→(∀ j,j < st.fix→φ' j = φ j)→next a' w') :
    (if Region.wanted o (yielded ops a.tmps) = true then o.wp P a w next Q∨(o.asks P a w∧LetsOut Q) else next (a.put o.dst undef) w):=by
  have hil:i < os.length:=(List.getElem?_eq_some_iff.1 ho).1
  obtain ⟨hcn,hcf,hcx,hcg⟩:=hrun.consts i (by omega)
  have conf:∀ j oj,os[j]? = some oj→j≠i→
      ((L j = true ↔ j < i)∨(((j < i→oj.apart ops o = true)∧(i < j→o.apart ops oj = true))∧(∀ k∈wrtE os sts us cs gs i,k ∉ tchE os sts us cs gs j)∧(∀ k∈wrtE os sts us cs gs j,k ∉ tchE os sts us cs gs i))):=by
    intro j oj hj hne
    rcases Nat.lt_or_gt_of_ne hne with hlt|hgt
    · rcases hord.pair j i oj o hlt hj ho with h|⟨h1,h2,h3⟩
      · exact .inl ⟨fun _=>hlt,fun _=>cl_mask hcl i o (hops i o ho) hready j h⟩
      · exact .inr ⟨⟨fun _=>h1,fun h=>by omega⟩,h3,h2⟩
    · rcases hord.pair i j o oj hgt ho hj with h|⟨h1,h2,h3⟩
      · refine .inl ⟨fun hl=>?_,fun h=>by omega⟩
        have:=cl_mask hcl j oj (hops j oj hj) (hcl j oj (hops j oj hj) hl) i h
        rw [hi] at this;simp at this
      · exact .inr ⟨⟨fun h=>by omega,fun _=>h1⟩,h2,h3⟩
  have slotEq:∀ t,(t∈o.looksAt ops∨o.dst = some t)→ED os st vs L t = (sts i).get t:=by
    intro t ht
    rw [hrun.get i (by omega) t]
    refine fold_at (by omega) (fun j hj hw=>?_)
    obtain ⟨oj,hoj,hdj⟩:=wrE_dst hw
    by_cases e:j = i
    · subst e;simp [hi]
    · rcases conf j oj hoj e with h|⟨⟨h1,h2⟩,_⟩
      · exact h
      · exfalso
        rcases Nat.lt_or_gt_of_ne e with hlt|hgt
        · obtain ⟨a1,a2,a3⟩:=Oper.apart_spec (h1 hlt)
          rcases ht with ht|ht
          · exact a1 t hdj ht
          · exact a2 t hdj ht
        · obtain ⟨a1,a2,a3⟩:=Oper.apart_spec (h2 hgt)
          rcases ht with ht|ht
          · exact a3 t hdj ht
          · exact a2 t ht hdj
  have heapEq:∀ k,(k∈tchE os sts us cs gs i)→HD os st us cs gs' L k = (sts i).lk k:=by
    intro k hk
    rw [hrun.lk i (by omega) k]
    refine fold_at (by omega) (fun j hj hw=>?_)
    obtain ⟨oj,hoj,hm⟩:=wrH_mem hrun (by omega) hw
    by_cases e:j = i
    · subst e;simp [hi]
    · rcases conf j oj hoj e with h|⟨_,_,h2⟩
      · exact h
      · exact absurd hk (h2 k hm)
  have evEq:∀ x∈o.op.operands,(sts i).ev x = evF (ED os st vs L) st.gl x:=by
    intro x hx
    cases x with
    | tmp t=>
      show (sts i).get t = ED os st vs L t
      refine (slotEq t (.inl ?_)).symm
      unfold Oper.looksAt
      exact List.mem_append_left _ (List.mem_filterMap.2 ⟨.tmp t,by simpa using hx,rfl⟩)
    | const v=>rfl
    | global g=>simp only [St.ev,evF,hcg]
    | func f=>rfl
  have eE:ED os st vs (fun j=>if j = i then true else L j) = setE (ED os st vs L) o.dst (vs i):=by
    funext t
    unfold ED
    rw [fold_set hil hi (fun j hj hij hl hw=>?_)]
    · simp only [wrE,ho,setE]
      split <;> rfl
    · obtain ⟨oj,hoj,hdj⟩:=wrE_dst hw
      rcases conf j oj hoj (by omega) with h|⟨⟨_,h2⟩,_⟩
      · have:=h.1 hl;omega
      · obtain ⟨a1,a2,a3⟩:=Oper.apart_spec (h2 hij)
        simp only [wrE,ho]
        rw [if_neg (fun e=>a2 t e hdj)]
  have foldW:∀ k,HD os st us cs gs' (fun j=>if j = i then true else L j) k = (wrH os st.next us cs gs' i k).getD (HD os st us cs gs' L k):=fun k=>by
    unfold HD
    refine fold_set hil hi (fun j hj hij hl hw=>?_)
    obtain ⟨oj,hoj,hm⟩:=wrH_mem hrun (by omega) hw
    rcases conf j oj hoj (by omega) with h|⟨_,h2,h3⟩
    · have:=h.1 hl;omega
    · cases hwi:wrH os st.next us cs gs' i k with
      | none=>rfl
      | some v=>
        exfalso
        obtain ⟨oi,hoi,hmi⟩:=wrH_mem hrun (by omega) (k:=k) (i:=i) (by rw [hwi];rfl)
        have key:∀ (x:Nat) (ox:Oper),os[x]? = some ox→k∈wrtE os sts us cs gs x→k∈tchE os sts us cs gs x∨k = st.next + x:=fun x ox hox hmx=>by
          have hxl:x≤os.length:=Nat.le_of_lt (List.getElem?_eq_some_iff.1 hox).1
          have hxx:=(hrun.consts x hxl).2.2.1
          cases hrun.eff x ox hox with
          | light hfj mvj hgj hgj' hsj=>
            rw [(tch_light hox hgj).2] at hmx
            rw [(tch_light hox hgj).1]
            unfold writes at hmx
            rcases List.mem_append.1 hmx with hmx|hmx
            · left
              obtain ⟨y,hy,hy1⟩:=List.mem_filterMap.1 hmx
              split at hy1
              · simp only [Option.some.injEq] at hy1
                exact List.mem_append_right _ (List.mem_map.2 ⟨y,hy,hy1⟩)
              · cases hy1
            · right
              split at hmx
              · simp only [List.mem_singleton] at hmx;omega
              · cases hmx
          | heavy hfj huj hcj hsj=>
            left
            rw [(tch_heavy hox hfj.ne).2] at hmx
            rw [(tch_heavy hox hfj.ne).1]
            exact List.mem_append_right _ hmx
        rcases key j oj hoj hm with h4|h4
        · exact h2 k hmi h4
        · rcases key i oi hoi hmi with h5|h5
          · exact h3 k hm h5
          · omega
  cases hrun.eff i o ho with
  | light hf mv hg hg' hs1=>
    have touchOp:quiet o = false→∀ x∈o.op.operands,∀ k,((sts i).ev x).has k = true→k∈tchE os sts us cs gs i:=fun hq x hx k hk=>by
      rw [(tch_light ho hg).1]
      exact List.mem_append_left _ (by rw [hq];exact List.mem_flatMap.2 ⟨x,by simpa using hx,AV.has_ids hk⟩)
    have touchUp:∀ x∈us i,x.1∈tchE os sts us cs gs i:=fun x hx=>by rw [(tch_light ho hg).1];exact List.mem_append_right _ (List.mem_map.2 ⟨x,hx,rfl⟩)
    have hok:updOK (HD os st us cs gs' L) (us i):=updOK_of fun x hx=>by rw [heapEq _ (touchUp x hx)];exact hf.ok.get x hx
    obtain ⟨lq,hf,hlq⟩:∃ lq,OpFact P (sts i).gl ops o (sts i).ev lq (sts i).next (vs i) (us i) (cs i)∧∀ x∈o.op.operands,∀ k c,((sts i).ev x).has k = true→lq k = some c→HD os st us cs gs' L k = some c:=by
      cases hq:quiet o with
      | true=>exact ⟨noHeap,mv hq,fun x hx k c _ hc=>by cases hc⟩
      | false=>exact ⟨(sts i).lk,hf,fun x hx k c hk hc=>by rw [heapEq k (touchOp hq x hx k hk)];exact hc⟩
    have hnamed:∀ j,Named o (sts i).ev lq (us i) j→∃ ch,HD os st us cs gs' L j = some ch:=by
      rintro j (⟨x,hx,h1|⟨k,cells,h1,h2,h3⟩⟩|⟨x,hx,rfl⟩)
      · exact hs.ev_named x j (by rw [← evEq x hx];exact h1)
      · exact hs.hnamed k (.box cells) j (hlq x hx k _ h1 h2) h3
      · exact ⟨_,hok.get x hx⟩
    have hfresh:HD os st us cs gs' L (st.next + i) = none:=by
      have:HD os st us cs gs' L (st.next + i) = st.lk (st.next + i):=by
        refine fold_none _ (fun j hj hl=>?_)
        cases hw:wrH os st.next us cs gs' j (st.next + i) with
        | none=>rfl
        | some v=>
          exfalso
          have hjl:j≤os.length:=by omega
          obtain ⟨oj,hoj,hm⟩:=wrH_mem hrun hjl (k:=st.next + i) (i:=j) (by rw [hw];rfl)
          have hne:j≠i:=fun e=>by subst e;rw [hi] at hl;simp at hl
          have hthere:∃ ch,(sts j).lk (st.next + i) = some ch:=by
            have hxj:=(hrun.consts j hjl).2.2.1
            cases hrun.eff j oj hoj with
            | light hfj mvj hgj hgj' hsj=>
              rw [(tch_light hoj hgj).2] at hm
              unfold writes at hm
              rcases List.mem_append.1 hm with hm|hm
              · obtain ⟨x,hx,hx1⟩:=List.mem_filterMap.1 hm
                split at hx1
                · simp only [Option.some.injEq] at hx1
                  exact ⟨_,hx1 ▸ hfj.ok.get x hx⟩
                · cases hx1
              · split at hm
                · simp only [List.mem_singleton] at hm;omega
                · cases hm
            | heavy hfj huj hcj hsj=>
              rw [(tch_heavy hoj hfj.ne).2] at hm
              obtain ⟨d,hd⟩:=keysL_mem.1 hm
              exact ⟨d,hfj.has _ d hd⟩
          obtain ⟨ch,hch⟩:=hthere
          have htj:st.next + i∈tchE os sts us cs gs j:=by
            cases hrun.eff j oj hoj with
            | light hfj mvj hgj hgj' hsj=>
              rw [(tch_light hoj hgj).2] at hm
              rw [(tch_light hoj hgj).1]
              unfold writes at hm
              rcases List.mem_append.1 hm with hm|hm
              · obtain ⟨x,hx,hx1⟩:=List.mem_filterMap.1 hm
                split at hx1
                · simp only [Option.some.injEq] at hx1
                  exact List.mem_append_right _ (List.mem_map.2 ⟨x,hx,hx1⟩)
                · cases hx1
              · have hxj:=(hrun.consts j hjl).2.2.1
                split at hm
                · simp only [List.mem_singleton] at hm;omega
                · cases hm
            | heavy hfj huj hcj hsj=>
              rw [(tch_heavy hoj hfj.ne).2] at hm
              rw [(tch_heavy hoj hfj.ne).1]
              exact List.mem_append_right _ hm
          cases hci:cs i with
          | none=>
            rw [hrun.newNone h0 hci j hjl] at hch
            simp at hch
          | some c'=>
            have hb:=hrun.bound h0 j hjl _ _ hch
            rcases conf j oj hoj hne with h|⟨_,h2,_⟩
            · have:=h.1 hl;omega
            · refine h2 (st.next + i) ?_ htj
              rw [(tch_light ho hg).2]
              unfold writes
              rw [hci,hcx];simp
      rw [this]
      cases hk:st.lk (st.next + i) with
      | none=>rfl
      | some c=>have:=h0 _ _ hk;omega
    have eH:HD os st us cs gs' (fun j=>if j = i then true else L j) = addC (applyU (HD os st us cs gs' L) (us i)) (st.next + i) (cs i):=by
      funext k
      rw [addC_wr hf.keys hok k,foldW k]
      simp only [wrH,ho,hg']
      rfl
    rw [eE,eH] at hnext
    refine hf.run φ R a w (fun x hx=>by rw [evEq x hx];exact hs.ev x) (fun t ht=>?_) (fun x hx id c hid hc=>hs.heap.rel id c (hlq x hx id c hid hc))
      (hrel_old hok hs.heap) hs.rlt (by rw [hcg];exact hs.gl) next Q ?_
    · obtain ⟨g,hg,hgt⟩:=ht
      have:(sts i).ev (.tmp t) = ED os st vs L t:=by
        show (sts i).get t = _
        refine (slotEq t (.inl ?_)).symm
        unfold Oper.looksAt
        refine List.mem_append_right _ ?_
        rw [hg]
        simp only [hgt]
        simp
      rw [this]
      exact hs.env t
    · intro φ' R' w' u hsu hu
      rw [hcx] at hsu
      obtain ⟨h1,h2⟩:=SatF.step hs hfresh (show st.next + i < st.next + os.length by omega) (Nat.le_refl _) hok hsu hu o.dst (fun d hd'=>by
          simp only [dstB,hd',decide_eq_true_eq] at hd
          exact hd)
        (fun j hj=>(hf.names j hj).imp (hnamed j) (fun ⟨e,hc⟩=>⟨by rw [e,hcx],hc⟩)) (fun cells j hc hj=>hnamed j (hf.cnames cells j hc hj)) (fun x hx j hj=>hnamed j (hf.unames x hx j hj))
      exact hnext R' φ' _ w' h1 h2 (fun j hj=>hsu.place j (by omega))
  | heavy hf hu hc hs1=>
    obtain ⟨f,args,ats,g,caps,hop,hfe,hspec,hok⟩:=hf.call
    have hg:=hf.guard
    have touchK:∀ j c,lookup j (gs i) = some c→HD os st us cs gs' L j = some c:=fun j c hj=>by
      rw [heapEq j (by rw [(tch_heavy ho hf.ne).1];exact List.mem_append_right _ (keysL_mem.2 ⟨c,hj⟩))]
      exact hf.has j c hj
    have eH:HD os st us cs gs' (fun j=>if j = i then true else L j) = fun k=>match lookup k (gs' i) with|some c=>some c|none=>HD os st us cs gs' L k:=by
      funext k
      rw [foldW k]
      simp only [wrH,ho,hu,hc]
      cases lookup k (gs' i) with
      | some c=>rfl
      | none=>simp [findW]
    rw [eE,eH] at hnext
    have hwant:Region.wanted o (yielded ops a.tmps) = true:=by simp [Region.wanted,hg]
    rw [if_pos hwant]
    left
    obtain ⟨⟨fn,hfn,hname,hbody⟩,hsp⟩:=hspec
    have hev:∀ x∈o.op.operands,RepV φ R w (AV.un ((sts i).ev x)) (a.eval x):=fun x hx=>by
      have:=hs.ev x
      rw [← evEq x hx] at this
      exact this.un (hok x hx)
    have hfr:=hev f (by rw [hop];simp [Op.operands,Call.operands])
    rw [hfe] at hfr
    simp only [RepV] at hfr
    obtain ⟨cv,hfv,hcaps⟩:=hfr
    have hargs:RepVs φ R w ((args.toList.map fun x=>((sts i).ev x).un) ++ caps) ((args.map a.eval).toList ++ cv.toList):=by
      refine RepVs.append ?_ hcaps
      rw [Array.toList_map]
      exact repVs_map _ _ _ (fun x hx=>hev x (by rw [hop];simp [Op.operands,Call.operands];exact .inr (by simpa using hx)))
    have hcall:=hsp φ R w _ ⟨fun k c hk=>hs.heap.rel k c (touchK k c hk),fun k k' c c' b b' cap cap' x hk hk'=>hs.heap.inj k k' c c' b b' cap cap' x (touchK k c hk) (touchK k' c' hk')⟩ hs.rlt (by rw [hcg];exact hs.gl) hargs
    have hrunc:(execOp a.eval o).run P w = .ok (.enter g ((args.map a.eval).toList ++ cv.toList).toArray) w:=by
      simp only [execOp,hop,resolve,hfv,Deferred.ofValue,invoke,callFunc,Sem.run_bind,Sem.run_pure,Result.andThen_ok,run_program,hfn,hname,hbody,Bool.false_eq_true,if_false]
      congr 2
      apply Array.ext'
      simp
    unfold Oper.wp
    rw [hrunc,Oper.upon_enter]
    refine hcall.mono ?_
    rintro e w' ⟨v,φ1,R1,rfl,hv,hh',hrb,hevo,hkeep⟩
    obtain ⟨φ2,h1,h2,h3⟩:=heavy_step (fix:=st.fix) hs touchK hf.keys hf.ret hf.cl (fun m hm=>hclean.fix i o ho m hm) (fun m hm t=>hclean.ed ho hm L t) (fun m hm k c hk hc=>hclean.hd ho hm L hk hc) hv hh' hrb hevo hkeep (dst:=o.dst)
      (fun d hd'=>by simp only [dstB,hd',decide_eq_true_eq] at hd;exact hd)
    exact hnext R1 φ2 _ _ h1 h2 h3
end
def cleanB (Ms:List (List Nat × List Nat)) (fix:Nat) (st:St):Bool:=
  Ms.all fun q=>q.1.all fun m=>Nat.ble fix m && st.env.all (fun p=>!p.2.has m) && st.heap.all (fun p=>!p.2.has m || q.2.contains p.1)
theorem lookup_in {α:Type}:∀ {l:List (Nat × α)} {k:Nat} {c:α},lookup k l = some c→(k,c)∈l
  | [],_,_,h=>by simp [lookup] at h
  | (j,d) :: r,k,c,h=>by
    rw [lookup_cons] at h
    split at h
    · rename_i e
      simp only [Option.some.injEq] at h
      subst h;subst e
      exact List.mem_cons_self ..
    · exact List.mem_cons_of_mem _ (lookup_in h)
theorem applyW_sub {H:List (Nat × Chunk)}:∀ {u:Upd} {p:Nat × Chunk},p∈H→p∈applyW H u
  | [],_,h=>h
  | (j,_,some n) :: r,p,h=>List.mem_cons_of_mem _ (applyW_sub h)
  | (j,_,none) :: r,p,h=>applyW_sub (u:=r) h
theorem findW_in {H:List (Nat × Chunk)}:∀ {u:Upd} {k:Nat} {n:List AV},findW u k = some n→(k,Chunk.box n)∈applyW H u
  | [],_,_,h=>by simp [findW] at h
  | (j,_,some n) :: r,k,m,h=>by
    simp only [findW] at h
    simp only [applyW]
    split at h
    · rename_i e
      simp only [Option.some.injEq] at h
      subst h;subst e
      exact List.mem_cons_self ..
    · exact List.mem_cons_of_mem _ (findW_in h)
  | (j,_,none) :: r,k,m,h=>by
    simp only [findW] at h
    exact findW_in (u:=r) h
section
variable {P:Program} {ops:Array Oper} {os:List Oper} {st:St} {sts:Nat→St} {vs:Nat→AV} {us:Nat→Upd} {cs:Nat→Option Chunk} {gs gs':Nat→Hs} {Ms:List (List Nat × List Nat)}
theorem Run.one (h:Run P ops os st sts vs us cs gs gs' Ms) {i:Nat} {o:Oper} (ho:os[i]? = some o) :
    (∀ p∈(sts i).env,p∈(sts (i + 1)).env)∧(∀ p∈(sts i).heap,p∈(sts (i + 1)).heap)∧(∀ t,o.dst = some t→(t,vs i)∈(sts (i + 1)).env)∧
      ∀ k c,wrH os st.next us cs gs' i k = some (some c)→(k,c)∈(sts (i + 1)).heap:=by
  have hi:i≤os.length:=Nat.le_of_lt (List.getElem?_eq_some_iff.1 ho).1
  have hn:=(h.consts i hi).2.2.1
  cases h.eff i o ho with
  | light hf mv hg hg' hs=>
    rw [hs]
    refine ⟨fun p hp=>?_,fun p hp=>?_,fun t ht=>?_,fun k c hk=>?_⟩
    · simp only [St.step]
      cases o.dst with
      | none=>exact hp
      | some d=>exact List.mem_cons_of_mem _ hp
    · simp only [St.step]
      cases cs i with
      | none=>exact applyW_sub hp
      | some ch=>exact List.mem_cons_of_mem _ (applyW_sub hp)
    · simp only [St.step,ht]
      exact List.mem_cons_self ..
    · simp only [wrH,ho,hg',lookup] at hk
      simp only [St.step]
      split at hk
      · rename_i hc
        simp only [Option.some.injEq] at hk
        rw [hk,hc.1,hn]
        exact List.mem_cons_self ..
      · obtain ⟨n,hn1,hn2⟩:=Option.map_eq_some_iff.1 hk
        simp only [Option.some.injEq] at hn2
        subst hn2
        cases cs i with
        | none=>exact findW_in hn1
        | some ch=>exact List.mem_cons_of_mem _ (findW_in hn1)
  | heavy hf hu hc hs=>
    rw [hs]
    refine ⟨fun p hp=>?_,fun p hp=>?_,fun t ht=>?_,fun k c hk=>?_⟩
    · simp only [St.stepH]
      cases o.dst with
      | none=>exact hp
      | some d=>exact List.mem_cons_of_mem _ hp
    · simp only [St.stepH]
      exact List.mem_append_right _ hp
    · simp only [St.stepH,ht]
      exact List.mem_cons_self ..
    · simp only [wrH,ho,hu,hc] at hk
      simp only [St.stepH]
      cases hl:lookup k (gs' i) with
      | some d=>
        rw [hl] at hk
        simp only [Option.some.injEq] at hk
        subst hk
        exact List.mem_append_left _ (lookup_in hl)
      | none=>rw [hl] at hk;simp [findW] at hk
theorem Run.sub (h:Run P ops os st sts vs us cs gs gs' Ms):∀ (d i:Nat),i + d = os.length→(∀ p∈(sts i).env,p∈(sts os.length).env)∧(∀ p∈(sts i).heap,p∈(sts os.length).heap)
  | 0,i,hi=>by rw [show i = os.length by omega];exact ⟨fun _ h=>h,fun _ h=>h⟩
  | d + 1,i,hi=>by
    have ho:os[i]? = some os[i]:=by simp [show i < os.length by omega]
    have h1:=h.one ho
    have h2:=h.sub d (i + 1) (by omega)
    exact ⟨fun p hp=>h2.1 p (h1.1 p hp),fun p hp=>h2.2 p (h1.2.1 p hp)⟩
theorem clean_of (h:Run P ops os st sts vs us cs gs gs' Ms) (hb:cleanB Ms st.fix (sts os.length) = true):Clean os st vs us cs gs gs':=by
  unfold cleanB at hb
  rw [List.all_eq_true] at hb
  have key:∀ i o,os[i]? = some o→∀ m,m∈movIds (gs i)→st.fix≤m∧(∀ p∈(sts os.length).env,p.2.has m = false)∧∀ p∈(sts os.length).heap,p.2.has m = true→p.1∈keysL (gs i):=fun i o ho m hm=>by
    have hne:gs i≠[]:=fun e=>by rw [e] at hm;simp [movIds] at hm
    have h1:=hb _ (h.ms i o ho hne)
    rw [List.all_eq_true] at h1
    have h2:=h1 m hm
    simp only [Bool.and_eq_true,List.all_eq_true,Bool.not_eq_true',Bool.or_eq_true,List.contains_eq_mem,decide_eq_true_eq] at h2
    exact ⟨Nat.le_of_ble_eq_true h2.1.1,fun p hp=>h2.1.2 p hp,fun p hp hc=>by
      rcases h2.2 p hp with h3|h3
      · rw [h3] at hc;cases hc
      · exact h3⟩
  have h0:=h.sub os.length 0 (by omega)
  rw [h.zero] at h0
  refine ⟨fun i o ho m hm=>(key i o ho m hm).1,fun i o ho m hm t=>?_,fun i o ho m hm j t v hv=>?_,fun i o ho m hm k c hk hc=>?_,fun i o ho m hm j k c hk hc=>?_⟩
  · unfold St.get
    cases hl:lookup t st.env with
    | none=>rfl
    | some v=>exact (key i o ho m hm).2.1 _ (h0.1 _ (lookup_in hl))
  · unfold wrE at hv
    split at hv
    · rename_i oj hoj
      split at hv
      · rename_i hdj
        simp only [Option.some.injEq] at hv
        subst hv
        have hjl:=(List.getElem?_eq_some_iff.1 hoj).1
        exact (key i o ho m hm).2.1 _ ((h.sub (os.length - (j + 1)) (j + 1) (by omega)).1 _ ((h.one hoj).2.2.1 t hdj))
      · cases hv
    · cases hv
  · exact (key i o ho m hm).2.2 _ (h0.2 _ (lookup_in hk)) hc
  · have hoj:∃ oj,os[j]? = some oj:=by
      unfold wrH at hk
      split at hk
      · rename_i oj hoj;exact ⟨oj,hoj⟩
      · cases hk
    obtain ⟨oj,hoj⟩:=hoj
    have hjl:=(List.getElem?_eq_some_iff.1 hoj).1
    exact (key i o ho m hm).2.2 _ ((h.sub (os.length - (j + 1)) (j + 1) (by omega)).2 _ ((h.one hoj).2.2.2 k c hk)) hc
end
section
variable {P:Program} {T:Tab} (hT:tabOK P T = true)
include hT
theorem draw_sound {ops:Array Oper} {Ms:List (List Nat × List Nat)} {N:Nat} (hdr:drawB ops N = true) {st:St} {R0:Prot} {φ0:Place} {w0:World} {K:St→Prop} {Q:Exit→Act→World→Prop} (W0 W:List Oper→St→Prop) (hW:∀ l st,W0 l st→W l st) (hnil:∀ st,W [] st→K st)
    (hstep:∀ (o:Oper) (r:List Oper) (st:St),W (o :: r) st→dstB o st.n = true→∀ (R:Prot) (φ:Place) (a:Act) (w:World),Sat R φ st a w→∀ (next:Act→World→Prop) (Q:Exit→Act→World→Prop),
      (∀ R' φ' a' w' st',W r st'→Sat R' φ' st' a' w'→Ext st R φ w st' R' φ' w'→next a' w')→
      (if Region.wanted o (yielded ops a.tmps) = true then o.wp P a w next Q∨(o.asks P a w∧LetsOut Q) else next (a.put o.dst undef) w)) (hd:ops.all (dstB · st.n) = true)
    (h:awpHeadH P T ops Ms (ops.toList.take N) st [] fun st' log=>pairsOK ops log.reverse = true∧cleanB Ms st.fix st' = true∧W0 (ops.toList.drop N) st') {a0:Act} {w1:World} (hs0:Sat R0 φ0 st a0 w1) (he0:Ext st R0 φ0 w0 st R0 φ0 w1)
    (hQ:∀ R φ st' a w,K st'→Sat R φ st' a w→Ext st R0 φ0 w0 st' R φ w→Q .normal a w) :
    wpAny P .any ops Q ops.size (Array.replicate ops.size false) a0 w1:=by
  have hdr0:=hdr
  unfold drawB at hdr
  simp only [Bool.and_eq_true,Bool.or_eq_true] at hdr
  obtain ⟨hedge,hdr⟩:=hdr
  have hNle:N≤ops.size:=by
    rcases hdr with hdr|⟨⟨hn,_⟩,_⟩
    · have:=Nat.eq_of_beq_eq_true hdr;omega
    · have:=Nat.le_of_ble_eq_true hn;omega
  have hwf:WF st.next st.get st.lk st.gl:=⟨hs0.s.named,hs0.s.hnamed,hs0.s.hnext,fun g cs hg=>(hs0.s.gl g cs hg).2⟩
  obtain ⟨sts,vs,us,cs,gs,gs',hrun,hpairs,hcl,htail⟩:=head_run hT (ops.toList.take N) st [] _ h hwf
  have hclean:=clean_of hrun hcl
  replace htail:=hW _ _ htail
  have hNl:(ops.toList.take N).length = N:=by simp;omega
  rw [List.append_nil,List.reverse_reverse] at hpairs
  have hosg:∀ i,(ops.toList.take N)[i]? = if i < N then ops[i]? else none:=fun i=>by
    rw [List.getElem?_take]
    split <;> simp
  have hord:=ordered_of hosg hNl hpairs
  have hops:∀ (i:Nat) (o:Oper),(ops.toList.take N)[i]? = some o→ops[i]? = some o:=fun i o ho=>by
    rw [hosg i] at ho
    split at ho
    · exact ho
    · simp at ho
  rw [hNl] at htail
  have main:∀ (fuel:Nat) (listed:Array Bool) (a:Act) (w:World) (R:Prot) (φ:Place),HeadInv .any ops N listed→unl ops.size listed≤fuel→
      SatF R φ st.n (st.next + (ops.toList.take N).length) (ED (ops.toList.take N) st vs (fun j=>listed.getD j false)) (HD (ops.toList.take N) st us cs gs' (fun j=>listed.getD j false)) st.gl a w→
      Evo R0 (Owns φ0 st.lk) w0 R (Owns φ (HD (ops.toList.take N) st us cs gs' (fun j=>listed.getD j false))) w→(∀ j,j < st.fix→φ j = φ0 j)→wpAny P .any ops Q fuel listed a w:=by
    have full:∀ (fuel:Nat) (listed:Array Bool) (a:Act) (w:World) (R:Prot) (φ:Place),HeadInv .any ops N listed→unl ops.size listed≤fuel→(∀ j,j < N→listed.getD j true = true)→
        SatF R φ st.n (st.next + (ops.toList.take N).length) (ED (ops.toList.take N) st vs (fun j=>listed.getD j false)) (HD (ops.toList.take N) st us cs gs' (fun j=>listed.getD j false)) st.gl a w→
        Evo R0 (Owns φ0 st.lk) w0 R (Owns φ (HD (ops.toList.take N) st us cs gs' (fun j=>listed.getD j false))) w→(∀ j,j < st.fix→φ j = φ0 j)→wpAny P .any ops Q fuel listed a w:=by
      intro fuel listed a w R φ hinv hfuel hall hs hevo hpl
      obtain ⟨hcn,hcf,hcx,hcg⟩:=hrun.consts N (by omega)
      have eE:ED (ops.toList.take N) st vs (fun j=>listed.getD j false) = (sts N).get:=by
        funext t
        rw [hrun.get N (by omega) t]
        unfold ED
        rw [hNl]
        exact fold_congr N (fun j hj=>by rw [← getD_tf (by rw [hinv.size];omega)];exact hall j hj)
      have eH:HD (ops.toList.take N) st us cs gs' (fun j=>listed.getD j false) = (sts N).lk:=by
        funext k
        rw [hrun.lk N (by omega) k]
        unfold HD
        rw [hNl]
        exact fold_congr N (fun j hj=>by rw [← getD_tf (by rw [hinv.size];omega)];exact hall j hj)
      rw [eE,eH] at hs
      rw [eH] at hevo
      have hsN:Sat R φ (sts N) a w:=by
        refine ⟨?_,by have:=hs0.fx;omega⟩
        rw [hcn,hcg,hcx]
        rw [hNl] at hs
        exact hs
      refine tail_any hT hdr0 W hnil hstep hd hQ fuel N listed a w (sts N) R φ (Nat.le_refl _) hNle hinv.size (fun j hj=>⟨fun hl=>?_,fun hl=>hall j hl⟩) ?_ htail hsN ⟨hevo,fun id hid=>hpl id hid,hcf,hcn⟩
      · rcases Nat.lt_or_ge j N with h'|h'
        · exact h'
        · have:=hinv.tail j h' hj;rw [this] at hl;simp at hl
      ·
        have:∀ k,k≤ops.size→N≤k→k - N≤((List.range k).filter fun i=>!listed.getD i true).length:=by
          intro k
          induction k with
          | zero=>intro _ _;omega
          | succ k ihk=>
            intro h1 h2
            rcases Nat.lt_or_ge k N with h'|h'
            · omega
            · have ih1:=ihk (by omega) h'
              have hk:=hinv.tail k h' (by omega)
              rw [List.range_succ,List.filter_append,List.length_append]
              have e1:([k].filter fun i=>!listed.getD i true) = [k]:=by rw [List.filter_cons_of_pos (by rw [hk];rfl)];rfl
              rw [e1]
              simp only [List.length_singleton]
              omega
        have:=this ops.size (Nat.le_refl _) hNle
        unfold unl at hfuel
        omega
    intro fuel
    induction fuel with
    | zero=>
      intro listed a w R φ hinv hfuel hs hevo hpl
      exact full 0 listed a w R φ hinv hfuel (fun j hj=>unl_zero (N:=ops.size) (by omega) j (by omega)) hs hevo hpl
    | succ fuel ih=>
      intro listed a w R φ hinv hfuel hs hevo hpl
      by_cases hall:∀ j,j < N→listed.getD j true = true
      · exact full (fuel + 1) listed a w R φ hinv hfuel hall hs hevo hpl
      · have:∃ j,j < N∧listed.getD j true = false:=by
          refine Classical.byContradiction fun hn=>hall fun j hj=>?_
          cases hl:listed.getD j true with
          | true=>rfl
          | false=>exact absurd ⟨j,hj,hl⟩ hn
        obtain ⟨j0,hj0,hl0⟩:=this
        refine ⟨fun hr=>?_,fun i hi=>?_⟩
        · obtain ⟨i,hi⟩:=ready_ex hedge hinv.size (j0 + 1) j0 (by omega) (by omega) hl0
          rw [hr] at hi;simp at hi
        · have hiN:i < N:=by
            rcases Nat.lt_or_ge i N with h'|h'
            · exact h'
            · exfalso
              rcases hdr with hdr|⟨⟨hn,hsink⟩,hchain⟩
              · have:=Nat.eq_of_beq_eq_true hdr
                obtain ⟨_,o,ho,_⟩:=mem_ready.1 hi
                have:=(Array.getElem?_eq_some_iff.1 ho).1
                omega
              · exact tail_waits hsink hchain (by have:=Nat.le_of_ble_eq_true hn;omega) hinv _ j0 rfl hj0 hl0 i h' hi
          obtain ⟨h1,o,ho,hallr⟩:=mem_ready.1 hi
          have ho':(ops.toList.take N)[i]? = some o:=by rw [hosg i,if_pos hiN];exact ho
          have hi0:listed.getD i false = false:=getD_both h1
          have hdo:dstB o st.n = true:=by
            rw [Array.all_eq_true_iff_forall_mem] at hd
            exact hd o (by obtain ⟨h',rfl⟩:=Array.getElem?_eq_some_iff.1 ho;exact Array.getElem_mem h')
          have hL:(fun j=>if j = i then true else listed.getD j false) = fun j=>(listed.setIfInBounds i true).getD j false:=by
            funext j
            by_cases e:j = i
            · subst e;simp [hinv.size];omega
            · rw [if_neg e,getD_set_ne false (Ne.symm e)]
          unfold wpOp
          simp only [ho]
          refine head_step hrun hord hclean hops hs0.s.hnext (hfn:=hs0.fx) (L:=fun j=>listed.getD j false) (fun j oj hj hl=>hinv.closed j oj hj hl) ho' hi0 hallr hs hdo ?_
          intro R' φ' a' w' hs' hevo' hpl'
          rw [hL] at hs' hevo'
          refine ih _ a' w' R' φ' (hinv.set hi hiN) ?_ hs' (hevo.trans hevo') (fun j hj=>by rw [hpl' j hj,hpl j hj])
          have:=unl_set (N:=ops.size) (i:=i) (by omega) hinv.size h1
          omega
  have hE0:ED (ops.toList.take N) st vs (fun j=>(Array.replicate ops.size false).getD j false) = st.get:=by
    funext t
    exact fold_none _ (fun j _ hl=>by rw [getD_replicate_false] at hl;simp at hl)
  have hH0:HD (ops.toList.take N) st us cs gs' (fun j=>(Array.replicate ops.size false).getD j false) = st.lk:=by
    funext k
    exact fold_none _ (fun j _ hl=>by rw [getD_replicate_false] at hl;simp at hl)
  refine main ops.size _ a0 w1 R0 φ0 ⟨by simp,fun j oj hj hl=>by rw [getD_replicate_false] at hl;simp at hl,fun t ht ht'=>by simp [ht']⟩ ?_ ?_ ?_ (fun _ _=>rfl)
  · unfold unl
    have:=List.length_filter_le (fun i=>!(Array.replicate ops.size false).getD i true) (List.range ops.size)
    simpa using this
  · rw [hE0,hH0]
    exact ⟨hs0.s.env,hs0.s.named,hs0.s.hnamed,fun id c hc=>by have:=hs0.s.hnext id c hc;omega,hs0.s.sz,hs0.s.heap,hs0.s.rlt,hs0.s.defers,hs0.s.gl⟩
  · rw [hH0]
    exact he0.evo
theorem Tri.drawH (hm:P.follows .mixedOrders = true) {id:Nat} {ops:Array Oper} {Q:Exit→St→Prop} {st:St} (N:Nat) (Ms:List (List Nat × List Nat)) (hdr:drawB ops N = true) (W0 W:List Oper→St→Prop) (hW:∀ l st,W0 l st→W l st) (hnil:∀ st,W [] st→Q .normal st)
    (hstep:∀ (o:Oper) (r:List Oper) (st:St),W (o :: r) st→dstB o st.n = true→∀ (R:Prot) (φ:Place) (a:Act) (w:World),Sat R φ st a w→∀ (next:Act→World→Prop) (Q:Exit→Act→World→Prop),
      (∀ R' φ' a' w' st',W r st'→Sat R' φ' st' a' w'→Ext st R φ w st' R' φ' w'→next a' w')→
      (if Region.wanted o (yielded ops a.tmps) = true then o.wp P a w next Q∨(o.asks P a w∧LetsOut Q) else next (a.put o.dst undef) w))
    (h:awpHeadH P T ops Ms (ops.toList.take N) st [] fun st' log=>pairsOK ops log.reverse = true∧cleanB Ms st.fix st' = true∧W0 (ops.toList.drop N) st'):Tri P (.region id ops true) Q st:=⟨fun hd R φ a w hs=>by
  refine wp_region_any hm ?_
  refine draw_sound hT hdr W0 W hW hnil hstep hd h ⟨hs.s.drew hT _,hs.fx⟩ ⟨Evo.drew R _ w _,fun _ _=>rfl,rfl,rfl⟩ ?_
  intro R' φ' st' a' w' hk hs' he
  exact ⟨by simp,by simp,R',φ',st',hk,hs',he⟩⟩
end
end Go.Fw.Hv
namespace Go.Fw.Hv
open Go.Fw
variable {P:Program} {T:Tab}
def heavyN (n fix next:Nat) (env:List (Nat × AV)) (heap:List (Nat × Chunk)) (gl:Gl) (dst:Option Nat) (ret:AV) (h':Hs) (K:St→Prop):Prop:=
  normV ret fun ret=>normA2 h' heap fun heap=>
    match dst with
    | some d=>K ⟨n,fix,next + 1,(d,ret) :: env,heap,gl⟩
    | none=>K ⟨n,fix,next + 1,env,heap,gl⟩
theorem heavyN_eq (n fix next:Nat) (env:List (Nat × AV)) (heap:List (Nat × Chunk)) (gl:Gl) (dst:Option Nat) (ret:AV) (h':Hs) (K:St→Prop):heavyN n fix next env heap gl dst ret h' K = K (St.stepH ⟨n,fix,next,env,heap,gl⟩ dst ret h'):=by
  cases dst <;> simp only [heavyN,normV_eq,normA2_eq,St.stepH]
def headN (P:Program) (T:Tab) (ops:Array Oper) (Ms:List (List Nat × List Nat)) (n fix next:Nat) (env:List (Nat × AV)) (heap:List (Nat × Chunk)) (gl:Gl) (o:Oper) (log:List (List Nat × List Nat)) (K:St→List (List Nat × List Nat)→Prop):Prop:=
  match o.op,o.guard with
  | .call _,none=>(opG P T ops gl (fun id=>lookup id heap) (St.ev ⟨n,fix,next,env,heap,gl⟩) next o fun v upd c=>
        stepN n fix next env heap gl o.dst v upd c fun s=>K s ((touched (St.ev ⟨n,fix,next,env,heap,gl⟩) o upd,writes next upd c) :: log))∨
      ∃ v h h',HvFact P gl o (St.ev ⟨n,fix,next,env,heap,gl⟩) (fun id=>lookup id heap) v h h'∧(movIds h,keysL h)∈Ms∧heavyN n fix next env heap gl o.dst v h' fun s=>K s (logH (St.ev ⟨n,fix,next,env,heap,gl⟩) o h :: log)
  | _,_=>opG P T ops gl (fun id=>lookup id heap) (St.ev ⟨n,fix,next,env,heap,gl⟩) next o fun v upd c=>
        stepN n fix next env heap gl o.dst v upd c fun s=>K s ((touched (St.ev ⟨n,fix,next,env,heap,gl⟩) o upd,writes next upd c) :: log)
def awpHeadHN (P:Program) (T:Tab) (ops:Array Oper) (Ms:List (List Nat × List Nat)):List Oper→St→List (List Nat × List Nat)→(St→List (List Nat × List Nat)→Prop)→Prop
  | [],st,log,K=>K st log
  | o :: r,⟨n,fix,next,env,heap,gl⟩,log,K=>headN P T ops Ms n fix next env heap gl o log fun s log=>awpHeadHN P T ops Ms r s log K
theorem awpHeadHN_eq (P:Program) (T:Tab) (ops:Array Oper) (Ms:List (List Nat × List Nat)) (K:St→List (List Nat × List Nat)→Prop):∀ (l:List Oper) (st:St) (log:List (List Nat × List Nat)),awpHeadHN P T ops Ms l st log K = awpHeadH P T ops Ms l st log K
  | [],st,log=>rfl
  | o :: r,⟨n,fix,next,env,heap,gl⟩,log=>by
    simp only [awpHeadHN,headN,awpHeadH,stepN_eq,heavyN_eq,awpHeadHN_eq P T ops Ms K r]
    all_goals rfl
theorem hv_fact {o:Oper} {n fix next:Nat} {env:List (Nat × AV)} {heap:List (Nat × Chunk)} {gl:Gl} {f:Operand} {args:Array Operand} {ats:Array TypeId} {g:FuncId} {caps:List AV} {h h':Hs} {ret:AV}
    (ho:o.op = .call ⟨.value f,args,ats⟩) (hg:o.guard = none) (hf:(St.ev ⟨n,fix,next,env,heap,gl⟩ f).un = .fn g caps)
    (hs:HSpec P gl g (args.toList.map (fun x=>(St.ev ⟨n,fix,next,env,heap,gl⟩ x).un) ++ caps) h ret h') (hok:needsAll ((Op.call ⟨.value f,args,ats⟩).operands.toList.map (St.ev ⟨n,fix,next,env,heap,gl⟩)) True)
    (hle:heapLe h ⟨n,fix,next,env,heap,gl⟩) (hchk:callChk fix next next h h' ret = true) (hret:∀ j,ret.has j = false) (hkeys:keysL h = keysL h') (hne:h≠[]) :
    HvFact P gl o (St.ev ⟨n,fix,next,env,heap,gl⟩) (fun id=>lookup id heap) ret h h':=by
  obtain ⟨hok,_⟩:=needsAll_iff hok
  have hok:∀ x∈(Op.call ⟨.value f,args,ats⟩).operands,okP (St.ev ⟨n,fix,next,env,heap,gl⟩ x):=fun x hx=>hok _ (List.mem_map.2 ⟨x,by simpa using hx,rfl⟩)
  unfold callChk at hchk
  simp only [Bool.and_eq_true] at hchk
  obtain ⟨⟨⟨⟨hfix,hnew⟩,hr⟩,hcl⟩,hnx⟩:=hchk
  exact ⟨hg,⟨f,args,ats,g,caps,ho,hf,hs,fun x hx=>by rw [ho] at hx;exact hok x hx⟩,fun j c hj=>heapLe_get hle hj,fun j=>by rw [← keysL_mem,← keysL_mem,hkeys],hret,
    fun j c k hj hk=>(heapClosed_mem hcl hj).2 k hk,hne⟩
theorem Tri.drwH (hT:tabOK P T = true) (hm:P.follows .mixedOrders = true) (N:Nat) (Ms:List (List Nat × List Nat)) (cs:List Nat) {id:Nat} {ops:Array Oper} {Q:Exit→St→Prop} {st:St} (hb:drawB ops N = true)
    (h:awpHeadHN P T ops Ms (ops.toList.take N) st [] fun st' log=>pairsOK ops log.reverse = true∧cleanB Ms st.fix st' = true∧awpMN P T ops (ops.toList.drop N) N cs st' fun s=>Q .normal s):Tri P (.region id ops true) Q st:=
  Tri.drawH hT hm N Ms hb (fun l st=>awpM P T ops l N cs st fun s=>Q .normal s) (fun l st=>∃ i cs,awpM P T ops l i cs st fun s=>Q .normal s) (fun l st h=>⟨N,cs,h⟩) (fun st ⟨_,_,h⟩=>by simpa only [awpM] using h)
    (fun o r st ⟨i,cs,h⟩ hd R φ a w hs next Q hn=>mark_step hT h hd hs (fun R' φ' a' w' st' cs' hk hs' he=>hn R' φ' a' w' st' ⟨_,cs',hk⟩ hs' he))
    (by simp only [awpHeadHN_eq,awpMN_eq] at h;exact h)
end Go.Fw.Hv
