import Derived.Test.YtfaplilocljknaaGFw14
set_option linter.all false
namespace Go.Fw
variable {P:Program}
end Go.Fw
namespace Go.Fw
def swp (a b k:Nat):Nat:=if k = a then b else if k = b then a else k
theorem swp_inj (a b i j:Nat) (h:swp a b i = swp a b j):i = j:=by
  unfold swp at h
  (repeat' split at h) <;> omega
theorem Le.swap {st S:St} (a b:Nat) (ha:Nat.ble st.fix a = true) (hb:Nat.ble st.fix b = true) (hn:S.n = st.n) (hf:S.fix = st.fix) (hg:S.gl = st.gl) (hc:S.closed = true)
    (he:st.env = S.env.map fun p=>(p.1,p.2.ren (swp a b))) (hh:st.heap = renH (swp a b) S.heap):Le st S:=fun R φ x w hs=>by
  have hρ:=swp_inj a b
  have ha:=Nat.le_of_ble_eq_true ha
  have hb:=Nat.le_of_ble_eq_true hb
  unfold St.closed at hc
  simp only [Bool.and_eq_true] at hc
  have hget:∀ t,st.get t = (S.get t).ren (swp a b):=fun t=>by
    have hl:∀ l:List (Nat × AV),lookup t (l.map fun p=>(p.1,p.2.ren (swp a b))) = (lookup t l).map (AV.ren (swp a b)):=by
      intro l
      induction l with
      | nil=>rfl
      | cons p l ih=>
        rw [List.map_cons,lookup_cons,lookup_cons]
        split
        · rfl
        · exact ih
    simp only [St.get,he,hl]
    cases lookup t S.env <;> rfl
  have hlk:∀ j,st.lk (swp a b j) = (S.lk j).map (Chunk.ren (swp a b)):=fun j=>by
    simp only [St.lk,hh]
    exact lookup_renH hρ j S.heap
  have hheap:=hs.s.heap
  refine ⟨R,fun k=>φ (swp a b k),⟨⟨fun t=>?_,fun t j hj=>?_,fun j cs k hj hk=>(heapClosed_mem hc.1.2 hj).2 k hk,fun j c hj=>(heapClosed_mem hc.1.2 hj).1,by rw [hn];exact hs.s.sz,⟨fun j c hj=>?_,fun i j c d b0 b1 c0 c1 y hi hj hp hp' hx hx'=>?_⟩,hs.s.rlt,hs.s.defers,fun g cs hgc=>?_⟩,Nat.le_of_ble_eq_true hc.2⟩,
    ⟨⟨rfl,rfl,rfl,Nat.le_refl _,fun _ _ _=>rfl,fun _ _ h=>h,fun _ _ _=>rfl,fun _ _ h=>.inl h,fun y hy=>?_⟩,fun id hid=>?_,hf,hn⟩⟩
  · have:=hs.s.env t
    rw [hget] at this
    exact RepV.ren.1 this
  · cases hl:lookup t S.env with
    | none=>
      have:S.get t = .any:=by simp [St.get,hl]
      rw [this] at hj;simp [AV.has] at hj
    | some v=>
      have:S.get t = v:=by simp [St.get,hl]
      rw [this] at hj
      exact envClosed_mem hc.1.1 hl hj
  · exact ChunkRel.ren.1 (hheap.rel (swp a b j) _ (by rw [hlk,hj];rfl))
  · exact hρ _ _ (hheap.inj (swp a b i) (swp a b j) (c.ren (swp a b)) (d.ren (swp a b)) b0 b1 c0 c1 y (by rw [hlk,hi];rfl) (by rw [hlk,hj];rfl) hp hp' (Chunk.at_ren.2 hx) (Chunk.at_ren.2 hx'))
  · have:=hs.s.gl g cs (by rw [← hg];exact hgc)
    refine ⟨RepV.mono (fun _ _ h=>h) (fun _ _ _=>rfl) (fun j hj=>?_) this.1,this.2⟩
    simp only [AV.has] at hj
    rw [this.2 j] at hj
    simp at hj
  · right
    have h2:=(owns_ren hρ (φ:=φ) (h:=S.heap) (b:=y)).2 hy
    obtain ⟨k,c,b0,cap,h3,h4,h5⟩:=h2
    exact ⟨k,c,b0,cap,by simp only [St.lk,hh];exact h3,h4,h5⟩
  · show φ (swp a b id) = φ id
    unfold swp
    rw [if_neg (by omega),if_neg (by omega)]
end Go.Fw
namespace Go.Fw
variable {P:Program}
def addE:Nat→List Oper→List Oper
  | _,[]=>[]
  | 0,o :: r=>{ o with after:=o.after.push ⟨0,.data⟩ } :: r
  | p + 1,o :: r=>o :: addE p r
def floatOps (ops:Array Oper) (p:Nat):Array Oper:=⟨addE p ops.toList⟩
def wait0 (o:Oper):Oper:={ o with after:=o.after.push ⟨0,.data⟩ }
theorem addE_get:∀ (p:Nat) (l:List Oper) (j:Nat),(addE p l)[j]? = (l[j]?).map (fun o=>if j = p then wait0 o else o)
  | p,[],_=>by cases p <;> rfl
  | 0,o :: r,0=>rfl
  | 0,o :: r,j + 1=>by
    show r[j]? = (r[j]?).map _
    cases r[j]? <;> simp
  | p + 1,o :: r,0=>by simp [addE]
  | p + 1,o :: r,j + 1=>by
    show (addE p r)[j]? = (r[j]?).map _
    rw [addE_get p r j]
    cases r[j]? <;> simp
theorem float_get (ops:Array Oper) (p j:Nat):(floatOps ops p)[j]? = (ops[j]?).map (fun o=>if j = p then wait0 o else o):=by
  have:=addE_get p ops.toList j
  rw [← Array.getElem?_toList,← Array.getElem?_toList]
  exact this
theorem addE_len:∀ (p:Nat) (l:List Oper),(addE p l).length = l.length
  | p,[]=>by cases p <;> rfl
  | 0,_ :: _=>rfl
  | p + 1,_ :: r=>by show (addE p r).length + 1 = _;rw [addE_len p r];rfl
theorem float_size (ops:Array Oper) (p:Nat):(floatOps ops p).size = ops.size:=addE_len p ops.toList
theorem float_yielded (ops:Array Oper) (p:Nat) (t:Array Value):yielded (floatOps ops p) t = yielded ops t:=by
  funext j
  unfold yielded
  rw [float_get]
  cases ops[j]? with
  | none=>rfl
  | some o=>
    have e:(if j = p then wait0 o else o).dst = o.dst:=by split <;> rfl
    simp only [Option.map_some,Option.bind_some,e]
theorem float_wpOp {ops:Array Oper} {p:Nat} {Q:Exit→Act→World→Prop} {i:Nat} {K K':Act→World→Prop} {a:Act} {w:World} (hK:∀ a w,K a w→K' a w) (h:wpOp P (floatOps ops p) Q i K a w):wpOp P ops Q i K' a w:=by
  refine wpOp_mono hK ?_
  unfold wpOp at h ⊢
  rw [float_get,float_yielded] at h
  cases ho:ops[i]? with
  | none=>rw [ho] at h;exact h
  | some o=>
    rw [ho] at h
    simp only [Option.map_some] at h ⊢
    by_cases e:i = p
    · rw [if_pos e] at h;exact h
    · rw [if_neg e] at h;exact h
theorem float_ready {ops:Array Oper} {p:Nat} {listed:Array Bool} (h0:listed.getD 0 false = true) (j:Nat):j∈Region.ready .any (floatOps ops p) listed ↔ j∈Region.ready .any ops listed:=by
  rw [mem_ready,mem_ready,float_get]
  constructor
  · rintro ⟨h1,o,ho,hall⟩
    obtain ⟨o',ho',he⟩:=Option.map_eq_some_iff.1 ho
    refine ⟨h1,o',ho',fun e hm hb=>?_⟩
    subst he
    split at hall
    · exact hall e (Array.mem_push.2 (.inl hm)) hb
    · exact hall e hm hb
  · rintro ⟨h1,o,ho,hall⟩
    refine ⟨h1,_,by rw [ho];rfl,fun e hm hb=>?_⟩
    split at hm
    · rcases Array.mem_push.1 hm with hm|rfl
      · exact hall e hm hb
      · exact h0
    · exact hall e hm hb
theorem float_any {ops:Array Oper} {p:Nat} {Q:Exit→Act→World→Prop}:∀ (fuel:Nat) (listed:Array Bool) (a:Act) (w:World),listed.getD 0 false = true→wpAny P .any (floatOps ops p) Q fuel listed a w→wpAny P .any ops Q fuel listed a w
  | 0,listed,a,w,h0,h=>⟨List.eq_nil_iff_forall_not_mem.2 fun j hj=>by
      have:=(float_ready (p:=p) h0 j).2 hj
      rw [h.1] at this
      exact absurd this (by simp),h.2⟩
  | fuel + 1,listed,a,w,h0,h=>⟨fun hr=>h.1 (List.eq_nil_iff_forall_not_mem.2 fun j hj=>by
      have:=(float_ready h0 j).1 hj
      rw [hr] at this
      exact absurd this (by simp)),fun i hi=>float_wpOp (fun a' w' h'=>float_any fuel (listed.setIfInBounds i true) a' w' (getD_set_true h0) h') (h.2 i ((float_ready h0 i).2 hi))⟩
def floatB (ops:Array Oper) (p:Nat):Bool:=match ops[0]? with
  | some o=>(match o.op,o.guard with | .move _,none=>true | _,_=>false) && o.after.isEmpty && Region.noSelect ops && Region.free .any ops (Array.replicate ops.size false) 0 && !(Nat.beq p 0)
  | none=>false
theorem float_first {ops:Array Oper} {p:Nat} (hf:floatB ops p = true) {Q:Exit→Act→World→Prop} (hp:∀ c a w,¬ Q (.panic c) a w) (hl:¬ LetsOut Q) {a:Act} {w:World}
    (h:wpAny P .any (floatOps ops p) Q (floatOps ops p).size (Array.replicate (floatOps ops p).size false) a w):wpAny P .any ops Q ops.size (Array.replicate ops.size false) a w:=by
  unfold floatB at hf
  split at hf
  · rename_i o ho
    simp only [Bool.and_eq_true] at hf
    obtain ⟨⟨⟨⟨h1,h2⟩,h3⟩,h4⟩,h5⟩:=hf
    split at h1
    · rename_i x hop hgd
      have hlt:0 < ops.size:=(Array.getElem?_eq_some_iff.1 ho).1
      obtain ⟨m,hm⟩:∃ m,ops.size = m + 1:=⟨ops.size - 1,by omega⟩
      rw [float_size,hm] at h
      have hp0:¬ 0 = p:=fun e=>by subst e;simp at h5
      have hemp:o.after = #[]:=by simpa using h2
      have hr:∀ ops':Array Oper,(ops'[0]? = some o)→0∈Region.ready .any ops' (Array.replicate (m + 1) false):=fun ops' h'=>by
        rw [mem_ready]
        refine ⟨by simp,o,h',fun e he=>?_⟩
        rw [hemp] at he
        simp at he
      have h6:=h.2 0 (hr _ (by rw [float_get,ho];simp [hp0]))
      have hw:Region.wanted o (yielded ops a.tmps) = true:=by simp [Region.wanted,hgd]
      have hy:Yields P ops o (a.eval x) a:=.inl ⟨hw,fun w=>by simp [execOp,hop]⟩
      unfold wpOp at h6
      rw [float_get,ho,float_yielded] at h6
      simp only [Option.map_some,if_neg hp0,hw,if_true] at h6
      rcases h6 with h6|h6
      · have hrun:(execOp a.eval o).run P w = .ok (.value (a.eval x)) w:=by simp [execOp,hop]
        unfold Oper.wp at h6
        rw [hrun] at h6
        have h7:wpAny P .any (floatOps ops p) Q m ((Array.replicate (m + 1) false).setIfInBounds 0 true) (a.put o.dst (a.eval x)) w:=h6
        have h8:=float_any m _ _ _ (by simp) h7
        rw [hm]
        exact wpAny_first ho (Region.noSelect_spec h3) (fun c a w hq=>absurd hq (hp _ _ _)) m _ a w (by rw [← hm];exact Region.free_spec ho h4) (hr ops ho) hy h8
      · exact absurd h6.2 hl
    · cases h1
  · cases hf
section
variable {T:Tab} (hT:tabOK P T = true)
include hT
theorem Tri.drwF (hm:P.follows .mixedOrders = true) (p N:Nat) {id:Nat} {ops:Array Oper} {Q:Exit→St→Prop} {st:St} (hf:floatB ops p = true) (hdr:drawB (floatOps ops p) N = true)
    (h:awpHeadN P T (floatOps ops p) ((floatOps ops p).toList.take N) st [] fun st' log=>pairsOK (floatOps ops p) log.reverse = true∧awpSeqN P T (floatOps ops p) ((floatOps ops p).toList.drop N) st' fun s=>Q .normal s):Tri P (.region id ops true) Q st:=⟨fun hd R φ a w hs=>by
  refine wp_region_any hm ?_
  simp only [awpHeadN_eq,awpSeqN_eq] at h
  refine float_first hf (fun c a w hq=>?_) (fun hq=>?_) (draw_sound hT hdr (fun l st=>awpSeq P T (floatOps ops p) l st (fun s=>Q .normal s)) (fun l st=>awpSeq P T (floatOps ops p) l st (fun s=>Q .normal s)) (fun _ _ h=>h) (fun _ h=>h) (fun o r st h hd R φ a w hs next Q hn=>seqOp_sound hT h hd hs hn) ?_ h ⟨hs.s.drew hT _,hs.fx⟩ ⟨Evo.drew R _ w _,fun _ _=>rfl,rfl,rfl⟩ ?_)
  · exact hq.1 c rfl
  · obtain ⟨a,w,hq⟩:=hq
    exact hq.out rfl
  · have hd':ops.all (dstB · st.n) = true:=hd
    rw [Array.all_eq_true_iff_forall_mem] at hd' ⊢
    intro o ho
    obtain ⟨j,hj⟩:=Array.mem_iff_getElem?.1 ho
    rw [float_get] at hj
    obtain ⟨o',ho',rfl⟩:=Option.map_eq_some_iff.1 hj
    have:=hd' o' (Array.mem_of_getElem? ho')
    split
    · exact this
    · exact this
  · intro R' φ' st' a' w' hk hs' he
    exact ⟨by simp,by simp,R',φ',st',hk,hs',he⟩⟩
end
end Go.Fw
