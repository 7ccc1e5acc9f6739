import Derived.Test.YtfaplilocljknaaGFw8
set_option linter.all false
namespace Go.Fw
variable {P:Program}
theorem idsL_append:∀ (xs ys:List AV),AV.idsL (xs ++ ys) = AV.idsL xs ++ AV.idsL ys
  | [],_=>rfl
  | a :: xs,ys=>by simp only [List.cons_append,AV.idsL,idsL_append xs ys,List.append_assoc]
theorem idsL_mid {x:AV} {post:List AV} {pre:List AV}:AV.idsL (pre ++ x :: post) = AV.idsL pre ++ (AV.ids x ++ AV.idsL post):=by rw [idsL_append];rfl
theorem RepVs.set {φ:Place} {R:Prot} {w:World} {y:AV} {u:Value} (hy:RepV φ R w y u):∀ {cs:List AV} {us:List Value} (i:Nat),RepVs φ R w cs us→RepVs φ R w (cs.set i y) (us.set i u)
  | [],us,i,h=>by simp only [RepVs] at h;subst h;simp [RepVs]
  | c :: cs,us,i,h=>by
    simp only [RepVs] at h
    obtain ⟨v,r,rfl,h1,h2⟩:=h
    cases i with
    | zero=>exact ⟨u,r,rfl,hy,h2⟩
    | succ i=>exact ⟨v,r.set i u,rfl,h1,RepVs.set hy i h2⟩
def boxS (cs:List AV):XCh where
  ids:=AV.idsL cs
  fixed:=false
  nil:=cs = []
  rel φ R w _ o cap:=∃ vs e fr us ws,o = .cells vs e fr∧vs.size = cap∧NoFr fr vs.size∧vs.toList = us ++ ws∧RepVs φ R w cs us
  mono hR hw hφ _ h:=by
    obtain ⟨vs,e,fr,us,ws,h1,h2,h3,h4,h5⟩:=h
    exact ⟨vs,e,fr,us,ws,h1,h2,h3,h4,RepVs.mono hR hw (fun id hi=>hφ id (by simpa using AV.hasAny_ids hi)) h5⟩
def St.setC (st:St) (id:Nat) (c:Chunk):St:={ n:=st.n,fix:=st.fix,next:=st.next,env:=st.env,heap:=(id,c) :: st.heap,gl:=st.gl }
theorem Le.chunk {st:St} (id:Nat) {X Y:XCh} (hid:st.lk id = some (.ext X)) (hnil:X.nil→Y.nil) (hrel:∀ φ R w b o cap,X.rel φ R w b o cap→Y.rel φ R w b o cap) (hids:∀ j∈Y.ids,j∈X.ids) (hmo:∀ cap x,Y.more cap x→X.more cap x:=by intro _ _ h;exact h) :
    Le st (st.setC id (.ext Y)):=fun R φ a w hs=>by
  have hat:∀ b cap x,(Chunk.ext Y).at b cap x→(Chunk.ext X).at b cap x:=fun b cap x h=>h.imp (fun h=>h) (hmo cap x)
  have hlk:∀ k,(st.setC id (.ext Y)).lk k = if id = k then some (.ext Y) else st.lk k:=fun k=>lookup_cons k id _ _
  have hinv:∀ j c,(st.setC id (.ext Y)).lk j = some c→(j = id∧c = .ext Y)∨(j≠id∧st.lk j = some c):=fun j c hj=>by
    rw [hlk] at hj
    split at hj
    · rename_i e;simp only [Option.some.injEq] at hj;exact .inl ⟨e.symm,hj.symm⟩
    · rename_i e;exact .inr ⟨fun h=>e h.symm,hj⟩
  have hsome:∀ j c,(st.setC id (.ext Y)).lk j = some c→∃ c',st.lk j = some c'∧∀ b cap x,c.at b cap x→c'.at b cap x:=fun j c hj=>by
    rcases hinv j c hj with ⟨rfl,rfl⟩|⟨_,h⟩
    · exact ⟨_,hid,hat⟩
    · exact ⟨c,h,fun _ _ _ h=>h⟩
  have hex:∀ j,(∃ c,st.lk j = some c)→∃ c,(st.setC id (.ext Y)).lk j = some c:=fun j ⟨c,hc⟩=>by
    rw [hlk];split
    · exact ⟨_,rfl⟩
    · exact ⟨c,hc⟩
  refine ⟨R,φ,⟨⟨fun t=>hs.s.env t,fun t j hj=>hex j (hs.s.named t j hj),fun j c k hj hk=>?_,fun j c hj=>?_,hs.s.sz,⟨fun j c hj=>?_,fun j k c d b b' cap cap' x hj hk hp hp' hx hx'=>?_⟩,hs.s.rlt,hs.s.defers,hs.s.gl⟩,hs.fx⟩,
    ⟨⟨rfl,rfl,rfl,Nat.le_refl _,fun _ _ _=>rfl,fun _ _ h=>h,fun _ _ _=>rfl,fun _ _ h=>.inl h,fun b ⟨j,c,b0,cap,hj,hp,hx⟩=>?_⟩,fun _ _=>rfl,rfl,rfl⟩⟩
  · rcases hinv j c hj with ⟨rfl,rfl⟩|⟨_,h⟩
    · exact hex k (hs.s.hnamed j _ k hid (by simp only [Chunk.has,List.contains_eq_mem,decide_eq_true_eq] at hk ⊢;exact hids k hk))
    · exact hex k (hs.s.hnamed j c k h hk)
  · obtain ⟨c',hc',_⟩:=hsome j c hj
    exact hs.s.hnext j c' hc'
  · rcases hinv j c hj with ⟨rfl,rfl⟩|⟨_,h⟩
    · rcases hs.s.heap.rel j _ hid with ⟨h1,h2⟩|⟨b,cap,o,h1,h2,h3,h4⟩
      · exact .inl ⟨h1,hnil h2⟩
      · exact .inr ⟨b,cap,o,h1,h2,hrel _ _ _ _ _ _ h3,h4⟩
    · exact hs.s.heap.rel j c h
  · obtain ⟨c',hc',ha⟩:=hsome j c hj
    obtain ⟨d',hd',ha'⟩:=hsome k d hk
    exact hs.s.heap.inj j k c' d' b b' cap cap' x hc' hd' hp hp' (ha _ _ _ hx) (ha' _ _ _ hx')
  · obtain ⟨c',hc',ha⟩:=hsome j c hj
    exact .inr ⟨j,c',b0,cap,hc',hp,ha _ _ _ hx⟩
theorem sat_turnX {R:Prot} {φ:Place} {st:St} {a:Act} {w:World} (hs:Sat R φ st a w) {id:Nat} {c0 c1:Chunk} {b cap:Nat} (hid:st.lk id = some c0) (hφ:φ id = some (b,cap)) {o':Obj}
    (hc1:∀ j,c1.has j = true→∃ c,st.lk j = some c) (hch:ChunkRel φ R (setBlk w b o') id c1) (hat:∀ b cap x,c1.at b cap x→c0.at b cap x:=by intro _ _ _ h;exact h) :
    Sat R φ ⟨st.n,st.fix,st.next + 1,st.env,(id,c1) :: st.heap,st.gl⟩ a (setBlk w b o')∧Ext st R φ w ⟨st.n,st.fix,st.next + 1,st.env,(id,c1) :: st.heap,st.gl⟩ R φ (setBlk w b o'):=by
  have hblk:=(hs.s.heap.rel id c0 hid).block hφ
  have hcell:∀ k o,R k o→(setBlk w b o').cell? ⟨k,o,none⟩ = w.cell? ⟨k,o,none⟩:=fun k o hr=>setBlk_cell (fun e=>by subst e;exact hblk.2 o hr)
  have hlk:∀ k,lookup k ((id,c1) :: st.heap) = if id = k then some c1 else st.lk k:=fun k=>lookup_cons k id _ _
  have hex:∀ j,(∃ c,st.lk j = some c)→∃ c,lookup j ((id,c1) :: st.heap) = some c:=fun j ⟨c,hc⟩=>by
    rw [hlk];split
    · exact ⟨_,rfl⟩
    · exact ⟨c,hc⟩
  have hinv:∀ j c,lookup j ((id,c1) :: st.heap) = some c→(j = id∧c = c1)∨(j≠id∧st.lk j = some c):=fun j c hj=>by
    rw [hlk] at hj
    split at hj
    · rename_i e;simp only [Option.some.injEq] at hj;exact .inl ⟨e.symm,hj.symm⟩
    · rename_i e;exact .inr ⟨fun h=>e h.symm,hj⟩
  have hsome:∀ j c,lookup j ((id,c1) :: st.heap) = some c→∃ c',st.lk j = some c'∧∀ b cap x,c.at b cap x→c'.at b cap x:=fun j c hj=>by
    rcases hinv j c hj with ⟨rfl,rfl⟩|⟨_,h⟩
    · exact ⟨_,hid,hat⟩
    · exact ⟨c,h,fun _ _ _ h=>h⟩
  refine ⟨⟨⟨fun t=>?_,fun t j hj=>hex j (hs.s.named t j hj),fun j c k hj hk=>?_,fun j c hj=>?_,hs.s.sz,⟨fun j c hj=>?_,fun j k c d b1 b2 cap1 cap2 x hj hk hp hp' hx hx'=>?_⟩,?_,hs.s.defers,fun g cs hg=>?_⟩,?_⟩,
    ⟨⟨rfl,rfl,rfl,by simp [setBlk],fun k hk ho=>setBlk_ne (fun e=>ho (by subst e;exact Owns.main hid hφ)),fun _ _ h=>h,hcell,fun _ _ h=>.inl h,fun k ⟨j,c,b0,cap',hj,hp,hx⟩=>?_⟩,fun _ _=>rfl,rfl,rfl⟩⟩
  · exact RepV.mono (fun _ _ h=>h) hcell (fun _ _=>rfl) (hs.s.env t)
  · rcases hinv j c hj with ⟨_,rfl⟩|⟨_,hj⟩
    · exact hex k (hc1 k hk)
    · exact hex k (hs.s.hnamed j c k hj hk)
  · show j < st.next + 1
    obtain ⟨c',hc',_⟩:=hsome j c hj
    have:=hs.s.hnext j c' hc'
    omega
  · rcases hinv j c hj with ⟨rfl,rfl⟩|⟨hne,hj⟩
    · exact hch
    · exact (hs.s.heap.rel j c hj).mono rfl (fun _ _=>rfl) (fun _ _ h=>h) hcell (fun k cap' x hp hx _=>⟨setBlk_ne (fun e=>by subst e;exact hne (hs.s.heap.inj j id c c0 k b cap' cap b hj hid hp hφ hx (c0.at_self b cap))),fun _ h=>h⟩)
  · obtain ⟨c',hc',ha⟩:=hsome j c hj
    obtain ⟨d',hd',ha'⟩:=hsome k d hk
    exact hs.s.heap.inj j k c' d' b1 b2 cap1 cap2 x hc' hd' hp hp' (ha _ _ _ hx) (ha' _ _ _ hx')
  · intro k o h
    have:=hs.s.rlt k o h
    simpa [setBlk] using this
  · have:=hs.s.gl g cs hg
    exact ⟨RepV.mono (fun _ _ h=>h) hcell (fun _ _=>rfl) this.1,this.2⟩
  · have:=hs.fx
    show st.fix≤st.next + 1
    omega
  · obtain ⟨c',hc',ha⟩:=hsome j c hj
    exact .inr ⟨j,c',b0,cap',hc',hp,ha _ _ _ hx⟩
theorem val_step {ops:Array Oper} {o:Oper} {st:St} {R:Prot} {φ:Place} {a:Act} {w:World} (hs:Sat R φ st a w) (hd:dstB o st.n = true) {v:AV} {u:Value} (hv:RepV φ R w v u) (hn:∀ j,v.has j = true→∃ c,st.lk j = some c) :
    Sat R φ (st.step o.dst v [] none) (a.put o.dst u) w∧Ext st R φ w (st.step o.dst v [] none) R φ w:=by
  have hfresh:st.lk st.next = none:=by
    cases hh:st.lk st.next with
    | none=>rfl
    | some c=>have:=hs.s.hnext _ _ hh;omega
  obtain ⟨h1,h2⟩:=SatF.step hs.s hfresh (next':=st.next + 1) (by omega) (Nat.le_succ _) (upd:=[]) trivial (StepTo.refl (id:=st.next) hs.s.rlt).toU hv o.dst
    (fun d hd'=>by simp only [dstB,hd',decide_eq_true_eq] at hd;exact hd) (fun j hj=>.inl (hn j hj)) (fun ch j hc=>by cases hc) (fun x hx=>by simp at hx)
  rw [← step_get st o.dst v [] none] at h1
  have hlk:=step_lk st o.dst v [] none rfl trivial
  rw [← hlk] at h1 h2
  exact ⟨⟨h1,Nat.le_succ_of_le hs.fx⟩,⟨h2,fun _ _=>rfl,rfl,rfl⟩⟩
def St.toOwnS (st:St) (t:Nat):St:={ n:=st.n,fix:=st.fix,next:=st.next + 1,env:=(t,.own st.next 0) :: st.env,heap:=(st.next,.ext (boxS [])) :: st.heap,gl:=st.gl }
def St.freezeS (st:St) (b id:Nat) (cs:List AV):St:={ n:=st.n,fix:=st.fix,next:=st.next,env:=scrubEnv id st.env,heap:=(b,.ext (boxS cs)) :: eraseH id st.heap,gl:=st.gl }
theorem Le.freezeS {st:St} (bx id n:Nat) (pre post:List AV) {ty:Ty} {xs:List ty.D} (ht:st.lk bx = some (.ext (boxS (pre ++ .own id n :: post)))) (hid:st.lk id = some (.arr ty xs)) (hn:n≤xs.length) (hno:(AV.idsL (pre ++ post)).contains id = false) :
    Le st (st.freezeS bx id (pre ++ .list ty (xs.take n) :: post)):=fun R φ a w hs=>by
  have hrel:=hs.s.heap.rel id _ hid
  have hrb:=hs.s.heap.rel bx _ ht
  have hbi:bx≠id:=fun e=>by subst e;rw [ht] at hid;cases hid
  let R':Prot:=fun b o=>R b o∨∃ cap,φ id = some (b,cap)
  have hR:∀ b o,R b o→R' b o:=fun b o h=>.inl h
  generalize hcs:pre ++ AV.list ty (xs.take n) :: post = cs'
  have hget:∀ u,(st.freezeS bx id cs').get u = (st.get u).scrub id:=fun u=>by
    simp only [St.freezeS,St.get,scrubEnv,lookup_map]
    cases lookup u st.env <;> simp [AV.scrub,AV.may,AV.has]
  have hlk:∀ k,(st.freezeS bx id cs').lk k = if bx = k then some (.ext (boxS cs')) else if k = id then none else (st.lk k).map (Chunk.scrub id):=fun k=>by
    simp only [St.freezeS,St.lk,lookup_cons,lookup_eraseH]
  have hinv:∀ j c,(st.freezeS bx id cs').lk j = some c→(j = bx∧c = .ext (boxS cs'))∨(j≠bx∧j≠id∧∃ c',st.lk j = some c'∧c = c'.scrub id):=fun j c hj=>by
    rw [hlk] at hj
    split at hj
    · rename_i e;simp only [Option.some.injEq] at hj;exact .inl ⟨e.symm,hj.symm⟩
    · rename_i e0
      split at hj
      · simp at hj
      · rename_i e
        obtain ⟨c',h1,h2⟩:=Option.map_eq_some_iff.1 hj
        exact .inr ⟨fun h=>e0 h.symm,e,c',h1,h2.symm⟩
  have hinv2:∀ j c,(st.freezeS bx id cs').lk j = some c→j≠id∧∃ c',st.lk j = some c'∧∀ b cap x,c.at b cap x→c'.at b cap x:=fun j c hj=>by
    rcases hinv j c hj with ⟨rfl,rfl⟩|⟨_,h2,c',h3,rfl⟩
    · exact ⟨hbi,_,ht,fun _ _ _ h=>h⟩
    · exact ⟨h2,c',h3,fun _ _ _ h=>Chunk.at_scrub h⟩
  have hsome:∀ j,j≠id→(∃ c,st.lk j = some c)→∃ c,(st.freezeS bx id cs').lk j = some c:=fun j hj ⟨c,hc⟩=>by
    rw [hlk,if_neg hj]
    split
    · exact ⟨_,rfl⟩
    · rw [hc];exact ⟨_,rfl⟩
  have hown:∀ b j c cap x,j≠id→st.lk j = some c→φ j = some (b,cap)→c.at b cap x→∀ cap',φ id≠some (x,cap'):=fun b j c cap x hj hc hpj hx cap' h=>
    hj (hs.s.heap.inj j id c _ b x cap cap' x hc hid hpj h hx (Chunk.at_self _ _ _))
  have hlist:∀ v,RepV φ R w (.own id n) v→RepV φ R' w (.list ty (xs.take n)) v:=fun v hv=>by
    simp only [RepV] at hv
    simp only [RepV,Rep]
    have hlen:(xs.take n).length = n:=by simp;omega
    rcases hv with ⟨hφ,rfl,hv⟩|⟨b,cap,hφ,hcap,hv⟩
    · exact ⟨none,0,by rw [hv];simp,by simp,.inl ⟨by simp,rfl⟩⟩
    · refine ⟨some ⟨b,0,none⟩,cap,by rw [hv,hlen],by omega,.inr ⟨b,0,rfl,fun i hi=>?_⟩⟩
      rcases hrel with ⟨h1,h2⟩|⟨b',cap',vs,e',fr,hφ',hh,hvs,hxc,hel,_,_⟩
      · rw [hφ] at h1;simp at h1
      · rw [hφ] at hφ'
        simp only [Option.some.injEq,Prod.mk.injEq] at hφ'
        obtain ⟨rfl,rfl⟩:=hφ'
        have hi':i < xs.length:=by rw [hlen] at hi;omega
        have hr:=hel i hi'
        refine ⟨_,hr.length,fun k v hk=>⟨.inr ⟨cap,hφ⟩,?_⟩,by rw [List.getElem_take];exact Rep.mono hR (fun _ _ _=>rfl) hr⟩
        rw [List.getElem?_take] at hk
        split at hk
        · rw [List.getElem?_drop] at hk
          simp only [World.cell?,hh,Nat.zero_add]
          simpa using hk
        · simp at hk
  have hvs:∀ {pre:List AV} {vs:List Value},RepVs φ R w (pre ++ .own id n :: post) vs→RepVs φ R' w (pre ++ .list ty (xs.take n) :: post) vs:=by
    intro pre
    induction pre with
    | nil=>
      intro vs h
      simp only [List.nil_append,RepVs] at h ⊢
      obtain ⟨v,r,e,h1,h2⟩:=h
      exact ⟨v,r,e,hlist v h1,RepVs.mono hR (fun _ _ _=>rfl) (fun _ _=>rfl) h2⟩
    | cons p pre ih=>
      intro vs h
      simp only [List.cons_append,RepVs] at h ⊢
      obtain ⟨v,r,e,h1,h2⟩:=h
      exact ⟨v,r,e,RepV.mono hR (fun _ _ _=>rfl) (fun _ _=>rfl) h1,ih h2⟩
  refine ⟨R',φ,⟨⟨fun u=>?_,fun u j hj=>?_,fun j cs k hj hk=>?_,fun j c hj=>?_,hs.s.sz,⟨fun j c hj=>?_,fun j k c d b b' cap cap' x hj hk hp hp' hx hx'=>?_⟩,fun b o h=>?_,hs.s.defers,fun g cs hg=>?_⟩,hs.fx⟩,
    ⟨⟨rfl,rfl,rfl,Nat.le_refl _,fun _ _ _=>rfl,hR,fun _ _ _=>rfl,fun b o h=>?_,fun b ⟨j,c,b0,cap,hj,hp,hx⟩=>?_⟩,fun _ _=>rfl,rfl,rfl⟩⟩
  · rw [hget]
    exact scrub_rep (hs.s.env u) (fun _ _=>rfl) hR (fun _ _ _=>rfl)
  · rw [hget] at hj
    exact hsome j (scrub_ne hj) (hs.s.named u j (scrub_sub hj))
  · rcases hinv j _ hj with ⟨_,rfl⟩|⟨_,hne,c',h1,rfl⟩
    · simp only [Chunk.has,boxS] at hk
      rw [← hcs,idsL_mid] at hk
      have hk2:(AV.idsL (pre ++ post)).contains k = true:=by simpa [AV.ids,idsL_append] using hk
      exact hsome k (fun e=>by subst e;rw [hno] at hk2;cases hk2) (hs.s.hnamed bx _ k ht (by
        simp only [Chunk.has,boxS];rw [idsL_mid]
        have h9:k∈AV.idsL (pre ++ post):=by simpa using hk2
        rw [idsL_append,List.mem_append] at h9
        simp only [List.contains_eq_mem,List.mem_append,decide_eq_true_eq]
        exact h9.elim (fun h=>.inl h) (fun h=>.inr (.inr h))))
    · exact hsome k (Chunk.scrub_has hk).1 (hs.s.hnamed j c' k h1 (Chunk.scrub_has hk).2)
  · obtain ⟨_,c',h1,_⟩:=hinv2 j _ hj
    exact hs.s.hnext j c' h1
  · rcases hinv j _ hj with ⟨rfl,rfl⟩|⟨_,hne,c',h1,rfl⟩
    · rcases hrb with ⟨_,h0⟩|⟨b1,cap,o1,q1,q2,⟨vs,e,fr,us,ws,p1,p2,p3,p4,p5⟩,q4⟩
      · simp [boxS] at h0
      refine .inr ⟨b1,cap,o1,q1,q2,⟨vs,e,fr,us,ws,p1,p2,p3,p4,by rw [← hcs];exact hvs p5⟩,fun o h=>?_⟩
      rcases h with h|⟨c9,h⟩
      · exact q4 o h
      · exact hown b1 j _ cap b1 hbi ht q1 (Chunk.at_self _ _ _) c9 h
    · exact Chunk.scrub_rel (hs.s.heap.rel j c' h1) rfl (fun _ _=>rfl) hR (fun _ _ _=>rfl) (fun b cap x hpj hx _=>⟨rfl,fun o h=>by
        rcases h with h|⟨c9,h⟩
        · exact h
        · exact absurd h (hown b j _ cap x hne h1 hpj hx c9)⟩)
  · obtain ⟨_,c',h1,ha⟩:=hinv2 j _ hj
    obtain ⟨_,d',h2,ha'⟩:=hinv2 k _ hk
    exact hs.s.heap.inj j k c' d' b b' cap cap' x h1 h2 hp hp' (ha _ _ _ hx) (ha' _ _ _ hx')
  · rcases h with h|⟨cap,h⟩
    · exact hs.s.rlt b o h
    · exact ((hs.s.heap.rel id _ hid).block h).1
  · have:=hs.s.gl g cs hg
    exact ⟨RepV.mono hR (fun _ _ _=>rfl) (fun _ _=>rfl) this.1,this.2⟩
  · rcases h with h|⟨cap,h⟩
    · exact .inl h
    · exact .inr (.inr (Owns.main hid h))
  · obtain ⟨_,c',h1,ha⟩:=hinv2 j _ hj
    exact .inr ⟨j,c',b0,cap,h1,hp,ha _ _ _ hx⟩
def St.freezeL (st:St) (t id:Nat) (v:AV):St:={ n:=st.n,fix:=st.fix,next:=st.next,env:=(t,v) :: scrubEnv id st.env,heap:=eraseH id st.heap,gl:=st.gl }
def TriL (P:Program) (c:Code) (Q:Exit→St→Prop):Nat→St→Prop
  | 0,_=>False
  | m + 1,st=>Tri P c (thenQ (TriL P c Q m) Q) st
end Go.Fw
