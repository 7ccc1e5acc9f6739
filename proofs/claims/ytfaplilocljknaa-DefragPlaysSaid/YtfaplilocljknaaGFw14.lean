import Derived.Test.YtfaplilocljknaaGFw13
set_option linter.all false
namespace Go.Fw
variable {P:Program}
theorem outsL_turn {κ δ:Type} [DecidableEq κ] {L:List (Ent κ δ)} {k:κ} {s:ES δ} {x:Nat} (h:x∈outsL (turnE L k s)):x∈s.outs∨x∈outsL L:=by
  simp only [outsL,turnE,List.mem_flatMap,List.mem_map] at h ⊢
  obtain ⟨E',⟨E,hE,rfl⟩,hx⟩:=h
  split at hx
  · exact .inl hx
  · exact .inr ⟨E,hE,hx⟩
theorem blksL_turn {κ δ:Type} [DecidableEq κ] {L:List (Ent κ δ)} {k:κ} {s:ES δ} {x:Nat} (h:x∈blksL (turnE L k s)):x∈s.blk∨x∈blksL L:=by
  simp only [blksL,turnE,List.mem_flatMap,List.mem_map] at h ⊢
  obtain ⟨E',⟨E,hE,rfl⟩,hx⟩:=h
  split at hx
  · exact .inl hx
  · exact .inr ⟨E,hE,hx⟩
theorem findE_split {κ δ:Type} [DecidableEq κ] {L:List (Ent κ δ)} {k:κ} {E:Ent κ δ} (h:findE L k = some E) (hn:(L.map Ent.k).Nodup):∃ A B,L = A ++ E :: B∧E.k = k∧k ∉ A.map Ent.k∧k ∉ B.map Ent.k:=by
  induction L with
  | nil=>simp [findE] at h
  | cons x L ih=>
    simp only [List.map_cons,List.nodup_cons] at hn
    by_cases e:x.k = k
    · have:findE (x :: L) k = some x:=by simp [findE,e]
      rw [this] at h
      simp only [Option.some.injEq] at h
      subst h
      exact ⟨[],L,rfl,e,by simp,e ▸ hn.1⟩
    · have:findE (x :: L) k = findE L k:=by simp [findE,e]
      rw [this] at h
      obtain ⟨A,B,rfl,h2,h3,h4⟩:=ih h hn.2
      exact ⟨x :: A,B,rfl,h2,by simp [h3];exact fun h=>e h.symm,h4⟩
theorem blksL_mid {κ δ:Type} [DecidableEq κ] {A B:List (Ent κ δ)} {E:Ent κ δ}:blksL (A ++ E :: B) = blksL A ++ (E.s.blk ++ blksL B):=by
  simp [blksL]
theorem EntsOK.turn {κ δ:Type} [DecidableEq κ] {L:List (Ent κ δ)} {clock b:Nat} (h:EntsOK L clock b) {k:κ} {s:ES δ} (hb:∀ x∈s.blk,x≠b∧x ∉ blksL (eraseE L k)) (hs:s.blk.Nodup):EntsOK (turnE L k s) clock b:=by
  refine ⟨by rw [turnE_keys];exact h.keys,by rw [turnE_borns];exact h.born,fun E hE=>?_,?_,fun hx=>?_⟩
  · have:E.born∈(turnE L k s).map Ent.born:=List.mem_map_of_mem hE
    rw [turnE_borns] at this
    obtain ⟨E',h1,h2⟩:=List.mem_map.1 this
    rw [← h2];exact h.lt E' h1
  · cases hf:findE L k with
    | none=>rw [turnE_notin (findE_none.1 hf)];exact h.blk
    | some E=>
      obtain ⟨A,B,rfl,h2,h3,h4⟩:=findE_split hf h.keys
      rw [turnE_mid h3 h4 h2,blksL_mid]
      have h5:=h.blk
      rw [blksL_mid] at h5
      rw [eraseE_mid h3 h4 h2] at hb
      have hAB:blksL (A ++ B) = blksL A ++ blksL B:=by simp [blksL]
      rw [hAB] at hb
      simp only [List.nodup_append] at h5 ⊢
      obtain ⟨p1,⟨p2,p3,p4⟩,p5⟩:=h5
      refine ⟨p1,⟨hs,p3,fun x hx y hy e=>?_⟩,fun x hx y hy e=>?_⟩
      · subst e;exact (hb x hx).2 (List.mem_append_right _ hy)
      · subst e
        rcases List.mem_append.1 hy with hy|hy
        · exact (hb x hy).2 (List.mem_append_left _ hx)
        · exact p5 x hx x (List.mem_append_right _ hy) rfl
  · rcases blksL_turn hx with hx|hx
    · exact (hb b hx).1 rfl
    · exact h.ne hx
theorem turn_self {κ δ:Type} [DecidableEq κ] {L:List (Ent κ δ)} {clock b:Nat} (h:EntsOK L clock b) {k:κ} {E:Ent κ δ} (hf:findE L k = some E) {x:Nat} (hx:x∈E.s.blk):x ∉ blksL (eraseE L k)∧x∈blksL L∧x≠b:=by
  obtain ⟨A,B,rfl,h2,h3,h4⟩:=findE_split hf h.keys
  rw [eraseE_mid h3 h4 h2]
  have h5:=h.blk
  have h6:=h.ne
  rw [blksL_mid] at h5 h6 ⊢
  have hAB:blksL (A ++ B) = blksL A ++ blksL B:=by simp [blksL]
  rw [hAB]
  simp only [List.nodup_append] at h5
  obtain ⟨p1,⟨p2,p3,p4⟩,p5⟩:=h5
  refine ⟨fun hm=>?_,by simp [hx],fun e=>h6 (by simp [← e,hx])⟩
  rcases List.mem_append.1 hm with hm|hm
  · exact p5 x hm x (List.mem_append_left _ hx) rfl
  · exact p4 x hx x hm rfl
theorem blksL_erase {κ δ:Type} [DecidableEq κ] {L:List (Ent κ δ)} {k:κ} {x:Nat} (h:x∈blksL (eraseE L k)):x∈blksL L:=by
  simp only [blksL,eraseE,List.mem_flatMap,List.mem_filter] at h ⊢
  obtain ⟨E,⟨hE,_⟩,hx⟩:=h
  exact ⟨E,hE,hx⟩
theorem blksL_turn2 {κ δ:Type} [DecidableEq κ] {L:List (Ent κ δ)} {k:κ} {s:ES δ} (hn:(L.map Ent.k).Nodup) {x:Nat} (h:x∈blksL (turnE L k s)):x∈s.blk∨x∈blksL (eraseE L k):=by
  simp only [blksL,turnE,eraseE,List.mem_flatMap,List.mem_map,List.mem_filter] at h ⊢
  obtain ⟨E',⟨E,hE,rfl⟩,hx⟩:=h
  split at hx
  · exact .inl hx
  · rename_i e
    exact .inr ⟨E,⟨hE,by simpa using e⟩,hx⟩
theorem entsRel.turn {κ δ:Type} [DecidableEq κ] {F:FK κ δ} {V:FV F} {φ:Place} {R:Prot} {w:World} {L:List (Ent κ δ)} {l:List MapEntry} (h:entsRel V φ R w L l) (hn:(L.map Ent.k).Nodup) {k:κ} {s:ES δ}
    (hs:∀ E v,findE L k = some E→entV V φ R w E.s v→entV V φ R w s v):entsRel V φ R w (turnE L k s) l:=by
  cases hf:findE L k with
  | none=>rw [turnE_notin (findE_none.1 hf)];exact h
  | some E=>
    cases hi:fidx (fun j=>decide (k = j)) (L.map Ent.k) with
    | none=>rw [fidx_none] at hi;exact absurd (findE_none.2 hi) (by rw [hf];simp)
    | some i=>
      obtain ⟨A,E',B,a,m,b,rfl,rfl,q1,q2,q3,q4,q5,q6,q7,q8,q9⟩:=entsRel.split h hn hi
      rw [findE_mid q3 q2] at hf
      simp only [Option.some.injEq] at hf
      subst hf
      rw [turnE_mid q3 q4 q2]
      exact entsRel.join (E:={ E' with s:=s }) (q5.trans (by rw [q2])) q6 (hs E' m.val (findE_mid q3 q2) q7) q9 q8
def St.takeF (st:St) (t id:Nat) (v:AV) (c1 cn:Chunk):St:={ n:=st.n,fix:=st.fix,next:=st.next + 1,env:=(t,v) :: st.env,heap:=(st.next,cn) :: (id,c1) :: st.heap,gl:=st.gl }
theorem Le.takeF {κ δ:Type} [DecidableEq κ] {F:FK κ δ} {V:FV F} {st:St} (t id:Nat) {os:List Nat} {L:List (Ent κ δ)} {clock:Nat} {k:κ} {d:δ} {p c born:Nat} (hid:st.lk id = some (.ext (mapX V os L clock))) (hf:findE L k = some ⟨k,.own d p c,born⟩) (ht:st.get t = V.pv d p c) :
    Le st (st.takeF t id (F.av d st.next) (.ext (mapX V (st.next :: os) (turnE L k (.out d st.next p c)) clock)) (F.ch d)):=fun R φ a w hs=>by
  have hfresh:st.lk st.next = .none:=by
    cases hh:st.lk st.next with
    | none=>rfl
    | some c=>have:=hs.s.hnext _ _ hh;omega
  have hne:∀ j c,st.lk j = some c→j≠st.next:=fun j c hj e=>by subst e;rw [hfresh] at hj;simp at hj
  rcases hs.s.heap.rel id _ hid with ⟨_,h0⟩|⟨b,cap,o,hφ,hb,hrel,hnR⟩
  · exact h0.elim
  obtain ⟨es,L',rfl,hperm,hents,hok,hos⟩:=hrel
  have hf':findE L' k = some ⟨k,.own d p c,born⟩:=by rw [← perm_find hperm hok.keys];exact hf
  obtain ⟨s1,s2,s3⟩:=turn_self hok hf (x:=p) (by simp [ES.blk])
  have hidn:id≠st.next:=hne id _ hid
  generalize hst:st.takeF t id (F.av d st.next) (.ext (mapX V (st.next :: os) (turnE L k (.out d st.next p c)) clock)) (F.ch d) = S
  have hSn:S.n = st.n:=by rw [← hst];rfl
  have hSf:S.fix = st.fix:=by rw [← hst];rfl
  have hSx:S.next = st.next + 1:=by rw [← hst];rfl
  have hSg:S.gl = st.gl:=by rw [← hst];rfl
  have hget:∀ u,S.get u = if t = u then F.av d st.next else st.get u:=fun u=>by
    rw [← hst]
    simp only [St.takeF,St.get,lookup_cons]
    by_cases e:t = u <;> simp [e]
  have hlk:∀ j,S.lk j = if st.next = j then some (F.ch d) else if id = j then some (.ext (mapX V (st.next :: os) (turnE L k (.out d st.next p c)) clock)) else st.lk j:=fun j=>by
    rw [← hst]
    simp only [St.takeF,St.lk,lookup_cons]
  have hφn:setPlace φ st.next (some (p,c)) st.next = some (p,c):=by simp [setPlace]
  have hφo:∀ j,j≠st.next→setPlace φ st.next (some (p,c)) j = φ j:=fun j hj=>by simp [setPlace,hj]
  have hkeep:∀ j,(∃ c,st.lk j = some c)→∃ c,S.lk j = some c:=fun j ⟨x,hx⟩=>by
    rw [hlk,if_neg (fun e=>hne j x hx e.symm)]
    split
    · exact ⟨_,rfl⟩
    · exact ⟨x,hx⟩
  have hinv:∀ j x,S.lk j = some x→(j = st.next∧x = F.ch d)∨(j = id∧j≠st.next∧x = .ext (mapX V (st.next :: os) (turnE L k (.out d st.next p c)) clock))∨(j≠st.next∧j≠id∧st.lk j = some x):=fun j x hj=>by
    rw [hlk] at hj
    split at hj
    · rename_i e;simp only [Option.some.injEq] at hj;exact .inl ⟨e.symm,hj.symm⟩
    · rename_i e
      split at hj
      · rename_i e';simp only [Option.some.injEq] at hj;exact .inr (.inl ⟨e'.symm,fun h=>e h.symm,hj.symm⟩)
      · rename_i e';exact .inr (.inr ⟨fun h=>e h.symm,fun h=>e' h.symm,hj⟩)
  have hmo:∀ v u,(∀ j,AV.has j v = true→∃ x,st.lk j = some x)→RepV φ R w v u→RepV (setPlace φ st.next (some (p,c))) R w v u:=fun v u hv hr=>
    RepV.mono (fun _ _ h=>h) (fun _ _ _=>rfl) (fun j hj=>by obtain ⟨x,hx⟩:=hv j hj;exact hφo j (hne j x hx)) hr
  have hblk:ChunkRel (fun _=>some (p,c)) R w 0 (F.ch d):=by
    cases hi:fidx (fun j=>decide (k = j)) (L'.map Ent.k) with
    | none=>rw [fidx_none] at hi;exact absurd (findE_none.2 hi) (by rw [hf'];simp)
    | some i=>
      obtain ⟨A,E',B,a,m,b',rfl,_,q1,q2,q3,q4,q5,q6,q7,q8,q9⟩:=entsRel.split hents ((hperm.map _).nodup hok.keys) hi
      rw [findE_mid q3 q2] at hf'
      simp only [Option.some.injEq] at hf'
      subst hf'
      exact q7.2
  have hcn:ChunkRel (setPlace φ st.next (some (p,c))) R w st.next (F.ch d):=ch_rel hblk hφn
  have hc1:(mapX V (st.next :: os) (turnE L k (.out d st.next p c)) clock).rel (setPlace φ st.next (some (p,c))) R w b (.map es clock) cap:=by
    refine ⟨es,turnE L' k (.out d st.next p c),rfl,hperm.map _,?_,hok.turn (by simp [ES.blk]) (by simp [ES.blk]),fun x hx=>by
      rcases outsL_turn hx with h|h
      · simp only [ES.outs,List.mem_singleton] at h;exact h ▸ List.mem_cons_self ..
      · exact List.mem_cons_of_mem _ (hos x h)⟩
    have h9:entsRel V (setPlace φ st.next (some (p,c))) R w L' es.toList:=hents.mono (fun _ _ h=>h) (fun _ _ _=>rfl) (fun e he=>by
      have he2:e∈outsL L:=(hperm.flatMap_right _).mem_iff.2 he
      obtain ⟨x,hx⟩:=hs.s.hnamed id _ e hid (by simp only [Chunk.has,mapX,List.contains_eq_mem,decide_eq_true_eq];exact hos e he2)
      exact hφo e (hne e x hx)) (fun _ _ _=>⟨rfl,fun _ h=>h⟩)
    refine h9.turn ((hperm.map _).nodup hok.keys) (fun E v h1 h2=>?_)
    rw [hf'] at h1
    simp only [Option.some.injEq] at h1
    subst h1
    exact ⟨hφn,h2.1⟩
  have hat1:∀ x,(Chunk.ext (mapX V (st.next :: os) (turnE L k (.out d st.next p c)) clock)).at b cap x→(Chunk.ext (mapX V os L clock)).at b cap x∧x≠p:=fun x hx=>by
    rcases hx with rfl|hx
    · exact ⟨.inl rfl,fun e=>s3 e.symm⟩
    · rcases blksL_turn2 hok.keys hx with h|h
      · simp [ES.blk] at h
      · exact ⟨.inr (blksL_erase h),fun e=>s1 (e ▸ h)⟩
  have hpat:(Chunk.ext (mapX V os L clock)).at b cap p:=.inr s2
  refine ⟨R,setPlace φ st.next (some (p,c)),⟨⟨fun u=>?_,fun u j hj=>?_,fun j x k' hj hk=>?_,fun j x hj=>?_,by rw [hSn];exact hs.s.sz,⟨fun j x hj=>?_,fun j j' x x' b1 b2 cap1 cap2 y hj hj' hp hp' hy hy'=>?_⟩,hs.s.rlt,hs.s.defers,fun g cs hg=>?_⟩,?_⟩,
    ⟨⟨rfl,rfl,rfl,Nat.le_refl _,fun _ _ _=>rfl,fun _ _ h=>h,fun _ _ _=>rfl,fun _ _ h=>.inl h,fun y ⟨j,x,b1,cap1,hj,hp,hy⟩=>?_⟩,fun j hj=>hφo j (by have:=hs.fx;omega),hSf,hSn⟩⟩
  · rw [hget]
    split
    · rename_i e
      have:=hs.s.env t
      rw [ht] at this
      rw [← e]
      exact (V.rep d st.next p c _ _ R w _ hφn).2 this
    · exact hmo _ _ (hs.s.named u) (hs.s.env u)
  · rw [hget] at hj
    split at hj
    · obtain rfl:=F.avs _ _ _ hj
      exact ⟨_,by rw [hlk,if_pos rfl]⟩
    · exact hkeep j (hs.s.named u j hj)
  · rcases hinv j x hj with ⟨_,rfl⟩|⟨_,_,rfl⟩|⟨_,_,hj⟩
    · rw [F.chs] at hk;cases hk
    · simp only [Chunk.has,mapX,List.contains_eq_mem,decide_eq_true_eq] at hk
      rcases List.mem_cons.1 hk with hk|hk
      · subst hk
        exact ⟨_,by rw [hlk,if_pos rfl]⟩
      · exact hkeep k' (hs.s.hnamed id _ k' hid (by simp only [Chunk.has,mapX,List.contains_eq_mem,decide_eq_true_eq];exact hk))
    · exact hkeep k' (hs.s.hnamed j x k' hj hk)
  · rw [hSx]
    rcases hinv j x hj with ⟨e,_⟩|⟨e,_,_⟩|⟨_,_,hj⟩
    · omega
    · have:=hs.s.hnext id _ hid;omega
    · have:=hs.s.hnext j x hj;omega
  · rcases hinv j x hj with ⟨rfl,rfl⟩|⟨rfl,_,rfl⟩|⟨h1,_,hj⟩
    · exact hcn
    · exact .inr ⟨b,cap,_,by rw [hφo _ hidn];exact hφ,hb,hc1,hnR⟩
    · exact (hs.s.heap.rel j x hj).mono (hφo j h1) (fun k' hk=>by
        obtain ⟨x',hx'⟩:=hs.s.hnamed j x k' hj hk
        exact hφo k' (hne k' x' hx')) (fun _ _ h=>h) (fun _ _ _=>rfl) (fun _ _ _ _ _ _=>⟨rfl,fun _ h=>h⟩)
  · have hnew:∀ j x b1 cap1 y,S.lk j = some x→setPlace φ st.next (some (p,c)) j = some (b1,cap1)→x.at b1 cap1 y→j≠st.next→y≠p∧∃ x',st.lk j = some x'∧φ j = some (b1,cap1)∧x'.at b1 cap1 y:=fun j x b1 cap1 y hj hp hy hn=>by
      rw [hφo j hn] at hp
      rcases hinv j x hj with ⟨h1,_⟩|⟨rfl,_,rfl⟩|⟨_,h2,hj⟩
      · exact absurd h1 hn
      · rw [hφ] at hp
        simp only [Option.some.injEq,Prod.mk.injEq] at hp
        obtain ⟨rfl,rfl⟩:=hp
        obtain ⟨q1,q2⟩:=hat1 y hy
        exact ⟨q2,_,hid,hφ,q1⟩
      · exact ⟨fun e=>h2 (hs.s.heap.inj j id x _ b1 b cap1 cap y hj hid hp hφ hy (e ▸ hpat)),x,hj,hp,hy⟩
    by_cases e1:j = st.next
    · subst e1
      have hjx:x = F.ch d:=by rcases hinv _ x hj with ⟨_,h⟩|⟨_,h,_⟩|⟨h,_,_⟩ <;> first|exact h|exact absurd rfl h
      subst hjx
      rw [hφn] at hp
      simp only [Option.some.injEq,Prod.mk.injEq] at hp
      obtain ⟨rfl,rfl⟩:=hp
      have:=F.sing d _ _ y hy
      by_cases e2:j' = st.next
      · exact e2.symm
      · exact absurd this (hnew j' x' b2 cap2 y hj' hp' hy' e2).1
    · by_cases e2:j' = st.next
      · subst e2
        have hjx:x' = F.ch d:=by rcases hinv _ x' hj' with ⟨_,h⟩|⟨_,h,_⟩|⟨h,_,_⟩ <;> first|exact h|exact absurd rfl h
        subst hjx
        rw [hφn] at hp'
        simp only [Option.some.injEq,Prod.mk.injEq] at hp'
        obtain ⟨rfl,rfl⟩:=hp'
        have:=F.sing d _ _ y hy'
        exact absurd this (hnew j x b1 cap1 y hj hp hy e1).1
      · obtain ⟨_,z,h1,h2,h3⟩:=hnew j x b1 cap1 y hj hp hy e1
        obtain ⟨_,z',h1',h2',h3'⟩:=hnew j' x' b2 cap2 y hj' hp' hy' e2
        exact hs.s.heap.inj j j' z z' b1 b2 cap1 cap2 y h1 h1' h2 h2' h3 h3'
  · rw [hSg] at hg
    have:=hs.s.gl g cs hg
    refine ⟨RepV.mono (fun _ _ h=>h) (fun _ _ _=>rfl) (fun j hj=>?_) this.1,this.2⟩
    simp only [AV.has] at hj
    rw [this.2 j] at hj
    simp at hj
  · have:=hs.fx
    rw [hSf,hSx]
    omega
  · by_cases e:j = st.next
    · subst e
      have hjx:x = F.ch d:=by rcases hinv _ x hj with ⟨_,h⟩|⟨_,h,_⟩|⟨h,_,_⟩ <;> first|exact h|exact absurd rfl h
      subst hjx
      rw [hφn] at hp
      simp only [Option.some.injEq,Prod.mk.injEq] at hp
      obtain ⟨rfl,rfl⟩:=hp
      have:=F.sing d _ _ y hy
      subst this
      exact .inr ⟨id,_,b,cap,hid,hφ,hpat⟩
    · rw [hφo j e] at hp
      rcases hinv j x hj with ⟨h1,_⟩|⟨rfl,_,rfl⟩|⟨_,h2,hj⟩
      · exact absurd h1 e
      · rw [hφ] at hp
        simp only [Option.some.injEq,Prod.mk.injEq] at hp
        obtain ⟨rfl,rfl⟩:=hp
        exact .inr ⟨_,_,b,cap,hid,hφ,(hat1 y hy).1⟩
      · exact .inr ⟨j,x,b1,cap1,hj,hp,hy⟩
def AV.back (e p:Nat) (v:AV):AV:=match v with
  | .loc j 0=>match Nat.beq j e with | true=>.ex (ptrX p) | false=>.loc j 0
  | v=>v.scrub e
def St.putF (st:St) (id e p:Nat) (c1:Chunk):St:={ n:=st.n,fix:=st.fix,next:=st.next,env:=st.env.map (fun x=>(x.1,x.2.back e p)),heap:=(id,c1) :: eraseH e st.heap,gl:=st.gl }
theorem back_rep {e p c:Nat} {φ:Place} {R:Prot} {w:World} {v:AV} {u:Value} (hφ:φ e = some (p,c)) (h:RepV φ R w v u):RepV φ R w (v.back e p) u:=by
  unfold AV.back
  split
  · rename_i j
    split
    · rename_i hj
      obtain rfl:=Nat.eq_of_beq_eq_true hj
      simp only [RepV] at h ⊢
      obtain ⟨b,cap,h1,h2⟩:=h
      rw [hφ] at h1
      simp only [Option.some.injEq,Prod.mk.injEq] at h1
      obtain ⟨rfl,rfl⟩:=h1
      exact h2
    · exact h
  · exact scrub_rep h (fun _ _=>rfl) (fun _ _ h=>h) (fun _ _ _=>rfl)
theorem back_has {e p j:Nat} {v:AV} (h:(v.back e p).has j = true):j≠e∧v.has j = true:=by
  unfold AV.back at h
  split at h
  · rename_i i
    split at h
    · simp [AV.has,ptrX] at h
    · rename_i hi
      refine ⟨fun q=>?_,h⟩
      simp only [AV.has,beq_iff_eq] at h
      subst q;subst h
      rw [Nat.beq_refl] at hi;cases hi
  · exact ⟨scrub_ne h,scrub_sub h⟩
theorem Le.putF {κ δ:Type} [DecidableEq κ] {F:FK κ δ} {V:FV F} {st:St} (id e:Nat) {os os':List Nat} {L:List (Ent κ δ)} {clock:Nat} {k:κ} {d d':δ} {p c born:Nat} (hid:st.lk id = some (.ext (mapX V os L clock))) (he:st.lk e = some (F.ch d')) (hf:findE L k = some ⟨k,.out d e p c,born⟩)
    (hav:V.pv d' p c = V.pv d p c) (hone:e ∉ outsL (eraseE L k)) (hos1:∀ x∈os,x≠e→x∈os') (hos2:∀ x∈os',x≠e∧x∈os):Le st (st.putF id e p (.ext (mapX V os' (turnE L k (.own d' p c)) clock))):=fun R φ a w hs=>by
  rcases hs.s.heap.rel id _ hid with ⟨_,h0⟩|⟨b,cap,o,hφ,hb,hrel,hnR⟩
  · exact h0.elim
  obtain ⟨es,L',rfl,hperm,hents,hok,hos⟩:=hrel
  have hf':findE L' k = some ⟨k,.out d e p c,born⟩:=by rw [← perm_find hperm hok.keys];exact hf
  have hout:φ e = some (p,c):=by
    cases hi:fidx (fun j=>decide (k = j)) (L'.map Ent.k) with
    | none=>rw [fidx_none] at hi;exact absurd (findE_none.2 hi) (by rw [hf'];simp)
    | some i=>
      obtain ⟨A,E',B,a,m,b',rfl,_,q1,q2,q3,q4,q5,q6,q7,q8,q9⟩:=entsRel.split hents ((hperm.map _).nodup hok.keys) hi
      rw [findE_mid q3 q2] at hf'
      simp only [Option.some.injEq] at hf'
      subst hf'
      exact q7.1
  have hide:id≠e:=fun h=>by
    subst h
    rw [hid] at he
    simp only [Option.some.injEq] at he
    have:=F.sing d' 0 0
    rw [← he] at this
    rw [hφ] at hout
    simp only [Option.some.injEq,Prod.mk.injEq] at hout
    have h1:=hs.s.hnamed id _ id hid (by
      simp only [Chunk.has,mapX,List.contains_eq_mem,decide_eq_true_eq]
      exact hos _ (by simp only [outsL,List.mem_flatMap];exact ⟨_,(findE_mem hf).1,by simp [ES.outs]⟩))
    have h2:=F.chs d' id
    rw [← he] at h2
    simp only [Chunk.has,mapX,List.contains_eq_mem,decide_eq_false_iff_not] at h2
    exact h2 (hos _ (by simp only [outsL,List.mem_flatMap];exact ⟨_,(findE_mem hf).1,by simp [ES.outs]⟩))
  have hpb:p≠b:=fun h=>by
    subst h
    exact hide (hs.s.heap.inj id e _ _ p p cap c p hid he hφ hout (Chunk.at_self _ _ _) (Chunk.at_self _ _ _))
  have hpL:p ∉ blksL L:=fun h=>hide (hs.s.heap.inj id e _ _ b p cap c p hid he hφ hout (.inr h) (Chunk.at_self _ _ _))
  generalize hst:st.putF id e p (.ext (mapX V os' (turnE L k (.own d' p c)) clock)) = S
  have hSn:S.n = st.n:=by rw [← hst];rfl
  have hSf:S.fix = st.fix:=by rw [← hst];rfl
  have hSx:S.next = st.next:=by rw [← hst];rfl
  have hSg:S.gl = st.gl:=by rw [← hst];rfl
  have hget:∀ u,S.get u = (st.get u).back e p:=fun u=>by
    rw [← hst]
    simp only [St.putF,St.get,lookup_map]
    cases lookup u st.env <;> simp [AV.back,AV.scrub,AV.may,AV.has]
  have hlk:∀ j,S.lk j = if id = j then some (.ext (mapX V os' (turnE L k (.own d' p c)) clock)) else if j = e then .none else (st.lk j).map (Chunk.scrub e):=fun j=>by
    rw [← hst]
    simp only [St.putF,St.lk,lookup_cons,lookup_eraseH]
  have hinv:∀ j x,S.lk j = some x→(j = id∧x = .ext (mapX V os' (turnE L k (.own d' p c)) clock))∨(j≠id∧j≠e∧∃ x',st.lk j = some x'∧x = x'.scrub e):=fun j x hj=>by
    rw [hlk] at hj
    split at hj
    · rename_i q;simp only [Option.some.injEq] at hj;exact .inl ⟨q.symm,hj.symm⟩
    · rename_i q
      split at hj
      · simp at hj
      · rename_i q'
        obtain ⟨x',h1,h2⟩:=Option.map_eq_some_iff.1 hj
        exact .inr ⟨fun h=>q h.symm,q',x',h1,h2.symm⟩
  have hkeep:∀ j,j≠e→(∃ c,st.lk j = some c)→∃ c,S.lk j = some c:=fun j hj ⟨x,hx⟩=>by
    rw [hlk,if_neg hj]
    split
    · exact ⟨_,rfl⟩
    · rw [hx];exact ⟨_,rfl⟩
  have hoe:∀ j,j∈outsL (turnE L k (.own d' p c))→j≠e∧j∈outsL L:=fun j hj=>by
    simp only [outsL,turnE,List.mem_flatMap,List.mem_map] at hj
    obtain ⟨E',⟨E,hE,rfl⟩,hx⟩:=hj
    split at hx
    · simp [ES.outs] at hx
    · rename_i q
      refine ⟨fun h=>hone ?_,by simp only [outsL,List.mem_flatMap];exact ⟨E,hE,hx⟩⟩
      subst h
      simp only [outsL,eraseE,List.mem_flatMap,List.mem_filter]
      exact ⟨E,⟨hE,by simpa using q⟩,hx⟩
  have hrele:=hs.s.heap.rel e _ he
  have hc1:(mapX V os' (turnE L k (.own d' p c)) clock).rel φ R w b (.map es clock) cap:=by
    refine ⟨es,turnE L' k (.own d' p c),rfl,hperm.map _,?_,hok.turn (fun x hx=>?_) (by simp [ES.blk]),fun x hx=>by
      obtain ⟨h1,h2⟩:=hoe x hx
      exact hos1 x (hos x h2) h1⟩
    · refine hents.turn ((hperm.map _).nodup hok.keys) (fun E v h1 h2=>?_)
      rw [hf'] at h1
      simp only [Option.some.injEq] at h1
      subst h1
      exact ⟨by rw [hav];exact h2.2,ch_rel hrele hout.symm⟩
    · simp only [ES.blk,List.mem_singleton] at hx
      subst hx
      exact ⟨hpb,fun h=>hpL (blksL_erase h)⟩
  have hat1:∀ x,(Chunk.ext (mapX V os' (turnE L k (.own d' p c)) clock)).at b cap x→(Chunk.ext (mapX V os L clock)).at b cap x∨x = p:=fun x hx=>by
    rcases hx with rfl|hx
    · exact .inl (.inl rfl)
    · rcases blksL_turn hx with h|h
      · simp only [ES.blk,List.mem_singleton] at h;exact .inr h
      · exact .inl (.inr h)
  refine ⟨R,φ,⟨⟨fun u=>?_,fun u j hj=>?_,fun j x k' hj hk=>?_,fun j x hj=>?_,by rw [hSn];exact hs.s.sz,⟨fun j x hj=>?_,fun j j' x x' b1 b2 cap1 cap2 y hj hj' hp hp' hy hy'=>?_⟩,hs.s.rlt,hs.s.defers,fun g cs hg=>?_⟩,?_⟩,
    ⟨⟨rfl,rfl,rfl,Nat.le_refl _,fun _ _ _=>rfl,fun _ _ h=>h,fun _ _ _=>rfl,fun _ _ h=>.inl h,fun y ⟨j,x,b1,cap1,hj,hp,hy⟩=>?_⟩,fun j hj=>rfl,hSf,hSn⟩⟩
  · rw [hget];exact back_rep hout (hs.s.env u)
  · rw [hget] at hj
    obtain ⟨h1,h2⟩:=back_has hj
    exact hkeep j h1 (hs.s.named u j h2)
  · rcases hinv j x hj with ⟨_,rfl⟩|⟨_,_,x',h1,rfl⟩
    · simp only [Chunk.has,mapX,List.contains_eq_mem,decide_eq_true_eq] at hk
      obtain ⟨h1,h2⟩:=hos2 k' hk
      exact hkeep k' h1 (hs.s.hnamed id _ k' hid (by simp only [Chunk.has,mapX,List.contains_eq_mem,decide_eq_true_eq];exact h2))
    · exact hkeep k' (Chunk.scrub_has hk).1 (hs.s.hnamed j x' k' h1 (Chunk.scrub_has hk).2)
  · rw [hSx]
    rcases hinv j x hj with ⟨rfl,_⟩|⟨_,_,x',h1,_⟩
    · exact hs.s.hnext _ _ hid
    · exact hs.s.hnext j x' h1
  · rcases hinv j x hj with ⟨rfl,rfl⟩|⟨_,_,x',h1,rfl⟩
    · exact .inr ⟨b,cap,_,hφ,hb,hc1,hnR⟩
    · exact Chunk.scrub_rel (hs.s.heap.rel j x' h1) rfl (fun _ _=>rfl) (fun _ _ h=>h) (fun _ _ _=>rfl) (fun _ _ _ _ _ _=>⟨rfl,fun _ h=>h⟩)
  · have hnew:∀ j x b1 cap1 y,S.lk j = some x→φ j = some (b1,cap1)→x.at b1 cap1 y→(∃ x',st.lk j = some x'∧x'.at b1 cap1 y∧j≠e)∨(j = id∧y = p):=fun j x b1 cap1 y hj hp hy=>by
      rcases hinv j x hj with ⟨rfl,rfl⟩|⟨h1,h2,x',h3,rfl⟩
      · rw [hφ] at hp
        simp only [Option.some.injEq,Prod.mk.injEq] at hp
        obtain ⟨rfl,rfl⟩:=hp
        rcases hat1 y hy with h|h
        · exact .inl ⟨_,hid,h,hide⟩
        · exact .inr ⟨rfl,h⟩
      · exact .inl ⟨x',h3,Chunk.at_scrub hy,h2⟩
    have hpe:∀ j x' b1 cap1 y,st.lk j = some x'→φ j = some (b1,cap1)→x'.at b1 cap1 y→j≠e→y = p→False:=fun j x' b1 cap1 y hj hp hy hje hyp=>by
      subst hyp
      exact hje (hs.s.heap.inj j e x' _ b1 y cap1 c y hj he hp hout hy (Chunk.at_self _ _ _))
    rcases hnew j x b1 cap1 y hj hp hy with ⟨z,h1,h2,h3⟩|⟨h1,h2⟩
    · rcases hnew j' x' b2 cap2 y hj' hp' hy' with ⟨z',h1',h2',h3'⟩|⟨h1',h2'⟩
      · exact hs.s.heap.inj j j' z z' b1 b2 cap1 cap2 y h1 h1' hp hp' h2 h2'
      · exact (hpe j z b1 cap1 y h1 hp h2 h3 h2').elim
    · rcases hnew j' x' b2 cap2 y hj' hp' hy' with ⟨z',h1',h2',h3'⟩|⟨h1',h2'⟩
      · exact (hpe j' z' b2 cap2 y h1' hp' h2' h3' h2).elim
      · rw [h1,h1']
  · rw [hSg] at hg
    exact hs.s.gl g cs hg
  · have:=hs.fx
    rw [hSf,hSx]
    omega
  · rcases hinv j x hj with ⟨rfl,rfl⟩|⟨_,_,x',h1,rfl⟩
    · rw [hφ] at hp
      simp only [Option.some.injEq,Prod.mk.injEq] at hp
      obtain ⟨rfl,rfl⟩:=hp
      rcases hat1 y hy with h|h
      · exact .inr ⟨_,_,b,cap,hid,hφ,h⟩
      · subst h
        exact .inr (Owns.main he hout)
    · exact .inr ⟨j,x',b1,cap1,h1,hp,Chunk.at_scrub hy⟩
end Go.Fw
namespace Go.Fw
variable {P:Program} {T:Tab}
theorem ents_find {κ δ:Type} [DecidableEq κ] {F:FK κ δ} {V:FV F} {φ:Place} {R:Prot} {w:World} {L:List (Ent κ δ)} {l:List MapEntry} (h:entsRel V φ R w L l) (hn:(L.map Ent.k).Nodup) (k:κ) :
    (findE L k = none∧fidx (fun j=>decide (k = j)) (L.map Ent.k) = none)∨∃ i E m,findE L k = some E∧E.k = k∧fidx (fun j=>decide (k = j)) (L.map Ent.k) = some i∧l[i]? = some m∧m.key = F.ku k∧m.born = E.born∧entV V φ R w E.s m.val:=by
  cases hi:fidx (fun j=>decide (k = j)) (L.map Ent.k) with
  | none=>exact .inl ⟨findE_none.2 (fidx_none.1 hi),rfl⟩
  | some i=>
    obtain ⟨A,E,B,a,m,b,rfl,rfl,q1,q2,q3,q4,q5,q6,q7,q8,q9⟩:=entsRel.split h hn hi
    exact .inr ⟨i,E,m,findE_mid q3 q2,q2,rfl,by simp [← q1],q5,q6,q7⟩
def ES.look {κ δ:Type} [DecidableEq κ] {F:FK κ δ} (V:FV F):ES δ→AV
  | .own d p c=>V.pv d p c
  | .out d e p c=>V.pv d p c
  | .gone=>.any
theorem look_has {κ δ:Type} [DecidableEq κ] {F:FK κ δ} (V:FV F) (s:ES δ) (j:Nat):(s.look V).has j = false:=by
  cases s with
  | own d p c=>exact V.pvs d p c j
  | out d e p c=>exact V.pvs d p c j
  | gone=>rfl
theorem entV.look {κ δ:Type} [DecidableEq κ] {F:FK κ δ} {V:FV F} {φ:Place} {R:Prot} {w:World} {s:ES δ} {v:Value} (h:entV V φ R w s v):RepV φ R w (s.look V) v:=by
  cases s with
  | own d p c=>exact h.1
  | out d e p c=>exact h.2
  | gone=>simp [ES.look,RepV]
section
variable (hT:tabOK P T = true)
include hT
theorem zero_run {t:TypeId} {e:TE} (h:tget T t = some e):∃ z,(∀ w,(zeroValue t).run P w = .ok z w)∧∀ φ R w,RepV φ R w (match e.agg with|true=>.agg e.zero|false=>e.zero.headD .any) z:=by
  obtain ⟨i,d,hi,hd,_,_,_,_,_,hz⟩:=(tab_ok hT h).ex
  rcases hz with ⟨vs,hz,ha,hc,hs⟩|⟨v,hz,h1,hc,ha,hc2,hs⟩
  · refine ⟨.agg vs,fun w=>by simp [zeroValue,typeInfo,hi,hz],fun φ R w=>?_⟩
    rw [ha]
    exact ⟨vs,rfl,zeroChk_rep hc⟩
  · refine ⟨v,fun w=>by simp [zeroValue,typeInfo,hi,hz],fun φ R w=>?_⟩
    have hr:=zeroChk_rep (φ:=φ) (R:=R) (w:=w) hc2
    rw [ha]
    cases hz0:e.zero with
    | nil=>rw [hz0] at hr;simp [RepVs] at hr
    | cons x r=>
      rw [hz0] at hr
      simp only [RepVs,List.cons.injEq] at hr
      obtain ⟨u,us,⟨rfl,_⟩,h1,_⟩:=hr
      exact h1
theorem run_lookF {κ δ:Type} [DecidableEq κ] {F:FK κ δ} {V:FV F} {φ:Place} {R:Prot} {w:World} {t kt et:TypeId} {ke ee:TE} (hmt:P.underlying t = some (.map kt et)) (hk:KeyLaw P T kt F ke) (he:tget T et = some ee) {L L':List (Ent κ δ)} {es:Array MapEntry} {clock b:Nat}
    (hb:w.heap[b]? = some (.map es clock)) (hp:L.Perm L') (hn:(L.map Ent.k).Nodup) (hr:entsRel V φ R w L' es.toList) (k:κ) (ok:Bool) :
    ∃ v,(Instr.lookup t (.map (some b)) (F.ku k) ok).run P w = .ok (if ok then .tuple #[v,.bool (findE L k).isSome] else v) w∧
      RepV φ R w (match findE L k with|some E=>E.s.look V|none=>(match ee.agg with|true=>.agg ee.zero|false=>ee.zero.headD .any)) v:=by
  have hfk:=find_keys hT hk k w es.toList (L'.map Ent.k) hr.keys
  have hck:=KeyLaw.check hT hk k es.isEmpty w
  rw [perm_find hp hn]
  rcases ents_find hr ((hp.map _).nodup hn) k with ⟨h1,h2⟩|⟨i,E,m,h1,_,h2,h3,_,_,h4⟩
  · obtain ⟨z,hz,hzr⟩:=zero_run hT he
    rw [h2] at hfk
    refine ⟨z,?_,by rw [h1];exact hzr φ R w⟩
    rw [h1]
    simp only [Instr.lookup,Sem.run_bind,run_underlying hmt,Result.andThen_ok,Go.MapKept.run_getObj_map hb,Sem.run_pure,hck,hfk,Option.bind_none,hz,Option.isSome_none]
  · rw [h2] at hfk
    refine ⟨m.val,?_,by rw [h1];exact h4.look⟩
    rw [h1]
    simp only [Instr.lookup,Sem.run_bind,run_underlying hmt,Result.andThen_ok,Go.MapKept.run_getObj_map hb,Sem.run_pure,hck,hfk,Option.bind_some,h3,Option.map_some,Option.isSome_some]
theorem read_lookF {κ δ:Type} [DecidableEq κ] {F:FK κ δ} {V:FV F} {t kt et:TypeId} {ke ee:TE} (hmt:P.underlying t = some (.map kt et)) (hk:KeyLaw P T kt F ke) (he:tget T et = some ee) {m kx:Operand} {ok:Bool} {lk:Heap} {ev:Operand→AV} {id:Nat} {os:List Nat} {L:List (Ent κ δ)} {clock:Nat} {k:κ}
    (hm:ev m = .ex (mapV id)) (hkx:ev kx = F.kav k) (hid:lk id = some (.ext (mapX V os L clock))) (v:AV) (hv:v = match findE L k with|some E=>E.s.look V|none=>(match ee.agg with|true=>.agg ee.zero|false=>ee.zero.headD .any)) :
    ReadFact P (.lookup t m kx ok) lk ev (match ok with|true=>.tup [v,.bool (findE L k).isSome]|false=>v):=by
  have hvn:∀ j,v.has j = false:=fun j=>by
    rw [hv]
    cases findE L k with
    | some E=>exact look_has V _ j
    | none=>
      have hz:AV.hasAny j ee.zero = false:=by
        obtain ⟨i,z,_,_,hc,_⟩:=tab_zero hT he
        exact zeroChk_has hc
      simp only
      cases ee.agg with
      | true=>exact hz
      | false=>
        simp only
        cases hzz:ee.zero with
        | nil=>rfl
        | cons x r=>rw [hzz] at hz;simp only [AV.hasAny,Bool.or_eq_false_iff] at hz;exact hz.1
  refine ⟨fun j hj=>?_,fun φ R w ρ o ho hr hc=>?_⟩
  · exfalso
    cases ok with
    | true=>simp [AV.has,AV.hasAny,hvn] at hj
    | false=>rw [hvn] at hj;cases hj
  · have h1:=hr m (by simp [Op.operands])
    have h2:=hr kx (by simp [Op.operands])
    rw [hm] at h1
    rw [hkx,F.kav_rep] at h2
    simp only [RepV] at h1
    obtain ⟨b,cap,hφ,hmv⟩:=h1
    rcases hc m (by simp [Op.operands]) id _ (by rw [hm];simp [AV.has,mapV]) hid with ⟨_,h0⟩|⟨b',cap',o',hφ',hb',⟨es,L',rfl,hp,hents,hok,_⟩,_⟩
    · exact h0.elim
    rw [hφ] at hφ'
    simp only [Option.some.injEq,Prod.mk.injEq] at hφ'
    obtain ⟨rfl,rfl⟩:=hφ'
    obtain ⟨u,hrun,hu⟩:=run_lookF hT hmt hk he hb' hp hok.keys hents k ok
    rw [← hv] at hu
    cases ok with
    | true=>exact ⟨_,by simp only [RepV];exact ⟨_,rfl,u,[_],rfl,hu,_,[],rfl,rfl,rfl⟩,by simp only [execOp,ho,hmv,h2];rw [Sem.run_bind,hrun];rfl⟩
    | false=>exact ⟨u,hu,by simp only [execOp,ho,hmv,h2];rw [Sem.run_bind,hrun];rfl⟩
end
end Go.Fw
namespace Go.Fw
variable {P:Program} {T:Tab}
theorem map_open {κ δ:Type} [DecidableEq κ] {F:FK κ δ} {V:FV F} {R:Prot} {φ:Place} {st:St} {a:Act} {w:World} (hs:Sat R φ st a w) {m:Operand} {id:Nat} {os:List Nat} {L:List (Ent κ δ)} {clock:Nat} (hm:okP (st.ev m)∧(st.ev m).un = .ex (mapV id)) (hid:st.lk id = some (.ext (mapX V os L clock))) :
    ∃ b cap es L',a.eval m = .map (some b)∧φ id = some (b,cap)∧w.heap[b]? = some (.map es clock)∧L.Perm L'∧entsRel V φ R w L' es.toList∧EntsOK L clock b∧(∀ x∈outsL L,x∈os)∧(∀ o,¬ R b o):=by
  have h1:=(hs.s.ev m).un hm.1
  have h2:(evF st.get st.gl m).un = .ex (mapV id):=hm.2
  rw [h2] at h1
  simp only [RepV] at h1
  obtain ⟨b,cap,hφ,hmv⟩:=h1
  rcases hs.s.heap.rel id _ hid with ⟨_,h0⟩|⟨b',cap',o',hφ',hb',⟨es,L',rfl,hp,hents,hok,hos⟩,hnR⟩
  · exact h0.elim
  rw [hφ] at hφ'
  simp only [Option.some.injEq,Prod.mk.injEq] at hφ'
  obtain ⟨rfl,rfl⟩:=hφ'
  exact ⟨b,cap,es,L',hmv,hφ,hb',hp,hents,hok,hos,hnR⟩
theorem key_open {κ δ:Type} [DecidableEq κ] {F:FK κ δ} {R:Prot} {φ:Place} {st:St} {a:Act} {w:World} (hs:Sat R φ st a w) {kx:Operand} {k:κ} (hk:okP (st.ev kx)∧(st.ev kx).un = F.kav k):a.eval kx = F.ku k:=by
  have h1:=(hs.s.ev kx).un hk.1
  have h2:(evF st.get st.gl kx).un = F.kav k:=hk.2
  rw [h2,F.kav_rep] at h1
  exact h1
theorem OpTri.makeF {κ δ:Type} [DecidableEq κ] {F:FK κ δ} (V:FV F) {ops:Array Oper} {o:Oper} {n fix next:Nat} {env:List (Nat × AV)} {heap:List (Nat × Chunk)} {gl:Gl} {K:St→Prop} {t:TypeId}
    (ho:o.op = .makeMap t none) (hg:o.guard = none) (hK:stepN n fix next env heap gl o.dst (.ex (mapV next)) [] (some (.ext (mapX V [] [] 0))) K):OpTri P ops o ⟨n,fix,next,env,heap,gl⟩ K:=by
  intro hd R φ a w hs next0 Q hnext
  rw [stepN_eq] at hK
  generalize hst:(⟨n,fix,next,env,heap,gl⟩:St) = st at *
  have hnx:st.next = next:=by rw [← hst]
  have hw:Region.wanted o (yielded ops a.tmps) = true:=by simp [Region.wanted,hg]
  rw [if_pos hw]
  left
  have hrun:(execOp a.eval o).run P w = .ok (.value (.map (some w.heap.size))) (pushed w (.map #[] 0) w.drawn):=by
    simp [execOp,ho,Instr.makeMap,run_newObj];rfl
  unfold Oper.wp
  rw [hrun]
  have hfresh:st.lk next = none:=by
    cases hh:st.lk next with
    | none=>rfl
    | some c=>have:=hs.s.hnext _ _ hh;omega
  have hR:=hs.s.rlt
  have hstep:StepTo φ R w next (some (.ext (mapX V [] [] 0))) (setPlace φ next (some (w.heap.size,0))) R (pushed w (.map #[] 0) w.drawn):={
    evo:=⟨rfl,rfl,rfl,by simp [pushed],fun b hb _=>by show (w.heap.push _)[b]? = _;rw [Array.getElem?_push,if_neg (by omega)],fun _ _ h=>h,fun b o h=>pushed_cell (hR b o h),fun _ _ h=>.inl h,
      fun b hb=>by
        obtain ⟨_,cap',h⟩:=hb
        simp only [setPlace,if_true,Option.some.injEq,Prod.mk.injEq] at h
        exact .inl (by omega)⟩
    rb:=fun b o h=>by have:=hR b o h;show b < (w.heap.push _).size;rw [Array.size_push];omega
    place:=fun j hj=>by simp [setPlace,hj]
    chunk:=fun c h=>by
      simp only [Option.some.injEq] at h
      subst h
      refine ⟨.inr ⟨w.heap.size,0,_,by simp [setPlace],pushed_get _ _ _,⟨#[],[],rfl,List.Perm.refl _,rfl,⟨by simp,by simp,by simp,by simp [blksL],by simp [blksL]⟩,by simp [outsL]⟩,not_prot_new hR⟩,fun b cap' hb=>?_⟩
      simp only [setPlace,if_true,Option.some.injEq,Prod.mk.injEq] at hb
      omega
    single:=fun c h=>by
      simp only [Option.some.injEq] at h
      subst h
      exact Chunk.single_ext (fun _ _ h=>by simp [mapX,blksL] at h) }
  obtain ⟨h1,h2⟩:=SatF.step hs.s hfresh (next':=st.next + 1) (by omega) (Nat.le_succ _) (upd:=[]) trivial hstep.toU (v:=.ex (mapV next)) (u:=.map (some w.heap.size)) (by simp only [RepV];exact ⟨w.heap.size,0,by simp [setPlace],rfl⟩) o.dst
    (fun d hd'=>by simp only [dstB,hd',decide_eq_true_eq] at hd;exact hd) (fun j hj=>by simp [AV.has,mapV] at hj;exact .inr ⟨hj,rfl⟩)
    (fun ch j hc hj=>by
      obtain rfl:=Option.some.inj hc
      simp [Chunk.has,mapX,outsL] at hj) (fun x hx=>by simp at hx)
  rw [← step_get st o.dst (.ex (mapV next)) [] (some (.ext (mapX V [] [] 0)))] at h1
  have hlk:=step_lk st o.dst (.ex (mapV next)) [] (some (.ext (mapX V [] [] 0))) rfl trivial
  rw [hnx] at hlk
  rw [← hlk] at h1 h2
  exact hnext R _ _ _ _ hK ⟨h1,Nat.le_succ_of_le hs.fx⟩ ⟨h2,fun id hid=>by have:=hs.fx;simp only [setPlace];rw [if_neg (by omega)],rfl,rfl⟩
theorem blksL_sub {κ δ:Type} [DecidableEq κ] {A B:List (Ent κ δ)} (h:A.Sublist B):(blksL A).Sublist (blksL B):=by
  induction h with
  | slnil=>exact List.Sublist.refl _
  | cons x _ ih=>simp only [blksL,List.flatMap_cons] at ih ⊢;exact ih.trans (List.sublist_append_right _ _)
  | cons_cons x _ ih=>simp only [blksL,List.flatMap_cons] at ih ⊢;exact (List.Sublist.refl _).append ih
theorem run_del {w:World} {t kt et tk ty:TypeId} {b:Nat} {u:Value} {es:Array MapEntry} {clock:Nat} {r:Option (Nat × Value)} (hmt:P.underlying t = some (.map kt et)) (hb:w.heap[b]? = some (.map es clock))
    (hck:(Instr.checkKey es.isEmpty 10000 kt u).run P w = .ok () w) (hfk:(Instr.findKey kt u es.toList).run P w = .ok r w) :
    (Builtin.delete_ #[t,tk] ty #[.map (some b),u]).run P w = .ok (.tuple #[]) (setBlk w b (.map (match r with|some (i,_)=>es.eraseIdxIfInBounds i|none=>es) clock)):=by
  have e:Builtin.delete_ #[t,tk] ty #[.map (some b),u] = (do
      let .map keyType _ ← underlying t | stuck "delete: map type expected"
      let .map es clock ← getObj b | (do stuck "delete: map expected"; pure (.tuple #[]))
      Instr.checkKey es.isEmpty 10000 keyType u
      match ← Instr.findKey keyType u es.toList with
      | some (i,_)=>do setObj b (.map (es.eraseIdxIfInBounds i) clock);pure (.tuple #[])
      | none=>do setObj b (.map es clock);pure (.tuple #[])):=rfl
  rw [e]
  simp only [Sem.run_bind,run_underlying hmt,Result.andThen_ok,Go.MapKept.run_getObj_map hb,hck,hfk]
  cases r with
  | none=>simp only [Sem.run_bind,Go.MapKept.run_setObj_map _ hb,Result.andThen_ok,Sem.run_pure];rfl
  | some x=>simp only [Sem.run_bind,Go.MapKept.run_setObj_map _ hb,Result.andThen_ok,Sem.run_pure];rfl
section
variable (hT:tabOK P T = true)
include hT
theorem OpTri.delF {κ δ:Type} [DecidableEq κ] {F:FK κ δ} {V:FV F} {ops:Array Oper} {o:Oper} {n fix next:Nat} {env:List (Nat × AV)} {heap:List (Nat × Chunk)} {gl:Gl} {K:St→Prop} {t kt et tk:TypeId} {ke:TE} {m kx:Operand} {id:Nat} {os:List Nat} {L:List (Ent κ δ)} {clock:Nat} {k:κ}
    (hmt:P.underlying t = some (.map kt et)) (hkl:KeyLaw P T kt F ke) (ho:o.op = .call ⟨.builtin .delete,⟨[m,kx]⟩,⟨[t,tk]⟩⟩) (hg:o.guard = none) (hdst:o.dst = none)
    (hm:okP (St.ev ⟨n,fix,next,env,heap,gl⟩ m)∧(St.ev ⟨n,fix,next,env,heap,gl⟩ m).un = .ex (mapV id)) (hk:okP (St.ev ⟨n,fix,next,env,heap,gl⟩ kx)∧(St.ev ⟨n,fix,next,env,heap,gl⟩ kx).un = F.kav k)
    (hid:lookup id heap = some (.ext (mapX V os L clock))) (hK:K ⟨n,fix,next + 1,env,(id,.ext (mapX V os (eraseE L k) clock)) :: heap,gl⟩):OpTri P ops o ⟨n,fix,next,env,heap,gl⟩ K:=by
  intro hd R φ a w hs next0 Q hnext
  have hid':(St.lk ⟨n,fix,next,env,heap,gl⟩) id = some (.ext (mapX V os L clock)):=hid
  have hw:Region.wanted o (yielded ops a.tmps) = true:=by simp [Region.wanted,hg]
  rw [if_pos hw]
  left
  obtain ⟨b,cap,es,L',hmv,hφ,hb,hp,hents,hok,hos,hnR⟩:=map_open hs hm hid'
  have hkv:=key_open hs hk
  have hck:=KeyLaw.check hT hkl k es.isEmpty w
  have hfk:=find_keys hT hkl k w es.toList (L'.map Ent.k) hents.keys
  have hlt:b < w.heap.size:=(Array.getElem?_eq_some_iff.1 hb).1
  have hargs:(⟨[m,kx]⟩:Array Operand).map a.eval = #[.map (some b),F.ku k]:=by simp [hmv,hkv]
  obtain ⟨es',hrun,hents'⟩:∃ es',(execOp a.eval o).run P w = .ok (.value (.tuple #[])) (setBlk w b (.map es' clock))∧entsRel V φ R w (eraseE L' k) es'.toList:=by
    rcases ents_find hents ((hp.map _).nodup hok.keys) k with ⟨h1,h2⟩|⟨i,E,me,h1,hEk,h2,h3,_,_,h4⟩
    · rw [h2] at hfk
      refine ⟨es,?_,by rw [eraseE_notin (findE_none.1 h1)];exact hents⟩
      simp only [execOp,ho,resolve,invoke,builtin,hargs,Sem.run_bind,Sem.run_pure,Result.andThen_ok]
      rw [run_del hmt hb hck hfk]
      rfl
    · rw [h2] at hfk
      refine ⟨es.eraseIdxIfInBounds i,?_,?_⟩
      · rw [Option.bind_some,h3,Option.map_some] at hfk
        simp only [execOp,ho,resolve,invoke,builtin,hargs,Sem.run_bind,Sem.run_pure,Result.andThen_ok]
        rw [run_del hmt hb hck hfk]
        rfl
      · obtain ⟨A,E',B,x,me',y,rfl,hl,q1,q2,q3,q4,q5,q6,q7,q8,q9⟩:=entsRel.split hents ((hp.map _).nodup hok.keys) h2
        rw [eraseE_mid q3 q4 q2]
        have hil:i < es.size:=by
          have:=congrArg List.length hl
          simp only [Array.length_toList,List.length_append,List.length_cons] at this
          omega
        have e1:(es.eraseIdxIfInBounds i).toList = x ++ y:=by
          unfold Array.eraseIdxIfInBounds
          rw [dif_pos hil,Array.toList_eraseIdx,hl,← q1]
          simp [List.eraseIdx_append_of_length_le]
        rw [e1]
        exact q9.append q8
  unfold Oper.wp
  rw [hrun]
  have hcell:∀ k' o,R k' o→(setBlk w b (.map es' clock)).cell? ⟨k',o,none⟩ = w.cell? ⟨k',o,none⟩:=fun k' o hr=>setBlk_cell (fun e=>by subst e;exact hnR o hr)
  have hokE:EntsOK (eraseE L k) clock b:=by
    have hsub:(eraseE L k).Sublist L:=List.filter_sublist
    exact ⟨(hsub.map _).nodup hok.keys,(hsub.map _).nodup hok.born,fun E hE=>hok.lt E (hsub.subset hE),(blksL_sub hsub).nodup hok.blk,fun h=>hok.ne ((blksL_sub hsub).subset h)⟩
  obtain ⟨h1,h2⟩:=sat_turnX hs hid' hφ (o':=.map es' clock) (c1:=.ext (mapX V os (eraseE L k) clock)) (fun j hj=>by
      exact hs.s.hnamed id _ j hid' hj)
    (.inr ⟨b,cap,_,hφ,setBlk_get hlt,⟨es',eraseE L' k,rfl,hp.filter _,hents'.mono (fun _ _ h=>h) hcell (fun _ _=>rfl) (fun x hx _=>⟨setBlk_ne (fun e=>by
        subst e
        exact hok.ne ((hp.flatMap_right _).mem_iff.2 (blksL_erase hx))),fun _ h=>h⟩),hokE,fun x hx=>hos x (by
          simp only [outsL,eraseE,List.mem_flatMap,List.mem_filter] at hx ⊢
          obtain ⟨E,⟨hE,_⟩,hx⟩:=hx
          exact ⟨E,hE,hx⟩)⟩,hnR⟩)
    (fun b' cap' x hx=>hx.imp (fun h=>h) (fun h=>blksL_erase h))
  show next0 (a.put o.dst (.tuple #[])) _
  rw [hdst]
  exact hnext R φ _ _ _ hK h1 h2
theorem run_upd {κ δ:Type} [DecidableEq κ] {F:FK κ δ} {w:World} {t kt et:TypeId} {ke:TE} {b:Nat} {k:κ} {u:Value} {es:Array MapEntry} {clock:Nat} {r:Option (Nat × Value)} (hmt:P.underlying t = some (.map kt et)) (hkl:KeyLaw P T kt F ke) (hb:w.heap[b]? = some (.map es clock))
    (hfk:(Instr.findKey kt (F.ku k) es.toList).run P w = .ok r w) (hkey:∀ i v,r = some (i,v)→∃ e,es[i]? = some e∧e.key = F.ku k) :
    (Instr.mapUpdate t (.map (some b)) (F.ku k) u).run P w = .ok () (setBlk w b (match r with|some (i,_)=>.map (es.modify i fun e=>{ e with key:=F.ku k,val:=u }) clock|none=>.map (es.push { key:=F.ku k,val:=u,born:=clock }) (clock + 1))):=by
  have hck:=KeyLaw.check hT hkl k false w
  cases r with
  | none=>
    simp only [Instr.mapUpdate,Sem.run_bind,run_underlying hmt,Result.andThen_ok,Go.MapKept.run_getObj_map hb,Sem.run_pure,hck,hfk,Go.MapKept.run_setObj_map _ hb]
    rfl
  | some x=>
    obtain ⟨i,v⟩:=x
    obtain ⟨e,h1,h2⟩:=hkey i v rfl
    have hst:(Instr.keyThatStays (((es[i]?).map (·.key)).getD (F.ku k)) (F.ku k)).run P w = .ok (F.ku k) w:=by
      rw [h1]
      simp only [Option.map_some,Option.getD_some,h2,Instr.keyThatStays,FK.ku_bits hT F k,if_true,Sem.run_pure]
    simp only [Instr.mapUpdate,Sem.run_bind,run_underlying hmt,Result.andThen_ok,Go.MapKept.run_getObj_map hb,Sem.run_pure,hck,hfk,hst,Go.MapKept.run_setObj_map _ hb]
    rfl
theorem OpTri.updF {κ δ:Type} [DecidableEq κ] {F:FK κ δ} {V:FV F} {ops:Array Oper} {o:Oper} {n fix next:Nat} {env:List (Nat × AV)} {heap:List (Nat × Chunk)} {gl:Gl} {K:St→Prop} {t kt et:TypeId} {ke:TE} {m kx x:Operand} {id e:Nat} {os:List Nat} {L:List (Ent κ δ)} {clock:Nat} {k:κ} {d:δ}
    (hmt:P.underlying t = some (.map kt et)) (hkl:KeyLaw P T kt F ke) (ho:o.op = .mapUpdate t m kx x) (hg:o.guard = none) (hdst:o.dst = none)
    (hm:okP (St.ev ⟨n,fix,next,env,heap,gl⟩ m)∧(St.ev ⟨n,fix,next,env,heap,gl⟩ m).un = .ex (mapV id)) (hk:okP (St.ev ⟨n,fix,next,env,heap,gl⟩ kx)∧(St.ev ⟨n,fix,next,env,heap,gl⟩ kx).un = F.kav k)
    (hx:okP (St.ev ⟨n,fix,next,env,heap,gl⟩ x)∧(St.ev ⟨n,fix,next,env,heap,gl⟩ x).un = F.av d e) (hid:lookup id heap = some (.ext (mapX V os L clock))) (hide:id≠e)
    (hpl:∃ ce,lookup e heap = some ce∧∀ φ R w,ChunkRel φ R w e ce→∃ p c,φ e = some (p,c))
    (hK:∀ p c,K ⟨n,fix,next + 1,env,(id,.ext (mapX V (e :: os) (match findE L k with|some _=>turnE L k (.out d e p c)|none=>L ++ [⟨k,.out d e p c,clock⟩]) (match findE L k with|some _=>clock|none=>clock + 1))) :: heap,gl⟩):OpTri P ops o ⟨n,fix,next,env,heap,gl⟩ K:=by
  intro hd R φ a w hs next0 Q hnext
  have hid':(St.lk ⟨n,fix,next,env,heap,gl⟩) id = some (.ext (mapX V os L clock)):=hid
  have hw:Region.wanted o (yielded ops a.tmps) = true:=by simp [Region.wanted,hg]
  rw [if_pos hw]
  left
  obtain ⟨b,cap,es,L',hmv,hφ,hb,hp,hents,hok,hos,hnR⟩:=map_open hs hm hid'
  have hkv:=key_open hs hk
  have hfk:=find_keys hT hkl k w es.toList (L'.map Ent.k) hents.keys
  have hlt:b < w.heap.size:=(Array.getElem?_eq_some_iff.1 hb).1
  obtain ⟨ce,hce,hce2⟩:=hpl
  obtain ⟨p,c,hpe⟩:=hce2 φ R w (hs.s.heap.rel e ce hce)
  have hxv:RepV φ R w (F.av d e) (a.eval x):=by
    have h1:=(hs.s.ev x).un hx.1
    have h2:(evF (St.get ⟨n,fix,next,env,heap,gl⟩) gl x).un = F.av d e:=hx.2
    rw [h2] at h1
    exact h1
  have hpv:RepV φ R w (V.pv d p c) (a.eval x):=(V.rep d e p c φ φ R w _ hpe).1 hxv
  have hcell:∀ (o':Obj) k' i,R k' i→(setBlk w b o').cell? ⟨k',i,none⟩ = w.cell? ⟨k',i,none⟩:=fun o' k' i hr=>setBlk_cell (fun e=>by subst e;exact hnR i hr)
  have hmo:∀ (o':Obj) {L2:List (Ent κ δ)} {l:List MapEntry},(∀ x∈blksL L2,x∈blksL L')→entsRel V φ R w L2 l→entsRel V φ R (setBlk w b o') L2 l:=fun o' {L2 l} hsub h=>
    h.mono (fun _ _ h=>h) (hcell o') (fun _ _=>rfl) (fun y hy _=>⟨setBlk_ne (fun e=>hok.ne ((hp.flatMap_right _).mem_iff.2 (hsub b (e ▸ hy)))),fun _ h=>h⟩)
  have hfin:∀ (es':Array MapEntry) (L2 L2':List (Ent κ δ)) (clock':Nat),(execOp a.eval o).run P w = .ok .skip (setBlk w b (.map es' clock'))→L2.Perm L2'→entsRel V φ R (setBlk w b (.map es' clock')) L2' es'.toList→EntsOK L2 clock' b→(∀ x∈blksL L2,x∈blksL L)→
      (∀ x∈outsL L2,x = e∨x∈outsL L)→K ⟨n,fix,next + 1,env,(id,.ext (mapX V (e :: os) L2 clock')) :: heap,gl⟩→o.wp P a w next0 Q:=by
    intro es' L2 L2' clock' hrun hp2 hents2 hok2 hb2 ho2 hK2
    unfold Oper.wp
    rw [hrun]
    obtain ⟨h1,h2⟩:=sat_turnX hs hid' hφ (o':=.map es' clock') (c1:=.ext (mapX V (e :: os) L2 clock')) (fun j hj=>by
        simp only [Chunk.has,mapX,List.contains_eq_mem,decide_eq_true_eq] at hj
        rcases List.mem_cons.1 hj with rfl|h
        · exact ⟨ce,hce⟩
        · exact hs.s.hnamed id _ j hid' (by simp only [Chunk.has,mapX,List.contains_eq_mem,decide_eq_true_eq];exact h))
      (.inr ⟨b,cap,_,hφ,setBlk_get hlt,⟨es',L2',rfl,hp2,hents2,hok2,fun x hx=>(ho2 x hx).elim (fun h=>h ▸ List.mem_cons_self ..) (fun h=>List.mem_cons_of_mem _ (hos x h))⟩,hnR⟩)
      (fun b' cap' x hx=>hx.imp (fun h=>h) (fun h=>hb2 x h))
    show next0 (a.put o.dst undef) _
    rw [hdst]
    exact hnext R φ _ _ _ hK2 h1 h2
  have hK:=hK p c
  rcases ents_find hents ((hp.map _).nodup hok.keys) k with ⟨h1,h2⟩|⟨i,E,me,h1,hEk,h2,h3,h5,_,h4⟩
  · rw [h2] at hfk
    have hf1:findE L k = none:=by rw [perm_find hp hok.keys];exact h1
    rw [hf1] at hK
    refine hfin _ _ (L' ++ [⟨k,.out d e p c,clock⟩]) _ (by
        simp only [execOp,ho,hmv,hkv,Sem.run_bind]
        rw [run_upd hT hmt hkl hb hfk (fun i v h=>by cases h)]
        rfl) (hp.append_right _) ?_ ?_ ?_ ?_ hK
    · simp only [Array.toList_push]
      exact entsRel.append (B:=[⟨k,.out d e p c,clock⟩]) (b:=[⟨F.ku k,a.eval x,clock⟩]) ⟨_,_,rfl,rfl,rfl,⟨hpe,RepV.mono (fun _ _ h=>h) (hcell _) (fun _ _=>rfl) hpv⟩,rfl⟩ (hmo _ (fun _ h=>h) hents)
    · have hb9:blksL (L ++ [⟨k,ES.out d e p c,clock⟩]) = blksL L:=by simp [blksL,ES.blk]
      refine ⟨?_,?_,?_,by rw [hb9];exact hok.blk,by rw [hb9];exact hok.ne⟩
      · rw [List.map_append,List.nodup_append]
        refine ⟨hok.keys,by simp,fun x hx y hy e=>?_⟩
        simp only [List.map_cons,List.map_nil,List.mem_singleton] at hy
        subst e;subst hy
        exact findE_none.1 hf1 hx
      · rw [List.map_append,List.nodup_append]
        refine ⟨hok.born,by simp,fun x hx y hy e=>?_⟩
        simp only [List.map_cons,List.map_nil,List.mem_singleton] at hy
        subst e;subst hy
        obtain ⟨E,hE,he⟩:=List.mem_map.1 hx
        have:=hok.lt E hE
        omega
      · intro E hE
        rcases List.mem_append.1 hE with hE|hE
        · exact Nat.lt_succ_of_lt (hok.lt E hE)
        · simp only [List.mem_singleton] at hE
          subst hE;exact Nat.lt_succ_self _
    · intro x hx
      simpa [blksL,ES.blk] using hx
    · intro x hx
      simp only [outsL,List.flatMap_append,List.flatMap_cons,List.flatMap_nil,ES.outs,List.append_nil,List.mem_append,List.mem_singleton] at hx ⊢
      exact hx.symm
  · rw [h2,Option.bind_some,h3,Option.map_some] at hfk
    have hf1:findE L k = some E:=by rw [perm_find hp hok.keys];exact h1
    rw [hf1] at hK
    refine hfin _ _ (turnE L' k (.out d e p c)) _ (by
        simp only [execOp,ho,hmv,hkv,Sem.run_bind]
        rw [run_upd hT hmt hkl hb hfk (fun j v h=>by
          simp only [Option.some.injEq,Prod.mk.injEq] at h
          obtain ⟨rfl,_⟩:=h
          exact ⟨me,by simpa using h3,h5⟩)]
        rfl) (hp.map _) ?_ (hok.turn (by simp [ES.blk]) (by simp [ES.blk])) (fun x hx=>?_) (fun x hx=>?_) hK
    · obtain ⟨A,E',B,xs,me',ys,rfl,hl,q1,q2,q3,q4,q5,q6,q7,q8,q9⟩:=entsRel.split hents ((hp.map _).nodup hok.keys) h2
      rw [turnE_mid q3 q4 q2]
      have e1:(es.modify i fun e=>{ e with key:=F.ku k,val:=a.eval x }).toList = xs ++ { me' with key:=F.ku k,val:=a.eval x } :: ys:=by
        apply List.ext_getElem?
        intro j
        rw [Array.getElem?_toList,Array.getElem?_modify]
        have hj:es[j]? = (xs ++ me' :: ys)[j]?:=by rw [← hl,Array.getElem?_toList]
        rw [hj]
        by_cases hij:i = j
        · subst hij
          rw [if_pos rfl,← q1,List.getElem?_append_right (Nat.le_refl _),List.getElem?_append_right (Nat.le_refl _)]
          simp
        · rw [if_neg hij]
          rcases Nat.lt_or_ge j xs.length with h|h
          · rw [List.getElem?_append_left h,List.getElem?_append_left h]
          · rw [List.getElem?_append_right h,List.getElem?_append_right h]
            obtain ⟨q,hq⟩:∃ q,j - xs.length = q + 1:=⟨j - xs.length - 1,by omega⟩
            rw [hq];rfl
      rw [e1]
      have hbA:∀ x∈blksL A,x∈blksL (A ++ E' :: B):=fun x hx=>by rw [blksL_mid];exact List.mem_append_left _ hx
      have hbB:∀ x∈blksL B,x∈blksL (A ++ E' :: B):=fun x hx=>by rw [blksL_mid];exact List.mem_append_right _ (List.mem_append_right _ hx)
      exact entsRel.join (E:={ E' with s:=.out d e p c }) (m:={ me' with key:=F.ku k,val:=a.eval x }) (show F.ku k = F.ku E'.k by rw [q2]) q6 ⟨hpe,RepV.mono (fun _ _ h=>h) (hcell _) (fun _ _=>rfl) hpv⟩ (hmo _ hbB q9) (hmo _ hbA q8)
    · rcases blksL_turn hx with h|h
      · simp [ES.blk] at h
      · exact h
    · rcases outsL_turn hx with h|h
      · simp only [ES.outs,List.mem_singleton] at h;exact .inl h
      · exact .inr h
end
end Go.Fw
namespace Go.Fw
variable {P:Program} {T:Tab}
def itX (id clock:Nat) (seen:List Nat):XCh where
  ids:=[id]
  fixed:=true
  nil:=False
  rel φ _ _ _ o _:=∃ b cap,φ id = some (b,cap)∧o = .mapIter (some b) clock seen.toArray clock
  mono _ _ hφ _ h:=by
    obtain ⟨b,cap,h1,h2⟩:=h
    exact ⟨b,cap,by rw [hφ id (by simp)];exact h1,h2⟩
theorem OpTri.rangeF {κ δ:Type} [DecidableEq κ] {F:FK κ δ} {V:FV F} {ops:Array Oper} {o:Oper} {n fix next:Nat} {env:List (Nat × AV)} {heap:List (Nat × Chunk)} {gl:Gl} {K:St→Prop} {t kt et:TypeId} {m:Operand} {id:Nat} {os:List Nat} {L:List (Ent κ δ)} {clock:Nat}
    (hmt:P.underlying t = some (.map kt et)) (ho:o.op = .range t m) (hg:o.guard = none)
    (hm:okP (St.ev ⟨n,fix,next,env,heap,gl⟩ m)∧(St.ev ⟨n,fix,next,env,heap,gl⟩ m).un = .ex (mapV id)) (hid:lookup id heap = some (.ext (mapX V os L clock)))
    (hK:stepN n fix next env heap gl o.dst (.loc next 0) [] (some (.ext (itX id clock []))) K):OpTri P ops o ⟨n,fix,next,env,heap,gl⟩ K:=by
  intro hd R φ a w hs next0 Q hnext
  have hid':(St.lk ⟨n,fix,next,env,heap,gl⟩) id = some (.ext (mapX V os L clock)):=hid
  have hw:Region.wanted o (yielded ops a.tmps) = true:=by simp [Region.wanted,hg]
  rw [if_pos hw]
  left
  obtain ⟨b,cap,es,L',hmv,hφ,hb,hp,hents,hok,hos,hnR⟩:=map_open hs hm hid'
  rw [stepN_eq] at hK
  generalize hst:(⟨n,fix,next,env,heap,gl⟩:St) = st at *
  have hnx:st.next = next:=by rw [← hst]
  have hrun:(execOp a.eval o).run P w = .ok (.value (.pointer (some ⟨w.heap.size,0,none⟩))) (pushed w (.mapIter (some b) clock #[] clock) w.drawn):=by
    simp [execOp,ho,hmv,Instr.range,run_underlying hmt,Go.MapKept.run_getObj_map hb,run_newObj];rfl
  unfold Oper.wp
  rw [hrun]
  have hfresh:st.lk next = none:=by
    cases hh:st.lk next with
    | none=>rfl
    | some c=>have:=hs.s.hnext _ _ hh;omega
  have hR:=hs.s.rlt
  have hidn:id≠next:=fun e=>by subst e;rw [hid'] at hfresh;cases hfresh
  have hstep:StepTo φ R w next (some (.ext (itX id clock []))) (setPlace φ next (some (w.heap.size,0))) R (pushed w (.mapIter (some b) clock #[] clock) w.drawn):={
    evo:=⟨rfl,rfl,rfl,by simp [pushed],fun b hb _=>by show (w.heap.push _)[b]? = _;rw [Array.getElem?_push,if_neg (by omega)],fun _ _ h=>h,fun b o h=>pushed_cell (hR b o h),fun _ _ h=>.inl h,
      fun b hb=>by
        obtain ⟨_,cap',h⟩:=hb
        simp only [setPlace,if_true,Option.some.injEq,Prod.mk.injEq] at h
        exact .inl (by omega)⟩
    rb:=fun b o h=>by have:=hR b o h;show b < (w.heap.push _).size;rw [Array.size_push];omega
    place:=fun j hj=>by simp [setPlace,hj]
    chunk:=fun c h=>by
      simp only [Option.some.injEq] at h
      subst h
      refine ⟨.inr ⟨w.heap.size,0,_,by simp [setPlace],pushed_get _ _ _,⟨b,cap,by simp only [setPlace];rw [if_neg hidn];exact hφ,rfl⟩,not_prot_new hR⟩,fun b cap' hb=>?_⟩
      simp only [setPlace,if_true,Option.some.injEq,Prod.mk.injEq] at hb
      omega
    single:=fun c h=>by
      simp only [Option.some.injEq] at h
      subst h
      exact Chunk.single_ext (fun _ _ h=>h) }
  obtain ⟨h1,h2⟩:=SatF.step hs.s hfresh (next':=st.next + 1) (by omega) (Nat.le_succ _) (upd:=[]) trivial hstep.toU (v:=.loc next 0) (u:=.pointer (some ⟨w.heap.size,0,none⟩)) (by simp only [RepV];exact ⟨w.heap.size,0,by simp [setPlace],rfl⟩) o.dst
    (fun d hd'=>by simp only [dstB,hd',decide_eq_true_eq] at hd;exact hd) (fun j hj=>by simp [AV.has] at hj;exact .inr ⟨hj.symm,rfl⟩)
    (fun ch j hc hj=>by
      obtain rfl:=Option.some.inj hc
      simp only [Chunk.has,itX,List.contains_eq_mem,List.mem_singleton,decide_eq_true_eq] at hj
      subst hj
      exact ⟨_,hid'⟩) (fun x hx=>by simp at hx)
  rw [← step_get st o.dst (.loc next 0) [] (some (.ext (itX id clock [])))] at h1
  have hlk:=step_lk st o.dst (.loc next 0) [] (some (.ext (itX id clock []))) rfl trivial
  rw [hnx] at hlk
  rw [← hlk] at h1 h2
  exact hnext R _ _ _ _ hK ⟨h1,Nat.le_succ_of_le hs.fx⟩ ⟨h2,fun id hid=>by have:=hs.fx;simp only [setPlace];rw [if_neg (by omega)],rfl,rfl⟩
def NextOK {κ δ:Type} [DecidableEq κ] (L:List (Ent κ δ)) (seen:List Nat):Option (Ent κ δ)→Prop
  | none=>∀ E∈L,E.born∈seen
  | some E=>E∈L∧E.born ∉ seen
def nextAV {κ δ:Type} [DecidableEq κ] (g:Option (Ent κ δ)):List AV:=match g with|some _=>[.any,.any]|none=>[]
theorem entsRel.mem {κ δ:Type} [DecidableEq κ] {F:FK κ δ} {V:FV F} {φ:Place} {R:Prot} {w:World}:∀ {L:List (Ent κ δ)} {l:List MapEntry},entsRel V φ R w L l→∀ m∈l,∃ E∈L,m.key = F.ku E.k∧m.born = E.born∧entV V φ R w E.s m.val
  | [],l,h,m,hm=>by simp only [entsRel] at h;subst h;simp at hm
  | E :: L,l,h,m,hm=>by
    obtain ⟨m',r,rfl,h1,h2,h3,h4⟩:=h
    rcases List.mem_cons.1 hm with rfl|hm
    · exact ⟨E,List.mem_cons_self ..,h1,h2,h3⟩
    · obtain ⟨E',h5,h6⟩:=entsRel.mem h4 m hm
      exact ⟨E',List.mem_cons_of_mem _ h5,h6⟩
theorem entsRel.mem' {κ δ:Type} [DecidableEq κ] {F:FK κ δ} {V:FV F} {φ:Place} {R:Prot} {w:World}:∀ {L:List (Ent κ δ)} {l:List MapEntry},entsRel V φ R w L l→∀ E∈L,∃ m∈l,m.key = F.ku E.k∧m.born = E.born∧entV V φ R w E.s m.val
  | [],l,h,E,hE=>by simp at hE
  | E' :: L,l,h,E,hE=>by
    obtain ⟨m',r,rfl,h1,h2,h3,h4⟩:=h
    rcases List.mem_cons.1 hE with rfl|hE
    · exact ⟨m',List.mem_cons_self ..,h1,h2,h3⟩
    · obtain ⟨m,h5,h6⟩:=entsRel.mem' h4 E hE
      exact ⟨m,List.mem_cons_of_mem _ h5,h6⟩
theorem entsRel.borns {κ δ:Type} [DecidableEq κ] {F:FK κ δ} {V:FV F} {φ:Place} {R:Prot} {w:World}:∀ {L:List (Ent κ δ)} {l:List MapEntry},entsRel V φ R w L l→l.map MapEntry.born = L.map Ent.born
  | [],l,h=>by simp only [entsRel] at h;subst h;rfl
  | E :: L,l,h=>by
    obtain ⟨m,r,rfl,h1,h2,h3,h4⟩:=h
    simp only [List.map_cons,h2,entsRel.borns h4]
theorem run_nextF {w:World} {bi bm clock:Nat} {seen:List Nat} {es:Array MapEntry} {ty:TypeId} (hi:w.heap[bi]? = some (.mapIter (some bm) clock seen.toArray clock)) (hm:w.heap[bm]? = some (.map es clock)) (hlt:∀ e∈es.toList,e.born < clock) :
    ∃ d,((∀ e∈es.toList,e.born∈seen)∧(Instr.next (.pointer (some ⟨bi,0,none⟩)) false ty).run P w = .ok (.tuple #[.bool false]) { w with drawn:=d })∨
      ∃ e∈es.toList,e.born ∉ seen∧(Instr.next (.pointer (some ⟨bi,0,none⟩)) false ty).run P w = .ok (.tuple #[.bool true,e.key,e.val]) (setBlk { w with drawn:=d } bi (.mapIter (some bm) clock (seen ++ [e.born]).toArray clock)):=by
  have hgi:(getObj bi).run P w = .ok (.mapIter (some bm) clock seen.toArray clock) w:=by simp [getObj,Sem.run,hi]
  have hgm:(getObj bm).run P w = .ok (.map es clock) w:=Go.MapKept.run_getObj_map hm
  have hchk:(!seen.toArray.isEmpty && !es.isEmpty && es.all (fun x=>decide (x.born≥clock))) = false:=by
    cases hes:es.isEmpty with
    | true=>simp
    | false=>
      have:es.all (fun x=>decide (x.born≥clock)) = false:=by
        rw [← Array.all_toList]
        cases hl:es.toList with
        | nil=>
          have:es.size = 0:=by rw [← Array.length_toList,hl];rfl
          simp [Array.isEmpty,this] at hes
        | cons x r=>
          have:=hlt x (by rw [hl];exact List.mem_cons_self ..)
          simp only [List.all_cons,Bool.and_eq_false_iff,decide_eq_false_iff_not]
          exact .inl (by omega)
      simp [this]
  have hold:(es.filter fun e=>!seen.toArray.contains e.born).filter (fun x=>decide (x.born < clock)) = es.filter fun e=>!seen.toArray.contains e.born:=by
    apply Array.ext'
    simp only [Array.toList_filter]
    rw [List.filter_eq_self]
    intro e he
    simp only [decide_eq_true_eq]
    exact hlt e (List.mem_filter.1 he).1
  have hnew:(es.filter fun e=>!seen.toArray.contains e.born).filter (fun x=>decide (x.born≥clock)) = #[]:=by
    apply Array.ext'
    simp only [Array.toList_filter]
    rw [List.filter_eq_nil_iff]
    intro e he
    have:=hlt e (List.mem_filter.1 he).1
    simp only [decide_eq_true_eq];omega
  have hin:∀ e,e∈(es.filter fun e=>!seen.toArray.contains e.born).toList ↔ e∈es.toList∧e.born ∉ seen:=fun e=>by
    simp [Array.toList_filter,List.mem_filter]
  generalize hleft:(es.filter fun e=>!seen.toArray.contains e.born) = left at *
  have hrun:(Instr.next (.pointer (some ⟨bi,0,none⟩)) false ty).run P w = ((choose (.mapNext ((if left.isEmpty then #[none] else #[]) ++ (left ++ #[]).map some).size) >>= fun i=>match ((if left.isEmpty then #[none] else #[]) ++ (left ++ #[]).map some)[i]? with
      | some (some e)=>do
        setObj bi (.mapIter (some bm) clock (seen.toArray.push e.born) clock)
        pure (.tuple #[.bool true,e.key,e.val])
      | some none=>pure (.tuple #[.bool false])
      | none => stuck "Next: no such candidate") : Sem Value).run P w := by
    simp only [Instr.next,Sem.run_bind,hgi,Result.andThen_ok,hgm,hchk,Bool.false_eq_true,if_false,hleft,hold,hnew]
    rfl
  cases hem:left.isEmpty with
  | true=>
    have hl0:left = #[]:=by simpa [Array.isEmpty] using hem
    subst hl0
    refine ⟨w.drawn,.inl ⟨fun e he=>Classical.byContradiction fun hn=>by have:=(hin e).2 ⟨he,hn⟩;simp at this,?_⟩⟩
    rw [hrun]
    simp [run_choose,Question.forced]
  | false=>
    rw [hem] at hrun
    simp only [Bool.false_eq_true,if_false,Array.empty_append,Array.append_empty,Array.size_map] at hrun
    have hpos:0 < left.size:=by
      rcases Nat.eq_zero_or_pos left.size with h|h
      · simp [Array.isEmpty,h] at hem
      · exact h
    have key:∀ (i d:Nat),i < left.size→∃ e∈es.toList,e.born ∉ seen∧((match (left.map some)[i]? with
      | some (some e)=>do
        setObj bi (.mapIter (some bm) clock (seen.toArray.push e.born) clock)
        pure (.tuple #[.bool true,e.key,e.val])
      | some none=>pure (.tuple #[.bool false])
      | none => stuck "Next: no such candidate") : Sem Value).run P { w with drawn := d } = .ok (.tuple #[.bool true, e.key, e.val]) (setBlk { w with drawn := d } bi (.mapIter (some bm) clock (seen ++ [e.born]).toArray clock)) := by
      intro i d hil
      obtain ⟨h1,h2⟩:=(hin left[i]).1 (by simp)
      refine ⟨left[i],h1,h2,?_⟩
      have hi':({ w with drawn:=d }:World).heap[bi]? = some (.mapIter (some bm) clock seen.toArray clock):=hi
      have e1:(left.map some)[i]? = some (some left[i]):=by simp [hil]
      rw [e1]
      simp only [Sem.run_bind]
      have hset:(setObj bi (.mapIter (some bm) clock (seen.toArray.push left[i].born) clock)).run P { w with drawn:=d } = .ok () (setBlk { w with drawn:=d } bi (.mapIter (some bm) clock (seen ++ [left[i].born]).toArray clock)):=by
        simp [setObj,Sem.run,setBlk,hi']
      rw [hset]
      simp only [Result.andThen_ok,Sem.run_pure]
    rw [Sem.run_bind,run_choose] at hrun
    by_cases hf:(Question.mapNext left.size).forced = true
    · rw [if_pos hf] at hrun
      obtain ⟨e,h1,h2,h3⟩:=key 0 w.drawn hpos
      exact ⟨w.drawn,.inr ⟨e,h1,h2,by rw [hrun];exact h3⟩⟩
    · rw [if_neg hf] at hrun
      obtain ⟨e,h1,h2,h3⟩:=key ((Question.mapNext left.size).cut (w.tape w.drawn (.mapNext left.size))) (w.drawn + 1) (by simp only [Question.cut];exact Nat.mod_lt _ hpos)
      exact ⟨w.drawn + 1,.inr ⟨e,h1,h2,by rw [hrun];exact h3⟩⟩
theorem iter_open {R:Prot} {φ:Place} {st:St} {a:Act} {w:World} (hs:Sat R φ st a w) {x:Operand} {j id clock:Nat} {seen:List Nat} (hx:okP (st.ev x)∧(st.ev x).un = .loc j 0) (hj:st.lk j = some (.ext (itX id clock seen))) {b cap:Nat} (hφ:φ id = some (b,cap)) :
    ∃ bi capi,a.eval x = .pointer (some ⟨bi,0,none⟩)∧φ j = some (bi,capi)∧w.heap[bi]? = some (.mapIter (some b) clock seen.toArray clock)∧∀ o,¬ R bi o:=by
  have h1:=(hs.s.ev x).un hx.1
  have h2:(evF st.get st.gl x).un = .loc j 0:=hx.2
  rw [h2] at h1
  simp only [RepV] at h1
  obtain ⟨bi,capi,hφj,hxv⟩:=h1
  rcases hs.s.heap.rel j _ hj with ⟨_,h0⟩|⟨b',cap',o',hφ',hb',⟨b2,cap2,h3,rfl⟩,hnR⟩
  · exact h0.elim
  rw [hφj] at hφ'
  simp only [Option.some.injEq,Prod.mk.injEq] at hφ'
  obtain ⟨rfl,rfl⟩:=hφ'
  rw [hφ] at h3
  simp only [Option.some.injEq,Prod.mk.injEq] at h3
  obtain ⟨rfl,rfl⟩:=h3
  exact ⟨bi,capi,hxv,hφj,hb',hnR⟩
theorem val_stepD {o:Oper} {st:St} {R:Prot} {φ:Place} {a:Act} {w:World} (hs:Sat R φ st a w) (hd:dstB o st.n = true) {d:Nat} (hdst:o.dst = some d) {v:AV} {u:Value} (hv:RepV φ R w v u) (hn:∀ j,v.has j = true→∃ c,st.lk j = some c) :
    Sat R φ ⟨st.n,st.fix,st.next,(d,v) :: st.env,st.heap,st.gl⟩ (a.put o.dst u) w:=by
  have hget:∀ t,(⟨st.n,st.fix,st.next,(d,v) :: st.env,st.heap,st.gl⟩:St).get t = if o.dst = some t then v else st.get t:=fun t=>by
    simp only [St.get,lookup_cons,hdst,Option.some.injEq]
    by_cases e:d = t <;> simp [e]
  refine ⟨⟨fun t=>?_,fun t j hj=>?_,hs.s.hnamed,hs.s.hnext,?_,hs.s.heap,hs.s.rlt,?_,hs.s.gl⟩,hs.fx⟩
  · rw [hget,getD_put a o.dst u t (fun d' hd'=>by rw [hs.s.sz];simp only [dstB,hd',decide_eq_true_eq] at hd;exact hd)]
    split
    · exact hv
    · exact hs.s.env t
  · rw [hget] at hj
    split at hj
    · exact hn j hj
    · exact hs.s.named t j hj
  · have:=hs.s.sz
    rw [hdst]
    simp [Act.put,this]
  · have:=hs.s.defers
    rw [hdst]
    simpa [Act.put] using this
section
variable (hT:tabOK P T = true)
include hT
theorem OpTri.nextF {κ δ:Type} [DecidableEq κ] {F:FK κ δ} {V:FV F} {ops:Array Oper} {o:Oper} {n fix next:Nat} {env:List (Nat × AV)} {heap:List (Nat × Chunk)} {gl:Gl} {K:St→Prop} {x:Operand} {id j d:Nat} {os:List Nat} {L:List (Ent κ δ)} {clock:Nat} {seen:List Nat}
    (ho:o.op = .next x false) (hg:o.guard = none) (hdst:o.dst = some d)
    (hx:okP (St.ev ⟨n,fix,next,env,heap,gl⟩ x)∧(St.ev ⟨n,fix,next,env,heap,gl⟩ x).un = .loc j 0) (hj:lookup j heap = some (.ext (itX id clock seen))) (hid:lookup id heap = some (.ext (mapX V os L clock)))
    (hK:∀ g:Option (Ent κ δ),NextOK L seen g→K ⟨n,fix,next + 1,(d,.tup (.bool g.isSome :: nextAV g)) :: env,(j,.ext (itX id clock (seen ++ g.toList.map Ent.born))) :: heap,gl⟩):OpTri P ops o ⟨n,fix,next,env,heap,gl⟩ K:=by
  intro hd R φ a w hs next0 Q hnext
  have hid':(St.lk ⟨n,fix,next,env,heap,gl⟩) id = some (.ext (mapX V os L clock)):=hid
  have hj':(St.lk ⟨n,fix,next,env,heap,gl⟩) j = some (.ext (itX id clock seen)):=hj
  have hw:Region.wanted o (yielded ops a.tmps) = true:=by simp [Region.wanted,hg]
  rw [if_pos hw]
  left
  rcases hs.s.heap.rel id _ hid' with ⟨_,h0⟩|⟨b,cap,o',hφ,hb,⟨es,L',rfl,hp,hents,hok,hos⟩,hnR⟩
  · exact h0.elim
  obtain ⟨bi,capi,hxv,hφj,hbi,hnRi⟩:=iter_open hs hx hj' hφ
  have hlt:∀ e∈es.toList,e.born < clock:=fun e he=>by
    obtain ⟨E,hE,_,h2,_⟩:=hents.mem e he
    rw [h2];exact hok.lt E (hp.mem_iff.2 hE)
  obtain ⟨dr,hcase⟩:=run_nextF (P:=P) (ty:=o.type) hbi hb hlt
  have hsd:Sat R φ ⟨n,fix,next,env,heap,gl⟩ a { w with drawn:=dr }:=⟨hs.s.drew hT _,hs.fx⟩
  have hblt:bi < w.heap.size:=(Array.getElem?_eq_some_iff.1 hbi).1
  have fin:∀ (g:Option (Ent κ δ)) (u:Value) (w':World),NextOK L seen g→Sat R φ ⟨n,fix,next + 1,env,(j,.ext (itX id clock (seen ++ g.toList.map Ent.born))) :: heap,gl⟩ a w'→
      Ext ⟨n,fix,next,env,heap,gl⟩ R φ w ⟨n,fix,next + 1,env,(j,.ext (itX id clock (seen ++ g.toList.map Ent.born))) :: heap,gl⟩ R φ w'→RepV φ R w' (.tup (.bool g.isSome :: nextAV g)) u→(execOp a.eval o).run P w = .ok (.value u) w'→o.wp P a w next0 Q:=by
    intro g u w' hgo hs' he' hu hrun
    unfold Oper.wp
    rw [hrun]
    refine hnext R φ _ w' _ (hK g hgo) (val_stepD (o:=o) hs' hd hdst hu (fun k hk=>?_)) ⟨he'.evo,he'.place,he'.fix,he'.n⟩
    cases g <;> simp [AV.has,AV.hasAny,nextAV] at hk
  have turn:∀ (seen':List Nat) (w':World),w' = setBlk { w with drawn:=dr } bi (.mapIter (some b) clock seen'.toArray clock)→
      Sat R φ ⟨n,fix,next + 1,env,(j,.ext (itX id clock seen')) :: heap,gl⟩ a w'∧Ext ⟨n,fix,next,env,heap,gl⟩ R φ w ⟨n,fix,next + 1,env,(j,.ext (itX id clock seen')) :: heap,gl⟩ R φ w':=by
    rintro seen' w' rfl
    obtain ⟨h1,h2⟩:=sat_turnX hsd hj' hφj (o':=.mapIter (some b) clock seen'.toArray clock) (c1:=.ext (itX id clock seen')) (fun k hk=>by
        simp only [Chunk.has,itX,List.contains_eq_mem,List.mem_singleton,decide_eq_true_eq] at hk
        subst hk;exact ⟨_,hid'⟩)
      (.inr ⟨bi,capi,_,hφj,setBlk_get (w:={ w with drawn:=dr }) hblt,⟨b,cap,hφ,rfl⟩,hnRi⟩) (fun _ _ _ h=>h)
    exact ⟨h1,⟨(Evo.drew R _ w dr).trans h2.evo,h2.place,h2.fix,h2.n⟩⟩
  have hex:(execOp a.eval o).run P w = ((Instr.next (.pointer (some ⟨bi,0,none⟩)) false o.type).run P w).andThen fun v w'=>.ok (.value v) w':=by
    simp only [execOp,ho,hxv,Sem.run_bind,Sem.run_pure]
  rcases hcase with ⟨h1,h2⟩|⟨e,h1,h2,h3⟩
  · have hsame:setBlk { w with drawn:=dr } bi (.mapIter (some b) clock seen.toArray clock) = { w with drawn:=dr }:=by
      obtain ⟨hb1,hb2⟩:=Array.getElem?_eq_some_iff.1 hbi
      simp only [setBlk]
      congr 1
      apply Array.ext_getElem?
      intro i
      rw [Array.getElem?_setIfInBounds]
      split
      · rename_i hi
        subst hi
        simp [hb1,hb2]
      · rfl
    obtain ⟨q1,q2⟩:=turn seen _ hsame.symm
    refine fin none (.tuple #[.bool false]) _ (fun E hE=>?_) (by simpa using q1) (by simpa using q2) ⟨_,rfl,_,_,rfl,rfl,rfl⟩ (by rw [hex,h2];rfl)
    obtain ⟨m,hm,_,h5,_⟩:=hents.mem' E (hp.mem_iff.1 hE)
    rw [← h5];exact h1 m hm
  · obtain ⟨E,hE,h4,h5,h6⟩:=hents.mem e h1
    rw [h5] at h2 h3
    obtain ⟨q1,q2⟩:=turn (seen ++ [E.born]) _ rfl
    exact fin (some E) (.tuple #[.bool true,e.key,e.val]) _ ⟨hp.mem_iff.2 hE,h2⟩ q1 q2 ⟨_,rfl,_,_,rfl,rfl,_,_,rfl,trivial,_,_,rfl,trivial,rfl⟩ (by rw [hex,h3];rfl)
omit hT in
theorem find_born:∀ {l:List MapEntry} {m:MapEntry},m∈l→(l.map MapEntry.born).Nodup→l.find? (fun x=>x.born == m.born) = some m
  | [],m,h,_=>by simp at h
  | x :: l,m,h,hn=>by
    simp only [List.map_cons,List.nodup_cons] at hn
    rcases List.mem_cons.1 h with rfl|h
    · simp
    · have:x.born≠m.born:=fun e=>hn.1 (e ▸ List.mem_map_of_mem h)
      rw [List.find?_cons_of_neg (by simpa using this)]
      exact find_born h hn.2
theorem OpTri.entryF {κ δ:Type} [DecidableEq κ] {F:FK κ δ} {V:FV F} {ops:Array Oper} {o:Oper} {n fix next:Nat} {env:List (Nat × AV)} {heap:List (Nat × Chunk)} {gl:Gl} {K:St→Prop} {x:Operand} {id j:Nat} {os:List Nat} {L:List (Ent κ δ)} {clock:Nat} {seen:List Nat} (E:Ent κ δ)
    (ho:o.op = .entry x) (hg:o.guard = none)
    (hx:okP (St.ev ⟨n,fix,next,env,heap,gl⟩ x)∧(St.ev ⟨n,fix,next,env,heap,gl⟩ x).un = .loc j 0) (hj:lookup j heap = some (.ext (itX id clock (seen ++ [E.born])))) (hid:lookup id heap = some (.ext (mapX V os L clock))) (hE:E∈L)
    (hK:stepN n fix next env heap gl o.dst (.tup [F.kav E.k,E.s.look V]) [] none K):OpTri P ops o ⟨n,fix,next,env,heap,gl⟩ K:=by
  intro hd R φ a w hs next0 Q hnext
  have hid':(St.lk ⟨n,fix,next,env,heap,gl⟩) id = some (.ext (mapX V os L clock)):=hid
  have hj':(St.lk ⟨n,fix,next,env,heap,gl⟩) j = some (.ext (itX id clock (seen ++ [E.born]))):=hj
  have hw:Region.wanted o (yielded ops a.tmps) = true:=by simp [Region.wanted,hg]
  rw [if_pos hw]
  left
  rw [stepN_eq] at hK
  rcases hs.s.heap.rel id _ hid' with ⟨_,h0⟩|⟨b,cap,o',hφ,hb,⟨es,L',rfl,hp,hents,hok,hos⟩,hnR⟩
  · exact h0.elim
  obtain ⟨bi,capi,hxv,hφj,hbi,hnRi⟩:=iter_open hs hx hj' hφ
  obtain ⟨m,hm,h1,h2,h3⟩:=hents.mem' E (hp.mem_iff.1 hE)
  have hnb:(es.toList.map MapEntry.born).Nodup:=by rw [hents.borns];exact (hp.map _).nodup hok.born
  have hfind:es.find? (fun x=>x.born == E.born) = some m:=by
    rw [← Array.find?_toList,← h2];exact find_born hm hnb
  have hgi:(getObj bi).run P w = .ok (.mapIter (some b) clock (seen ++ [E.born]).toArray clock) w:=by simp [getObj,Sem.run,hbi]
  have hgm:(getObj b).run P w = .ok (.map es clock) w:=Go.MapKept.run_getObj_map hb
  have hback:(seen ++ [E.born]).toArray.back? = some E.born:=by simp
  have hrun:(execOp a.eval o).run P w = .ok (.value (.tuple #[m.key,m.val])) w:=by
    simp only [execOp,ho,hxv,Instr.entry,Sem.run_bind,hgi,Result.andThen_ok,hback,hgm,bne_self_eq_false,Bool.false_eq_true,if_false,hfind,Sem.run_pure]
  unfold Oper.wp
  rw [hrun]
  obtain ⟨q1,q2⟩:=val_step (ops:=ops) (o:=o) hs hd (v:=.tup [F.kav E.k,E.s.look V]) (u:=.tuple #[m.key,m.val]) ⟨_,rfl,m.key,[m.val],rfl,F.kav_rep.2 h1,m.val,[],rfl,h3.look,rfl⟩ (fun k hk=>by
    simp only [AV.has,AV.hasAny,F.kav_has,look_has,Bool.or_self] at hk
    cases hk)
  exact hnext R φ _ w _ hK q1 q2
end
end Go.Fw
namespace Go.Fw
variable {P:Program} {T:Tab}
theorem turn_back {κ δ:Type} [DecidableEq κ] {L:List (Ent κ δ)} {k:κ} {s s':ES δ} {born:Nat} (hf:findE L k = some ⟨k,s',born⟩) (hn:(L.map Ent.k).Nodup):turnE (turnE L k s) k s' = L:=by
  obtain ⟨A,B,rfl,_,h3,h4⟩:=findE_split hf hn
  rw [turnE_mid h3 h4 rfl,turnE_mid h3 h4 rfl]
theorem turn_turn {κ δ:Type} [DecidableEq κ] {L:List (Ent κ δ)} {k:κ} {s s':ES δ}:turnE (turnE L k s) k s' = turnE L k s':=by
  unfold turnE
  rw [List.map_map]
  apply List.map_congr_left
  intro E _
  simp only [Function.comp]
  by_cases h:E.k = k
  · rw [if_pos h,if_pos h,if_pos h]
  · rw [if_neg h,if_neg h]
theorem erase_turn {κ δ:Type} [DecidableEq κ] {L:List (Ent κ δ)} {k:κ} {s:ES δ}:eraseE (turnE L k s) k = eraseE L k:=by
  unfold turnE eraseE
  induction L with
  | nil=>rfl
  | cons E L ih=>
    rw [List.map_cons]
    by_cases h:E.k = k
    · rw [if_pos h,List.filter_cons_of_neg (by simp [h]),List.filter_cons_of_neg (by simp [h])];exact ih
    · rw [if_neg h,List.filter_cons_of_pos (by simpa using h),List.filter_cons_of_pos (by simpa using h),ih]
theorem find_turn {κ δ:Type} [DecidableEq κ] {L:List (Ent κ δ)} {k:κ} {s s':ES δ} {born:Nat} (hf:findE L k = some ⟨k,s,born⟩) (hn:(L.map Ent.k).Nodup):findE (turnE L k s') k = some ⟨k,s',born⟩:=by
  obtain ⟨A,B,rfl,_,h3,h4⟩:=findE_split hf hn
  rw [turnE_mid h3 h4 rfl,findE_mid h3 rfl]
theorem outs_erase {κ δ:Type} [DecidableEq κ] {L:List (Ent κ δ)} {k:κ} {x:Nat} (h:x ∉ outsL L):x ∉ outsL (eraseE L k):=fun hm=>h (by
  simp only [outsL,eraseE,List.mem_flatMap,List.mem_filter] at hm ⊢
  obtain ⟨E,⟨hE,_⟩,hx⟩:=hm
  exact ⟨E,hE,hx⟩)
theorem find_in {κ δ:Type} [DecidableEq κ] {L:List (Ent κ δ)} {E:Ent κ δ} (hE:E∈L) (hn:(L.map Ent.k).Nodup):findE L E.k = some E:=by
  cases h:findE L E.k with
  | none=>exact absurd (List.mem_map_of_mem hE) (findE_none.1 h)
  | some E'=>
    obtain ⟨A,B,rfl,h2,h3,h4⟩:=findE_split h hn
    rcases List.mem_append.1 hE with hA|hB
    · exact absurd (List.mem_map_of_mem hA) h3
    · rcases List.mem_cons.1 hB with rfl|hB
      · rfl
      · exact absurd (List.mem_map_of_mem hB) h4
theorem Le.putB {κ δ:Type} [DecidableEq κ] {F:FK κ δ} {V:FV F} {st:St} (id e:Nat) {os os':List Nat} {L:List (Ent κ δ)} {clock:Nat} {k:κ} {d:δ} {p c born:Nat} (hid:st.lk id = some (.ext (mapX V os (turnE L k (.out d e p c)) clock))) (he:st.lk e = some (F.ch d))
    (hf:findE L k = some ⟨k,.own d p c,born⟩) (hn:(L.map Ent.k).Nodup) (ho:e ∉ outsL L) (hos1:∀ x∈os,x≠e→x∈os') (hos2:∀ x∈os',x≠e∧x∈os):Le st (st.putF id e p (.ext (mapX V os' L clock))):=by
  have h:=Le.putF (V:=V) id e (d':=d) hid he (find_turn hf hn) rfl (by rw [erase_turn];exact outs_erase ho) hos1 hos2
  rw [turn_back hf hn] at h
  exact h
theorem Le.putD {κ δ:Type} [DecidableEq κ] {F:FK κ δ} {V:FV F} {st:St} (id e:Nat) {os os':List Nat} {L:List (Ent κ δ)} {clock:Nat} {k:κ} {d d':δ} {p c born:Nat} (hid:st.lk id = some (.ext (mapX V os (turnE L k (.out d e p c)) clock))) (he:st.lk e = some (F.ch d'))
    (hf:findE L k = some ⟨k,.own d p c,born⟩) (hn:(L.map Ent.k).Nodup) (ho:e ∉ outsL L) (hos1:∀ x∈os,x≠e→x∈os') (hos2:∀ x∈os',x≠e∧x∈os) (hav:V.pv d' p c = V.pv d p c):Le st (st.putF id e p (.ext (mapX V os' (turnE L k (.own d' p c)) clock))):=by
  have h:=Le.putF (V:=V) id e (d':=d') hid he (find_turn hf hn) hav (by rw [erase_turn];exact outs_erase ho) hos1 hos2
  rw [turn_turn] at h
  exact h
section
variable (hT:tabOK P T = true)
include hT
theorem OpTri.newF {κ δ:Type} [DecidableEq κ] {F:FK κ δ} {V:FV F} {ops:Array Oper} {o:Oper} {n fix next:Nat} {env:List (Nat × AV)} {heap:List (Nat × Chunk)} {gl:Gl} {K:St→Prop} {t kt et:TypeId} {ke:TE} {m kx x:Operand} {id e:Nat} {os:List Nat} {L:List (Ent κ δ)} {clock:Nat} {k:κ} {d:δ}
    (hmt:P.underlying t = some (.map kt et)) (hkl:KeyLaw P T kt F ke) (ho:o.op = .mapUpdate t m kx x) (hg:o.guard = none) (hdst:o.dst = none)
    (hm:okP (St.ev ⟨n,fix,next,env,heap,gl⟩ m)∧(St.ev ⟨n,fix,next,env,heap,gl⟩ m).un = .ex (mapV id)) (hk:okP (St.ev ⟨n,fix,next,env,heap,gl⟩ kx)∧(St.ev ⟨n,fix,next,env,heap,gl⟩ kx).un = F.kav k)
    (hx:okP (St.ev ⟨n,fix,next,env,heap,gl⟩ x)∧(St.ev ⟨n,fix,next,env,heap,gl⟩ x).un = F.av d e) (hid:lookup id heap = some (.ext (mapX V os L clock))) (hide:id≠e)
    (hpl:∃ ce,lookup e heap = some ce∧∀ φ R w,ChunkRel φ R w e ce→∃ p c,φ e = some (p,c)) (hf:findE L k = none)
    (hK:∀ p c,K ⟨n,fix,next + 1,env,(id,.ext (mapX V (e :: os) (L ++ [⟨k,.out d e p c,clock⟩]) (clock + 1))) :: heap,gl⟩):OpTri P ops o ⟨n,fix,next,env,heap,gl⟩ K:=
  OpTri.updF hT hmt hkl ho hg hdst hm hk hx hid hide hpl (by rw [hf];exact hK)
end
theorem box_place {id:Nat} {cs:List AV} {φ:Place} {R:Prot} {w:World} (h:ChunkRel φ R w id (.box cs)):∃ p c,φ id = some (p,c):=by
  obtain ⟨b,cap,_,_,_,h1,_⟩:=h
  exact ⟨b,cap,h1⟩
theorem Tri.post {c:Code} {Q:Exit→St→Prop} {st:St} (h:Tri P c (fun e s=>∃ S,Le s S∧Q e S) st):Tri P c Q st:=⟨fun hd R φ a w hs=>
  wp_mono (h.of hd R φ a w hs) fun e a' w' ⟨p1,p2,R',φ',st',⟨S,hl,hq⟩,hs',he⟩=>by
    obtain ⟨R2,φ2,h1,h2⟩:=hl R' φ' a' w' hs'
    exact ⟨p1,p2,R2,φ2,S,hq,h1,he.trans h2⟩⟩
def sumS {κ δ:Type} [DecidableEq κ] (v:Ent κ δ→Int) (L:List (Ent κ δ)) (seen:List Nat):Int:=(L.map fun E=>if E.born∈seen then v E else 0).sum
def leftS {κ δ:Type} [DecidableEq κ] (L:List (Ent κ δ)) (seen:List Nat):Nat:=L.countP fun E=>decide (E.born ∉ seen)
theorem sumS_nil {κ δ:Type} [DecidableEq κ] (v:Ent κ δ→Int) (L:List (Ent κ δ)):sumS v L [] = 0:=by
  induction L with
  | nil=>rfl
  | cons E L ih=>simp only [sumS,List.map_cons,List.sum_cons] at ih ⊢;simpa using ih
theorem sumS_all {κ δ:Type} [DecidableEq κ] (v:Ent κ δ→Int) {L:List (Ent κ δ)} {seen:List Nat} (h:∀ E∈L,E.born∈seen):sumS v L seen = (L.map v).sum:=by
  unfold sumS
  congr 1
  apply List.map_congr_left
  intro E hE
  rw [if_pos (h E hE)]
theorem sumS_out {κ δ:Type} [DecidableEq κ] (v:Ent κ δ→Int) {L:List (Ent κ δ)} {seen:List Nat} {b:Nat} (h:b ∉ L.map Ent.born):sumS v L (seen ++ [b]) = sumS v L seen:=by
  unfold sumS
  congr 1
  apply List.map_congr_left
  intro E hE
  have:E.born≠b:=fun e=>h (e ▸ List.mem_map_of_mem hE)
  simp only [List.mem_append,List.mem_singleton,this,or_false]
theorem sumS_step {κ δ:Type} [DecidableEq κ] (v:Ent κ δ→Int):∀ {L:List (Ent κ δ)} {seen:List Nat} {E:Ent κ δ},E∈L→E.born ∉ seen→(L.map Ent.born).Nodup→sumS v L (seen ++ [E.born]) = sumS v L seen + v E
  | [],_,_,h,_,_=>by simp at h
  | x :: L,seen,E,h,hs,hn=>by
    simp only [List.map_cons,List.nodup_cons] at hn
    rcases List.mem_cons.1 h with rfl|h
    · have:=sumS_out v (L:=L) (seen:=seen) hn.1
      simp only [sumS,List.map_cons,List.sum_cons] at this ⊢
      rw [this]
      simp [hs];omega
    · have ih:=sumS_step v h hs hn.2
      have hne:x.born≠E.born:=fun e=>hn.1 (e ▸ List.mem_map_of_mem h)
      simp only [sumS,List.map_cons,List.sum_cons] at ih ⊢
      rw [ih]
      simp only [List.mem_append,List.mem_singleton,hne,or_false]
      omega
theorem sumS_le {κ δ:Type} [DecidableEq κ] (v:Ent κ δ→Int) {m:Int} (hm:0≤m):∀ {L:List (Ent κ δ)} {seen:List Nat},(∀ E∈L,0≤v E∧v E≤m)→0≤sumS v L seen∧sumS v L seen≤m * (L.length:Int)
  | [],seen,_=>by simp [sumS]
  | x :: L,seen,h=>by
    have ih:=sumS_le v hm (L:=L) (seen:=seen) (fun E hE=>h E (List.mem_cons_of_mem _ hE))
    have hx:=h x (List.mem_cons_self ..)
    simp only [sumS,List.map_cons,List.sum_cons,List.length_cons] at ih ⊢
    have:m * ((L.length + 1:Nat):Int) = m * (L.length:Int) + m:=by
      rw [Int.natCast_add,Int.mul_add];simp
    rw [this]
    split <;> omega
theorem leftS_step {κ δ:Type} [DecidableEq κ]:∀ {L:List (Ent κ δ)} {seen:List Nat} {E:Ent κ δ},E∈L→E.born ∉ seen→leftS L (seen ++ [E.born]) < leftS L seen
  | [],_,_,h,_=>by simp at h
  | x :: L,seen,E,h,hs=>by
    have hle:∀ (L:List (Ent κ δ)),leftS L (seen ++ [E.born])≤leftS L seen:=fun L=>List.countP_mono_left (fun y _ hy=>by
      simp only [decide_eq_true_eq,List.mem_append,not_or] at hy ⊢;exact hy.1)
    unfold leftS at hle ⊢
    rw [List.countP_cons,List.countP_cons]
    have h1:∀ (y:Ent κ δ),y.born = E.born→(if decide (y.born ∉ seen ++ [E.born]) = true then 1 else 0) = 0:=fun y hy=>if_neg (by simp [hy])
    rcases List.mem_cons.1 h with e|h
    · have:=hle L
      rw [h1 x (by rw [e]),if_pos (show decide (x.born ∉ seen) = true by rw [← e];simpa using hs)]
      omega
    · have ih:=leftS_step h hs
      unfold leftS at ih
      by_cases hx:x.born∈seen
      · rw [if_neg (show ¬ decide (x.born ∉ seen ++ [E.born]) = true by simp [hx]),if_neg (show ¬ decide (x.born ∉ seen) = true by simp [hx])];omega
      · rw [if_pos (show decide (x.born ∉ seen) = true by simpa using hx)]
        split <;> omega
theorem explode_has':∀ (t:Ty) (x:t.D) (j:Nat),AV.hasAny j (explode t x) = false
  | .bool,_,_=>rfl
  | .int _,_,_=>rfl
  | .str,_,_=>rfl
  | .nil,_,_=>rfl
  | .cons a b,x,j=>by simp only [explode,hasAny_append,explode_has' a x.1 j,explode_has' b x.2 j,Bool.or_self]
  | .list _,_,_=>rfl
def Ty.plain:Ty→Bool
  | .list _=>false
  | .cons a b=>a.plain && b.plain
  | _=>true
theorem plainC_append:∀ {a b:List AV},plainC a = true→plainC b = true→plainC (a ++ b) = true
  | [],_,_,h=>h
  | .bool _ :: r,b,h,h2=>plainC_append (a:=r) (by simpa [plainC] using h) h2
  | .int _ _ :: r,b,h,h2=>plainC_append (a:=r) (by simpa [plainC] using h) h2
  | .str _ :: r,b,h,h2=>plainC_append (a:=r) (by simpa [plainC] using h) h2
theorem explode_plain:∀ (t:Ty) (x:t.D),t.plain = true→plainC (explode t x) = true
  | .bool,_,_=>rfl
  | .int _,_,_=>rfl
  | .str,_,_=>rfl
  | .nil,_,_=>rfl
  | .cons a b,x,h=>by
    simp only [Ty.plain,Bool.and_eq_true] at h
    exact plainC_append (explode_plain a x.1 h.1) (explode_plain b x.2 h.2)
  | .list _,_,h=>by simp [Ty.plain] at h
def boxK (kt dt:Ty) (hk:kt.plain = true):FK kt.D dt.D where
  ka:=true
  kc:=explode kt
  kp k:=explode_plain kt k hk
  kn h:=by cases h
  av _ e:=.loc e 0
  ch d:=.box (explode dt d)
  avs _ e j h:=by simp only [AV.has,beq_iff_eq] at h;exact h.symm
  avo _ _:=⟨trivial,rfl⟩
  chs d j:=by simp only [Chunk.has];exact explode_has' dt d j
  sing d:=fun _ _ _ h=>h
def boxV (kt dt:Ty) (hk:kt.plain = true):FV (boxK kt dt hk) where
  pv _ p _:=.ex (ptrX p)
  pvs _ _ _ _:=rfl
  pvo _ _ _:=⟨trivial,rfl⟩
  rep d e p c φ φ' R w v h:=by
    show RepV φ R w (.loc e 0) v ↔ _
    simp only [RepV,ptrX]
    constructor
    · rintro ⟨b,cap,h1,h2⟩
      rw [h] at h1
      simp only [Option.some.injEq,Prod.mk.injEq] at h1
      rw [h2,h1.1]
    · rintro rfl;exact ⟨p,c,h,rfl⟩
end Go.Fw
namespace Go.Fw
theorem mapX_ren {κ δ:Type} [DecidableEq κ] {F:FK κ δ} (V:FV F) (L:List (Ent κ δ)) (clock:Nat) (ρ:Nat→Nat):(mapX V [] L clock).ren ρ = mapX V [] L clock:=by
  have h:∀ φ φ' R w b o c,(mapX V [] L clock).rel φ R w b o c→(mapX V [] L clock).rel φ' R w b o c:=fun φ φ' R w b o c h=>
    (mapX V [] L clock).mono (fun _ _ h=>h) (fun _ _ _=>rfl) (fun id hi=>by simp [mapX] at hi) (fun _ _ _=>⟨rfl,fun _ h=>h⟩) h
  have e:(fun φ R w b o c=>(mapX V [] L clock).rel (fun k=>φ (ρ k)) R w b o c) = (mapX V [] L clock).rel:=by
    funext φ R w b o c
    exact propext ⟨h _ _ R w b o c,h _ _ R w b o c⟩
  unfold XCh.ren
  simp only [e]
  rfl
end Go.Fw
