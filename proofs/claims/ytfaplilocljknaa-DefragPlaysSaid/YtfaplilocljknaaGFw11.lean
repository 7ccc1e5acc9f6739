import Derived.Test.YtfaplilocljknaaGFw6
import Derived.Test.YtfaplilocljknaaGFw8
import Derived.Test.YtfaplilocljknaaGFw10
set_option linter.all false
namespace Go.Fw
variable {P:Program}
def boxesU:Upd→List (Nat × Chunk)
  | []=>[]
  | (j,old,n) :: r=>(j,.box (newCells old n)) :: boxesU r
end Go.Fw
namespace Go.Fw
variable {P:Program}
def methV (f:FuncId) (x:AV):XV where
  ids:=x.ids
  rel φ R w v:=∃ u,v = .func (.func f) #[u] #[]∧RepV φ R w x u
  mono hR hw hφ h:=by
    obtain ⟨u,h1,h2⟩:=h
    exact ⟨u,h1,RepV.mono hR hw (fun j hj=>hφ j (by simpa using AV.has_ids hj)) h2⟩
  one h:=by obtain ⟨_,rfl,_⟩:=h;rfl
end Go.Fw
namespace Go.Fw
variable {P:Program}
def optX (x:Option (List AV)):XCh where
  ids:=match x with|some cs=>AV.idsL cs|none=>[]
  fixed:=false
  nil:=x = none
  rel φ R w _ o _:=∃ cs vs e fr,x = some cs∧o = .cells vs e fr∧RepVs φ R w cs vs.toList∧NoFr fr vs.size
  mono hR hw hφ _ h:=by
    obtain ⟨cs,vs,e,fr,rfl,h2,h3,h4⟩:=h
    exact ⟨cs,vs,e,fr,rfl,h2,RepVs.mono hR hw (fun id hi=>hφ id (by simpa using AV.hasAny_ids hi)) h3,h4⟩
def Conv (c c':Chunk):Prop:=(∀ φ R w id,ChunkRel φ R w id c→ChunkRel φ R w id c')∧∀ b cap x,c'.at b cap x→c.at b cap x
theorem Conv.refl (c:Chunk):Conv c c:=⟨fun _ _ _ _ h=>h,fun _ _ _ h=>h⟩
theorem Conv.of {c c':Chunk} (h:∀ φ R w id,ChunkRel φ R w id c→ChunkRel φ R w id c') (hs:c'.single):Conv c c':=⟨h,fun b cap x hx=>by obtain rfl:=hs b cap x hx;exact c.at_self _ _⟩
theorem Conv.box (cs:List AV):Conv (.ext (optX (some cs))) (.box cs):=Conv.of (hs:=fun _ _ _ h=>h) fun φ R w id h=>by
  rcases h with ⟨_,h⟩|⟨b,cap,o,h1,h2,⟨cs',vs,e,fr,h3,rfl,h4,h5⟩,h6⟩
  · cases h
  · simp only [Option.some.injEq] at h3
    subst h3
    exact ⟨b,cap,vs,e,fr,h1,h2,h4,h6,h5⟩
def heapLeX:List (Nat × Chunk)→St→Prop
  | [],_=>True
  | (j,c) :: r,st=>(∃ c',st.lk j = some c'∧Conv c' c)∧heapLeX r st
theorem heapLeX_get {st:St}:∀ {l:List (Nat × Chunk)} {j:Nat} {c:Chunk},heapLeX l st→lookup j l = some c→∃ c',st.lk j = some c'∧Conv c' c
  | [],_,_,_,hl=>by simp [lookup] at hl
  | (k,u) :: r,t,v,h,hl=>by
    rw [lookup_cons] at hl
    split at hl
    · rename_i e
      simp only [Option.some.injEq] at hl
      subst hl
      rw [← e];exact h.1
    · exact heapLeX_get h.2 hl
theorem Le.weakX {st S:St} (hn:S.n = st.n) (hf:S.fix = st.fix) (hg:S.gl = st.gl) (hc:S.closed = true) (he:envLe S.env st) (hh:heapLeX S.heap st):Le st S:=fun R φ a w hs=>by
  unfold St.closed at hc
  simp only [Bool.and_eq_true] at hc
  have hlk:∀ j c,S.lk j = some c→∃ c',st.lk j = some c'∧Conv c' c:=fun j c hj=>heapLeX_get hh hj
  refine ⟨R,φ,⟨⟨fun t=>?_,fun t j hj=>?_,fun j cs k hj hk=>(heapClosed_mem hc.1.2 hj).2 k hk,fun j c hj=>(heapClosed_mem hc.1.2 hj).1,by rw [hn];exact hs.s.sz,
    ⟨fun j c hj=>?_,fun j k c d b b' cap cap' x hj hk hp hp' hx hx'=>?_⟩,hs.s.rlt,hs.s.defers,by rw [hg];exact hs.s.gl⟩,Nat.le_of_ble_eq_true hc.2⟩,
    ⟨⟨rfl,rfl,rfl,Nat.le_refl _,fun _ _ _=>rfl,fun _ _ h=>h,fun _ _ _=>rfl,fun _ _ h=>.inl h,fun b ⟨j,c,b0,cap,hj,hp,hx⟩=>?_⟩,fun _ _=>rfl,hf,hn⟩⟩
  · cases hl:lookup t S.env with
    | none=>
      have:S.get t = .any:=by simp [St.get,hl]
      rw [this];simp [RepV]
    | some v=>
      have:S.get t = v:=by simp [St.get,hl]
      rw [this,← envLe_get he hl]
      exact hs.s.env t
  · cases hl:lookup t S.env with
    | none=>
      have:S.get t = .any:=by simp [St.get,hl]
      rw [this] at hj;simp [AV.has] at hj
    | some v=>
      have:S.get t = v:=by simp [St.get,hl]
      rw [this] at hj
      exact envClosed_mem hc.1.1 hl hj
  · obtain ⟨c',h1,h2⟩:=hlk j c hj
    exact h2.1 _ _ _ _ (hs.s.heap.rel j c' h1)
  · obtain ⟨c',h1,ha⟩:=hlk j c hj
    obtain ⟨d',h2,ha'⟩:=hlk k d hk
    exact hs.s.heap.inj j k c' d' b b' cap cap' x h1 h2 hp hp' (ha.2 _ _ _ hx) (ha'.2 _ _ _ hx')
  · obtain ⟨c',h1,ha⟩:=hlk j c hj
    exact .inr ⟨j,c',b0,cap,h1,hp,ha.2 _ _ _ hx⟩
def St.addX (st:St) (c:Chunk):St:={ n:=st.n,fix:=st.fix,next:=st.next + 1,env:=st.env,heap:=(st.next,c) :: st.heap,gl:=st.gl }
theorem Le.none {st:St} {X:XCh} (hnil:X.nil) (hids:X.ids = []):Le st (st.addX (.ext X)):=fun R φ a w hs=>by
  have hfresh:st.lk st.next = .none:=by
    cases hh:st.lk st.next with
    | none=>rfl
    | some c=>have:=hs.s.hnext _ _ hh;omega
  have hne:∀ j c,st.lk j = some c→j≠st.next:=fun j c hj e=>by subst e;rw [hfresh] at hj;simp at hj
  have hlk:∀ k,(st.addX (.ext X)).lk k = if st.next = k then some (.ext X) else st.lk k:=fun k=>by
    simp only [St.addX,St.lk,lookup_cons]
  have hφ:∀ j,j≠st.next→setPlace φ st.next .none j = φ j:=fun j hj=>by simp [setPlace,hj]
  have hkeep:∀ j,(∃ c,st.lk j = some c)→∃ c,(st.addX (.ext X)).lk j = some c:=fun j ⟨c,hc⟩=>by
    rw [hlk,if_neg (fun e=>hne j c hc e.symm)];exact ⟨c,hc⟩
  have hinv:∀ j c,(st.addX (.ext X)).lk j = some c→(j = st.next∧c = .ext X)∨(j≠st.next∧st.lk j = some c):=fun j c hj=>by
    rw [hlk] at hj
    split at hj
    · rename_i e;simp only [Option.some.injEq] at hj;exact .inl ⟨e.symm,hj.symm⟩
    · rename_i e;exact .inr ⟨fun h=>e h.symm,hj⟩
  refine ⟨R,setPlace φ st.next .none,⟨⟨fun u=>?_,fun u j hj=>?_,fun j cs k hj hk=>?_,fun j c hj=>?_,hs.s.sz,⟨fun j c hj=>?_,fun j k c d b b' cap cap' x hj hk hp hp' hx hx'=>?_⟩,hs.s.rlt,hs.s.defers,fun g cs hg=>?_⟩,?_⟩,
    ⟨⟨rfl,rfl,rfl,Nat.le_refl _,fun _ _ _=>rfl,fun _ _ h=>h,fun _ _ _=>rfl,fun _ _ h=>.inl h,fun b ⟨j,c,b0,cap,hj,hp,hx⟩=>?_⟩,fun id hid=>hφ id (by have:=hs.fx;omega),rfl,rfl⟩⟩
  · exact RepV.mono (fun _ _ h=>h) (fun _ _ _=>rfl) (fun j hj=>by obtain ⟨c,hc⟩:=hs.s.named u j hj;exact hφ j (hne j c hc)) (hs.s.env u)
  · exact hkeep j (hs.s.named u j hj)
  · rcases hinv j _ hj with ⟨_,h⟩|⟨_,hj⟩
    · subst h;simp [Chunk.has,hids] at hk
    · exact hkeep k (hs.s.hnamed j cs k hj hk)
  · show j < st.next + 1
    rcases hinv j _ hj with ⟨e,_⟩|⟨_,hj⟩
    · omega
    · have:=hs.s.hnext j c hj;omega
  · rcases hinv j _ hj with ⟨rfl,rfl⟩|⟨hji,hj⟩
    · exact .inl ⟨by simp [setPlace],hnil⟩
    · exact (hs.s.heap.rel j c hj).mono (hφ j hji) (fun k hk=>by
        obtain ⟨c',hc'⟩:=hs.s.hnamed j c k hj hk
        exact hφ k (hne k c' hc')) (fun _ _ h=>h) (fun _ _ _=>rfl) (fun _ _ _ _ _ _=>⟨rfl,fun _ h=>h⟩)
  · rcases hinv j _ hj with ⟨rfl,_⟩|⟨hji,hj⟩
    · simp [setPlace] at hp
    · rcases hinv k _ hk with ⟨rfl,_⟩|⟨hki,hk⟩
      · simp [setPlace] at hp'
      · rw [hφ j hji] at hp;rw [hφ k hki] at hp'
        exact hs.s.heap.inj j k c d b b' cap cap' x hj hk hp hp' hx hx'
  · have:=hs.s.gl g cs hg
    refine ⟨RepV.mono (fun _ _ h=>h) (fun _ _ _=>rfl) (fun j hj=>?_) this.1,this.2⟩
    simp only [AV.has] at hj
    rw [this.2 j] at hj
    simp at hj
  · have:=hs.fx
    show st.fix≤st.next + 1
    omega
  · rcases hinv j _ hj with ⟨rfl,_⟩|⟨hji,hj⟩
    · simp [setPlace] at hp
    · rw [hφ j hji] at hp
      exact .inr ⟨j,c,b0,cap,hj,hp,hx⟩
theorem HSpec.conv {gl:Gl} {f:FuncId} {args:List AV} {h h1 H H1:List (Nat × Chunk)} {ret ret':AV} (k:HSpec P gl f args h ret h1) (ρ:Nat→Option Nat)
    (hpre:∀ j c,lookup j h = some c→∃ c',lookup j H = some c'∧Conv c' c)
    (hpost:∀ (φ:Place) R w,HRel φ R w (fun k=>lookup k h1)→∀ j c,lookup j H1 = some c→ChunkRel (fun k=>(ρ k).bind φ) R w j c)
    (hown:∀ j a,ρ j = some a→(∃ c,lookup j H1 = some c)→∃ c,lookup a h1 = some c)
    (hinj:∀ i j a,ρ i = some a→ρ j = some a→i = j)
    (hret:∀ (φ:Place) R w v,RepV φ R w ret v→RepV (fun k=>(ρ k).bind φ) R w ret' v)
    (hfix:∀ j c,lookup j H = some c→c.fixed = true→ρ j = some j∧(∃ c',lookup j h = some c'∧c'.fixed = true)∧∃ c',lookup j H1 = some c'∧c'.fixed = true)
    (hsg:∀ j c,lookup j H1 = some c→c.single) :
    HSpec P gl f args H ret' H1:=by
  refine ⟨k.1,fun φ R w vs hh hR hgl hargs=>?_⟩
  have h0:HRel φ R w (fun k=>lookup k h):=⟨fun j c hj=>by
      obtain ⟨c',h1,h2⟩:=hpre j c hj
      exact h2.1 _ _ _ _ (hh.rel j c' h1),fun i j c d b b' cap cap' x hi hj hp hp' hx hx'=>by
      obtain ⟨c',h1,ha⟩:=hpre i c hi
      obtain ⟨d',h2,ha'⟩:=hpre j d hj
      exact hh.inj i j c' d' b b' cap cap' x h1 h2 hp hp' (ha.2 _ _ _ hx) (ha'.2 _ _ _ hx')⟩
  have hsub:∀ b,Owns φ (fun k=>lookup k h) b→Owns φ (fun k=>lookup k H) b:=fun b ⟨j,c,b0,cap,hj,hp,hx⟩=>by
    obtain ⟨c',h1,ha⟩:=hpre j c hj
    exact ⟨j,c',b0,cap,h1,hp,ha.2 _ _ _ hx⟩
  refine (k.2 φ R w vs h0 hR hgl hargs).mono ?_
  rintro e w' ⟨v,φ',R',rfl,hv,hh',hR',hevo,hkeep⟩
  have hplace:∀ j c b cap,lookup j H1 = some c→(ρ j).bind φ' = some (b,cap)→∃ a c',ρ j = some a∧lookup a h1 = some c'∧φ' a = some (b,cap):=fun j c b cap hj hp=>by
    cases hr:ρ j with
    | none=>rw [hr] at hp;cases hp
    | some a=>
      rw [hr] at hp
      obtain ⟨c',hc'⟩:=hown j a hr ⟨c,hj⟩
      exact ⟨a,c',rfl,hc',hp⟩
  have hsub':∀ b,Owns (fun k=>(ρ k).bind φ') (fun k=>lookup k H1) b→Owns φ' (fun k=>lookup k h1) b:=fun b ⟨j,c,b0,cap,hj,hp,hx⟩=>by
    obtain rfl:=hsg j c hj _ _ _ hx
    obtain ⟨a,c',_,h2,h3⟩:=hplace j c b cap hj hp
    exact Owns.main h2 h3
  refine ⟨v,fun k=>(ρ k).bind φ',R',rfl,hret _ _ _ _ hv,⟨fun j c hj=>hpost φ' R' w' hh' j c hj,fun i j c d b b' cap cap' x hi hj hp hp' hx hx'=>?_⟩,hR',
    ⟨hevo.os,hevo.tape,hevo.output,hevo.size,fun b hb ho=>hevo.keep b hb (fun hx=>ho (hsub b hx)),hevo.rmono,hevo.rkeep,fun b o hb=>?_,fun b hb=>?_⟩,fun j c hj hc=>?_⟩
  · obtain rfl:=hsg i c hi _ _ _ hx
    obtain rfl:=hsg j d hj _ _ _ hx'
    obtain ⟨a,c',r1,h1,h2⟩:=hplace i c x cap hi hp
    obtain ⟨a',d',r2,h3,h4⟩:=hplace j d x cap' hj hp'
    have:=hh'.inj0 a a' c' d' x cap cap' h1 h3 h2 h4
    subst this
    exact hinj i j a r1 r2
  · rcases hevo.rnew b o hb with h|h|h
    · exact .inl h
    · exact .inr (.inl h)
    · exact .inr (.inr (hsub b h))
  · rcases hevo.onew b (hsub' b hb) with h|h
    · exact .inl h
    · exact .inr (hsub b h)
  · obtain ⟨r,⟨c',h1,h2⟩,h3⟩:=hfix j c hj hc
    obtain ⟨h4,_⟩:=hkeep j c' h1 h2
    exact ⟨by simp only [r,Option.bind_some,h4],h3⟩
end Go.Fw
