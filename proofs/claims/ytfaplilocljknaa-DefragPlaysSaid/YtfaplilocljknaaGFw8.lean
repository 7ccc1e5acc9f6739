import Derived.Test.YtfaplilocljknaaGFw7
import Derived.MapKept
set_option linter.all false
namespace Go.Fw
variable {P:Program}
def sw (a b x:Nat):Nat:=if x = a then b else if x = b then a else x
theorem sw_sw (a b x:Nat):sw a b (sw a b x) = x:=by
  unfold sw
  (repeat' split) <;> omega
theorem sw_inj {a b x y:Nat} (h:sw a b x = sw a b y):x = y:=by rw [← sw_sw a b x,h,sw_sw]
def two (a b i j x:Nat):Nat:=sw (sw a i b) j (sw a i x)
theorem two_inj {a b i j x y:Nat} (h:two a b i j x = two a b i j y):x = y:=sw_inj (sw_inj h)
theorem HSpec.at2 {gl:Gl} {f:FuncId} {args:List AV} {h h':List (Nat × Chunk)} {ret:AV} (k:HSpec P gl f args h ret h') (a b i j:Nat) {args2:List AV} {h2 h2':List (Nat × Chunk)} {ret2:AV}
    (e1:AV.renL (two a b i j) args = args2) (e2:renH (two a b i j) h = h2) (e3:ret.ren (two a b i j) = ret2) (e4:renH (two a b i j) h' = h2'):HSpec P gl f args2 h2 ret2 h2':=by
  have:=FSpec.ren k (two a b i j) (fun _ _ h=>two_inj h)
  rw [e1,e2,e3,e4] at this
  exact this
end Go.Fw
namespace Go.Fw
open Go.MapKept
variable {P:Program}
def mapV (id:Nat):XV where
  ids:=[id]
  rel φ _ _ v:=∃ b cap,φ id = some (b,cap)∧v = .map (some b)
  mono _ _ hφ h:=by
    obtain ⟨b,cap,h1,h2⟩:=h
    exact ⟨b,cap,by rw [hφ id (by simp)];exact h1,h2⟩
  one h:=by obtain ⟨_,_,_,rfl⟩:=h;rfl
def setX (ks:List Int):XCh where
  ids:=[]
  fixed:=true
  nil:=False
  rel _ _ _ _ o _:=∃ es clock,o = .map es clock∧es.toList.map MapEntry.key = ks.map (fun n=>Value.int .i64 n)∧∀ e∈es.toList,e.val = .bool true
  mono _ _ _ _ h:=h
end Go.Fw
namespace Go.Fw
variable {P:Program}
theorem RepVs.swap {φ:Place} {R:Prot} {w:World} {x y:AV} (hxy:∀ v,RepV φ R w x v→RepV φ R w y v) {post:List AV}:∀ {pre:List AV} {vs:List Value},RepVs φ R w (pre ++ x :: post) vs→RepVs φ R w (pre ++ y :: post) vs
  | [],vs,h=>by
    simp only [List.nil_append,RepVs] at h ⊢
    obtain ⟨v,r,e,h1,h2⟩:=h
    exact ⟨v,r,e,hxy v h1,h2⟩
  | p :: pre,vs,h=>by
    simp only [List.cons_append,RepVs] at h ⊢
    obtain ⟨v,r,e,h1,h2⟩:=h
    exact ⟨v,r,e,h1,RepVs.swap hxy h2⟩
theorem hasAny_mid {j:Nat} {x:AV} {post:List AV}:∀ {pre:List AV},AV.hasAny j (pre ++ x :: post) = (AV.hasAny j (pre ++ post) || x.has j)
  | []=>by simp [AV.hasAny,Bool.or_comm]
  | p :: pre=>by simp [AV.hasAny,hasAny_mid (pre:=pre),Bool.or_assoc]
def St.ownB (st:St) (b:Nat) (pre post:List AV) (ty:Ty):St:={ n:=st.n,fix:=st.fix,next:=st.next + 1,env:=st.env,heap:=(b,.box (pre ++ .own st.next 0 :: post)) :: (st.next,.arr ty []) :: st.heap,gl:=st.gl }
theorem Le.ownB {st:St} (b:Nat) (pre post:List AV) (ty:Ty) (h:st.lk b = some (.box (pre ++ .nils :: post))):Le st (st.ownB b pre post ty):=fun R φ a w hs=>by
  have hfresh:st.lk st.next = none:=by
    cases hh:st.lk st.next with
    | none=>rfl
    | some c=>have:=hs.s.hnext _ _ hh;omega
  have hne:∀ j c,st.lk j = some c→j≠st.next:=fun j c hj e=>by subst e;rw [hfresh] at hj;simp at hj
  have hbn:b≠st.next:=hne b _ h
  have hlk:∀ k,(st.ownB b pre post ty).lk k = if b = k then some (.box (pre ++ .own st.next 0 :: post)) else if st.next = k then some (.arr ty []) else st.lk k:=fun k=>by
    simp only [St.ownB,St.lk,lookup_cons]
  have hφ:∀ j,j≠st.next→setPlace φ st.next none j = φ j:=fun j hj=>by simp [setPlace,hj]
  have hkeep:∀ j,(∃ c,st.lk j = some c)→∃ c,(st.ownB b pre post ty).lk j = some c:=fun j ⟨c,hc⟩=>by
    rw [hlk]
    split
    · exact ⟨_,rfl⟩
    · rw [if_neg (fun e=>hne j c hc e.symm)];exact ⟨c,hc⟩
  have hinv:∀ j c,(st.ownB b pre post ty).lk j = some c→(j = b∧c = .box (pre ++ .own st.next 0 :: post))∨(j = st.next∧c = .arr ty [])∨(j≠st.next∧j≠b∧st.lk j = some c):=fun j c hj=>by
    rw [hlk] at hj
    split at hj
    · rename_i e;simp only [Option.some.injEq] at hj;exact .inl ⟨e.symm,hj.symm⟩
    · rename_i e0
      split at hj
      · rename_i e;simp only [Option.some.injEq] at hj;exact .inr (.inl ⟨e.symm,hj.symm⟩)
      · rename_i e;exact .inr (.inr ⟨fun h=>e h.symm,fun h=>e0 h.symm,hj⟩)
  have hinv2:∀ j c,(st.ownB b pre post ty).lk j = some c→j = st.next∨(j≠st.next∧∃ c',st.lk j = some c'∧∀ b cap x,c.at b cap x→c'.at b cap x):=fun j c hj=>by
    rcases hinv j c hj with ⟨rfl,rfl⟩|⟨rfl,_⟩|⟨h1,_,h3⟩
    · exact .inr ⟨hbn,_,h,fun _ _ _ h=>h⟩
    · exact .inl rfl
    · exact .inr ⟨h1,c,h3,fun _ _ _ h=>h⟩
  have hmono:∀ v u,(∀ j,AV.has j v = true→∃ c,st.lk j = some c)→RepV φ R w v u→RepV (setPlace φ st.next none) R w v u:=fun v u hv hr=>
    RepV.mono (fun _ _ h=>h) (fun _ _ _=>rfl) (fun j hj=>by obtain ⟨c,hc⟩:=hv j hj;exact hφ j (hne j c hc)) hr
  refine ⟨R,setPlace φ st.next none,⟨⟨fun u=>hmono _ _ (fun j hj=>hs.s.named u j hj) (hs.s.env u),fun u j hj=>hkeep j (hs.s.named u j hj),fun j cs k hj hk=>?_,fun j c hj=>?_,hs.s.sz,⟨fun j c hj=>?_,fun j k c d b1 b2 cap cap' x hj hk hp hp' hx hx'=>?_⟩,hs.s.rlt,hs.s.defers,fun g cs hg=>?_⟩,?_⟩,
    ⟨⟨rfl,rfl,rfl,Nat.le_refl _,fun _ _ _=>rfl,fun _ _ h=>h,fun _ _ _=>rfl,fun _ _ h=>.inl h,fun b1 ⟨j,c,b0,cap,hj,hp,hx⟩=>?_⟩,fun id hid=>hφ id (by have:=hs.fx;omega),rfl,rfl⟩⟩
  · rcases hinv j _ hj with ⟨_,rfl⟩|⟨_,h9⟩|⟨_,_,h9⟩
    · simp only [Chunk.has] at hk
      rw [hasAny_mid] at hk
      rcases Bool.or_eq_true_iff.1 hk with hk|hk
      · exact hkeep k (hs.s.hnamed b _ k h (by simp only [Chunk.has];rw [hasAny_mid,hk];rfl))
      · simp [AV.has] at hk
        subst hk
        exact ⟨_,by rw [hlk,if_neg hbn,if_pos rfl]⟩
    · subst h9;simp [Chunk.has] at hk
    · exact hkeep k (hs.s.hnamed j cs k h9 hk)
  · show j < st.next + 1
    rcases hinv2 j _ hj with e|⟨_,c',h9,_⟩
    · omega
    · have:=hs.s.hnext j c' h9;omega
  · rcases hinv j _ hj with ⟨rfl,rfl⟩|⟨rfl,rfl⟩|⟨hji,_,h9⟩
    · have:=(hs.s.heap.rel j _ h).mono (φ':=setPlace φ st.next none) (R':=R) (w':=w) (hφ j hbn) (fun k hk=>by
        obtain ⟨c',hc'⟩:=hs.s.hnamed j _ k h hk
        exact hφ k (hne k c' hc')) (fun _ _ h=>h) (fun _ _ _=>rfl) (fun _ _ _ _ _ _=>⟨rfl,fun _ h=>h⟩)
      obtain ⟨b1,cap,vs,e,fr,q1,q2,q3,q4,q5⟩:=this
      exact ⟨b1,cap,vs,e,fr,q1,q2,RepVs.swap (fun v hv=>by simp only [RepV] at hv ⊢;exact .inl ⟨by simp [setPlace],by simp,hv⟩) q3,q4,q5⟩
    · exact .inl ⟨by simp [setPlace],rfl⟩
    · exact (hs.s.heap.rel j c h9).mono (hφ j hji) (fun k hk=>by
        obtain ⟨c',hc'⟩:=hs.s.hnamed j c k h9 hk
        exact hφ k (hne k c' hc')) (fun _ _ h=>h) (fun _ _ _=>rfl) (fun _ _ _ _ _ _=>⟨rfl,fun _ h=>h⟩)
  · rcases hinv2 j _ hj with rfl|⟨hji,c',h9,ha⟩
    · simp [setPlace] at hp
    · rcases hinv2 k _ hk with rfl|⟨hki,d',h8,ha'⟩
      · simp [setPlace] at hp'
      · rw [hφ j hji] at hp;rw [hφ k hki] at hp'
        exact hs.s.heap.inj j k c' d' b1 b2 cap cap' x h9 h8 hp hp' (ha _ _ _ hx) (ha' _ _ _ hx')
  · have:=hs.s.gl g cs hg
    refine ⟨RepV.mono (fun _ _ h=>h) (fun _ _ _=>rfl) (fun j hj=>?_) this.1,this.2⟩
    simp only [AV.has] at hj
    rw [this.2 j] at hj
    simp at hj
  · have:=hs.fx
    show st.fix≤st.next + 1
    omega
  · rcases hinv2 j _ hj with rfl|⟨hji,c',h9,ha⟩
    · simp [setPlace] at hp
    · rw [hφ j hji] at hp
      exact .inr ⟨j,c',b0,cap,h9,hp,ha _ _ _ hx⟩
def St.freezeB (st:St) (b id:Nat) (cs:List AV):St:={ n:=st.n,fix:=st.fix,next:=st.next,env:=scrubEnv id st.env,heap:=(b,.box cs) :: eraseH id st.heap,gl:=st.gl }
theorem Le.freezeB {st:St} (bx id n:Nat) (pre post:List AV) {ty:Ty} {xs:List ty.D} (ht:st.lk bx = some (.box (pre ++ .own id n :: post))) (hid:st.lk id = some (.arr ty xs)) (hn:n≤xs.length) (hno:AV.hasAny id (pre ++ post) = false) :
    Le st (st.freezeB bx id (pre ++ .list ty (xs.take n) :: post)):=fun R φ a w hs=>by
  have hrel:=hs.s.heap.rel id _ hid
  have hrb:=hs.s.heap.rel bx _ ht
  have hbi:bx≠id:=fun e=>by subst e;rw [ht] at hid;cases hid
  let R':Prot:=fun b o=>R b o∨∃ cap,φ id = some (b,cap)
  have hR:∀ b o,R b o→R' b o:=fun b o h=>.inl h
  generalize hcs:pre ++ AV.list ty (xs.take n) :: post = cs'
  have hget:∀ u,(st.freezeB bx id cs').get u = (st.get u).scrub id:=fun u=>by
    simp only [St.freezeB,St.get,scrubEnv,lookup_map]
    cases lookup u st.env <;> simp [AV.scrub,AV.may,AV.has]
  have hlk:∀ k,(st.freezeB bx id cs').lk k = if bx = k then some (.box cs') else if k = id then none else (st.lk k).map (Chunk.scrub id):=fun k=>by
    simp only [St.freezeB,St.lk,lookup_cons,lookup_eraseH]
  have hinv:∀ j c,(st.freezeB bx id cs').lk j = some c→(j = bx∧c = .box cs')∨(j≠bx∧j≠id∧∃ c',st.lk j = some c'∧c = c'.scrub id):=fun j c hj=>by
    rw [hlk] at hj
    split at hj
    · rename_i e;simp only [Option.some.injEq] at hj;exact .inl ⟨e.symm,hj.symm⟩
    · rename_i e0
      split at hj
      · simp at hj
      · rename_i e
        obtain ⟨c',h1,h2⟩:=Option.map_eq_some_iff.1 hj
        exact .inr ⟨fun h=>e0 h.symm,e,c',h1,h2.symm⟩
  have hinv2:∀ j c,(st.freezeB bx id cs').lk j = some c→j≠id∧∃ c',st.lk j = some c'∧∀ b cap x,c.at b cap x→c'.at b cap x:=fun j c hj=>by
    rcases hinv j c hj with ⟨rfl,rfl⟩|⟨_,h2,c',h3,rfl⟩
    · exact ⟨hbi,_,ht,fun _ _ _ h=>h⟩
    · exact ⟨h2,c',h3,fun _ _ _ h=>Chunk.at_scrub h⟩
  have hsome:∀ j,j≠id→(∃ c,st.lk j = some c)→∃ c,(st.freezeB bx id cs').lk j = some c:=fun j hj ⟨c,hc⟩=>by
    rw [hlk,if_neg hj]
    split
    · exact ⟨_,rfl⟩
    · rw [hc];exact ⟨_,rfl⟩
  have hown:∀ b j c cap x,j≠id→st.lk j = some c→φ j = some (b,cap)→c.at b cap x→∀ cap',φ id≠some (x,cap'):=fun b j c cap x hj hc hpj hx cap' h=>
    hj (hs.s.heap.inj j id c _ b x cap cap' x hc hid hpj h hx rfl)
  have hlist:∀ v,RepV φ R w (.own id n) v→RepV φ R' w (.list ty (xs.take n)) v:=fun v hv=>by
    simp only [RepV] at hv
    simp only [RepV,Rep]
    have hlen:(xs.take n).length = n:=by simp;omega
    rcases hv with ⟨hφ,rfl,hv⟩|⟨b,cap,hφ,hcap,hv⟩
    · exact ⟨none,0,by rw [hv];simp,by simp,.inl ⟨by simp,rfl⟩⟩
    · refine ⟨some ⟨b,0,none⟩,cap,by rw [hv,hlen],by omega,.inr ⟨b,0,rfl,fun i hi=>?_⟩⟩
      rcases hrel with ⟨h1,h2⟩|⟨b',cap',vs,e',fr,hφ',hh,hvs,hxc,hel,_,_⟩
      · rw [hφ] at h1;simp at h1
      · rw [hφ] at hφ'
        simp only [Option.some.injEq,Prod.mk.injEq] at hφ'
        obtain ⟨rfl,rfl⟩:=hφ'
        have hi':i < xs.length:=by rw [hlen] at hi;omega
        have hr:=hel i hi'
        refine ⟨_,hr.length,fun k v hk=>⟨.inr ⟨cap,hφ⟩,?_⟩,by rw [List.getElem_take];exact Rep.mono hR (fun _ _ _=>rfl) hr⟩
        rw [List.getElem?_take] at hk
        split at hk
        · rw [List.getElem?_drop] at hk
          simp only [World.cell?,hh,Nat.zero_add]
          simpa using hk
        · simp at hk
  have hvs:∀ {pre:List AV} {vs:List Value},RepVs φ R w (pre ++ .own id n :: post) vs→RepVs φ R' w (pre ++ .list ty (xs.take n) :: post) vs:=by
    intro pre
    induction pre with
    | nil=>
      intro vs h
      simp only [List.nil_append,RepVs] at h ⊢
      obtain ⟨v,r,e,h1,h2⟩:=h
      exact ⟨v,r,e,hlist v h1,RepVs.mono hR (fun _ _ _=>rfl) (fun _ _=>rfl) h2⟩
    | cons p pre ih=>
      intro vs h
      simp only [List.cons_append,RepVs] at h ⊢
      obtain ⟨v,r,e,h1,h2⟩:=h
      exact ⟨v,r,e,RepV.mono hR (fun _ _ _=>rfl) (fun _ _=>rfl) h1,ih h2⟩
  refine ⟨R',φ,⟨⟨fun u=>?_,fun u j hj=>?_,fun j cs k hj hk=>?_,fun j c hj=>?_,hs.s.sz,⟨fun j c hj=>?_,fun j k c d b b' cap cap' x hj hk hp hp' hx hx'=>?_⟩,fun b o h=>?_,hs.s.defers,fun g cs hg=>?_⟩,hs.fx⟩,
    ⟨⟨rfl,rfl,rfl,Nat.le_refl _,fun _ _ _=>rfl,hR,fun _ _ _=>rfl,fun b o h=>?_,fun b ⟨j,c,b0,cap,hj,hp,hx⟩=>?_⟩,fun _ _=>rfl,rfl,rfl⟩⟩
  · rw [hget]
    exact scrub_rep (hs.s.env u) (fun _ _=>rfl) hR (fun _ _ _=>rfl)
  · rw [hget] at hj
    exact hsome j (scrub_ne hj) (hs.s.named u j (scrub_sub hj))
  · rcases hinv j _ hj with ⟨_,rfl⟩|⟨_,hne,c',h1,rfl⟩
    · simp only [Chunk.has] at hk
      rw [← hcs,hasAny_mid] at hk
      have hk2:AV.hasAny k (pre ++ post) = true:=by simpa [AV.has] using hk
      exact hsome k (fun e=>by subst e;rw [hno] at hk2;cases hk2) (hs.s.hnamed bx _ k ht (by simp only [Chunk.has];rw [hasAny_mid,hk2];rfl))
    · exact hsome k (Chunk.scrub_has hk).1 (hs.s.hnamed j c' k h1 (Chunk.scrub_has hk).2)
  · obtain ⟨_,c',h1,_⟩:=hinv2 j _ hj
    exact hs.s.hnext j c' h1
  · rcases hinv j _ hj with ⟨rfl,rfl⟩|⟨_,hne,c',h1,rfl⟩
    · obtain ⟨b1,cap,vs,e,fr,q1,q2,q3,q4,q5⟩:=hrb
      refine ⟨b1,cap,vs,e,fr,q1,q2,by rw [← hcs];exact hvs q3,fun o h=>?_,q5⟩
      rcases h with h|⟨c9,h⟩
      · exact q4 o h
      · exact hown b1 j _ cap b1 hbi ht q1 rfl c9 h
    · exact Chunk.scrub_rel (hs.s.heap.rel j c' h1) rfl (fun _ _=>rfl) hR (fun _ _ _=>rfl) (fun b cap x hpj hx _=>⟨rfl,fun o h=>by
        rcases h with h|⟨c9,h⟩
        · exact h
        · exact absurd h (hown b j _ cap x hne h1 hpj hx c9)⟩)
  · obtain ⟨_,c',h1,ha⟩:=hinv2 j _ hj
    obtain ⟨_,d',h2,ha'⟩:=hinv2 k _ hk
    exact hs.s.heap.inj j k c' d' b b' cap cap' x h1 h2 hp hp' (ha _ _ _ hx) (ha' _ _ _ hx')
  · rcases h with h|⟨cap,h⟩
    · exact hs.s.rlt b o h
    · exact ((hs.s.heap.rel id _ hid).block h).1
  · have:=hs.s.gl g cs hg
    exact ⟨RepV.mono hR (fun _ _ _=>rfl) (fun _ _=>rfl) this.1,this.2⟩
  · rcases h with h|⟨cap,h⟩
    · exact .inl h
    · exact .inr (.inr (Owns.main hid h))
  · obtain ⟨_,c',h1,ha⟩:=hinv2 j _ hj
    exact .inr ⟨j,c',b0,cap,h1,hp,ha _ _ _ hx⟩
end Go.Fw
