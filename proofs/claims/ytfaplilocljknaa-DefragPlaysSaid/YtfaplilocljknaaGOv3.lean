import Derived.Test.YtfaplilocljknaaGOv2
set_option linter.all false
namespace Go.Ov
open Go Go.Fw
def keyC (m:List Cl) (x:Int):Option (Int × Int):=(atC m x).map fun c=>(c.2.2.1,c.2.2.2.1)
def brkB (m:List Cl) (x:Int):Bool:=decide (keyC m (x - 1)≠keyC m x)
theorem J_last (c:List Cl) (y:Cl):∃ l' q,J (c ++ [y]) = l' ++ [q]∧q.1 + (q.2.1.length:Int) = y.1 + 1∧q.2.2.1 = y.2.2.1∧q.2.2.2.1 = y.2.2.2.1:=by
  rw [J_snoc]
  rcases List.eq_nil_or_concat (J c) with h|⟨l',q,h⟩
  · rw [h]
    exact ⟨[],one y,rfl,by simp [one],rfl,rfl⟩
  · rw [List.concat_eq_append] at h
    rw [h,joinP_snoc]
    split
    · rename_i hj
      refine ⟨l',_,rfl,?_,rfl,rfl⟩
      simp only [List.length_append,one] at hj ⊢
      simp only [List.map_cons,List.map_nil,List.length_singleton]
      omega
    · exact ⟨l' ++ [q],one y,by simp,by simp [one],rfl,rfl⟩
theorem sorted_last {c:List Cl} {x:Cl} (h:Sorted (c ++ [x])):Sorted c∧∀ y∈c,y.1 < x.1:=by
  obtain ⟨h1,_,h3⟩:=List.pairwise_append.1 h
  exact ⟨h1,fun y hy=>h3 y hy x (by simp)⟩
theorem J_cnt:∀ (n:Nat) (m:List Cl),m.length = n→Sorted m→∀ lo hi:Int,(∀ x∈m,lo≤x.1∧x.1 < hi)→(J m).length≤cnt (brkB m) lo hi
  | 0,m,hn,_,lo,hi,_=>by
    have:m = []:=List.length_eq_zero_iff.1 hn
    subst this
    exact Nat.zero_le _
  | n + 1,m,hn,hs,lo,hi,h=>by
    rcases List.eq_nil_or_concat m with rfl|⟨c,x,rfl⟩
    · exact Nat.zero_le _
    rw [List.concat_eq_append] at *
    obtain ⟨hsc,hlt⟩:=sorted_last hs
    have hx:=h x (by simp)
    have ih:=J_cnt n c (by simp at hn;omega) hsc lo x.1 (fun y hy=>⟨(h y (by simp [hy])).1,hlt y hy⟩)
    have hk:∀ y,y < x.1→keyC (c ++ [x]) y = keyC c y:=fun y hy=>by
      unfold keyC
      rw [atC_append]
      have:atC [x] y = none:=atC_none (fun z hz=>by simp only [List.mem_singleton] at hz;subst hz;omega)
      rw [this];simp
    have hkx:keyC (c ++ [x]) x.1 = some (x.2.2.1,x.2.2.2.1):=by
      unfold keyC
      rw [atC_mem hs (by simp)];rfl
    have e1:cnt (brkB (c ++ [x])) lo x.1 = cnt (brkB c) lo x.1:=cnt_congr (fun y h1 h2=>by unfold brkB;rw [hk y h2,hk (y - 1) (by omega)])
    have e2:=cnt_add (brkB (c ++ [x])) (a:=lo) (b:=x.1) (c:=hi) hx.1 (by omega)
    have e3:=cnt_add (brkB (c ++ [x])) (a:=x.1) (b:=x.1 + 1) (c:=hi) (by omega) (by omega)
    have e4:=cnt_one (brkB (c ++ [x])) x.1
    have hlen:∀ (l:List Pc) (p:Pc),(joinP l p).length≤l.length + 1:=by
      intro l p
      rcases List.eq_nil_or_concat l with rfl|⟨l',q,hl'⟩
      · simp [joinP]
      · rw [List.concat_eq_append] at hl'
        subst hl'
        rw [joinP_snoc]
        split <;> simp
    rw [J_snoc]
    by_cases hb:brkB (c ++ [x]) x.1 = true
    · rw [hb] at e4
      have:=hlen (J c) (one x)
      simp at e4
      omega
    · have hb':keyC (c ++ [x]) (x.1 - 1) = keyC (c ++ [x]) x.1:=by
        unfold brkB at hb
        simpa using hb
      rw [hkx,hk _ (by omega)] at hb'
      unfold keyC at hb'
      cases hy:atC c (x.1 - 1) with
      | none=>rw [hy] at hb';cases hb'
      | some y=>
        rw [hy] at hb'
        simp only [Option.map_some,Option.some.injEq,Prod.mk.injEq] at hb'
        obtain ⟨hy1,hy2⟩:=atC_some hy
        rcases List.eq_nil_or_concat c with rfl|⟨c',z,rfl⟩
        · simp at hy1
        rw [List.concat_eq_append] at *
        obtain ⟨hsc',hlt'⟩:=sorted_last hsc
        have hz:=hlt z (by simp)
        have hyz:y = z:=by
          rcases List.mem_append.1 hy1 with h5|h5
          · have:=hlt' y h5;omega
          · simpa using h5
        subst hyz
        obtain ⟨l',q,hq,q1,q2,q3⟩:=J_last c' y
        have:(joinP (J (c' ++ [y])) (one x)).length = (J (c' ++ [y])).length:=by
          rw [hq,joinP_snoc,if_pos ⟨by show q.1 + (q.2.1.length:Int) = x.1;omega,by show q.2.2.1 = x.2.2.1;rw [q2];exact hb'.1,by show q.2.2.2.1 = x.2.2.2.1;rw [q3];exact hb'.2⟩]
          simp
        omega
theorem cnt_two {f g:Int→Bool} (a b:Int) (h:∀ x,g x = true→f x = true∨x = a∨x = b) (lo:Int):∀ n:Nat,
    cnt g lo (lo + n)≤cnt f lo (lo + n) + (if lo≤a∧a < lo + n then 1 else 0) + (if lo≤b∧b < lo + n then 1 else 0)
  | 0=>by
    have:lo + ((0:Nat):Int) = lo:=by omega
    rw [this,cnt_self]
    omega
  | n + 1=>by
    have ih:=cnt_two a b h lo n
    rw [cnt_succ,cnt_succ]
    have e:∀ z:Int,(if lo≤z∧z < lo + ((n + 1:Nat):Int) then 1 else 0) = (if lo≤z∧z < lo + (n:Int) then 1 else 0) + (if z = lo + (n:Int) then 1 else 0):=by
      intro z
      by_cases h1:z = lo + (n:Int)
      · rw [if_pos h1,if_pos (by omega),if_neg (by omega)]
      · rw [if_neg h1]
        by_cases h2:lo≤z∧z < lo + (n:Int)
        · rw [if_pos h2,if_pos (by omega)]
        · rw [if_neg h2,if_neg (by omega)]
    rw [e a,e b]
    have hg:=h (lo + n)
    cases hgv:g (lo + n) with
    | false=>simp;omega
    | true=>
      rcases hg hgv with h1|h1|h1
      · rw [h1];simp;omega
      · rw [if_pos h1.symm];simp;omega
      · rw [if_pos h1.symm];simp;omega
theorem atC_mrgk {c:List Cl} (hs:Sorted c) (pol:Int) (P:Pc) (k:Nat) (a:Int):atC (mrg c pol P k) a = if P.1≤a∧a < P.1 + k then some (pick c pol P a) else atC c a:=by
  have h1:atC (lo c P) a = if decide (a < P.1) then atC c a else none:=atC_filter hs (fun b=>decide (b < P.1)) a
  have h2:atC (hi_ c P (k:Int)) a = if decide (P.1 + (k:Int)≤a) then atC c a else none:=atC_filter hs (fun b=>decide (P.1 + (k:Int)≤b)) a
  rw [mrg,atC_append,atC_append,h1,h2,atC_mid]
  by_cases h3:a < P.1
  · have e1:¬(P.1≤a∧a < P.1 + (k:Int)):=by omega
    have e2:¬(P.1 + (k:Int)≤a):=by omega
    simp [h3,e1,e2]
  · by_cases h4:a < P.1 + k
    · have e1:P.1≤a∧a < P.1 + (k:Int):=by omega
      simp [h3,e1.1,e1.2]
    · have e1:¬(P.1≤a∧a < P.1 + (k:Int)):=by omega
      have e2:P.1 + (k:Int)≤a:=by omega
      rw [if_neg e1]
      simp [h3,e2]
      omega
def insM (m:List Cl) (pol:Int) (p:Pc):List Cl:=mrg m pol (newP p) (pd p).length
theorem atC_insM {m:List Cl} (hs:Sorted m) (pol:Int) (p:Pc) (a:Int):atC (insM m pol p) a = if pa p≤a∧a < endP p then some (pick m pol (newP p) a) else atC m a:=atC_mrgk hs pol (newP p) (pd p).length a
theorem pick_key (m:List Cl) (pol:Int) (P:Pc) (a b:Int) (h:keyC m a = keyC m b):keyC m a = keyC m b∧((pick m pol P a).2.2.1,(pick m pol P a).2.2.2.1) = ((pick m pol P b).2.2.1,(pick m pol P b).2.2.2.1):=by
  refine ⟨h,?_⟩
  unfold keyC at h
  unfold pick
  cases ha:atC m a with
  | none=>
    rw [ha] at h
    cases hb:atC m b with
    | none=>rfl
    | some y=>rw [hb] at h;cases h
  | some x=>
    rw [ha] at h
    cases hb:atC m b with
    | none=>rw [hb] at h;cases h
    | some y=>
      rw [hb] at h
      simp only [Option.map_some,Option.some.injEq,Prod.mk.injEq] at h
      simp only [h.1,h.2]
      split
      · rfl
      · simp [h.1,h.2]
theorem brk_insM {m:List Cl} (hs:Sorted m) (pol:Int) (p:Pc):∀ x,brkB (insM m pol p) x = true→brkB m x = true∨x = pa p∨x = endP p:=by
  intro x h
  by_cases h1:x = pa p
  · exact .inr (.inl h1)
  by_cases h2:x = endP p
  · exact .inr (.inr h2)
  left
  unfold brkB at h ⊢
  simp only [ne_eq,decide_eq_true_eq] at h ⊢
  intro hk
  apply h
  unfold keyC
  rw [atC_insM hs,atC_insM hs]
  by_cases h3:pa p≤x∧x < endP p
  · rw [if_pos h3,if_pos (by omega)]
    exact congrArg some (pick_key m pol (newP p) (x - 1) x hk).2
  · rw [if_neg h3,if_neg (by omega)]
    exact hk
structure MG (m:List Cl) (n:Nat):Prop where
  s:Sorted m
  ok:∀ c∈m,CellOk c
  rng:∀ c∈m,0≤c.1∧c.1 < 200
  brk:cnt (brkB m) 0 300≤n
theorem MG.valid {m:List Cl} {n:Nat} (h:MG m n):Valid (J m):=valid_J h.s h.ok
theorem MG.cells {m:List Cl} {n:Nat} (h:MG m n):cells (J m) = m:=cells_J m (fun x hx=>(h.ok x hx).2.2.2.2)
theorem MG.len {m:List Cl} {n:Nat} (h:MG m n):(J m).length≤n:=Nat.le_trans (J_cnt m.length m rfl h.s 0 300 (fun x hx=>by have:=h.rng x hx;omega)) h.brk
theorem mem_insM {m:List Cl} (hs:Sorted m) {pol:Int} {p:Pc} {c:Cl} (h:c∈insM m pol p):(pa p≤c.1∧c.1 < endP p∧c = pick m pol (newP p) c.1)∨c∈m:=by
  have h1:=atC_mem (sorted_mrg hs pol (newP p) (pd p).length) h
  have h2:=atC_insM hs pol p c.1
  rw [show insM m pol p = mrg m pol (newP p) (pd p).length from rfl,h1] at h2
  split at h2
  · rename_i h3
    simp only [Option.some.injEq] at h2
    exact .inl ⟨h3.1,h3.2,h2⟩
  · exact .inr (atC_some h2.symm).1
def Seg (p:Pc):Prop:=0≤pa p∧pa p≤150∧(pd p).length≤50
theorem MG.next {m:List Cl} {n:Nat} (h:MG m n) (pol:Int) {p:Pc} (hp:Seg p):MG (insM m pol p) (n + 2):=by
  obtain ⟨p0,p1,p2⟩:=hp
  have hend:endP p = pa p + (pd p).length:=rfl
  refine ⟨sorted_mrg h.s pol (newP p) _,fun c hc=>?_,fun c hc=>?_,?_⟩
  · rcases mem_insM h.s hc with ⟨h1,h2,h3⟩|h1
    · rw [h3,pick]
      have hn:CellOk (newC (newP p) c.1):=by
        have:=bt_in (newP p).2.1 (c.1 - (newP p).1)
        exact ⟨p0,h1,h2,by show endP p≤_;omega,this.1,this.2⟩
      cases ho:atC m c.1 with
      | none=>exact hn
      | some o=>
        simp only
        split
        · exact hn
        · exact h.ok o (atC_some ho).1
    · exact h.ok c h1
  · rcases mem_insM h.s hc with ⟨h1,h2,h3⟩|h1
    · omega
    · exact h.rng c h1
  · have:=cnt_two (pa p) (endP p) (brk_insM h.s pol p) 0 300
    have e:(0:Int) + ((300:Nat):Int) = 300:=rfl
    rw [e] at this
    have h3:=h.brk
    have h4:(if (0:Int)≤pa p∧pa p < 300 then 1 else 0)≤1:=by split <;> omega
    have h5:(if (0:Int)≤endP p∧endP p < 300 then 1 else 0)≤1:=by split <;> omega
    omega
def conS (m:List Cl) (p:Pc):Nat:=cnt (cfB m (newP p)) (pa p) (endP p)
end Go.Ov
namespace Go.Ov
open Go Go.Fw
def duo (pol:Int) (a b:Pc):List Cl:=insM (insM [] pol a) pol b
def inR (p:Pc) (x:Int):Prop:=pa p≤x∧x < endP p
instance (p:Pc) (x:Int):Decidable (inR p x):=by unfold inR;exact inferInstance
instance (p:Pc):Decidable (Seg p):=by unfold Seg;exact inferInstance
def withinR (l:List Pc):Bool:=(l.take 13).all (fun p=>decide (Seg p)) && decide ((l.length:Int)≤12)
def segB (x:Pc):Bool:=if (if decide (x.1 < 0) = true then true else decide (x.1 > 150)) = true then true else decide ((x.2.1.length:Int) > 50)
def fst4 (p q:Pc) (i:Nat):Pc:=if i % 2 = 1 then q else p
def snd4 (p q:Pc) (i:Nat):Pc:=if i % 2 = 1 then p else q
def polA (i:Nat):Int:=if i = 0 then 1 else 3
def pol4 (i:Nat):Int:=if i = 1 then 2 else polA i
def str4 (p q:Pc) (i:Nat):List UInt8:=(takeF (J (duo (pol4 i) (fst4 p q i) (snd4 p q i))) (min (pa p) (pa q))).1
def upto4 (p q:Pc) (i j:Nat):List UInt8:=if j < i then str4 p q j else []
end Go.Ov
namespace Go.Ov
open Go Go.Fw
abbrev pD:Pc:=Ty.dflt pT
def mI (l:List Pc) (pol:Int) (i:Nat):List Cl:=(l.take i).foldl (fun m p=>insM m pol p) []
def conT (l:List Pc) (pol:Int):Nat→Int
  | 0=>0
  | i + 1=>conT l pol i + (conS (mI l pol i) (l.getD i pD):Nat)
def winM (pol:Int) (p old:Pc):Bool:=
  if (if decide (pol = 2) = true then true else (if decide (pol = 3) = true then decide (pa p < pa old) else false)) = true then true
  else if decide (pol = 4) = true then (if decide (pa p < pa old) = true then true else (if decide (pa p = pa old) = true then decide (((pd p).length:Int) > ((pd old).length:Int)) else false)) else false
def ownOf (l:List Pc) (v:Int):Pc:=l.getD (v - 1).toNat pD
def mStep (l:List Pc) (pol:Int) (i:Nat) (s:List Int × Int) (k:Nat):List Int × Int:=
  if s.1.getD (pa (l.getD i pD) + k).toNat 0 = 0 then (s.1.set (pa (l.getD i pD) + k).toNat ((i:Int) + 1),s.2)
  else (if winM pol (l.getD i pD) (ownOf l (s.1.getD (pa (l.getD i pD) + k).toNat 0)) = true then s.1.set (pa (l.getD i pD) + k).toNat ((i:Int) + 1) else s.1,
    s.2 + (if bt (pd (ownOf l (s.1.getD (pa (l.getD i pD) + k).toNat 0))) (pa (l.getD i pD) + k - pa (ownOf l (s.1.getD (pa (l.getD i pD) + k).toNat 0)))≠bt (pd (l.getD i pD)) k then 1 else 0))
def mSeg (l:List Pc) (pol:Int) (i:Nat) (s:List Int × Int) (k:Nat):List Int × Int:=(List.range k).foldl (mStep l pol i) s
def mAll (l:List Pc) (pol:Int):Nat→List Int × Int
  | 0=>(List.replicate 200 0,0)
  | i + 1=>mSeg l pol i (mAll l pol i) (pd (l.getD i pD)).length
structure Tab12 (l:List Pc) (n:Nat) (ow:List Int) (m:List Cl):Prop where
  len:ow.length = 200
  own:∀ a:Nat,a < 200→(ow.getD a 0 = 0∧atC m a = none)∨(∃ j:Nat,j < n∧ow.getD a 0 = (j:Int) + 1∧pa (l.getD j pD)≤a∧(a:Int) < endP (l.getD j pD)∧atC m a = some (newC (newP (l.getD j pD)) a))
structure In12 (l:List Pc) (pol:Int) (i k:Nat) (s:List Int × Int):Prop where
  tab:Tab12 l (i + 1) s.1 (mrg (mI l pol i) pol (newP (l.getD i pD)) k)
  dif:s.2 = conT l pol i + (cnt (cfB (mI l pol i) (newP (l.getD i pD))) (pa (l.getD i pD)) (pa (l.getD i pD) + k):Nat)
structure Str12 (l:List Pc) (ow:List Int) (s:List UInt8):Prop where
  le:s.length≤200
  some_:∀ k,k < s.length→0 < ow.getD k 0∧ow.getD k 0 - 1 < l.length∧0≤(k:Int) - pa (ownOf l (ow.getD k 0))∧(k:Int) - pa (ownOf l (ow.getD k 0)) < (pd (ownOf l (ow.getD k 0))).length∧bt (pd (ownOf l (ow.getD k 0))) ((k:Int) - pa (ownOf l (ow.getD k 0))) = ((s.getD k 0).toNat:Int)
  none_:s.length < 200→ow.getD s.length 0 = 0
theorem In12.old {l:List Pc} {pol:Int} (hs:∀ p∈l,Seg p) {i k:Nat} (hi:i < l.length) {s:List Int × Int} (h:In12 l pol i k s) (hk:k < (pd (l.getD i pD)).length)
    (hne:s.1.getD (pa (l.getD i pD) + k).toNat 0≠0):0≤s.1.getD (pa (l.getD i pD) + k).toNat 0 - 1∧s.1.getD (pa (l.getD i pD) + k).toNat 0 - 1 < l.length∧
      0≤pa (l.getD i pD) + k - pa (ownOf l (s.1.getD (pa (l.getD i pD) + k).toNat 0))∧pa (l.getD i pD) + k - pa (ownOf l (s.1.getD (pa (l.getD i pD) + k).toNat 0)) < (pd (ownOf l (s.1.getD (pa (l.getD i pD) + k).toNat 0))).length:=by
  obtain ⟨p0,p1,p2⟩:=hs _ (getD_mem (d:=pD) hi)
  rcases h.tab.own (pa (l.getD i pD) + k).toNat (by omega) with ⟨q,_⟩|⟨j,q1,q2,q3,q4,_⟩
  · exact absurd q hne
  · have e:ownOf l (s.1.getD (pa (l.getD i pD) + (k:Int)).toNat 0) = l.getD j pD:=by
      unfold ownOf;rw [q2]
      have:((j:Int) + 1 - 1).toNat = j:=by omega
      rw [this]
    rw [e]
    have e1:endP (l.getD j pD) = pa (l.getD j pD) + (pd (l.getD j pD)).length:=rfl
    refine ⟨by omega,by omega,by omega,by omega⟩
end Go.Ov
