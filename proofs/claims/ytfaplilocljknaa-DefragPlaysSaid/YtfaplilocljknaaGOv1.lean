import Derived.Test.YtfaplilocljknaaGFw5
set_option linter.all false
namespace Go.Ov
open Go Go.Fw
abbrev pT:Ty:=.cons (.int .i64) (.cons .str (.cons (.int .i64) (.cons (.int .i64) .nil)))
abbrev cT:Ty:=.cons (.int .i64) (.cons (.int .u8) (.cons (.int .i64) (.cons (.int .i64) .nil)))
abbrev Pc:=Int × List UInt8 × Int × Int × Unit
abbrev Cl:=Int × Int × Int × Int × Unit
abbrev pv (x:Pc):AV:=.agg [.int .i64 x.1,.str x.2.1,.int .i64 x.2.2.1,.int .i64 x.2.2.2.1]
abbrev cv (x:Cl):AV:=.agg [.int .i64 x.1,.int .u8 x.2.1,.int .i64 x.2.2.1,.int .i64 x.2.2.2.1]
abbrev pa (x:Pc):Int:=x.1
abbrev pd (x:Pc):List UInt8:=x.2.1
abbrev pf (x:Pc):Int:=x.2.2.1
abbrev pt (x:Pc):Int:=x.2.2.2.1
def endP (x:Pc):Int:=pa x + (pd x).length
abbrev bytesOf (s:List UInt8):List Int:=intsOf s
abbrev strOfNums (l:List Int):List UInt8:=l.map Fw.byteOf
def bt (s:List UInt8) (i:Int):Int:=((s.getD i.toNat 0).toNat:Int)
theorem B_len (d:List UInt8):(bytesOf d).length = d.length:=by simp [intsOf]
theorem strOf_B (d:List UInt8):strOfNums (bytesOf d) = d:=by
  induction d with
  | nil=>rfl
  | cons x r ih=>
    have:Fw.byteOf (x.toNat:Int) = x:=by simp [Fw.byteOf]
    simp only [intsOf,List.map_cons,this,List.map_map] at ih ⊢
    rw [ih]
theorem B_inj {d e:List UInt8} (h:bytesOf d = bytesOf e):d = e:=by rw [← strOf_B d,h,strOf_B e]
theorem B_range (d:List UInt8):∀ x∈bytesOf d,0≤x∧x≤255:=by
  intro x hx
  obtain ⟨b,_,rfl⟩:=List.mem_map.1 hx
  have:=b.toNat_lt
  omega
theorem B_strOf (xs:List Int) (h:∀ x∈xs,0≤x∧x≤255):bytesOf (strOfNums xs) = xs:=by
  show (List.map Fw.byteOf xs).map (fun b=>(b.toNat:Int)) = xs
  rw [List.map_map]
  conv=>rhs;rw [← List.map_id xs]
  refine List.map_congr_left fun x hx=>?_
  obtain ⟨h0,h1⟩:=h x hx
  simp only [Function.comp,id,Fw.byteOf,UInt8.toNat_ofNat']
  omega
theorem strOf_size (xs:List Int):(strOfNums xs).length = xs.length:=by simp
theorem bt_B (s:List UInt8) (i:Int):bt s i = (bytesOf s).getD i.toNat 0:=by
  unfold bt
  show _ = (s.map fun b=>(b.toNat:Int)).getD i.toNat 0
  rcases Nat.lt_or_ge i.toNat s.length with h|h
  · simp [List.getD_eq_getElem?_getD,List.getElem?_eq_getElem h]
  · simp [List.getD_eq_getElem?_getD,List.getElem?_eq_none h]
theorem B_append (d e:List UInt8):bytesOf (d ++ e) = bytesOf d ++ bytesOf e:=by simp [intsOf]
theorem bt_in (s:List UInt8) (i:Int):0≤bt s i∧bt s i≤255:=by
  have:=(s.getD i.toNat 0).toNat_lt
  unfold bt
  omega
def mkC (f t:Int):Int→List Int→List Cl
  | _,[]=>[]
  | a,b :: bs=>(a,b,f,t,()) :: mkC f t (a + 1) bs
def cellsOf (p:Pc):List Cl:=mkC p.2.2.1 p.2.2.2.1 p.1 (bytesOf p.2.1)
def cells (l:List Pc):List Cl:=l.flatMap cellsOf
theorem mkC_append (f t:Int):∀ (xs ys:List Int) (a:Int),mkC f t a (xs ++ ys) = mkC f t a xs ++ mkC f t (a + xs.length) ys
  | [],ys,a=>by simp [mkC]
  | x :: xs,ys,a=>by
    simp only [List.cons_append,mkC,mkC_append f t xs ys (a + 1),List.length_cons]
    congr 3
    omega
theorem mkC_length (f t:Int):∀ (xs:List Int) (a:Int),(mkC f t a xs).length = xs.length
  | [],a=>rfl
  | x :: xs,a=>by simp [mkC,mkC_length f t xs (a + 1)]
theorem cellsOf_length (p:Pc):(cellsOf p).length = p.2.1.length:=by rw [cellsOf,mkC_length,B_len]
theorem cells_append (l m:List Pc):cells (l ++ m) = cells l ++ cells m:=by simp [cells]
theorem cells_cons (p:Pc) (l:List Pc):cells (p :: l) = cellsOf p ++ cells l:=by simp [cells]
theorem cells_nil:cells [] = []:=rfl
theorem mem_mkC {f t:Int} {x:Cl}:∀ {xs:List Int} {a:Int},x∈mkC f t a xs→a≤x.1∧x.1 < a + xs.length∧x.2.1∈xs∧x.2.2.1 = f∧x.2.2.2.1 = t∧x.2.1 = xs.getD (x.1 - a).toNat 0
  | [],a,h=>by simp [mkC] at h
  | b :: bs,a,h=>by
    simp only [mkC,List.mem_cons] at h
    rcases h with rfl|h
    · simp
      omega
    · obtain ⟨h1,h2,h3,h4,h5,h6⟩:=mem_mkC h
      refine ⟨by omega,by simp only [List.length_cons];omega,List.mem_cons_of_mem _ h3,h4,h5,?_⟩
      have e:(x.1 - a).toNat = (x.1 - (a + 1)).toNat + 1:=by omega
      rw [e,List.getD_cons_succ]
      exact h6
theorem mem_cellsOf {p:Pc} {x:Cl} (h:x∈cellsOf p):p.1≤x.1∧x.1 < p.1 + p.2.1.length∧(0≤x.2.1∧x.2.1≤255)∧x.2.2.1 = p.2.2.1∧x.2.2.2.1 = p.2.2.2.1∧x.2.1 = bt p.2.1 (x.1 - p.1):=by
  obtain ⟨h1,h2,h3,h4,h5,h6⟩:=mem_mkC h
  rw [B_len] at h2
  exact ⟨h1,h2,B_range _ _ h3,h4,h5,by rw [bt_B];exact h6⟩
def one (c:Cl):Pc:=(c.1,strOfNums [c.2.1],c.2.2.1,c.2.2.2.1,())
def joinP (l:List Pc) (p:Pc):List Pc:=
  match l.getLast? with
  | none=>[p]
  | some q=>if q.1 + (q.2.1.length:Int) = p.1∧q.2.2.1 = p.2.2.1∧q.2.2.2.1 = p.2.2.2.1 then l.dropLast ++ [(q.1,q.2.1 ++ p.2.1,p.2.2.1,p.2.2.2.1,())] else l ++ [p]
theorem joinP_nil (p:Pc):joinP [] p = [p]:=rfl
theorem joinP_snoc (l:List Pc) (q p:Pc):joinP (l ++ [q]) p = if q.1 + (q.2.1.length:Int) = p.1∧q.2.2.1 = p.2.2.1∧q.2.2.2.1 = p.2.2.2.1 then l ++ [(q.1,q.2.1 ++ p.2.1,p.2.2.1,p.2.2.2.1,())] else l ++ [q,p]:=by
  simp [joinP]
def J (c:List Cl):List Pc:=(c.map one).foldl joinP []
theorem J_append (c d:List Cl):J (c ++ d) = (d.map one).foldl joinP (J c):=by simp [J]
theorem J_snoc (c:List Cl) (x:Cl):J (c ++ [x]) = joinP (J c) (one x):=by simp [J]
theorem size_append (d e:List UInt8):(d ++ e).length = d.length + e.length:=by
  rw [← B_len,B_append,List.length_append,B_len,B_len]
theorem append_assoc' (a b c:List UInt8):a ++ b ++ c = a ++ (b ++ c):=B_inj (by simp [B_append])
theorem fold_bytes (f t:Int):∀ (bs:List Int) (hb:∀ x∈bs,0≤x∧x≤255) (l:List Pc) (q:Pc) (hq2:q.2.2.1 = f) (hq3:q.2.2.2.1 = t),
    ((mkC f t (q.1 + (q.2.1.length:Int)) bs).map one).foldl joinP (l ++ [q]) = l ++ [(q.1,q.2.1 ++ strOfNums bs,f,t,())]
  | [],hb,l,q,hq2,hq3=>by
    subst hq2 hq3
    have e:q.2.1 ++ strOfNums [] = q.2.1:=B_inj (by rw [B_append,B_strOf _ (by simp)];simp)
    simp [mkC,e]
  | b :: bs,hb,l,q,hq2,hq3=>by
    simp only [mkC,List.map_cons,List.foldl_cons]
    have h1:joinP (l ++ [q]) (one (q.1 + (q.2.1.length:Int),b,f,t,())) = l ++ [(q.1,q.2.1 ++ strOfNums [b],f,t,())]:=by
      rw [joinP_snoc]
      rw [if_pos ⟨rfl,hq2,hq3⟩]
      rfl
    rw [h1]
    have h2:=fold_bytes f t bs (fun x hx=>hb x (List.mem_cons_of_mem _ hx)) l (q.1,q.2.1 ++ strOfNums [b],f,t,()) rfl rfl
    have h3:q.1 + (q.2.1.length:Int) + 1 = q.1 + ((q.2.1 ++ strOfNums [b]).length:Int):=by
      rw [size_append,strOf_size]
      simp
      try omega
    rw [h3]
    rw [h2]
    congr 3
    rw [append_assoc']
    have e9:strOfNums [b] ++ strOfNums bs = strOfNums (b :: bs):=B_inj (by
      rw [B_append,B_strOf _ (fun x hx=>hb x (by simp at hx;simp [hx])),B_strOf _ (fun x hx=>hb x (List.mem_cons_of_mem _ hx)),B_strOf _ hb]
      rfl)
    rw [e9]
    rfl
theorem fold_piece (l:List Pc) (p:Pc) (hp:p.2.1.length≠0):((cellsOf p).map one).foldl joinP l = joinP l p:=by
  have hb:=B_range p.2.1
  have hs:=strOf_B p.2.1
  unfold cellsOf
  cases hB:bytesOf p.2.1 with
  | nil=>exact absurd (by rw [← B_len,hB];rfl) hp
  | cons b bs=>
    rw [hB] at hb hs
    simp only [mkC,List.map_cons,List.foldl_cons]
    have hbs:∀ x∈bs,0≤x∧x≤255:=fun x hx=>hb x (List.mem_cons_of_mem _ hx)
    have hb1:∀ x∈[b],0≤x∧x≤255:=fun x hx=>hb x (by simp at hx;simp [hx])
    have e1:strOfNums [b] ++ strOfNums bs = p.2.1:=by
      rw [← hs]
      exact B_inj (by rw [B_append,B_strOf _ hb1,B_strOf _ hbs,B_strOf _ hb];rfl)
    have hone:∀ (q:Pc) (l':List Pc),q.2.1 = strOfNums [b]→q.1 = p.1→q.2.2.1 = p.2.2.1→q.2.2.2.1 = p.2.2.2.1→
        ((mkC p.2.2.1 p.2.2.2.1 (p.1 + 1) bs).map one).foldl joinP (l' ++ [q]) = l' ++ [p]:=by
      intro q l' h1 h2 h3 h4
      have:=fold_bytes p.2.2.1 p.2.2.2.1 bs hbs l' q h3 h4
      rw [h1,h2,strOf_size] at this
      simp only [List.length_cons,List.length_nil] at this
      rw [e1] at this
      exact this
    rcases List.eq_nil_or_concat l with rfl|⟨l',q,hl'⟩
    · simpa [joinP_nil] using hone (one (p.1,b,p.2.2.1,p.2.2.2.1,())) [] rfl rfl rfl rfl
    · rw [List.concat_eq_append] at hl'
      subst hl'
      rw [joinP_snoc,joinP_snoc]
      by_cases hj:q.1 + (q.2.1.length:Int) = p.1∧q.2.2.1 = p.2.2.1∧q.2.2.2.1 = p.2.2.2.1
      · rw [if_pos hj,if_pos (by simpa [one] using hj)]
        have:=fold_bytes p.2.2.1 p.2.2.2.1 bs hbs l' (q.1,q.2.1 ++ strOfNums [b],p.2.2.1,p.2.2.2.1,()) rfl rfl
        simp only [one]
        have e2:q.1 + ((q.2.1 ++ strOfNums [b]).length:Int) = p.1 + 1:=by
          rw [size_append,strOf_size]
          simp
          omega
        simp only [e2] at this
        rw [this,append_assoc',e1]
      · rw [if_neg hj,if_neg (by simpa [one] using hj)]
        have:=hone (one (p.1,b,p.2.2.1,p.2.2.2.1,())) (l' ++ [q]) rfl rfl rfl rfl
        simpa using this
theorem cells_joinP (l:List Pc) (p:Pc):cells (joinP l p) = cells l ++ cellsOf p:=by
  rcases List.eq_nil_or_concat l with rfl|⟨l',q,hl'⟩
  · simp [joinP_nil,cells]
  · rw [List.concat_eq_append] at hl'
    subst hl'
    rw [joinP_snoc]
    split
    · rename_i hj
      obtain ⟨h1,h2,h3⟩:=hj
      simp only [cells_append,cells_cons,cells_nil,List.append_nil,List.append_assoc]
      congr 1
      simp only [cellsOf,B_append,mkC_append,B_len,h1,h2,h3]
    · simp [cells_append,cells_cons,cells_nil]
theorem cellsOf_one (c:Cl) (h:0≤c.2.1∧c.2.1≤255):cellsOf (one c) = [c]:=by
  simp only [cellsOf,one]
  rw [B_strOf _ (by simpa using h)]
  rfl
theorem cells_J (c:List Cl) (h:∀ x∈c,0≤x.2.1∧x.2.1≤255):cells (J c) = c:=by
  have key:∀ (c:List Cl) (l:List Pc),(∀ x∈c,0≤x.2.1∧x.2.1≤255)→cells ((c.map one).foldl joinP l) = cells l ++ c:=by
    intro c
    induction c with
    | nil=>intro l _;simp
    | cons x c ih=>
      intro l h
      rw [List.map_cons,List.foldl_cons,ih _ (fun y hy=>h y (by simp [hy])),cells_joinP,cellsOf_one x (h x (by simp))]
      simp
  simpa [cells_nil,J] using key c [] h
def Sorted (c:List Cl):Prop:=c.Pairwise (fun x y=>x.1 < y.1)
def atC:List Cl→Int→Option Cl
  | [],_=>none
  | x :: c,a=>if x.1 = a then some x else atC c a
theorem atC_append (c d:List Cl) (a:Int):atC (c ++ d) a = (atC c a).or (atC d a):=by
  induction c with
  | nil=>simp [atC]
  | cons x c ih=>
    simp only [List.cons_append,atC]
    split
    · simp
    · exact ih
theorem atC_some {c:List Cl} {a:Int} {x:Cl} (h:atC c a = some x):x∈c∧x.1 = a:=by
  induction c with
  | nil=>simp [atC] at h
  | cons y c ih=>
    simp only [atC] at h
    split at h
    · cases h
      exact ⟨by simp,by assumption⟩
    · obtain ⟨h1,h2⟩:=ih h
      exact ⟨by simp [h1],h2⟩
theorem atC_none {c:List Cl} {a:Int} (h:∀ x∈c,x.1≠a):atC c a = none:=by
  induction c with
  | nil=>rfl
  | cons y c ih=>
    simp only [atC]
    rw [if_neg (h y (by simp))]
    exact ih (fun x hx=>h x (by simp [hx]))
theorem atC_mem {c:List Cl} (hs:Sorted c) {x:Cl} (hx:x∈c):atC c x.1 = some x:=by
  induction c with
  | nil=>simp at hx
  | cons y c ih=>
    obtain ⟨h1,h2⟩:=List.pairwise_cons.1 hs
    simp only [atC]
    rcases List.mem_cons.1 hx with rfl|hx
    · simp
    · rw [if_neg (by have:=h1 x hx;omega)]
      exact ih h2 hx
theorem sorted_ext:∀ {c d:List Cl},Sorted c→Sorted d→(∀ a,atC c a = atC d a)→c = d
  | [],[],_,_,_=>rfl
  | [],y :: d,_,hd,h=>by
    have:=h y.1
    rw [atC_mem hd (by simp)] at this
    simp [atC] at this
  | x :: c,[],hc,_,h=>by
    have:=h x.1
    rw [atC_mem hc (by simp)] at this
    simp [atC] at this
  | x :: c,y :: d,hc,hd,h=>by
    obtain ⟨h1,h2⟩:=List.pairwise_cons.1 hc
    obtain ⟨h3,h4⟩:=List.pairwise_cons.1 hd
    have hx:=h x.1
    rw [atC_mem hc (by simp)] at hx
    have hy:=h y.1
    rw [atC_mem hd (by simp)] at hy
    obtain ⟨hx1,_⟩:=atC_some hx.symm
    obtain ⟨hy1,_⟩:=atC_some hy
    have hxy:x = y:=by
      rcases List.mem_cons.1 hx1 with e|hx1
      · exact e
      · rcases List.mem_cons.1 hy1 with e|hy1
        · exact e.symm
        · have:=h3 x hx1
          have:=h1 y hy1
          omega
    subst hxy
    congr 1
    refine sorted_ext h2 h4 (fun a=>?_)
    by_cases ha:x.1 = a
    · rw [atC_none (fun z hz=>by have:=h1 z hz;omega),atC_none (fun z hz=>by have:=h3 z hz;omega)]
    · have:=h a
      simp only [atC,if_neg ha] at this
      exact this
theorem sorted_filter {c:List Cl} (h:Sorted c) (p:Cl→Bool):Sorted (c.filter p):=List.Pairwise.filter _ h
theorem atC_filter {c:List Cl} (h:Sorted c) (p:Int→Bool) (a:Int):atC (c.filter (fun x=>p x.1)) a = if p a then atC c a else none:=by
  induction c with
  | nil=>simp [atC]
  | cons x c ih=>
    obtain ⟨h1,h2⟩:=List.pairwise_cons.1 h
    rw [List.filter_cons]
    by_cases hx:x.1 = a
    · subst hx
      split
      · simp [atC]
      · rw [ih h2]
        rename_i hp
        simp [hp]
    · split
      · simp only [atC,if_neg hx]
        exact ih h2
      · simp only [atC,if_neg hx]
        exact ih h2
theorem sorted_mkC (f t:Int):∀ (bs:List Int) (a:Int),Sorted (mkC f t a bs)
  | [],_=>List.Pairwise.nil
  | b :: bs,a=>by
    refine List.pairwise_cons.2 ⟨fun x hx=>?_,sorted_mkC f t bs (a + 1)⟩
    have:=(mem_mkC hx).1
    show a < x.1
    omega
theorem sorted_cellsOf (p:Pc):Sorted (cellsOf p):=sorted_mkC _ _ _ _
theorem atC_mkC (f t:Int):∀ (bs:List Int) (s a:Int),atC (mkC f t s bs) a = if s≤a∧a < s + bs.length then some (a,bs.getD (a - s).toNat 0,f,t,()) else none
  | [],s,a=>by
    simp only [mkC,atC,List.length_nil]
    rw [if_neg (by omega)]
  | b :: bs,s,a=>by
    simp only [mkC,atC,List.length_cons]
    by_cases hs:s = a
    · subst hs
      rw [if_pos rfl,if_pos (by omega)]
      simp
    · rw [if_neg hs,atC_mkC f t bs (s + 1) a]
      by_cases h:s + 1≤a∧a < s + 1 + bs.length
      · rw [if_pos h,if_pos (by omega)]
        have e:(a - s).toNat = (a - (s + 1)).toNat + 1:=by omega
        rw [e,List.getD_cons_succ]
      · rw [if_neg h,if_neg (by omega)]
theorem atC_cellsOf (p:Pc) (a:Int):atC (cellsOf p) a = if p.1≤a∧a < p.1 + p.2.1.length then some (a,bt p.2.1 (a - p.1),p.2.2.1,p.2.2.2.1,()) else none:=by
  unfold cellsOf
  rw [atC_mkC,B_len,bt_B]
def upto (m:List Cl) (F:Int):List Cl:=m.filter (fun x=>decide (x.1 < F))
theorem upto_step {m s:List Cl} {F F':Int} (hm:Sorted m) (hs:Sorted s) (hF:F≤F') (hin:∀ x∈s,F≤x.1∧x.1 < F') (h:∀ a,F≤a→a < F'→atC m a = atC s a):upto m F' = upto m F ++ s:=by
  refine sorted_ext (sorted_filter hm _) ?_ (fun a=>?_)
  · refine List.pairwise_append.2 ⟨sorted_filter hm _,hs,fun x hx y hy=>?_⟩
    have h1:=(List.mem_filter.1 hx).2
    have h2:=(hin y hy).1
    simp at h1
    omega
  · rw [atC_append]
    unfold upto
    rw [atC_filter hm (fun z=>decide (z < F')),atC_filter hm (fun z=>decide (z < F))]
    by_cases h1:a < F
    · rw [if_pos (by simp;omega),if_pos (by simpa using h1)]
      have hs0:atC s a = none:=atC_none (fun x hx=>by have:=(hin x hx).1;omega)
      rw [hs0]
      simp
    · by_cases h2:a < F'
      · rw [if_pos (by simpa using h2),if_neg (by simpa using h1),h a (by omega) h2]
        simp
      · rw [if_neg (by simpa using h2),if_neg (by simpa using h1),atC_none (fun x hx=>by have:=(hin x hx).2;omega)]
        simp
theorem upto_all {m:List Cl} {F:Int} (h:∀ x∈m,x.1 < F):upto m F = m:=List.filter_eq_self.2 (fun x hx=>by simpa using h x hx)
theorem upto_same {m:List Cl} {F F':Int} (hm:Sorted m) (hF:F≤F') (h:∀ a,F≤a→a < F'→atC m a = none):upto m F' = upto m F:=by
  have:=upto_step (s:=[]) hm List.Pairwise.nil hF (by simp) (fun a h1 h2=>by rw [h a h1 h2];rfl)
  simpa using this
theorem upto_zero {m:List Cl} {F:Int} (h:∀ x∈m,F≤x.1):upto m F = []:=List.filter_eq_nil_iff.2 (fun x hx=>by have:=h x hx;simp;omega)
def cnt (f:Int→Bool) (a b:Int):Nat:=((List.range (b - a).toNat).filter (fun i:Nat=>f (a + (i:Int)))).length
theorem cnt_self (f:Int→Bool) (a:Int):cnt f a a = 0:=by simp [cnt]
theorem cnt_add (f:Int→Bool) {a b c:Int} (h1:a≤b) (h2:b≤c):cnt f a c = cnt f a b + cnt f b c:=by
  unfold cnt
  have e:(c - a).toNat = (b - a).toNat + (c - b).toNat:=by omega
  rw [e,List.range_add,List.filter_append,List.length_append,List.filter_map,List.length_map]
  congr 3
  funext i
  simp only [Function.comp]
  congr 1
  omega
theorem cnt_false {f:Int→Bool} {a b:Int} (h:∀ x,a≤x→x < b→f x = false):cnt f a b = 0:=by
  unfold cnt
  rw [List.length_eq_zero_iff,List.filter_eq_nil_iff]
  intro i hi
  have:=List.mem_range.1 hi
  rw [h _ (by omega) (by omega)]
  simp
theorem cnt_true {f:Int→Bool} {a b:Int} (h:∀ x,a≤x→x < b→f x = true):cnt f a b = (b - a).toNat:=by
  unfold cnt
  rw [List.filter_eq_self.2,List.length_range]
  intro i hi
  have:=List.mem_range.1 hi
  exact h _ (by omega) (by omega)
theorem cnt_congr {f g:Int→Bool} {a b:Int} (h:∀ x,a≤x→x < b→f x = g x):cnt f a b = cnt g a b:=by
  unfold cnt
  congr 1
  refine List.filter_congr (fun i hi=>?_)
  have:=List.mem_range.1 hi
  exact h _ (by omega) (by omega)
theorem cnt_shift (f:Int→Bool) (a b d:Int):cnt (fun x=>f (x + d)) a b = cnt f (a + d) (b + d):=by
  unfold cnt
  have e:(b + d - (a + d)).toNat = (b - a).toNat:=by omega
  rw [e]
  congr 1
  refine List.filter_congr (fun i _=>?_)
  show f (a + (i:Int) + d) = f (a + d + (i:Int))
  congr 1
  omega
theorem cnt_one (f:Int→Bool) (a:Int):cnt f a (a + 1) = if f a then 1 else 0:=by
  unfold cnt
  have e:(a + 1 - a).toNat = 1:=by omega
  rw [e]
  simp [List.range_succ]
  split <;> simp_all
theorem cnt_le (f:Int→Bool) (a b:Int):cnt f a b≤(b - a).toNat:=by
  unfold cnt
  have:=List.length_filter_le (fun i:Nat=>f (a + (i:Int))) (List.range (b - a).toNat)
  simpa using this
end Go.Ov
namespace Go.Ov
open Go Go.Fw
def InB (x:Pc):Prop:=0≤pa x∧endP x≤4611686018427387904
theorem InB.len {x:Pc} (h:InB x):(pd x).length≤4611686018427387904:=by have h1:=h.1;have h2:=h.2;unfold endP at h2;omega
theorem wrapEnd {x:Pc} (h:InB x):IntKind.i64.wrap (pa x + (pd x).length) = endP x:=wrapId (by have:=h.1;have:=h.2;unfold endP at *;omega)
def partP (x:Pc) (a b:Int):Pc:=(a,((pd x).take (b - pa x).toNat).drop (a - pa x).toNat,pf x,pt x,())
def differN (s t:List UInt8) (n:Nat):Nat:=(List.range n).countP fun k=>decide (((s.getD k 0).toNat:Int)≠((t.getD k 0).toNat:Int))
theorem differ_succ (s t:List UInt8) (i:Nat):differN s t (i + 1) = differN s t i + (if decide (((s.getD i 0).toNat:Int)≠((t.getD i 0).toNat:Int)) = true then 1 else 0):=by
  simp only [differN,List.range_succ,List.countP_append,List.countP_cons,List.countP_nil,Nat.zero_add]
abbrev lastP (xs:List Pc):Pc:=xs.getD (xs.length - 1) (Ty.dflt pT)
def joins (xs:List Pc) (p:Pc):Bool:=decide (0 < xs.length) && (decide (endP (lastP xs) = pa p) && (decide (pf (lastP xs) = pf p) && decide (pt (lastP xs) = pt p)))
def joinL (xs:List Pc) (p:Pc):List Pc:=
  if joins xs p = true then xs.take (xs.length - 1) ++ [(pa (lastP xs),pd (lastP xs) ++ pd p,pf p,pt p,())] else xs ++ [p]
theorem joinLen {xs:List Pc} {p:Pc} (hx:∀ x∈xs,InB x) (hp:InB p) (h:xs.length - 1 < xs.length) (he:endP (lastP xs) = p.1):(pd (lastP xs)).length + (pd p).length≤9223372036854775807:=by
  have h1:=hx _ (getD_mem (d:=Ty.dflt pT) h)
  have h2:0≤pa (lastP xs):=h1.1
  have h3:pa p + (pd p).length≤4611686018427387904:=hp.2
  have h4:pa (lastP xs) + (pd (lastP xs)).length = pa p:=he
  omega
theorem join_t {xs:List Pc} {p:Pc} (hj:joins xs p = true) {k:Nat} (hk:k = xs.length - 1) :
    xs.take k ++ [((xs.getD k (Ty.dflt pT)).1,(xs.getD k (Ty.dflt pT)).2.1 ++ p.2.1,p.2.2.1,p.2.2.2.1,())] = joinL xs p:=by
  subst hk
  rw [joinL,if_pos hj]
theorem join_f {xs:List Pc} {p:Pc} (hj:joins xs p = false):xs ++ [(p.1,p.2.1,p.2.2.1,p.2.2.2.1,())] = joinL xs p:=by
  rw [joinL,if_neg (by rw [hj];simp)]
theorem joins_eq {xs:List Pc} {p:Pc} (hw:decide ((xs.length:Int) > 0) = true→IntKind.i64.wrap ((xs.length:Int) - 1) = ((xs.length - 1:Nat):Int)) :
    (if (if decide ((xs.length:Int) > 0) = true then decide (endP (xs.getD (IntKind.i64.wrap ((xs.length:Int) - 1)).toNat (Ty.dflt pT)) = p.1) else false) = true then
      decide ((xs.getD (IntKind.i64.wrap ((xs.length:Int) - 1)).toNat (Ty.dflt pT)).2.2.1 = p.2.2.1) && (decide ((xs.getD (IntKind.i64.wrap ((xs.length:Int) - 1)).toNat (Ty.dflt pT)).2.2.2.1 = p.2.2.2.1) && true) else false) = joins xs p:=by
  by_cases h:(xs.length:Int) > 0
  · rw [hw (decide_eq_true h),toNat_cast]
    have h':0 < xs.length:=by omega
    simp [joins,h,h',lastP,pa,pf,pt]
  · have h':¬ 0 < xs.length:=by omega
    simp [joins,h,h']
def lenSum:List Pc→Int
  | []=>0
  | x :: r=>(pd x).length + lenSum r
theorem lenSum_take (xs:List Pc) (i:Nat) (h:i < xs.length):lenSum (xs.take (i + 1)) = lenSum (xs.take i) + (pd (xs.getD i (Ty.dflt pT))).length:=by
  rw [take_getD (Ty.dflt pT) h]
  generalize xs.take i = l
  induction l with
  | nil=>simp [lenSum]
  | cons x r ih=>simp only [List.cons_append,lenSum,ih];omega
theorem lenSum_nonneg:∀ xs:List Pc,0≤lenSum xs
  | []=>by simp [lenSum]
  | x :: r=>by have:=lenSum_nonneg r;simp only [lenSum];omega
theorem lenSum_mono (xs:List Pc) (i:Nat):lenSum (xs.take i)≤lenSum xs:=by
  induction xs generalizing i with
  | nil=>simp
  | cons x r ih=>
    cases i with
    | zero=>simp only [List.take_zero,lenSum];have:=lenSum_nonneg r;omega
    | succ i=>simp only [List.take_succ_cons,lenSum];have:=ih i;omega
def cut1 (a:Int) (x:Pc):Option Pc:=if endP x≤a then none else if pa x < a then some (partP x a (endP x)) else some x
def cutL (xs:List Pc) (a:Int):List Pc:=xs.filterMap (cut1 a)
theorem filterMap_one {α β:Type} (f:α→Option β) (l:List α) (y:α):(l ++ [y]).filterMap f = l.filterMap f ++ (f y).toList:=by
  rw [List.filterMap_append]
  cases h:f y <;> simp [h]
theorem cut_next (xs:List Pc) (a:Int) (i:Nat) (h:i < xs.length):cutL (xs.take (i + 1)) a = cutL (xs.take i) a ++ (cut1 a (xs.getD i (Ty.dflt pT))).toList:=by
  rw [take_getD (Ty.dflt pT) h,cutL,filterMap_one]
  rfl
theorem cut_len (xs:List Pc) (a:Int) (i:Nat):(cutL (xs.take i) a).length≤i:=by
  have h1:=List.length_filterMap_le (cut1 a) (xs.take i)
  have h2:(xs.take i).length≤i:=by simp;omega
  exact Nat.le_trans h1 h2
theorem part_end {x:Pc} {a:Int} (h:InB x) (h1:pa x < a) (h2:¬ endP x≤a) :
    partP x a (endP x) = (a,(x.2.1.take ((x.2.1.length:Nat):Int).toNat).drop (IntKind.i64.wrap (a - x.1)).toNat,x.2.2.1,x.2.2.2.1,()):=by
  have hb:=h.1
  have hb2:=h.2
  unfold endP at hb2 h2
  have w1:IntKind.i64.wrap (a - pa x) = a - pa x:=wrapId (by omega)
  have e:(endP x - pa x).toNat = (pd x).length:=by unfold endP;omega
  show (a,((pd x).take (endP x - pa x).toNat).drop (a - pa x).toNat,pf x,pt x,()) = (a,((pd x).take (pd x).length).drop (IntKind.i64.wrap (a - pa x)).toNat,pf x,pt x,())
  rw [w1,e]
def winsB (pol:Int) (o n:Pc):Bool:=
  if pol = 2 then true else if pol = 3 then decide (pf n < pf o) else if pol = 4 then decide (pf n < pf o) || (decide (pf n = pf o) && decide (pt n > pt o)) else false
def fewR (xs:List Pc) (many most:Int):Bool:=decide ((xs.length:Int)≤many) && decide (lenSum xs≤most)
def OkP (x:Pc):Prop:=pd x≠[]∧0≤pf x∧pf x≤pa x∧pt x≤4294967296∧pa x≤pt x∧((pd x).length:Int)≤pt x - pa x
instance (x:Pc):Decidable (OkP x):=by unfold OkP;exact inferInstance
def OkAt (xs:List Pc) (j:Nat):Prop:=OkP (xs.getD j (Ty.dflt pT))∧(0 < j→endP (xs.getD (j - 1) (Ty.dflt pT))≤pa (xs.getD j (Ty.dflt pT)))
instance (xs:List Pc) (j:Nat):Decidable (OkAt xs j):=by unfold OkAt;exact inferInstance
def Valid (xs:List Pc):Prop:=∀ j,j < xs.length→OkAt xs j
instance (xs:List Pc):Decidable (Valid xs):=by unfold Valid;exact inferInstance
theorem OkP.inB {x:Pc} (h:OkP x):InB x:=by
  obtain ⟨_,h1,h2,h3,h4,h5⟩:=h
  unfold InB endP
  omega
def badB' (a:Int) (d:List UInt8) (f t:Int):Bool:=
  if (if (if (if (if decide (d = []) = true then true else decide (f < 0)) = true then true else decide (f > a)) = true then true else decide (t > 4294967296)) = true then true else decide (a > t)) = true then true
  else decide (((d.length:Nat):Int) > IntKind.i64.wrap (t - a))
def badB (x:Pc):Bool:=badB' (pa x) (pd x) (pf x) (pt x)
def badR' (a:Int) (d:List UInt8) (f t:Int):Bool:=
  if (if (if (if (if (if decide (d = []) = true then true else decide (f < 0)) = true then true else decide (t < 0)) = true then true else decide (t > 4294967296)) = true then true else decide (a < f)) = true then true else decide (a > t)) = true then true
  else decide (((d.length:Nat):Int) > IntKind.i64.wrap (t - a))
def badR (x:Pc):Bool:=badR' (pa x) (pd x) (pf x) (pt x)
def takeS (s:List UInt8 × Int) (x:Pc):List UInt8 × Int:=if pa x≤s.2∧endP x > s.2 then (s.1 ++ (pd x).drop (s.2 - pa x).toNat,endP x) else s
def takeF (xs:List Pc) (a:Int):List UInt8 × Int:=xs.foldl takeS ([],a)
theorem take_next (xs:List Pc) (a:Int) (i:Nat) (h:i < xs.length):takeF (xs.take (i + 1)) a = takeS (takeF (xs.take i) a) (xs.getD i (Ty.dflt pT)):=by
  rw [take_getD (Ty.dflt pT) h,takeF,List.foldl_append]
  rfl
theorem take_len (a:Int):∀ (xs:List Pc) (s:List UInt8 × Int),((xs.foldl takeS s).1.length:Int)≤s.1.length + lenSum xs
  | [],s=>by simp [lenSum]
  | x :: r,s=>by
    have ih:=take_len a r (takeS s x)
    have:((takeS s x).1.length:Int)≤s.1.length + (pd x).length:=by
      unfold takeS
      split
      · simp only [List.length_append,List.length_drop];omega
      · omega
    simp only [List.foldl_cons,lenSum]
    omega
theorem intsOf_app (a b:List UInt8):intsOf (a ++ b) = intsOf a ++ intsOf b:=by simp [intsOf]
theorem intsOf_len (a:List UInt8):(intsOf a).length = a.length:=by simp [intsOf]
theorem bytes_back (a:List UInt8):(intsOf a).map Fw.byteOf = a:=by
  induction a with
  | nil=>rfl
  | cons x r ih=>
    have:Fw.byteOf (x.toNat:Int) = x:=by simp [Fw.byteOf]
    simp only [intsOf,List.map_cons,this,List.map_map] at ih ⊢
    rw [ih]
theorem take_piece {x:Pc} {t:Int} (hb:InB x) (q1:pa x≤t) (q2:endP x > t):IntKind.i64.wrap (t - pa x) = t - pa x∧0≤t - pa x∧t - pa x≤((pd x).length:Int)∧
    ((pd x).take (((pd x).length:Nat):Int).toNat).drop (IntKind.i64.wrap (t - pa x)).toNat = (pd x).drop (t - pa x).toNat:=by
  have h1:=hb.1
  have h2:=hb.2
  unfold endP at h2 q2
  have w:IntKind.i64.wrap (t - pa x) = t - pa x:=wrapId (by omega)
  refine ⟨w,by omega,by omega,?_⟩
  rw [w,toNat_cast,List.take_length]
structure Ins where
  out:List Pc
  conf:Int
  cov:Int
  at_:Int
def frP (q o:Pc):Int:=max (pa o) (pa q)
def toP (q o:Pc):Int:=min (endP o) (pt q)
def ins1 (q o:Pc) (out:List Pc):List Pc:=if pa o < frP q o then joinL out (partP o (pa o) (frP q o)) else out
def ins2 (q o:Pc) (a:Int) (out:List Pc):List Pc:=if a < frP q o then joinL out (partP q a (frP q o)) else out
def ins3 (pol:Int) (q o:Pc) (out:List Pc):List Pc:=joinL out (if winsB pol o q = true then partP q (frP q o) (toP q o) else partP o (frP q o) (toP q o))
def ins4 (q o:Pc) (out:List Pc):List Pc:=if toP q o < endP o then joinL out (partP o (toP q o) (endP o)) else out
def insCut (q o:Pc):Int:=differN (pd (partP o (frP q o) (toP q o))) (pd (partP q (frP q o) (toP q o))) (pd (partP o (frP q o) (toP q o))).length
def insMid (pol:Int) (q o:Pc) (s:Ins):Ins:=
  ⟨ins4 q o (ins3 pol q o (ins2 q o s.at_ (ins1 q o s.out))),s.conf + insCut q o,s.cov + (toP q o - frP q o),toP q o⟩
def insFill (q:Pc) (s:Ins):Ins:=if s.at_ < pt q then ⟨joinL s.out (partP q s.at_ (pt q)),s.conf,s.cov,pt q⟩ else s
def insLoop (pol:Int) (q:Pc):List Pc→Ins→Ins
  | [],s=>s
  | o :: r,s=>
    if endP o≤pa q then insLoop pol q r ⟨joinL s.out o,s.conf,s.cov,s.at_⟩
    else if pa o≥pt q then ⟨(o :: r).foldl joinL (insFill q s).out,s.conf,s.cov,(insFill q s).at_⟩
    else insLoop pol q r (insMid pol q o s)
def insAll (pol:Int) (q:Pc) (l:List Pc):Ins:=insFill q (insLoop pol q l ⟨[],0,0,pa q⟩)
def newP (p:Pc):Pc:=(pa p,pd p,pa p,endP p,())
def insR (l:List Pc) (p:Pc) (pol:Int):List Pc × Int × Int:=
  if pd p = [] then (l,0,0)
  else if pa p < 0∨pa p > 2147483648∨pol < 1∨pol > 5 then ([],0,4)
  else
    let r:=insAll pol (newP p) l
    if pol = 5∧r.cov > 0 then (if r.cov = (pd p).length∧r.conf = 0 then (l,0,0) else ([],0,17))
    else if r.out.length > 64 then ([],0,11) else (r.out,r.conf,0)
theorem joinL_inB {xs:List Pc} {p:Pc} (hx:∀ x∈xs,InB x) (hp:InB p):∀ x∈joinL xs p,InB x:=by
  intro x hm
  unfold joinL at hm
  split at hm
  · rename_i hj
    rcases List.mem_append.1 hm with h|h
    · exact hx x (List.mem_of_mem_take h)
    · simp only [List.mem_singleton] at h
      subst h
      simp only [joins,Bool.and_eq_true,decide_eq_true_eq] at hj
      have hl:=hx _ (getD_mem (d:=Ty.dflt pT) (show xs.length - 1 < xs.length by omega))
      have h1:0≤pa (lastP xs):=hl.1
      have h2:pa p + (pd p).length≤4611686018427387904:=hp.2
      have h3:pa (lastP xs) + (pd (lastP xs)).length = pa p:=hj.2.1
      refine ⟨h1,?_⟩
      show pa (lastP xs) + ((pd (lastP xs) ++ pd p).length:Int)≤4611686018427387904
      rw [List.length_append]
      omega
  · rcases List.mem_append.1 hm with h|h
    · exact hx x h
    · simp only [List.mem_singleton] at h
      subst h;exact hp
theorem joinL_len (xs:List Pc) (p:Pc):(joinL xs p).length≤xs.length + 1:=by
  unfold joinL
  split <;> simp <;> omega
theorem partP_inB {x:Pc} {a b:Int} (h:InB x) (h1:pa x≤a) (h2:a≤b) (h3:b≤endP x):InB (partP x a b)∧endP (partP x a b) = b:=by
  have hb:=h.1
  have hb2:=h.2
  unfold endP at hb2 h3
  have e:((((pd x).take (b - pa x).toNat).drop (a - pa x).toNat).length:Int) = b - a:=by
    rw [List.length_drop,List.length_take];omega
  have he:endP (partP x a b) = b:=by
    show a + ((((pd x).take (b - pa x).toNat).drop (a - pa x).toNat).length:Int) = b
    rw [e];omega
  exact ⟨⟨by show 0≤a;omega,by rw [he];omega⟩,he⟩
theorem inB_p {p:Pc} {pol:Int} (h:(if (if (if decide (p.1 < 0) = true then true else decide (p.1 > 2147483648)) = true then true else decide (pol < 1)) = true then true else decide (pol > 5)) = false) (hp:((pd p).length:Int)≤1099511627776):InB p:=by
  simp only [Bool.if_true_left,Bool.decide_eq_true,Bool.or_eq_false_iff,decide_eq_false_iff_not] at h
  have h1:¬ pa p < 0:=h.1.1.1
  have h2:¬ pa p > 2147483648:=h.1.1.2
  exact ⟨by omega,by unfold endP;omega⟩
structure InvI (l:List Pc) (pol:Int) (q:Pc) (i:Nat) (s:Ins):Prop where
  le:i≤l.length
  loop:insLoop pol q (l.drop i) s = insLoop pol q l ⟨[],0,0,pa q⟩
  inb:∀ x∈s.out,InB x
  len:s.out.length≤5 * i
  lo:pa q≤s.at_
  hi:s.at_≤pt q
  conf0:0≤s.conf
  conf:s.conf≤s.cov
  cov:s.cov≤s.at_ - pa q
  seen:s.at_ = pa q∨∃ j,j < i∧s.at_≤endP (l.getD j (Ty.dflt pT))
structure InvR (q:Pc) (s:Ins):Prop where
  inb:∀ x∈s.out,InB x
  len:s.out.length≤8589934592
  lo:pa q≤s.at_
  hi:s.at_≤pt q
abbrev restOut (l:List Pc) (q:Pc) (s:Ins) (i j:Nat):List Pc:=((l.drop i).take j).foldl joinL (insFill q s).out
theorem vInB {l:List Pc} (hv:Valid l) {i:Nat} (h:i < l.length):InB (l.getD i (Ty.dflt pT)):=(hv i h).1.inB
structure NewOk (p:Pc):Prop where
  inb:InB (newP p)
  pte:pt (newP p) = endP (newP p)
  lt:pa (newP p) < endP (newP p)
  len:((pd (newP p)).length:Int)≤1099511627776
theorem newOk {p:Pc} {pol:Int} (h1:decide (p.2.1 = []) = false) (h:(if (if (if decide (p.1 < 0) = true then true else decide (p.1 > 2147483648)) = true then true else decide (pol < 1)) = true then true else decide (pol > 5)) = false) (hp:((pd p).length:Int)≤1099511627776):NewOk p:=by
  have hb:=inB_p h hp
  have hne:pd p≠[]:=of_decide_eq_false h1
  have hpos:0 < (pd p).length:=List.length_pos_iff.2 hne
  exact ⟨hb,rfl,by show pa p < pa p + (pd p).length;omega,hp⟩
structure Meet (o q:Pc) (a:Int):Prop where
  oin:InB o
  qin:InB q
  ofr:pa o≤frP q o
  qfr:pa q≤frP q o
  frto:frP q o < toP q o
  too:toP q o≤endP o
  toq:toP q o≤endP q
  afr:a≤frP q o
  qpt:pt q = endP q
theorem meet_of {l:List Pc} {p:Pc} {pol:Int} {i:Nat} {s:Ins} (hv:Valid l) (hn:NewOk p) (hi:InvI l pol (newP p) i s) (h3:i < l.length) (h4:¬ endP (l.getD i (Ty.dflt pT))≤pa (newP p)) (h5:¬ pa (l.getD i (Ty.dflt pT))≥pt (newP p)) :
    Meet (l.getD i (Ty.dflt pT)) (newP p) s.at_:=by
  have ho:=vInB hv h3
  have hok:=(hv i h3).1
  have hpos:0 < (pd (l.getD i (Ty.dflt pT))).length:=List.length_pos_iff.2 hok.1
  have hlt:pa (l.getD i (Ty.dflt pT)) < endP (l.getD i (Ty.dflt pT)):=by unfold endP;omega
  have hl:=hn.lt
  have hpt:=hn.pte
  have hsort:∀ k j,j + k < i→endP (l.getD j (Ty.dflt pT))≤pa (l.getD (j + k + 1) (Ty.dflt pT)):=by
    intro k
    induction k with
    | zero=>intro j hj;have:=(hv (j + 1) (by omega)).2 (by omega);simpa using this
    | succ k ih=>
      intro j hj
      have h1:=ih j (by omega)
      have h2:=(hv (j + k + 1 + 1) (by omega)).2 (by omega)
      have h3':=(hv (j + k + 1) (by omega)).1
      have h4':pa (l.getD (j + k + 1) (Ty.dflt pT))≤endP (l.getD (j + k + 1) (Ty.dflt pT)):=by unfold endP;omega
      simp only [Nat.add_sub_cancel] at h2
      have e:j + (k + 1) + 1 = j + k + 1 + 1:=by omega
      rw [e]
      omega
  have hafr:s.at_≤max (pa (l.getD i (Ty.dflt pT))) (pa (newP p)):=by
    rcases hi.seen with h|⟨j,hj,h⟩
    · omega
    · have:=hsort (i - j - 1) j (by omega)
      rw [show j + (i - j - 1) + 1 = i by omega] at this
      omega
  refine ⟨ho,hn.inb,?_,?_,?_,?_,?_,hafr,hpt⟩ <;> (try unfold frP) <;> (try unfold toP) <;> omega
theorem cut_le (s t:List UInt8) (n:Nat):differN s t n≤n:=by
  have:=List.countP_le_length (p:=fun k=>decide (((s.getD k 0).toNat:Int)≠((t.getD k 0).toNat:Int))) (l:=List.range n)
  simpa [differN] using this
theorem part_len {x:Pc} {a b:Int} (h:InB x) (h1:pa x≤a) (h2:a≤b) (h3:b≤endP x):((pd (partP x a b)).length:Int) = b - a:=by
  have:=(partP_inB h h1 h2 h3).2
  have e:endP (partP x a b) = a + ((pd (partP x a b)).length:Int):=rfl
  omega
structure Small (o q:Pc) (s:Ins):Prop where
  conf:IntKind.i64.wrap (s.conf + insCut q o) = s.conf + insCut q o
  cov:IntKind.i64.wrap (s.cov + IntKind.i64.wrap (toP q o - frP q o)) = s.cov + (toP q o - frP q o)
  cut0:0≤insCut q o
  cut:insCut q o≤toP q o - frP q o
theorem small_of {l:List Pc} {p:Pc} {pol:Int} {i:Nat} {s:Ins} {o:Pc} (hn:NewOk p) (hi:InvI l pol (newP p) i s) (m:Meet o (newP p) s.at_):Small o (newP p) s:=by
  have hl:=part_len m.oin m.ofr (Int.le_of_lt m.frto) m.too
  have hc:insCut (newP p) o≤(pd (partP o (frP (newP p) o) (toP (newP p) o))).length:=by
    have:=cut_le (pd (partP o (frP (newP p) o) (toP (newP p) o))) (pd (partP (newP p) (frP (newP p) o) (toP (newP p) o))) (pd (partP o (frP (newP p) o) (toP (newP p) o))).length
    unfold insCut;omega
  have hc0:0≤insCut (newP p) o:=by unfold insCut;omega
  have h1:=hn.len
  have h2:endP (newP p) = pa (newP p) + (pd (newP p)).length:=rfl
  have h3:=m.toq
  have h4:=m.qfr
  have h5:=m.frto
  have h6:=hi.conf
  have h7:=hi.cov
  have h8:=hi.hi
  have h9:=hn.pte
  have h10:=hi.conf0
  have w:IntKind.i64.wrap (toP (newP p) o - frP (newP p) o) = toP (newP p) o - frP (newP p) o:=wrapId (by omega)
  exact ⟨wrapId (by omega),by rw [w];exact wrapId (by omega),hc0,by omega⟩
theorem i_lt {i n:Nat} (h:decide ((i:Int) < (n:Int)) = true):i < n:=by have:=of_decide_eq_true h;omega
theorem inv_skip {l:List Pc} {p:Pc} {pol:Int} {i:Nat} {s:Ins} (hv:Valid l) (hi:InvI l pol (newP p) i s) (h3:i < l.length) (h4:endP (l.getD i (Ty.dflt pT))≤pa (newP p)) :
    InvI l pol (newP p) (i + 1) ⟨joinL s.out (l.getD i (Ty.dflt pT)),s.conf,s.cov,s.at_⟩:=by
  refine ⟨h3,?_,joinL_inB hi.inb (vInB hv h3),?_,hi.lo,hi.hi,hi.conf0,hi.conf,hi.cov,?_⟩
  · rw [← hi.loop,drop_getD (Ty.dflt pT) h3,insLoop,if_pos h4]
  · have:=joinL_len s.out (l.getD i (Ty.dflt pT));have:=hi.len;show (joinL _ _).length≤_;omega
  · rcases hi.seen with h|⟨j,hj,h⟩
    · exact .inl h
    · exact .inr ⟨j,by omega,h⟩
theorem inv_mid {l:List Pc} {p:Pc} {pol:Int} {i:Nat} {s:Ins} (hi:InvI l pol (newP p) i s) (h3:i < l.length) (h4:¬ endP (l.getD i (Ty.dflt pT))≤pa (newP p)) (h5:¬ pa (l.getD i (Ty.dflt pT))≥pt (newP p))
    (m:Meet (l.getD i (Ty.dflt pT)) (newP p) s.at_) (sm:Small (l.getD i (Ty.dflt pT)) (newP p) s) (h9:(∀ x∈(insMid pol (newP p) (l.getD i (Ty.dflt pT)) s).out,InB x)∧(insMid pol (newP p) (l.getD i (Ty.dflt pT)) s).out.length≤5 * i + 4) :
    InvI l pol (newP p) (i + 1) (insMid pol (newP p) (l.getD i (Ty.dflt pT)) s):=by
  have a1:=m.frto
  have a2:=m.qfr
  have a3:=m.afr
  have a4:=m.qpt
  have a5:=m.toq
  have a6:=m.too
  have b1:=sm.cut0
  have b2:=sm.cut
  have c1:=hi.conf0
  have c2:=hi.conf
  have c3:=hi.cov
  refine ⟨h3,?_,h9.1,by have:=h9.2;omega,?_,?_,?_,?_,?_,.inr ⟨i,by omega,a6⟩⟩
  · rw [← hi.loop,drop_getD (Ty.dflt pT) h3,insLoop,if_neg h4,if_neg h5]
  · show pa (newP p)≤toP _ _;omega
  · show toP _ _≤pt (newP p);omega
  · show 0≤s.conf + insCut _ _;omega
  · show s.conf + insCut _ _≤s.cov + (toP _ _ - frP _ _);omega
  · show s.cov + (toP _ _ - frP _ _)≤toP _ _ - pa (newP p);omega
structure FillR (q:Pc) (s:Ins) (n:Nat):Prop where
  inb:∀ x∈(insFill q s).out,InB x
  len:(insFill q s).out.length≤n + 1
  at_:(insFill q s).at_ = pt q
theorem fill_of {q:Pc} {s:Ins} {n:Nat} (hq:InB q) (he:pt q = endP q) (hb:∀ x∈s.out,InB x) (hn:s.out.length≤n) (lo:pa q≤s.at_) (hi:s.at_≤pt q):FillR q s n:=by
  by_cases h:s.at_ < pt q
  · have hp:=(partP_inB hq lo (Int.le_of_lt h) (by omega)).1
    refine ⟨?_,?_,?_⟩ <;> unfold insFill <;> rw [if_pos h]
    · exact joinL_inB hb hp
    · have:=joinL_len s.out (partP q s.at_ (pt q));show (joinL _ _).length≤_;omega
  · refine ⟨?_,?_,?_⟩ <;> unfold insFill <;> rw [if_neg h]
    · exact hb
    · omega
    · omega
theorem drop_inB {l:List Pc} (hv:Valid l) {i j:Nat} (h:j < (l.drop i).length):InB ((l.drop i).getD j (Ty.dflt pT)):=by
  have hj:i + j < l.length:=by simp at h;omega
  have e:(l.drop i).getD j (Ty.dflt pT) = l.getD (i + j) (Ty.dflt pT):=by simp [List.getD]
  rw [e];exact vInB hv hj
theorem rest_next (l:List Pc) (q:Pc) (s:Ins) (i j:Nat) (h:j < (l.drop i).length):restOut l q s i (j + 1) = joinL (restOut l q s i j) ((l.drop i).getD j (Ty.dflt pT)):=by
  show ((l.drop i).take (j + 1)).foldl joinL _ = _
  rw [take_getD (Ty.dflt pT) h,List.foldl_append]
  rfl
theorem inv_R {l:List Pc} {p:Pc} {pol:Int} {i:Nat} {s:Ins} (hl:l.length≤1073741824) (hi:InvI l pol (newP p) i s) (h3:¬ i < l.length):insLoop pol (newP p) l ⟨[],0,0,pa (newP p)⟩ = s∧InvR (newP p) s:=by
  have hle:=hi.le
  have hlen:=hi.len
  refine ⟨?_,hi.inb,by omega,hi.lo,hi.hi⟩
  rw [← hi.loop,List.drop_of_length_le (by omega)]
  rfl
theorem inv_B {l:List Pc} {p:Pc} {pol:Int} {i j:Nat} {s:Ins} (hl:l.length≤1073741824) (hn:NewOk p) (hi:InvI l pol (newP p) i s) (h3:i < l.length) (h4:¬ endP (l.getD i (Ty.dflt pT))≤pa (newP p)) (h5:pa (l.getD i (Ty.dflt pT))≥pt (newP p))
    (hj:¬ j < (l.drop i).length) (hb:∀ x∈restOut l (newP p) s i j,InB x) (hlen:(restOut l (newP p) s i j).length≤5 * i + 1 + j) (hjl:j≤(l.drop i).length) :
    insLoop pol (newP p) l ⟨[],0,0,pa (newP p)⟩ = ⟨restOut l (newP p) s i j,s.conf,s.cov,(insFill (newP p) s).at_⟩∧InvR (newP p) ⟨restOut l (newP p) s i j,s.conf,s.cov,(insFill (newP p) s).at_⟩:=by
  have fr:=fill_of hn.inb hn.pte hi.inb hi.len hi.lo hi.hi
  have hd:(l.drop i).length = l.length - i:=by simp
  have a1:=hn.pte
  have a2:=hn.lt
  refine ⟨?_,hb,by show (restOut _ _ _ _ _).length≤_;omega,by show pa _≤(insFill _ _).at_;rw [fr.at_];omega,by show (insFill _ _).at_≤_;rw [fr.at_];exact Int.le_refl _⟩
  rw [← hi.loop]
  have e:(l.drop i).take j = l.drop i:=List.take_of_length_le (by omega)
  have e2:restOut l (newP p) s i j = (l.drop i).foldl joinL (insFill (newP p) s).out:=by show ((l.drop i).take j).foldl joinL _ = _;rw [e]
  rw [e2,drop_getD (Ty.dflt pT) h3,insLoop,if_neg h4,if_pos h5]
abbrev rangeB (a pol:Int):Bool:=if (if (if decide (a < 0) = true then true else decide (a > 2147483648)) = true then true else decide (pol < 1)) = true then true else decide (pol > 5)
theorem rangeB_t {a pol:Int} (h:rangeB a pol = true):a < 0∨a > 2147483648∨pol < 1∨pol > 5:=by
  simp only [rangeB,Bool.if_true_left,Bool.decide_eq_true,Bool.or_eq_true,decide_eq_true_eq] at h
  omega
theorem rangeB_f {a pol:Int} (h:rangeB a pol = false):¬ (a < 0∨a > 2147483648∨pol < 1∨pol > 5):=by
  simp only [rangeB,Bool.if_true_left,Bool.decide_eq_true,Bool.or_eq_false_iff,decide_eq_false_iff_not] at h
  omega
theorem insR_nil {l:List Pc} {p:Pc} {pol:Int} (h:decide (p.2.1 = []) = true):insR l p pol = (l,0,0):=if_pos (of_decide_eq_true h)
theorem insR_range {l:List Pc} {p:Pc} {pol:Int} (h:decide (p.2.1 = []) = false) (h2:rangeB p.1 pol = true):insR l p pol = ([],0,4):=(if_neg (of_decide_eq_false h)).trans (if_pos (rangeB_t h2))
theorem insR_go {l:List Pc} {p:Pc} {pol:Int} (h:decide (p.2.1 = []) = false) (h2:rangeB p.1 pol = false):insR l p pol =
    (if pol = 5∧(insAll pol (newP p) l).cov > 0 then (if (insAll pol (newP p) l).cov = (pd p).length∧(insAll pol (newP p) l).conf = 0 then (l,0,0) else ([],0,17))
    else if (insAll pol (newP p) l).out.length > 64 then ([],0,11) else ((insAll pol (newP p) l).out,(insAll pol (newP p) l).conf,0)):=(if_neg (of_decide_eq_false h)).trans (if_neg (rangeB_f h2))
theorem gand_t {c d:Prop} [Decidable c] [Decidable d] (h:(if decide c = true then decide d else false) = true):c∧d:=by
  by_cases hc:c
  · simp [hc] at h;exact ⟨hc,h⟩
  · simp [hc] at h
theorem gand_f {c d:Prop} [Decidable c] [Decidable d] (h:(if decide c = true then decide d else false) = false):¬ (c∧d):=by
  by_cases hc:c
  · simp [hc] at h;exact fun k=>h k.2
  · exact fun k=>hc k.1
abbrev insAV (r:List Pc × Int × Int):AV:=.tup [.list pT r.1,.int .i64 r.2.1,.int .i64 r.2.2]
end Go.Ov
namespace Go.Ov
open Go Go.Fw
theorem foldl_next {α β:Type} (f:β→α→β) (s:β) (d:α) {l:List α} {i:Nat} (h:i < l.length):(l.take (i + 1)).foldl f s = f ((l.take i).foldl f s) (l.getD i d):=by
  rw [take_getD d h,List.foldl_append];rfl
theorem take_all {α:Type} {l:List α} {i:Nat} (h:¬ (i:Int) < (l.length:Int)):l.take i = l:=List.take_of_length_le (by omega)
def atI:List Cl→Int→Int→Int
  | [],_,_=>-1
  | x :: c,a,n=>if x.1 = a then n else atI c a (n + 1)
abbrev cD:Cl:=Ty.dflt cT
theorem atI_none:∀ {c:List Cl} {a n:Int},atC c a = none→atI c a n = -1
  | [],_,_,_=>rfl
  | x :: c,a,n,h=>by
    simp only [atC] at h
    split at h
    · cases h
    · rename_i hx
      simp only [atI,if_neg hx]
      exact atI_none h
theorem atI_some:∀ {c:List Cl} {a n:Int} {o:Cl},atC c a = some o→∃ k:Nat,k < c.length∧atI c a n = n + k∧c.getD k cD = o∧(∀ j,j < k→(c.getD j cD).1≠a)
  | [],_,_,_,h=>by simp [atC] at h
  | x :: c,a,n,o,h=>by
    simp only [atC] at h
    split at h
    · rename_i hx
      simp only [Option.some.injEq] at h
      exact ⟨0,by simp,by simp [atI,hx],by simpa using h,fun j hj=>by omega⟩
    · rename_i hx
      obtain ⟨k,h1,h2,h3,h4⟩:=atI_some (n:=n + 1) h
      refine ⟨k + 1,by simp;omega,?_,by simpa using h3,fun j hj=>?_⟩
      · simp only [atI,if_neg hx,h2];omega
      · cases j with
        | zero=>simpa using hx
        | succ j=>simpa using h4 j (by omega)
theorem atI_split (A Z:List Cl) (o:Cl) (hA:∀ x∈A,x.1≠o.1):atI (A ++ o :: Z) o.1 0 = A.length:=by
  have key:∀ (A:List Cl) (n:Int),(∀ x∈A,x.1≠o.1)→atI (A ++ o :: Z) o.1 n = n + A.length:=by
    intro A
    induction A with
    | nil=>intro n _;simp [atI]
    | cons x A ih=>
      intro n h
      rw [List.cons_append,atI,if_neg (h x (by simp)),ih (n + 1) (fun y hy=>h y (by simp [hy]))]
      simp only [List.length_cons];omega
  have:=key A 0 hA
  omega
def putMid (x:Cl) (s:List Cl × Bool) (y:Cl):List Cl × Bool:=if (if (!s.2) = true then decide (y.1 > x.1) else false) = true then (s.1 ++ [x],true) else s
def putS (x:Cl) (s:List Cl × Bool) (y:Cl):List Cl × Bool:=((putMid x s y).1 ++ [y],(putMid x s y).2)
def putF (x:Cl) (c:List Cl):List Cl × Bool:=c.foldl (putS x) ([],false)
def putC (x:Cl) (c:List Cl):List Cl:=if (!(putF x c).2) = true then (putF x c).1 ++ [x] else (putF x c).1
theorem putF_len (x:Cl) (c:List Cl):(putF x c).1.length≤c.length + 1∧((putF x c).2 = false→(putF x c).1.length = c.length):=by
  have key:∀ (c:List Cl) (s:List Cl × Bool),((c.foldl (putS x) s).2 = false→s.2 = false∧(c.foldl (putS x) s).1.length = s.1.length + c.length)∧(c.foldl (putS x) s).1.length≤s.1.length + c.length + (if s.2 then 0 else 1):=by
    intro c
    induction c with
    | nil=>intro s;simp
    | cons y c ih=>
      intro s
      have h:=ih (putS x s y)
      simp only [List.foldl_cons,List.length_cons]
      have e0:((putMid x s y) = (s.1 ++ [x],true)∧s.2 = false)∨putMid x s y = s:=by
        unfold putMid
        by_cases hc:(if (!s.2) = true then decide (y.1 > x.1) else false) = true
        · rw [if_pos hc]
          left
          refine ⟨rfl,?_⟩
          cases hs:s.2 with
          | false=>rfl
          | true=>rw [hs] at hc;simp at hc
        · rw [if_neg hc];exact .inr rfl
      have e1:(putS x s y).2 = false→s.2 = false∧(putS x s y).1.length = s.1.length + 1:=by
        unfold putS
        rcases e0 with ⟨e,h0⟩|e <;> rw [e]
        · intro h1;cases h1
        · intro h1;exact ⟨h1,by simp⟩
      have e2:(putS x s y).1.length + (if (putS x s y).2 then 0 else 1)≤s.1.length + 1 + (if s.2 then 0 else 1):=by
        unfold putS
        rcases e0 with ⟨e,h0⟩|e <;> rw [e]
        · simp [h0]
        · simp
      refine ⟨fun h1=>?_,?_⟩
      · obtain ⟨h2,h3⟩:=h.1 h1
        obtain ⟨h4,h5⟩:=e1 h2
        exact ⟨h4,by omega⟩
      · have:=h.2
        omega
  have:=key c ([],false)
  simp only [List.length_nil,Bool.false_eq_true,if_false] at this
  unfold putF
  refine ⟨by omega,fun h=>by have:=(this.1 h).2;omega⟩
theorem put_eq (x:Cl) (A Z:List Cl) (hA:∀ y∈A,y.1 < x.1) (hZ:∀ y∈Z,x.1 < y.1):putC x (A ++ Z) = A ++ x :: Z:=by
  have hA':∀ (A:List Cl) (out:List Cl),(∀ y∈A,y.1 < x.1)→A.foldl (putS x) (out,false) = (out ++ A,false):=by
    intro A
    induction A with
    | nil=>intro out _;simp
    | cons y A ih=>
      intro out h
      have h1:=h y (by simp)
      rw [List.foldl_cons]
      have:putS x (out,false) y = (out ++ [y],false):=by
        unfold putS putMid
        have:¬ (x.1 < y.1):=by omega
        simp [this]
      rw [this,ih _ (fun z hz=>h z (by simp [hz]))]
      simp
  have hZ':∀ (Z:List Cl) (out:List Cl),Z.foldl (putS x) (out,true) = (out ++ Z,true):=by
    intro Z
    induction Z with
    | nil=>intro out;simp
    | cons y Z ih=>
      intro out
      rw [List.foldl_cons]
      have:putS x (out,true) y = (out ++ [y],true):=by
        unfold putS putMid
        simp
      rw [this,ih]
      simp
  unfold putC putF
  rw [List.foldl_append,hA' A [] hA]
  cases Z with
  | nil=>simp
  | cons y Z=>
    have h1:=hZ y (by simp)
    rw [List.foldl_cons]
    have:putS x ([] ++ A,false) y = (A ++ [x] ++ [y],true):=by
      unfold putS putMid
      have:x.1 < y.1:=by omega
      simp [this]
    rw [this,hZ']
    simp
abbrev runB (c:List Cl) (i k:Nat):List Int:=((c.drop i).take (k - i)).map (·.2.1)
abbrev runP (c:List Cl) (i k:Nat):Pc:=((c.getD i cD).1,strOfNums (runB c i k),(c.getD i cD).2.2.1,(c.getD i cD).2.2.2.1,())
def Brk (c:List Cl) (i:Nat):Prop:=i < c.length→joinP (J (c.take i)) (one (c.getD i cD)) = J (c.take i) ++ [one (c.getD i cD)]
def Run (c:List Cl) (i k:Nat):Prop:=i≤k∧k≤c.length∧(i < k→J (c.take k) = J (c.take i) ++ [runP c i k])
theorem runB_len {c:List Cl} {i k:Nat} (h1:i≤k) (h2:k≤c.length):(runB c i k).length = k - i:=by
  simp [runB];omega
theorem runB_next {c:List Cl} {i k:Nat} (h1:i≤k) (h2:k < c.length):runB c i (k + 1) = runB c i k ++ [(c.getD k cD).2.1]:=by
  unfold runB
  have e:k + 1 - i = (k - i) + 1:=by omega
  have hl:k - i < (c.drop i).length:=by rw [List.length_drop];omega
  rw [e,take_getD cD hl,List.map_append]
  have:(c.drop i).getD (k - i) cD = c.getD k cD:=by
    simp only [List.getD_eq_getElem?_getD,List.getElem?_drop]
    congr 2;omega
  rw [this];rfl
def runC (c:List Cl) (i k:Nat):Bool:=
  if (if (if decide ((k:Int) < (c.length:Int)) = true then decide ((c.getD k cD).1 = IntKind.i64.wrap (IntKind.i64.wrap ((c.getD i cD).1 + k) - i)) else false) = true then decide ((c.getD k cD).2.2.1 = (c.getD i cD).2.2.1) else false) = true then decide ((c.getD k cD).2.2.2.1 = (c.getD i cD).2.2.2.1) else false
def SmallC (c:List Cl):Prop:=(∀ x∈c,0≤x.1∧x.1≤8589934592)∧c.length≤1099511627776
theorem SmallC.at {c:List Cl} (h:SmallC c) {i:Nat} (hi:i < c.length):0≤(c.getD i cD).1∧(c.getD i cD).1≤8589934592:=h.1 _ (getD_mem hi)
theorem runC_iff {c:List Cl} (h:SmallC c) {i k:Nat} (hi:i < c.length) (hk:k≤c.length):runC c i k = true ↔ k < c.length∧(c.getD k cD).1 = (c.getD i cD).1 + k - i∧(c.getD k cD).2.2.1 = (c.getD i cD).2.2.1∧(c.getD k cD).2.2.2.1 = (c.getD i cD).2.2.2.1:=by
  have h1:=h.at hi
  have h2:=h.2
  have w1:IntKind.i64.wrap ((c.getD i cD).1 + k) = (c.getD i cD).1 + k:=wrapId (by omega)
  have w2:IntKind.i64.wrap ((c.getD i cD).1 + k - i) = (c.getD i cD).1 + k - i:=wrapId (by omega)
  unfold runC
  rw [w1,w2]
  by_cases hk':(k:Int) < (c.length:Int)
  · simp [hk',and_assoc]
    omega
  · simp [hk']
    omega
theorem run_here {c:List Cl} (h:SmallC c) {i:Nat} (hi:i < c.length):runC c i i = true:=(runC_iff h hi (by omega)).2 ⟨hi,by omega,rfl,rfl⟩
theorem run_start (c:List Cl) {i:Nat} (hi:i≤c.length):Run c i i:=⟨Nat.le_refl _,hi,fun h=>absurd h (by omega)⟩
theorem run_next {c:List Cl} (h:SmallC c) {i k:Nat} (hb:Brk c i) (hr:Run c i k) (hi:i < c.length) (hc:runC c i k = true):Run c i (k + 1)∧k < c.length:=by
  obtain ⟨h1,h2,h3⟩:=hr
  obtain ⟨q1,q2,q3,q4⟩:=(runC_iff h hi h2).1 hc
  refine ⟨⟨by omega,by omega,fun _=>?_⟩,q1⟩
  rw [take_getD cD q1,J_snoc]
  rcases Nat.lt_or_ge i k with hik|hik
  · rw [h3 hik,joinP_snoc,if_pos]
    · show _ ++ [(_,strOfNums (runB c i k) ++ [Fw.byteOf (c.getD k cD).2.1],(c.getD k cD).2.2.1,(c.getD k cD).2.2.2.1,())] = _
      rw [q3,q4]
      unfold runP
      rw [runB_next h1 q1]
      simp
    · refine ⟨?_,q3.symm,q4.symm⟩
      show (c.getD i cD).1 + ((strOfNums (runB c i k)).length:Int) = (c.getD k cD).1
      rw [strOf_size,runB_len h1 h2]
      omega
  · obtain rfl:i = k:=by omega
    rw [hb hi]
    congr 2
    unfold runP
    rw [runB_next (Nat.le_refl _) hi]
    simp [one]
theorem run_end {c:List Cl} (h:SmallC c) {i k:Nat} (hr:Run c i k) (hi:i < c.length) (hc:runC c i k = false):i < k∧J (c.take k) = J (c.take i) ++ [runP c i k]∧Brk c k:=by
  obtain ⟨h1,h2,h3⟩:=hr
  have hik:i < k:=by
    rcases Nat.lt_or_ge i k with hik|hik
    · exact hik
    · obtain rfl:i = k:=by omega
      rw [run_here h hi] at hc
      cases hc
  refine ⟨hik,h3 hik,fun hk=>?_⟩
  rw [h3 hik,joinP_snoc,if_neg]
  · simp
  · rintro ⟨q1,q2,q3⟩
    have q1':(c.getD i cD).1 + ((strOfNums (runB c i k)).length:Int) = (c.getD k cD).1:=q1
    rw [strOf_size,runB_len h1 h2] at q1'
    have:runC c i k = true:=(runC_iff h hi h2).2 ⟨hk,by omega,q2.symm,q3.symm⟩
    rw [this] at hc
    cases hc
theorem J_len:∀ (c:List Cl),(J c).length≤c.length:=by
  intro c
  have hj:∀ (l:List Pc) (p:Pc),(joinP l p).length≤l.length + 1:=by
    intro l p
    rcases List.eq_nil_or_concat l with rfl|⟨l',q,hl'⟩
    · simp [joinP]
    · rw [List.concat_eq_append] at hl'
      subst hl'
      rw [joinP_snoc]
      split <;> simp
  have key:∀ (c:List Cl) (l:List Pc),((c.map one).foldl joinP l).length≤l.length + c.length:=by
    intro c
    induction c with
    | nil=>intro l;simp
    | cons x c ih=>
      intro l
      rw [List.map_cons,List.foldl_cons]
      have h1:=ih (joinP l (one x))
      have h2:=hj l (one x)
      simp only [List.length_cons]
      omega
  have:=key c []
  simpa [J] using this
end Go.Ov
namespace Go.Ov
open Go Go.Fw
theorem partP_size (p:Pc) (x y:Int) (h0:p.1≤x) (h1:x≤y) (h2:y≤p.1 + p.2.1.length):((partP p x y).2.1.length:Int) = y - x:=by
  show (((p.2.1.take (y - p.1).toNat).drop (x - p.1).toNat).length:Int) = _
  rw [List.length_drop,List.length_take]
  omega
theorem bt_extract (d:List UInt8) (a b:Nat) (i:Int) (h0:0≤i) (h1:i.toNat < b - a):bt ((d.take b).drop a) i = bt d (i + a):=by
  unfold bt
  simp only [List.getD_eq_getElem?_getD,List.getElem?_drop,List.getElem?_take]
  rw [if_pos (by omega)]
  congr 4
  omega
theorem atC_partP (p:Pc) (x y:Int) (h0:p.1≤x) (h1:x≤y) (h2:y≤p.1 + p.2.1.length) (a:Int) :
    atC (cellsOf (partP p x y)) a = if x≤a∧a < y then some (a,bt p.2.1 (a - p.1),p.2.2.1,p.2.2.2.1,()) else none:=by
  rw [atC_cellsOf,partP_size p x y h0 h1 h2]
  show (if x≤a∧a < x + (y - x) then some ((a,bt ((p.2.1.take (y - p.1).toNat).drop (x - p.1).toNat) (a - x),p.2.2.1,p.2.2.2.1,()):Cl) else none) = _
  by_cases h:x≤a∧a < y
  · rw [if_pos (by omega),if_pos h,bt_extract _ _ _ _ (by omega) (by omega)]
    have e:a - x + ((x - p.1).toNat:Int) = a - p.1:=by omega
    rw [e]
  · rw [if_neg (by omega),if_neg h]
def VB:Int→List Pc→Prop
  | _,[]=>True
  | E,o :: l=>o.2.1.length≠0∧E≤o.1∧o.1 + (o.2.1.length:Int)≤4294967296∧VB (o.1 + o.2.1.length) l
theorem VB_cells:∀ {l:List Pc} {E:Int},VB E l→Sorted (cells l)∧∀ x∈cells l,E≤x.1∧x.1 < 4294967296∧0≤x.2.1∧x.2.1≤255
  | [],E,_=>⟨List.Pairwise.nil,by simp [cells]⟩
  | o :: l,E,⟨h0,h1,h2,h3⟩=>by
    obtain ⟨h4,h5⟩:=VB_cells h3
    rw [cells_cons]
    refine ⟨List.pairwise_append.2 ⟨sorted_cellsOf o,h4,fun x hx y hy=>?_⟩,fun x hx=>?_⟩
    · have:=mem_cellsOf hx
      have:=h5 y hy
      omega
    · rcases List.mem_append.1 hx with hx|hx
      · have h6:=mem_cellsOf hx
        exact ⟨by omega,by omega,h6.2.2.1⟩
      · have h6:=h5 x hx
        exact ⟨by omega,h6.2⟩
def winF (pol f t nf nt:Int):Bool:=winsB pol (0,[],f,t,()) (0,[],nf,nt,())
def newC (P:Pc) (a:Int):Cl:=(a,bt P.2.1 (a - P.1),P.2.2.1,P.2.2.2.1,())
def pick (c:List Cl) (pol:Int) (P:Pc) (a:Int):Cl:=match atC c a with
  | none=>newC P a
  | some o=>if winF pol o.2.2.1 o.2.2.2.1 P.2.2.1 P.2.2.2.1 then newC P a else o
def look (c:List Cl) (pol:Int) (P:Pc) (a:Int):Option Cl:=if P.1≤a∧a < P.1 + P.2.1.length then some (pick c pol P a) else atC c a
def cfB (c:List Cl) (P:Pc) (a:Int):Bool:=match atC c a with
  | none=>false
  | some o=>!(o.2.1 == bt P.2.1 (a - P.1))
def covB (c:List Cl) (a:Int):Bool:=(atC c a).isSome
structure MOk (m:List Cl):Prop where
  hm:Sorted m
  hmr:∀ x∈m,(0≤x.1∧x.1≤8589934592)∧0≤x.2.1∧x.2.1≤255
  hml:m.length≤1099511627776
def lo (c:List Cl) (P:Pc):List Cl:=c.filter (fun x=>decide (x.1 < P.1))
def hi_ (c:List Cl) (P:Pc) (i:Int):List Cl:=c.filter (fun x=>decide (P.1 + i≤x.1))
def mid (c:List Cl) (pol:Int) (P:Pc) (i:Nat):List Cl:=(List.range i).map (fun k:Nat=>pick c pol P (P.1 + (k:Int)))
def mrg (c:List Cl) (pol:Int) (P:Pc) (i:Nat):List Cl:=lo c P ++ mid c pol P i ++ hi_ c P i
theorem pick_f0 (c:List Cl) (pol:Int) (P:Pc) (a:Int):(pick c pol P a).1 = a:=by
  unfold pick
  cases h:atC c a with
  | none=>rfl
  | some o=>
    simp only
    split
    · rfl
    · exact (atC_some h).2
theorem mid_succ (c:List Cl) (pol:Int) (P:Pc) (i:Nat):mid c pol P (i + 1) = mid c pol P i ++ [pick c pol P (P.1 + (i:Int))]:=by simp [mid,List.range_succ]
theorem mem_mid {c:List Cl} {pol:Int} {P:Pc} {i:Nat} {x:Cl} (h:x∈mid c pol P i):P.1≤x.1∧x.1 < P.1 + i:=by
  simp only [mid,List.mem_map,List.mem_range] at h
  obtain ⟨k,hk,rfl⟩:=h
  rw [pick_f0]
  omega
theorem mem_lo {c:List Cl} {P:Pc} {x:Cl} (h:x∈lo c P):x∈c∧x.1 < P.1:=by simpa [lo] using h
theorem mem_hi {c:List Cl} {P:Pc} {i:Int} {x:Cl} (h:x∈hi_ c P i):x∈c∧P.1 + i≤x.1:=by simpa [hi_] using h
theorem sorted_mid (c:List Cl) (pol:Int) (P:Pc):∀ i,Sorted (mid c pol P i)
  | 0=>List.Pairwise.nil
  | i + 1=>by
    rw [mid_succ]
    refine List.pairwise_append.2 ⟨sorted_mid c pol P i,List.pairwise_singleton _ _,fun x hx y hy=>?_⟩
    have:=mem_mid hx
    simp only [List.mem_singleton] at hy
    subst hy
    rw [pick_f0]
    exact this.2
theorem sorted_mrg {c:List Cl} (hs:Sorted c) (pol:Int) (P:Pc) (i:Nat):Sorted (mrg c pol P i):=by
  refine List.pairwise_append.2 ⟨List.pairwise_append.2 ⟨sorted_filter hs _,sorted_mid c pol P i,fun x hx y hy=>?_⟩,sorted_filter hs _,fun x hx y hy=>?_⟩
  · have:=mem_lo hx
    have:=mem_mid hy
    omega
  · have h2:=mem_hi hy
    rcases List.mem_append.1 hx with hx|hx
    · have:=mem_lo hx
      omega
    · have:=mem_mid hx
      omega
theorem atC_mid (c:List Cl) (pol:Int) (P:Pc) (a:Int):∀ i:Nat,atC (mid c pol P i) a = if P.1≤a∧a < P.1 + i then some (pick c pol P a) else none
  | 0=>by
    rw [if_neg (by omega)]
    rfl
  | i + 1=>by
    rw [mid_succ,atC_append,atC_mid c pol P a i]
    by_cases h:P.1≤a∧a < P.1 + i
    · rw [if_pos h,if_pos (by omega)]
      rfl
    · rw [if_neg h]
      by_cases h2:P.1 + (i:Int) = a
      · rw [if_pos (by omega)]
        subst h2
        simp [atC,pick_f0]
      · rw [if_neg (by omega),atC_none (fun x hx=>by
          simp only [List.mem_singleton] at hx
          subst hx
          rw [pick_f0]
          exact h2)]
        rfl
theorem atC_mrg {c:List Cl} (hs:Sorted c) (pol:Int) (P:Pc) (a:Int):atC (mrg c pol P P.2.1.length) a = look c pol P a:=by
  have h1:atC (lo c P) a = if decide (a < P.1) then atC c a else none:=atC_filter hs (fun b=>decide (b < P.1)) a
  have h2:atC (hi_ c P P.2.1.length) a = if decide (P.1 + (P.2.1.length:Int)≤a) then atC c a else none:=atC_filter hs (fun b=>decide (P.1 + (P.2.1.length:Int)≤b)) a
  rw [mrg,atC_append,atC_append,h1,h2,atC_mid,look]
  by_cases h3:a < P.1
  · have e1:¬(P.1≤a∧a < P.1 + (P.2.1.length:Int)):=by omega
    have e2:¬(P.1 + (P.2.1.length:Int)≤a):=by omega
    simp [h3,e1,e2]
  · by_cases h4:a < P.1 + P.2.1.length
    · have e1:P.1≤a∧a < P.1 + (P.2.1.length:Int):=by omega
      simp [h3,e1.1,e1.2]
    · have e1:¬(P.1≤a∧a < P.1 + (P.2.1.length:Int)):=by omega
      have e2:P.1 + (P.2.1.length:Int)≤a:=by omega
      rw [if_neg e1]
      simp [h3,e2]
      omega
theorem len_mrg (c:List Cl) (hs:Sorted c) (pol:Int) (P:Pc) (i:Nat):(lo c P ++ mid c pol P i).length + (hi_ c P i).length≤c.length + i:=by
  have h3:(lo c P).length + (hi_ c P i).length≤c.length:=by
    have h1:(lo c P).length = c.countP (fun x=>decide (x.1 < P.1)):=by rw [lo,List.countP_eq_length_filter]
    have h2:(hi_ c P i).length≤c.countP (fun x=>!decide (x.1 < P.1)):=by
      rw [hi_,← List.countP_eq_length_filter]
      exact List.countP_mono_left (fun x _ h=>by simp at h ⊢;omega)
    have h4:=List.length_eq_countP_add_countP (fun x:Cl=>decide (x.1 < P.1)) (l:=c)
    simp only [Bool.not_eq_true,Bool.decide_eq_false] at h4
    omega
  simp only [List.length_append,mid,List.length_map,List.length_range]
  omega
theorem hi_none {c:List Cl} (hs:Sorted c) (P:Pc) (i:Nat) (h:atC c (P.1 + i) = none):hi_ c P (i:Int) = hi_ c P ((i + 1:Nat):Int):=by
  unfold hi_
  refine List.filter_congr (fun x hx=>?_)
  have:x.1≠P.1 + i:=fun e=>by
    have:=atC_mem hs hx
    rw [e,h] at this
    cases this
  simp only [decide_eq_decide]
  omega
theorem hi_some {c:List Cl} (hs:Sorted c) (P:Pc) (i:Nat) {o:Cl} (h:atC c (P.1 + i) = some o):hi_ c P (i:Int) = o :: hi_ c P ((i + 1:Nat):Int):=by
  have ho:=atC_some h
  have hsh:Sorted (hi_ c P ((i + 1:Nat):Int)):=sorted_filter hs _
  refine sorted_ext (sorted_filter hs _) (List.pairwise_cons.2 ⟨fun y hy=>?_,hsh⟩) (fun a=>?_)
  · have:=(mem_hi hy).2
    omega
  · have h1:atC (hi_ c P (i:Int)) a = if decide (P.1 + (i:Int)≤a) then atC c a else none:=atC_filter hs (fun b=>decide (P.1 + (i:Int)≤b)) a
    have h2:atC (hi_ c P ((i + 1:Nat):Int)) a = if decide (P.1 + ((i + 1:Nat):Int)≤a) then atC c a else none:=atC_filter hs (fun b=>decide (P.1 + ((i + 1:Nat):Int)≤b)) a
    rw [h1,show atC (o :: hi_ c P ((i + 1:Nat):Int)) a = if o.1 = a then some o else atC (hi_ c P ((i + 1:Nat):Int)) a from rfl,h2]
    by_cases h3:o.1 = a
    · rw [if_pos h3,if_pos (by simp;omega)]
      rw [← h3,ho.2]
      exact h
    · rw [if_neg h3]
      by_cases h4:P.1 + (i:Int)≤a
      · rw [if_pos (by simpa using h4),if_pos (by simp;omega)]
      · rw [if_neg (by simpa using h4),if_neg (by simp;omega)]
end Go.Ov
namespace Go.Ov
open Go Go.Fw
theorem joinL_eq (l:List Pc) (p:Pc):joinL l p = joinP l p:=by
  rcases List.eq_nil_or_concat l with rfl|⟨l',q,hl'⟩
  · simp [joinL,joins,joinP]
  · rw [List.concat_eq_append] at hl'
    subst hl'
    rw [joinP_snoc]
    have e1:lastP (l' ++ [q]) = q:=by simp [lastP,List.getD_eq_getElem?_getD]
    have e2:(l' ++ [q]).take ((l' ++ [q]).length - 1) = l':=by simp
    by_cases h:q.1 + (q.2.1.length:Int) = p.1∧q.2.2.1 = p.2.2.1∧q.2.2.2.1 = p.2.2.2.1
    · have hj:joins (l' ++ [q]) p = true:=by
        unfold joins
        rw [e1]
        simp [endP,pa,pd,pf,pt,h.1,h.2.1,h.2.2]
      rw [joinL,if_pos hj,if_pos h,e1,e2]
    · have hj:¬ joins (l' ++ [q]) p = true:=by
        unfold joins
        rw [e1]
        simp only [endP,pa,pd,pf,pt,Bool.and_eq_true,decide_eq_true_eq]
        exact fun hh=>h ⟨of_decide_eq_true hh.2.1,hh.2.2⟩
      rw [joinL,if_neg hj,if_neg h]
      simp
theorem push {m:List Cl} (hm:Sorted m) {E F':Int} (q:Pc) (hq0:q.2.1.length≠0) (hin:E≤q.1∧q.1 + (q.2.1.length:Int)≤F') (h:∀ a,E≤a→a < F'→atC m a = atC (cellsOf q) a) :
    joinL (J (upto m E)) q = J (upto m F'):=by
  rw [joinL_eq,upto_step hm (sorted_cellsOf q) (by omega) (fun x hx=>by have:=mem_cellsOf hx;omega) h,J_append,fold_piece _ _ hq0]
theorem push_part {m:List Cl} (hm:Sorted m) {E F':Int} (o:Pc) (x y:Int) (h0:o.1≤x) (h1:x < y) (h2:y≤o.1 + o.2.1.length) (hin:E≤x∧y≤F') (h:∀ a,E≤a→a < F'→atC m a = if x≤a∧a < y then some (a,bt o.2.1 (a - o.1),o.2.2.1,o.2.2.2.1,()) else none) :
    joinL (J (upto m E)) (partP o x y) = J (upto m F'):=by
  have hsz:=partP_size o x y h0 (by omega) h2
  exact push hm (partP o x y) (by omega) ⟨hin.1,by rw [hsz];show x + (y - x)≤F';omega⟩ (fun a ha hb=>by rw [h a ha hb,atC_partP o x y h0 (by omega) h2])
structure IOk (m:List Cl) (l:List Pc) (pol:Int) (P:Pc):Prop where
  hm:Sorted m
  hPs:P.2.1.length≠0
  hPf:P.2.2.2.1 = P.1 + P.2.1.length
  hlook:∀ a,atC m a = look (cells l) pol P a
theorem gap_part {m:List Cl} {l:List Pc} {pol:Int} {P:Pc} (I:IOk m l pol P) {E x y:Int} (hx:P.1≤x) (hxy:x < y) (hy:y≤P.2.2.2.1) (hEx:E≤x) (hE:∀ a,E≤a→a < x→a < P.1) (hc:∀ a,E≤a→a < y→atC (cells l) a = none) :
    joinL (J (upto m E)) (partP P x y) = J (upto m y):=by
  obtain ⟨hm,hPs,hPf,hlook⟩:=id I
  refine push_part hm P x y hx hxy (by omega) ⟨hEx,Int.le_refl _⟩ (fun a ha hb=>?_)
  rw [hlook,look,pick,hc a ha hb]
  by_cases h:P.1≤a
  · have:x≤a:=by
      by_cases h2:a < x
      · have:=hE a ha h2
        omega
      · omega
    rw [if_pos (by omega),if_pos (by omega)]
    rfl
  · rw [if_neg (by omega),if_neg (by omega)]
theorem m_beyond {m:List Cl} {l:List Pc} {pol:Int} {P:Pc} (I:IOk m l pol P) {E:Int} (hE:∀ a,E≤a→atC (cells l) a = none) (F:Int) (h1:E≤F) (h2:P.2.2.2.1≤F):upto m F = m:=upto_all (fun x hx=>by
  have h1:=atC_mem I.hm hx
  have hPf:=I.hPf
  rw [I.hlook,look] at h1
  by_cases h2:P.1≤x.1∧x.1 < P.1 + P.2.1.length
  · omega
  · rw [if_neg h2] at h1
    by_cases h3:E≤x.1
    · rw [hE _ h3] at h1
      cases h1
    · omega)
abbrev XE (P:Pc) (E:Int):Int:=max P.1 (min E P.2.2.2.1)
theorem fill_eq {m:List Cl} {l:List Pc} {pol:Int} {P:Pc} (I:IOk m l pol P) (E:Int) (hE:∀ a,E≤a→atC (cells l) a = none) (conf cov:Int):(insFill P ⟨J (upto m E),conf,cov,XE P E⟩).out = J m:=by
  obtain ⟨hm,hPs,hPf,hlook⟩:=id I
  have hxe:XE P E = max P.1 (min E P.2.2.2.1):=rfl
  by_cases h:XE P E < P.2.2.2.1
  · have hall:upto m P.2.2.2.1 = m:=m_beyond I hE P.2.2.2.1 (by omega) (Int.le_refl _)
    have hg:=gap_part I (E:=E) (x:=XE P E) (y:=P.2.2.2.1) (by omega) h (Int.le_refl _) (by omega) (fun a h1 h2=>by omega) (fun a h1 h2=>hE a h1)
    have e:insFill P ⟨J (upto m E),conf,cov,XE P E⟩ = ⟨joinL (J (upto m E)) (partP P (XE P E) (pt P)),conf,cov,pt P⟩:=if_pos h
    rw [e]
    show joinL (J (upto m E)) (partP P (XE P E) P.2.2.2.1) = J m
    rw [hg,hall]
  · have e:insFill P ⟨J (upto m E),conf,cov,XE P E⟩ = ⟨J (upto m E),conf,cov,XE P E⟩:=if_neg h
    rw [e]
    show J (upto m E) = J m
    rw [m_beyond I hE E (Int.le_refl _) (by omega)]
theorem rest_eq {m:List Cl} {l:List Pc} {pol:Int} {P:Pc} (I:IOk m l pol P):∀ (l2:List Pc) (E:Int),VB E l2→P.2.2.2.1≤E→(∀ a,E≤a→atC (cells l) a = atC (cells l2) a)→
    l2.foldl joinL (J (upto m E)) = J m
  | [],E,hv,hE,hc=>by
    rw [List.foldl_nil,m_beyond I (fun a ha=>by rw [hc a ha];rfl) E (Int.le_refl _) hE]
  | o :: l2,E,hv,hE,hc=>by
    obtain ⟨hm,hPs,hPf,hlook⟩:=id I
    obtain ⟨hv0,hv1,hv2,hv3⟩:=hv
    have ih:=rest_eq I l2 (o.1 + o.2.1.length) hv3 (by omega) (fun a ha=>by
      rw [hc a (by omega),cells_cons,atC_append,atC_cellsOf,if_neg (by omega)]
      simp)
    have hpush:=push hm (E:=E) (F':=o.1 + o.2.1.length) o hv0 ⟨hv1,Int.le_refl _⟩ (fun a ha hb=>by
      rw [hlook,look,if_neg (by omega),hc a ha,cells_cons,atC_append]
      rw [atC_none (c:=cells l2) (fun x hx=>by have:=((VB_cells hv3).2 x hx).1;omega)]
      simp)
    rw [List.foldl_cons,hpush,ih]
theorem atC_head {c:List Cl} {o:Pc} {l2:List Pc} {E:Int} (hv:VB E (o :: l2)) (hc:∀ a,E≤a→atC c a = atC (cells (o :: l2)) a) :
    (∀ a,E≤a→a < o.1→atC c a = none)∧(∀ a,o.1≤a→a < o.1 + o.2.1.length→atC c a = some (a,bt o.2.1 (a - o.1),o.2.2.1,o.2.2.2.1,()))∧(∀ a,o.1 + (o.2.1.length:Int)≤a→atC c a = atC (cells l2) a):=by
  obtain ⟨hv0,hv1,hv2,hv3⟩:=hv
  have hn:∀ a,a < o.1 + o.2.1.length→atC (cells l2) a = none:=fun a ha=>atC_none (fun x hx=>by have:=((VB_cells hv3).2 x hx).1;omega)
  refine ⟨fun a h1 h2=>?_,fun a h1 h2=>?_,fun a h1=>?_⟩
  · rw [hc a h1,cells_cons,atC_append,atC_cellsOf,if_neg (by omega),hn a (by omega)]
    rfl
  · rw [hc a (by omega),cells_cons,atC_append,atC_cellsOf,if_pos ⟨h1,h2⟩]
    rfl
  · rw [hc a (by omega),cells_cons,atC_append,atC_cellsOf,if_neg (by omega)]
    rfl
theorem cnt_gap {f:Int→Bool} {P:Pc} {E F:Int} (h1:P.1≤XE P E) (h2:XE P E≤F) (h:∀ x,XE P E≤x→x < F→f x = false):cnt f P.1 F = cnt f P.1 (XE P E):=by
  rw [cnt_add _ (a:=P.1) (b:=XE P E) (c:=F) h1 h2,cnt_false (a:=XE P E) (b:=F) h]
  omega
theorem differN_cnt (s t:List UInt8) (n:Nat):(differN s t n:Int) = (cnt (fun x=>!(bt s x == bt t x)) 0 n:Nat):=by
  unfold differN cnt
  rw [List.countP_eq_length_filter]
  have e:((n:Int) - 0).toNat = n:=by omega
  rw [e]
  congr 2
  refine List.filter_congr (fun i _=>?_)
  simp only [Int.zero_add,bt,toNat_cast]
  generalize ((s.getD i 0).toNat:Int) = u
  generalize ((t.getD i 0).toNat:Int) = v
  by_cases h:u = v <;> simp [h]
theorem insCut_eq {l:List Pc} {P o:Pc} {f t:Int} (h1:o.1≤f) (h2:P.1≤f) (h3:f≤t) (h4:t≤o.1 + o.2.1.length) (h5:t≤P.1 + P.2.1.length)
    (hin:∀ a,o.1≤a→a < o.1 + o.2.1.length→atC (cells l) a = some (a,bt o.2.1 (a - o.1),o.2.2.1,o.2.2.2.1,())) :
    (differN (pd (partP o f t)) (pd (partP P f t)) (pd (partP o f t)).length:Int) = (cnt (cfB (cells l) P) f t:Nat):=by
  have hs:=partP_size o f t h1 h3 h4
  rw [differN_cnt]
  have e0:(((pd (partP o f t)).length:Nat):Int) = t - f:=hs
  rw [e0]
  have e2:cnt (cfB (cells l) P) f t = cnt (fun x=>cfB (cells l) P (x + f)) 0 (t - f):=by
    rw [cnt_shift]
    congr 1 <;> omega
  rw [e2]
  congr 1
  refine cnt_congr (fun x q1 q2=>?_)
  simp only [cfB]
  rw [hin (x + f) (by omega) (by omega)]
  show (!(bt ((o.2.1.take (t - o.1).toNat).drop (f - o.1).toNat) x == bt ((P.2.1.take (t - P.1).toNat).drop (f - P.1).toNat) x)) = !(bt o.2.1 (x + f - o.1) == bt P.2.1 (x + f - P.1))
  rw [bt_extract _ _ _ _ q1 (by omega),bt_extract _ _ _ _ q1 (by omega)]
  have e3:x + f - o.1 = x + ((f - o.1).toNat:Int):=by omega
  have e4:x + f - P.1 = x + ((f - P.1).toNat:Int):=by omega
  rw [e3,e4]
theorem loop_eq {m:List Cl} {l:List Pc} {pol:Int} {P:Pc} (I:IOk m l pol P):∀ (l2:List Pc) (E:Int),VB E l2→(∀ a,E≤a→atC (cells l) a = atC (cells l2) a)→
    (insFill P (insLoop pol P l2 ⟨J (upto m E),(cnt (cfB (cells l) P) P.1 (XE P E):Nat),(cnt (covB (cells l)) P.1 (XE P E):Nat),XE P E⟩)).out = J m∧
    (insLoop pol P l2 ⟨J (upto m E),(cnt (cfB (cells l) P) P.1 (XE P E):Nat),(cnt (covB (cells l)) P.1 (XE P E):Nat),XE P E⟩).conf = (cnt (cfB (cells l) P) P.1 P.2.2.2.1:Nat)∧
    (insLoop pol P l2 ⟨J (upto m E),(cnt (cfB (cells l) P) P.1 (XE P E):Nat),(cnt (covB (cells l)) P.1 (XE P E):Nat),XE P E⟩).cov = (cnt (covB (cells l)) P.1 P.2.2.2.1:Nat)
  | [],E,hv,hc=>by
    have hPf:=I.hPf
    have hxe:XE P E = max P.1 (min E P.2.2.2.1):=rfl
    have hnone:∀ a,E≤a→atC (cells l) a = none:=fun a ha=>by rw [hc a ha];rfl
    refine ⟨fill_eq I E hnone _ _,?_,?_⟩
    · show ((cnt (cfB (cells l) P) P.1 (XE P E):Nat):Int) = _
      rw [cnt_gap (E:=E) (F:=P.2.2.2.1) (by omega) (by omega) (fun x h1 h2=>by simp only [cfB];rw [hnone x (by omega)])]
    · show ((cnt (covB (cells l)) P.1 (XE P E):Nat):Int) = _
      rw [cnt_gap (E:=E) (F:=P.2.2.2.1) (by omega) (by omega) (fun x h1 h2=>by simp only [covB];rw [hnone x (by omega)];rfl)]
  | o :: l2,E,hv,hc=>by
    obtain ⟨hm,hPs,hPf,hlook⟩:=id I
    obtain ⟨hgap,hin,hbeh⟩:=atC_head hv hc
    obtain ⟨hv0,hv1,hv2,hv3⟩:=id hv
    have ih:=loop_eq I l2 (o.1 + o.2.1.length) hv3 hbeh
    have hxe:XE P E = max P.1 (min E P.2.2.2.1):=rfl
    by_cases h1:o.1 + (o.2.1.length:Int)≤P.1
    · have hpush:=push hm (E:=E) (F':=o.1 + o.2.1.length) o hv0 ⟨hv1,Int.le_refl _⟩ (fun a ha hb=>by
        rw [hlook,look,if_neg (by omega)]
        by_cases h:o.1≤a
        · rw [hin a h hb,atC_cellsOf,if_pos ⟨h,hb⟩]
        · rw [hgap a ha (by omega),atC_cellsOf,if_neg (by omega)])
      have ea:XE P (o.1 + (o.2.1.length:Int)) = XE P E:=by simp only [XE];omega
      rw [ea,← hpush] at ih
      rw [insLoop,if_pos (show endP o≤pa P from h1)]
      exact ih
    by_cases h2:P.2.2.2.1≤o.1
    · have e1:cnt (cfB (cells l) P) P.1 P.2.2.2.1 = cnt (cfB (cells l) P) P.1 (XE P E):=cnt_gap (by omega) (by omega) (fun x h1 h2=>by simp only [cfB];rw [hgap x (by omega) (by omega)])
      have e2:cnt (covB (cells l)) P.1 P.2.2.2.1 = cnt (covB (cells l)) P.1 (XE P E):=cnt_gap (by omega) (by omega) (fun x h1 h2=>by simp only [covB];rw [hgap x (by omega) (by omega)];rfl)
      rw [e1,e2,insLoop,if_neg (show ¬ endP o≤pa P from h1),if_pos (show pa o≥pt P from h2)]
      refine ⟨?_,rfl,rfl⟩
      have fin:∀ s:Ins,s.at_≥P.2.2.2.1→insFill P s = s:=fun s hs=>if_neg (by show ¬ s.at_ < P.2.2.2.1;omega)
      by_cases h3:XE P E < P.2.2.2.1
      · have hg:=gap_part I (E:=E) (x:=XE P E) (y:=P.2.2.2.1) (by omega) h3 (Int.le_refl _) (by omega) (fun a h1 h2=>by omega) (fun a h1 h2=>hgap a h1 (by omega))
        have e:insFill P ⟨J (upto m E),(cnt (cfB (cells l) P) P.1 (XE P E):Nat),(cnt (covB (cells l)) P.1 (XE P E):Nat),XE P E⟩ = ⟨joinL (J (upto m E)) (partP P (XE P E) (pt P)),(cnt (cfB (cells l) P) P.1 (XE P E):Nat),(cnt (covB (cells l)) P.1 (XE P E):Nat),pt P⟩:=if_pos h3
        rw [e,fin _ (Int.le_refl _)]
        show (o :: l2).foldl joinL (joinL (J (upto m E)) (partP P (XE P E) P.2.2.2.1)) = J m
        rw [hg]
        exact rest_eq I (o :: l2) P.2.2.2.1 ⟨hv0,h2,hv2,hv3⟩ (Int.le_refl _) (fun a ha=>hc a (by omega))
      · have e:insFill P ⟨J (upto m E),(cnt (cfB (cells l) P) P.1 (XE P E):Nat),(cnt (covB (cells l)) P.1 (XE P E):Nat),XE P E⟩ = ⟨J (upto m E),(cnt (cfB (cells l) P) P.1 (XE P E):Nat),(cnt (covB (cells l)) P.1 (XE P E):Nat),XE P E⟩:=if_neg h3
        rw [e,fin _ (by show XE P E≥_;omega)]
        exact rest_eq I (o :: l2) E hv (by omega) hc
    rw [insLoop,if_neg (show ¬ endP o≤pa P from h1),if_neg (show ¬ pa o≥pt P by show ¬ o.1≥P.2.2.2.1;omega)]
    have hfr:frP P o = max o.1 P.1:=rfl
    have hto:toP P o = min (o.1 + (o.2.1.length:Int)) P.2.2.2.1:=rfl
    have hxo:XE P (o.1 + (o.2.1.length:Int)) = toP P o:=by rw [hto];simp only [XE];omega
    have s1:ins1 P o (J (upto m E)) = J (upto m (if o.1 < P.1 then frP P o else E)):=by
      by_cases h6:o.1 < P.1
      · rw [if_pos h6,ins1,if_pos (show pa o < frP P o by show o.1 < frP P o;omega)]
        refine push_part hm o o.1 (frP P o) (Int.le_refl _) (by omega) (by omega) ⟨hv1,Int.le_refl _⟩ (fun a ha hb=>?_)
        rw [hlook,look,if_neg (by omega)]
        by_cases h:o.1≤a
        · rw [hin a h (by omega),if_pos ⟨h,hb⟩]
        · rw [hgap a ha (by omega),if_neg (by omega)]
      · rw [if_neg h6,ins1,if_neg (show ¬ pa o < frP P o by show ¬ o.1 < frP P o;omega)]
    have s2:ins2 P o (XE P E) (J (upto m (if o.1 < P.1 then frP P o else E))) = J (upto m (frP P o)):=by
      by_cases h5:XE P E < frP P o
      · have h6:¬ o.1 < P.1:=by omega
        rw [if_neg h6,ins2,if_pos h5]
        exact gap_part I (E:=E) (x:=XE P E) (y:=frP P o) (by omega) h5 (by omega) (by omega) (fun a h1 h2=>by omega) (fun a h1 h2=>hgap a h1 (by omega))
      · rw [ins2,if_neg h5]
        by_cases h6:o.1 < P.1
        · rw [if_pos h6]
        · rw [if_neg h6]
          exact congrArg J (upto_same hm (by omega) (fun a h1 h2=>by rw [hlook,look,if_neg (by omega),hgap a h1 (by omega)])).symm
    have s3:ins3 pol P o (J (upto m (frP P o))) = J (upto m (toP P o)):=by
      unfold ins3
      by_cases hw:winsB pol o P = true
      · rw [if_pos hw]
        refine push_part hm P (frP P o) (toP P o) (by omega) (by omega) (by omega) ⟨Int.le_refl _,Int.le_refl _⟩ (fun a ha hb=>?_)
        rw [hlook,look,if_pos (by omega),if_pos ⟨ha,hb⟩,pick,hin a (by omega) (by omega)]
        simp only
        rw [if_pos (show winF pol o.2.2.1 o.2.2.2.1 P.2.2.1 P.2.2.2.1 = true from hw)]
        rfl
      · rw [if_neg hw]
        refine push_part hm o (frP P o) (toP P o) (by omega) (by omega) (by omega) ⟨Int.le_refl _,Int.le_refl _⟩ (fun a ha hb=>?_)
        rw [hlook,look,if_pos (by omega),if_pos ⟨ha,hb⟩,pick,hin a (by omega) (by omega)]
        simp only
        rw [if_neg (show ¬ winF pol o.2.2.1 o.2.2.2.1 P.2.2.1 P.2.2.2.1 = true from hw)]
    have s4:ins4 P o (J (upto m (toP P o))) = J (upto m (o.1 + o.2.1.length)):=by
      by_cases h4:toP P o < o.1 + o.2.1.length
      · rw [ins4,if_pos (show toP P o < endP o from h4)]
        refine push_part hm o (toP P o) (endP o) (by omega) (show toP P o < o.1 + o.2.1.length by omega) (Int.le_refl _) ⟨Int.le_refl _,Int.le_refl _⟩ (fun a ha hb=>?_)
        have hb':a < o.1 + o.2.1.length:=hb
        rw [hlook,look,if_neg (by omega),hin a (by omega) hb',if_pos ⟨ha,hb⟩]
      · rw [ins4,if_neg (show ¬ toP P o < endP o from h4)]
        have:toP P o = o.1 + o.2.1.length:=by omega
        rw [this]
    have ecf:((cnt (cfB (cells l) P) P.1 (XE P E):Nat):Int) + insCut P o = (cnt (cfB (cells l) P) P.1 (toP P o):Nat):=by
      unfold insCut
      rw [insCut_eq (l:=l) (P:=P) (o:=o) (f:=frP P o) (t:=toP P o) (by omega) (by omega) (by omega) (by omega) (by omega) hin]
      have e1:=cnt_add (cfB (cells l) P) (a:=P.1) (b:=frP P o) (c:=toP P o) (by omega) (by omega)
      have e2:cnt (cfB (cells l) P) P.1 (frP P o) = cnt (cfB (cells l) P) P.1 (XE P E):=cnt_gap (by omega) (by omega) (fun x h1 h2=>by simp only [cfB];rw [hgap x (by omega) (by omega)])
      omega
    have ecv:((cnt (covB (cells l)) P.1 (XE P E):Nat):Int) + (toP P o - frP P o) = (cnt (covB (cells l)) P.1 (toP P o):Nat):=by
      have e1:=cnt_add (covB (cells l)) (a:=P.1) (b:=frP P o) (c:=toP P o) (by omega) (by omega)
      have e2:cnt (covB (cells l)) P.1 (frP P o) = cnt (covB (cells l)) P.1 (XE P E):=cnt_gap (by omega) (by omega) (fun x h1 h2=>by simp only [covB];rw [hgap x (by omega) (by omega)];rfl)
      have e3:=cnt_true (f:=covB (cells l)) (a:=frP P o) (b:=toP P o) (fun x h1 h2=>by simp only [covB];rw [hin x (by omega) (by omega)];rfl)
      omega
    have emid:insMid pol P o ⟨J (upto m E),(cnt (cfB (cells l) P) P.1 (XE P E):Nat),(cnt (covB (cells l)) P.1 (XE P E):Nat),XE P E⟩ = ⟨J (upto m (o.1 + o.2.1.length)),(cnt (cfB (cells l) P) P.1 (XE P (o.1 + (o.2.1.length:Int))):Nat),(cnt (covB (cells l)) P.1 (XE P (o.1 + (o.2.1.length:Int))):Nat),XE P (o.1 + (o.2.1.length:Int))⟩:=by
      unfold insMid
      rw [hxo]
      show (⟨ins4 P o (ins3 pol P o (ins2 P o (XE P E) (ins1 P o (J (upto m E))))),_ + insCut P o,_ + (toP P o - frP P o),toP P o⟩:Ins) = _
      rw [s1,s2,s3,s4]
      show (⟨_,((cnt (cfB (cells l) P) P.1 (XE P E):Nat):Int) + insCut P o,((cnt (covB (cells l)) P.1 (XE P E):Nat):Int) + (toP P o - frP P o),_⟩:Ins) = _
      rw [ecf,ecv]
    rw [emid]
    exact ih
theorem insAll_eq {m:List Cl} {l:List Pc} {pol:Int} {P:Pc} (I:IOk m l pol P) (hv:VB 0 l) (h0:0≤P.1) :
    (insAll pol P l).out = J m∧(insAll pol P l).conf = (cnt (cfB (cells l) P) P.1 P.2.2.2.1:Nat)∧(insAll pol P l).cov = (cnt (covB (cells l)) P.1 P.2.2.2.1:Nat):=by
  have h:=loop_eq I l 0 hv (fun a _=>rfl)
  have hPf:=I.hPf
  have e1:XE P 0 = P.1:=by simp only [XE];omega
  have e2:upto m 0 = []:=upto_zero (fun x hx=>by
    have h1:=atC_mem I.hm hx
    rw [I.hlook,look] at h1
    by_cases h2:P.1≤x.1∧x.1 < P.1 + P.2.1.length
    · omega
    · rw [if_neg h2] at h1
      have:=atC_some h1
      exact ((VB_cells hv).2 x this.1).1)
  rw [e1,e2,cnt_self,cnt_self] at h
  have e3:∀ s:Ins,(insFill P s).conf = s.conf∧(insFill P s).cov = s.cov:=by
    intro s;unfold insFill;split <;> exact ⟨rfl,rfl⟩
  refine ⟨h.1,?_,?_⟩
  · exact (e3 _).1.trans h.2.1
  · exact (e3 _).2.trans h.2.2
end Go.Ov
