import Derived.Test.YtfaplilocljknaaGOv1
set_option linter.all false
namespace Go.Ov
open Go Go.Fw
theorem cells_len (l:List Pc):((cells l).length:Int) = lenSum l:=by
  induction l with
  | nil=>rfl
  | cons o l ih=>
    rw [cells_cons,List.length_append,cellsOf_length]
    simp only [lenSum,Int.natCast_add,ih]
theorem valid_next {l:List Pc} (hv:Valid l) {o:Pc} {r:List Pc} (h:l = o :: r):OkP o∧Valid r∧(∀ q,r.head? = some q→endP o≤pa q):=by
  subst h
  refine ⟨(hv 0 (by simp)).1,fun j hj=>?_,fun q hq=>?_⟩
  · have h1:=hv (j + 1) (by simp;omega)
    refine ⟨by simpa using h1.1,fun h0=>?_⟩
    have h2:=h1.2 (by omega)
    obtain ⟨j',rfl⟩:∃ j',j = j' + 1:=⟨j - 1,by omega⟩
    simpa using h2
  · cases r with
    | nil=>simp at hq
    | cons q' r=>
      simp only [List.head?_cons,Option.some.injEq] at hq
      subst hq
      have:=(hv 1 (by simp)).2 (by omega)
      simpa using this
theorem valid_VB:∀ {l:List Pc} {E:Int},Valid l→(∀ q,l.head? = some q→E≤pa q)→VB E l
  | [],_,_,_=>trivial
  | o :: r,E,hv,hE=>by
    obtain ⟨h1,h2,h3⟩:=valid_next hv rfl
    obtain ⟨a1,a2,a3,a4,a5,a6⟩:=h1
    refine ⟨fun h=>a1 (List.length_eq_zero_iff.1 h),hE o rfl,?_,valid_VB h2 h3⟩
    show pa o + ((pd o).length:Int)≤_
    omega
theorem valid_VB0 {l:List Pc} (hv:Valid l):VB 0 l:=valid_VB hv (fun q hq=>by
  cases l with
  | nil=>simp at hq
  | cons o r=>
    simp only [List.head?_cons,Option.some.injEq] at hq
    subst hq
    have h1:=(hv 0 (by simp)).1
    obtain ⟨a1,a2,a3,a4,a5,a6⟩:=h1
    have:pa ((o :: r).getD 0 (Ty.dflt pT)) = pa o:=rfl
    have:pf ((o :: r).getD 0 (Ty.dflt pT)) = pf o:=rfl
    omega)
theorem valid_inB {l:List Pc} (hv:Valid l):∀ x∈l,InB x:=fun x hx=>by
  obtain ⟨i,hi,rfl⟩:=mem_getD (Ty.dflt pT) hx
  exact vInB hv hi
theorem sorted_cells {l:List Pc} (hv:Valid l):Sorted (cells l):=(VB_cells (valid_VB0 hv)).1
theorem cells_rng {l:List Pc} (hv:Valid l):∀ x∈cells l,0≤x.1∧x.1 < 4294967296∧0≤x.2.1∧x.2.1≤255:=(VB_cells (valid_VB0 hv)).2
abbrev midN (c:List Cl) (pol:Int) (P:Pc) (k:Nat):List Cl:=lo c P ++ mid c pol P k
theorem below_mid {c:List Cl} {pol:Int} {P:Pc} {i:Nat} {x:Cl} (hx:x∈midN c pol P i):x.1 < P.1 + (i:Int):=by
  rcases List.mem_append.1 hx with h|h
  · have:=mem_lo h;omega
  · exact (mem_mid h).2
theorem ins_none {c:List Cl} (hs:Sorted c) {pol:Int} {P:Pc} {k:Nat} (h:atC c (P.1 + k) = none):putC (newC P (P.1 + k)) (mrg c pol P k) = mrg c pol P (k + 1):=by
  have e1:mrg c pol P k = midN c pol P k ++ hi_ c P (k:Int):=rfl
  have e2:mrg c pol P (k + 1) = (lo c P ++ (mid c pol P k ++ [pick c pol P (P.1 + (k:Int))])) ++ hi_ c P ((k + 1:Nat):Int):=by rw [mrg,mid_succ]
  have e3:pick c pol P (P.1 + (k:Int)) = newC P (P.1 + k):=by rw [pick,h]
  rw [e1,put_eq,hi_none hs P k h,e2,e3]
  · simp
  · intro y hy
    exact below_mid hy
  · intro y hy
    rw [hi_none hs P k h] at hy
    have:=(mem_hi hy).2
    show P.1 + (k:Int) < y.1
    omega
theorem splice_eq {α:Type} (A Z:List α) (o x:α):(A ++ o :: Z).take A.length ++ [x] ++ (A ++ o :: Z).drop (A.length + 1) = A ++ x :: Z:=by
  rw [List.drop_append,List.take_append]
  simp
theorem ins_win {c:List Cl} (hs:Sorted c) {pol:Int} {P:Pc} {k:Nat} {o:Cl} (h:atC c (P.1 + k) = some o) (hw:winF pol o.2.2.1 o.2.2.2.1 P.2.2.1 P.2.2.2.1 = true) :
    atI (mrg c pol P k) (P.1 + k) 0 = (midN c pol P k).length∧(midN c pol P k).length < (mrg c pol P k).length∧
    (mrg c pol P k).take (midN c pol P k).length ++ [newC P (P.1 + k)] ++ (mrg c pol P k).drop ((midN c pol P k).length + 1) = mrg c pol P (k + 1)∧(mrg c pol P k).take (midN c pol P k).length = midN c pol P k:=by
  have ho:=atC_some h
  have e1:mrg c pol P k = midN c pol P k ++ o :: hi_ c P ((k + 1:Nat):Int):=by rw [mrg,hi_some hs P k h]
  have e2:mrg c pol P (k + 1) = (lo c P ++ (mid c pol P k ++ [pick c pol P (P.1 + (k:Int))])) ++ hi_ c P ((k + 1:Nat):Int):=by rw [mrg,mid_succ]
  have e3:pick c pol P (P.1 + (k:Int)) = newC P (P.1 + k):=by
    rw [pick,h];simp only;rw [if_pos hw]
  refine ⟨?_,?_,?_,by rw [e1,List.take_left]⟩
  · rw [e1,← ho.2]
    exact atI_split _ _ o (fun x hx=>by have:=below_mid hx;omega)
  · rw [e1];simp
  · rw [e1,splice_eq,e2,e3]
    simp
theorem ins_keep {c:List Cl} (hs:Sorted c) {pol:Int} {P:Pc} {k:Nat} {o:Cl} (h:atC c (P.1 + k) = some o) (hw:winF pol o.2.2.1 o.2.2.2.1 P.2.2.1 P.2.2.2.1 = false):mrg c pol P k = mrg c pol P (k + 1):=by
  have e1:mrg c pol P k = midN c pol P k ++ o :: hi_ c P ((k + 1:Nat):Int):=by rw [mrg,hi_some hs P k h]
  have e2:mrg c pol P (k + 1) = (lo c P ++ (mid c pol P k ++ [pick c pol P (P.1 + (k:Int))])) ++ hi_ c P ((k + 1:Nat):Int):=by rw [mrg,mid_succ]
  have e3:pick c pol P (P.1 + (k:Int)) = o:=by
    rw [pick,h];simp only;rw [if_neg (by rw [hw];simp)]
  rw [e1,e2,e3]
  simp
theorem cnt_succ (f:Int→Bool) (a:Int) (k:Nat):cnt f a (a + ((k + 1:Nat):Int)) = cnt f a (a + k) + (if f (a + k) then 1 else 0):=by
  rw [cnt_add f (a:=a) (b:=a + k) (c:=a + ((k + 1:Nat):Int)) (by omega) (by omega)]
  have:a + ((k + 1:Nat):Int) = a + k + 1:=by omega
  rw [this,cnt_one]
theorem mrg_zero {c:List Cl} (hs:Sorted c) (pol:Int) (P:Pc):mrg c pol P 0 = c:=by
  refine sorted_ext (sorted_mrg hs pol P 0) hs (fun a=>?_)
  have h1:atC (lo c P) a = if decide (a < P.1) then atC c a else none:=atC_filter hs (fun b=>decide (b < P.1)) a
  have h2:atC (hi_ c P ((0:Nat):Int)) a = if decide (P.1 + ((0:Nat):Int)≤a) then atC c a else none:=atC_filter hs (fun b=>decide (P.1 + ((0:Nat):Int)≤b)) a
  rw [mrg,atC_append,atC_append,h1,h2]
  have e:atC (mid c pol P 0) a = none:=rfl
  rw [e]
  by_cases h:a < P.1
  · have:¬ P.1≤a:=by omega
    simp [h,this]
  · have:P.1≤a:=by omega
    simp [h,this]
theorem mrg_small {c:List Cl} (hs:Sorted c) (hc:∀ x∈c,0≤x.1∧x.1 < 4294967296∧0≤x.2.1∧x.2.1≤255) (hcl:c.length≤68719476736) (pol:Int) {P:Pc} (h0:0≤P.1∧P.1≤2147483648) (k:Nat) (hn:k≤4294967296):SmallC (mrg c pol P k):=by
  refine ⟨fun x hx=>?_,?_⟩
  · rcases List.mem_append.1 hx with hx|hx
    · rcases List.mem_append.1 hx with hx|hx
      · have:=hc x (mem_lo hx).1
        omega
      · have:=mem_mid hx
        omega
    · have:=hc x (mem_hi hx).1
      omega
  · have:=len_mrg c hs pol P k
    rw [mrg,List.length_append]
    omega
theorem iok_of {l:List Pc} (hv:Valid l) {p:Pc} (hne:pd p≠[]) (pol:Int):IOk (mrg (cells l) pol (newP p) (pd p).length) l pol (newP p):=
  ⟨sorted_mrg (sorted_cells hv) _ _ _,fun h=>hne (List.length_eq_zero_iff.1 h),rfl,fun a=>atC_mrg (sorted_cells hv) pol (newP p) a⟩
theorem take_cells:∀ {l:List Pc} {E:Int} (out:List UInt8) (t:Int),VB E l→∃ B:List UInt8,l.foldl takeS (out,t) = (out ++ B,t + B.length)∧
    (∀ k,k < B.length→∃ o,atC (cells l) (t + (k:Int)) = some o∧o.2.1 = ((B.getD k 0).toNat:Int))∧atC (cells l) (t + (B.length:Int)) = none
  | [],E,out,t,_=>⟨[],by simp,fun k hk=>by simp at hk,rfl⟩
  | o :: l,E,out,t,hv=>by
    obtain ⟨hgap,hin,hbeh⟩:=atC_head (c:=cells (o :: l)) hv (fun a _=>rfl)
    obtain ⟨hv0,hv1,hv2,hv3⟩:=hv
    rw [List.foldl_cons]
    by_cases h:pa o≤t∧endP o > t
    · have h1:o.1≤t:=h.1
      have h2:t < o.1 + o.2.1.length:=h.2
      have e:takeS (out,t) o = (out ++ (pd o).drop (t - pa o).toNat,endP o):=if_pos h
      rw [e]
      obtain ⟨B,q1,q2,q3⟩:=take_cells (out ++ (pd o).drop (t - pa o).toNat) (endP o) hv3
      have hl:(((pd o).drop (t - pa o).toNat).length:Int) = endP o - t:=by
        rw [List.length_drop]
        show (((o.2.1.length - (t - o.1).toNat:Nat)):Int) = o.1 + o.2.1.length - t
        omega
      have hlt:t + ((((pd o).drop (t - pa o).toNat ++ B).length:Nat):Int) = endP o + B.length:=by
        rw [List.length_append];omega
      have hend:endP o = o.1 + o.2.1.length:=rfl
      refine ⟨(pd o).drop (t - pa o).toNat ++ B,by rw [q1,List.append_assoc,hlt],fun k hk=>?_,?_⟩
      · rcases Nat.lt_or_ge k ((pd o).drop (t - pa o).toNat).length with hk1|hk1
        · refine ⟨_,hin (t + k) (by omega) (by omega),?_⟩
          show bt o.2.1 (t + k - o.1) = _
          unfold bt
          have e1:(t + (k:Int) - o.1).toNat = (t - pa o).toNat + k:=by show _ = (t - o.1).toNat + k;omega
          rw [e1]
          simp only [List.getD_eq_getElem?_getD,List.getElem?_append_left hk1,List.getElem?_drop]
        · have hk2:k - ((pd o).drop (t - pa o).toNat).length < B.length:=by rw [List.length_append] at hk;omega
          obtain ⟨x,hx1,hx2⟩:=q2 _ hk2
          refine ⟨x,?_,?_⟩
          · rw [hbeh (t + k) (by omega)]
            have:t + (k:Int) = endP o + ((k - ((pd o).drop (t - pa o).toNat).length:Nat):Int):=by omega
            rw [this];exact hx1
          · rw [hx2]
            simp only [List.getD_eq_getElem?_getD,List.getElem?_append_right hk1]
      · rw [hlt,hbeh _ (by omega)]
        exact q3
    · have e:takeS (out,t) o = (out,t):=if_neg h
      rw [e]
      obtain ⟨B,q1,q2,q3⟩:=take_cells out t hv3
      have hend:endP o = o.1 + o.2.1.length:=rfl
      by_cases h1:pa o≤t
      · have h2:o.1 + o.2.1.length≤t:=by
          by_cases h3:endP o > t
          · exact absurd ⟨h1,h3⟩ h
          · omega
        exact ⟨B,q1,fun k hk=>by rw [hbeh _ (by omega)];exact q2 k hk,by rw [hbeh _ (by omega)];exact q3⟩
      · have h1':t < o.1:=by show t < pa o;omega
        have hB:B = []:=by
          cases B with
          | nil=>rfl
          | cons b B=>
            obtain ⟨x,hx1,_⟩:=q2 0 (by simp)
            have hx:=atC_some hx1
            have:=((VB_cells hv3).2 x hx.1).1
            have:=hx.2
            omega
        subst hB
        refine ⟨[],q1,fun k hk=>by simp at hk,?_⟩
        rw [cells_cons,atC_append,atC_cellsOf,if_neg (by simp;omega)]
        exact q3
theorem tupSL {s t:List UInt8} {x y:List Pc} (h:s = t) (k:x = y):AV.tup [.str s,.list pT x] = AV.tup [.str t,.list pT y]:=by rw [h,k]
structure TakeOk (l:List Pc) (a:Int):Prop where
  end_:(takeF l a).2 = a + (takeF l a).1.length
  some_:∀ k,k < (takeF l a).1.length→∃ o,atC (cells l) (a + (k:Int)) = some o∧o.2.1 = (((takeF l a).1.getD k 0).toNat:Int)
  none_:atC (cells l) (a + ((takeF l a).1.length:Int)) = none
theorem takeOk {l:List Pc} (hv:Valid l) (a:Int):TakeOk l a:=by
  obtain ⟨B,q1,q2,q3⟩:=take_cells [] a (valid_VB0 hv)
  have e:takeF l a = (B,a + B.length):=by rw [takeF,q1];simp
  exact ⟨by rw [e],by rw [e];exact q2,by rw [e];exact q3⟩
theorem intsOf_take (B:List UInt8) (k:Nat) (h:k < B.length):intsOf (B.take (k + 1)) = intsOf (B.take k) ++ [((B.getD k 0).toNat:Int)]:=by
  rw [take_getD 0 h,intsOf_app];rfl
theorem TakeOk.at_ {l:List Pc} {a:Int} (h:TakeOk l a) (hv:Valid l) {k:Nat} (hk:k < (takeF l a).1.length) :
    0≤atI (cells l) (a + k) 0∧atI (cells l) (a + k) 0 < (cells l).length∧(0≤a + k∧a + k < 4294967296)∧
    intsOf ((takeF l a).1.take (k + 1)) = intsOf ((takeF l a).1.take k) ++ [((cells l).getD (atI (cells l) (a + k) 0).toNat cD).2.1]:=by
  obtain ⟨o,h1,h2⟩:=h.some_ k hk
  obtain ⟨n,n1,n2,n3,_⟩:=atI_some (n:=0) h1
  have ho:=atC_some h1
  have hr:=cells_rng hv o ho.1
  have e:(atI (cells l) (a + k) 0).toNat = n:=by omega
  exact ⟨by omega,by omega,by omega,by rw [intsOf_take _ _ hk,e,n3,h2]⟩
theorem TakeOk.lt {l:List Pc} {a:Int} (h:TakeOk l a) {k:Nat} (hk:k≤(takeF l a).1.length) (hc:atI (cells l) (a + k) 0≥0):k < (takeF l a).1.length:=by
  rcases Nat.lt_or_ge k (takeF l a).1.length with h1|h1
  · exact h1
  · have e:k = (takeF l a).1.length:=by omega
    rw [e,atI_none h.none_] at hc
    omega
theorem TakeOk.eq {l:List Pc} {a:Int} (h:TakeOk l a) (hv:Valid l) {k:Nat} (hk:k≤(takeF l a).1.length) (hc:¬ atI (cells l) (a + k) 0≥0):k = (takeF l a).1.length:=by
  rcases Nat.lt_or_ge k (takeF l a).1.length with h1|h1
  · exact absurd (h.at_ hv h1).1 hc
  · omega
theorem freeze_le {α:Type} (A ys:List α):A.length + ys.length≤(A.take A.length ++ ys).length:=by simp
theorem newC_eq {p:Pc} {k:Nat} (w:IntKind.i64.wrap (pa p + (k:Int)) = pa p + k):((IntKind.i64.wrap (pa p + (k:Int)),(((pd p).getD (k:Int).toNat 0).toNat:Int),pa p,endP p,()):Cl) = newC (newP p) (pa p + k):=by
  rw [w]
  have e:(pa p + (k:Int) - pa p).toNat = k:=by omega
  show _ = (pa p + (k:Int),(((pd p).getD (pa p + (k:Int) - pa p).toNat 0).toNat:Int),pa p,endP p,())
  rw [e];rfl
def conN (l:List Pc) (p:Pc) (k:Nat):Nat:=cnt (cfB (cells l) (newP p)) (pa p) (pa p + (k:Int))
def covN (l:List Pc) (p:Pc) (k:Nat):Nat:=cnt (covB (cells l)) (pa p) (pa p + (k:Int))
theorem conN_le (l:List Pc) (p:Pc) (k:Nat):conN l p k≤k:=by
  unfold conN
  have:=cnt_le (cfB (cells l) (newP p)) (pa p) (pa p + (k:Int));omega
theorem covN_le (l:List Pc) (p:Pc) (k:Nat):covN l p k≤k:=by
  unfold covN
  have:=cnt_le (covB (cells l)) (pa p) (pa p + (k:Int));omega
theorem at_neg {c:List Cl} {a:Int} (h:atI c a 0 < 0):atC c a = none:=by
  cases hc:atC c a with
  | none=>rfl
  | some o=>
    obtain ⟨n,_,n2,_,_⟩:=atI_some (n:=0) hc
    omega
theorem at_pos {c:List Cl} {a:Int} (h:¬ atI c a 0 < 0):atC c a = some (c.getD (atI c a 0).toNat cD)∧0≤atI c a 0∧atI c a 0 < c.length:=by
  cases hc:atC c a with
  | none=>rw [atI_none hc] at h;omega
  | some o=>
    obtain ⟨n,n1,n2,n3,_⟩:=atI_some (n:=0) hc
    have e:(atI c a 0).toNat = n:=by omega
    exact ⟨by rw [e,n3],by omega,by omega⟩
theorem covN_none {l:List Pc} {p:Pc} {k:Nat} (h:atC (cells l) (pa p + k) = none):covN l p (k + 1) = covN l p k∧conN l p (k + 1) = conN l p k:=by
  unfold covN conN
  rw [cnt_succ,cnt_succ]
  simp [covB,cfB,h]
theorem covN_some {l:List Pc} {p:Pc} {k:Nat} {o:Cl} (h:atC (cells l) (pa p + k) = some o):covN l p (k + 1) = covN l p k + 1:=by
  unfold covN
  rw [cnt_succ]
  simp [covB,h]
theorem conN_some {l:List Pc} {p:Pc} {k:Nat} {o:Cl} (h:atC (cells l) (pa p + k) = some o):conN l p (k + 1) = conN l p k + (if o.2.1≠(newC (newP p) (pa p + k)).2.1 then 1 else 0):=by
  unfold conN
  rw [cnt_succ]
  simp only [cfB,h]
  by_cases h2:o.2.1 = bt (newP p).2.1 (pa p + (k:Int) - (newP p).1) <;> simp [h2,newC]
theorem insR_end {l:List Pc} {p:Pc} {pol:Int} (hv:Valid l) (h:decide (p.2.1 = []) = false) (h2:rangeB p.1 pol = false):insR l p pol =
    (if pol = 5∧((covN l p (pd p).length:Nat):Int) > 0 then (if ((covN l p (pd p).length:Nat):Int) = (pd p).length∧((conN l p (pd p).length:Nat):Int) = 0 then (l,0,0) else ([],0,17))
    else if (J (mrg (cells l) pol (newP p) (pd p).length)).length > 64 then ([],0,11) else (J (mrg (cells l) pol (newP p) (pd p).length),((conN l p (pd p).length:Nat):Int),0)):=by
  have I:=iok_of hv (of_decide_eq_false h) pol
  have h0:0≤pa p:=by have:=rangeB_f h2;show 0≤p.1;omega
  obtain ⟨e1,e2,e3⟩:=insAll_eq I (valid_VB0 hv) h0
  rw [insR_go h h2,e1]
  have e2':(insAll pol (newP p) l).conf = ((conN l p (pd p).length:Nat):Int):=e2
  have e3':(insAll pol (newP p) l).cov = ((covN l p (pd p).length:Nat):Int):=e3
  rw [e2',e3']
end Go.Ov
namespace Go.Ov
open Go Go.Fw
theorem insR_len (l:List Pc) (p:Pc) (pol:Int):(insR l p pol).1.length≤max l.length 64:=by
  unfold insR
  split
  · show l.length≤_;omega
  · split
    · show 0≤_;omega
    · simp only
      split
      · split
        · show l.length≤_;omega
        · show 0≤_;omega
      · split
        · show 0≤_;omega
        · rename_i h;show (insAll _ _ _).out.length≤_;omega
theorem takeF_len {l:List Pc} (a:Int):((takeF l a).1.length:Int)≤lenSum l:=by
  have:=take_len a l ([],a)
  simpa [takeF] using this
theorem cutL_len (l:List Pc) (a:Int):(cutL l a).length≤l.length:=List.length_filterMap_le _ _
end Go.Ov
namespace Go.Ov
open Go Go.Fw
theorem VB_mem:∀ {l:List Pc} {E:Int},VB E l→∀ q∈l,E≤pa q
  | [],_,_,_,h=>by simp at h
  | o :: l,E,⟨h0,h1,h2,h3⟩,q,hq=>by
    rcases List.mem_cons.1 hq with rfl|hq
    · exact h1
    · have:=VB_mem h3 q hq
      show E≤q.1
      have:o.1 + (o.2.1.length:Int)≤q.1:=this
      omega
theorem valid_pw {l:List Pc}:Valid l ↔ (∀ o∈l,OkP o)∧l.Pairwise (fun x y=>endP x≤pa y):=by
  constructor
  · intro hv
    refine ⟨fun o ho=>?_,?_⟩
    · obtain ⟨i,hi,rfl⟩:=mem_getD (Ty.dflt pT) ho
      exact (hv i hi).1
    · have key:∀ (l:List Pc),Valid l→l.Pairwise (fun x y=>endP x≤pa y):=by
        intro l
        induction l with
        | nil=>intro _;exact List.Pairwise.nil
        | cons o l ih=>
          intro hv
          obtain ⟨h1,h2,h3⟩:=valid_next hv rfl
          refine List.pairwise_cons.2 ⟨fun q hq=>?_,ih h2⟩
          exact VB_mem (valid_VB h2 h3) q hq
      exact key l hv
  · rintro ⟨h1,h2⟩ j hj
    refine ⟨h1 _ (getD_mem hj),fun h0=>?_⟩
    have h3:=List.pairwise_iff_getElem.1 h2 (j - 1) j (by omega) hj (by omega)
    have e1:l.getD (j - 1) (Ty.dflt pT) = l[j - 1]'(by omega):=by
      rw [List.getD_eq_getElem?_getD,List.getElem?_eq_getElem (by omega)];rfl
    have e2:l.getD j (Ty.dflt pT) = l[j]:=by
      rw [List.getD_eq_getElem?_getD,List.getElem?_eq_getElem hj];rfl
    rw [e1,e2];exact h3
def CellOk (c:Cl):Prop:=0≤c.2.2.1∧c.2.2.1≤c.1∧c.1 < c.2.2.2.1∧c.2.2.2.1≤4294967296∧0≤c.2.1∧c.2.1≤255
theorem cells_ok {l:List Pc} (hv:Valid l):∀ c∈cells l,CellOk c:=by
  intro c hc
  simp only [cells,List.mem_flatMap] at hc
  obtain ⟨o,ho,hc⟩:=hc
  obtain ⟨a1,a2,a3,a4,a5,a6⟩:=(valid_pw.1 hv).1 o ho
  obtain ⟨b1,b2,b3,b4,b5,b6⟩:=mem_cellsOf hc
  unfold CellOk
  have e1:pa o = o.1:=rfl
  have e2:(pd o).length = o.2.1.length:=rfl
  have e3:pf o = o.2.2.1:=rfl
  have e4:pt o = o.2.2.2.1:=rfl
  omega
theorem joinP_mem {l:List Pc} {p q:Pc} (h:q∈joinP l p):q∈l∨q = p∨∃ r∈l,q.2.1 = r.2.1 ++ p.2.1:=by
  rcases List.eq_nil_or_concat l with rfl|⟨l',r,hl'⟩
  · simp [joinP] at h;exact .inr (.inl h)
  · rw [List.concat_eq_append] at hl'
    subst hl'
    rw [joinP_snoc] at h
    split at h
    · rcases List.mem_append.1 h with h|h
      · exact .inl (by simp [h])
      · simp only [List.mem_singleton] at h
        subst h
        exact .inr (.inr ⟨r,by simp,rfl⟩)
    · simp only [List.mem_append,List.mem_cons,List.not_mem_nil,or_false] at h
      rcases h with h|h|h
      · exact .inl (by simp [h])
      · exact .inl (by simp [h])
      · exact .inr (.inl h)
theorem J_ne (c:List Cl):∀ q∈J c,q.2.1≠[]:=by
  have key:∀ (c:List Cl) (l:List Pc),(∀ q∈l,q.2.1≠[])→∀ q∈(c.map one).foldl joinP l,q.2.1≠[]:=by
    intro c
    induction c with
    | nil=>intro l h;simpa using h
    | cons x c ih=>
      intro l h
      rw [List.map_cons,List.foldl_cons]
      refine ih _ (fun q hq=>?_)
      rcases joinP_mem hq with h1|rfl|⟨r,hr,h1⟩
      · exact h q h1
      · simp [one]
      · rw [h1];simp [one]
  exact key c [] (by simp)
theorem first_cell {q:Pc} (h:q.2.1≠[]):∃ b,(q.1,b,q.2.2.1,q.2.2.2.1,())∈cellsOf q:=by
  have:=atC_cellsOf q q.1
  have hl:0 < q.2.1.length:=List.length_pos_iff.2 h
  rw [if_pos (by omega)] at this
  exact ⟨_,(atC_some this).1⟩
theorem last_cell {q:Pc} (h:q.2.1≠[]):∃ b,(q.1 + q.2.1.length - 1,b,q.2.2.1,q.2.2.2.1,())∈cellsOf q:=by
  have:=atC_cellsOf q (q.1 + q.2.1.length - 1)
  have hl:0 < q.2.1.length:=List.length_pos_iff.2 h
  rw [if_pos (by omega)] at this
  exact ⟨_,(atC_some this).1⟩
theorem valid_J {m:List Cl} (hs:Sorted m) (hc:∀ c∈m,CellOk c):Valid (J m):=by
  have hcj:cells (J m) = m:=cells_J m (fun x hx=>(hc x hx).2.2.2.2)
  have hin:∀ q∈J m,∀ c∈cellsOf q,c∈m:=fun q hq c hcq=>by
    rw [← hcj];exact List.mem_flatMap.2 ⟨q,hq,hcq⟩
  refine valid_pw.2 ⟨fun q hq=>?_,?_⟩
  · obtain ⟨b1,h1⟩:=first_cell (J_ne m q hq)
    obtain ⟨b2,h2⟩:=last_cell (J_ne m q hq)
    have k1:=hc _ (hin q hq _ h1)
    have k2:=hc _ (hin q hq _ h2)
    unfold CellOk at k1 k2
    simp only at k1 k2
    refine ⟨J_ne m q hq,?_,?_,?_,?_,?_⟩
    · show 0≤q.2.2.1;omega
    · show q.2.2.1≤q.1;omega
    · show q.2.2.2.1≤_;omega
    · show q.1≤q.2.2.2.1;omega
    · show (q.2.1.length:Int)≤q.2.2.2.1 - q.1;omega
  · have h1:Sorted (cells (J m)):=by rw [hcj];exact hs
    have h2:=(List.pairwise_flatMap.1 h1).2
    refine h2.imp_of_mem (fun {x y} hx hy h=>?_)
    obtain ⟨b1,k1⟩:=last_cell (J_ne m x hx)
    obtain ⟨b2,k2⟩:=first_cell (J_ne m y hy)
    have:=h _ k1 _ k2
    simp only at this
    show x.1 + (x.2.1.length:Int)≤y.1
    omega
theorem cut1_some {a:Int} {x y:Pc} (h:cut1 a x = some y) (hb:InB x):a < endP y∧a≤pa y∧pa x≤pa y∧endP y = endP x∧pf y = pf x∧pt y = pt x:=by
  unfold cut1 at h
  split at h
  · cases h
  · rename_i h1
    split at h
    · rename_i h2
      cases h
      have e:=partP_inB hb (a:=a) (b:=endP x) (by omega) (by omega) (Int.le_refl _)
      refine ⟨by rw [e.2];omega,by show a≤a;omega,by show pa x≤a;omega,e.2,rfl,rfl⟩
    · cases h
      exact ⟨by omega,by omega,by omega,rfl,rfl,rfl⟩
theorem cutL_cons (o:Pc) (l:List Pc) (a:Int):cutL (o :: l) a = (cut1 a o).toList ++ cutL l a:=by
  unfold cutL
  rw [List.filterMap_cons]
  cases cut1 a o <;> rfl
theorem valid_cutL {l:List Pc} (hv:Valid l) (a:Int):Valid (cutL l a):=by
  have hb:=valid_inB hv
  obtain ⟨h1,h2⟩:=valid_pw.1 hv
  refine valid_pw.2 ⟨fun q hq=>?_,?_⟩
  · obtain ⟨o,ho,hc⟩:=List.mem_filterMap.1 hq
    obtain ⟨c1,c2,c3,c4,c5,c6⟩:=cut1_some hc (hb o ho)
    obtain ⟨a1,a2,a3,a4,a5,a6⟩:=h1 o ho
    have e1:endP q = pa q + (pd q).length:=rfl
    have e2:endP o = pa o + (pd o).length:=rfl
    refine ⟨fun h=>?_,by omega,by omega,by omega,by omega,by omega⟩
    rw [h] at e1
    simp at e1
    unfold cut1 at hc
    split at hc
    · cases hc
    · split at hc
      · cases hc
        have e3:pa (partP o a (endP o)) = a:=rfl
        omega
      · cases hc
        exact a1 h
  · unfold cutL
    rw [List.pairwise_filterMap]
    refine h2.imp_of_mem (fun {x y} hx hy h=>?_)
    intro x' hx' y' hy'
    have k1:=cut1_some hx' (hb x hx)
    have k2:=cut1_some hy' (hb y hy)
    omega
theorem atC_cut1 {o:Pc} (hb:InB o) (a b:Int):atC (cells (cut1 a o).toList) b = if a≤b then atC (cellsOf o) b else none:=by
  have hb1:=hb.1
  have e1:endP o = o.1 + o.2.1.length:=rfl
  have e2:pa o = o.1:=rfl
  unfold cut1
  split
  · show atC [] b = _
    rw [atC_cellsOf]
    by_cases h:a≤b
    · rw [if_pos h,if_neg (by omega)];rfl
    · rw [if_neg h];rfl
  · split
    · show atC (cells [partP o a (endP o)]) b = _
      rw [cells_cons,cells_nil,List.append_nil,atC_partP o a (endP o) (by omega) (by omega) (by omega),atC_cellsOf]
      by_cases h:a≤b
      · rw [if_pos h]
        by_cases h3:b < endP o
        · rw [if_pos ⟨h,h3⟩,if_pos (by omega)]
        · rw [if_neg (by omega),if_neg (by omega)]
      · rw [if_neg (by omega),if_neg h]
    · show atC (cells [o]) b = _
      rw [cells_cons,cells_nil,List.append_nil,atC_cellsOf]
      by_cases h:a≤b
      · rw [if_pos h]
      · rw [if_neg h,if_neg (by omega)]
theorem atC_cutL {l:List Pc} (hb:∀ x∈l,InB x) (a b:Int):atC (cells (cutL l a)) b = if a≤b then atC (cells l) b else none:=by
  induction l with
  | nil=>simp [cutL,cells,atC]
  | cons o l ih=>
    rw [cutL_cons,cells_append,atC_append,atC_cut1 (hb o (by simp)),ih (fun x hx=>hb x (by simp [hx])),cells_cons,atC_append]
    split <;> simp
theorem cells_cutL {l:List Pc} (hv:Valid l) (a:Int):cells (cutL l a) = (cells l).filter (fun x=>decide (a≤x.1)):=by
  refine sorted_ext (sorted_cells (valid_cutL hv a)) (sorted_filter (sorted_cells hv) _) (fun b=>?_)
  rw [atC_cutL (valid_inB hv),atC_filter (sorted_cells hv) (fun z=>decide (a≤z))]
  simp
theorem lenSum_cells (l:List Pc):lenSum l = (cells l).length:=(cells_len l).symm
theorem cells_count {m:List Cl} (hs:Sorted m) (a:Int):∀ n:Nat,(∀ k:Nat,k < n→∃ o,atC m (a + (k:Int)) = some o)→
    (m.filter (fun x=>decide (a≤x.1))).length = n + (m.filter (fun x=>decide (a + (n:Int)≤x.1))).length
  | 0,_=>by simp
  | n + 1,h=>by
    have ih:=cells_count hs a n (fun k hk=>h k (by omega))
    obtain ⟨o,ho⟩:=h n (by omega)
    have e:=hi_some hs ((a,[],0,0,()):Pc) n ho
    have e':m.filter (fun x=>decide (a + (n:Int)≤x.1)) = o :: m.filter (fun x=>decide (a + ((n + 1:Nat):Int)≤x.1)):=e
    rw [ih,e',List.length_cons]
    omega
structure CutsOk (l:List Pc) (a:Int):Prop where
  c:Valid (cutL l a)
  rest:Valid (cutL l (takeF l a).2)
  same:cutL (cutL l a) (takeF l a).2 = cutL l (takeF l a).2
  again:cutL (cutL l a) a = cutL l a
  size:lenSum (cutL l a) = (takeF l a).1.length + lenSum (cutL l (takeF l a).2)
  beyond:∀ q r,cutL l (takeF l a).2 = q :: r→a≤pa q∧((takeF l a).1≠[]→0≤a∧((takeF l a).1.length:Int) < pa q - a∧pa q≤4294967296)
end Go.Ov
namespace Go.Ov
open Go Go.Fw
theorem take_many {x:List Pc} (hv:Valid x) {a:Int} {n:Nat} (h:∀ k:Nat,k < n→(atC (cells x) (a + (k:Int))).isSome = true):n≤(takeF x a).1.length:=by
  rcases Nat.lt_or_ge (takeF x a).1.length n with h1|h1
  · have:=h _ h1
    rw [(takeOk hv a).none_] at this
    cases this
  · exact h1
theorem take_prefix {x:List Pc} (hv:Valid x) {a:Int} {s:List UInt8} (h:∀ k:Nat,k < s.length→∃ o,atC (cells x) (a + (k:Int)) = some o∧o.2.1 = ((s.getD k 0).toNat:Int)) :
    s.length≤(takeF x a).1.length∧(takeF x a).1.take s.length = s:=by
  have hl:=take_many hv (n:=s.length) (a:=a) (fun k hk=>by obtain ⟨o,ho,_⟩:=h k hk;rw [ho];rfl)
  refine ⟨hl,ext_getD 0 (by rw [List.length_take];omega) (fun k hk=>?_)⟩
  rw [List.length_take] at hk
  obtain ⟨o,ho,e1⟩:=h k (by omega)
  obtain ⟨o',ho',e2⟩:=(takeOk hv a).some_ k (by omega)
  rw [ho] at ho'
  simp only [Option.some.injEq] at ho'
  subst ho'
  have e3:((takeF x a).1.take s.length).getD k 0 = (takeF x a).1.getD k 0:=by
    simp only [List.getD_eq_getElem?_getD,List.getElem?_take]
    rw [if_pos (by omega)]
  rw [e3]
  exact UInt8.toNat_inj.1 (by omega)
theorem cell_of {l:List Pc} (hv:Valid l) {o:Pc} (ho:o∈l) {k:Nat} (hk:k < (pd o).length):atC (cells l) (pa o + k) = some (pa o + k,(((pd o).getD k 0).toNat:Int),pf o,pt o,()):=by
  have h1:atC (cellsOf o) (pa o + k) = some (pa o + k,(((pd o).getD k 0).toNat:Int),pf o,pt o,()):=by
    have hk':k < o.2.1.length:=hk
    have e0:pa o = o.1:=rfl
    rw [atC_cellsOf,if_pos (by omega)]
    have e:(pa o + (k:Int) - o.1).toNat = k:=by omega
    unfold bt
    rw [e]
  have h2:=atC_mem (sorted_cells hv) (List.mem_flatMap.2 ⟨o,ho,(atC_some h1).1⟩)
  exact h2
theorem cnt_full {f:Int→Bool} {a:Int} {n:Nat} (h:cnt f a (a + n) = n):∀ k:Nat,k < n→f (a + k) = true:=by
  intro k hk
  have e1:=cnt_add f (a:=a) (b:=a + k) (c:=a + n) (by omega) (by omega)
  have e2:=cnt_add f (a:=a + k) (b:=a + k + 1) (c:=a + n) (by omega) (by omega)
  have e3:=cnt_one f (a + k)
  have e4:=cnt_le f a (a + k)
  have e5:=cnt_le f (a + k + 1) (a + n)
  cases hf:f (a + k) with
  | true=>rfl
  | false=>rw [hf] at e3;simp at e3;omega
theorem mrg_mono {c:List Cl} (hs:Sorted c) (pol:Int) (P:Pc):∀ k:Nat,c.length≤(mrg c pol P k).length∧k≤(mrg c pol P k).length
  | 0=>by rw [mrg_zero hs];exact ⟨Nat.le_refl _,Nat.zero_le _⟩
  | k + 1=>by
    have ih:=(mrg_mono hs pol P k).1
    have hl:∀ i,(mrg c pol P i).length = (lo c P).length + i + (hi_ c P (i:Int)).length:=fun i=>by simp [mrg,mid,Nat.add_assoc]
    have hh:(hi_ c P (k:Int)).length≤(hi_ c P ((k + 1:Nat):Int)).length + 1:=by
      cases h:atC c (P.1 + k) with
      | none=>rw [hi_none hs P k h];omega
      | some o=>rw [hi_some hs P k h];simp
    rw [hl] at ih ⊢
    exact ⟨by omega,by omega⟩
theorem mrg_ok {l:List Pc} (hv:Valid l) {p:Pc} (pol:Int) (h0:0≤pa p) (h1:endP p≤4294967296):∀ c∈mrg (cells l) pol (newP p) (pd p).length,CellOk c:=by
  intro c hc
  have hp:∀ a,pa p≤a→a < endP p→CellOk (newC (newP p) a):=by
    intro a ha hb
    have:=bt_in (newP p).2.1 (a - (newP p).1)
    refine ⟨h0,ha,hb,h1,this.1,this.2⟩
  have hs:=sorted_mrg (sorted_cells hv) pol (newP p) (pd p).length
  have h2:=atC_mem hs hc
  have h3:atC (mrg (cells l) pol (newP p) (pd p).length) c.1 = look (cells l) pol (newP p) c.1:=atC_mrg (sorted_cells hv) pol (newP p) c.1
  rw [h3,look] at h2
  split at h2
  · rename_i hr
    simp only [Option.some.injEq] at h2
    rw [← h2,pick]
    cases ho:atC (cells l) c.1 with
    | none=>exact hp _ hr.1 hr.2
    | some o=>
      simp only
      split
      · exact hp _ hr.1 hr.2
      · exact cells_ok hv _ (atC_some ho).1
  · exact cells_ok hv _ (atC_some h2).1
structure InsGood (l:List Pc) (p:Pc) (pol:Int) (x:List Pc) (n:Int):Prop where
  valid:Valid x
  n0:0≤n
  n1:n≤(pd p).length
  more:lenSum l≤lenSum x
  moreP:((pd p).length:Int)≤lenSum x
  most:lenSum x≤lenSum l + (pd p).length
  take:(pd p).length≤(takeF x (pa p)).1.length
  last:pol = 2→(takeF x (pa p)).1.take (pd p).length = pd p
  keep:pol = 5∨pol = 1→∀ o∈l,(pd o).length≤(takeF x (pa o)).1.length∧(takeF x (pa o)).1.take (pd o).length = pd o
theorem keep_same {l:List Pc} (hv:Valid l):∀ o∈l,(pd o).length≤(takeF l (pa o)).1.length∧(takeF l (pa o)).1.take (pd o).length = pd o:=
  fun o ho=>take_prefix hv (fun k hk=>⟨_,cell_of hv ho hk,rfl⟩)
theorem J_lenSum {m:List Cl} (h:∀ c∈m,CellOk c):lenSum (J m) = m.length:=by
  rw [lenSum_cells,cells_J m (fun x hx=>(h x hx).2.2.2.2)]
theorem insGood {l:List Pc} {p:Pc} {pol:Int} (hv:Valid l) (hp:((pd p).length:Int)≤2147483648) (h:(insR l p pol).2.2 = 0):InsGood l p pol (insR l p pol).1 (insR l p pol).2.1:=by
  by_cases h1:pd p = []
  · have e:insR l p pol = (l,0,0):=if_pos h1
    have e1:(pd p).length = 0:=by rw [h1];rfl
    rw [e]
    refine ⟨hv,Int.le_refl _,by show (0:Int)≤_;omega,Int.le_refl _,?_,by show lenSum l≤_;omega,by omega,fun _=>by rw [h1];simp,fun _=>keep_same hv⟩
    have:=lenSum_nonneg l
    show _≤lenSum l
    omega
  by_cases h2:rangeB p.1 pol = true
  · rw [insR_range (decide_eq_false h1) h2] at h
    cases h
  have h2':rangeB p.1 pol = false:=by simpa using h2
  have hr:=rangeB_f h2'
  have e:=insR_end hv (decide_eq_false h1) h2'
  have hs:=sorted_cells hv
  rw [e] at h ⊢
  by_cases h3:pol = 5∧((covN l p (pd p).length:Nat):Int) > 0
  · rw [if_pos h3] at h ⊢
    by_cases h4:((covN l p (pd p).length:Nat):Int) = (pd p).length∧((conN l p (pd p).length:Nat):Int) = 0
    · rw [if_pos h4]
      have hall:∀ k:Nat,k < (pd p).length→(atC (cells l) (pa p + (k:Int))).isSome = true:=cnt_full (f:=covB (cells l)) (a:=pa p) (n:=(pd p).length) (by have:=h4.1;unfold covN at this;omega)
      have hcount:=cells_count hs (pa p) (pd p).length (fun k hk=>Option.isSome_iff_exists.1 (hall k hk))
      have hfl:=List.length_filter_le (fun x:Cl=>decide (pa p≤x.1)) (cells l)
      have hcl:=lenSum_cells l
      refine ⟨hv,Int.le_refl _,by show (0:Int)≤_;omega,Int.le_refl _,by show _≤lenSum l;omega,by show lenSum l≤_;omega,take_many hv hall,fun h5=>?_,fun _=>keep_same hv⟩
      omega
    · rw [if_neg h4] at h
      cases h
  · rw [if_neg h3] at h ⊢
    split at h
    · cases h
    rename_i h5
    rw [if_neg h5]
    have hend:endP p≤4294967296:=by show p.1 + ((pd p).length:Int)≤_;omega
    have hp0:0≤pa p:=by show 0≤p.1;omega
    have hok:=mrg_ok hv pol hp0 hend
    have hsm:=sorted_mrg hs pol (newP p) (pd p).length
    have hvx:Valid (J (mrg (cells l) pol (newP p) (pd p).length)):=valid_J hsm hok
    have hcx:cells (J (mrg (cells l) pol (newP p) (pd p).length)) = mrg (cells l) pol (newP p) (pd p).length:=cells_J _ (fun x hx=>(hok x hx).2.2.2.2)
    have hmono:=mrg_mono hs pol (newP p) (pd p).length
    have hmax:=len_mrg (cells l) hs pol (newP p) (pd p).length
    have hlk:∀ a,atC (mrg (cells l) pol (newP p) (pd p).length) a = look (cells l) pol (newP p) a:=fun a=>atC_mrg hs pol (newP p) a
    have hcl:=lenSum_cells l
    have hin:∀ k:Nat,k < (pd p).length→(newP p).1≤pa p + (k:Int)∧pa p + (k:Int) < (newP p).1 + (newP p).2.1.length:=fun k hk=>by
      show pa p≤pa p + (k:Int)∧pa p + (k:Int) < pa p + (pd p).length
      omega
    refine ⟨hvx,by show (0:Int)≤((conN l p (pd p).length:Nat):Int);omega,?_,?_,?_,?_,?_,?_,?_⟩
    · have:=conN_le l p (pd p).length
      show ((conN l p (pd p).length:Nat):Int)≤_
      omega
    · show lenSum l≤lenSum (J _)
      rw [J_lenSum hok];omega
    · show _≤lenSum (J _)
      rw [J_lenSum hok];omega
    · show lenSum (J _)≤_
      rw [J_lenSum hok]
      simp only [mrg,List.length_append] at hmax ⊢
      omega
    · refine take_many hvx (fun k hk=>?_)
      rw [hcx,hlk,look,if_pos (hin k hk)]
      rfl
    · intro h6
      refine (take_prefix hvx (fun k hk=>?_)).2
      rw [hcx,hlk,look,if_pos (hin k hk)]
      refine ⟨_,rfl,?_⟩
      have e9:(newC (newP p) (pa p + (k:Int))).2.1 = (((pd p).getD k 0).toNat:Int):=by
        show (((pd p).getD (pa p + (k:Int) - pa p).toNat 0).toNat:Int) = _
        have:(pa p + (k:Int) - pa p).toNat = k:=by omega
        rw [this]
      rw [pick]
      cases ho:atC (cells l) (pa p + (k:Int)) with
      | none=>exact e9
      | some o=>
        simp only
        rw [if_pos (by rw [h6];rfl)]
        exact e9
    · intro h6 o ho
      refine take_prefix hvx (fun k hk=>?_)
      rw [hcx,hlk,look]
      have hc:=cell_of hv ho hk
      by_cases hr2:(newP p).1≤pa o + (k:Int)∧pa o + (k:Int) < (newP p).1 + (newP p).2.1.length
      · rw [if_pos hr2,pick,hc]
        refine ⟨_,rfl,?_⟩
        simp only
        rw [if_neg (by rcases h6 with rfl|rfl <;> exact Bool.false_ne_true)]
      · rw [if_neg hr2,hc]
        exact ⟨_,rfl,rfl⟩
theorem insR_small {l:List Pc} {p:Pc} {pol:Int} (h:l.length≤64):(insR l p pol).1.length≤64:=by
  have:=insR_len l p pol
  omega
end Go.Ov
