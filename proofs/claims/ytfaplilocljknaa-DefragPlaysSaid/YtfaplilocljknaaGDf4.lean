import Derived.Test.YtfaplilocljknaaGDf3
set_option linter.all false
namespace Go.Df
open Go Go.Fw Go.Ov
abbrev rT:Ty:=.cons fT (.cons (.int .i64) (.cons .bool (.cons (.list pT) (.cons (.int .i64) (.cons (.int .i64) .nil)))))
abbrev Re:=Fg × Int × Bool × List Pc × Int × Int × Unit
abbrev rKey (e:Re):Fg:=e.1
abbrev rBeg (e:Re):Int:=e.2.1
abbrev rGone (e:Re):Bool:=e.2.2.1
abbrev rPcs (e:Re):List Pc:=e.2.2.2.1
abbrev rTtl (e:Re):Int:=e.2.2.2.2.1
abbrev rEnd (e:Re):Int:=e.2.2.2.2.2.1
abbrev rC (e:Re):List AV:=[.bool (fSrc (rKey e)).1,.int .u64 (fSrc (rKey e)).2.1,.int .u64 (fSrc (rKey e)).2.2.1,.bool (fDst (rKey e)).1,.int .u64 (fDst (rKey e)).2.1,.int .u64 (fDst (rKey e)).2.2.1,.int .i64 (fPro (rKey e)),.int .i64 (fId (rKey e)),.int .i64 (fTtl (rKey e)),.int .i64 (fOff (rKey e)),.bool (fMore (rKey e)),.str (fData (rKey e)),
  .int .i64 (rBeg e),.bool (rGone e),.list pT (rPcs e),.int .i64 (rTtl e),.int .i64 (rEnd e)]
abbrev rD:Re:=Ty.dflt rT
structure Rb where
  timeout:Int
  time:Int
  conf:Int
  xs:List Re
abbrev rbC (rb:Rb) (j:Nat):List AV:=[.int .i64 rb.timeout,.int .i64 rb.time,.int .i64 rb.conf,.own j rb.xs.length]
abbrev rbH (rb:Rb):List (Nat × Chunk):=[(0,.box (rbC rb 1)),(1,.arr rT rb.xs)]
def openR (xs:List Re):Int:=(xs.map fun e=>if rGone e then (0:Int) else 1).sum
def sizeR (xs:List Re):Int:=(xs.map fun e=>lenSum (rPcs e)).sum
def sumL (v:Re→Int) (xs:List Re):Int:=(xs.map v).sum
theorem sumL_next (v:Re→Int) (xs:List Re) {i:Nat} (h:i < xs.length):sumL v (xs.take (i + 1)) = sumL v (xs.take i) + v (xs.getD i rD):=by
  unfold sumL
  rw [List.take_succ_eq_append_getElem h,List.map_append,List.sum_append]
  congr 1
  simp [List.getD_eq_getElem?_getD,List.getElem?_eq_getElem h]
theorem sumL_bd (v:Re→Int) {m:Int} (hm:0≤m):∀ {xs:List Re},(∀ e∈xs,0≤v e∧v e≤m)→0≤sumL v xs∧sumL v xs≤m * xs.length
  | [],_=>by show (0:Int)≤0∧(0:Int)≤m * ((0:Nat):Int);omega
  | e :: xs,h=>by
    have ih:=sumL_bd v hm (xs:=xs) (fun y hy=>h y (List.mem_cons_of_mem _ hy))
    have he:=h e (List.mem_cons_self ..)
    have e1:sumL v (e :: xs) = v e + sumL v xs:=by unfold sumL;rw [List.map_cons,List.sum_cons]
    have e2:m * (((e :: xs).length:Nat):Int) = m * (xs.length:Int) + m:=by rw [List.length_cons];rw [show (((xs.length + 1:Nat)):Int) = (xs.length:Int) + 1 by omega,Int.mul_add];omega
    rw [e1,e2]
    omega
theorem sumL_take (v:Re→Int) {m:Int} (hm:0≤m) {xs:List Re} (h:∀ e∈xs,0≤v e∧v e≤m) (i:Nat):0≤sumL v (xs.take i)∧sumL v (xs.take i)≤m * xs.length:=by
  have h1:=sumL_bd v hm (xs:=xs.take i) (fun e he=>h e (List.mem_of_mem_take he))
  have h2:((xs.take i).length:Int)≤xs.length:=by rw [List.length_take];omega
  have h3:=Int.mul_le_mul_of_nonneg_left h2 hm
  omega
abbrev vOpen (e:Re):Int:=if rGone e then 0 else 1
abbrev vLen (e:Re):Int:=lenSum (rPcs e)
abbrev keepK (tt at_:Int) (e:Re):Bool:=decide (rBeg e > at_ - tt)
abbrev vGone (tt at_:Int) (e:Re):Int:=if keepK tt at_ e then 0 else if rGone e then 0 else 1
abbrev aEq (a b:A):Bool:=decide (a.1 = b.1) && (decide (a.2.1 = b.2.1) && (decide (a.2.2.1 = b.2.2.1) && true))
def sameK (e f:Fg):Bool:=if (if (if aEq (fSrc e) (fSrc f) = true then aEq (fDst e) (fDst f) else false) = true then decide (fPro e = fPro f) else false) = true then decide (fId e = fId f) else false
theorem sameK_iff (e f:Fg):sameK e f = true ↔ keyF e = keyF f:=by
  obtain ⟨⟨a1,a2,a3,_⟩,⟨a4,a5,a6,_⟩,a7,a8,_⟩:=e
  obtain ⟨⟨b1,b2,b3,_⟩,⟨b4,b5,b6,_⟩,b7,b8,_⟩:=f
  simp [sameK,aEq,keyF,Prod.ext_iff,and_assoc]
def findX (xs:List Re) (f:Fg):Int:=match xs.findIdx? (fun e=>sameK (rKey e) f) with|some i=>(i:Int)|none=>-1
theorem find_at {xs:List Re} {f:Fg} {i:Nat} (hi:i < xs.length) (h:∀ j,j < i→sameK (rKey (xs.getD j rD)) f = false) (hs:sameK (rKey (xs.getD i rD)) f = true):findX xs f = i:=by
  have:xs.findIdx? (fun e=>sameK (rKey e) f) = some i:=by
    rw [List.findIdx?_eq_some_iff_getElem]
    have hg:∀ j (hj:j < xs.length),xs.getD j rD = xs[j]:=fun j hj=>by rw [List.getD_eq_getElem?_getD,List.getElem?_eq_getElem hj];rfl
    refine ⟨hi,by rw [← hg i hi];exact hs,fun j hj=>?_⟩
    have:=h j hj
    rw [hg j (by omega)] at this
    rw [this]
    exact Bool.false_ne_true
  unfold findX
  rw [this]
theorem find_no {xs:List Re} {f:Fg} (h:∀ j,j < xs.length→sameK (rKey (xs.getD j rD)) f = false):findX xs f = -1:=by
  have:xs.findIdx? (fun e=>sameK (rKey e) f) = none:=by
    rw [List.findIdx?_eq_none_iff]
    intro e he
    obtain ⟨j,hj,rfl⟩:=List.getElem_of_mem he
    have:=h j hj
    rw [List.getD_eq_getElem?_getD,List.getElem?_eq_getElem hj] at this
    exact this
  unfold findX
  rw [this]
theorem filt_next (p:Re→Bool) (xs:List Re) {i:Nat} (h:i < xs.length):(xs.take (i + 1)).filter p = (xs.take i).filter p ++ (if p (xs.getD i rD) then [xs.getD i rD] else []):=by
  rw [List.take_succ_eq_append_getElem h,List.filter_append]
  congr 1
  have hg:xs.getD i rD = xs[i]:=by rw [List.getD_eq_getElem?_getD,List.getElem?_eq_getElem h];rfl
  rw [hg,List.filter_cons]
  split <;> rfl
theorem erase_next (xs:List Re) (k:Nat) {i:Nat} (h:i < xs.length):(xs.take (i + 1)).eraseIdx k = (xs.take i).eraseIdx k ++ (if i = k then [] else [xs.getD i rD]):=by
  have hg:xs.getD i rD = xs[i]:=by rw [List.getD_eq_getElem?_getD,List.getElem?_eq_getElem h];rfl
  rw [List.take_succ_eq_append_getElem h,hg]
  have hl:(xs.take i).length = i:=by rw [List.length_take];omega
  by_cases e:i = k
  · subst e
    rw [if_pos rfl,List.append_nil]
    rw [List.eraseIdx_append_of_length_le (by omega),List.eraseIdx_of_length_le (l:=xs.take i) (by omega)]
    simp [hl]
  · rw [if_neg e]
    rcases Nat.lt_or_ge k i with h1|h1
    · rw [List.eraseIdx_append_of_lt_length (by omega)]
    · rw [List.eraseIdx_append_of_length_le (by omega),List.eraseIdx_of_length_le (l:=xs.take i) (by omega)]
      congr 1
      rw [List.eraseIdx_of_length_le]
      simp only [List.length_cons,List.length_nil]
      omega
end Go.Df
namespace Go.Df
open Go Go.Fw Go.Ov
abbrev endG (f:Fg):Int:=fOff f + (fData f).length
abbrev goneR (e:Re):Re:=(rKey e,rBeg e,true,[],0,0,())
abbrev insE (e:Re) (f:Fg) (pol:Int):List Pc × Int × Int:=insR (rPcs e) (pcF f) pol
abbrev ent1 (e:Re) (f:Fg) (pol:Int):Re:=(rKey e,rBeg e,rGone e,(insE e f pol).1,min (rTtl e) (fTtl f),rEnd e,())
abbrev entR (e:Re) (f:Fg) (pol:Int):Re:=(rKey e,rBeg e,rGone e,(insE e f pol).1,min (rTtl e) (fTtl f),if fMore f then rEnd e else endG f,())
def firstX (xs:List Re):Option Nat:=xs.findIdx? fun e=>!rGone e
def limX (xs:List Re):List Re:=if sumL vOpen xs > 32 then (match firstX xs with|some k=>xs.set k (goneR (xs.getD k rD))|none=>xs) else xs
def restX (rb:Rb) (xs:List Re) (k:Nat) (e:Re) (f:Fg) (pol:Int):Df.Rs × Rb:=
  if rEnd (entR e f pol) > 0∧((takeF (insE e f pol).1 0).1.length:Int)≥rEnd (entR e f pol) then
    (okR (fSrc f) (fDst f) (fPro f) (rTtl (entR e f pol)) ((takeF (insE e f pol).1 0).1.take (rEnd (entR e f pol)).toNat),⟨rb.timeout,rb.time,rb.conf + (insE e f pol).2.1,xs.eraseIdx k⟩)
  else (failR 0,⟨rb.timeout,rb.time,rb.conf + (insE e f pol).2.1,limX xs⟩)
def insK (rb:Rb) (k:Nat) (e:Re) (f:Fg) (pol:Int):Df.Rs × Rb:=
  if (insE e f pol).2.2 = 17 then (failR 17,⟨rb.timeout,rb.time,rb.conf,rb.xs.set k (goneR e)⟩) else
  if (insE e f pol).2.2≠0 then (failR (insE e f pol).2.2,rb) else restX rb (rb.xs.set k (entR e f pol)) k e f pol
def insN (rb:Rb) (e:Re) (f:Fg) (pol:Int):Df.Rs × Rb:=
  if (insE e f pol).2.2≠0 then (failR (insE e f pol).2.2,rb) else restX rb (rb.xs ++ [entR e f pol]) rb.xs.length e f pol
theorem first_at {xs:List Re} {i:Nat} (hi:i < xs.length) (h:∀ j,j < i→rGone (xs.getD j rD) = true) (hs:rGone (xs.getD i rD) = false):firstX xs = some i:=by
  unfold firstX
  rw [List.findIdx?_eq_some_iff_getElem]
  have hg:∀ j (hj:j < xs.length),xs.getD j rD = xs[j]:=fun j hj=>by rw [List.getD_eq_getElem?_getD,List.getElem?_eq_getElem hj];rfl
  refine ⟨hi,by rw [← hg i hi,hs];rfl,fun j hj=>?_⟩
  have:=h j hj
  rw [hg j (by omega)] at this
  rw [this]
  exact Bool.false_ne_true
theorem first_no {xs:List Re} (h:∀ j,j < xs.length→rGone (xs.getD j rD) = true):firstX xs = none:=by
  unfold firstX
  rw [List.findIdx?_eq_none_iff]
  intro e he
  obtain ⟨j,hj,rfl⟩:=List.getElem_of_mem he
  have:=h j hj
  rw [List.getD_eq_getElem?_getD,List.getElem?_eq_getElem hj] at this
  have this:rGone xs[j] = true:=this
  rw [this];rfl
end Go.Df
