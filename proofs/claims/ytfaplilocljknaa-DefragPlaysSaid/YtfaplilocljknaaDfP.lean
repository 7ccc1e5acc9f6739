import Derived.Test.YtfaplilocljknaaDfO
import Derived.Test.YtfaplilocljknaaGDf2
set_option linter.all false
namespace Go.Proofs.Ytfaplilocljknaa.Fx
open Go Go.Fw Go.Ov Go.Df
abbrev kF (k:Ky):Fg:=(k.1,k.2.1,k.2.2.1,k.2.2.2.1,0,0,false,[],())
def rE (x:Ky × En):Re:=if eGone x.2 = true then (kF x.1,eBeg x.2,true,[],0,0,()) else (kF x.1,eBeg x.2,false,ePcs x.2,eTtl x.2,max 0 (eEnd x.2),())
abbrev rbOf (tb:Tb):Rb:=⟨tb.timeout,tb.time,tb.conf,tb.l.map rE⟩
theorem rE_beg (x:Ky × En):rBeg (rE x) = eBeg x.2:=by unfold rE;split <;> rfl
theorem rE_key (x:Ky × En):rKey (rE x) = kF x.1:=by unfold rE;split <;> rfl
theorem rE_gone (x:Ky × En):rGone (rE x) = eGone x.2:=by
  unfold rE
  split
  · rename_i h;exact h.symm
  · rename_i h;simp at h;exact h.symm
structure EI (e:En):Prop where
  g:eGone e = true→ePcs e = []
  z:eEnd e = -1∨0 < eEnd e
  c:0 < eEnd e→∀ c∈cells (ePcs e),c.1 < eEnd e
theorem rE_pcs {x:Ky × En} (h:EI x.2):rPcs (rE x) = ePcs x.2:=by
  unfold rE
  split
  · rename_i hg;exact (h.g hg).symm
  · rfl
theorem same_key (x:Ky × En) (f:Fg):sameK (rKey (rE x)) f = decide (x.1 = keyF f):=by
  rw [rE_key,Bool.eq_iff_iff,sameK_iff,decide_eq_true_eq]
theorem move_of (tb:Tb) (at_:Int):moveR (rbOf tb) at_ = rbOf (moveT tb at_):=by
  show (⟨tb.timeout,at_,tb.conf,(tb.l.map rE).filter (keepK tb.timeout at_)⟩:Rb) = ⟨tb.timeout,at_,tb.conf,(tb.l.filter fun x=>!expB tb at_ x.2).map rE⟩
  rw [List.filter_map]
  congr 2
  apply List.filter_congr
  intro x _
  show decide (rBeg (rE x) > at_ - tb.timeout) = !decide (eBeg x.2≤at_ - tb.timeout)
  rw [rE_beg]
  by_cases h:eBeg x.2≤at_ - tb.timeout
  · rw [decide_eq_true h,decide_eq_false (by omega)];rfl
  · rw [decide_eq_false h,decide_eq_true (by omega)];rfl
theorem idx_of (l:List (Ky × En)) (f:Fg):(l.map rE).findIdx? (fun e=>sameK (rKey e) f) = l.findIdx? (fun x=>decide (x.1 = keyF f)):=by
  rw [List.findIdx?_map]
  congr 1
  funext x
  exact same_key x f
theorem idx_some {l:List (Ky × En)} {k:Ky} {i:Nat} (h:l.findIdx? (fun x=>decide (x.1 = k)) = some i):∃ d,l[i]? = some (k,d)∧findT l k = some d∧i < l.length:=by
  obtain ⟨hi,h1,h2⟩:=List.findIdx?_eq_some_iff_getElem.1 h
  have h1:l[i].1 = k:=of_decide_eq_true h1
  refine ⟨l[i].2,?_,?_,hi⟩
  · rw [List.getElem?_eq_getElem hi,← h1]
  · unfold findT
    have:l.find? (fun x=>decide (x.1 = k)) = some l[i]:=by
      rw [List.find?_eq_some_iff_getElem]
      exact ⟨decide_eq_true h1,i,hi,rfl,fun j hj=>by have:=h2 j hj;simpa using this⟩
    rw [this];rfl
theorem idx_none {l:List (Ky × En)} {k:Ky} (h:l.findIdx? (fun x=>decide (x.1 = k)) = none):findT l k = none:=by
  unfold findT
  rw [Option.map_eq_none_iff,List.find?_eq_none]
  rw [List.findIdx?_eq_none_iff] at h
  intro x hx
  rw [h x hx]
  exact Bool.false_ne_true
theorem set_idx {k:Ky} {d e:En}:∀ {l:List (Ky × En)} {i:Nat},(l.map (·.1)).Nodup→l[i]? = some (k,d)→setT l k e = l.set i (k,e)
  | [],i,_,h=>by simp at h
  | x :: l,0,hn,h=>by
    simp only [List.getElem?_cons_zero,Option.some.injEq] at h
    subst h
    simp only [List.map_cons,List.nodup_cons] at hn
    show (if k = k then (k,e) else (k,d)) :: setT l k e = (k,e) :: l
    rw [if_pos rfl,set_other hn.1]
  | x :: l,i + 1,hn,h=>by
    simp only [List.getElem?_cons_succ] at h
    simp only [List.map_cons,List.nodup_cons] at hn
    have hm:(k,d)∈l:=List.mem_of_getElem? h
    have hne:¬ x.1 = k:=fun q=>hn.1 (q ▸ List.mem_map_of_mem (f:=(·.1)) hm)
    show (if x.1 = k then (x.1,e) else x) :: setT l k e = x :: l.set i (k,e)
    rw [if_neg hne,set_idx hn.2 h]
theorem erase_other {l:List (Ky × En)} {k:Ky} (h:k ∉ l.map (·.1)):eraseT l k = l:=by
  unfold eraseT
  rw [List.filter_eq_self]
  intro x hx
  exact decide_eq_true (fun q=>h (q ▸ List.mem_map_of_mem (f:=(·.1)) hx))
theorem erase_idx {k:Ky} {d:En}:∀ {l:List (Ky × En)} {i:Nat},(l.map (·.1)).Nodup→l[i]? = some (k,d)→eraseT l k = l.eraseIdx i
  | [],i,_,h=>by simp at h
  | x :: l,0,hn,h=>by
    simp only [List.getElem?_cons_zero,Option.some.injEq] at h
    subst h
    simp only [List.map_cons,List.nodup_cons] at hn
    show ((k,d) :: l).filter (fun x=>decide (x.1≠k)) = l
    rw [List.filter_cons,if_neg (by simp)]
    exact erase_other hn.1
  | x :: l,i + 1,hn,h=>by
    simp only [List.getElem?_cons_succ] at h
    simp only [List.map_cons,List.nodup_cons] at hn
    have hm:(k,d)∈l:=List.mem_of_getElem? h
    have hne:x.1≠k:=fun q=>hn.1 (q ▸ List.mem_map_of_mem (f:=(·.1)) hm)
    have ih:=erase_idx hn.2 h
    show (x :: l).filter (fun x=>decide (x.1≠k)) = x :: l.eraseIdx i
    rw [List.filter_cons,if_pos (decide_eq_true hne)]
    exact congrArg (x :: ·) ih
theorem open_of:∀ l:List (Ky × En),sumL vOpen (l.map rE) = openN l
  | []=>rfl
  | x :: l=>by
    have e1:sumL vOpen ((x :: l).map rE) = vOpen (rE x) + sumL vOpen (l.map rE):=by unfold sumL;rw [List.map_cons,List.map_cons,List.sum_cons]
    rw [e1,openN_cons,open_of l]
    congr 1
    show (if rGone (rE x) = true then (0:Int) else 1) = if eGone x.2 = true then 0 else 1
    rw [rE_gone]
theorem size_of:∀ {l:List (Ky × En)},(∀ x∈l,EI x.2)→sumL vLen (l.map rE) = sizeN l
  | [],_=>rfl
  | x :: l,h=>by
    have e1:sumL vLen ((x :: l).map rE) = vLen (rE x) + sumL vLen (l.map rE):=by unfold sumL;rw [List.map_cons,List.map_cons,List.sum_cons]
    have e2:sizeN (x :: l) = lenSum (ePcs x.2) + sizeN l:=by unfold sizeN;rw [List.map_cons,List.sum_cons]
    rw [e1,e2,size_of (fun y hy=>h y (List.mem_cons_of_mem _ hy))]
    congr 1
    show lenSum (rPcs (rE x)) = _
    rw [rE_pcs (h x (List.mem_cons_self ..))]
theorem gone_of (k:Ky) (d:En):goneR (rE (k,d)) = rE (k,goneE d):=by
  show (rKey (rE (k,d)),rBeg (rE (k,d)),true,[],0,0,()) = rE (k,goneE d)
  rw [rE_key,rE_beg]
  rfl
theorem first_of {l:List (Ky × En)}:firstX (l.map rE) = l.findIdx? (fun x=>!eGone x.2):=by
  unfold firstX
  rw [List.findIdx?_map]
  congr 1
  funext x
  show (!rGone (rE x)) = _
  rw [rE_gone]
theorem limit_of {l:List (Ky × En)} (hn:(l.map (·.1)).Nodup):limX (l.map rE) = (limitT l).map rE:=by
  unfold limX limitT
  rw [open_of,first_of]
  by_cases h:openN l≤32
  · rw [if_neg (by omega),if_pos h]
  · rw [if_pos (by omega),if_neg h]
    cases hq:l.findIdx? (fun x=>!eGone x.2) with
    | none=>
      have:firstT l = none:=by
        unfold firstT
        rw [List.find?_eq_none]
        rw [List.findIdx?_eq_none_iff] at hq
        intro x hx
        rw [hq x hx]
        exact Bool.false_ne_true
      rw [this]
    | some i=>
      obtain ⟨hi,h1,h2⟩:=List.findIdx?_eq_some_iff_getElem.1 hq
      have hf:firstT l = some l[i]:=by
        unfold firstT
        rw [List.find?_eq_some_iff_getElem]
        exact ⟨h1,i,hi,rfl,fun j hj=>by have:=h2 j hj;simpa using this⟩
      rw [hf]
      have hg:(l.map rE).getD i rD = rE l[i]:=by rw [List.getD_eq_getElem?_getD,List.getElem?_map,List.getElem?_eq_getElem hi];rfl
      show (l.map rE).set i (goneR ((l.map rE).getD i rD)) = (setT l l[i].1 (goneE l[i].2)).map rE
      rw [hg,set_idx (d:=l[i].2) hn (by rw [List.getElem?_eq_getElem hi]),List.map_set]
      exact congrArg (fun z=>(l.map rE).set i z) (gone_of l[i].1 l[i].2)
end Go.Proofs.Ytfaplilocljknaa.Fx
