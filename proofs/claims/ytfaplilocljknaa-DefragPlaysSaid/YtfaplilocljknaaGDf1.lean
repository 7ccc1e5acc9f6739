import Derived.Test.YtfaplilocljknaaGFw14
import Derived.Test.YtfaplilocljknaaGOv3
import Derived.Test.YtfaplilocljknaaGEv1
set_option linter.all false
namespace Go.Df
open Go Go.Fw Go.Ov
abbrev aT:Ty:=.cons .bool (.cons (.int .u64) (.cons (.int .u64) .nil))
abbrev A:=Bool × Int × Int × Unit
abbrev fT:Ty:=.cons aT (.cons aT (.cons (.int .i64) (.cons (.int .i64) (.cons (.int .i64) (.cons (.int .i64) (.cons .bool (.cons .str .nil)))))))
abbrev Fg:=A × A × Int × Int × Int × Int × Bool × List UInt8 × Unit
abbrev kT:Ty:=.cons aT (.cons aT (.cons (.int .i64) (.cons (.int .i64) .nil)))
abbrev Ky:=A × A × Int × Int × Unit
abbrev eT:Ty:=.cons (.int .i64) (.cons (.int .i64) (.cons .bool (.cons (.list pT) (.cons (.int .i64) (.cons (.int .i64) .nil)))))
abbrev En:=Int × Int × Bool × List Pc × Int × Int × Unit
abbrev fSrc (f:Fg):A:=f.1
abbrev fDst (f:Fg):A:=f.2.1
abbrev fPro (f:Fg):Int:=f.2.2.1
abbrev fId (f:Fg):Int:=f.2.2.2.1
abbrev fTtl (f:Fg):Int:=f.2.2.2.2.1
abbrev fOff (f:Fg):Int:=f.2.2.2.2.2.1
abbrev fMore (f:Fg):Bool:=f.2.2.2.2.2.2.1
abbrev fData (f:Fg):List UInt8:=f.2.2.2.2.2.2.2.1
abbrev avC (a:A):List AV:=[.bool a.1,.int .u64 a.2.1,.int .u64 a.2.2.1]
abbrev fgC (f:Fg):List AV:=[.bool (fSrc f).1,.int .u64 (fSrc f).2.1,.int .u64 (fSrc f).2.2.1,.bool (fDst f).1,.int .u64 (fDst f).2.1,.int .u64 (fDst f).2.2.1,.int .i64 (fPro f),.int .i64 (fId f),.int .i64 (fTtl f),.int .i64 (fOff f),.bool (fMore f),.str (fData f)]
abbrev fv (f:Fg):AV:=.agg (fgC f)
abbrev keyF (f:Fg):Ky:=(fSrc f,fDst f,fPro f,fId f,())
abbrev eBeg (e:En):Int:=e.1
abbrev eOrd (e:En):Int:=e.2.1
abbrev eGone (e:En):Bool:=e.2.2.1
abbrev ePcs (e:En):List Pc:=e.2.2.2.1
abbrev eTtl (e:En):Int:=e.2.2.2.2.1
abbrev eEnd (e:En):Int:=e.2.2.2.2.2.1
abbrev enC (e:En):List AV:=[.int .i64 (eBeg e),.int .i64 (eOrd e),.bool (eGone e),.list pT (ePcs e),.int .i64 (eTtl e),.int .i64 (eEnd e)]
abbrev dfK:FK Ky En:=boxK kT eT rfl
abbrev dfV:FV dfK:=boxV kT eT rfl
abbrev DL:=List (Ent Ky En)
structure Tb where
  timeout:Int
  time:Int
  conf:Int
  ord:Int
  l:List (Ky × En)
def datE (s:ES En):Option En:=match s with|.own d _ _=>some d|_=>none
structure Fits (L:DL) (clock:Nat) (l:List (Ky × En)):Prop where
  eq:L.map (fun E=>(E.k,datE E.s)) = l.map (fun x=>(x.1,some x.2))
  born:(L.map Ent.born).Nodup
  lt:∀ E∈L,E.born < clock
abbrev tbC (tb:Tb) (j:Nat):List AV:=[.int .i64 tb.timeout,.int .i64 tb.time,.int .i64 tb.conf,.int .i64 tb.ord,.ex (mapV j)]
abbrev tbH (tb:Tb) (L:DL) (clock:Nat):List (Nat × Chunk):=[(0,.box (tbC tb 1)),(1,.ext (mapX dfV [] L clock))]
theorem datE_own {s:ES En} {d:En} (h:datE s = some d):∃ p c,s = .own d p c:=by
  cases s with
  | own d' p c=>simp only [datE,Option.some.injEq] at h;subst h;exact ⟨p,c,rfl⟩
  | out d' e p c=>cases h
  | gone=>cases h
theorem Fits.own {L:DL} {clock:Nat} {l:List (Ky × En)} (h:Fits L clock l) {E:Ent Ky En} (hE:E∈L):∃ k d p c b,E = ⟨k,.own d p c,b⟩∧(k,d)∈l:=by
  have hm:(E.k,datE E.s)∈L.map (fun E=>(E.k,datE E.s)):=List.mem_map_of_mem hE
  rw [h.eq] at hm
  obtain ⟨x,hx,he⟩:=List.mem_map.1 hm
  simp only [Prod.mk.injEq] at he
  obtain ⟨p,c,hs⟩:=datE_own he.2.symm
  obtain ⟨k,s,b⟩:=E
  simp only at hs he
  subst hs
  exact ⟨k,x.2,p,c,b,rfl,by rw [← he.1];exact hx⟩
theorem Fits.mem {L:DL} {clock:Nat} {l:List (Ky × En)} (h:Fits L clock l) {x:Ky × En} (hx:x∈l):∃ E∈L,E.k = x.1∧datE E.s = some x.2:=by
  have hm:(x.1,some x.2)∈l.map (fun x=>(x.1,some x.2)):=List.mem_map_of_mem (f:=fun x=>(x.1,some x.2)) hx
  rw [← h.eq] at hm
  obtain ⟨E,hE,he⟩:=List.mem_map.1 hm
  simp only [Prod.mk.injEq] at he
  exact ⟨E,hE,he.1,he.2⟩
theorem Fits.outs {L:DL} {clock:Nat} {l:List (Ky × En)} (h:Fits L clock l):outsL L = []:=by
  unfold outsL
  rw [List.flatMap_eq_nil_iff]
  intro E hE
  obtain ⟨k,d,p,c,b,rfl,_⟩:=h.own hE
  rfl
theorem Fits.keys {L:DL} {clock:Nat} {l:List (Ky × En)} (h:Fits L clock l):L.map Ent.k = l.map (·.1):=by
  have:=congrArg (List.map (·.1)) h.eq
  simpa [List.map_map,Function.comp_def] using this
theorem Fits.find {L:DL} {clock:Nat} {l:List (Ky × En)} (h:Fits L clock l) (hn:(l.map (·.1)).Nodup) {k:Ky} {d:En} {p c b:Nat} (hE:(⟨k,.own d p c,b⟩:Ent Ky En)∈L):findE L k = some ⟨k,.own d p c,b⟩∧(L.map Ent.k).Nodup:=
  ⟨find_in hE (by rw [h.keys];exact hn),by rw [h.keys];exact hn⟩
theorem Fits.length {L:DL} {clock:Nat} {l:List (Ky × En)} (h:Fits L clock l):L.length = l.length:=by
  have:=congrArg List.length h.eq
  simpa using this
theorem Fits.nil:Fits [] 0 []:=⟨rfl,by simp,by simp⟩
def enD:En:=(0,0,false,[],0,0,())
def valE (v:En→Int) (E:Ent Ky En):Int:=match datE E.s with|some d=>v d|none=>0
theorem Fits.sum {L:DL} {clock:Nat} {l:List (Ky × En)} (h:Fits L clock l) (v:En→Int):(L.map (valE v)).sum = (l.map (fun x=>v x.2)).sum:=by
  have h1:=congrArg (List.map (fun x:Ky × Option En=>match x.2 with|some d=>v d|none=>0)) h.eq
  simp only [List.map_map,Function.comp_def] at h1
  rw [show L.map (valE v) = L.map (fun E=>match datE E.s with|some d=>v d|none=>0) from rfl,h1]
abbrev openB (e:En):Int:=if eGone e then 0 else 1
def openN (l:List (Ky × En)):Int:=(l.map fun x=>openB x.2).sum
def sizeN (l:List (Ky × En)):Int:=(l.map fun x=>lenSum (ePcs x.2)).sum
end Go.Df
namespace Go.Df
open Go Go.Fw Go.Ov
def keepS (q:Ent Ky En→Bool) (L:DL) (seen:List Nat):DL:=L.filter fun E=>!(decide (E.born∈seen) && q E)
theorem keepS_nil (q:Ent Ky En→Bool) (L:DL):keepS q L [] = L:=by
  unfold keepS
  rw [List.filter_eq_self]
  intro E _;simp
theorem keepS_sub (q:Ent Ky En→Bool) (L:DL) (seen:List Nat):(keepS q L seen).Sublist L:=List.filter_sublist
theorem born_inj {L:DL} (hb:(L.map Ent.born).Nodup):∀ {E E':Ent Ky En},E∈L→E'∈L→E.born = E'.born→E = E':=by
  induction L with
  | nil=>intro E E' h;simp at h
  | cons x L ih=>
    intro E E' hE hE' he
    simp only [List.map_cons,List.nodup_cons] at hb
    rcases List.mem_cons.1 hE with e1|g1
    · rcases List.mem_cons.1 hE' with e2|g2
      · rw [e1,e2]
      · exact absurd (e1 ▸ he ▸ List.mem_map_of_mem g2) hb.1
    · rcases List.mem_cons.1 hE' with e2|g2
      · exact absurd (e2 ▸ he ▸ List.mem_map_of_mem g1) hb.1
      · exact ih hb.2 g1 g2 he
theorem key_inj {L:DL} (hb:(L.map Ent.k).Nodup):∀ {E E':Ent Ky En},E∈L→E'∈L→E.k = E'.k→E = E':=by
  induction L with
  | nil=>intro E E' h;simp at h
  | cons x L ih=>
    intro E E' hE hE' he
    simp only [List.map_cons,List.nodup_cons] at hb
    rcases List.mem_cons.1 hE with e1|g1
    · rcases List.mem_cons.1 hE' with e2|g2
      · rw [e1,e2]
      · exact absurd (e1 ▸ he ▸ List.mem_map_of_mem g2) hb.1
    · rcases List.mem_cons.1 hE' with e2|g2
      · exact absurd (e2 ▸ he ▸ List.mem_map_of_mem g1) hb.1
      · exact ih hb.2 g1 g2 he
theorem keepS_keep {q:Ent Ky En→Bool} {L:DL} {seen:List Nat} {E:Ent Ky En} (hb:(L.map Ent.born).Nodup) (hE:E∈L) (hq:q E = false):keepS q L (seen ++ [E.born]) = keepS q L seen:=by
  unfold keepS
  apply List.filter_congr
  intro x hx
  by_cases e:x.born = E.born
  · have:=born_inj hb hx hE e
    subst this
    simp [hq]
  · simp [e]
theorem keepS_del {q:Ent Ky En→Bool} {L:DL} {seen:List Nat} {E:Ent Ky En} (hb:(L.map Ent.born).Nodup) (hk:(L.map Ent.k).Nodup) (hE:E∈L) (hq:q E = true):keepS q L (seen ++ [E.born]) = eraseE (keepS q L seen) E.k:=by
  unfold keepS eraseE
  rw [List.filter_filter]
  apply List.filter_congr
  intro x hx
  by_cases e:x.born = E.born
  · have:=born_inj hb hx hE e
    subst this
    simp [hq]
  · have:x.k≠E.k:=fun h=>e (by rw [key_inj hk hx hE h])
    simp [e,this]
theorem keepS_all {q:Ent Ky En→Bool} {L:DL} {seen:List Nat} (h:∀ E∈keepS q L seen,E.born∈seen):(∀ E∈L,E.born∈seen)∧keepS q L seen = L.filter fun E=>!q E:=by
  have h1:∀ E∈L,E.born∈seen:=fun E hE=>Classical.byContradiction fun hn=>hn (h E (List.mem_filter.2 ⟨hE,by simp [hn]⟩))
  refine ⟨h1,?_⟩
  unfold keepS
  apply List.filter_congr
  intro x hx
  simp [h1 x hx]
def valB (q:En→Bool) (E:Ent Ky En):Bool:=match datE E.s with|some d=>q d|none=>false
theorem Fits.filter {L:DL} {clock:Nat} {l:List (Ky × En)} (h:Fits L clock l) (q:En→Bool):Fits (L.filter fun E=>!valB q E) clock (l.filter fun x=>!q x.2):=by
  refine ⟨?_,(List.filter_sublist.map _).nodup h.born,fun E hE=>h.lt E (List.mem_filter.1 hE).1⟩
  have key:∀ (L:DL) (l:List (Ky × En)),L.map (fun E=>(E.k,datE E.s)) = l.map (fun x=>(x.1,some x.2))→(L.filter fun E=>!valB q E).map (fun E=>(E.k,datE E.s)) = (l.filter fun x=>!q x.2).map (fun x=>(x.1,some x.2)):=by
    intro L
    induction L with
    | nil=>intro l h;cases l with
      | nil=>rfl
      | cons=>simp at h
    | cons E L ih=>
      intro l h
      cases l with
      | nil=>simp at h
      | cons x l=>
        simp only [List.map_cons,List.cons.injEq] at h
        have hq:valB q E = q x.2:=by
          have h2:=congrArg Prod.snd h.1
          simp only at h2
          unfold valB
          rw [h2]
        rw [List.filter_cons,List.filter_cons,hq]
        split
        · simp only [List.map_cons,h.1,ih l h.2]
        · exact ih l h.2
  exact key L l h.eq
theorem conv_map {κ δ:Type} [DecidableEq κ] {F:FK κ δ} {V:FV F} {os os':List Nat} {L L':List (Ent κ δ)} {clock:Nat} (e:L = L') (ho:∀ x∈outsL L',x∈os'):Conv (.ext (mapX V os L clock)) (.ext (mapX V os' L' clock)):=by
  subst e
  refine ⟨fun φ R w id h=>?_,fun _ _ _ h=>h⟩
  rcases h with ⟨_,h⟩|⟨b,cap,o,h1,h2,⟨es,L2,h3,h4,h5,h6,h7⟩,h8⟩
  · exact h.elim
  · exact .inr ⟨b,cap,o,h1,h2,⟨es,L2,h3,h4,h5,h6,ho⟩,h8⟩
def expB (tb:Tb) (at_:Int) (e:En):Bool:=decide (eBeg e≤at_ - tb.timeout)
def moveT (tb:Tb) (at_:Int):Tb:={ tb with time:=at_,l:=tb.l.filter fun x=>!expB tb at_ x.2 }
def moveN (tb:Tb) (at_:Int):Int:=(tb.l.map fun x=>if expB tb at_ x.2 && !eGone x.2 then (1:Int) else 0).sum
end Go.Df
namespace Go.Df
open Go Go.Fw Go.Ov
def lastE (l:List Pc):Int:=if l = [] then 0 else endP (l.getD (l.length - 1) (Ty.dflt pT))
def fitsB (e:En) (f:Fg):Bool:=
  if eEnd e≥0∧(fOff f + (fData f).length > eEnd e∨(fMore f = false∧fOff f + (fData f).length≠eEnd e)) then false
  else fMore f || decide (lastE (ePcs e)≤fOff f + (fData f).length)
def chkE (f:Fg) (pol:Int):Int:=
  if fOff f < 0∨fOff f > 65535∨fOff f + (fData f).length > 65535∨pol < 1∨pol > 5 then 4
  else if fData f = []∨(fOff f).tmod 8≠0∨(fMore f = true∧((fData f).length:Int).tmod 8≠0) then 2
  else 0
def goneE (d:En):En:=(eBeg d,eOrd d,true,[],eTtl d,eEnd d,())
def findT (l:List (Ky × En)) (k:Ky):Option En:=(l.find? fun x=>decide (x.1 = k)).map (·.2)
def setT (l:List (Ky × En)) (k:Ky) (e:En):List (Ky × En):=l.map fun x=>if x.1 = k then (x.1,e) else x
def eraseT (l:List (Ky × En)) (k:Ky):List (Ky × En):=l.filter fun x=>decide (x.1≠k)
def firstT (l:List (Ky × En)):Option (Ky × En):=l.find? fun x=>!eGone x.2
def limitT (l:List (Ky × En)):List (Ky × En):=if openN l≤32 then l else match firstT l with|some x=>setT l x.1 (goneE x.2)|none=>l
abbrev dgC (s d:A) (pro ttl:Int) (data:List UInt8):List AV:=[.bool s.1,.int .u64 s.2.1,.int .u64 s.2.2.1,.bool d.1,.int .u64 d.2.1,.int .u64 d.2.2.1,.int .i64 pro,.int .i64 ttl,.str data]
abbrev Rs:=(A × A × Int × Int × List UInt8) × Bool × Int
abbrev zA:A:=(false,0,0,())
abbrev failR (e:Int):Rs:=((zA,zA,0,0,[]),false,e)
abbrev okR (s d:A) (pro ttl:Int) (data:List UInt8):Rs:=((s,d,pro,ttl,data),true,0)
abbrev resV (r:Rs):AV:=.tup [.agg (dgC r.1.1 r.1.2.1 r.1.2.2.1 r.1.2.2.2.1 r.1.2.2.2.2),.bool r.2.1,.int .i64 r.2.2]
abbrev pcF (f:Fg):Pc:=(fOff f,fData f,0,0,())
def entD (d:En) (f:Fg) (pol:Int):En:=(eBeg d,eOrd d,false,(insR (ePcs d) (pcF f) pol).1,min (eTtl d) (fTtl f),if fMore f then eEnd d else fOff f + (fData f).length,())
def coreT (tb:Tb) (f:Fg) (pol:Int) (d:En) (known:Bool):Rs × Tb:=
  if eGone d = true then (failR 20,tb) else
  if fitsB d f = false then (failR 2,tb) else
  if (insR (ePcs d) (pcF f) pol).2.2≠0 then (failR (insR (ePcs d) (pcF f) pol).2.2,if (insR (ePcs d) (pcF f) pol).2.2 = 17∧known = true then { tb with l:=setT tb.l (keyF f) (goneE d) } else tb) else
  if eEnd (entD d f pol)≥0∧((takeF (ePcs (entD d f pol)) 0).1.length:Int) = eEnd (entD d f pol) then
    (okR (fSrc f) (fDst f) (fPro f) (eTtl (entD d f pol)) (takeF (ePcs (entD d f pol)) 0).1,{ tb with conf:=tb.conf + (insR (ePcs d) (pcF f) pol).2.1,ord:=if known then tb.ord else tb.ord + 1,l:=eraseT tb.l (keyF f) })
  else (failR 0,{ tb with conf:=tb.conf + (insR (ePcs d) (pcF f) pol).2.1,ord:=if known then tb.ord else tb.ord + 1,l:=limitT (if known then setT tb.l (keyF f) (entD d f pol) else tb.l ++ [(keyF f,entD d f pol)]) })
def newD (tb:Tb) (f:Fg):En:=(tb.time,tb.ord,false,[],fTtl f,-1,())
def addT (tb:Tb) (at_:Int) (f:Fg) (pol:Int):Rs × Tb:=
  if at_ < tb.time∨at_ > 1099511627776 then (failR 12,tb) else
  if fOff f = 0∧fMore f = false then (okR (fSrc f) (fDst f) (fPro f) (fTtl f) (fData f),moveT tb at_) else
  if chkE f pol≠0 then (failR (chkE f pol),moveT tb at_) else
  match findT (moveT tb at_).l (keyF f) with
  | some d=>coreT (moveT tb at_) f pol d true
  | none=>coreT (moveT tb at_) f pol (newD (moveT tb at_) f) false
theorem find_fits {L:DL} {clock:Nat} {l:List (Ky × En)} (h:Fits L clock l) (k:Ky):(findE L k).map (fun E=>datE E.s) = (findT l k).map some:=by
  have key:∀ (L:DL) (l:List (Ky × En)),L.map (fun E=>(E.k,datE E.s)) = l.map (fun x=>(x.1,some x.2))→(findE L k).map (fun E=>datE E.s) = (findT l k).map some:=by
    intro L
    induction L with
    | nil=>intro l h;cases l with
      | nil=>rfl
      | cons=>simp at h
    | cons E L ih=>
      intro l h
      cases l with
      | nil=>simp at h
      | cons x l=>
        simp only [List.map_cons,List.cons.injEq,Prod.mk.injEq] at h
        have ih:=ih l h.2
        unfold findE findT at ih ⊢
        rw [List.find?_cons,List.find?_cons,h.1.1]
        by_cases e:x.1 = k
        · simp [e,h.1.2]
        · simp only [e,decide_false];exact ih
  exact key L l h.eq
theorem fits_some {L:DL} {clock:Nat} {l:List (Ky × En)} (h:Fits L clock l) {k:Ky} {d:En} (hf:findT l k = some d):∃ p c b,findE L k = some ⟨k,.own d p c,b⟩:=by
  have h1:=find_fits h k
  rw [hf] at h1
  simp only [Option.map_some,Option.map_eq_some_iff] at h1
  obtain ⟨E,h2,h3⟩:=h1
  obtain ⟨p,c,h4⟩:=datE_own h3
  obtain ⟨h5,h6⟩:=findE_mem h2
  obtain ⟨k',s,b⟩:=E
  simp only at h4 h6
  subst h4;subst h6
  exact ⟨p,c,b,h2⟩
theorem fits_none {L:DL} {clock:Nat} {l:List (Ky × En)} (h:Fits L clock l) {k:Ky} (hf:findT l k = none):findE L k = none:=by
  have h1:=find_fits h k
  rw [hf] at h1
  simpa using h1
theorem Fits.set {L:DL} {clock:Nat} {l:List (Ky × En)} (h:Fits L clock l) (k:Ky) (d:En) (p c:Nat):Fits (turnE L k (.own d p c)) clock (setT l k d):=by
  refine ⟨?_,by rw [turnE_borns];exact h.born,fun E hE=>?_⟩
  · unfold turnE setT
    have key:∀ (L:DL) (l:List (Ky × En)),L.map (fun E=>(E.k,datE E.s)) = l.map (fun x=>(x.1,some x.2))→
        (L.map fun E=>if E.k = k then { E with s:=.own d p c } else E).map (fun E=>(E.k,datE E.s)) = (l.map fun x=>if x.1 = k then (x.1,d) else x).map (fun x=>(x.1,some x.2)):=by
      intro L
      induction L with
      | nil=>intro l h;cases l with
        | nil=>rfl
        | cons=>simp at h
      | cons E L ih=>
        intro l h
        cases l with
        | nil=>simp at h
        | cons x l=>
          simp only [List.map_cons,List.cons.injEq,Prod.mk.injEq] at h ⊢
          refine ⟨?_,ih l h.2⟩
          by_cases e:x.1 = k
          · simp [e,h.1.1,datE]
          · simp [e,h.1.1,h.1.2]
    exact key L l h.eq
  · have:E.born∈(turnE L k (.own d p c)).map Ent.born:=List.mem_map_of_mem hE
    rw [turnE_borns] at this
    obtain ⟨E',h1,h2⟩:=List.mem_map.1 this
    rw [← h2];exact h.lt E' h1
theorem Fits.erase {L:DL} {clock:Nat} {l:List (Ky × En)} (h:Fits L clock l) (k:Ky):Fits (eraseE L k) clock (eraseT l k):=by
  refine ⟨?_,(List.filter_sublist.map _).nodup h.born,fun E hE=>h.lt E (List.mem_filter.1 hE).1⟩
  have key:∀ (L:DL) (l:List (Ky × En)),L.map (fun E=>(E.k,datE E.s)) = l.map (fun x=>(x.1,some x.2))→(eraseE L k).map (fun E=>(E.k,datE E.s)) = (eraseT l k).map (fun x=>(x.1,some x.2)):=by
    intro L
    induction L with
    | nil=>intro l h;cases l with
      | nil=>rfl
      | cons=>simp at h
    | cons E L ih=>
      intro l h
      cases l with
      | nil=>simp at h
      | cons x l=>
        simp only [List.map_cons,List.cons.injEq,Prod.mk.injEq] at h
        have ih:=ih l h.2
        unfold eraseE eraseT at ih ⊢
        rw [List.filter_cons,List.filter_cons,h.1.1]
        by_cases e:x.1 = k
        · simp only [e,ne_eq,not_true,decide_false,Bool.false_eq_true,if_false];exact ih
        · simp only [e,ne_eq,not_false_eq_true,decide_true,if_true,List.map_cons,ih,h.1.1,h.1.2]
  exact key L l h.eq
theorem Fits.add {L:DL} {clock:Nat} {l:List (Ky × En)} (h:Fits L clock l) (k:Ky) (d:En) (p c:Nat):Fits (L ++ [⟨k,.own d p c,clock⟩]) (clock + 1) (l ++ [(k,d)]):=by
  refine ⟨by rw [List.map_append,List.map_append,h.eq];rfl,?_,fun E hE=>?_⟩
  · rw [List.map_append,List.nodup_append]
    refine ⟨h.born,by simp,fun x hx y hy e=>?_⟩
    simp only [List.map_cons,List.map_nil,List.mem_singleton] at hy
    subst e;subst hy
    obtain ⟨E,hE,he⟩:=List.mem_map.1 hx
    have:=h.lt E hE
    omega
  · rcases List.mem_append.1 hE with hE|hE
    · have:=h.lt E hE;omega
    · simp only [List.mem_singleton] at hE
      subst hE;exact Nat.lt_succ_self _
end Go.Df
namespace Go.Df
open Go Go.Fw Go.Ov
theorem find_other {κ δ:Type} [DecidableEq κ] {L:List (Ent κ δ)} {k k':κ} {s:ES δ} (h:k≠k'):findE (turnE L k' s) k = findE L k:=by
  unfold findE turnE
  induction L with
  | nil=>rfl
  | cons E L ih=>
    rw [List.map_cons,List.find?_cons,List.find?_cons,ih]
    by_cases e:E.k = k'
    · have:E.k≠k:=fun q=>h (q.symm.trans e)
      simp [e,h.symm]
    · rw [if_neg e]
abbrev Fc:=Ky × En × Nat × Nat × Nat
abbrev fcE (x:Fc):Ent Ky En:=⟨x.1,.own x.2.1 x.2.2.1 x.2.2.2.1,x.2.2.2.2⟩
def fpAV (x:Option Fc):AV:=match x with|some x=>.ex (ptrX x.2.2.1)|none=>.nilp
def befE (a b:En):Prop:=eBeg a < eBeg b∨(eBeg a = eBeg b∧eOrd a≤eOrd b)
def openE (E:Ent Ky En):Prop:=∃ d,datE E.s = some d∧eGone d = false
def FirstOK (L:DL) (seen:List Nat):Option Fc→Prop
  | none=>∀ E∈L,E.born∈seen→∀ d,datE E.s = some d→eGone d = true
  | some x=>fcE x∈L∧x.2.2.2.2∈seen∧eGone x.2.1 = false∧∀ E∈L,E.born∈seen→∀ d,datE E.s = some d→eGone d = false→befE x.2.1 d
theorem first_keep_none {L:DL} {seen:List Nat} {k:Ky} {d:En} {p c b:Nat} (hb:(L.map Ent.born).Nodup) (h:FirstOK L seen none) (hE:(⟨k,.own d p c,b⟩:Ent Ky En)∈L) (hg:eGone d = true):FirstOK L (seen ++ [b]) none:=by
  intro E hE' hs d' hd'
  rcases List.mem_append.1 hs with hs|hs
  · exact h E hE' hs d' hd'
  · simp only [List.mem_singleton] at hs
    have:=born_inj hb hE' hE hs
    subst this
    simp only [datE,Option.some.injEq] at hd'
    subst hd';exact hg
theorem first_new {L:DL} {seen:List Nat} {k:Ky} {d:En} {p c b:Nat} (hb:(L.map Ent.born).Nodup) (h:FirstOK L seen none) (hE:(⟨k,.own d p c,b⟩:Ent Ky En)∈L) (hg:eGone d = false):FirstOK L (seen ++ [b]) (some (k,d,p,c,b)):=by
  refine ⟨hE,by simp,hg,fun E hE' hs d' hd' hg'=>?_⟩
  rcases List.mem_append.1 hs with hs|hs
  · rw [h E hE' hs d' hd'] at hg';cases hg'
  · simp only [List.mem_singleton] at hs
    have:=born_inj hb hE' hE hs
    subst this
    simp only [datE,Option.some.injEq] at hd'
    subst hd'
    exact .inr ⟨rfl,Int.le_refl _⟩
theorem first_keep {L:DL} {seen:List Nat} {x:Fc} {k:Ky} {d:En} {p c b:Nat} (hb:(L.map Ent.born).Nodup) (h:FirstOK L seen (some x)) (hE:(⟨k,.own d p c,b⟩:Ent Ky En)∈L) (hg:eGone d = true∨befE x.2.1 d):FirstOK L (seen ++ [b]) (some x):=by
  refine ⟨h.1,List.mem_append_left _ h.2.1,h.2.2.1,fun E hE' hs d' hd' hg'=>?_⟩
  rcases List.mem_append.1 hs with hs|hs
  · exact h.2.2.2 E hE' hs d' hd' hg'
  · simp only [List.mem_singleton] at hs
    have:=born_inj hb hE' hE hs
    subst this
    simp only [datE,Option.some.injEq] at hd'
    subst hd'
    rcases hg with h|h
    · rw [h] at hg';cases hg'
    · exact h
theorem first_turn {L:DL} {seen:List Nat} {x:Fc} {k:Ky} {d:En} {p c b:Nat} (hb:(L.map Ent.born).Nodup) (h:FirstOK L seen (some x)) (hE:(⟨k,.own d p c,b⟩:Ent Ky En)∈L) (hg:eGone d = false) (hx:befE d x.2.1):FirstOK L (seen ++ [b]) (some (k,d,p,c,b)):=by
  refine ⟨hE,by simp,hg,fun E hE' hs d' hd' hg'=>?_⟩
  rcases List.mem_append.1 hs with hs|hs
  · have:=h.2.2.2 E hE' hs d' hd' hg'
    unfold befE at *
    show eBeg d < eBeg d'∨(eBeg d = eBeg d'∧eOrd d≤eOrd d')
    omega
  · simp only [List.mem_singleton] at hs
    have:=born_inj hb hE' hE hs
    subst this
    simp only [datE,Option.some.injEq] at hd'
    subst hd'
    exact .inr ⟨rfl,Int.le_refl _⟩
def Sorts (l:List (Ky × En)):Prop:=l.Pairwise fun x y=>eBeg x.2≤eBeg y.2∧eOrd x.2 < eOrd y.2
theorem first_is {l:List (Ky × En)} (hs:Sorts l) {k:Ky} {d:En} (hm:(k,d)∈l) (hg:eGone d = false) (hmin:∀ x∈l,eGone x.2 = false→befE d x.2):firstT l = some (k,d):=by
  unfold firstT
  induction l with
  | nil=>simp at hm
  | cons x l ih=>
    unfold Sorts at hs ih
    rw [List.pairwise_cons] at hs
    rw [List.find?_cons]
    cases hx:eGone x.2 with
    | true=>
      simp only [Bool.not_true]
      rcases List.mem_cons.1 hm with e|hm
      · rw [← e] at hx;rw [hx] at hg;cases hg
      · exact ih hs.2 hm (fun y hy=>hmin y (List.mem_cons_of_mem _ hy))
    | false=>
      simp only [Bool.not_false]
      have h1:=hmin x (List.mem_cons_self ..) hx
      rcases List.mem_cons.1 hm with e|hm
      · rw [e]
      · have h2:=hs.1 _ hm
        unfold befE at h1
        simp only at h2
        omega
theorem openN_pos {l:List (Ky × En)} (h:0 < openN l):∃ x∈l,eGone x.2 = false:=by
  refine Classical.byContradiction fun hn=>?_
  have:openN l = 0:=by
    unfold openN
    have:∀ (l:List (Ky × En)),(∀ x∈l,eGone x.2 = true)→(l.map fun x=>openB x.2).sum = 0:=by
      intro l
      induction l with
      | nil=>intro _;rfl
      | cons x l ih=>
        intro h
        rw [List.map_cons,List.sum_cons,ih (fun y hy=>h y (List.mem_cons_of_mem _ hy))]
        simp [openB,h x (List.mem_cons_self ..)]
    exact this l (fun x hx=>Classical.byContradiction fun q=>hn ⟨x,hx,by simpa using q⟩)
  omega
end Go.Df
