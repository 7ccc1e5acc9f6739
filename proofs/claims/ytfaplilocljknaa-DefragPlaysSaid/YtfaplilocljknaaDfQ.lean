import Derived.Test.YtfaplilocljknaaDfP
import Derived.Test.YtfaplilocljknaaGDf2
set_option linter.all false
namespace Go.Proofs.Ytfaplilocljknaa.Fx
open Go Go.Fw Go.Ov Go.Df
theorem map_erase {α β:Type} (f:α→β):∀ (l:List α) (i:Nat),(l.map f).eraseIdx i = (l.eraseIdx i).map f
  | [],i=>rfl
  | _ :: _,0=>rfl
  | x :: l,i + 1=>congrArg (f x :: ·) (map_erase f l i)
theorem last_all {l:List Pc} (hv:Valid l) {E:Int} (hE:0≤E):l.all (fun p=>decide (endP p≤E)) = decide (lastE l≤E):=by
  rw [Bool.eq_iff_iff,List.all_eq_true,decide_eq_true_eq]
  unfold lastE
  split
  · rename_i h;subst h;simp [hE]
  · rename_i hne
    have hl:(l.length - 1) < l.length:=by
      have:l.length≠0:=fun q=>hne (List.length_eq_zero_iff.1 q)
      omega
    have hm:l.getD (l.length - 1) (Ty.dflt pT)∈l:=getD_mem hl
    constructor
    · intro h;exact of_decide_eq_true (h _ hm)
    · intro h p hp
      obtain ⟨j,hj,rfl⟩:=List.getElem_of_mem hp
      rw [decide_eq_true_eq]
      by_cases e:j = l.length - 1
      · have:l.getD (l.length - 1) (Ty.dflt pT) = l[j]:=by subst e;rw [List.getD_eq_getElem?_getD,List.getElem?_eq_getElem hj];rfl
        rw [this] at h;exact h
      · have hp2:=(valid_pw.1 hv).2
        have h1:=List.pairwise_iff_getElem.1 hp2 j (l.length - 1) hj hl (by omega)
        have h2:l.getD (l.length - 1) (Ty.dflt pT) = l[l.length - 1]:=by rw [List.getD_eq_getElem?_getD,List.getElem?_eq_getElem hl];rfl
        rw [h2] at h
        have h3:endP l[l.length - 1] = pa l[l.length - 1] + ((pd l[l.length - 1]).length:Int):=rfl
        omega
theorem fits_of {x:Ky × En} (hx:EI x.2) (hv:Valid (ePcs x.2)) (hg:eGone x.2 = false) {f:Fg} (ho:0≤fOff f):fitsR (rE x) f = fitsB x.2 f:=by
  have hp:=rE_pcs hx
  have he:rEnd (rE x) = max 0 (eEnd x.2):=by unfold rE;rw [if_neg (by rw [hg];decide)]
  have hz:=hx.z
  unfold fitsR fitsB
  rw [he,hp,last_all hv (by show 0≤fOff f + ((fData f).length:Int);omega)]
  have e1:(max 0 (eEnd x.2) > 0∧(endF f > max 0 (eEnd x.2)∨(fMore f = false∧endF f≠max 0 (eEnd x.2)))) ↔ (eEnd x.2≥0∧(fOff f + (fData f).length > eEnd x.2∨(fMore f = false∧fOff f + (fData f).length≠eEnd x.2))):=by
    have e2:endF f = fOff f + (fData f).length:=rfl
    rw [e2]
    rcases hz with hz|hz
    · rw [hz];constructor <;> (rintro ⟨q,_⟩;omega)
    · rw [show max 0 (eEnd x.2) = eEnd x.2 by omega]
      constructor <;> (rintro ⟨_,q⟩;exact ⟨by omega,q⟩)
  by_cases h:eEnd x.2≥0∧(fOff f + (fData f).length > eEnd x.2∨(fMore f = false∧fOff f + (fData f).length≠eEnd x.2))
  · rw [if_pos h,if_pos (e1.2 h)]
  · rw [if_neg h,if_neg (fun q=>h (e1.1 q))]
theorem fits_bd {d:En} {f:Fg} (hz:eEnd d = -1∨0 < eEnd d) (h:fitsB d f = true):(0 < eEnd d→fOff f + (fData f).length≤eEnd d)∧(fMore f = false→lastE (ePcs d)≤fOff f + (fData f).length):=by
  unfold fitsB at h
  split at h
  · cases h
  · rename_i hn
    refine ⟨fun q=>Classical.byContradiction fun q2=>hn ⟨by omega,.inl (by omega)⟩,fun q=>?_⟩
    rw [q,Bool.false_or] at h
    exact of_decide_eq_true h
theorem last_cells {l:List Pc} (hv:Valid l) {E:Int} (hE:0≤E) (h:lastE l≤E):∀ c∈cells l,c.1 < E:=by
  intro c hc
  have ha:=last_all hv hE
  rw [decide_eq_true h,List.all_eq_true] at ha
  obtain ⟨p,hp,hcp⟩:=List.mem_flatMap.1 hc
  have h1:=of_decide_eq_true (ha p hp)
  have h2:=mem_cellsOf hcp
  have h3:endP p = p.1 + (p.2.1.length:Int):=rfl
  omega
theorem ent_ei {d:En} {f:Fg} {pol:Int} (hd:EOk d) (he:EI d) (hc:chkE f pol = 0) (hf:fitsB d f = true) (hi:(insR (ePcs d) (pcF f) pol).2.2 = 0):EI (entD d f pol):=by
  obtain ⟨c1,c2,c3,c4,c5,c6⟩:=chk_ok hc
  have hlen:0 < (fData f).length:=by
    have:(fData f).length≠0:=fun q=>c6 (List.length_eq_zero_iff.1 q)
    omega
  obtain ⟨b1,b2⟩:=fits_bd he.z hf
  have hcells:=insR_cells hd.v (p:=pcF f) (pol:=pol) (by show ((fData f).length:Int)≤_;omega) hi
  have hpe:endP (pcF f) = fOff f + (fData f).length:=rfl
  refine ⟨fun q=>(by cases q),?_,?_⟩
  · show (if fMore f then eEnd d else fOff f + (fData f).length) = -1∨0 < (if fMore f then eEnd d else fOff f + (fData f).length)
    split
    · exact he.z
    · right;omega
  · intro hpos c hcm
    have hcm:c∈cells (insR (ePcs d) (pcF f) pol).1:=hcm
    have hpos:0 < (if fMore f then eEnd d else fOff f + (fData f).length):=hpos
    show c.1 < (if fMore f then eEnd d else fOff f + (fData f).length)
    cases hm:fMore f with
    | true=>
      rw [hm] at hpos
      have hpos:0 < eEnd d:=hpos
      show c.1 < eEnd d
      rcases hcells c hcm with h|⟨_,h⟩
      · exact he.c hpos c h
      · have:=b1 hpos;omega
    | false=>
      show c.1 < fOff f + (fData f).length
      rcases hcells c hcm with h|⟨_,h⟩
      · have:=last_cells hd.v (by omega) (b2 hm) c h;omega
      · omega
theorem take_le {l:List Pc} (hv:Valid l) {E:Int} (hE:0 < E) (h:∀ c∈cells l,c.1 < E):((takeF l 0).1.length:Int)≤E:=by
  have ht:=takeOk hv 0
  refine Classical.byContradiction fun q=>?_
  obtain ⟨o,ho,_⟩:=ht.some_ E.toNat (by omega)
  have h1:=atC_some ho
  have h2:=h o h1.1
  omega
theorem ent_of {k:Ky} {d:En} {f:Fg} {pol:Int} (he:EI d) (hg:eGone d = false) (hp:0 < fOff f + ((fData f).length:Int)):entR (rE (k,d)) f pol = rE (k,entD d f pol):=by
  have e1:rE (k,d) = (kF k,eBeg d,false,ePcs d,eTtl d,max 0 (eEnd d),()):=by unfold rE;rw [if_neg (by rw [hg];decide)]
  have e2:rE (k,entD d f pol) = (kF k,eBeg d,false,(insR (ePcs d) (pcF f) pol).1,min (eTtl d) (fTtl f),max 0 (if fMore f then eEnd d else fOff f + (fData f).length),()):=rfl
  rw [e1,e2]
  show (kF k,eBeg d,false,(insR (ePcs d) (pcF f) pol).1,min (eTtl d) (fTtl f),(if fMore f then max 0 (eEnd d) else endG f),()) = _
  congr 6
  cases fMore f with
  | true=>rfl
  | false=>show fOff f + ((fData f).length:Int) = max 0 (fOff f + (fData f).length);omega
theorem rest_of {tb:Tb} {d:En} {f:Fg} {pol:Int} {i:Nat} {l1:List (Ky × En)} {o1:Int} (hD:EOk (entD d f pol)) (heD:EI (entD d f pol)) (he:EI d) (hg:eGone d = false) (hp:0 < fOff f + ((fData f).length:Int))
    (hn:(l1.map (·.1)).Nodup) (hi:l1[i]? = some (keyF f,entD d f pol)) (hes:(l1.map rE).eraseIdx i = (eraseT l1 (keyF f)).map rE) :
    restX (rbOf tb) (l1.map rE) i (rE (keyF f,d)) f pol =
      (let r:Df.Rs × Tb:=if eEnd (entD d f pol)≥0∧((takeF (ePcs (entD d f pol)) 0).1.length:Int) = eEnd (entD d f pol) then
        (okR (fSrc f) (fDst f) (fPro f) (eTtl (entD d f pol)) (takeF (ePcs (entD d f pol)) 0).1,{ tb with conf:=tb.conf + (insR (ePcs d) (pcF f) pol).2.1,ord:=o1,l:=eraseT l1 (keyF f) })
      else (failR 0,{ tb with conf:=tb.conf + (insR (ePcs d) (pcF f) pol).2.1,ord:=o1,l:=limitT l1 })
      (r.1,rbOf r.2)):=by
  have ee:=ent_of (k:=keyF f) (pol:=pol) he hg hp
  have e3:insE (rE (keyF f,d)) f pol = insR (ePcs d) (pcF f) pol:=by show insR (rPcs (rE (keyF f,d))) (pcF f) pol = _;rw [rE_pcs (x:=(keyF f,d)) he]
  have hend:rEnd (rE (keyF f,entD d f pol)) = max 0 (eEnd (entD d f pol)):=rfl
  have httl:rTtl (rE (keyF f,entD d f pol)) = eTtl (entD d f pol):=rfl
  have hpc:ePcs (entD d f pol) = (insR (ePcs d) (pcF f) pol).1:=rfl
  unfold restX
  rw [ee,e3,hend,httl,hpc]
  have hz:=heD.z
  by_cases h:eEnd (entD d f pol)≥0∧((takeF (insR (ePcs d) (pcF f) pol).1 0).1.length:Int) = eEnd (entD d f pol)
  · rw [if_pos ⟨by omega,by omega⟩]
    simp only [if_pos h]
    have ht:(takeF (insR (ePcs d) (pcF f) pol).1 0).1.take (max 0 (eEnd (entD d f pol))).toNat = (takeF (insR (ePcs d) (pcF f) pol).1 0).1:=List.take_of_length_le (by omega)
    rw [ht,hes]
  · rw [if_neg]
    · simp only [if_neg h]
      rw [limit_of hn]
    · rintro ⟨q1,q2⟩
      have hpos:0 < eEnd (entD d f pol):=by omega
      have:=take_le hD.v hpos (heD.c hpos)
      rw [hpc] at this
      exact h ⟨by omega,by omega⟩
structure JI (tb:Tb):Prop where
  e:∀ x∈tb.l,EI x.2
theorem gone_ei {d:En} (h:EI d):EI (goneE d):=⟨fun _=>rfl,h.z,fun _ c hc=>absurd (show c∈([]:List Cl) from hc) (by simp)⟩
theorem JI.limit {tb:Tb} {l:List (Ky × En)} (h:∀ x∈l,EI x.2):∀ x∈limitT l,EI x.2:=fun x hx=>by
  rcases limit_mem hx with hx|⟨k,d,hm,rfl⟩
  · exact h x hx
  · exact gone_ei (h _ hm)
abbrev mapR (r:Df.Rs × Tb):Df.Rs × Rb:=(r.1,rbOf r.2)
theorem core_of {tb:Tb} {N:Int} (hi:TI tb N) (hj:JI tb) {f:Fg} {pol:Int} (hc:chkE f pol = 0) {at_:Int} (hat:tb.time = at_) :
    corR (rbOf tb) f pol at_ = mapR (match findT tb.l (keyF f) with|some d=>coreT tb f pol d true|none=>coreT tb f pol (newD tb f) false)∧
    JI (match findT tb.l (keyF f) with|some d=>coreT tb f pol d true|none=>coreT tb f pol (newD tb f) false).2:=by
  obtain ⟨c1,c2,c3,c4,c5,c6⟩:=chk_ok hc
  have hpos:0 < fOff f + ((fData f).length:Int):=by
    have:(fData f).length≠0:=fun q=>c6 (List.length_eq_zero_iff.1 q)
    omega
  unfold corR
  rw [idx_of]
  cases hq:tb.l.findIdx? (fun x=>decide (x.1 = keyF f)) with
  | some i=>
    obtain ⟨d,hget,hfd,hil⟩:=idx_some hq
    have hm:(keyF f,d)∈tb.l:=List.mem_of_getElem? hget
    have hdk:=hi.ents _ hm
    have hde:EI d:=hj.e _ hm
    have hg:(tb.l.map rE).getD i rD = rE (keyF f,d):=by rw [List.getD_eq_getElem?_getD,List.getElem?_map,hget];rfl
    rw [hfd]
    show (if rGone ((tb.l.map rE).getD i rD) = true then _ else _) = mapR (coreT tb f pol d true)∧JI (coreT tb f pol d true).2
    rw [hg,rE_gone]
    show (if eGone d = true then _ else _) = _∧_
    cases hgd:eGone d with
    | true=>
      have e:coreT tb f pol d true = (failR 20,tb):=if_pos hgd
      rw [e,if_pos rfl]
      exact ⟨rfl,hj⟩
    | false=>
      rw [if_neg (by decide),fits_of hde hdk.v hgd c1]
      show (if fitsB d f = false then _ else _) = _∧_
      cases hft:fitsB d f with
      | false=>
        have e:coreT tb f pol d true = (failR 2,tb):=(if_neg (by rw [hgd];decide)).trans (if_pos hft)
        rw [e,if_pos rfl]
        exact ⟨rfl,hj⟩
      | true=>
        rw [if_neg (by decide)]
        have e3:insE (rE (keyF f,d)) f pol = insR (ePcs d) (pcF f) pol:=by show insR (rPcs (rE (keyF f,d))) (pcF f) pol = _;rw [rE_pcs (x:=(keyF f,d)) hde]
        have hset:∀ e:En,(tb.l.map rE).set i (rE (keyF f,e)) = (setT tb.l (keyF f) e).map rE:=fun e=>by rw [set_idx hi.keys hget,List.map_set]
        have hce:coreT tb f pol d true = if (insR (ePcs d) (pcF f) pol).2.2≠0 then (failR (insR (ePcs d) (pcF f) pol).2.2,if (insR (ePcs d) (pcF f) pol).2.2 = 17∧true = true then { tb with l:=setT tb.l (keyF f) (goneE d) } else tb)
            else if eEnd (entD d f pol)≥0∧((takeF (ePcs (entD d f pol)) 0).1.length:Int) = eEnd (entD d f pol) then
              (okR (fSrc f) (fDst f) (fPro f) (eTtl (entD d f pol)) (takeF (ePcs (entD d f pol)) 0).1,{ tb with conf:=tb.conf + (insR (ePcs d) (pcF f) pol).2.1,ord:=tb.ord,l:=eraseT tb.l (keyF f) })
            else (failR 0,{ tb with conf:=tb.conf + (insR (ePcs d) (pcF f) pol).2.1,ord:=tb.ord,l:=limitT (setT tb.l (keyF f) (entD d f pol)) }):=
          (if_neg (by rw [hgd];decide)).trans (if_neg (by rw [hft];decide))
        unfold insK
        rw [e3,hce]
        by_cases h17:(insR (ePcs d) (pcF f) pol).2.2 = 17
        · rw [if_pos h17,if_pos (by rw [h17];decide),if_pos ⟨h17,rfl⟩,h17]
          refine ⟨?_,⟨fun x hx=>?_⟩⟩
          · show (failR 17,(⟨tb.timeout,tb.time,tb.conf,(tb.l.map rE).set i (goneR (rE (keyF f,d)))⟩:Rb)) = _
            rw [gone_of,hset]
          · rcases set_mem hx with hx|rfl
            · exact hj.e x hx
            · exact gone_ei hde
        · rw [if_neg h17]
          by_cases h0:(insR (ePcs d) (pcF f) pol).2.2≠0
          · rw [if_pos h0,if_pos h0,if_neg (fun q=>h17 q.1)]
            exact ⟨rfl,hj⟩
          · rw [if_neg h0,if_neg h0]
            have h0':(insR (ePcs d) (pcF f) pol).2.2 = 0:=Classical.byContradiction fun q=>h0 q
            obtain ⟨hD,_,_⟩:=ins_ok hdk hc h0'
            have hDe:=ent_ei hdk hde hc hft h0'
            have hsk:((setT tb.l (keyF f) (entD d f pol)).map (·.1)).Nodup:=by rw [set_keys];exact hi.keys
            have hsi:(setT tb.l (keyF f) (entD d f pol))[i]? = some (keyF f,entD d f pol):=by rw [set_idx hi.keys hget,List.getElem?_set_self hil]
            have hse:eraseT (setT tb.l (keyF f) (entD d f pol)) (keyF f) = eraseT tb.l (keyF f):=by
              rw [erase_idx hsk hsi,erase_idx hi.keys hget,set_idx hi.keys hget,List.eraseIdx_set_eq]
            have hr:=rest_of (tb:=tb) (o1:=tb.ord) hD hDe hde hgd hpos hsk hsi (by rw [erase_idx hsk hsi,map_erase])
            have hx1:(rbOf tb).xs.set i (entR (rE (keyF f,d)) f pol) = (setT tb.l (keyF f) (entD d f pol)).map rE:=by rw [ent_of hde hgd hpos];exact hset _
            rw [hx1,hr,hse]
            refine ⟨rfl,?_⟩
            have hall:∀ x∈setT tb.l (keyF f) (entD d f pol),EI x.2:=fun x hx=>by
              rcases set_mem hx with hx|rfl
              · exact hj.e x hx
              · exact hDe
            split
            · exact ⟨fun x hx=>hj.e x (List.mem_filter.1 hx).1⟩
            · exact ⟨JI.limit (tb:=tb) hall⟩
  | none=>
    have hfd:=idx_none hq
    rw [hfd]
    have hdk:=new_ok tb f
    have hde:EI (newD tb f):=⟨fun _=>rfl,.inl rfl,fun q=>absurd (show (0:Int) < -1 from q) (by decide)⟩
    have hne:newE f at_ = rE (keyF f,newD tb f):=by rw [← hat];rfl
    show (if fitsR (newE f at_) f = false then _ else insN (rbOf tb) (newE f at_) f pol) = mapR (coreT tb f pol (newD tb f) false)∧JI (coreT tb f pol (newD tb f) false).2
    rw [hne,fits_of (x:=(keyF f,newD tb f)) hde hdk.v rfl c1]
    show (if fitsB (newD tb f) f = false then _ else _) = _∧_
    cases hft:fitsB (newD tb f) f with
    | false=>
      have e:coreT tb f pol (newD tb f) false = (failR 2,tb):=(if_neg (fun q=>Bool.noConfusion (show false = true from q))).trans (if_pos hft)
      rw [e,if_pos rfl]
      exact ⟨rfl,hj⟩
    | true=>
      rw [if_neg (by decide)]
      have e3:insE (rE (keyF f,newD tb f)) f pol = insR (ePcs (newD tb f)) (pcF f) pol:=by show insR (rPcs (rE (keyF f,newD tb f))) (pcF f) pol = _;rw [rE_pcs (x:=(keyF f,newD tb f)) hde]
      have hce:coreT tb f pol (newD tb f) false = if (insR (ePcs (newD tb f)) (pcF f) pol).2.2≠0 then (failR (insR (ePcs (newD tb f)) (pcF f) pol).2.2,if (insR (ePcs (newD tb f)) (pcF f) pol).2.2 = 17∧false = true then { tb with l:=setT tb.l (keyF f) (goneE (newD tb f)) } else tb)
          else if eEnd (entD (newD tb f) f pol)≥0∧((takeF (ePcs (entD (newD tb f) f pol)) 0).1.length:Int) = eEnd (entD (newD tb f) f pol) then
            (okR (fSrc f) (fDst f) (fPro f) (eTtl (entD (newD tb f) f pol)) (takeF (ePcs (entD (newD tb f) f pol)) 0).1,{ tb with conf:=tb.conf + (insR (ePcs (newD tb f)) (pcF f) pol).2.1,ord:=tb.ord + 1,l:=eraseT tb.l (keyF f) })
          else (failR 0,{ tb with conf:=tb.conf + (insR (ePcs (newD tb f)) (pcF f) pol).2.1,ord:=tb.ord + 1,l:=limitT (tb.l ++ [(keyF f,entD (newD tb f) f pol)]) }):=
        (if_neg (fun q=>Bool.noConfusion (show false = true from q))).trans (if_neg (by rw [hft];decide))
      unfold insN
      rw [e3,hce]
      by_cases h0:(insR (ePcs (newD tb f)) (pcF f) pol).2.2≠0
      · rw [if_pos h0,if_pos h0,if_neg (fun q=>by cases q.2)]
        exact ⟨rfl,hj⟩
      · rw [if_neg h0,if_neg h0]
        have h0':(insR (ePcs (newD tb f)) (pcF f) pol).2.2 = 0:=Classical.byContradiction fun q=>h0 q
        obtain ⟨hD,_,_⟩:=ins_ok hdk hc h0'
        have hDe:=ent_ei hdk hde hc hft h0'
        have hsk:((tb.l ++ [(keyF f,entD (newD tb f) f pol)]).map (·.1)).Nodup:=by
          rw [List.map_append,List.nodup_append]
          refine ⟨hi.keys,by simp,fun x hx y hy e=>?_⟩
          simp only [List.map_cons,List.map_nil,List.mem_singleton] at hy
          subst e;subst hy;exact find_not hfd hx
        have hsi:(tb.l ++ [(keyF f,entD (newD tb f) f pol)])[tb.l.length]? = some (keyF f,entD (newD tb f) f pol):=by simp
        have hr:=rest_of (tb:=tb) (o1:=tb.ord + 1) hD hDe hde rfl hpos hsk hsi (by rw [erase_idx hsk hsi,map_erase])
        have hx1:(rbOf tb).xs ++ [entR (rE (keyF f,newD tb f)) f pol] = (tb.l ++ [(keyF f,entD (newD tb f) f pol)]).map rE:=by rw [ent_of hde rfl hpos,List.map_append];rfl
        have hx2:(rbOf tb).xs.length = tb.l.length:=List.length_map ..
        rw [hx1,hx2,hr,erase_append hfd]
        refine ⟨rfl,?_⟩
        have hall:∀ x∈tb.l ++ [(keyF f,entD (newD tb f) f pol)],EI x.2:=fun x hx=>by
          rcases List.mem_append.1 hx with hx|hx
          · exact hj.e x hx
          · simp only [List.mem_singleton] at hx;subst hx;exact hDe
        split
        · exact ⟨fun x hx=>hj.e x (List.mem_filter.1 hx).1⟩
        · exact ⟨JI.limit (tb:=tb) hall⟩
theorem add_of {tb:Tb} {N:Int} (hi:TI tb N) (hj:JI tb) (at_:Int) (f:Fg) (pol:Int):addR (rbOf tb) at_ f pol = mapR (addT tb at_ f pol)∧JI (addT tb at_ f pol).2:=by
  have hjm:∀ a,JI (moveT tb a):=fun a=>⟨fun x hx=>hj.e x (List.mem_filter.1 hx).1⟩
  unfold addR addT
  by_cases hA:at_ < tb.time∨at_ > 1099511627776
  · rw [if_pos hA,if_pos hA];exact ⟨rfl,hj⟩
  · rw [if_neg hA,if_neg hA,move_of]
    by_cases hB:fOff f = 0∧fMore f = false
    · rw [if_pos hB,if_pos hB];exact ⟨rfl,hjm _⟩
    · rw [if_neg hB,if_neg hB]
      by_cases hC:chkE f pol≠0
      · rw [if_pos hC,if_pos hC];exact ⟨rfl,hjm _⟩
      · rw [if_neg hC,if_neg hC]
        exact core_of (hi.move (by omega) (by omega)) (hjm _) (Classical.byContradiction fun q=>hC q) rfl
end Go.Proofs.Ytfaplilocljknaa.Fx
