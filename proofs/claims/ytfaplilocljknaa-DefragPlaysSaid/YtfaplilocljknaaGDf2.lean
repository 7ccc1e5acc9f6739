import Derived.Test.YtfaplilocljknaaGDf1
import Derived.Test.YtfaplilocljknaaGSt1
set_option linter.all false
namespace Go.Df
open Go Go.Fw Go.Ov
structure EOk (e:En):Prop where
  v:Valid (ePcs e)
  len:(ePcs e).length≤64
  rng:∀ c∈cells (ePcs e),c.1 < 65535
  end_:-1≤eEnd e∧eEnd e≤65535
structure TI (tb:Tb) (N:Int):Prop where
  tmo:1≤tb.timeout∧tb.timeout≤1099511627776
  tim:0≤tb.time∧tb.time≤1099511627776
  conf:0≤tb.conf∧tb.conf≤65536 * N
  ord:0≤tb.ord∧tb.ord≤N
  top:N≤1048576
  keys:(tb.l.map (·.1)).Nodup
  len:(tb.l.length:Int)≤N
  sorts:Sorts tb.l
  olt:∀ x∈tb.l,eOrd x.2 < tb.ord
  beg:∀ x∈tb.l,eBeg x.2≤tb.time
  ents:∀ x∈tb.l,EOk x.2
theorem TI.move {tb:Tb} {N:Int} (h:TI tb N) {at_:Int} (h1:tb.time≤at_) (h2:at_≤1099511627776):TI (moveT tb at_) N:=by
  have hs:(moveT tb at_).l.Sublist tb.l:=List.filter_sublist
  exact ⟨h.tmo,⟨by have:=h.tim;show 0≤at_;omega,h2⟩,h.conf,h.ord,h.top,(hs.map _).nodup h.keys,by have:=hs.length_le;have:=h.len;omega,h.sorts.sublist hs,fun x hx=>h.olt x (hs.subset hx),fun x hx=>by
    have:=h.beg x (hs.subset hx);show eBeg x.2≤at_;omega,fun x hx=>h.ents x (hs.subset hx)⟩
theorem find_mem {l:List (Ky × En)} {k:Ky} {d:En} (h:findT l k = some d):(k,d)∈l:=by
  unfold findT at h
  obtain ⟨x,h1,h2⟩:=Option.map_eq_some_iff.1 h
  have h3:=List.find?_some h1
  have h4:=List.mem_of_find?_eq_some h1
  simp only [decide_eq_true_eq] at h3
  rw [← h2,← h3];exact h4
theorem find_not {l:List (Ky × En)} {k:Ky} (h:findT l k = none):k ∉ l.map (·.1):=by
  unfold findT at h
  rw [Option.map_eq_none_iff,List.find?_eq_none] at h
  intro hm
  obtain ⟨x,hx,he⟩:=List.mem_map.1 hm
  exact h x hx (by simpa using he)
theorem chk_ok {f:Fg} {pol:Int} (h:chkE f pol = 0):0≤fOff f∧fOff f≤65535∧fOff f + (fData f).length≤65535∧1≤pol∧pol≤5∧fData f≠[]:=by
  unfold chkE at h
  split at h
  · cases h
  · rename_i h1
    split at h
    · cases h
    · rename_i h2
      refine ⟨by omega,by omega,by omega,by omega,by omega,fun q=>h2 (.inl q)⟩
theorem new_ok (tb:Tb) (f:Fg):EOk (newD tb f):=⟨fun j hj=>absurd (show j < 0 from hj) (by omega),show (0:Nat)≤64 by omega,fun c hc=>absurd (show c∈([]:List Cl) from hc) (by simp),by show (-1:Int)≤-1∧(-1:Int)≤65535;omega⟩
theorem ins_ok {d:En} {f:Fg} {pol:Int} (hd:EOk d) (hc:chkE f pol = 0) (he:(insR (ePcs d) (pcF f) pol).2.2 = 0) :
    EOk (entD d f pol)∧0≤(insR (ePcs d) (pcF f) pol).2.1∧(insR (ePcs d) (pcF f) pol).2.1≤65535:=by
  obtain ⟨c1,c2,c3,c4,c5,c6⟩:=chk_ok hc
  have hlen:((pd (pcF f)).length:Int)≤65535:=by show ((fData f).length:Int)≤65535;omega
  have g:=insGood hd.v (p:=pcF f) (pol:=pol) (by omega) he
  refine ⟨⟨g.valid,insR_small hd.len,fun c hcm=>?_,?_⟩,g.n0,by have:=g.n1;omega⟩
  · rcases insR_cells hd.v (by omega) he c hcm with h|⟨h,h'⟩
    · exact hd.rng c h
    · have e:endP (pcF f) = fOff f + (fData f).length:=rfl
      rw [e] at h';omega
  · have:=hd.end_
    show -1≤(if fMore f then eEnd d else fOff f + (fData f).length)∧(if fMore f then eEnd d else fOff f + (fData f).length)≤65535
    split <;> omega
theorem turn_append {L:DL} {k:Ky} {d:En} {s:ES En} {clock:Nat} {p c:Nat} (h:findE L k = none):turnE (L ++ [⟨k,.own d p c,clock⟩]) k s = L ++ [⟨k,s,clock⟩]:=by
  have:=turnE_mid (A:=L) (B:=[]) (E:=⟨k,.own d p c,clock⟩) (k:=k) (s:=s) (findE_none.1 h) (by simp) rfl
  exact this
theorem find_append {L:DL} {k:Ky} {d:En} {clock:Nat} {p c:Nat} (h:findE L k = none):findE (L ++ [⟨k,.own d p c,clock⟩]) k = some ⟨k,.own d p c,clock⟩:=
  findE_mid (A:=L) (B:=[]) (findE_none.1 h) rfl
theorem set_append {l:List (Ky × En)} {k:Ky} {d d':En} (h:findT l k = none):setT (l ++ [(k,d)]) k d' = l ++ [(k,d')]:=by
  have hn:=find_not h
  unfold setT
  rw [List.map_append]
  congr 1
  · conv=>rhs;rw [← List.map_id l]
    apply List.map_congr_left
    intro x hx
    rw [if_neg (show ¬ x.1 = k from fun e=>hn (e ▸ List.mem_map_of_mem (f:=(·.1)) hx))]
    rfl
  · simp
theorem erase_append {l:List (Ky × En)} {k:Ky} {d:En} (h:findT l k = none):eraseT (l ++ [(k,d)]) k = eraseT l k:=by
  unfold eraseT
  rw [List.filter_append]
  simp
theorem set_keys (l:List (Ky × En)) (k:Ky) (d:En):(setT l k d).map (·.1) = l.map (·.1):=by
  unfold setT
  rw [List.map_map]
  apply List.map_congr_left
  intro x _
  simp only [Function.comp]
  split <;> rfl
theorem set_sorts {l:List (Ky × En)} {k:Ky} {d d':En} (hs:Sorts l) (hn:(l.map (·.1)).Nodup) (hm:(k,d)∈l) (h1:eBeg d' = eBeg d) (h2:eOrd d' = eOrd d):Sorts (setT l k d'):=by
  unfold Sorts setT
  rw [List.pairwise_map]
  refine List.Pairwise.imp_of_mem ?_ hs
  intro x y hx hy hxy
  have same:∀ z∈l,z.1 = k→z = (k,d):=fun z hz hk=>by
    have:∀ {l:List (Ky × En)},(l.map (·.1)).Nodup→∀ z∈l,∀ z'∈l,z.1 = z'.1→z = z':=by
      intro l
      induction l with
      | nil=>intro _ z hz;simp at hz
      | cons a l ih=>
        intro hn z hz z' hz' he
        simp only [List.map_cons,List.nodup_cons] at hn
        rcases List.mem_cons.1 hz with e1|g1
        · rcases List.mem_cons.1 hz' with e2|g2
          · rw [e1,e2]
          · exact absurd (e1 ▸ he ▸ List.mem_map_of_mem (f:=(·.1)) g2) hn.1
        · rcases List.mem_cons.1 hz' with e2|g2
          · exact absurd (e2 ▸ he ▸ List.mem_map_of_mem (f:=(·.1)) g1) hn.1
          · exact ih hn.2 z g1 z' g2 he
    exact this hn z hz (k,d) hm hk
  have val:∀ z∈l,eBeg (if z.1 = k then (z.1,d') else z).2 = eBeg z.2∧eOrd (if z.1 = k then (z.1,d') else z).2 = eOrd z.2:=fun z hz=>by
    by_cases e:z.1 = k
    · rw [if_pos e,same z hz e];exact ⟨h1,h2⟩
    · rw [if_neg e];exact ⟨rfl,rfl⟩
  rw [(val x hx).1,(val x hx).2,(val y hy).1,(val y hy).2]
  exact hxy
theorem set_mem {l:List (Ky × En)} {k:Ky} {d':En} {x:Ky × En} (h:x∈setT l k d'):x∈l∨x = (k,d'):=by
  unfold setT at h
  obtain ⟨y,hy,rfl⟩:=List.mem_map.1 h
  by_cases e:y.1 = k
  · rw [if_pos e,e];exact .inr rfl
  · rw [if_neg e];exact .inl hy
end Go.Df
namespace Go.Df
open Go Go.Fw Go.Ov
theorem TI.up {tb:Tb} {N M:Int} (h:TI tb N) (h1:N≤M) (h2:M≤1048576):TI tb M:=
  ⟨h.tmo,h.tim,by have:=h.conf;omega,by have:=h.ord;omega,h2,h.keys,by have:=h.len;omega,h.sorts,h.olt,h.beg,h.ents⟩
theorem TI.set {tb:Tb} {N:Int} (h:TI tb N) {k:Ky} {d d':En} (hm:(k,d)∈tb.l) (h1:eBeg d' = eBeg d) (h2:eOrd d' = eOrd d) (h3:EOk d'):TI { tb with l:=setT tb.l k d' } N:=by
  refine ⟨h.tmo,h.tim,h.conf,h.ord,h.top,by show ((setT tb.l k d').map (·.1)).Nodup;rw [set_keys];exact h.keys,?_,set_sorts h.sorts h.keys hm h1 h2,?_,?_,?_⟩
  · show (((setT tb.l k d').length:Nat):Int)≤N
    unfold setT;rw [List.length_map];exact h.len
  · intro x hx
    rcases set_mem hx with hx|rfl
    · exact h.olt x hx
    · show eOrd d' < tb.ord;rw [h2];exact h.olt _ hm
  · intro x hx
    rcases set_mem hx with hx|rfl
    · exact h.beg x hx
    · show eBeg d'≤tb.time;rw [h1];exact h.beg _ hm
  · intro x hx
    rcases set_mem hx with hx|rfl
    · exact h.ents x hx
    · exact h3
theorem TI.sub {tb:Tb} {N:Int} (h:TI tb N) {l':List (Ky × En)} (hs:l'.Sublist tb.l):TI { tb with l:=l' } N:=
  ⟨h.tmo,h.tim,h.conf,h.ord,h.top,(hs.map _).nodup h.keys,by have:=hs.length_le;have:=h.len;show (l'.length:Int)≤N;omega,h.sorts.sublist hs,fun x hx=>h.olt x (hs.subset hx),fun x hx=>h.beg x (hs.subset hx),fun x hx=>h.ents x (hs.subset hx)⟩
theorem TI.erase {tb:Tb} {N:Int} (h:TI tb N) (k:Ky):TI { tb with l:=eraseT tb.l k } N:=h.sub List.filter_sublist
theorem TI.con {tb:Tb} {N n:Int} (h:TI tb N) (h0:0≤n) (h1:n≤65535) (h2:N + 1≤1048576):TI { tb with conf:=tb.conf + n } (N + 1):=
  ⟨h.tmo,h.tim,by have:=h.conf;show 0≤tb.conf + n∧tb.conf + n≤65536 * (N + 1);omega,by have:=h.ord;show 0≤tb.ord∧tb.ord≤N + 1;omega,h2,h.keys,by have:=h.len;show (tb.l.length:Int)≤N + 1;omega,h.sorts,h.olt,h.beg,h.ents⟩
theorem TI.push {tb:Tb} {N n:Int} (h:TI tb N) {k:Ky} {d:En} (hk:k ∉ tb.l.map (·.1)) (hb:eBeg d = tb.time) (ho:eOrd d = tb.ord) (hd:EOk d) (h0:0≤n) (h1:n≤65535) (h2:N + 1≤1048576) :
    TI { tb with conf:=tb.conf + n,ord:=tb.ord + 1,l:=tb.l ++ [(k,d)] } (N + 1):=by
  refine ⟨h.tmo,h.tim,by have:=h.conf;show 0≤tb.conf + n∧tb.conf + n≤65536 * (N + 1);omega,by have:=h.ord;show 0≤tb.ord + 1∧tb.ord + 1≤N + 1;omega,h2,?_,?_,?_,?_,?_,?_⟩
  · show ((tb.l ++ [(k,d)]).map (·.1)).Nodup
    rw [List.map_append,List.nodup_append]
    refine ⟨h.keys,by simp,fun x hx y hy e=>?_⟩
    simp only [List.map_cons,List.map_nil,List.mem_singleton] at hy
    subst e;subst hy;exact hk hx
  · have:=h.len
    show (((tb.l ++ [(k,d)]).length:Nat):Int)≤N + 1
    rw [List.length_append];simp;omega
  · show Sorts (tb.l ++ [(k,d)])
    unfold Sorts
    rw [List.pairwise_append]
    refine ⟨h.sorts,by simp,fun x hx y hy=>?_⟩
    simp only [List.mem_singleton] at hy
    subst hy
    have h3:=h.beg x hx
    have h4:=h.olt x hx
    show eBeg x.2≤eBeg d∧eOrd x.2 < eOrd d
    omega
  · intro x hx
    show eOrd x.2 < tb.ord + 1
    rcases List.mem_append.1 hx with hx|hx
    · have:=h.olt x hx;omega
    · simp only [List.mem_singleton] at hx;subst hx;show eOrd d < _;omega
  · intro x hx
    show eBeg x.2≤tb.time
    rcases List.mem_append.1 hx with hx|hx
    · exact h.beg x hx
    · simp only [List.mem_singleton] at hx;subst hx;show eBeg d≤_;omega
  · intro x hx
    rcases List.mem_append.1 hx with hx|hx
    · exact h.ents x hx
    · simp only [List.mem_singleton] at hx;subst hx;exact hd
theorem gone_ok {d:En} (h:EOk d):EOk (goneE d):=⟨fun j hj=>absurd (show j < 0 from hj) (by omega),show (0:Nat)≤64 by omega,fun c hc=>absurd (show c∈([]:List Cl) from hc) (by simp),h.end_⟩
theorem first_mem {l:List (Ky × En)} {x:Ky × En} (h:firstT l = some x):x∈l∧eGone x.2 = false:=by
  unfold firstT at h
  exact ⟨List.mem_of_find?_eq_some h,by have:=List.find?_some h;simpa using this⟩
theorem TI.limit {tb:Tb} {N:Int} (h:TI tb N):TI { tb with l:=limitT tb.l } N:=by
  unfold limitT
  split
  · exact h
  · cases hf:firstT tb.l with
    | none=>exact h
    | some x=>
      obtain ⟨k,d⟩:=x
      have hm:=(first_mem hf).1
      exact h.set hm rfl rfl (gone_ok (h.ents _ hm))
theorem TI.core {tb:Tb} {N:Int} (h:TI tb N) (hN:N + 1≤1048576) {f:Fg} {pol:Int} {d:En} (hc:chkE f pol = 0) (hd:EOk d) (known:Bool)
    (hk:known = true→findT tb.l (keyF f) = some d) (hn:known = false→findT tb.l (keyF f) = none∧eBeg d = tb.time∧eOrd d = tb.ord):TI (coreT tb f pol d known).2 (N + 1):=by
  have up:TI tb (N + 1):=h.up (by omega) hN
  unfold coreT
  split
  · exact up
  split
  · exact up
  split
  · show TI (if (insR (ePcs d) (pcF f) pol).2.2 = 17∧known = true then { tb with l:=setT tb.l (keyF f) (goneE d) } else tb) (N + 1)
    split
    · rename_i hx
      exact up.set (find_mem (hk hx.2)) rfl rfl (gone_ok hd)
    · exact up
  rename_i he
  have he:(insR (ePcs d) (pcF f) pol).2.2 = 0:=Classical.byContradiction fun q=>he q
  obtain ⟨hD,n0,n1⟩:=ins_ok hd hc he
  cases known with
  | true=>
    have hm:=find_mem (hk rfl)
    have hs:=h.con n0 n1 hN
    split
    · exact hs.erase (keyF f)
    · exact TI.limit (tb:={ tb with conf:=tb.conf + (insR (ePcs d) (pcF f) pol).2.1,l:=setT tb.l (keyF f) (entD d f pol) }) (hs.set hm rfl rfl hD)
  | false=>
    obtain ⟨hq,hb,ho⟩:=hn rfl
    have hs:=h.push (k:=keyF f) (d:=entD d f pol) (find_not hq) hb ho hD n0 n1 hN
    split
    · have:=hs.erase (keyF f)
      rw [erase_append hq] at this
      exact this
    · exact TI.limit hs
theorem TI.add {tb:Tb} {N:Int} (h:TI tb N) (hN:N + 1≤1048576) (at_:Int) (f:Fg) (pol:Int):TI (addT tb at_ f pol).2 (N + 1):=by
  have up:TI tb (N + 1):=h.up (by omega) hN
  unfold addT
  split
  · exact up
  rename_i ha
  have hm:TI (moveT tb at_) N:=h.move (by omega) (by omega)
  split
  · exact hm.up (by omega) hN
  split
  · exact hm.up (by omega) hN
  rename_i hc
  have hc:chkE f pol = 0:=Classical.byContradiction fun q=>hc q
  cases hq:findT (moveT tb at_).l (keyF f) with
  | some d=>exact hm.core hN hc (hm.ents _ (find_mem hq)) true (fun _=>hq) (fun e=>by cases e)
  | none=>exact hm.core hN hc (new_ok _ _) false (fun e=>by cases e) (fun _=>⟨hq,rfl,rfl⟩)
theorem ti_new {t:Int} (h:1≤t∧t≤1099511627776) {N:Int} (hN:0≤N∧N≤1048576):TI ⟨t,0,0,0,[]⟩ N:=
  ⟨h,by show (0:Int)≤0∧(0:Int)≤1099511627776;omega,by show (0:Int)≤0∧(0:Int)≤65536 * N;omega,by show (0:Int)≤0∧(0:Int)≤N;omega,hN.2,List.nodup_nil,by show ((0:Nat):Int)≤N;omega,List.Pairwise.nil,fun x hx=>absurd hx (by simp),fun x hx=>absurd hx (by simp),fun x hx=>absurd hx (by simp)⟩
end Go.Df
namespace Go.Df
open Go Go.Fw Go.Ov
theorem sorted_len:∀ {m:List Cl} {lo hi:Int},Sorted m→(∀ x∈m,lo≤x.1∧x.1 < hi)→(m.length:Int)≤max 0 (hi - lo)
  | [],lo,hi,_,_=>by show (0:Int)≤_;omega
  | x :: m,lo,hi,hs,h=>by
    have hs2:(∀ y∈m,x.1 < y.1)∧m.Pairwise (fun x y=>x.1 < y.1):=List.pairwise_cons.1 hs
    have h1:=h x (List.mem_cons_self ..)
    have ih:=sorted_len (m:=m) (lo:=x.1 + 1) (hi:=hi) hs2.2 (fun y hy=>⟨by have:=hs2.1 y hy;omega,(h y (List.mem_cons_of_mem _ hy)).2⟩)
    rw [List.length_cons]
    omega
def m8 (x:Int):Bool:=decide (x % 8 = 0)
structure Gr (l:List Pc) (H:Int):Prop where
  v:Valid l
  rng:∀ c∈cells l,c.1 < H
  brk:∀ x,brkB (cells l) x = true→m8 x = true∨x = H
theorem gr_nil (H:Int):Gr [] H:=⟨fun j hj=>absurd (show j < 0 from hj) (by omega),fun c hc=>absurd (show c∈([]:List Cl) from hc) (by simp),fun x hx=>by
  have:brkB (cells []) x = false:=rfl
  rw [this] at hx;cases hx⟩
structure OnGrid (p:Pc) (H:Int):Prop where
  lo:0≤pa p
  m:m8 (pa p) = true
  e:m8 (endP p) = true∨endP p = H
  hi:endP p≤H
  ne:pd p≠[]
theorem Gr.sum {l:List Pc} {H:Int} (h:Gr l H) (hH:0≤H):lenSum l≤H:=by
  have:=sorted_len (sorted_cells h.v) (lo:=0) (hi:=H) (fun x hx=>⟨(cells_rng h.v x hx).1,h.rng x hx⟩)
  rw [lenSum_cells]
  omega
end Go.Df
namespace Go.Df
open Go Go.Fw Go.Ov
theorem openN_cons (x:Ky × En) (l:List (Ky × En)):openN (x :: l) = openB x.2 + openN l:=by
  unfold openN;rw [List.map_cons,List.sum_cons]
theorem set_other {l:List (Ky × En)} {k:Ky} {d':En} (h:k ∉ l.map (·.1)):setT l k d' = l:=by
  unfold setT
  conv=>rhs;rw [← List.map_id l]
  apply List.map_congr_left
  intro x hx
  rw [if_neg (show ¬ x.1 = k from fun e=>h (e ▸ List.mem_map_of_mem (f:=(·.1)) hx))]
  rfl
theorem openN_set {k:Ky} {d d':En}:∀ {l:List (Ky × En)},(l.map (·.1)).Nodup→(k,d)∈l→openN (setT l k d') = openN l - openB d + openB d'
  | [],_,hm=>by simp at hm
  | x :: l,hn,hm=>by
    simp only [List.map_cons,List.nodup_cons] at hn
    have e:setT (x :: l) k d' = (if x.1 = k then (x.1,d') else x) :: setT l k d':=rfl
    rw [e,openN_cons,openN_cons]
    rcases List.mem_cons.1 hm with rfl|hm
    · rw [if_pos rfl,set_other hn.1];show openB d' + openN l = openB d + openN l - openB d + openB d';omega
    · have hne:¬ x.1 = k:=fun q=>hn.1 (q ▸ List.mem_map_of_mem (f:=(·.1)) hm)
      rw [if_neg hne,openN_set hn.2 hm];omega
theorem limit_open {l:List (Ky × En)} (hn:(l.map (·.1)).Nodup) (h:openN l≤33):openN (limitT l)≤32:=by
  unfold limitT
  split
  · omega
  · rename_i h2
    cases hf:firstT l with
    | none=>
      exfalso
      obtain ⟨x,hx,hg⟩:=openN_pos (l:=l) (by omega)
      unfold firstT at hf
      rw [List.find?_eq_none] at hf
      have:=hf x hx
      rw [hg] at this
      exact this rfl
    | some x=>
      obtain ⟨k,d⟩:=x
      obtain ⟨hm,hg⟩:=first_mem hf
      show openN (setT l k (goneE d))≤32
      rw [openN_set hn hm]
      have h3:openB d = 1:=by unfold openB;rw [show eGone d = false from hg];rfl
      have h4:openB (goneE d) = 0:=rfl
      omega
theorem limit_mem {l:List (Ky × En)} {x:Ky × En} (h:x∈limitT l):x∈l∨∃ k d,(k,d)∈l∧x = (k,goneE d):=by
  unfold limitT at h
  split at h
  · exact .inl h
  · cases hf:firstT l with
    | none=>rw [hf] at h;exact .inl h
    | some y=>
      rw [hf] at h
      rcases set_mem h with h|h
      · exact .inl h
      · exact .inr ⟨y.1,y.2,(first_mem hf).1,h⟩
structure BOk (e:En):Prop where
  g:Gr (ePcs e) 72
  u:eEnd e = -1
  n:eGone e = true→ePcs e = []
  m:eGone e = false→8≤lenSum (ePcs e)
structure BI (tb:Tb) (t i:Int):Prop where
  tmo:tb.timeout = t
  tim:tb.time = i
  o:openN tb.l≤32
  e:∀ x∈tb.l,BOk x.2
abbrev d8:List UInt8:=[49,50,51,52,53,54,55,56]
abbrev bFg (id k:Int):Fg:=(zA,zA,0,id,0,8 * k,true,d8,())
theorem gone_bok {d:En} (h:BOk d):BOk (goneE d):=⟨gr_nil _,h.u,fun _=>rfl,fun h=>by cases h⟩
theorem BI.limit {tb:Tb} {t i:Int} (hn:(tb.l.map (·.1)).Nodup) (h1:tb.timeout = t) (h2:tb.time = i) (h3:openN tb.l≤33) (h4:∀ x∈tb.l,BOk x.2):BI { tb with l:=limitT tb.l } t i:=
  ⟨h1,h2,limit_open hn h3,fun x hx=>by
    rcases limit_mem hx with hx|⟨k,d,hm,rfl⟩
    · exact h4 x hx
    · exact gone_bok (h4 _ hm)⟩
structure BStep (r:Df.Rs × Tb) (t i:Int):Prop where
  done:r.1.2.1 = false
  err:r.1.2.2 = 0∨r.1.2.2 = 20∨r.1.2.2 = 17
  bi:BI r.2 t i
end Go.Df
