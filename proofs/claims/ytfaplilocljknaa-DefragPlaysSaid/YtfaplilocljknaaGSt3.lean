import Derived.Test.YtfaplilocljknaaGSt2
set_option linter.all false
namespace Go.Ov
open Go Go.Fw
theorem cnt_mono {f g:Int→Bool} {a b:Int} (h:∀ x,g x = true→f x = true):cnt g a b≤cnt f a b:=by
  unfold cnt
  rw [← List.countP_eq_length_filter,← List.countP_eq_length_filter]
  exact List.countP_mono_left (fun i _=>h _)
def sO (x:Stt) (l:List Pc) (pos:Int):SS:=⟨l,pos,IntKind.u32.wrap (x.1 + 1),1000,polX x,-1⟩
structure OInv (T:List UInt8) (l:List Pc) (pos:Int) (K:Nat):Prop where
  few:Few l K 1000
  con:∀ c∈cells l,pos < c.1∧c.1 < T.length∧c.2.1 = bt T c.1
  p0:0≤pos
  p1:pos≤T.length
  len:l.length≤64
theorem OInv.s {x:Stt} {T:List UInt8} {l:List Pc} {pos:Int} {K:Nat} (h:OInv T l pos K) (hT:T.length≤200):SInv (sO x l pos) 200:=by
  have hp:=h.p0
  have hp1:=h.p1
  refine ⟨hp,by show pos≤200;omega,by show (1:Int)≤1000∧(1000:Int)≤8192;omega,polX_rng x,h.few.v,fun c hc=>?_,h.len,.inl rfl,?_⟩
  · have:=h.con c hc
    show pos≤c.1∧c.1 < pos + 1000
    omega
  · show 0≤IntKind.u32.wrap _∧IntKind.u32.wrap _ < _
    rw [wrap_u32];omega
theorem OInv.mono {T:List UInt8} {l:List Pc} {pos:Int} {K K':Nat} (h:OInv T l pos K) (hK:K≤K'):OInv T l pos K':=
  ⟨⟨h.few.v,h.few.rng,Nat.le_trans h.few.brk hK⟩,h.con,h.p0,h.p1,h.len⟩
def seqO (x:Stt) (a:Int):Int:=IntKind.u32.wrap (IntKind.u32.wrap (x.1 + 1) + IntKind.u32.wrap a)
theorem offO (x:Stt) (l:List Pc) (pos a:Int) (h:0≤pos∧pos≤200∧0≤a∧a≤200):offS (sO x l pos) (seqO x a) = a:=by
  unfold offS seqO
  show pos + sdiff _ (IntKind.u32.wrap (IntKind.u32.wrap (x.1 + 1) + IntKind.u32.wrap pos)) = _
  simp only [sdiff_eq,wrap_u32]
  omega
def segT (T:List UInt8) (a z:Int):List UInt8:=(T.take (min (a + z) T.length).toNat).drop a.toNat
theorem segT_len {T:List UInt8} {a z:Int} (h0:0≤a) (h1:a < T.length) (hz:0≤z):((segT T a z).length:Int) = min (a + z) T.length - a:=by
  unfold segT
  rw [List.length_drop,List.length_take]
  omega
def cutO (T:List UInt8) (z pos a:Int):Int:=min (a + z) T.length
structure StepO (x:Stt) (T:List UInt8) (z:Int) (l:List Pc) (pos:Int) (K:Nat) (a:Int) (l':List Pc) (pos':Int):Prop where
  ge:pos≤pos'
  res:∃ cut,addS (sO x l pos) (seqO x a) (segT T a z) = (((T.drop pos.toNat).take (pos' - pos).toNat,cut,0),sO x l' pos')
  inv:OInv T l' pos' (K + 2)
  same:a≤pos→OInv T l' pos' K∧min (a + z) T.length≤pos'
theorem stepO (x:Stt) {T:List UInt8} {z:Int} {l:List Pc} {pos:Int} {K:Nat} (h:OInv T l pos K) (hK:K + 2≤64) (hT:T.length≤200) (hz:4≤z∧z≤23) {a:Int} (ha:0≤a∧a < T.length) :
    ∃ l' pos',StepO x T z l pos K a l' pos':=by
  have hp:=h.p0
  have hp1:=h.p1
  have eo:=offO x l pos a ⟨hp,by omega,ha.1,by omega⟩
  have hsl:=segT_len (z:=z) ha.1 ha.2 (by omega)
  have eh:hiS (sO x l pos) a (segT T a z).length = min (a + z) T.length:=by
    show min (a + ((segT T a z).length:Int)) (pos + 1000) = _
    omega
  have ep:(sO x l pos).pos = pos:=rfl
  by_cases hlt:max a pos≥min (a + z) T.length
  · refine ⟨l,pos,Int.le_refl _,⟨((segT T a z).length:Int),?_⟩,h.mono (by omega),fun hh=>⟨h,by omega⟩⟩
    unfold addS
    rw [eo,eh,ep,if_pos hlt,show (pos - pos).toNat = 0 by omega,List.take_zero]
  · obtain ⟨k,ek⟩:=addS_few (s:=sO x l pos) (seq:=seqO x a) (d:=segT T a z) h.few hK (polX_rng x).1 (polX_rng x).2 hp (by rw [eo,eh,ep];exact hlt) (by rw [eo,eh];omega) (by decide)
    rw [eo,eh,ep] at k ek
    generalize hlo:max a pos = lo at *
    generalize hhi:min (a + z) (T.length:Int) = hi at *
    generalize hpp:segP a lo hi (segT T a z) = p at *
    have hs:=sorted_cells h.few.v
    have ea:pa p = lo:=by rw [← hpp];rfl
    have hpl:((pd p).length:Int) = hi - lo:=by rw [← hpp];exact segP_len (by omega) (by omega) (by omega)
    have ee:endP p = hi:=by show pa p + ((pd p).length:Int) = hi;omega
    have hbt:∀ i:Int,lo≤i→i < hi→bt (pd p) (i - lo) = bt T i:=fun i h1 h2=>by
      have e1:pd p = ((segT T a z).take (hi - a).toNat).drop (lo - a).toNat:=by rw [← hpp];rfl
      rw [e1,bt_extract _ _ _ _ (by omega) (by omega)]
      unfold segT
      rw [hhi,bt_extract _ _ _ _ (by omega) (by omega)]
      congr 1
      omega
    have hM:∀ c∈insM (cells l) (polX x) p,c.2.1 = bt T c.1∧pos≤c.1∧c.1 < T.length:=fun c hc=>by
      rcases mem_insM hs hc with ⟨q1,q2,q3⟩|q
      · refine ⟨?_,by omega,by omega⟩
        have hnew:(newC (newP p) c.1).2.1 = bt T c.1:=by
          show bt (pd p) (c.1 - pa p) = _
          rw [ea];exact hbt c.1 (by omega) (by omega)
        rw [q3]
        unfold pick
        cases ho:atC (cells l) c.1 with
        | none=>exact hnew
        | some o=>
          have h1:=atC_some ho
          have h2:=(h.con o h1.1).2.2
          have h3:o.2.1 = bt T c.1:=by rw [h2,h1.2]
          simp only
          split
          · exact hnew
          · exact h2
      · have:=h.con c q
        exact ⟨this.2.2,by omega,this.2.1⟩
    have hcon:conS (cells l) p = 0:=cnt_false (fun i h1 h2=>by
      unfold cfB
      cases ho:atC (cells l) i with
      | none=>rfl
      | some o=>
        have h3:=atC_some ho
        have h4:=(h.con o h3.1).2.2
        have h5:=hbt i (by omega) (by omega)
        have h6:bt (newP p).2.1 (i - (newP p).1) = bt T i:=by
          show bt (pd p) (i - pa p) = _
          rw [ea];exact h5
        simp only [h6,h4,h3.2,beq_self_eq_true,Bool.not_true])
    have hkc:cells (J (insM (cells l) (polX x) p)) = insM (cells l) (polX x) p:=k.cells
    have hkv:Valid (J (insM (cells l) (polX x) p)):=k.few.v
    have tk:=takeOk hkv pos
    generalize hB:(takeF (J (insM (cells l) (polX x) p)) pos).1 = B at *
    have hsM:Sorted (insM (cells l) (polX x) p):=hkc ▸ sorted_cells hkv
    have tks:∀ j:Nat,j < B.length→∃ o,atC (insM (cells l) (polX x) p) (pos + (j:Int)) = some o∧o.2.1 = ((B.getD j 0).toNat:Int):=fun j hj=>by
      have:=tk.some_ j (by rw [hB];exact hj)
      rw [hkc,hB] at this
      exact this
    have tkn:atC (insM (cells l) (polX x) p) (pos + (B.length:Int)) = none:=by
      have:=tk.none_
      rw [hkc,hB] at this
      exact this
    have hBl:pos + (B.length:Int)≤T.length:=by
      rcases Nat.eq_zero_or_pos B.length with h0|h0
      · omega
      · obtain ⟨o,ho,_⟩:=tks (B.length - 1) (by omega)
        have h1:=atC_some ho
        have:=hM o h1.1
        omega
    have hBe:B = (T.drop pos.toNat).take B.length:=by
      refine ext_getD 0 (by rw [List.length_take,List.length_drop];omega) (fun j hj=>?_)
      obtain ⟨o,ho,e1⟩:=tks j hj
      have h1:=atC_some ho
      have h2:=(hM o h1.1).1
      have e3:((T.drop pos.toNat).take B.length).getD j 0 = T.getD (pos.toNat + j) 0:=by
        simp only [List.getD_eq_getElem?_getD,List.getElem?_take,List.getElem?_drop]
        rw [if_pos hj]
      rw [e3]
      have h4:bt T o.1 = ((T.getD (pos.toNat + j) 0).toNat:Int):=by
        unfold bt
        rw [h1.2,show (pos + (j:Int)).toNat = pos.toNat + j by omega]
      exact UInt8.toNat_inj.1 (by omega)
    have hcut:cells (cutL (J (insM (cells l) (polX x) p)) (pos + (B.length:Int))) = (insM (cells l) (polX x) p).filter (fun c=>decide (pos + (B.length:Int)≤c.1)):=by
      rw [cells_cutL hkv,hkc]
    have hgt:∀ c∈cells (cutL (J (insM (cells l) (polX x) p)) (pos + (B.length:Int))),pos + (B.length:Int) < c.1∧c∈insM (cells l) (polX x) p:=fun c hc=>by
      rw [hcut] at hc
      obtain ⟨h1,h2⟩:=List.mem_filter.1 hc
      simp only [decide_eq_true_eq] at h2
      refine ⟨?_,h1⟩
      rcases Int.lt_or_eq_of_le h2 with h3|h3
      · exact h3
      · have:=atC_mem hsM h1
        rw [← h3,tkn] at this;cases this
    have hatc:∀ y:Int,atC (cells (cutL (J (insM (cells l) (polX x) p)) (pos + (B.length:Int)))) y = if pos + (B.length:Int)≤y then atC (insM (cells l) (polX x) p) y else none:=fun y=>by
      rw [hcut,atC_filter hsM (fun b=>decide (pos + (B.length:Int)≤b))]
      simp
    have hbk:∀ y,brkB (cells (cutL (J (insM (cells l) (polX x) p)) (pos + (B.length:Int)))) y = true→pos + (B.length:Int) < y∧brkB (insM (cells l) (polX x) p) y = true:=fun y hy=>by
      have hy':=of_decide_eq_true hy
      unfold keyC at hy'
      rw [hatc,hatc] at hy'
      rcases Int.lt_trichotomy y (pos + (B.length:Int)) with h1|h1|h1
      · rw [if_neg (by omega),if_neg (by omega)] at hy'
        exact absurd rfl hy'
      · rw [if_neg (by omega),if_pos (by omega),h1,tkn] at hy'
        exact absurd rfl hy'
      · rw [if_pos (by omega),if_pos (by omega)] at hy'
        exact ⟨h1,decide_eq_true hy'⟩
    have hlen:(cutL (J (insM (cells l) (polX x) p)) (pos + (B.length:Int))).length≤64:=by
      have h1:=cutL_len (J (insM (cells l) (polX x) p)) (pos + (B.length:Int))
      have h2:=insR_small (p:=p) (pol:=polX x) h.len
      have h3:insR l p (polX x) = _:=k.eq
      rw [h3] at h2
      have h4:(J (insM (cells l) (polX x) p)).length≤64:=h2
      omega
    have hfew:∀ n,cnt (brkB (cells (cutL (J (insM (cells l) (polX x) p)) (pos + (B.length:Int))))) 0 1001≤n→OInv T (cutL (J (insM (cells l) (polX x) p)) (pos + (B.length:Int))) (pos + (B.length:Int)) n:=fun n hn=>
      ⟨⟨valid_cutL hkv _,fun c hc=>by have:=hM c (hgt c hc).2;omega,hn⟩,fun c hc=>⟨(hgt c hc).1,(hM c (hgt c hc).2).2.2,(hM c (hgt c hc).2).1⟩,by omega,hBl,hlen⟩
    have hkb:cnt (brkB (insM (cells l) (polX x) p)) 0 1001≤K + 2:=by
      have:=k.few.brk
      have e:Go.Ov.cells (J (insM (Go.Ov.cells (sO x l pos).l) (sO x l pos).pol p)) = insM (cells l) (polX x) p:=hkc
      rw [e] at this
      exact this
    refine ⟨cutL (J (insM (cells l) (polX x) p)) (pos + (B.length:Int)),pos + (B.length:Int),by omega,⟨((segT T a z).length:Int) - (hi - lo),?_⟩,hfew _ (Nat.le_trans (cnt_mono (fun y hy=>(hbk y hy).2)) hkb),fun hap=>?_⟩
    · rw [ek]
      have e1:(takeF (J (insM (cells (sO x l pos).l) (sO x l pos).pol p)) pos).1 = B:=hB
      have e2:(takeF (J (insM (cells (sO x l pos).l) (sO x l pos).pol p)) pos).2 = pos + (B.length:Int):=by rw [← hB];exact tk.end_
      have e3:conS (cells (sO x l pos).l) p = 0:=hcon
      have e4:takeN (⟨J (insM (cells (sO x l pos).l) (sO x l pos).pol p),pos,(sO x l pos).first,(sO x l pos).win,(sO x l pos).pol,(sO x l pos).end_⟩:SS) = sO x (cutL (J (insM (cells l) (polX x) p)) (pos + (B.length:Int))) (pos + (B.length:Int)):=by
        unfold takeN
        simp only
        rw [e1,e2]
        rfl
      rw [e1,e3,e4,show (pos + (B.length:Int) - pos).toNat = B.length by omega,← hBe]
      rfl
    · have hlo2:lo = pos:=by omega
      have hge:hi≤pos + (B.length:Int):=by
        have:=take_many hkv (a:=pos) (n:=(hi - pos).toNat) (fun j hj=>by
          rw [hkc,atC_insM hs,if_pos (by omega)];rfl)
        rw [hB] at this
        omega
      refine ⟨hfew _ (Nat.le_trans (cnt_mono (fun y hy=>?_)) h.few.brk),Int.le_trans (Int.le_of_eq hhi) hge⟩
      obtain ⟨h1,h2⟩:=hbk y hy
      have h3:=of_decide_eq_true h2
      unfold keyC at h3
      rw [atC_insM hs,atC_insM hs,if_neg (by omega),if_neg (by omega)] at h3
      exact decide_eq_true h3
end Go.Ov
namespace Go.Ov
open Go Go.Fw
def zO (sz:Int):Int:=sz % 20 + 4
structure LO (T:List UInt8) (o:List Int) (i:Nat) (l:List Pc) (pos:Int):Prop where
  le:i≤o.length + T.length
  inv:OInv T l pos (2 * min i o.length)
  prog:∀ j:Nat,o.length + j < i→j % 4 = 0→min ((j:Int) + 4) T.length≤pos
def aO (T:List UInt8) (o:List Int) (i:Nat):Int:=if i < o.length∧0 < T.length then (o.getD i (Ty.dflt (.int .u8))) % T.length else (i:Int) - o.length
theorem aO_lt {T:List UInt8} {o:List Int} {i:Nat} (h:i < o.length + T.length) (h0:0≤aO T o i):aO T o i < T.length:=by
  unfold aO at *
  split
  · rename_i h1
    exact Int.emod_lt_of_pos _ (by omega)
  · rename_i h1
    rw [if_neg h1] at h0
    omega
def skO (T:List UInt8) (o:List Int) (i:Nat):Prop:=aO T o i < 0∨((i:Int)≥o.length∧(aO T o i).tmod 4≠0)
theorem aO_late {T:List UInt8} {o:List Int} {i:Nat} (h:o.length≤i):aO T o i = (i:Int) - o.length:=if_neg (by omega)
theorem LO.skip {T:List UInt8} {o:List Int} {i:Nat} {l:List Pc} {pos:Int} (h:LO T o i l pos) (hi:i < o.length + T.length) (hs:skO T o i):LO T o (i + 1) l pos:=by
  refine ⟨hi,h.inv.mono (by omega),fun j hj h4=>?_⟩
  rcases Nat.lt_or_ge (o.length + j) i with h1|h1
  · exact h.prog j h1 h4
  · have e:i = o.length + j:=by omega
    have e2:aO T o i = (j:Int):=by rw [aO_late (by omega)];omega
    rcases hs with q|⟨_,q⟩
    · omega
    · rw [e2,Int.tmod_eq_emod_of_nonneg (by omega)] at q
      omega
theorem LO.step (x:Stt) {T:List UInt8} {o:List Int} {i:Nat} {l:List Pc} {pos:Int} {z:Int} (h:LO T o i l pos) (hi:i < o.length + T.length) (hs:¬ skO T o i) (hT:T.length≤200) (ho:o.length≤24) (hz:4≤z∧z≤23) :
    ∃ l' pos',StepO x T z l pos (2 * min i o.length) (aO T o i) l' pos'∧LO T o (i + 1) l' pos':=by
  have h0:0≤aO T o i:=by
    rcases Int.lt_or_le (aO T o i) 0 with q|q
    · exact absurd (.inl q) hs
    · exact q
  have h1:=aO_lt hi h0
  obtain ⟨l',pos',st⟩:=stepO x h.inv (by omega) hT hz ⟨h0,h1⟩
  refine ⟨l',pos',st,?_⟩
  rcases Nat.lt_or_ge i o.length with q|q
  · exact ⟨hi,st.inv.mono (by omega),fun j hj=>by omega⟩
  · have e:=aO_late (T:=T) q
    have h4:(aO T o i).tmod 4 = 0:=by
      by_cases hh:(aO T o i).tmod 4 = 0
      · exact hh
      · exact absurd (.inr ⟨by omega,hh⟩) hs
    rw [Int.tmod_eq_emod_of_nonneg h0] at h4
    have hle:aO T o i≤pos:=by
      have hp0:=h.inv.p0
      by_cases hz0:aO T o i = 0
      · omega
      · have:=h.prog (i - o.length - 4) (by omega) (by omega)
        omega
    obtain ⟨s1,s2⟩:=st.same hle
    refine ⟨hi,s1.mono (by omega),fun j hj h5=>?_⟩
    rcases Nat.lt_or_ge (o.length + j) i with q2|q2
    · exact Int.le_trans (h.prog j q2 h5) st.ge
    · have:(j:Int) = aO T o i:=by omega
      omega
theorem LO.done {T:List UInt8} {o:List Int} {i:Nat} {l:List Pc} {pos:Int} (h:LO T o i l pos) (hi:¬ i < o.length + T.length):pos = T.length∧lenSum l = 0:=by
  have hle:=h.le
  have hp0:=h.inv.p0
  have hp1:=h.inv.p1
  have hpos:pos = T.length:=by
    by_cases h0:T.length = 0
    · omega
    · have:=h.prog (4 * ((T.length - 1) / 4)) (by omega) (by omega)
      omega
  refine ⟨hpos,?_⟩
  have hc:cells l = []:=by
    cases hc:cells l with
    | nil=>rfl
    | cons c r=>
      have:=h.inv.con c (by rw [hc];simp)
      omega
  have h2:=cells_len l
  rw [hc] at h2
  simpa using h2.symm
end Go.Ov
namespace Go.Ov
open Go Go.Fw
def cutR (a:Int) (o:Pc):Pc:=if endP o > a then (pa o,(pd o).take (max 0 (a - pa o)).toNat,pf o,pt o,()) else o
def keptR (l:List Pc) (a:Int):List Pc:=(l.map (cutR a)).filter (fun q=>decide (pd q≠[]))
end Go.Ov
