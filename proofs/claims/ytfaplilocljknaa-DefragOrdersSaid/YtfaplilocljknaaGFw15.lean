import Derived.Test.YtfaplilocljknaaGFw14
set_option linter.all false
namespace Go.Fw
variable {P:Program}
theorem OpTri.loadB {T:Tab} (hT:tabOK P T = true) {ops:Array Oper} {o:Oper} {n fix next:Nat} {env:List (Nat × AV)} {heap:List (Nat × Chunk)} {gl:Gl} {K:St→Prop} {t:TypeId} {e:TE} {x:Operand} {id i:Nat} {cs:List AV} {v:AV}
    (ho:o.op = .load t x) (hg:o.guard = none) (he:tget T t = some e) (hsz:Nat.beq e.size 1 = true) (hag:e.agg = false) (hx:okP (St.ev ⟨n,fix,next,env,heap,gl⟩ x)∧(St.ev ⟨n,fix,next,env,heap,gl⟩ x).un = .loc id i)
    (hid:lookup id heap = some (.box cs)) (hi:i < cs.length) (hv:cs.getD i .any = v) (hK:stepN n fix next env heap gl o.dst v [] none K):OpTri P ops o ⟨n,fix,next,env,heap,gl⟩ K:=by
  intro hd R φ a w hs next0 Q hnext
  have hK:subCells T t cs i fun v=>stepN n fix next env heap gl o.dst v [] none K:=by
    have h1:Nat.ble (i + e.size) cs.length = true:=by rw [Nat.eq_of_beq_eq_true hsz];exact Nat.ble_eq_true_of_le hi
    unfold subCells
    simp only [he,h1,hag,hsz]
    rw [hv]
    exact hK
  simp only [stepN_eq] at hK
  generalize hst:(⟨n,fix,next,env,heap,gl⟩:St) = st at *
  have hid':st.lk id = some (.box cs):=by rw [← hst];exact hid
  have hw:Region.wanted o (yielded ops a.tmps) = true:=by simp [Region.wanted,hg]
  rw [if_pos hw]
  left
  have hrx:=(hs.s.ev x).un hx.1
  have hx2:(evF st.get st.gl x).un = .loc id i:=hx.2
  rw [hx2] at hrx
  simp only [RepV] at hrx
  obtain ⟨b,cap,hφ,hax⟩:=hrx
  obtain ⟨v,hv,hn,hload⟩:=load_sound hT hK
  obtain ⟨b',cap',vs,te,fr,hφ',hb',hrep,hnR,hfr⟩:=hs.s.heap.rel id _ hid'
  rw [hφ] at hφ'
  simp only [Option.some.injEq,Prod.mk.injEq] at hφ'
  obtain ⟨rfl,rfl⟩:=hφ'
  obtain ⟨u,hu,hr⟩:=hload φ R w vs.toList b 0 hrep (fun j v hj=>by
    simp only [World.cell?,hb',Nat.zero_add]
    simpa using hj)
  have hr2:(execOp a.eval o).run P w = .ok (.value u) w:=by
    simp only [Nat.zero_add] at hr
    simp [execOp,ho,hax,hr]
  unfold Oper.wp
  rw [hr2]
  obtain ⟨h1,h2⟩:=val_step (ops:=ops) (o:=o) hs hd (v:=v) (u:=u) hu (fun l hl=>hs.s.hnamed id _ l hid' (hn l hl))
  exact hnext R φ _ w _ hv h1 h2
theorem OpTri.storeB {T:Tab} (hT:tabOK P T = true) {ops:Array Oper} {o:Oper} {n fix next:Nat} {env:List (Nat × AV)} {heap:List (Nat × Chunk)} {gl:Gl} {K:St→Prop} {t:TypeId} {e:TE} {x y:Operand} {id i:Nat} {cs:List AV} {c:AV}
    (ho:o.op = .store t x y) (hg:o.guard = none) (hdst:o.dst = none) (he:tget T t = some e) (hsz:Nat.beq e.size 1 = true) (hx:okP (St.ev ⟨n,fix,next,env,heap,gl⟩ x)∧(St.ev ⟨n,fix,next,env,heap,gl⟩ x).un = .loc id i)
    (hy:(St.ev ⟨n,fix,next,env,heap,gl⟩ y).cells = some [c]) (h1:c.one = true) (hids:AV.ids c = []) (hcs:AV.idsL cs = []) (hid:lookup id heap = some (.box cs)) (hi:i < cs.length)
    (hK:K ⟨n,fix,next + 1,env,(id,.box (cs.set i c)) :: heap,gl⟩):OpTri P ops o ⟨n,fix,next,env,heap,gl⟩ K:=by
  intro hd R φ a w hs next0 Q hnext
  have hid':(St.lk ⟨n,fix,next,env,heap,gl⟩) id = some (.box cs):=hid
  have hsz:=Nat.eq_of_beq_eq_true hsz
  have hw:Region.wanted o (yielded ops a.tmps) = true:=by simp [Region.wanted,hg]
  rw [if_pos hw]
  left
  have hrx:=(hs.s.ev x).un hx.1
  have hry:=hs.s.ev y
  have hx2:=hx.2
  unfold St.ev at hx2 hy
  rw [hx2] at hrx
  simp only [RepV] at hrx
  obtain ⟨b,cap,hφ,hax⟩:=hrx
  obtain ⟨b',cap',vs,te,fr,hφ',hb',hrep,hnR,hfr⟩:=hs.s.heap.rel id _ hid'
  rw [hφ] at hφ'
  simp only [Option.some.injEq,Prod.mk.injEq] at hφ'
  obtain ⟨rfl,rfl⟩:=hφ'
  have hyr:RepVs φ R w [c] (a.eval y).cells.toList:=AV.cells_rep hy hry
  have hul:=hrep.length
  rw [Array.length_toList] at hul
  have hone:=hyr.one (by simp [h1])
  obtain ⟨yv,hyv⟩:∃ yv,(a.eval y).cells.toList = [yv]:=by
    have:=hyr.length
    match hh:(a.eval y).cells.toList with
    | []=>rw [hh] at this;simp at this
    | [v]=>exact ⟨v,rfl⟩
    | _ :: _ :: _=>rw [hh] at this;simp at this
  rw [hyv] at hyr hone
  have hyr1:RepV φ R w c yv:=by
    simp only [RepVs] at hyr
    obtain ⟨_,_,hh,hr,_⟩:=hyr
    simp only [List.cons.injEq] at hh
    rw [hh.1];exact hr
  have hlt:b < w.heap.size:=(Array.getElem?_eq_some_iff.1 hb').1
  obtain ⟨vs',hv',hrun⟩:=run_storeCells_blk (P:=P) (b:=b) (off:=i) (e:=te) (fr:=fr) [yv] 0 vs w hb' (by simp only [List.length_singleton];omega) hfr hone
  have hex:(execOp a.eval o).run P w = .ok .skip (setBlk w b (.cells vs' te fr)):=by
    have hl:(a.eval y).cells.size = 1:=by rw [← Array.length_toList,hyv];rfl
    simp only [execOp,ho,hax,Instr.storeAt,Instr.sureAddr,storeVar,Sem.run_bind,Sem.run_pure,Result.andThen_ok,run_sizeOf_tab hT he]
    rw [if_neg (by omega)]
    rw [hyv,hrun]
    rfl
  unfold Oper.wp
  rw [hex]
  have hv2:vs'.toList = vs.toList.set i yv:=by
    rw [hv']
    simp only [Nat.add_zero,List.length_singleton]
    rw [List.set_eq_take_append_cons_drop,if_pos (by rw [Array.length_toList];omega)]
    simp
  have hvl:vs'.size = vs.size:=by
    rw [← Array.length_toList,hv2,List.length_set,Array.length_toList]
  have hcell:∀ k o',R k o'→(setBlk w b (.cells vs' te fr)).cell? ⟨k,o',none⟩ = w.cell? ⟨k,o',none⟩:=fun k o' hr=>setBlk_cell (fun h=>by subst h;exact hnR o' hr)
  obtain ⟨g1,g2⟩:=sat_turnX hs hid' hφ (o':=.cells vs' te fr) (c1:=.box (cs.set i c)) (fun j hj=>by
      have hj2:j∈AV.idsL (cs.set i c):=AV.hasAny_ids hj
      rcases idsL_set cs i c j hj2 with h|h
      · rw [hids] at h;simp at h
      · rw [hcs] at h;simp at h)
    ⟨b,cap,vs',te,fr,hφ,setBlk_get hlt,by rw [hv2];exact RepVs.mono (fun _ _ h=>h) hcell (fun _ _=>rfl) (RepVs.set hyr1 i hrep),hnR,by rw [hvl];exact hfr⟩
  show next0 (a.put o.dst undef) _
  rw [hdst]
  exact hnext R φ _ _ _ hK g1 g2
theorem getD_bools (bs:List Bool) {i:Nat} (h:i < bs.length):(bs.map AV.bool).getD i .any = .bool (bs.getD i false):=by
  rw [List.getD_eq_getElem?_getD,List.getD_eq_getElem?_getD,List.getElem?_map,List.getElem?_eq_getElem h];rfl
theorem set_bools (bs:List Bool) (i:Nat) (b:Bool):(bs.map AV.bool).set i (.bool b) = (bs.set i b).map AV.bool:=by rw [List.map_set]
end Go.Fw
