import Derived.Test.YtfaplilocljknaaDfQ
import Derived.Test.YtfaplilocljknaaDfG
set_option linter.all false
namespace Go.Proofs.Ytfaplilocljknaa.Fx
open Go Go.Fw Go.Ov Go.Df
abbrev rbQ (rb:Rb):List (Nat × Chunk):=[(70,.box (rbC rb 71)),(71,.arr rT rb.xs)]
theorem newR (t:Int):HSpec P [] 12 [.int .i64 t] [] (.loc 70 0) (rbQ (rbOf (tNew t))):=HSpec.at2 (f12_spec t) 42 44 70 71 rfl rfl rfl rfl
theorem rb_ok {tb:Tb} {N:Int} (hi:TI tb N) (hj:JI tb) (hN:N≤1048575):RbOk (rbOf tb):=by
  refine ⟨by show (tb.l.map rE).length≤1048575;rw [List.length_map];have:=hi.len;omega,hi.tmo,hi.tim,?_,fun e he=>?_⟩
  · have:=hi.conf;show 0≤tb.conf∧tb.conf≤1099511627776;omega
  · obtain ⟨x,hx,rfl⟩:=List.mem_map.1 he
    rw [rE_pcs (hj.e x hx)]
    exact ⟨(hi.ents x hx).v,(hi.ents x hx).len⟩
theorem addQ {tb tb':Tb} {at_:Int} {f:Fg} {pol:Int} {r:Df.Rs} (N:Int) (hi:TI tb N) (hj:JI tb) (hN:N≤1048575) (hd:(fData f).length≤1099511627776) (e:addT tb at_ f pol = (r,tb')) :
    HSpec P [] 13 [.loc 70 0,.int .i64 at_,fv f,.int .i64 pol] (rbQ (rbOf tb)) (resV r) (rbQ (rbOf tb')):=by
  have:=f13_spec (rbOf tb) at_ f pol (rb_ok hi hj hN) hd
  rw [(add_of hi hj at_ f pol).1,e] at this
  exact FSpec.at this [70,71] (by decide) rfl rfl rfl rfl
theorem lenQ {tb:Tb} {N:Int} (hi:TI tb N):HSpec P [] 16 [.loc 70 0] (rbQ (rbOf tb)) (.int .i64 (openN tb.l)) (rbQ (rbOf tb)):=by
  have:=f16_spec (rbOf tb) (by show (tb.l.map rE).length≤_;rw [List.length_map];have:=hi.len;have:=hi.top;omega)
  rw [show sumL vOpen (rbOf tb).xs = openN tb.l from open_of tb.l] at this
  exact FSpec.at this [70,71] (by decide) rfl rfl rfl rfl
theorem sizeQ {tb:Tb} {N:Int} (hi:TI tb N) (hj:JI tb) (hN:N≤1048575):HSpec P [] 18 [.loc 70 0] (rbQ (rbOf tb)) (.int .i64 (sizeN tb.l)) (rbQ (rbOf tb)):=by
  have hr:=rb_ok hi hj hN
  have:=f18_spec (rbOf tb) (by have:=hr.len;omega) (fun e he=>⟨(hr.ents e he).1,by have:=(hr.ents e he).2;omega⟩)
  rw [show sumL vLen (rbOf tb).xs = sizeN tb.l from size_of hj.e] at this
  exact FSpec.at this [70,71] (by decide) rfl rfl rfl rfl
theorem conQ (tb:Tb):HSpec P [] 19 [.loc 70 0] (rbQ (rbOf tb)) (.int .i64 tb.conf) (rbQ (rbOf tb)):=
  FSpec.at (f19_spec (rbOf tb)) [70,71] (by decide) rfl rfl rfl rfl
theorem gone_n (tb:Tb) (a:Int):sumL (vGone tb.timeout a) (tb.l.map rE) = moveN tb a:=by
  unfold sumL moveN
  rw [List.map_map]
  congr 1
  apply List.map_congr_left
  intro x _
  show vGone tb.timeout a (rE x) = _
  unfold vGone
  have hk:keepK tb.timeout a (rE x) = !expB tb a x.2:=by
    show decide (rBeg (rE x) > a - tb.timeout) = !decide (eBeg x.2≤a - tb.timeout)
    rw [rE_beg]
    by_cases h:eBeg x.2≤a - tb.timeout
    · rw [decide_eq_true h,decide_eq_false (by omega)];rfl
    · rw [decide_eq_false h,decide_eq_true (by omega)];rfl
  rw [hk,rE_gone]
  cases expB tb a x.2 <;> cases eGone x.2 <;> rfl
theorem expQ {tb:Tb} {N:Int} (at_:Int) (hi:TI tb N) (hN:N≤1048575):HSpec P [] 15 [.loc 70 0,.int .i64 at_] (rbQ (rbOf tb)) (.int .i64 (moveN tb (expA tb at_))) (rbQ (rbOf (moveT tb (expA tb at_)))):=by
  have:=f15_spec (rbOf tb) at_ (by show (tb.l.map rE).length≤_;rw [List.length_map];have:=hi.len;omega) hi.tim hi.tmo
  have e1:sumL (vGone (rbOf tb).timeout (min (max at_ (rbOf tb).time) 1099511627776)) (rbOf tb).xs = moveN tb (expA tb at_):=gone_n tb (expA tb at_)
  have e2:moveR (rbOf tb) (min (max at_ (rbOf tb).time) 1099511627776) = rbOf (moveT tb (expA tb at_)):=move_of tb (expA tb at_)
  rw [e1,e2] at this
  exact FSpec.at this [70,71] (by decide) rfl rfl rfl rfl
abbrev sT:Ty:=.cons (.int .i64) (.cons (.int .i64) (.cons (.int .i64) (.cons fT .nil)))
abbrev Stp:=Int × Int × Int × Fg × Unit
abbrev stD:Stp:=Ty.dflt sT
def stepT (tb:Tb) (s:Stp):Tb:=if s.1 = 0 then (addT tb s.2.1 s.2.2.2.1 s.2.2.1).2 else moveT tb (expA tb s.2.1)
def pTb (t:Int) (l:List Stp):Nat→Tb
  | 0=>tNew t
  | i + 1=>stepT (pTb t l i) (l.getD i stD)
theorem pTb_ok (t:Int) (l:List Stp):∀ i:Nat,i≤100→TI (pTb t l i) i∧JI (pTb t l i)
  | 0,_=>⟨ti_new (by omega) (by decide),⟨fun x hx=>absurd (show x∈([]:List (Ky × En)) from hx) (by simp)⟩⟩
  | i + 1,h=>by
    obtain ⟨h1,h2⟩:=pTb_ok t l i (by omega)
    have e:((i + 1:Nat):Int) = (i:Int) + 1:=by omega
    rw [e]
    show TI (stepT (pTb t l i) (l.getD i stD)) ((i:Int) + 1)∧JI (stepT (pTb t l i) (l.getD i stD))
    unfold stepT
    split
    · exact ⟨h1.add (by omega) _ _ _,(add_of h1 h2 _ _ _).2⟩
    · have htm:=h1.tim
      exact ⟨(h1.move (by unfold expA;omega) (by unfold expA;omega)).up (by omega) (by omega),⟨fun x hx=>h2.e x (List.mem_filter.1 hx).1⟩⟩
set_option maxHeartbeats 4000000 in
set_option maxRecDepth 16000 in
theorem f4_spec (t:Int) (l:List Stp):PSpec P [] 4 [.int .i64 t,.list sT l] (.bool true):=by
  show HSpec P [] 4 [.int .i64 t,.list sT l] [] (.bool true) []
  refine fspec_intro hT [] [] 0 0 Try.func4 (by decide) rfl rfl (by kernel_rfl) rfl rfl ?_
  refine Tri.seq (Tri.reg hT ?_)
  refine Tri.seq ?_
  refine Tri.seq (Tri.reg hT ?_)
  refine (Tri.cond ⟨fun h1=>?_,fun h1=>?_⟩)
  · refine Tri.seq (Tri.reg hT ?_)
    refine .inl (.inl ⟨_,fun _=>rfl,f7_spec,?_⟩)
    refine Tri.ret ?_
    exact ⟨rfl,trivial⟩
  · refine (Tri.skip ?_)
    have hl60:l.length≤60:=(by have:=of_decide_eq_false h1;omega)
    refine Tri.seq (Tri.regM hT [1] ?_)
    refine ⟨_,Le.refl _,.inl (.inr (OpTri.hcall 50 rfl rfl rfl (newT t) trivial trivial rfl ?_))⟩
    refine Tri.seq ?_
    refine Tri.seq (Tri.reg hT ?_)
    refine (Tri.cond ⟨fun h2=>?_,fun h2=>?_⟩)
    · exact absurd h2 (by decide)
    · refine (Tri.skip ?_)
      refine Tri.seq (Tri.regM hT [1] ?_)
      refine ⟨_,Le.refl _,.inl (.inr (OpTri.hcall 50 rfl rfl rfl (newR t) trivial trivial rfl ?_))⟩
      refine Tri.seq ?_
      refine Tri.seq (Tri.reg hT ?_)
      refine (Tri.block ?_)
      refine (Tri.loop (ι:=Nat × DL × Nat) (fun g=>⟨110,0,110,[(0,.int .i64 t),(1,.list sT l),(5,.loc 40 0),(6,.loc 70 0),(7,.int .i64 (g.1:Int))],[(40,.box (tbC (pTb t l g.1) 41)),(41,.ext (mapX dfV [] g.2.1 g.2.2)),(70,.box (rbC (rbOf (pTb t l g.1)) 71)),(71,.arr rT (rbOf (pTb t l g.1)).xs)],[]⟩) (fun g=>g.1≤l.length∧Fits g.2.1 g.2.2 (pTb t l g.1).l) (fun g=>l.length - g.1) ((0,[],0)) ?_ ?_ ?_)
      · exact ⟨Nat.zero_le _,Fits.nil⟩
      · exact Le.weak rfl rfl rfl rfl ⟨rfl,rfl,rfl,rfl,rfl,trivial⟩ ⟨rfl,rfl,rfl,rfl,trivial⟩
      · intro i hi
        refine Tri.seq ?_
        refine Tri.seq (Tri.reg hT ?_)
        refine (Tri.cond ⟨fun h3=>?_,fun h3=>?_⟩)
        · refine (Tri.skip ?_)
          refine Tri.seq (Tri.block ?_)
          obtain ⟨i,L,clock⟩:=i;obtain ⟨hi1,hf⟩:=hi;have hf:Fits L clock (pTb t l i).l:=hf;have hlt:i < l.length:=(by have h3':(i:Int) < (l.length:Int):=of_decide_eq_true h3;omega);obtain ⟨hti,hji⟩:=pTb_ok t l i (by omega);obtain ⟨hti1,hji1⟩:=pTb_ok t l (i + 1) (by omega)
          refine Tri.seq (Tri.reg hT ?_)
          refine ⟨(by show 0≤(i:Int)∧(i:Int) < (l.length:Int);omega),?_⟩
          refine Tri.seq ?_
          refine Tri.le (S:=⟨110,0,130,[(0,.int .i64 t),(1,.list sT l),(5,.loc 40 0),(6,.loc 70 0),(7,.int .i64 (i:Int)),(8,.loc 118 0)],[(118,.box (.int .i64 (l.getD i stD).1 :: .int .i64 (l.getD i stD).2.1 :: .int .i64 (l.getD i stD).2.2.1 :: fgC (l.getD i stD).2.2.2.1)),(40,.box (tbC (pTb t l i) 41)),(41,.ext (mapX dfV [] L clock)),(70,.box (rbC (rbOf (pTb t l i)) 71)),(71,.arr rT (rbOf (pTb t l i)).xs)],[]⟩) (Le.weak rfl rfl rfl rfl ⟨rfl,rfl,rfl,rfl,rfl,rfl,trivial⟩ ⟨rfl,rfl,rfl,rfl,rfl,trivial⟩) ?_
          refine Tri.seq (Tri.reg hT ?_)
          refine (Tri.cond ⟨fun h4=>?_,fun h4=>?_⟩)
          · refine Tri.seq (Tri.reg hT ?_)
            refine .inl (.inl ⟨_,fun _=>rfl,f7_spec,?_⟩)
            refine Tri.ret ?_
            exact ⟨rfl,trivial⟩
          · refine (Tri.skip ?_)
            refine Tri.seq ?_
            refine Tri.seq (Tri.reg hT ?_)
            refine (Tri.cond ⟨fun h5=>?_,fun h5=>?_⟩)
            · have hd100:(fData (l.getD i stD).2.2.2.1).length≤100:=(by have h4':¬ ((fData (l.getD i stD).2.2.2.1).length:Int) > 100:=of_decide_eq_false h4;omega);have hop:(l.getD i stD).1 = 0:=of_decide_eq_true h5;have hpe:pTb t l (i + 1) = (addT (pTb t l i) (l.getD i stD).2.1 (l.getD i stD).2.2.2.1 (l.getD i stD).2.2.1).2:=(if_pos hop);obtain ⟨r,hr⟩:∃ r,r = (addT (pTb t l i) (l.getD i stD).2.1 (l.getD i stD).2.2.2.1 (l.getD i stD).2.2.1).1:=⟨_,rfl⟩;have eA:addT (pTb t l i) (l.getD i stD).2.1 (l.getD i stD).2.2.2.1 (l.getD i stD).2.2.1 = (r,pTb t l (i + 1)):=Prod.ext hr.symm hpe.symm
              refine Tri.seq (Tri.regM hT [7] ?_)
              refine ⟨_,Le.refl _,.inl (.inr (OpTri.gcall 1 rfl rfl rfl (addTo (tb:=pTb t l i) (tb':=pTb t l (i + 1)) (at_:=(l.getD i stD).2.1) (f:=(l.getD i stD).2.2.2.1) (pol:=(l.getD i stD).2.2.1) i hf hti (by omega) (by omega) eA) trivial ⟨rfl,rfl,trivial⟩ (fun g _=>rfl) (fun g hg=>?_)))⟩
              refine Tri.seq (Tri.regM hT [7] ?_)
              refine ⟨_,Le.refl _,.inl (.inr (OpTri.hcall 1 rfl rfl rfl (addQ (tb:=pTb t l i) (tb':=pTb t l (i + 1)) (at_:=(l.getD i stD).2.1) (f:=(l.getD i stD).2.2.2.1) (pol:=(l.getD i stD).2.2.1) i hti hji (by omega) (by omega) eA) trivial ⟨rfl,rfl,trivial⟩ rfl ?_))⟩
              obtain ⟨L1,clock1⟩:=g;have hf1:Fits L1 clock1 (pTb t l (i + 1)).l:=hg
              refine Tri.seq (Tri.reg hT ?_)
              refine ⟨_,[],trivial,rfl,rfl,fun h=>⟨rfl,rfl,rfl⟩,?_⟩
              refine ⟨_,[],trivial,rfl,rfl,fun h=>⟨rfl,rfl,rfl⟩,?_⟩
              refine ⟨_,[],trivial,rfl,rfl,fun h=>⟨h,h,rfl,rfl,rfl⟩,?_⟩
              refine ⟨⟨fun _=>trivial,fun hc=>(gn hc)⟩,?_⟩
              refine ⟨_,[],trivial,rfl,rfl,fun h=>⟨rfl,rfl,rfl⟩,?_⟩
              refine ⟨_,[],trivial,rfl,rfl,fun h=>⟨rfl,rfl,rfl⟩,?_⟩
              refine ⟨_,[],trivial,rfl,rfl,fun h=>⟨h,h,rfl,rfl,rfl⟩,?_⟩
              refine ⟨⟨fun _=>trivial,fun hc=>(gn hc)⟩,?_⟩
              refine (Tri.cond ⟨fun h6=>?_,fun h6=>?_⟩)
              · exfalso;simp at h6
              · refine (Tri.skip ?_)
                refine Tri.seq (Tri.regM hT [1,3,6,7,8,9,13,14,15,16] ?_)
                refine ⟨_,Le.refl _,.inl (.inr (OpTri.hcall 1 rfl rfl rfl (lenOf hf1 hti1 (n:=openN (pTb t l (i + 1)).l) rfl) trivial ⟨rfl,rfl,trivial⟩ rfl ?_))⟩
                refine ⟨_,Le.refl _,.inl (.inr (OpTri.hcall 1 rfl rfl rfl (lenQ hti1) trivial ⟨rfl,rfl,trivial⟩ rfl ?_))⟩
                refine ⟨_,Le.refl _,.inr (.inl ⟨_,rfl,(by refine (congrArg some ?_:some _ = some true);simp [gd]),.inl ?_⟩)⟩
                refine ⟨_,Le.refl _,.inr (.inl ⟨_,rfl,(by refine (congrArg some ?_:some _ = some true);simp [gd]),.inr (OpTri.hcall 1 rfl rfl rfl (sizeOf hf1 hti1 (n:=sizeN (pTb t l (i + 1)).l) rfl) trivial ⟨rfl,rfl,trivial⟩ rfl ?_)⟩)⟩
                refine ⟨_,Le.refl _,.inr (.inl ⟨_,rfl,(by refine (congrArg some ?_:some _ = some true);simp [gd]),.inl ?_⟩)⟩
                refine ⟨_,Le.refl _,.inr (.inl ⟨_,rfl,(by refine (congrArg some ?_:some _ = some true);simp [gd]),.inr (OpTri.hcall 1 rfl rfl rfl (sizeQ hti1 hji1 (by omega)) trivial ⟨rfl,rfl,trivial⟩ rfl ?_)⟩)⟩
                refine ⟨_,[],trivial,rfl,rfl,fun h=>⟨rfl,rfl,rfl⟩,?_⟩
                refine ⟨⟨fun _=>trivial,fun hc=>(gn hc)⟩,?_⟩
                refine ⟨_,Le.refl _,.inr (.inl ⟨_,rfl,(by refine (congrArg some ?_:some _ = some true);simp [gd]),.inl ?_⟩)⟩
                refine ⟨_,Le.refl _,.inr (.inl ⟨_,rfl,(by refine (congrArg some ?_:some _ = some true);simp [gd]),.inr (OpTri.hcall 1 rfl rfl rfl (conOf (n:=(pTb t l (i + 1)).conf) rfl) trivial ⟨rfl,rfl,trivial⟩ rfl ?_)⟩)⟩
                refine ⟨_,Le.refl _,.inr (.inl ⟨_,rfl,(by refine (congrArg some ?_:some _ = some true);simp [gd]),.inl ?_⟩)⟩
                refine ⟨_,Le.refl _,.inr (.inl ⟨_,rfl,(by refine (congrArg some ?_:some _ = some true);simp [gd]),.inr (OpTri.hcall 1 rfl rfl rfl (conQ (pTb t l (i + 1))) trivial ⟨rfl,rfl,trivial⟩ rfl ?_)⟩)⟩
                refine ⟨_,[],trivial,rfl,rfl,fun h=>⟨rfl,rfl,rfl⟩,?_⟩
                refine ⟨⟨fun _=>trivial,fun hc=>(gn hc)⟩,?_⟩
                refine (Tri.cond ⟨fun h7=>?_,fun h7=>?_⟩)
                · exfalso;simp at h7
                · refine (Tri.skip ?_)
                  refine (Tri.reg hT ?_)
                  exact ⟨(i + 1,L1,clock1),⟨by omega,hf1⟩,by show l.length - (i + 1) < l.length - i;omega,Le.weak rfl rfl rfl rfl ⟨rfl,rfl,rfl,rfl,iv1 (by omega),trivial⟩ ⟨rfl,rfl,rfl,rfl,trivial⟩⟩
            · have hop:¬ (l.getD i stD).1 = 0:=of_decide_eq_false h5;have hpe:pTb t l (i + 1) = moveT (pTb t l i) (expA (pTb t l i) (l.getD i stD).2.1):=(if_neg hop);obtain ⟨L1,hL1⟩:∃ L1,L1 = L.filter (fun E=>!valB (expB (pTb t l i) (expA (pTb t l i) (l.getD i stD).2.1)) E):=⟨_,rfl⟩;obtain ⟨clock1,hc1⟩:∃ c,c = clock:=⟨_,rfl⟩;have hf1:Fits L1 clock1 (pTb t l (i + 1)).l:=(by rw [hL1,hc1,hpe];exact hf.filter _);have hxp:HSpec P [] 14 [.loc 40 0,.int .i64 (l.getD i stD).2.1] (tbQ (pTb t l i) L clock) (.int .i64 (moveN (pTb t l i) (expA (pTb t l i) (l.getD i stD).2.1))) (tbQ (pTb t l (i + 1)) L1 clock1):=(by rw [hL1,hc1,hpe];exact expOf (l.getD i stD).2.1 hf hti);have hxq:HSpec P [] 15 [.loc 70 0,.int .i64 (l.getD i stD).2.1] (rbQ (rbOf (pTb t l i))) (.int .i64 (moveN (pTb t l i) (expA (pTb t l i) (l.getD i stD).2.1))) (rbQ (rbOf (pTb t l (i + 1)))):=(by rw [hpe];exact expQ (l.getD i stD).2.1 hti (by omega))
              refine Tri.seq (Hv.Tri.drwH hT hm 7 [([],[40,41])] [7] (by kernel_rfl) ?_)
              refine .inr ⟨_,_,_,Hv.hv_fact rfl rfl rfl (hxp) trivial ⟨rfl,rfl,trivial⟩ rfl (fun _=>rfl) rfl (fun q=>by cases q),(List.mem_cons_self ..),?_⟩
              refine ⟨by kernel_rfl,by kernel_rfl,?_⟩
              refine ⟨_,Le.refl _,.inl (.inr (OpTri.hcall 1 rfl rfl rfl (hxq) trivial ⟨rfl,rfl,trivial⟩ rfl ?_))⟩
              refine (Tri.cond ⟨fun h8=>?_,fun h8=>?_⟩)
              · exfalso;simp at h8
              · refine (Tri.skip ?_)
                refine Tri.seq (Tri.regM hT [1,3,6,7,8,9,13,14,15,16] ?_)
                refine ⟨_,Le.refl _,.inl (.inr (OpTri.hcall 1 rfl rfl rfl (lenOf hf1 hti1 (n:=openN (pTb t l (i + 1)).l) rfl) trivial ⟨rfl,rfl,trivial⟩ rfl ?_))⟩
                refine ⟨_,Le.refl _,.inl (.inr (OpTri.hcall 1 rfl rfl rfl (lenQ hti1) trivial ⟨rfl,rfl,trivial⟩ rfl ?_))⟩
                refine ⟨_,Le.refl _,.inr (.inl ⟨_,rfl,(by refine (congrArg some ?_:some _ = some true);simp [gd]),.inl ?_⟩)⟩
                refine ⟨_,Le.refl _,.inr (.inl ⟨_,rfl,(by refine (congrArg some ?_:some _ = some true);simp [gd]),.inr (OpTri.hcall 1 rfl rfl rfl (sizeOf hf1 hti1 (n:=sizeN (pTb t l (i + 1)).l) rfl) trivial ⟨rfl,rfl,trivial⟩ rfl ?_)⟩)⟩
                refine ⟨_,Le.refl _,.inr (.inl ⟨_,rfl,(by refine (congrArg some ?_:some _ = some true);simp [gd]),.inl ?_⟩)⟩
                refine ⟨_,Le.refl _,.inr (.inl ⟨_,rfl,(by refine (congrArg some ?_:some _ = some true);simp [gd]),.inr (OpTri.hcall 1 rfl rfl rfl (sizeQ hti1 hji1 (by omega)) trivial ⟨rfl,rfl,trivial⟩ rfl ?_)⟩)⟩
                refine ⟨_,[],trivial,rfl,rfl,fun h=>⟨rfl,rfl,rfl⟩,?_⟩
                refine ⟨⟨fun _=>trivial,fun hc=>(gn hc)⟩,?_⟩
                refine ⟨_,Le.refl _,.inr (.inl ⟨_,rfl,(by refine (congrArg some ?_:some _ = some true);simp [gd]),.inl ?_⟩)⟩
                refine ⟨_,Le.refl _,.inr (.inl ⟨_,rfl,(by refine (congrArg some ?_:some _ = some true);simp [gd]),.inr (OpTri.hcall 1 rfl rfl rfl (conOf (n:=(pTb t l (i + 1)).conf) rfl) trivial ⟨rfl,rfl,trivial⟩ rfl ?_)⟩)⟩
                refine ⟨_,Le.refl _,.inr (.inl ⟨_,rfl,(by refine (congrArg some ?_:some _ = some true);simp [gd]),.inl ?_⟩)⟩
                refine ⟨_,Le.refl _,.inr (.inl ⟨_,rfl,(by refine (congrArg some ?_:some _ = some true);simp [gd]),.inr (OpTri.hcall 1 rfl rfl rfl (conQ (pTb t l (i + 1))) trivial ⟨rfl,rfl,trivial⟩ rfl ?_)⟩)⟩
                refine ⟨_,[],trivial,rfl,rfl,fun h=>⟨rfl,rfl,rfl⟩,?_⟩
                refine ⟨⟨fun _=>trivial,fun hc=>(gn hc)⟩,?_⟩
                refine (Tri.cond ⟨fun h9=>?_,fun h9=>?_⟩)
                · exfalso;simp at h9
                · refine (Tri.skip ?_)
                  refine (Tri.reg hT ?_)
                  exact ⟨(i + 1,L1,clock1),⟨by omega,hf1⟩,by show l.length - (i + 1) < l.length - i;omega,Le.weak rfl rfl rfl rfl ⟨rfl,rfl,rfl,rfl,iv1 (by omega),trivial⟩ ⟨rfl,rfl,rfl,rfl,trivial⟩⟩
        · refine Tri.exit ?_
          refine Tri.seq (Tri.reg hT ?_)
          refine .inl (.inl ⟨_,fun _=>rfl,f7_spec,?_⟩)
          refine Tri.ret ?_
          exact ⟨rfl,trivial⟩
end Go.Proofs.Ytfaplilocljknaa.Fx
