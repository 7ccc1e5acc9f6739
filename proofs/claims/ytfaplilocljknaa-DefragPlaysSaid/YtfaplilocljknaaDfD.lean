import Derived.Test.YtfaplilocljknaaDfC
import Derived.Test.YtfaplilocljknaaGDf1
set_option linter.all false
namespace Go.Proofs.Ytfaplilocljknaa.Fx
open Go Go.Fw Go.Ov Go.Df
abbrev SLim (tb:Tb) (L:DL) (clock:Nat) (x:List Nat × Option Fc):St:=⟨66,2,11,[(0,.loc 0 0),(2,fpAV x.2),(12,.loc 10 0)],[(0,.box (tbC tb 1)),(1,.ext (mapX dfV [] L clock)),(10,.ext (itX 1 clock x.1))],[]⟩
theorem f27_spec (tb:Tb) (L:DL) (clock:Nat) (hf:Fits L clock tb.l) (hn:(tb.l.map (·.1)).Nodup) (hl:tb.l.length≤1048576) (hs:Sorts tb.l) :
    GSpec P [] 27 [.loc 0 0] (tbH tb L clock) (fun g:DL=>Fits g clock (limitT tb.l)) (fun _=>.tup []) (fun g=>tbH { tb with l:=limitT tb.l } g clock):=by
  have hl2:∀ i (E:Ent Ky En),E∈L→E.born ∉ i→leftS L (i ++ [E.born]) < leftS L i:=fun i E h1 h2=>leftS_step h1 h2
  have hoo:∀ (k1:Ky) (d1:En) (e1 p1 c1 x:Nat),x≠e1→x ∉ outsL (turnE L k1 (.out d1 e1 p1 c1)):=fun k1 d1 e1 p1 c1 x hx hm=>by
    rcases outsL_turn hm with h|h
    · simp only [ES.outs,List.mem_singleton] at h;exact hx h
    · rw [hf.outs] at h;simp at h
  refine gspec_intro hT (tbH tb L clock) (fun g=>tbH { tb with l:=limitT tb.l } g clock) 2 2 Try.func27 (by decide) rfl rfl (by kernel_rfl) rfl (fun g _=>rfl) (Tri.post ?_)
  refine Tri.seq ?_
  refine Tri.seq (Tri.regM hT [1] ?_)
  refine ⟨_,Le.refl _,.inl (.inr (OpTri.hcall 1 rfl rfl rfl (f10_spec tb L clock hf hn (by omega)) trivial ⟨rfl,rfl,trivial⟩ rfl ?_))⟩
  refine (Tri.cond ⟨fun h1=>?_,fun h1=>?_⟩)
  · refine Tri.ret ?_
    have h1':=of_decide_eq_true h1;have e:limitT tb.l = tb.l:=if_pos h1';exact ⟨_,Le.refl _,L,by rw [e];exact hf,by rw [e];exact ⟨rfl,rfl,rfl,trivial⟩⟩
  · refine (Tri.skip ?_)
    refine Tri.seq (Tri.reg hT ?_)
    refine Tri.seq ?_
    refine Tri.seq (Tri.regM hT [4] ?_)
    refine ⟨_,Le.refl _,.inl (.inr (OpTri.rangeF (V:=dfV) (os:=[]) (L:=L) (clock:=clock) (kt:=63) (et:=64) (by kernel_rfl) rfl rfl ⟨trivial,rfl⟩ rfl ?_))⟩
    refine (Tri.block ?_)
    refine (Tri.loop (ι:=List Nat × Option Fc) (fun x=>SLim tb L clock x) (fun x=>FirstOK L x.1 x.2) (fun x=>leftS L x.1) (([],none)) ?_ ?_ ?_)
    · exact fun E _ h=>by simp at h
    · exact Le.weak rfl rfl rfl rfl ⟨rfl,rfl,rfl,trivial⟩ ⟨rfl,rfl,rfl,trivial⟩
    · intro ⟨i,fo⟩ hi
      rcases fo with _|⟨kf,df,p1,c1,b1⟩
      · refine Tri.seq (Tri.regM hT [0] ?_)
        refine ⟨_,Le.refl _,.inl (.inr (OpTri.nextF hT (V:=dfV) (os:=[]) (L:=L) (clock:=clock) (seen:=i) (id:=1) (j:=10) rfl rfl rfl ⟨trivial,rfl⟩ rfl rfl (fun g hg=>?_)))⟩
        refine Tri.seq (Tri.cond ⟨fun h2=>?_,fun h2=>?_⟩)
        · refine (Tri.skip ?_)
          refine (Tri.block ?_)
          obtain ⟨E,rfl⟩:∃ E,g = some E:=Option.isSome_iff_exists.1 h2;obtain ⟨hE,hsn⟩:=hg;obtain ⟨k,d,p,c,b,rfl,hEl⟩:=hf.own hE;obtain ⟨hfd,hkn⟩:=hf.find hn hE;have hlf:=hl2 i _ hE hsn
          refine Tri.seq (Tri.regM hT [0] ?_)
          refine ⟨_,Le.refl _,.inl (.inr (OpTri.entryF hT (V:=dfV) (os:=[]) (L:=L) (clock:=clock) (seen:=i) (id:=1) (j:=10) ⟨k,.own d p c,b⟩ rfl rfl ⟨trivial,rfl⟩ rfl rfl hE ?_))⟩
          refine Tri.le (S:=⟨66,2,17,[(0,.loc 0 0),(2,.nilp),(12,.loc 10 0),(4,.loc 16 0)],[(16,.box (enC d)),(1,.ext (mapX dfV [16] (turnE L k (.out d 16 p c)) clock)),(0,.box (tbC tb 1)),(10,.ext (itX 1 clock (i ++ [b])))],[]⟩) (Le.trans (Le.takeF 4 1 rfl hfd rfl) (Le.weak rfl rfl rfl rfl ⟨rfl,rfl,rfl,rfl,trivial⟩ ⟨rfl,rfl,rfl,rfl,trivial⟩)) ?_
          refine Tri.seq (Tri.drw hT hm 42 (by kernel_rfl) ?_)
          refine ⟨_,[],trivial,rfl,rfl,fun h=>⟨rfl,rfl,rfl⟩,?_⟩
          refine ⟨_,[],trivial,rfl,rfl,fun h=>⟨h,rfl,rfl,rfl⟩,?_⟩
          refine ⟨_,[],trivial,rfl,rfl,fun h=>⟨h,rfl,rfl,rfl⟩,?_⟩
          refine ⟨_,[],trivial,rfl,rfl,fun h=>⟨rfl,rfl,rfl⟩,?_⟩
          refine ⟨_,[],trivial,rfl,rfl,fun h=>⟨h,rfl,rfl,rfl⟩,?_⟩
          refine ⟨_,[],trivial,rfl,rfl,fun h=>⟨h,rfl,rfl,rfl⟩,?_⟩
          refine ⟨_,[],trivial,rfl,rfl,fun h=>⟨h,rfl,rfl,rfl⟩,?_⟩
          refine ⟨_,[],trivial,rfl,rfl,fun h=>⟨rfl,rfl,rfl⟩,?_⟩
          refine ⟨.loc 16 0,[],trivial,rfl,rfl,fun h=>by simp [gd] at h,?_⟩
          refine ⟨_,[],trivial,rfl,rfl,fun h=>⟨h,rfl,rfl,rfl⟩,?_⟩
          refine ⟨_,[],trivial,rfl,rfl,fun h=>⟨h,rfl,rfl,rfl⟩,?_⟩
          refine ⟨_,[],trivial,rfl,rfl,fun h=>⟨h,h,rfl,rfl,rfl⟩,?_⟩
          refine ⟨_,[],trivial,rfl,rfl,fun h=>⟨h,⟨fun _=>trivial,fun hc=>ga h (gn hc)⟩,rfl,rfl,rfl⟩,?_⟩
          refine ⟨_,[],trivial,rfl,rfl,fun h=>⟨h,rfl,rfl,rfl⟩,?_⟩
          refine ⟨_,[],trivial,rfl,rfl,fun h=>⟨rfl,rfl,rfl⟩,?_⟩
          refine ⟨_,[],trivial,rfl,rfl,fun h=>⟨h,rfl,rfl,rfl⟩,?_⟩
          refine ⟨_,[],trivial,rfl,rfl,fun h=>⟨h,rfl,rfl,rfl⟩,?_⟩
          refine ⟨_,[],trivial,rfl,rfl,fun h=>⟨h,rfl,rfl,rfl⟩,?_⟩
          refine ⟨_,[],trivial,rfl,rfl,fun h=>⟨rfl,rfl,rfl⟩,?_⟩
          refine ⟨.loc 16 0,[],trivial,rfl,rfl,fun h=>by simp [gd] at h,?_⟩
          refine ⟨_,[],trivial,rfl,rfl,fun h=>⟨h,rfl,rfl,rfl⟩,?_⟩
          refine ⟨_,[],trivial,rfl,rfl,fun h=>⟨h,rfl,rfl,rfl⟩,?_⟩
          refine ⟨_,[],trivial,rfl,rfl,fun h=>⟨h,h,rfl,rfl,rfl⟩,?_⟩
          refine ⟨_,[],trivial,rfl,rfl,fun h=>⟨h,rfl,rfl,rfl⟩,?_⟩
          refine ⟨_,[],trivial,rfl,rfl,fun h=>⟨rfl,rfl,rfl⟩,?_⟩
          refine ⟨_,[],trivial,rfl,rfl,fun h=>⟨h,rfl,rfl,rfl⟩,?_⟩
          refine ⟨_,[],trivial,rfl,rfl,fun h=>⟨h,rfl,rfl,rfl⟩,?_⟩
          refine ⟨_,[],trivial,rfl,rfl,fun h=>⟨h,rfl,rfl,rfl⟩,?_⟩
          refine ⟨_,[],trivial,rfl,rfl,fun h=>⟨rfl,rfl,rfl⟩,?_⟩
          refine ⟨.loc 16 0,[],trivial,rfl,rfl,fun h=>by simp [gd] at h,?_⟩
          refine ⟨_,[],trivial,rfl,rfl,fun h=>⟨h,rfl,rfl,rfl⟩,?_⟩
          refine ⟨_,[],trivial,rfl,rfl,fun h=>⟨h,rfl,rfl,rfl⟩,?_⟩
          refine ⟨_,[],trivial,rfl,rfl,fun h=>⟨h,h,rfl,rfl,rfl⟩,?_⟩
          refine ⟨_,[],trivial,rfl,rfl,fun h=>⟨h,⟨fun hc=>ga h hc,fun _=>trivial⟩,rfl,rfl,rfl⟩,?_⟩
          refine ⟨_,[],trivial,rfl,rfl,fun h=>⟨h,⟨fun _=>trivial,fun hc=>ga h (gn hc)⟩,rfl,rfl,rfl⟩,?_⟩
          refine ⟨⟨fun hc=>hc,fun _=>trivial⟩,?_⟩
          refine ⟨by kernel_rfl,?_⟩
          refine (Tri.cond ⟨fun h3=>?_,fun h3=>?_⟩)
          · refine (Tri.reg hT ?_)
            have hgd:eGone d = false:=(by simpa using h3);exact ⟨(i ++ [b],some (k,d,p,c,b)),first_new hf.born hi hE hgd,hlf,Le.trans (Le.putB (os':=[]) 1 16 rfl rfl hfd hkn (by rw [hf.outs];simp) (by simp) (by simp)) (Le.weak rfl rfl rfl rfl ⟨rfl,rfl,rfl,trivial⟩ ⟨rfl,rfl,rfl,trivial⟩)⟩
          · refine (Tri.skip ?_)
            have hgd:eGone d = true:=(by simpa using h3);exact ⟨(i ++ [b],none),first_keep_none hf.born hi hE hgd,hlf,Le.trans (Le.putB (os':=[]) 1 16 rfl rfl hfd hkn (by rw [hf.outs];simp) (by simp) (by simp)) (Le.weak rfl rfl rfl rfl ⟨rfl,rfl,rfl,trivial⟩ ⟨rfl,rfl,rfl,trivial⟩)⟩
        · have hgn:g = none:=(by cases g with|none=>rfl|some x=>cases h2);subst hgn;have h1':=of_decide_eq_false h1;obtain ⟨x,hx,hxg⟩:=openN_pos (l:=tb.l) (by omega);obtain ⟨E,hE,_,hEd⟩:=hf.mem hx;have:=hi E hE (hg E hE) x.2 hEd;rw [this] at hxg;cases hxg
      · refine Tri.seq (Tri.regM hT [0] ?_)
        refine ⟨_,Le.refl _,.inl (.inr (OpTri.nextF hT (V:=dfV) (os:=[]) (L:=L) (clock:=clock) (seen:=i) (id:=1) (j:=10) rfl rfl rfl ⟨trivial,rfl⟩ rfl rfl (fun g hg=>?_)))⟩
        refine Tri.seq (Tri.cond ⟨fun h4=>?_,fun h4=>?_⟩)
        · refine (Tri.skip ?_)
          refine (Tri.block ?_)
          obtain ⟨E,rfl⟩:∃ E,g = some E:=Option.isSome_iff_exists.1 h4;obtain ⟨hE,hsn⟩:=hg;obtain ⟨k,d,p,c,b,rfl,hEl⟩:=hf.own hE;obtain ⟨hfd,hkn⟩:=hf.find hn hE;have hlf:=hl2 i _ hE hsn
          refine Tri.seq (Tri.regM hT [0] ?_)
          refine ⟨_,Le.refl _,.inl (.inr (OpTri.entryF hT (V:=dfV) (os:=[]) (L:=L) (clock:=clock) (seen:=i) (id:=1) (j:=10) ⟨k,.own d p c,b⟩ rfl rfl ⟨trivial,rfl⟩ rfl rfl hE ?_))⟩
          have hne:k≠kf:=(fun e=>hsn (by have:=key_inj hkn hE hi.1 e;rw [this];exact hi.2.1));obtain ⟨hff,_⟩:=hf.find hn hi.1;refine Tri.le (S:=⟨66,2,18,[(0,.loc 0 0),(2,.loc 16 0),(12,.loc 10 0),(4,.loc 17 0)],[(17,.box (enC d)),(16,.box (enC df)),(1,.ext (mapX dfV [17,16] (turnE (turnE L kf (.out df 16 p1 c1)) k (.out d 17 p c)) clock)),(0,.box (tbC tb 1)),(10,.ext (itX 1 clock (i ++ [b])))],[]⟩) (Le.trans (Le.takeF 2 1 rfl hff rfl) (Le.trans (Le.takeF 4 1 rfl ((find_other hne).trans hfd) rfl) (Le.weak rfl rfl rfl rfl ⟨rfl,rfl,rfl,rfl,trivial⟩ ⟨rfl,rfl,rfl,rfl,rfl,trivial⟩))) ?_
          refine Tri.seq (Tri.drw hT hm 42 (by kernel_rfl) ?_)
          refine ⟨_,[],trivial,rfl,rfl,fun h=>⟨rfl,rfl,rfl⟩,?_⟩
          refine ⟨_,[],trivial,rfl,rfl,fun h=>⟨h,rfl,rfl,rfl⟩,?_⟩
          refine ⟨_,[],trivial,rfl,rfl,fun h=>⟨h,rfl,rfl,rfl⟩,?_⟩
          refine ⟨_,[],trivial,rfl,rfl,fun h=>⟨rfl,rfl,rfl⟩,?_⟩
          refine ⟨_,[],trivial,rfl,rfl,fun h=>⟨h,rfl,rfl,rfl⟩,?_⟩
          refine ⟨_,[],trivial,rfl,rfl,fun h=>⟨h,rfl,rfl,rfl⟩,?_⟩
          refine ⟨_,[],trivial,rfl,rfl,fun h=>⟨h,rfl,rfl,rfl⟩,?_⟩
          refine ⟨_,[],trivial,rfl,rfl,fun h=>⟨rfl,rfl,rfl⟩,?_⟩
          refine ⟨_,[],trivial,rfl,rfl,fun h=>⟨h,rfl,rfl,rfl⟩,?_⟩
          refine ⟨_,[],trivial,rfl,rfl,fun h=>⟨h,rfl,rfl,rfl⟩,?_⟩
          refine ⟨_,[],trivial,rfl,rfl,fun h=>⟨h,rfl,rfl,rfl⟩,?_⟩
          refine ⟨_,[],trivial,rfl,rfl,fun h=>⟨h,h,rfl,rfl,rfl⟩,?_⟩
          refine ⟨_,[],trivial,rfl,rfl,fun h=>⟨h,⟨fun _=>trivial,fun hc=>ga h (gn hc)⟩,rfl,rfl,rfl⟩,?_⟩
          refine ⟨_,[],trivial,rfl,rfl,fun h=>⟨h,rfl,rfl,rfl⟩,?_⟩
          refine ⟨_,[],trivial,rfl,rfl,fun h=>⟨rfl,rfl,rfl⟩,?_⟩
          refine ⟨_,[],trivial,rfl,rfl,fun h=>⟨h,rfl,rfl,rfl⟩,?_⟩
          refine ⟨_,[],trivial,rfl,rfl,fun h=>⟨h,rfl,rfl,rfl⟩,?_⟩
          refine ⟨_,[],trivial,rfl,rfl,fun h=>⟨h,rfl,rfl,rfl⟩,?_⟩
          refine ⟨_,[],trivial,rfl,rfl,fun h=>⟨rfl,rfl,rfl⟩,?_⟩
          refine ⟨_,[],trivial,rfl,rfl,fun h=>⟨h,rfl,rfl,rfl⟩,?_⟩
          refine ⟨_,[],trivial,rfl,rfl,fun h=>⟨h,rfl,rfl,rfl⟩,?_⟩
          refine ⟨_,[],trivial,rfl,rfl,fun h=>⟨h,rfl,rfl,rfl⟩,?_⟩
          refine ⟨_,[],trivial,rfl,rfl,fun h=>⟨h,h,rfl,rfl,rfl⟩,?_⟩
          refine ⟨_,[],trivial,rfl,rfl,fun h=>⟨h,rfl,rfl,rfl⟩,?_⟩
          refine ⟨_,[],trivial,rfl,rfl,fun h=>⟨rfl,rfl,rfl⟩,?_⟩
          refine ⟨_,[],trivial,rfl,rfl,fun h=>⟨h,rfl,rfl,rfl⟩,?_⟩
          refine ⟨_,[],trivial,rfl,rfl,fun h=>⟨h,rfl,rfl,rfl⟩,?_⟩
          refine ⟨_,[],trivial,rfl,rfl,fun h=>⟨h,rfl,rfl,rfl⟩,?_⟩
          refine ⟨_,[],trivial,rfl,rfl,fun h=>⟨rfl,rfl,rfl⟩,?_⟩
          refine ⟨_,[],trivial,rfl,rfl,fun h=>⟨h,rfl,rfl,rfl⟩,?_⟩
          refine ⟨_,[],trivial,rfl,rfl,fun h=>⟨h,rfl,rfl,rfl⟩,?_⟩
          refine ⟨_,[],trivial,rfl,rfl,fun h=>⟨h,rfl,rfl,rfl⟩,?_⟩
          refine ⟨_,[],trivial,rfl,rfl,fun h=>⟨h,h,rfl,rfl,rfl⟩,?_⟩
          refine ⟨_,[],trivial,rfl,rfl,fun h=>⟨h,⟨fun hc=>ga h hc,fun _=>trivial⟩,rfl,rfl,rfl⟩,?_⟩
          refine ⟨_,[],trivial,rfl,rfl,fun h=>⟨h,⟨fun _=>trivial,fun hc=>ga h (gn hc)⟩,rfl,rfl,rfl⟩,?_⟩
          refine ⟨⟨fun hc=>hc,fun _=>trivial⟩,?_⟩
          refine ⟨by kernel_rfl,?_⟩
          refine (Tri.cond ⟨fun h5=>?_,fun h5=>?_⟩)
          · refine (Tri.reg hT ?_)
            have hgd:eGone d = false∧(eBeg d < eBeg df∨(eBeg d = eBeg df∧eOrd d < eOrd df)):=(by simpa using h5);exact ⟨(i ++ [b],some (k,d,p,c,b)),first_turn hf.born hi hE hgd.1 (by unfold befE;have:=hgd.2;show eBeg d < eBeg df∨(eBeg d = eBeg df∧eOrd d≤eOrd df);omega),hlf,Le.trans (Le.putB (os':=[16]) 1 17 rfl rfl ((find_other hne).trans hfd) (by rw [turnE_keys];exact hkn) (hoo _ _ _ _ _ _ (by decide)) (by simp) (by simp)) (Le.trans (Le.putB (os':=[]) 1 16 rfl rfl hff hkn (by rw [hf.outs];simp) (by simp) (by simp)) (Le.weak rfl rfl rfl rfl ⟨rfl,rfl,rfl,trivial⟩ ⟨rfl,rfl,rfl,trivial⟩))⟩
          · refine (Tri.skip ?_)
            have hgd:eGone d = true∨¬ (eBeg d < eBeg df∨(eBeg d = eBeg df∧eOrd d < eOrd df)):=(by by_cases hq:eGone d = true;exact .inl hq;exact .inr (fun q=>by simp [hq] at h5;omega));exact ⟨(i ++ [b],some (kf,df,p1,c1,b1)),first_keep hf.born hi hE (hgd.imp (fun h=>h) (fun h=>by unfold befE;show eBeg df < eBeg d∨(eBeg df = eBeg d∧eOrd df≤eOrd d);omega)),hlf,Le.trans (Le.putB (os':=[16]) 1 17 rfl rfl ((find_other hne).trans hfd) (by rw [turnE_keys];exact hkn) (hoo _ _ _ _ _ _ (by decide)) (by simp) (by simp)) (Le.trans (Le.putB (os':=[]) 1 16 rfl rfl hff hkn (by rw [hf.outs];simp) (by simp) (by simp)) (Le.weak rfl rfl rfl rfl ⟨rfl,rfl,rfl,trivial⟩ ⟨rfl,rfl,rfl,trivial⟩))⟩
        · refine Tri.exit ?_
          have hgn:g = none:=(by cases g with|none=>rfl|some x=>cases h4);subst hgn;obtain ⟨hff,hkn⟩:=hf.find hn hi.1;obtain ⟨_,_,_,_,_,hq,hkl⟩:=hf.own hi.1;simp only [fcE,Ent.mk.injEq,ES.own.injEq] at hq;obtain ⟨rfl,⟨rfl,rfl,rfl⟩,rfl⟩:=hq;refine Tri.le (S:=⟨66,2,14,[(0,.loc 0 0),(2,.loc 13 0)],[(13,.box (enC df)),(1,.ext (mapX dfV [13] (turnE L kf (.out df 13 p1 c1)) clock)),(0,.box (tbC tb 1))],[]⟩) (Le.trans (Le.takeF 2 1 rfl hff rfl) (Le.weak rfl rfl rfl rfl ⟨rfl,rfl,trivial⟩ ⟨rfl,rfl,rfl,trivial⟩)) ?_
          refine (Tri.reg hT ?_)
          have h1':=of_decide_eq_false h1;have e:limitT tb.l = setT tb.l kf (goneE df):=(by unfold limitT;rw [if_neg h1',first_is hs hkl hi.2.2.1 (fun x hx hxg=>by obtain ⟨E,hE,_,hEd⟩:=hf.mem hx;exact hi.2.2.2 E hE (hg E hE) x.2 hEd hxg)]);exact ⟨_,Le.trans (Le.weakV (S:=⟨66,2,30,[],[(13,.box (enC (goneE df))),(1,.ext (mapX dfV [13] (turnE L kf (.out df 13 p1 c1)) clock)),(0,.box (tbC tb 1))],[]⟩) rfl rfl rfl rfl trivial ⟨⟨rfl,rfl,rfl,rfl,rfl,rfl,trivial⟩,rfl,⟨rfl,rfl,rfl,rfl,rfl,trivial⟩,trivial⟩) (Le.putD (os':=[]) (d':=goneE df) 1 13 rfl rfl hff hkn (by rw [hf.outs];simp) (by simp) (by simp) rfl),turnE L kf (.own (goneE df) p1 c1),by rw [e];exact hf.set kf (goneE df) p1 c1,by rw [e];exact ⟨rfl,rfl,rfl,trivial⟩⟩
end Go.Proofs.Ytfaplilocljknaa.Fx
