import Derived.Test.YtfaplilocljknaaDfG
import Derived.Test.YtfaplilocljknaaGDf2
set_option linter.all false
namespace Go.Proofs.Ytfaplilocljknaa.Fx
open Go Go.Fw Go.Ov Go.Df
abbrev vB (l:List Int) (i:Nat):Int:=l.getD i 0
abbrev fB (l:List Int) (i:Nat):Fg:=bFg ((vB l i).tmod 50) (((vB l i).tdiv 50).tmod 9)
def bT (l:List Int) (p:Int):Nat→Tb
  | 0=>tNew 1000000
  | i + 1=>(addT (bT l p i) i (fB l i) (1 + p.tmod 5)).2
theorem v_ok {l:List Int} (hl:∀ v∈l,0≤v∧v < 65536) (i:Nat):0≤vB l i∧vB l i < 65536:=by
  by_cases h:i < l.length
  · exact hl _ (getD_mem h)
  · unfold vB;rw [List.getD_eq_getElem?_getD,List.getElem?_eq_none (by omega)];decide
theorem k_ok {l:List Int} (hl:∀ v∈l,0≤v∧v < 65536) (i:Nat):0≤((vB l i).tdiv 50).tmod 9∧((vB l i).tdiv 50).tmod 9≤8:=by
  have h:=v_ok hl i
  rw [Int.tdiv_eq_ediv_of_nonneg h.1]
  have:0≤vB l i / 50:=by omega
  rw [Int.tmod_eq_emod_of_nonneg this]
  omega
theorem p_ok {p:Int} (hp:0≤p∧p < 256):1≤1 + p.tmod 5∧1 + p.tmod 5≤5:=by
  rw [Int.tmod_eq_emod_of_nonneg hp.1]
  omega
theorem bT_ok {l:List Int} {p:Int} (hl:∀ v∈l,0≤v∧v < 65536) (hp:0≤p∧p < 256):∀ i:Nat,i≤81→TI (bT l p i) i∧∃ z:Int,z≤i∧BI (bT l p i) 1000000 z
  | 0,_=>⟨ti_new (by decide) (by decide),0,by decide,rfl,rfl,show (0:Int)≤32 by decide,fun x hx=>absurd (show x∈([]:List (Ky × En)) from hx) (by simp)⟩
  | i + 1,h=>by
    obtain ⟨h1,z,h2,h3⟩:=bT_ok hl hp i (by omega)
    have h4:=h1.add (by omega) (i:Int) (fB l i) (1 + p.tmod 5)
    have h5:=bounds_step h1 h3 (at_:=(i:Int)) ⟨h2,by omega⟩ (id:=(vB l i).tmod 50) (k_ok hl i) (p_ok hp)
    have e:((i + 1:Nat):Int) = (i:Int) + 1:=by omega
    rw [← e] at h4
    exact ⟨h4,i,by omega,h5.bi⟩
theorem bT_step {l:List Int} {p:Int} (hl:∀ v∈l,0≤v∧v < 65536) (hp:0≤p∧p < 256) {i:Nat} (h:i≤80):BStep (addT (bT l p i) i (fB l i) (1 + p.tmod 5)) 1000000 i:=by
  obtain ⟨h1,z,h2,h3⟩:=bT_ok hl hp i (by omega)
  exact bounds_step h1 h3 (at_:=(i:Int)) ⟨h2,by omega⟩ (id:=(vB l i).tmod 50) (k_ok hl i) (p_ok hp)
abbrev SB (l:List Int) (p:Int) (g:Nat × DL × Nat):St:=⟨100,0,60,[(0,.list (.int .u16) l),(1,.int .u8 p),(5,.loc 40 0),(6,.int .i64 (g.1:Int))],tbQ (bT l p g.1) g.2.1 g.2.2,[]⟩
theorem f5_spec (l:List Int) (p:Int) (hl:∀ v∈l,0≤v∧v < 65536) (hp:0≤p∧p < 256):PSpec P [] 5 [.list (.int .u16) l,.int .u8 p] (.bool true):=by
  show HSpec P [] 5 [.list (.int .u16) l,.int .u8 p] [] (.bool true) []
  refine fspec_intro hT [] [] 0 0 Try.func5 (by decide) rfl rfl (by kernel_rfl) rfl rfl ?_
  refine Tri.seq (Tri.reg hT ?_)
  refine Tri.seq ?_
  refine Tri.seq (Tri.reg hT ?_)
  refine (Tri.cond ⟨fun h1=>?_,fun h1=>?_⟩)
  · refine Tri.seq (Tri.reg hT ?_)
    refine .inl (.inl ⟨_,fun _=>rfl,f7_spec,?_⟩)
    refine Tri.ret ?_
    exact ⟨rfl,trivial⟩
  · refine (Tri.skip ?_)
    refine Tri.seq (Tri.regM hT [0] ?_)
    refine ⟨_,Le.refl _,.inl (.inr (OpTri.hcall 50 rfl rfl rfl (newT 1000000) trivial trivial rfl ?_))⟩
    refine Tri.seq ?_
    refine Tri.seq (Tri.reg hT ?_)
    refine (Tri.cond ⟨fun h2=>?_,fun h2=>?_⟩)
    · exact absurd h2 (by decide)
    · refine (Tri.skip ?_)
      refine Tri.seq ?_
      refine Tri.seq (Tri.reg hT ?_)
      refine (Tri.block ?_)
      refine (Tri.loop (ι:=Nat × DL × Nat) (fun g=>SB l p g) (fun g=>g.1≤l.length∧Fits g.2.1 g.2.2 (bT l p g.1).l) (fun g=>l.length - g.1) ((0,[],0)) ?_ ?_ ?_)
      · exact ⟨Nat.zero_le _,Fits.nil⟩
      · exact Le.weak rfl rfl rfl rfl ⟨rfl,rfl,rfl,rfl,trivial⟩ ⟨rfl,rfl,trivial⟩
      · intro i hi
        refine Tri.seq ?_
        refine Tri.seq (Tri.reg hT ?_)
        refine (Tri.cond ⟨fun h3=>?_,fun h3=>?_⟩)
        · refine (Tri.skip ?_)
          refine Tri.seq (Tri.block ?_)
          obtain ⟨i,L,clock⟩:=i;have hl80:l.length≤80:=(by have:=of_decide_eq_false h1;omega);have hlt:i < l.length:=(by have h3':(i:Int) < (l.length:Int):=of_decide_eq_true h3;omega)
          refine Tri.seq (Tri.drw hT hm 16 (by kernel_rfl) ?_)
          refine ⟨(by first|((try simp only [decide_eq_true_eq,decide_eq_false_iff_not,toNat_cast] at *);omega)|decide),?_⟩
          refine ⟨(by decide),?_⟩
          refine ⟨(by first|((try simp only [decide_eq_true_eq,decide_eq_false_iff_not,toNat_cast] at *);omega)|decide),?_⟩
          refine ⟨(by decide),?_⟩
          refine ⟨(by decide),?_⟩
          refine ⟨by kernel_rfl,?_⟩
          obtain ⟨hti,z0,hz0,hbi⟩:=bT_ok hl hp i (by omega);obtain ⟨hti1,z1,hz1,hbi1⟩:=bT_ok hl hp (i + 1) (by omega);have hst:=bT_step hl hp (i:=i) (by omega);have hvk:=v_ok hl i;have hkk:=k_ok hl i;have hpp:=p_ok hp;have hsz:=size_bd hbi1.e;have hop:=hbi1.o;have hnn:=openN_nn (bT l p (i + 1)).l;obtain ⟨⟨dg,dn,er⟩,hr⟩:∃ r,r = (addT (bT l p i) i (fB l i) (1 + p.tmod 5)).1:=⟨_,rfl⟩;have eA:addT (bT l p i) i (fB l i) (1 + p.tmod 5) = ((dg,dn,er),bT l p (i + 1)):=Prod.ext hr.symm rfl;obtain ⟨hdn,her,_⟩:=hst;rw [eA] at hdn her;have hdn:dn = false:=hdn;have her:er = 0∨er = 20∨er = 17:=her;subst hdn;have hpol:IntKind.i64.wrap (1 + (IntKind.i64.wrap p).tmod 5) = 1 + p.tmod 5:=(by rw [wrapId (x:=p) (by omega),wrapId (by omega)]);have hadd:GSpec P [] 9 [.loc 40 0,.int .i64 (i:Int),fv (fB l i),.int .i64 (IntKind.i64.wrap (1 + (IntKind.i64.wrap p).tmod 5))] (tbQ (bT l p i) L clock) (fun g:DL × Nat=>Fits g.1 g.2 (bT l p (i + 1)).l) (fun _=>resV (dg,false,er)) (fun g=>tbQ (bT l p (i + 1)) g.1 g.2):=(by rw [hpol];exact addTo i hi.2 hti (by omega) (by show d8.length≤_;decide) eA);have hbx:some (Chunk.box [.bool false,.int .u64 0,.int .u64 0,.bool false,.int .u64 0,.int .u64 0,.int .i64 0,.int .i64 ((IntKind.i64.wrap (vB l i)).tmod 50),.int .i64 0,.int .i64 (IntKind.i64.wrap (8 * (IntKind.i64.wrap ((IntKind.i64.wrap (vB l i)).tdiv 50)).tmod 9)),.bool true,.str d8]) = some (Chunk.box (fgC (fB l i))):=(by rw [wrapId (x:=vB l i) (by omega),wrapId (x:=(vB l i).tdiv 50) (by rw [Int.tdiv_eq_ediv_of_nonneg hvk.1];omega),wrapId (by omega)]);refine Tri.le (S:=⟨100,0,90,[(0,.list (.int .u16) l),(1,.int .u8 p),(5,.loc 40 0),(6,.int .i64 (i:Int)),(7,.loc 79 0)],[(79,.box (fgC (fB l i))),(40,.box (tbC (bT l p i) 41)),(41,.ext (mapX dfV [] L clock))],[]⟩) (Le.weak rfl rfl rfl rfl ⟨rfl,rfl,rfl,rfl,rfl,trivial⟩ ⟨hbx,rfl,rfl,trivial⟩) ?_
          refine Tri.seq (Tri.regM hT [7] ?_)
          refine ⟨(by decide),?_⟩
          refine ⟨_,Le.refl _,.inl (.inr (OpTri.gcall 1 rfl rfl rfl hadd trivial ⟨rfl,rfl,trivial⟩ (fun g _=>rfl) (fun g hg=>?_)))⟩
          refine Tri.seq ?_
          refine Tri.seq (Tri.reg hT ?_)
          refine ⟨_,[],trivial,rfl,rfl,fun h=>⟨rfl,rfl,rfl⟩,?_⟩
          refine ⟨_,[],trivial,rfl,rfl,fun h=>⟨h,rfl,rfl,rfl⟩,?_⟩
          refine ⟨_,[],trivial,rfl,rfl,fun h=>⟨h,rfl,rfl,rfl⟩,?_⟩
          refine ⟨_,[],trivial,rfl,rfl,fun h=>⟨rfl,rfl,rfl⟩,?_⟩
          refine ⟨_,[],trivial,rfl,rfl,fun h=>⟨h,rfl,rfl,rfl⟩,?_⟩
          refine ⟨_,[],trivial,rfl,rfl,fun h=>⟨h,⟨fun hc=>ga h hc,fun _=>trivial⟩,rfl,rfl,rfl⟩,?_⟩
          refine ⟨_,[],trivial,rfl,rfl,fun h=>⟨h,rfl,rfl,rfl⟩,?_⟩
          refine ⟨_,[],trivial,rfl,rfl,fun h=>⟨rfl,rfl,rfl⟩,?_⟩
          refine ⟨_,[],trivial,rfl,rfl,fun h=>⟨h,rfl,rfl,rfl⟩,?_⟩
          refine ⟨_,[],trivial,rfl,rfl,fun h=>⟨h,⟨fun hc=>ga h hc,fun _=>trivial⟩,rfl,rfl,rfl⟩,?_⟩
          refine ⟨⟨fun _=>trivial,fun hc=>(gn hc)⟩,?_⟩
          refine (Tri.cond ⟨fun h4=>?_,fun h4=>?_⟩)
          · exfalso;rcases her with h|h|h <;> subst h <;> simp at h4
          · refine (Tri.skip ?_)
            refine Tri.seq (Tri.regM hT [1,4,5,9,10,11,12] ?_)
            refine ⟨_,Le.refl _,.inl (.inr (OpTri.hcall 1 rfl rfl rfl (lenOf hg hti1 (n:=openN (bT l p (i + 1)).l) rfl) trivial ⟨rfl,rfl,trivial⟩ rfl ?_))⟩
            refine ⟨_,Le.refl _,.inr (.inl ⟨_,rfl,(by refine (congrArg some ?_:some _ = some true);simp [gd];omega),.inl ?_⟩)⟩
            refine ⟨_,Le.refl _,.inr (.inl ⟨_,rfl,(by refine (congrArg some ?_:some _ = some true);simp [gd];omega),.inr (OpTri.hcall 1 rfl rfl rfl (sizeOf hg hti1 (n:=sizeN (bT l p (i + 1)).l) rfl) trivial ⟨rfl,rfl,trivial⟩ rfl ?_)⟩)⟩
            refine ⟨_,[],trivial,rfl,rfl,fun h=>⟨rfl,rfl,rfl⟩,?_⟩
            refine ⟨⟨fun _=>trivial,fun hc=>(gn hc)⟩,?_⟩
            refine ⟨_,Le.refl _,.inr (.inl ⟨_,rfl,(by refine (congrArg some ?_:some _ = some true);simp [gd];omega),.inl ?_⟩)⟩
            refine ⟨_,Le.refl _,.inr (.inl ⟨_,rfl,(by refine (congrArg some ?_:some _ = some true);simp [gd];omega),.inr (OpTri.hcall 1 rfl rfl rfl (sizeOf hg hti1 (n:=sizeN (bT l p (i + 1)).l) rfl) trivial ⟨rfl,rfl,trivial⟩ rfl ?_)⟩)⟩
            refine ⟨_,Le.refl _,.inr (.inl ⟨_,rfl,(by refine (congrArg some ?_:some _ = some true);simp [gd];omega),.inl ?_⟩)⟩
            refine ⟨_,Le.refl _,.inr (.inl ⟨_,rfl,(by refine (congrArg some ?_:some _ = some true);simp [gd];omega),.inr (OpTri.hcall 1 rfl rfl rfl (lenOf hg hti1 (n:=openN (bT l p (i + 1)).l) rfl) trivial ⟨rfl,rfl,trivial⟩ rfl ?_)⟩)⟩
            refine ⟨_,[],trivial,rfl,rfl,fun h=>⟨rfl,rfl,rfl⟩,?_⟩
            refine ⟨_,[],trivial,rfl,rfl,fun h=>⟨h,rfl,rfl,rfl⟩,?_⟩
            refine ⟨⟨fun _=>trivial,fun hc=>(gn hc)⟩,?_⟩
            refine (Tri.cond ⟨fun h5=>?_,fun h5=>?_⟩)
            · exfalso;rcases or_t h5 with h|h;rcases or_t h with h|h;have:=of_decide_eq_true h;omega;have:=of_decide_eq_true h;omega;have:=of_decide_eq_true h;rw [wrapId (by omega)] at this;omega
            · refine (Tri.skip ?_)
              refine (Tri.reg hT ?_)
              exact ⟨(i + 1,g.1,g.2),⟨by omega,hg⟩,by show l.length - (i + 1) < l.length - i;omega,Le.weak rfl rfl rfl rfl ⟨rfl,rfl,rfl,iv1 (by omega),trivial⟩ ⟨rfl,rfl,trivial⟩⟩
        · refine Tri.exit ?_
          obtain ⟨i,L,clock⟩:=i;have hl80:l.length≤80:=(by have:=of_decide_eq_false h1;omega);obtain ⟨hi1,hf⟩:=hi;have hi1:i≤l.length:=hi1;have hf:Fits L clock (bT l p i).l:=hf;obtain ⟨hti,z0,hz0,hbi⟩:=bT_ok hl hp i (by omega);have hz:=hbi.tim;obtain ⟨hmv,hnl⟩:=bounds_end hti hbi (by omega);have hxA:expA (bT l p i) 2000000 = 2000000:=(by unfold expA;omega);have hf2:=hf.filter (expB (bT l p i) 2000000);have hti2:TI (moveT (bT l p i) 2000000) i:=hti.move (by omega) (by decide);have hex:HSpec P [] 14 [.loc 40 0,.int .i64 2000000] (tbQ (bT l p i) L clock) (.int .i64 (openN (bT l p i).l)) (tbQ (moveT (bT l p i) 2000000) (L.filter fun E=>!valB (expB (bT l p i) 2000000) E) clock):=(by have:=expOf 2000000 hf hti;rw [hxA,hmv] at this;exact this)
          refine Tri.seq (Tri.regM hT [1] ?_)
          refine ⟨_,Le.refl _,.inl (.inr (OpTri.hcall 1 rfl rfl rfl (lenOf hf hti (n:=openN (bT l p i).l) rfl) trivial ⟨rfl,rfl,trivial⟩ rfl ?_))⟩
          refine Tri.seq (Tri.regM hT [1,5,6,10,11,15] ?_)
          refine ⟨_,Le.refl _,.inl (.inr (OpTri.hcall 1 rfl rfl rfl (hex) trivial ⟨rfl,rfl,trivial⟩ rfl ?_))⟩
          refine ⟨_,Le.refl _,.inr (.inl ⟨_,rfl,(by refine (congrArg some ?_:some _ = some true);simp [gd]),.inl ?_⟩)⟩
          refine ⟨_,Le.refl _,.inr (.inl ⟨_,rfl,(by refine (congrArg some ?_:some _ = some true);simp [gd]),.inr (OpTri.hcall 1 rfl rfl rfl (lenOf hf2 hti2 (n:=0) (by rw [hnl];rfl)) trivial ⟨rfl,rfl,trivial⟩ rfl ?_)⟩)⟩
          refine ⟨_,[],trivial,rfl,rfl,fun h=>⟨rfl,rfl,rfl⟩,?_⟩
          refine ⟨⟨fun hc=>hc,fun _=>trivial⟩,?_⟩
          refine ⟨_,Le.refl _,.inr (.inl ⟨_,rfl,(by refine (congrArg some ?_:some _ = some true);simp [gd]),.inl ?_⟩)⟩
          refine ⟨_,Le.refl _,.inr (.inl ⟨_,rfl,(by refine (congrArg some ?_:some _ = some true);simp [gd]),.inr (OpTri.hcall 1 rfl rfl rfl (sizeOf hf2 hti2 (n:=0) (by rw [hnl];rfl)) trivial ⟨rfl,rfl,trivial⟩ rfl ?_)⟩)⟩
          refine ⟨_,[],trivial,rfl,rfl,fun h=>⟨rfl,rfl,rfl⟩,?_⟩
          refine ⟨⟨fun hc=>hc,fun _=>trivial⟩,?_⟩
          refine ⟨_,Le.refl _,.inr (.inl ⟨_,rfl,(by refine (congrArg some ?_:some _ = some true);simp [gd]),.inl ?_⟩)⟩
          refine .inl (.inl ⟨_,fun _=>rfl,f7_spec,?_⟩)
          refine ⟨⟨fun _=>trivial,fun _=>trivial⟩,?_⟩
          refine Tri.ret ?_
          exact ⟨congrArg AV.bool (by simp),trivial⟩
end Go.Proofs.Ytfaplilocljknaa.Fx
