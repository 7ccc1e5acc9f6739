import Derived.Test.YtfaplilocljknaaDfA
import Derived.Test.YtfaplilocljknaaGDf1
set_option linter.all false
namespace Go.Proofs.Ytfaplilocljknaa.Fx
open Go Go.Fw Go.Ov Go.Df
theorem f11_spec (tb:Tb) (L:DL) (clock:Nat):HSpec P [] 11 [.loc 0 0] (tbH tb L clock) (.int .i64 tb.conf) (tbH tb L clock):=by
  refine fspec_intro hT (tbH tb L clock) (tbH tb L clock) 2 2 Try.func11 (by decide) rfl rfl (by kernel_rfl) rfl rfl ?_
  refine Tri.seq (Tri.reg hT ?_)
  refine Tri.seq ?_
  refine Tri.seq (Tri.reg hT ?_)
  refine (Tri.cond ⟨fun h1=>?_,fun h1=>?_⟩)
  · exact absurd h1 (by decide)
  · refine (Tri.skip ?_)
    refine Tri.seq (Tri.reg hT ?_)
    refine Tri.ret ?_
    exact ⟨rfl,rfl,rfl,trivial⟩
theorem f8_spec (t:Int):HSpec P [] 8 [.int .i64 t] [] (.loc 6 0) [(6,.box (tbC ⟨min (max t 1) 1099511627776,0,0,0,[]⟩ 4)),(4,.ext (mapX dfV [] [] 0))]:=by
  refine fspec_intro hT [] [(6,.box (tbC ⟨min (max t 1) 1099511627776,0,0,0,[]⟩ 4)),(4,.ext (mapX dfV [] [] 0))] 0 0 Try.func8 (by decide) rfl rfl (by kernel_rfl) rfl rfl ?_
  refine Tri.seq (Tri.reg hT ?_)
  refine Tri.seq (Tri.regM hT [3] ?_)
  refine ⟨_,Le.refl _,.inl (.inr (OpTri.makeF dfV rfl rfl ?_))⟩
  refine Tri.ret ?_
  exact ⟨rfl,rfl,rfl,trivial⟩
abbrev SSize (tb:Tb) (L:DL) (clock:Nat) (seen:List Nat):St:=⟨25,2,11,[(0,.loc 0 0),(3,.int .i64 (sumS (valE (fun d=>lenSum (ePcs d))) L seen)),(12,.loc 10 0)],[(0,.box (tbC tb 1)),(1,.ext (mapX dfV [] L clock)),(10,.ext (itX 1 clock seen))],[]⟩
theorem f17_spec (tb:Tb) (L:DL) (clock:Nat) (hf:Fits L clock tb.l) (hn:(tb.l.map (·.1)).Nodup) (hl:tb.l.length≤1048576) (hv:∀ x∈tb.l,Valid (ePcs x.2)∧(ePcs x.2).length≤1048576) :
    HSpec P [] 17 [.loc 0 0] (tbH tb L clock) (.int .i64 (sizeN tb.l)) (tbH tb L clock):=by
  have hb:∀ i,0≤sumS (valE (fun d=>lenSum (ePcs d))) L i∧sumS (valE (fun d=>lenSum (ePcs d))) L i≤4503599627370496:=fun i=>by
    have h1:=sumS_le (valE (fun d=>lenSum (ePcs d))) (m:=4294967296) (by omega) (L:=L) (seen:=i) (fun E hE=>by
      obtain ⟨k,d,p,c,b,rfl,hEl⟩:=hf.own hE
      exact ⟨lenSum_nonneg _,lenSum_le (hv _ hEl).1⟩)
    rw [hf.length] at h1
    omega
  refine fspec_intro hT (tbH tb L clock) (tbH tb L clock) 2 2 Try.func17 (by decide) rfl rfl (by kernel_rfl) rfl rfl ?_
  refine Tri.seq (Tri.reg hT ?_)
  refine Tri.seq ?_
  refine Tri.seq (Tri.reg hT ?_)
  refine (Tri.cond ⟨fun h1=>?_,fun h1=>?_⟩)
  · exact absurd h1 (by decide)
  · refine (Tri.skip ?_)
    refine Tri.seq (Tri.reg hT ?_)
    refine Tri.seq ?_
    refine Tri.seq (Tri.regM hT [4] ?_)
    refine ⟨_,Le.refl _,.inl (.inr (OpTri.rangeF (V:=dfV) (os:=[]) (L:=L) (clock:=clock) (kt:=63) (et:=64) (by kernel_rfl) rfl rfl ⟨trivial,rfl⟩ rfl ?_))⟩
    refine (Tri.block ?_)
    refine (Tri.loop (ι:=List Nat) (fun seen=>SSize tb L clock seen) (fun seen=>True) (fun seen=>leftS L seen) ([]) ?_ ?_ ?_)
    · exact trivial
    · exact Le.weak rfl rfl rfl rfl ⟨rfl,congrArg (AV.int .i64) (sumS_nil _ _).symm,rfl,trivial⟩ ⟨rfl,rfl,rfl,trivial⟩
    · intro i hi
      refine Tri.seq (Tri.regM hT [0] ?_)
      refine ⟨_,Le.refl _,.inl (.inr (OpTri.nextF hT (V:=dfV) (os:=[]) (L:=L) (clock:=clock) (seen:=i) (id:=1) (j:=10) rfl rfl rfl ⟨trivial,rfl⟩ rfl rfl (fun g hg=>?_)))⟩
      refine Tri.seq (Tri.cond ⟨fun h2=>?_,fun h2=>?_⟩)
      · refine (Tri.skip ?_)
        refine (Tri.block ?_)
        obtain ⟨E,rfl⟩:∃ E,g = some E:=Option.isSome_iff_exists.1 h2;obtain ⟨hE,hsn⟩:=hg;obtain ⟨k,d,p,c,b,rfl,hEl⟩:=hf.own hE;obtain ⟨hfd,hkn⟩:=hf.find hn hE;have hst:=sumS_step (valE (fun d=>lenSum (ePcs d))) hE hsn hf.born;have hlf:=leftS_step hE hsn;obtain ⟨hv1,hv2⟩:=hv _ hEl;have hv2:(ePcs d).length≤1048576:=hv2;have hls:lenSum (ePcs d)≤4294967296:=lenSum_le hv1
        refine Tri.seq (Tri.regM hT [0] ?_)
        refine ⟨_,Le.refl _,.inl (.inr (OpTri.entryF hT (V:=dfV) (os:=[]) (L:=L) (clock:=clock) (seen:=i) (id:=1) (j:=10) ⟨k,.own d p c,b⟩ rfl rfl ⟨trivial,rfl⟩ rfl rfl hE ?_))⟩
        refine Tri.le (S:=⟨25,2,17,[(0,.loc 0 0),(3,.int .i64 (sumS (valE (fun d=>lenSum (ePcs d))) L i)),(12,.loc 10 0),(5,.loc 16 0)],[(16,.box (enC d)),(1,.ext (mapX dfV [16] (turnE L k (.out d 16 p c)) clock)),(0,.box (tbC tb 1)),(10,.ext (itX 1 clock (i ++ [b])))],[]⟩) (Le.trans (Le.takeF 5 1 rfl hfd rfl) (Le.weak rfl rfl rfl rfl ⟨rfl,rfl,rfl,rfl,trivial⟩ ⟨rfl,rfl,rfl,rfl,trivial⟩)) ?_
        refine (Tri.reg hT ?_)
        refine .inl (.inl ⟨_,fun _=>rfl,f32_spec (ePcs d) (by omega) (by omega),?_⟩)
        have hb1:=hb (i ++ [b]);have hv9:valE (fun d=>lenSum (ePcs d)) ⟨k,.own d p c,b⟩ = lenSum (ePcs d):=rfl;exact ⟨i ++ [b],trivial,hlf,Le.trans (Le.putB (os':=[]) 1 16 rfl rfl hfd hkn (by rw [hf.outs];simp) (by simp) (by simp)) (Le.weak rfl rfl rfl rfl ⟨rfl,congrArg (AV.int .i64) (by rw [hst,hv9] at hb1 ⊢;rw [wrapId (by omega)]),rfl,trivial⟩ ⟨rfl,rfl,rfl,trivial⟩)⟩
      · refine Tri.exit ?_
        refine Tri.seq (Tri.reg hT ?_)
        refine Tri.ret ?_
        have hgn:g = none:=(by cases g with|none=>rfl|some x=>cases h2);subst hgn;exact ⟨congrArg (AV.int .i64) ((sumS_all _ hg).trans (hf.sum (fun d=>lenSum (ePcs d)))),rfl,rfl,trivial⟩
abbrev mvV (tb:Tb) (at_:Int) (d:En):Int:=if expB tb at_ d && !eGone d then (1:Int) else 0
abbrev SMove (tb:Tb) (at_:Int) (L:DL) (clock:Nat) (i:List Nat):St:=⟨46,2,14,[(0,.loc 0 0),(1,.int .i64 at_),(5,.int .i64 (sumS (valE (mvV tb at_)) L i)),(16,.loc 13 0)],
  [(0,.box [.int .i64 tb.timeout,.int .i64 at_,.int .i64 tb.conf,.int .i64 tb.ord,.ex (mapV 1)]),(1,.ext (mapX dfV [] (keepS (valB (expB tb at_)) L i) clock)),(13,.ext (itX 1 clock i))],[]⟩
theorem f22_spec (tb:Tb) (at_:Int) (L:DL) (clock:Nat) (hf:Fits L clock tb.l) (hn:(tb.l.map (·.1)).Nodup) (hl:tb.l.length≤1048576) (h1:0≤at_∧at_≤1099511627776) (h2:1≤tb.timeout∧tb.timeout≤1099511627776) :
    HSpec P [] 22 [.loc 0 0,.int .i64 at_] (tbH tb L clock) (.int .i64 (moveN tb at_)) (tbH (moveT tb at_) (L.filter fun E=>!valB (expB tb at_) E) clock):=by
  have hb:∀ i,0≤sumS (valE (mvV tb at_)) L i∧sumS (valE (mvV tb at_)) L i≤1048576:=fun i=>by
    have h1:=sumS_le (valE (mvV tb at_)) (m:=1) (by omega) (L:=L) (seen:=i) (fun E hE=>by
      obtain ⟨k,d,p,c,b,rfl,_⟩:=hf.own hE
      show 0≤mvV tb at_ d∧mvV tb at_ d≤1
      unfold mvV
      split <;> omega)
    rw [hf.length] at h1
    omega
  have hkn:(L.map Ent.k).Nodup:=by rw [hf.keys];exact hn
  have hou:∀ i,outsL (keepS (valB (expB tb at_)) L i) = []:=fun i=>by
    unfold outsL
    rw [List.flatMap_eq_nil_iff]
    intro E hE
    obtain ⟨k,d,p,c,b,rfl,_⟩:=hf.own ((keepS_sub _ _ _).subset hE)
    rfl
  have hw:IntKind.i64.wrap (at_ - tb.timeout) = at_ - tb.timeout:=wrapId (by omega)
  have hl2:∀ i (E:Ent Ky En),E∈L→E.born ∉ i→leftS L (i ++ [E.born]) < leftS L i:=fun i E h1 h2=>leftS_step h1 h2
  refine fspec_intro hT (tbH tb L clock) (tbH (moveT tb at_) (L.filter fun E=>!valB (expB tb at_) E) clock) 2 2 Try.func22 (by decide) rfl rfl (by kernel_rfl) rfl rfl ?_
  refine Tri.seq (Tri.reg hT ?_)
  refine Tri.seq (Tri.reg hT ?_)
  refine Tri.seq (Tri.reg hT ?_)
  refine Tri.seq ?_
  refine Tri.seq (Tri.regM hT [4] ?_)
  refine ⟨_,Le.refl _,.inl (.inr (OpTri.rangeF (V:=dfV) (os:=[]) (L:=L) (clock:=clock) (kt:=63) (et:=64) (by kernel_rfl) rfl rfl ⟨trivial,rfl⟩ rfl ?_))⟩
  refine (Tri.block ?_)
  refine (Tri.loop (ι:=List Nat) (fun i=>SMove tb at_ L clock i) (fun seen=>True) (fun seen=>leftS L seen) ([]) ?_ ?_ ?_)
  · exact trivial
  · exact Le.weakX rfl rfl rfl rfl ⟨rfl,rfl,congrArg (AV.int .i64) (sumS_nil _ _).symm,rfl,trivial⟩ ⟨⟨_,rfl,Conv.refl _⟩,⟨_,rfl,conv_map (keepS_nil _ _).symm (by rw [hou];simp)⟩,⟨_,rfl,Conv.refl _⟩,trivial⟩
  · intro i hi
    refine Tri.seq (Tri.regM hT [0] ?_)
    refine ⟨_,Le.refl _,.inl (.inr (OpTri.nextF hT (V:=dfV) (os:=[]) (L:=keepS (valB (expB tb at_)) L i) (clock:=clock) (seen:=i) (id:=1) (j:=13) rfl rfl rfl ⟨trivial,rfl⟩ rfl rfl (fun g hg=>?_)))⟩
    refine Tri.seq (Tri.cond ⟨fun h1=>?_,fun h1=>?_⟩)
    · refine (Tri.skip ?_)
      refine (Tri.block ?_)
      obtain ⟨E,rfl⟩:∃ E,g = some E:=Option.isSome_iff_exists.1 h1;obtain ⟨hE,hsn⟩:=hg;have hEL:=(keepS_sub _ _ _).subset hE;obtain ⟨k,d,p,c,b,rfl,hEl⟩:=hf.own hEL;have hkk:=((keepS_sub (valB (expB tb at_)) L i).map Ent.k).nodup hkn;have hfd:=find_in hE hkk;have hst:=sumS_step (valE (mvV tb at_)) hEL hsn hf.born;have hlf:=hl2 i _ hEL hsn;have hb1:=hb i;have hv9:valE (mvV tb at_) ⟨k,.own d p c,b⟩ = mvV tb at_ d:=rfl;rw [hv9] at hst
      refine Tri.seq (Tri.regM hT [0] ?_)
      refine ⟨_,Le.refl _,.inl (.inr (OpTri.entryF hT (V:=dfV) (os:=[]) (L:=keepS (valB (expB tb at_)) L i) (clock:=clock) (seen:=i) (id:=1) (j:=13) ⟨k,.own d p c,b⟩ rfl rfl ⟨trivial,rfl⟩ rfl rfl hE ?_))⟩
      refine Tri.le (S:=⟨46,2,23,[(0,.loc 0 0),(1,.int .i64 at_),(5,.int .i64 (sumS (valE (mvV tb at_)) L i)),(16,.loc 13 0),(6,.loc 19 0),(7,.loc 22 0)],[(22,.box (enC d)),(1,.ext (mapX dfV [22] (turnE (keepS (valB (expB tb at_)) L i) k (.out d 22 p c)) clock)),(0,.box [.int .i64 tb.timeout,.int .i64 at_,.int .i64 tb.conf,.int .i64 tb.ord,.ex (mapV 1)]),(13,.ext (itX 1 clock (i ++ [b]))),(19,.box (explode Df.kT k))],[]⟩) (Le.trans (Le.takeF 7 1 rfl hfd rfl) (Le.weak rfl rfl rfl rfl ⟨rfl,rfl,rfl,rfl,rfl,rfl,trivial⟩ ⟨rfl,rfl,rfl,rfl,rfl,trivial⟩)) ?_
      refine Tri.seq (Tri.drw hT hm 11 (by kernel_rfl) ?_)
      refine ⟨by kernel_rfl,?_⟩
      refine (Tri.cond ⟨fun h2=>?_,fun h2=>?_⟩)
      · refine Tri.seq ?_
        refine Tri.seq (Tri.reg hT ?_)
        refine (Tri.cond ⟨fun h3=>?_,fun h3=>?_⟩)
        · refine (Tri.reg hT ?_)
          refine (Tri.drwM hT hm 5 [5] (by kernel_rfl) ?_)
          refine ⟨by kernel_rfl,?_⟩
          refine ⟨_,Le.refl _,.inl (.inr (OpTri.delF hT (V:=dfV) (os:=[22]) (L:=turnE (keepS (valB (expB tb at_)) L i) k (.out d 22 p c)) (clock:=clock) (k:=k) (et:=64) (by kernel_rfl) dfLaw rfl rfl rfl ⟨trivial,rfl⟩ ⟨trivial,rfl⟩ rfl ?_))⟩
          have hx:expB tb at_ d = true:=(by rw [hw] at h2;exact h2);have hm:mvV tb at_ d = 1:=(by have h3':(!eGone d) = true:=h3;unfold mvV;rw [hx,h3'];rfl);exact ⟨i ++ [b],trivial,hlf,Le.weakX rfl rfl rfl rfl ⟨rfl,rfl,congrArg (AV.int .i64) (by rw [hst,hm,wrapId (by omega)]),rfl,trivial⟩ ⟨⟨_,rfl,Conv.refl _⟩,⟨_,rfl,conv_map (by rw [erase_turn];exact (keepS_del hf.born hkn hEL hx).symm) (by rw [hou];simp)⟩,⟨_,rfl,Conv.refl _⟩,trivial⟩⟩
        · refine (Tri.skip ?_)
          refine (Tri.drwM hT hm 5 [5] (by kernel_rfl) ?_)
          refine ⟨by kernel_rfl,?_⟩
          refine ⟨_,Le.refl _,.inl (.inr (OpTri.delF hT (V:=dfV) (os:=[22]) (L:=turnE (keepS (valB (expB tb at_)) L i) k (.out d 22 p c)) (clock:=clock) (k:=k) (et:=64) (by kernel_rfl) dfLaw rfl rfl rfl ⟨trivial,rfl⟩ ⟨trivial,rfl⟩ rfl ?_))⟩
          have hx:expB tb at_ d = true:=(by rw [hw] at h2;exact h2);have hm:mvV tb at_ d = 0:=(by have h3':(!eGone d) = false:=h3;unfold mvV;rw [hx,h3'];rfl);exact ⟨i ++ [b],trivial,hlf,Le.weakX rfl rfl rfl rfl ⟨rfl,rfl,congrArg (AV.int .i64) (by rw [hst,hm,Int.add_zero]),rfl,trivial⟩ ⟨⟨_,rfl,Conv.refl _⟩,⟨_,rfl,conv_map (by rw [erase_turn];exact (keepS_del hf.born hkn hEL hx).symm) (by rw [hou];simp)⟩,⟨_,rfl,Conv.refl _⟩,trivial⟩⟩
      · refine (Tri.skip ?_)
        have hx:expB tb at_ d = false:=(by rw [hw] at h2;exact h2);have hm:mvV tb at_ d = 0:=(by unfold mvV;rw [hx];rfl);exact ⟨i ++ [b],trivial,hlf,Le.trans (Le.putB (os':=[]) 1 22 rfl rfl hfd hkk (by rw [hou];simp) (by simp) (by simp)) (Le.weakX rfl rfl rfl rfl ⟨rfl,rfl,congrArg (AV.int .i64) (by rw [hst,hm,Int.add_zero]),rfl,trivial⟩ ⟨⟨_,rfl,Conv.refl _⟩,⟨_,rfl,conv_map (keepS_keep hf.born hEL hx).symm (by rw [hou];simp)⟩,⟨_,rfl,Conv.refl _⟩,trivial⟩)⟩
    · refine Tri.exit ?_
      refine Tri.seq (Tri.reg hT ?_)
      refine Tri.ret ?_
      have hgn:g = none:=(by cases g with|none=>rfl|some x=>cases h1);subst hgn;obtain ⟨ha,hk⟩:=keepS_all hg;exact ⟨congrArg (AV.int .i64) ((sumS_all _ ha).trans (hf.sum (mvV tb at_))),rfl,congrArg (fun x=>some (Chunk.ext (mapX dfV [] x clock))) hk,trivial⟩
end Go.Proofs.Ytfaplilocljknaa.Fx
