import Derived.Test.YtfaplilocljknaaOvR4
import Derived.Test.YtfaplilocljknaaGDf1
set_option linter.all false
namespace Go.Proofs.Ytfaplilocljknaa.Fx
open Go Go.Fw Go.Ov Go.Df
theorem dfLaw:KeyLaw P T 63 dfK ⟨8,64,true,.struct [(0,29),(3,29),(6,3),(7,3)],[.bool false,.int .u64 0,.int .u64 0,.bool false,.int .u64 0,.int .u64 0,.int .i64 0,.int .i64 0],true⟩ where
  te:=rfl
  agg:=rfl
  len _:=rfl
  eq a b:=by
    have e:eqT T 50 63 (dfK.kc a) (dfK.kc b) = some ((decide (a.1.1 = b.1.1) && (decide (a.1.2.1 = b.1.2.1) && (decide (a.1.2.2.1 = b.1.2.2.1) && true))) && ((decide (a.2.1.1 = b.2.1.1) && (decide (a.2.1.2.1 = b.2.1.2.1) && (decide (a.2.1.2.2.1 = b.2.1.2.2.1) && true))) && (decide (a.2.2.1 = b.2.2.1) && (decide (a.2.2.2.1 = b.2.2.2.1) && true)))):=rfl
    rw [e]
    congr 1
    rw [Bool.eq_iff_iff]
    obtain ⟨⟨a1,a2,a3,_⟩,⟨a4,a5,a6,_⟩,a7,a8,_⟩:=a
    obtain ⟨⟨b1,b2,b3,_⟩,⟨b4,b5,b6,_⟩,b7,b8,_⟩:=b
    simp [Prod.ext_iff,and_assoc]
  chk:=by kernel_rfl
abbrev SLen (tb:Tb) (L:DL) (clock:Nat) (seen:List Nat):St:=⟨25,2,11,[(0,.loc 0 0),(3,.int .i64 (sumS (valE openB) L seen)),(12,.loc 10 0)],[(0,.box (tbC tb 1)),(1,.ext (mapX dfV [] L clock)),(10,.ext (itX 1 clock seen))],[]⟩
theorem f10_spec (tb:Tb) (L:DL) (clock:Nat) (hf:Fits L clock tb.l) (hn:(tb.l.map (·.1)).Nodup) (hl:tb.l.length≤1099511627776) :
    HSpec P [] 10 [.loc 0 0] (tbH tb L clock) (.int .i64 (openN tb.l)) (tbH tb L clock):=by
  have hb:∀ i,0≤sumS (valE openB) L i∧sumS (valE openB) L i≤1099511627776:=fun i=>by
    have h1:=sumS_le (valE openB) (m:=1) (by omega) (L:=L) (seen:=i) (fun E hE=>by
      obtain ⟨k,d,p,c,b,rfl,_⟩:=hf.own hE
      show 0≤(if eGone d = true then (0:Int) else 1)∧(if eGone d = true then (0:Int) else 1)≤1
      split <;> omega)
    rw [hf.length] at h1
    omega
  refine fspec_intro hT (tbH tb L clock) (tbH tb L clock) 2 2 Try.func10 (by decide) rfl rfl (by kernel_rfl) rfl rfl ?_
  refine Tri.seq (Tri.reg hT ?_)
  refine Tri.seq ?_
  refine Tri.seq (Tri.reg hT ?_)
  refine (Tri.cond ⟨fun h1=>?_,fun h1=>?_⟩)
  · exact absurd h1 (by decide)
  · refine (Tri.skip ?_)
    refine Tri.seq (Tri.reg hT ?_)
    refine Tri.seq ?_
    refine Tri.seq (Tri.regM hT [4] ?_)
    refine ⟨_,Le.refl _,.inl (.inr (OpTri.rangeF (V:=dfV) (os:=[]) (L:=L) (clock:=clock) (kt:=63) (et:=64) (by kernel_rfl) rfl rfl ⟨trivial,rfl⟩ rfl ?_))⟩
    refine (Tri.block ?_)
    refine (Tri.loop (ι:=List Nat) (fun seen=>SLen tb L clock seen) (fun seen=>True) (fun seen=>leftS L seen) ([]) ?_ ?_ ?_)
    · exact trivial
    · exact Le.weak rfl rfl rfl rfl ⟨rfl,congrArg (AV.int .i64) (sumS_nil _ _).symm,rfl,trivial⟩ ⟨rfl,rfl,rfl,trivial⟩
    · intro i hi
      refine Tri.seq (Tri.regM hT [0] ?_)
      refine ⟨_,Le.refl _,.inl (.inr (OpTri.nextF hT (V:=dfV) (os:=[]) (L:=L) (clock:=clock) (seen:=i) (id:=1) (j:=10) rfl rfl rfl ⟨trivial,rfl⟩ rfl rfl (fun g hg=>?_)))⟩
      refine Tri.seq (Tri.cond ⟨fun h2=>?_,fun h2=>?_⟩)
      · refine (Tri.skip ?_)
        refine (Tri.block ?_)
        obtain ⟨E,rfl⟩:∃ E,g = some E:=Option.isSome_iff_exists.1 h2;obtain ⟨hE,hsn⟩:=hg;obtain ⟨k,d,p,c,b,rfl,hEl⟩:=hf.own hE;obtain ⟨hfd,hkn⟩:=hf.find hn hE;have hst:=sumS_step (valE openB) hE hsn hf.born;have hlf:=leftS_step hE hsn
        refine Tri.seq (Tri.regM hT [0] ?_)
        refine ⟨_,Le.refl _,.inl (.inr (OpTri.entryF hT (V:=dfV) (os:=[]) (L:=L) (clock:=clock) (seen:=i) (id:=1) (j:=10) ⟨k,.own d p c,b⟩ rfl rfl ⟨trivial,rfl⟩ rfl rfl hE ?_))⟩
        refine Tri.le (S:=⟨25,2,17,[(0,.loc 0 0),(3,.int .i64 (sumS (valE openB) L i)),(12,.loc 10 0),(5,.loc 16 0)],[(16,.box (enC d)),(1,.ext (mapX dfV [16] (turnE L k (.out d 16 p c)) clock)),(0,.box (tbC tb 1)),(10,.ext (itX 1 clock (i ++ [b])))],[]⟩) (Le.trans (Le.takeF 5 1 rfl hfd rfl) (Le.weak rfl rfl rfl rfl ⟨rfl,rfl,rfl,rfl,trivial⟩ ⟨rfl,rfl,rfl,rfl,trivial⟩)) ?_
        refine Tri.seq (Tri.reg hT ?_)
        refine (Tri.cond ⟨fun h3=>?_,fun h3=>?_⟩)
        · refine (Tri.reg hT ?_)
          have hb1:=hb i;have hv:valE openB ⟨k,.own d p c,b⟩ = 1:=(by have h3':(!eGone d) = true:=h3;show (if eGone d = true then (0:Int) else 1) = 1;rw [if_neg (by simpa using h3')]);exact ⟨i ++ [b],trivial,hlf,Le.trans (Le.putB (os':=[]) 1 16 rfl rfl hfd hkn (by rw [hf.outs];simp) (by simp) (by simp)) (Le.weak rfl rfl rfl rfl ⟨rfl,congrArg (AV.int .i64) (by rw [hst,hv,wrapId (by omega)]),rfl,trivial⟩ ⟨rfl,rfl,rfl,trivial⟩)⟩
        · refine (Tri.skip ?_)
          have hv:valE openB ⟨k,.own d p c,b⟩ = 0:=(by have h3':(!eGone d) = false:=h3;show (if eGone d = true then (0:Int) else 1) = 0;rw [if_pos (by simpa using h3')]);exact ⟨i ++ [b],trivial,hlf,Le.trans (Le.putB (os':=[]) 1 16 rfl rfl hfd hkn (by rw [hf.outs];simp) (by simp) (by simp)) (Le.weak rfl rfl rfl rfl ⟨rfl,congrArg (AV.int .i64) (by rw [hst,hv,Int.add_zero]),rfl,trivial⟩ ⟨rfl,rfl,rfl,trivial⟩)⟩
      · refine Tri.exit ?_
        refine Tri.seq (Tri.reg hT ?_)
        refine Tri.ret ?_
        have hgn:g = none:=(by cases g with|none=>rfl|some x=>cases h2);subst hgn;exact ⟨congrArg (AV.int .i64) ((sumS_all _ hg).trans (hf.sum openB)),rfl,rfl,trivial⟩
end Go.Proofs.Ytfaplilocljknaa.Fx
