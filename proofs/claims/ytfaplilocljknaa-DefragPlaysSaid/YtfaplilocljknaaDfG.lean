import Derived.Test.YtfaplilocljknaaDfE
import Derived.Test.YtfaplilocljknaaGDf2
set_option linter.all false
namespace Go.Proofs.Ytfaplilocljknaa.Fx
open Go Go.Fw Go.Ov Go.Df
abbrev tNew (t:Int):Tb:=⟨min (max t 1) 1099511627776,0,0,0,[]⟩
abbrev tbQ (tb:Tb) (L:DL) (clock:Nat):List (Nat × Chunk):=[(40,.box (tbC tb 41)),(41,.ext (mapX dfV [] L clock))]
theorem renT (tb:Tb) (L:DL) (clock:Nat):tbQ tb L clock = renH (renOf [40,41]) (tbH tb L clock):=(congrArg (fun X=>[(40,Chunk.box (tbC tb 41)),(41,Chunk.ext X)]) (mapX_ren dfV L clock _)).symm
theorem newT (t:Int):HSpec P [] 8 [.int .i64 t] [] (.loc 40 0) (tbQ (tNew t) [] 0):=
  HSpec.at2 (f8_spec t) 6 4 40 41 rfl rfl rfl (congrArg (fun X=>[(40,Chunk.box (tbC (tNew t) 41)),(41,Chunk.ext X)]) (mapX_ren dfV [] 0 _))
theorem addTo {tb tb':Tb} {L:DL} {clock:Nat} {at_:Int} {f:Fg} {pol:Int} {r:Df.Rs} (N:Int) (hf:Fits L clock tb.l) (hi:TI tb N) (hN:N + 1≤1048576) (hd:(fData f).length≤1099511627776) (e:addT tb at_ f pol = (r,tb')) :
    GSpec P [] 9 [.loc 40 0,.int .i64 at_,fv f,.int .i64 pol] (tbQ tb L clock) (fun g:DL × Nat=>Fits g.1 g.2 tb'.l) (fun _=>resV r) (fun g=>tbQ tb' g.1 g.2):=by
  have:=f9_spec tb L clock at_ f pol N hf hi hN hd
  rw [e] at this
  exact this.at [40,41] (by decide) rfl (renT _ _ _) (fun _=>rfl) (fun g=>renT _ _ _)
theorem lenOf {tb:Tb} {L:DL} {clock:Nat} {N:Int} (hf:Fits L clock tb.l) (hi:TI tb N) {n:Int} (e:openN tb.l = n):HSpec P [] 10 [.loc 40 0] (tbQ tb L clock) (.int .i64 n) (tbQ tb L clock):=
  FSpec.at (h':=tbH tb L clock) (e ▸ f10_spec tb L clock hf hi.keys (by have:=hi.len;have:=hi.top;omega)) [40,41] (by decide) rfl (renT _ _ _) rfl (renT _ _ _)
theorem conOf {tb:Tb} {L:DL} {clock:Nat} {n:Int} (e:tb.conf = n):HSpec P [] 11 [.loc 40 0] (tbQ tb L clock) (.int .i64 n) (tbQ tb L clock):=
  FSpec.at (h':=tbH tb L clock) (e ▸ f11_spec tb L clock) [40,41] (by decide) rfl (renT _ _ _) rfl (renT _ _ _)
theorem sizeOf {tb:Tb} {L:DL} {clock:Nat} {N:Int} (hf:Fits L clock tb.l) (hi:TI tb N) {n:Int} (e:sizeN tb.l = n):HSpec P [] 17 [.loc 40 0] (tbQ tb L clock) (.int .i64 n) (tbQ tb L clock):=
  FSpec.at (h':=tbH tb L clock) (e ▸ f17_spec tb L clock hf hi.keys (by have:=hi.len;have:=hi.top;omega) (fun x hx=>⟨(hi.ents x hx).v,by have:=(hi.ents x hx).len;omega⟩)) [40,41] (by decide) rfl (renT _ _ _) rfl (renT _ _ _)
abbrev expA (tb:Tb) (at_:Int):Int:=min (max at_ tb.time) 1099511627776
theorem expOf {tb:Tb} {L:DL} {clock:Nat} {N:Int} (at_:Int) (hf:Fits L clock tb.l) (hi:TI tb N):HSpec P [] 14 [.loc 40 0,.int .i64 at_] (tbQ tb L clock) (.int .i64 (moveN tb (expA tb at_))) (tbQ (moveT tb (expA tb at_)) (L.filter fun E=>!valB (expB tb (expA tb at_)) E) clock):=
  FSpec.at (f14_spec tb at_ L clock hf hi.keys (by have:=hi.len;have:=hi.top;omega) hi.tim hi.tmo) [40,41] (by decide) rfl (renT _ _ _) rfl (renT _ _ _)
abbrev aFg (id off:Int) (more:Bool) (d:List UInt8):Fg:=(zA,zA,0,id,0,off,more,d,())
abbrev awA:Fg:=aFg 7 8 false [120]
abbrev awB:Fg:=aFg 7 0 true [97,98,99,100,101,102,103,104]
abbrev awC:Fg:=aFg 8 0 true [97,98,99,100,101,102,103,104]
abbrev awD:Fg:=aFg 8 0 true [65,66,67,68,69,70,71,72]
def tw1:Tb:=(addT (tNew 1000) 0 awA 1).2
def tw2:Tb:=(addT tw1 1 awB 1).2
def tw3:Tb:=(addT tw2 2 awC 2).2
def tw4:Tb:=(addT tw3 2 awD 2).2
theorem aw1:addT (tNew 1000) 0 awA 1 = (failR 0,tw1):=Prod.ext (by kernel_rfl) rfl
theorem aw2:addT tw1 1 awB 1 = (okR zA zA 0 0 [97,98,99,100,101,102,103,104,120],tw2):=Prod.ext (by kernel_rfl) rfl
theorem aw3:addT tw2 2 awC 2 = (failR 0,tw3):=Prod.ext (by kernel_rfl) rfl
theorem aw4:addT tw3 2 awD 2 = (failR 0,tw4):=Prod.ext (by kernel_rfl) rfl
theorem awo:openN tw2.l = 0:=by kernel_rfl
theorem awc:tw4.conf = 8:=by kernel_rfl
theorem aws:sizeN tw4.l = 8:=by kernel_rfl
theorem ti0:TI (tNew 1000) 0:=ti_new (by decide) (by decide)
theorem ti1:TI tw1 1:=ti0.add (by decide) _ _ _
theorem ti2:TI tw2 2:=ti1.add (by decide) _ _ _
theorem ti3:TI tw3 3:=ti2.add (by decide) _ _ _
theorem ti4:TI tw4 4:=ti3.add (by decide) _ _ _
theorem f7_h:HSpec P [] 7 [] [] (.bool true) []:=by
  refine fspec_intro hT [] [] 0 0 Try.func7 (by decide) rfl rfl (by kernel_rfl) rfl rfl ?_
  refine Tri.seq (Tri.reg hT ?_)
  refine Tri.seq (Tri.regM hT [0] ?_)
  refine ⟨_,Le.refl _,.inl (.inr (OpTri.hcall 50 rfl rfl rfl (newT 1000) trivial trivial rfl ?_))⟩
  refine Tri.seq ?_
  refine Tri.seq (Tri.reg hT ?_)
  refine (Tri.cond ⟨fun h1=>?_,fun h1=>?_⟩)
  · exact absurd h1 (by decide)
  · refine (Tri.skip ?_)
    refine Tri.seq (Tri.regM hT [2] ?_)
    refine ⟨_,Le.refl _,.inl (.inr (OpTri.gcall 1 rfl rfl rfl (addTo (tb:=tNew 1000) (at_:=0) (f:=awA) (pol:=1) 0 Fits.nil ti0 (by decide) (by decide) aw1) trivial ⟨rfl,rfl,trivial⟩ (fun g _=>rfl) (fun g1 hg1=>?_)))⟩
    refine Tri.seq (Tri.regM hT [2] ?_)
    refine ⟨_,Le.refl _,.inl (.inr (OpTri.gcall 1 rfl rfl rfl (addTo (tb:=tw1) (at_:=1) (f:=awB) (pol:=1) 1 hg1 ti1 (by decide) (by decide) aw2) trivial ⟨rfl,rfl,trivial⟩ (fun g _=>rfl) (fun g2 hg2=>?_)))⟩
    refine Tri.seq ?_
    refine Tri.seq (Tri.regM hT [19,20] ?_)
    refine ⟨_,[],trivial,rfl,rfl,fun h=>⟨rfl,rfl,rfl⟩,?_⟩
    refine ⟨_,[],trivial,rfl,rfl,fun h=>⟨h,rfl,rfl,rfl⟩,?_⟩
    refine ⟨⟨fun _=>trivial,fun hc=>(gn hc)⟩,?_⟩
    refine ⟨_,[],trivial,rfl,rfl,fun h=>⟨rfl,rfl,rfl⟩,?_⟩
    refine ⟨_,[],trivial,rfl,rfl,fun h=>⟨h,rfl,rfl,rfl⟩,?_⟩
    refine ⟨⟨fun _=>trivial,fun hc=>(gn hc)⟩,?_⟩
    refine ⟨_,[],trivial,rfl,rfl,fun h=>⟨rfl,rfl,rfl⟩,?_⟩
    refine ⟨_,[],trivial,rfl,rfl,fun h=>⟨h,rfl,rfl,rfl⟩,?_⟩
    refine ⟨⟨fun _=>trivial,fun hc=>(gn hc)⟩,?_⟩
    refine ⟨_,[],trivial,rfl,rfl,fun h=>⟨rfl,rfl,rfl⟩,?_⟩
    refine ⟨_,[],trivial,rfl,rfl,fun h=>⟨h,rfl,rfl,rfl⟩,?_⟩
    refine ⟨_,[],trivial,rfl,rfl,fun h=>⟨h,rfl,rfl,rfl⟩,?_⟩
    refine ⟨⟨fun _=>trivial,fun hc=>(gn hc)⟩,?_⟩
    refine ⟨_,Le.refl _,.inr (.inl ⟨_,rfl,(by kernel_rfl),.inl ?_⟩)⟩
    refine ⟨_,Le.refl _,.inr (.inl ⟨_,rfl,(by kernel_rfl),.inr (OpTri.hcall 1 rfl rfl rfl (lenOf hg2 ti2 awo) trivial ⟨rfl,rfl,trivial⟩ rfl ?_)⟩)⟩
    refine ⟨_,[],trivial,rfl,rfl,fun h=>⟨rfl,rfl,rfl⟩,?_⟩
    refine ⟨⟨fun _=>trivial,fun hc=>(gn hc)⟩,?_⟩
    refine (Tri.cond ⟨fun h2=>?_,fun h2=>?_⟩)
    · exact absurd h2 (by decide)
    · refine (Tri.skip ?_)
      refine Tri.seq (Tri.regM hT [2] ?_)
      refine ⟨_,Le.refl _,.inl (.inr (OpTri.gcall 1 rfl rfl rfl (addTo (tb:=tw2) (at_:=2) (f:=awC) (pol:=2) 2 hg2 ti2 (by decide) (by decide) aw3) trivial ⟨rfl,rfl,trivial⟩ (fun g _=>rfl) (fun g3 hg3=>?_)))⟩
      refine Tri.seq (Tri.regM hT [2] ?_)
      refine ⟨_,Le.refl _,.inl (.inr (OpTri.gcall 1 rfl rfl rfl (addTo (tb:=tw3) (at_:=2) (f:=awD) (pol:=2) 3 hg3 ti3 (by decide) (by decide) aw4) trivial ⟨rfl,rfl,trivial⟩ (fun g _=>rfl) (fun g4 hg4=>?_)))⟩
      refine Tri.seq (Tri.regM hT [1,4,5] ?_)
      refine ⟨_,Le.refl _,.inl (.inr (OpTri.hcall 1 rfl rfl rfl (conOf awc) trivial ⟨rfl,rfl,trivial⟩ rfl ?_))⟩
      refine ⟨_,Le.refl _,.inr (.inl ⟨_,rfl,(by kernel_rfl),.inl ?_⟩)⟩
      refine ⟨_,Le.refl _,.inr (.inl ⟨_,rfl,(by kernel_rfl),.inr (OpTri.hcall 1 rfl rfl rfl (sizeOf hg4 ti4 aws) trivial ⟨rfl,rfl,trivial⟩ rfl ?_)⟩)⟩
      refine ⟨_,[],trivial,rfl,rfl,fun h=>⟨rfl,rfl,rfl⟩,?_⟩
      refine ⟨⟨fun hc=>hc,fun _=>trivial⟩,?_⟩
      refine Tri.ret ?_
      exact ⟨rfl,trivial⟩
theorem f7_spec:PSpec P [] 7 [] (.bool true):=f7_h
end Go.Proofs.Ytfaplilocljknaa.Fx
