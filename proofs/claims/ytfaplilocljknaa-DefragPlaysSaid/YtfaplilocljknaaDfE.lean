import Derived.Test.YtfaplilocljknaaDfD
import Derived.Test.YtfaplilocljknaaOvI
import Derived.Test.YtfaplilocljknaaGDf2
set_option linter.all false
namespace Go.Proofs.Ytfaplilocljknaa.Fx
open Go Go.Fw Go.Ov Go.Df
abbrev kcF (f:Fg):List AV:=explode Df.kT (keyF f)
abbrev zD:List AV:=dgC zA zA 0 0 []
abbrev SE (tb:Tb) (f:Fg) (pol:Int) (d:En) (kn:Bool) (mp:XCh):St:=⟨224,2,80,[(0,.loc 0 0),(3,.int .i64 pol),(6,.loc 2 0),(8,.loc 3 0),(12,.loc 46 0),(13,.loc 69 0),(14,.bool kn)],
  [(69,.box (enC d)),(1,.ext mp),(0,.box (tbC tb 1)),(2,.box (fgC f)),(3,.box zD),(46,.box (kcF f))],[]⟩
abbrev SJ (tb:Tb) (f:Fg) (D:En) (mp:XCh):St:=⟨224,2,200,[(0,.loc 0 0),(6,.loc 2 0),(8,.loc 3 0),(12,.loc 46 0),(13,.loc 69 0)],
  [(69,.box (enC D)),(1,.ext mp),(0,.box (tbC tb 1)),(2,.box (fgC f)),(3,.box zD),(46,.box (kcF f))],[]⟩
abbrev SK (tb:Tb) (mp:XCh):St:=⟨224,2,300,[(0,.loc 0 0),(8,.loc 3 0)],[(0,.box (tbC tb 1)),(1,.ext mp),(3,.box zD)],[]⟩
theorem leA_self (a:AV):leA a a:=by cases a <;> first|rfl|exact ⟨rfl,rfl⟩|simp [leA]
theorem leL_self:(l:List AV)→leL l l
  | []=>trivial
  | a :: l=>⟨leA_self a,leL_self l⟩
theorem or_f {a b:Bool} (h:(if a = true then true else b) = false):a = false∧b = false:=by cases a <;> simp_all
theorem or_t {a b:Bool} (h:(if a = true then true else b) = true):a = true∨b = true:=by cases a <;> simp_all
theorem and_f {a b:Bool} (h:(if a = true then b else false) = false):a = false∨b = false:=by cases a <;> simp_all
theorem and_t {a b:Bool} (h:(if a = true then b else false) = true):a = true∧b = true:=by cases a <;> simp_all
theorem addKnown_spec (tb:Tb) (L:DL) (clock:Nat) (at_:Int) (f:Fg) (pol:Int) (N:Int) (hf:Fits L clock tb.l) (hi:TI tb N) (hN:N + 1≤1048576) (hd:(fData f).length≤1099511627776) (d:En) (hq:findT (moveT tb at_).l (keyF f) = some d) :
    GSpec P [] 9 [.loc 0 0,.int .i64 at_,fv f,.int .i64 pol] (tbH tb L clock) (fun g:DL × Nat=>Fits g.1 g.2 (addT tb at_ f pol).2.l) (fun _=>resV (addT tb at_ f pol).1) (fun g=>tbH (addT tb at_ f pol).2 g.1 g.2):=by
  generalize hL1:L.filter (fun E=>!valB (expB tb at_) E) = L1
  have hf1:Fits L1 clock (moveT tb at_).l:=hL1 ▸ hf.filter (expB tb at_)
  have htm:=hi.tim
  have hto:=hi.tmo
  have hln:=hi.len
  have hcf:=hi.conf
  have hor:=hi.ord
  have hkn1:(L1.map Ent.k).Nodup:=by rw [hf1.keys];exact (List.filter_sublist.map _).nodup hi.keys
  have hou1:∀ x,x ∉ outsL L1:=fun x=>by rw [hf1.outs];simp
  obtain ⟨p,c,b,hfd⟩:=fits_some hf1 hq
  have hem:(keyF f,d)∈(moveT tb at_).l:=find_mem hq
  have hdk:EOk d:=hi.ents _ (List.mem_filter.1 hem).1
  have core:¬ (at_ < tb.time∨at_ > 1099511627776)→¬ (fOff f = 0∧fMore f = false)→chkE f pol = 0→addT tb at_ f pol = coreT (moveT tb at_) f pol d true:=fun h1 h2 h3=>by unfold addT;rw [if_neg h1,if_neg h2,if_neg (fun q=>q h3),hq]
  refine gspec_intro hT (tbH tb L clock) (fun g:DL × Nat=>tbH (addT tb at_ f pol).2 g.1 g.2) 2 2 Try.func9 (by decide) rfl rfl (by kernel_rfl) rfl (fun g _=>rfl) (Tri.post ?_)
  refine Tri.seq (Tri.reg hT ?_)
  refine Tri.seq (Tri.block ?_)
  refine Tri.seq (Tri.reg hT ?_)
  refine (Tri.cond ⟨fun h1=>?_,fun h1=>?_⟩)
  · exact absurd h1 (by decide)
  · refine Tri.seq (Tri.reg hT ?_)
    refine ⟨_,[],trivial,rfl,rfl,fun h=>⟨rfl,rfl,rfl⟩,?_⟩
    refine ⟨_,[],trivial,rfl,rfl,fun h=>⟨h,rfl,rfl,rfl⟩,?_⟩
    refine ⟨⟨fun _=>trivial,fun hc=>(gn hc)⟩,?_⟩
    refine (Tri.cond ⟨fun h2=>?_,fun h2=>?_⟩)
    · refine Tri.seq (Tri.reg hT ?_)
      refine Tri.ret ?_
      have hA:at_ < tb.time∨at_ > 1099511627776:=(or_t h2).imp of_decide_eq_true of_decide_eq_true;have e:addT tb at_ f pol = (failR 12,tb):=if_pos hA;exact ⟨_,Le.refl _,(L,clock),by rw [e];exact hf,by rw [e];exact ⟨rfl,rfl,rfl,trivial⟩⟩
    · refine (Tri.skip ?_)
      have hA:¬ (at_ < tb.time∨at_ > 1099511627776):=(by have:=or_f h2;have h21:=of_decide_eq_false this.1;have h22:=of_decide_eq_false this.2;omega);have hmv:HSpec P [] 22 [.loc 0 0,.int .i64 at_] (tbH tb L clock) (.int .i64 (moveN tb at_)) (tbH (moveT tb at_) L1 clock):=hL1 ▸ f22_spec tb at_ L clock hf hi.keys (by omega) (by omega) hto
      refine Tri.seq (Tri.regM hT [2] ?_)
      refine ⟨_,Le.refl _,.inl (.inr (OpTri.hcall 1 rfl rfl rfl (hmv) trivial ⟨rfl,rfl,trivial⟩ rfl ?_))⟩
      refine Tri.seq ?_
      refine Tri.seq (Tri.reg hT ?_)
      refine ⟨_,[],trivial,rfl,rfl,fun h=>⟨rfl,rfl,rfl⟩,?_⟩
      refine ⟨_,[],trivial,rfl,rfl,fun h=>⟨h,rfl,rfl,rfl⟩,?_⟩
      refine ⟨_,[],trivial,rfl,rfl,fun h=>⟨h,rfl,rfl,rfl⟩,?_⟩
      refine ⟨⟨fun hc=>hc,fun _=>trivial⟩,?_⟩
      refine (Tri.cond ⟨fun h3=>?_,fun h3=>?_⟩)
      · refine Tri.seq (Tri.reg hT ?_)
        refine Tri.ret ?_
        have h3':=and_t h3;have hB:fOff f = 0∧fMore f = false:=⟨of_decide_eq_true h3'.1,by simpa using h3'.2⟩;have e:addT tb at_ f pol = (okR (fSrc f) (fDst f) (fPro f) (fTtl f) (fData f),moveT tb at_):=(by unfold addT;rw [if_neg hA,if_pos hB]);exact ⟨_,Le.refl _,(L1,clock),by rw [e];exact hf1,by rw [e];exact ⟨rfl,rfl,rfl,trivial⟩⟩
      · refine (Tri.skip ?_)
        refine Tri.seq ?_
        have hB:¬ (fOff f = 0∧fMore f = false):=(fun q=>by rcases and_f h3 with h|h;exact of_decide_eq_false h q.1;rw [q.2] at h;cases h)
        refine Tri.seq (Tri.reg hT ?_)
        refine .inl (.inl ⟨_,fun _=>rfl,f23_spec f pol hd,?_⟩)
        refine Tri.seq (Tri.reg hT ?_)
        refine (Tri.cond ⟨fun h4=>?_,fun h4=>?_⟩)
        · refine Tri.seq (Tri.reg hT ?_)
          refine Tri.ret ?_
          have hC:=of_decide_eq_true h4;have e:addT tb at_ f pol = (failR (chkE f pol),moveT tb at_):=(by unfold addT;rw [if_neg hA,if_neg hB,if_pos hC]);exact ⟨_,Le.refl _,(L1,clock),by rw [e];exact hf1,by rw [e];exact ⟨rfl,rfl,rfl,trivial⟩⟩
        · refine (Tri.skip ?_)
          have hC:chkE f pol = 0:=Classical.byContradiction fun q=>of_decide_eq_false h4 q;obtain ⟨c1,c2,c3,c4,c5,c6⟩:=chk_ok hC;have hcore:=core hA hB hC
          refine Tri.seq (Tri.reg hT ?_)
          refine Tri.seq (Tri.drw hT hm 10 (by kernel_rfl) ?_)
          refine ⟨_,(read_lookF hT (V:=dfV) (os:=[]) (L:=L1) (clock:=clock) (k:=keyF f) (et:=64) (by kernel_rfl) dfLaw rfl rfl rfl rfl (.ex (ptrX p)) (by rw [hfd];rfl)),?_⟩
          refine ⟨by kernel_rfl,?_⟩
          refine Tri.seq ?_
          refine Tri.seq (Tri.reg hT ?_)
          refine (Tri.cond ⟨fun h5=>?_,fun h5=>?_⟩)
          · exact absurd h5 (by rw [hfd];exact fun q=>by cases q)
          · refine (Tri.skip ?_)
            refine Tri.seq (Tri.block ?_)
            refine Tri.le (S:=SE (moveT tb at_) f pol d true (mapX dfV [69] (turnE L1 (keyF f) (.out d 69 p c)) clock)) (Le.trans (Le.weak (S:=⟨224,2,69,[(0,.loc 0 0),(3,.int .i64 pol),(6,.loc 2 0),(8,.loc 3 0),(12,.loc 46 0),(13,.ex (ptrX p)),(14,.bool true)],[(1,.ext (mapX dfV [] L1 clock)),(0,.box (tbC (moveT tb at_) 1)),(2,.box (fgC f)),(3,.box zD),(46,.box (kcF f))],[]⟩) rfl rfl rfl rfl ⟨rfl,rfl,rfl,rfl,rfl,rfl,congrArg AV.bool (by rw [hfd];rfl),trivial⟩ ⟨rfl,rfl,rfl,rfl,rfl,trivial⟩) (Le.trans (Le.takeF 13 1 rfl hfd rfl) (Le.weak rfl rfl rfl rfl ⟨rfl,rfl,rfl,rfl,rfl,rfl,rfl,trivial⟩ ⟨rfl,rfl,rfl,rfl,rfl,rfl,trivial⟩))) ?_
            refine Tri.seq (Tri.reg hT ?_)
            refine (Tri.cond ⟨fun h6=>?_,fun h6=>?_⟩)
            · refine Tri.seq (Tri.reg hT ?_)
              refine Tri.ret ?_
              have e:addT tb at_ f pol = (failR 20,moveT tb at_):=hcore.trans (if_pos h6);exact ⟨_,Le.putB (os':=[]) 1 69 rfl rfl hfd hkn1 (hou1 69) (by simp) (by simp),(L1,clock),by rw [e];exact hf1,by rw [e];exact ⟨rfl,rfl,rfl,trivial⟩⟩
            · refine Tri.seq (Tri.reg hT ?_)
              refine .inl (.inr (.inl ⟨_,_,(by exact ⟨rfl,trivial⟩),f24_spec d f hdk.v (by have:=hdk.len;omega) ⟨c1,c2⟩ (by omega) 69,(by rfl),?_⟩))
              refine (Tri.cond ⟨fun h7=>?_,fun h7=>?_⟩)
              · refine Tri.seq (Tri.reg hT ?_)
                refine Tri.ret ?_
                have e:addT tb at_ f pol = (failR 2,moveT tb at_):=hcore.trans ((if_neg (by rw [show eGone d = false from h6];decide)).trans (if_pos (by simpa using h7)));exact ⟨_,Le.putB (os':=[]) 1 69 rfl rfl hfd hkn1 (hou1 69) (by simp) (by simp),(L1,clock),by rw [e];exact hf1,by rw [e];exact ⟨rfl,rfl,rfl,trivial⟩⟩
              · refine (Tri.skip ?_)
                refine Tri.seq (Tri.drw hT hm 17 (by kernel_rfl) ?_)
                refine .inl ⟨_,fun _=>rfl,f25_spec (ePcs d) (pcF f) pol (by have:=hdk.len;omega) hdk.v (by show ((fData f).length:Int)≤_;omega),?_⟩
                refine ⟨by kernel_rfl,?_⟩
                refine Tri.seq ?_
                refine Tri.seq (Tri.reg hT ?_)
                refine (Tri.cond ⟨fun h8=>?_,fun h8=>?_⟩)
                · refine Tri.seq ?_
                  refine Tri.seq (Tri.reg hT ?_)
                  refine (Tri.cond ⟨fun h9=>?_,fun h9=>?_⟩)
                  · refine (Tri.reg hT ?_)
                    refine Tri.seq (Tri.reg hT ?_)
                    refine Tri.ret ?_
                    have hE:=of_decide_eq_true h8;have hE7:=of_decide_eq_true h9;have e:addT tb at_ f pol = (failR (insR (ePcs d) (pcF f) pol).2.2,{ moveT tb at_ with l:=setT (moveT tb at_).l (keyF f) (goneE d) }):=hcore.trans ((if_neg (by rw [show eGone d = false from h6];decide)).trans ((if_neg (by have h7':fitsB d f = true:=(by simpa using h7);rw [h7'];decide)).trans ((if_pos hE).trans (by rw [if_pos ⟨hE7,rfl⟩]))));exact ⟨_,Le.trans (Le.weakV (S:=⟨224,2,150,[(8,.loc 3 0),(9,.bool false),(10,.int .i64 (insR (ePcs d) (pcF f) pol).2.2)],[(69,.box (enC (goneE d))),(1,.ext (mapX dfV [69] (turnE L1 (keyF f) (.out d 69 p c)) clock)),(0,.box (tbC (moveT tb at_) 1)),(3,.box zD)],[]⟩) rfl rfl rfl rfl ⟨rfl,rfl,rfl,trivial⟩ ⟨⟨rfl,rfl,rfl,rfl,rfl,rfl,trivial⟩,rfl,⟨rfl,rfl,rfl,rfl,rfl,trivial⟩,leL_self _,trivial⟩) (Le.putD (os':=[]) (d':=goneE d) 1 69 rfl rfl hfd hkn1 (hou1 69) (by simp) (by simp) rfl),(turnE L1 (keyF f) (.own (goneE d) p c),clock),by rw [e];exact hf1.set _ _ _ _,by rw [e];exact ⟨rfl,rfl,rfl,trivial⟩⟩
                  · refine (Tri.skip ?_)
                    refine Tri.seq (Tri.reg hT ?_)
                    refine Tri.ret ?_
                    have hE:=of_decide_eq_true h8;have hE7:=of_decide_eq_false h9;have e:addT tb at_ f pol = (failR (insR (ePcs d) (pcF f) pol).2.2,moveT tb at_):=hcore.trans ((if_neg (by rw [show eGone d = false from h6];decide)).trans ((if_neg (by have h7':fitsB d f = true:=(by simpa using h7);rw [h7'];decide)).trans ((if_pos hE).trans (by rw [if_neg (fun q=>hE7 q.1)]))));exact ⟨_,Le.putB (os':=[]) 1 69 rfl rfl hfd hkn1 (hou1 69) (by simp) (by simp),(L1,clock),by rw [e];exact hf1,by rw [e];exact ⟨rfl,rfl,rfl,trivial⟩⟩
                · refine (Tri.skip ?_)
                  refine Tri.seq ?_
                  have hE:(insR (ePcs d) (pcF f) pol).2.2 = 0:=Classical.byContradiction fun q=>of_decide_eq_false h8 q;obtain ⟨hD,hn0,hn1⟩:=ins_ok hdk hC hE
                  refine Tri.seq (Tri.reg hT ?_)
                  refine (Tri.cond ⟨fun h10=>?_,fun h10=>?_⟩)
                  · exact absurd h10 (by decide)
                  · refine (Tri.skip ?_)
                    skip
                    refine Tri.seq (Tri.drw hT hm 16 (by kernel_rfl) ?_)
                    refine ⟨by kernel_rfl,?_⟩
                    refine Tri.seq (Tri.reg hT ?_)
                    refine Tri.join (True) (SJ { moveT tb at_ with conf:=(moveT tb at_).conf + (insR (ePcs d) (pcF f) pol).2.1,ord:=(moveT tb at_).ord } f (entD d f pol) (mapX dfV [69] (turnE L1 (keyF f) (.out d 69 p c)) clock)) ?_ fun hp7=>?_
                    · have hconf:IntKind.i64.wrap (tb.conf + (insR (ePcs d) (pcF f) pol).2.1) = tb.conf + (insR (ePcs d) (pcF f) pol).2.1:=wrapId (by omega);have hend:IntKind.i64.wrap (fOff f + ((fData f).length:Int)) = fOff f + (fData f).length:=wrapId (by omega)
                      refine Tri.seq (Tri.reg hT ?_)
                      refine (Tri.cond ⟨fun h11=>?_,fun h11=>?_⟩)
                      · refine (Tri.reg hT ?_)
                        exact ⟨trivial,Le.weak rfl rfl rfl rfl ⟨rfl,rfl,rfl,rfl,rfl,trivial⟩ ⟨(by show some (Chunk.box [.int .i64 (eBeg d),.int .i64 (eOrd d),.bool (eGone d),.list pT (insR (ePcs d) (pcF f) pol).1,.int .i64 (min (eTtl d) (fTtl f)),.int .i64 (IntKind.i64.wrap (fOff f + ((fData f).length:Int)))]) = some (Chunk.box (enC (entD d f pol)));rw [show eGone d = false from h6,hend];show _ = some (Chunk.box [_,_,_,_,_,.int .i64 (if fMore f then eEnd d else fOff f + (fData f).length)]);rw [show fMore f = false by simpa using h11];rfl),rfl,(by have e1:=hconf;show some (Chunk.box [.int .i64 tb.timeout,.int .i64 at_,.int .i64 (IntKind.i64.wrap (tb.conf + (insR (ePcs d) (pcF f) pol).2.1)),.int .i64 tb.ord,.ex (mapV 1)]) = _;rw [e1];rfl),rfl,rfl,rfl,trivial⟩⟩
                      · refine (Tri.skip ?_)
                        exact ⟨trivial,Le.weak rfl rfl rfl rfl ⟨rfl,rfl,rfl,rfl,rfl,trivial⟩ ⟨(by show some (Chunk.box [.int .i64 (eBeg d),.int .i64 (eOrd d),.bool (eGone d),.list pT (insR (ePcs d) (pcF f) pol).1,.int .i64 (min (eTtl d) (fTtl f)),.int .i64 (eEnd d)]) = some (Chunk.box (enC (entD d f pol)));rw [show eGone d = false from h6];show _ = some (Chunk.box [_,_,_,_,_,.int .i64 (if fMore f then eEnd d else fOff f + (fData f).length)]);rw [show fMore f = true by simpa using h11];rfl),rfl,(by have e1:=hconf;show some (Chunk.box [.int .i64 tb.timeout,.int .i64 at_,.int .i64 (IntKind.i64.wrap (tb.conf + (insR (ePcs d) (pcF f) pol).2.1)),.int .i64 tb.ord,.ex (mapV 1)]) = _;rw [e1];rfl),rfl,rfl,rfl,trivial⟩⟩
                    · refine Tri.seq ?_
                      refine Tri.seq (Tri.reg hT ?_)
                      refine .inl (.inl ⟨_,fun _=>rfl,f26_spec (ePcs (entD d f pol)) 0 (by have:=hD.len;omega) (valid_inB hD.v) (by have:=lenSum_le hD.v;omega),?_⟩)
                      refine Tri.seq (Tri.reg hT ?_)
                      refine ⟨_,[],trivial,rfl,rfl,fun h=>⟨rfl,rfl,rfl⟩,?_⟩
                      refine ⟨_,[],trivial,rfl,rfl,fun h=>⟨h,rfl,rfl,rfl⟩,?_⟩
                      refine ⟨_,[],trivial,rfl,rfl,fun h=>⟨rfl,rfl,rfl⟩,?_⟩
                      refine ⟨_,[],trivial,rfl,rfl,fun h=>⟨h,rfl,rfl,rfl⟩,?_⟩
                      refine ⟨_,[],trivial,rfl,rfl,fun h=>⟨h,rfl,rfl,rfl⟩,?_⟩
                      refine ⟨_,[],trivial,rfl,rfl,fun h=>⟨h,rfl,rfl,rfl⟩,?_⟩
                      refine ⟨_,[],trivial,rfl,rfl,fun h=>⟨h,h,rfl,rfl,rfl⟩,?_⟩
                      refine ⟨⟨fun hc=>hc,fun _=>trivial⟩,?_⟩
                      refine (Tri.cond ⟨fun h12=>?_,fun h12=>?_⟩)
                      · refine Tri.seq (Tri.drwM hT hm 5 [5] (by kernel_rfl) ?_)
                        refine ⟨by kernel_rfl,?_⟩
                        refine ⟨_,Le.refl _,.inl (.inr (OpTri.delF hT (V:=dfV) (os:=[69]) (L:=turnE L1 (keyF f) (.out d 69 p c)) (clock:=clock) (k:=keyF f) (et:=64) (by kernel_rfl) dfLaw rfl rfl rfl ⟨trivial,rfl⟩ ⟨trivial,rfl⟩ rfl ?_))⟩
                        refine Tri.seq (Tri.drw hT hm 12 (by kernel_rfl) ?_)
                        refine ⟨by kernel_rfl,?_⟩
                        refine Tri.ret ?_
                        have h12':=and_t h12;have hF:eEnd (entD d f pol)≥0∧((takeF (ePcs (entD d f pol)) 0).1.length:Int) = eEnd (entD d f pol):=⟨of_decide_eq_true h12'.1,of_decide_eq_true h12'.2⟩;have e:addT tb at_ f pol = (okR (fSrc f) (fDst f) (fPro f) (eTtl (entD d f pol)) (takeF (ePcs (entD d f pol)) 0).1,{ moveT tb at_ with conf:=(moveT tb at_).conf + (insR (ePcs d) (pcF f) pol).2.1,ord:=(moveT tb at_).ord,l:=eraseT (moveT tb at_).l (keyF f) }):=hcore.trans ((if_neg (by rw [show eGone d = false from h6];decide)).trans ((if_neg (by have h7':fitsB d f = true:=(by simpa using h7);rw [h7'];decide)).trans ((if_neg (by rw [hE];exact fun q=>q rfl)).trans (if_pos hF))));exact ⟨⟨224,2,400,[(8,.loc 3 0),(9,.bool true),(10,.int .i64 0)],[(1,.ext (mapX dfV [] (eraseE L1 (keyF f)) clock)),(0,.box (tbC { moveT tb at_ with conf:=(moveT tb at_).conf + (insR (ePcs d) (pcF f) pol).2.1,ord:=(moveT tb at_).ord } 1)),(3,.box (dgC (fSrc f) (fDst f) (fPro f) (eTtl (entD d f pol)) (takeF (ePcs (entD d f pol)) 0).1))],[]⟩,Le.weakX rfl rfl rfl rfl ⟨rfl,rfl,rfl,trivial⟩ ⟨⟨_,rfl,conv_map erase_turn (fun x hx=>absurd hx (outs_erase (hou1 x)))⟩,⟨_,rfl,Conv.refl _⟩,⟨_,rfl,Conv.refl _⟩,trivial⟩,(eraseE L1 (keyF f),clock),by rw [e];exact hf1.erase (keyF f),by rw [e];exact ⟨rfl,rfl,rfl,trivial⟩⟩
                      · refine (Tri.skip ?_)
                        have hF:¬ (eEnd (entD d f pol)≥0∧((takeF (ePcs (entD d f pol)) 0).1.length:Int) = eEnd (entD d f pol)):=(fun q=>by rcases and_f h12 with h|h;exact of_decide_eq_false h q.1;exact of_decide_eq_false h q.2);have hfK2:Fits (turnE L1 (keyF f) (.own (entD d f pol) p c)) clock (setT (moveT tb at_).l (keyF f) (entD d f pol)):=hf1.set _ _ _ _;have hm1:=hi.move (at_:=at_) (by omega) (by omega);have hsr:=set_sorts (d':=(entD d f pol)) hm1.sorts hm1.keys hem rfl rfl;have hkk:((setT (moveT tb at_).l (keyF f) (entD d f pol)).map (·.1)).Nodup:=(by rw [set_keys];exact hm1.keys);have hlle:((setT (moveT tb at_).l (keyF f) (entD d f pol)).length:Int)≤N + 1:=(by have:=hm1.len;unfold setT;rw [List.length_map];omega);refine Tri.le (S:=SK { moveT tb at_ with conf:=(moveT tb at_).conf + (insR (ePcs d) (pcF f) pol).2.1,ord:=(moveT tb at_).ord,l:=setT (moveT tb at_).l (keyF f) (entD d f pol) } (mapX dfV [] (turnE L1 (keyF f) (.own (entD d f pol) p c)) clock)) (Le.trans (Le.putD (os':=[]) (d':=(entD d f pol)) 1 69 rfl rfl hfd hkn1 (hou1 69) (by simp) (by simp) rfl) (Le.weak rfl rfl rfl rfl ⟨rfl,rfl,trivial⟩ ⟨rfl,rfl,rfl,trivial⟩)) ?_
                        refine Tri.seq (Tri.regM hT [1] ?_)
                        refine ⟨_,Le.refl _,.inl (.inr (OpTri.gcall 1 rfl rfl rfl (f27_spec { moveT tb at_ with conf:=(moveT tb at_).conf + (insR (ePcs d) (pcF f) pol).2.1,ord:=(moveT tb at_).ord,l:=setT (moveT tb at_).l (keyF f) (entD d f pol) } (turnE L1 (keyF f) (.own (entD d f pol) p c)) clock hfK2 hkk (by show (setT (moveT tb at_).l (keyF f) (entD d f pol)).length≤1048576;omega) hsr) trivial ⟨rfl,rfl,trivial⟩ (fun g _=>rfl) (fun g hg=>?_)))⟩
                        refine Tri.seq (Tri.reg hT ?_)
                        refine Tri.ret ?_
                        have e:addT tb at_ f pol = (failR 0,{ moveT tb at_ with conf:=(moveT tb at_).conf + (insR (ePcs d) (pcF f) pol).2.1,ord:=(moveT tb at_).ord,l:=limitT (setT (moveT tb at_).l (keyF f) (entD d f pol)) }):=hcore.trans ((if_neg (by rw [show eGone d = false from h6];decide)).trans ((if_neg (by have h7':fitsB d f = true:=(by simpa using h7);rw [h7'];decide)).trans ((if_neg (by rw [hE];exact fun q=>q rfl)).trans ((if_neg hF).trans rfl))));exact ⟨_,Le.refl _,(g,clock),by rw [e];exact hg,by rw [e];exact ⟨rfl,rfl,rfl,trivial⟩⟩
theorem addNew_spec (tb:Tb) (L:DL) (clock:Nat) (at_:Int) (f:Fg) (pol:Int) (N:Int) (hf:Fits L clock tb.l) (hi:TI tb N) (hN:N + 1≤1048576) (hd:(fData f).length≤1099511627776) (hq:findT (moveT tb at_).l (keyF f) = none) :
    GSpec P [] 9 [.loc 0 0,.int .i64 at_,fv f,.int .i64 pol] (tbH tb L clock) (fun g:DL × Nat=>Fits g.1 g.2 (addT tb at_ f pol).2.l) (fun _=>resV (addT tb at_ f pol).1) (fun g=>tbH (addT tb at_ f pol).2 g.1 g.2):=by
  generalize hL1:L.filter (fun E=>!valB (expB tb at_) E) = L1
  have hf1:Fits L1 clock (moveT tb at_).l:=hL1 ▸ hf.filter (expB tb at_)
  have htm:=hi.tim
  have hto:=hi.tmo
  have hln:=hi.len
  have hcf:=hi.conf
  have hor:=hi.ord
  have hkn1:(L1.map Ent.k).Nodup:=by rw [hf1.keys];exact (List.filter_sublist.map _).nodup hi.keys
  have hou1:∀ x,x ∉ outsL L1:=fun x=>by rw [hf1.outs];simp
  have hfd:=fits_none hf1 hq
  have hdk:EOk (newD (moveT tb at_) f):=new_ok _ _
  have core:¬ (at_ < tb.time∨at_ > 1099511627776)→¬ (fOff f = 0∧fMore f = false)→chkE f pol = 0→addT tb at_ f pol = coreT (moveT tb at_) f pol (newD (moveT tb at_) f) false:=fun h1 h2 h3=>by unfold addT;rw [if_neg h1,if_neg h2,if_neg (fun q=>q h3),hq]
  refine gspec_intro hT (tbH tb L clock) (fun g:DL × Nat=>tbH (addT tb at_ f pol).2 g.1 g.2) 2 2 Try.func9 (by decide) rfl rfl (by kernel_rfl) rfl (fun g _=>rfl) (Tri.post ?_)
  refine Tri.seq (Tri.reg hT ?_)
  refine Tri.seq (Tri.block ?_)
  refine Tri.seq (Tri.reg hT ?_)
  refine (Tri.cond ⟨fun h1=>?_,fun h1=>?_⟩)
  · exact absurd h1 (by decide)
  · refine Tri.seq (Tri.reg hT ?_)
    refine ⟨_,[],trivial,rfl,rfl,fun h=>⟨rfl,rfl,rfl⟩,?_⟩
    refine ⟨_,[],trivial,rfl,rfl,fun h=>⟨h,rfl,rfl,rfl⟩,?_⟩
    refine ⟨⟨fun _=>trivial,fun hc=>(gn hc)⟩,?_⟩
    refine (Tri.cond ⟨fun h2=>?_,fun h2=>?_⟩)
    · refine Tri.seq (Tri.reg hT ?_)
      refine Tri.ret ?_
      have hA:at_ < tb.time∨at_ > 1099511627776:=(or_t h2).imp of_decide_eq_true of_decide_eq_true;have e:addT tb at_ f pol = (failR 12,tb):=if_pos hA;exact ⟨_,Le.refl _,(L,clock),by rw [e];exact hf,by rw [e];exact ⟨rfl,rfl,rfl,trivial⟩⟩
    · refine (Tri.skip ?_)
      have hA:¬ (at_ < tb.time∨at_ > 1099511627776):=(by have:=or_f h2;have h21:=of_decide_eq_false this.1;have h22:=of_decide_eq_false this.2;omega);have hmv:HSpec P [] 22 [.loc 0 0,.int .i64 at_] (tbH tb L clock) (.int .i64 (moveN tb at_)) (tbH (moveT tb at_) L1 clock):=hL1 ▸ f22_spec tb at_ L clock hf hi.keys (by omega) (by omega) hto
      refine Tri.seq (Tri.regM hT [2] ?_)
      refine ⟨_,Le.refl _,.inl (.inr (OpTri.hcall 1 rfl rfl rfl (hmv) trivial ⟨rfl,rfl,trivial⟩ rfl ?_))⟩
      refine Tri.seq ?_
      refine Tri.seq (Tri.reg hT ?_)
      refine ⟨_,[],trivial,rfl,rfl,fun h=>⟨rfl,rfl,rfl⟩,?_⟩
      refine ⟨_,[],trivial,rfl,rfl,fun h=>⟨h,rfl,rfl,rfl⟩,?_⟩
      refine ⟨_,[],trivial,rfl,rfl,fun h=>⟨h,rfl,rfl,rfl⟩,?_⟩
      refine ⟨⟨fun hc=>hc,fun _=>trivial⟩,?_⟩
      refine (Tri.cond ⟨fun h3=>?_,fun h3=>?_⟩)
      · refine Tri.seq (Tri.reg hT ?_)
        refine Tri.ret ?_
        have h3':=and_t h3;have hB:fOff f = 0∧fMore f = false:=⟨of_decide_eq_true h3'.1,by simpa using h3'.2⟩;have e:addT tb at_ f pol = (okR (fSrc f) (fDst f) (fPro f) (fTtl f) (fData f),moveT tb at_):=(by unfold addT;rw [if_neg hA,if_pos hB]);exact ⟨_,Le.refl _,(L1,clock),by rw [e];exact hf1,by rw [e];exact ⟨rfl,rfl,rfl,trivial⟩⟩
      · refine (Tri.skip ?_)
        refine Tri.seq ?_
        have hB:¬ (fOff f = 0∧fMore f = false):=(fun q=>by rcases and_f h3 with h|h;exact of_decide_eq_false h q.1;rw [q.2] at h;cases h)
        refine Tri.seq (Tri.reg hT ?_)
        refine .inl (.inl ⟨_,fun _=>rfl,f23_spec f pol hd,?_⟩)
        refine Tri.seq (Tri.reg hT ?_)
        refine (Tri.cond ⟨fun h4=>?_,fun h4=>?_⟩)
        · refine Tri.seq (Tri.reg hT ?_)
          refine Tri.ret ?_
          have hC:=of_decide_eq_true h4;have e:addT tb at_ f pol = (failR (chkE f pol),moveT tb at_):=(by unfold addT;rw [if_neg hA,if_neg hB,if_pos hC]);exact ⟨_,Le.refl _,(L1,clock),by rw [e];exact hf1,by rw [e];exact ⟨rfl,rfl,rfl,trivial⟩⟩
        · refine (Tri.skip ?_)
          have hC:chkE f pol = 0:=Classical.byContradiction fun q=>of_decide_eq_false h4 q;obtain ⟨c1,c2,c3,c4,c5,c6⟩:=chk_ok hC;have hcore:=core hA hB hC
          refine Tri.seq (Tri.reg hT ?_)
          refine Tri.seq (Tri.drw hT hm 10 (by kernel_rfl) ?_)
          refine ⟨_,(read_lookF hT (V:=dfV) (os:=[]) (L:=L1) (clock:=clock) (k:=keyF f) (et:=64) (by kernel_rfl) dfLaw rfl rfl rfl rfl .nilp (by rw [hfd];rfl)),?_⟩
          refine ⟨by kernel_rfl,?_⟩
          refine Tri.seq ?_
          refine Tri.seq (Tri.reg hT ?_)
          refine (Tri.cond ⟨fun h5=>?_,fun h5=>?_⟩)
          · refine (Tri.drw hT hm 9 (by kernel_rfl) ?_)
            refine ⟨by kernel_rfl,?_⟩
            refine Tri.seq (Tri.block ?_)
            refine Tri.le (S:=SE (moveT tb at_) f pol (newD (moveT tb at_) f) false (mapX dfV [] L1 clock)) (Le.weakV rfl rfl rfl rfl ⟨rfl,rfl,rfl,rfl,rfl,rfl,congrArg AV.bool (by rw [hfd];rfl),trivial⟩ ⟨⟨rfl,rfl,rfl,rfl,rfl,rfl,trivial⟩,rfl,⟨rfl,rfl,rfl,rfl,rfl,trivial⟩,leL_self _,leL_self _,leL_self _,trivial⟩) ?_
            refine Tri.seq (Tri.reg hT ?_)
            refine (Tri.cond ⟨fun h6=>?_,fun h6=>?_⟩)
            · exact absurd (show false = true from h6) (by decide)
            · refine Tri.seq (Tri.reg hT ?_)
              refine .inl (.inr (.inl ⟨_,_,(by exact ⟨rfl,trivial⟩),f24_spec (newD (moveT tb at_) f) f hdk.v (by have:=hdk.len;omega) ⟨c1,c2⟩ (by omega) 69,(by rfl),?_⟩))
              refine (Tri.cond ⟨fun h7=>?_,fun h7=>?_⟩)
              · refine Tri.seq (Tri.reg hT ?_)
                refine Tri.ret ?_
                have e:addT tb at_ f pol = (failR 2,moveT tb at_):=hcore.trans ((if_neg (by rw [show eGone (newD (moveT tb at_) f) = false from h6];decide)).trans (if_pos (by simpa using h7)));exact ⟨_,Le.refl _,(L1,clock),by rw [e];exact hf1,by rw [e];exact ⟨rfl,rfl,rfl,trivial⟩⟩
              · refine (Tri.skip ?_)
                refine Tri.seq (Tri.drw hT hm 17 (by kernel_rfl) ?_)
                refine .inl ⟨_,fun _=>rfl,f25_spec (ePcs (newD (moveT tb at_) f)) (pcF f) pol (by have:=hdk.len;omega) hdk.v (by show ((fData f).length:Int)≤_;omega),?_⟩
                refine ⟨by kernel_rfl,?_⟩
                refine Tri.seq ?_
                refine Tri.seq (Tri.reg hT ?_)
                refine (Tri.cond ⟨fun h8=>?_,fun h8=>?_⟩)
                · refine Tri.seq ?_
                  refine Tri.seq (Tri.reg hT ?_)
                  refine (Tri.cond ⟨fun h9=>?_,fun h9=>?_⟩)
                  · refine (Tri.reg hT ?_)
                    refine Tri.seq (Tri.reg hT ?_)
                    refine Tri.ret ?_
                    have hE:=of_decide_eq_true h8;have e:addT tb at_ f pol = (failR (insR (ePcs (newD (moveT tb at_) f)) (pcF f) pol).2.2,moveT tb at_):=hcore.trans ((if_neg (by rw [show eGone (newD (moveT tb at_) f) = false from h6];decide)).trans ((if_neg (by have h7':fitsB (newD (moveT tb at_) f) f = true:=(by simpa using h7);rw [h7'];decide)).trans ((if_pos hE).trans (by rw [if_neg (fun q=>by cases q.2)]))));exact ⟨_,Le.refl _,(L1,clock),by rw [e];exact hf1,by rw [e];exact ⟨rfl,rfl,rfl,trivial⟩⟩
                  · refine (Tri.skip ?_)
                    refine Tri.seq (Tri.reg hT ?_)
                    refine Tri.ret ?_
                    have hE:=of_decide_eq_true h8;have hE7:=of_decide_eq_false h9;have e:addT tb at_ f pol = (failR (insR (ePcs (newD (moveT tb at_) f)) (pcF f) pol).2.2,moveT tb at_):=hcore.trans ((if_neg (by rw [show eGone (newD (moveT tb at_) f) = false from h6];decide)).trans ((if_neg (by have h7':fitsB (newD (moveT tb at_) f) f = true:=(by simpa using h7);rw [h7'];decide)).trans ((if_pos hE).trans (by rw [if_neg (fun q=>hE7 q.1)]))));exact ⟨_,Le.refl _,(L1,clock),by rw [e];exact hf1,by rw [e];exact ⟨rfl,rfl,rfl,trivial⟩⟩
                · refine (Tri.skip ?_)
                  refine Tri.seq ?_
                  have hE:(insR (ePcs (newD (moveT tb at_) f)) (pcF f) pol).2.2 = 0:=Classical.byContradiction fun q=>of_decide_eq_false h8 q;obtain ⟨hD,hn0,hn1⟩:=ins_ok hdk hC hE
                  refine Tri.seq (Tri.reg hT ?_)
                  refine (Tri.cond ⟨fun h10=>?_,fun h10=>?_⟩)
                  · refine Tri.seq (Tri.reg hT ?_)
                    refine (Tri.drwM hT hm 6 [6] (by kernel_rfl) ?_)
                    refine ⟨by kernel_rfl,?_⟩
                    refine ⟨_,Le.refl _,.inl (.inr (OpTri.newF hT (V:=dfV) (os:=[]) (L:=L1) (clock:=clock) (k:=keyF f) (d:=(newD (moveT tb at_) f)) (et:=64) (by kernel_rfl) dfLaw rfl rfl rfl ⟨trivial,rfl⟩ ⟨trivial,rfl⟩ ⟨trivial,rfl⟩ rfl (by decide) ⟨_,rfl,fun φ R w h=>box_place h⟩ hfd (fun p c=>?_)))⟩
                    have hfdK:=find_append (d:=(newD (moveT tb at_) f)) (clock:=clock) (p:=p) (c:=c) hfd;have hfK:Fits (L1 ++ [(⟨keyF f,.own (newD (moveT tb at_) f) p c,clock⟩:Ent Ky En)]) (clock + 1) ((moveT tb at_).l ++ [(keyF f,(newD (moveT tb at_) f))]):=hf1.add _ _ _ _;have hknK:((L1 ++ [(⟨keyF f,.own (newD (moveT tb at_) f) p c,clock⟩:Ent Ky En)]).map Ent.k).Nodup:=(by rw [List.map_append,List.nodup_append];exact ⟨hkn1,by simp,fun x hx y hy e=>by simp only [List.map_cons,List.map_nil,List.mem_singleton] at hy;subst e;subst hy;exact findE_none.1 hfd hx⟩);have houK:∀ x,x ∉ outsL (L1 ++ [(⟨keyF f,.own (newD (moveT tb at_) f) p c,clock⟩:Ent Ky En)]):=(fun x=>by rw [hfK.outs];simp)
                    refine Tri.seq (Tri.drw hT hm 16 (by kernel_rfl) ?_)
                    refine ⟨by kernel_rfl,?_⟩
                    refine Tri.seq (Tri.reg hT ?_)
                    refine Tri.join (True) (SJ { moveT tb at_ with conf:=(moveT tb at_).conf + (insR (ePcs (newD (moveT tb at_) f)) (pcF f) pol).2.1,ord:=(moveT tb at_).ord + 1 } f (entD (newD (moveT tb at_) f) f pol) (mapX dfV [69] (turnE (L1 ++ [(⟨keyF f,.own (newD (moveT tb at_) f) p c,clock⟩:Ent Ky En)]) (keyF f) (.out (newD (moveT tb at_) f) 69 p c)) (clock + 1))) ?_ fun hp7=>?_
                    · have hconf:IntKind.i64.wrap (tb.conf + (insR (ePcs (newD (moveT tb at_) f)) (pcF f) pol).2.1) = tb.conf + (insR (ePcs (newD (moveT tb at_) f)) (pcF f) pol).2.1:=wrapId (by omega);have hord:IntKind.i64.wrap (tb.ord + 1) = tb.ord + 1:=wrapId (by omega);have hend:IntKind.i64.wrap (fOff f + ((fData f).length:Int)) = fOff f + (fData f).length:=wrapId (by omega)
                      refine Tri.seq (Tri.reg hT ?_)
                      refine (Tri.cond ⟨fun h11=>?_,fun h11=>?_⟩)
                      · refine (Tri.reg hT ?_)
                        exact ⟨trivial,Le.weak rfl rfl rfl rfl ⟨rfl,rfl,rfl,rfl,rfl,trivial⟩ ⟨(by show some (Chunk.box [.int .i64 (eBeg (newD (moveT tb at_) f)),.int .i64 (eOrd (newD (moveT tb at_) f)),.bool (eGone (newD (moveT tb at_) f)),.list pT (insR (ePcs (newD (moveT tb at_) f)) (pcF f) pol).1,.int .i64 (min (eTtl (newD (moveT tb at_) f)) (fTtl f)),.int .i64 (IntKind.i64.wrap (fOff f + ((fData f).length:Int)))]) = some (Chunk.box (enC (entD (newD (moveT tb at_) f) f pol)));rw [show eGone (newD (moveT tb at_) f) = false from h6,hend];show _ = some (Chunk.box [_,_,_,_,_,.int .i64 (if fMore f then eEnd (newD (moveT tb at_) f) else fOff f + (fData f).length)]);rw [show fMore f = false by simpa using h11];rfl),congrArg (fun l=>some (Chunk.ext (mapX dfV [69] l (clock + 1)))) (turn_append hfd).symm,(by have e1:=hconf;have e2:=hord;show some (Chunk.box [.int .i64 tb.timeout,.int .i64 at_,.int .i64 (IntKind.i64.wrap (tb.conf + (insR (ePcs (newD (moveT tb at_) f)) (pcF f) pol).2.1)),.int .i64 (IntKind.i64.wrap (tb.ord + 1)),.ex (mapV 1)]) = _;rw [e1,e2];rfl),rfl,rfl,rfl,trivial⟩⟩
                      · refine (Tri.skip ?_)
                        exact ⟨trivial,Le.weak rfl rfl rfl rfl ⟨rfl,rfl,rfl,rfl,rfl,trivial⟩ ⟨(by show some (Chunk.box [.int .i64 (eBeg (newD (moveT tb at_) f)),.int .i64 (eOrd (newD (moveT tb at_) f)),.bool (eGone (newD (moveT tb at_) f)),.list pT (insR (ePcs (newD (moveT tb at_) f)) (pcF f) pol).1,.int .i64 (min (eTtl (newD (moveT tb at_) f)) (fTtl f)),.int .i64 (eEnd (newD (moveT tb at_) f))]) = some (Chunk.box (enC (entD (newD (moveT tb at_) f) f pol)));rw [show eGone (newD (moveT tb at_) f) = false from h6];show _ = some (Chunk.box [_,_,_,_,_,.int .i64 (if fMore f then eEnd (newD (moveT tb at_) f) else fOff f + (fData f).length)]);rw [show fMore f = true by simpa using h11];rfl),congrArg (fun l=>some (Chunk.ext (mapX dfV [69] l (clock + 1)))) (turn_append hfd).symm,(by have e1:=hconf;have e2:=hord;show some (Chunk.box [.int .i64 tb.timeout,.int .i64 at_,.int .i64 (IntKind.i64.wrap (tb.conf + (insR (ePcs (newD (moveT tb at_) f)) (pcF f) pol).2.1)),.int .i64 (IntKind.i64.wrap (tb.ord + 1)),.ex (mapV 1)]) = _;rw [e1,e2];rfl),rfl,rfl,rfl,trivial⟩⟩
                    · refine Tri.seq ?_
                      refine Tri.seq (Tri.reg hT ?_)
                      refine .inl (.inl ⟨_,fun _=>rfl,f26_spec (ePcs (entD (newD (moveT tb at_) f) f pol)) 0 (by have:=hD.len;omega) (valid_inB hD.v) (by have:=lenSum_le hD.v;omega),?_⟩)
                      refine Tri.seq (Tri.reg hT ?_)
                      refine ⟨_,[],trivial,rfl,rfl,fun h=>⟨rfl,rfl,rfl⟩,?_⟩
                      refine ⟨_,[],trivial,rfl,rfl,fun h=>⟨h,rfl,rfl,rfl⟩,?_⟩
                      refine ⟨_,[],trivial,rfl,rfl,fun h=>⟨rfl,rfl,rfl⟩,?_⟩
                      refine ⟨_,[],trivial,rfl,rfl,fun h=>⟨h,rfl,rfl,rfl⟩,?_⟩
                      refine ⟨_,[],trivial,rfl,rfl,fun h=>⟨h,rfl,rfl,rfl⟩,?_⟩
                      refine ⟨_,[],trivial,rfl,rfl,fun h=>⟨h,rfl,rfl,rfl⟩,?_⟩
                      refine ⟨_,[],trivial,rfl,rfl,fun h=>⟨h,h,rfl,rfl,rfl⟩,?_⟩
                      refine ⟨⟨fun hc=>hc,fun _=>trivial⟩,?_⟩
                      refine (Tri.cond ⟨fun h12=>?_,fun h12=>?_⟩)
                      · refine Tri.seq (Tri.drwM hT hm 5 [5] (by kernel_rfl) ?_)
                        refine ⟨by kernel_rfl,?_⟩
                        refine ⟨_,Le.refl _,.inl (.inr (OpTri.delF hT (V:=dfV) (os:=[69]) (L:=turnE (L1 ++ [(⟨keyF f,.own (newD (moveT tb at_) f) p c,clock⟩:Ent Ky En)]) (keyF f) (.out (newD (moveT tb at_) f) 69 p c)) (clock:=(clock + 1)) (k:=keyF f) (et:=64) (by kernel_rfl) dfLaw rfl rfl rfl ⟨trivial,rfl⟩ ⟨trivial,rfl⟩ rfl ?_))⟩
                        refine Tri.seq (Tri.drw hT hm 12 (by kernel_rfl) ?_)
                        refine ⟨by kernel_rfl,?_⟩
                        refine Tri.ret ?_
                        have h12':=and_t h12;have hF:eEnd (entD (newD (moveT tb at_) f) f pol)≥0∧((takeF (ePcs (entD (newD (moveT tb at_) f) f pol)) 0).1.length:Int) = eEnd (entD (newD (moveT tb at_) f) f pol):=⟨of_decide_eq_true h12'.1,of_decide_eq_true h12'.2⟩;have e:addT tb at_ f pol = (okR (fSrc f) (fDst f) (fPro f) (eTtl (entD (newD (moveT tb at_) f) f pol)) (takeF (ePcs (entD (newD (moveT tb at_) f) f pol)) 0).1,{ moveT tb at_ with conf:=(moveT tb at_).conf + (insR (ePcs (newD (moveT tb at_) f)) (pcF f) pol).2.1,ord:=(moveT tb at_).ord + 1,l:=eraseT (moveT tb at_).l (keyF f) }):=hcore.trans ((if_neg (by rw [show eGone (newD (moveT tb at_) f) = false from h6];decide)).trans ((if_neg (by have h7':fitsB (newD (moveT tb at_) f) f = true:=(by simpa using h7);rw [h7'];decide)).trans ((if_neg (by rw [hE];exact fun q=>q rfl)).trans (if_pos hF))));exact ⟨⟨224,2,400,[(8,.loc 3 0),(9,.bool true),(10,.int .i64 0)],[(1,.ext (mapX dfV [] (eraseE (L1 ++ [(⟨keyF f,.own (newD (moveT tb at_) f) p c,clock⟩:Ent Ky En)]) (keyF f)) (clock + 1))),(0,.box (tbC { moveT tb at_ with conf:=(moveT tb at_).conf + (insR (ePcs (newD (moveT tb at_) f)) (pcF f) pol).2.1,ord:=(moveT tb at_).ord + 1 } 1)),(3,.box (dgC (fSrc f) (fDst f) (fPro f) (eTtl (entD (newD (moveT tb at_) f) f pol)) (takeF (ePcs (entD (newD (moveT tb at_) f) f pol)) 0).1))],[]⟩,Le.weakX rfl rfl rfl rfl ⟨rfl,rfl,rfl,trivial⟩ ⟨⟨_,rfl,conv_map erase_turn (fun x hx=>absurd hx (outs_erase (houK x)))⟩,⟨_,rfl,Conv.refl _⟩,⟨_,rfl,Conv.refl _⟩,trivial⟩,(eraseE (L1 ++ [(⟨keyF f,.own (newD (moveT tb at_) f) p c,clock⟩:Ent Ky En)]) (keyF f),(clock + 1)),by rw [e];exact erase_append (d:=(newD (moveT tb at_) f)) hq ▸ hfK.erase (keyF f),by rw [e];exact ⟨rfl,rfl,rfl,trivial⟩⟩
                      · refine (Tri.skip ?_)
                        have hF:¬ (eEnd (entD (newD (moveT tb at_) f) f pol)≥0∧((takeF (ePcs (entD (newD (moveT tb at_) f) f pol)) 0).1.length:Int) = eEnd (entD (newD (moveT tb at_) f) f pol)):=(fun q=>by rcases and_f h12 with h|h;exact of_decide_eq_false h q.1;exact of_decide_eq_false h q.2);have hfK2:Fits (turnE (L1 ++ [(⟨keyF f,.own (newD (moveT tb at_) f) p c,clock⟩:Ent Ky En)]) (keyF f) (.own (entD (newD (moveT tb at_) f) f pol) p c)) (clock + 1) (setT ((moveT tb at_).l ++ [(keyF f,(newD (moveT tb at_) f))]) (keyF f) (entD (newD (moveT tb at_) f) f pol)):=hfK.set _ _ _ _;have hm1:=hi.move (at_:=at_) (by omega) (by omega);have hsk:Sorts ((moveT tb at_).l ++ [(keyF f,(newD (moveT tb at_) f))]):=(by unfold Sorts;rw [List.pairwise_append];exact ⟨hm1.sorts,by simp,fun x hx y hy=>by simp only [List.mem_singleton] at hy;subst hy;exact ⟨hm1.beg x hx,hm1.olt x hx⟩⟩);have hkK:(((moveT tb at_).l ++ [(keyF f,(newD (moveT tb at_) f))]).map (·.1)).Nodup:=(by rw [← hfK.keys];exact hknK);have hsr:=set_sorts (d':=(entD (newD (moveT tb at_) f) f pol)) hsk hkK (List.mem_append_right _ (List.mem_singleton.2 rfl)) rfl rfl;have hkk:((setT ((moveT tb at_).l ++ [(keyF f,(newD (moveT tb at_) f))]) (keyF f) (entD (newD (moveT tb at_) f) f pol)).map (·.1)).Nodup:=(by rw [set_keys];exact hkK);have hlle:((setT ((moveT tb at_).l ++ [(keyF f,(newD (moveT tb at_) f))]) (keyF f) (entD (newD (moveT tb at_) f) f pol)).length:Int)≤N + 1:=(by have:=hm1.len;unfold setT;rw [List.length_map,List.length_append];simp;omega);refine Tri.le (S:=SK { moveT tb at_ with conf:=(moveT tb at_).conf + (insR (ePcs (newD (moveT tb at_) f)) (pcF f) pol).2.1,ord:=(moveT tb at_).ord + 1,l:=setT ((moveT tb at_).l ++ [(keyF f,(newD (moveT tb at_) f))]) (keyF f) (entD (newD (moveT tb at_) f) f pol) } (mapX dfV [] (turnE (L1 ++ [(⟨keyF f,.own (newD (moveT tb at_) f) p c,clock⟩:Ent Ky En)]) (keyF f) (.own (entD (newD (moveT tb at_) f) f pol) p c)) (clock + 1))) (Le.trans (Le.putD (os':=[]) (d':=(entD (newD (moveT tb at_) f) f pol)) 1 69 rfl rfl hfdK hknK (houK 69) (by simp) (by simp) rfl) (Le.weak rfl rfl rfl rfl ⟨rfl,rfl,trivial⟩ ⟨rfl,rfl,rfl,trivial⟩)) ?_
                        refine Tri.seq (Tri.regM hT [1] ?_)
                        refine ⟨_,Le.refl _,.inl (.inr (OpTri.gcall 1 rfl rfl rfl (f27_spec { moveT tb at_ with conf:=(moveT tb at_).conf + (insR (ePcs (newD (moveT tb at_) f)) (pcF f) pol).2.1,ord:=(moveT tb at_).ord + 1,l:=setT ((moveT tb at_).l ++ [(keyF f,(newD (moveT tb at_) f))]) (keyF f) (entD (newD (moveT tb at_) f) f pol) } (turnE (L1 ++ [(⟨keyF f,.own (newD (moveT tb at_) f) p c,clock⟩:Ent Ky En)]) (keyF f) (.own (entD (newD (moveT tb at_) f) f pol) p c)) (clock + 1) hfK2 hkk (by show (setT ((moveT tb at_).l ++ [(keyF f,(newD (moveT tb at_) f))]) (keyF f) (entD (newD (moveT tb at_) f) f pol)).length≤1048576;omega) hsr) trivial ⟨rfl,rfl,trivial⟩ (fun g _=>rfl) (fun g hg=>?_)))⟩
                        refine Tri.seq (Tri.reg hT ?_)
                        refine Tri.ret ?_
                        have e:addT tb at_ f pol = (failR 0,{ moveT tb at_ with conf:=(moveT tb at_).conf + (insR (ePcs (newD (moveT tb at_) f)) (pcF f) pol).2.1,ord:=(moveT tb at_).ord + 1,l:=limitT (setT ((moveT tb at_).l ++ [(keyF f,(newD (moveT tb at_) f))]) (keyF f) (entD (newD (moveT tb at_) f) f pol)) }):=hcore.trans ((if_neg (by rw [show eGone (newD (moveT tb at_) f) = false from h6];decide)).trans ((if_neg (by have h7':fitsB (newD (moveT tb at_) f) f = true:=(by simpa using h7);rw [h7'];decide)).trans ((if_neg (by rw [hE];exact fun q=>q rfl)).trans ((if_neg hF).trans (by rw [set_append hq];rfl)))));exact ⟨_,Le.refl _,(g,(clock + 1)),by rw [e];exact hg,by rw [e];exact ⟨rfl,rfl,rfl,trivial⟩⟩
                  · exact absurd h10 (by decide)
          · exact absurd h5 (by rw [hfd];exact fun q=>by cases q)
theorem f9_spec (tb:Tb) (L:DL) (clock:Nat) (at_:Int) (f:Fg) (pol:Int) (N:Int) (hf:Fits L clock tb.l) (hi:TI tb N) (hN:N + 1≤1048576) (hd:(fData f).length≤1099511627776) :
    GSpec P [] 9 [.loc 0 0,.int .i64 at_,fv f,.int .i64 pol] (tbH tb L clock) (fun g:DL × Nat=>Fits g.1 g.2 (addT tb at_ f pol).2.l) (fun _=>resV (addT tb at_ f pol).1) (fun g=>tbH (addT tb at_ f pol).2 g.1 g.2):=by
  cases hq:findT (moveT tb at_).l (keyF f) with
  | none=>exact addNew_spec tb L clock at_ f pol N hf hi hN hd hq
  | some d=>exact addKnown_spec tb L clock at_ f pol N hf hi hN hd d hq
end Go.Proofs.Ytfaplilocljknaa.Fx
