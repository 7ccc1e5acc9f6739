import Derived.Test.YtfaplilocljknaaDfN
set_option linter.all false
namespace Go.Proofs.Ytfaplilocljknaa.Fx
open Go Go.Fw Go.Ov Go.Df
abbrev newE (f:Fg) (at_:Int):Re:=((fSrc f,fDst f,fPro f,fId f,0,0,false,[],()),at_,false,[],fTtl f,0,())
def corR (rm:Rb) (f:Fg) (pol:Int) (at_:Int):Df.Rs × Rb:=match rm.xs.findIdx? (fun e=>sameK (rKey e) f) with
  | some k=>if rGone (rm.xs.getD k rD) = true then (failR 20,rm) else if fitsR (rm.xs.getD k rD) f = false then (failR 2,rm) else insK rm k (rm.xs.getD k rD) f pol
  | none=>if fitsR (newE f at_) f = false then (failR 2,rm) else insN rm (newE f at_) f pol
def addR (rb:Rb) (at_:Int) (f:Fg) (pol:Int):Df.Rs × Rb:=
  if at_ < rb.time∨at_ > 1099511627776 then (failR 12,rb) else
  if fOff f = 0∧fMore f = false then (okR (fSrc f) (fDst f) (fPro f) (fTtl f) (fData f),moveR rb at_) else
  if chkE f pol≠0 then (failR (chkE f pol),moveR rb at_) else corR (moveR rb at_) f pol at_
theorem c4_t {f:Fg} {pol:Int} (hd:(fData f).length≤1099511627776) (h:(if (if (if (if decide (fOff f < 0) = true then true else decide (fOff f > 65535)) = true then true else decide (((fData f).length:Int) > IntKind.i64.wrap (65535 - fOff f))) = true then true else decide (pol < 1)) = true then true else decide (pol > 5)) = true) :
    fOff f < 0∨fOff f > 65535∨fOff f + (fData f).length > 65535∨pol < 1∨pol > 5:=by
  rcases or_t h with h|h
  · rcases or_t h with h|h
    · rcases or_t h with h|h
      · rcases or_t h with h|h
        · have:=of_decide_eq_true h;omega
        · have:=of_decide_eq_true h;omega
      · by_cases hr:0≤fOff f∧fOff f≤65535
        · have:=of_decide_eq_true h;rw [wrapId (by omega)] at this;omega
        · omega
    · have:=of_decide_eq_true h;omega
  · have:=of_decide_eq_true h;omega
theorem c4_f {f:Fg} {pol:Int} (hd:(fData f).length≤1099511627776) (h:(if (if (if (if decide (fOff f < 0) = true then true else decide (fOff f > 65535)) = true then true else decide (((fData f).length:Int) > IntKind.i64.wrap (65535 - fOff f))) = true then true else decide (pol < 1)) = true then true else decide (pol > 5)) = false) :
    ¬ (fOff f < 0∨fOff f > 65535∨fOff f + (fData f).length > 65535∨pol < 1∨pol > 5):=by
  obtain ⟨h,h5⟩:=or_f h
  obtain ⟨h,h4⟩:=or_f h
  obtain ⟨h,h3⟩:=or_f h
  obtain ⟨h1,h2⟩:=or_f h
  have h1:=of_decide_eq_false h1
  have h2:=of_decide_eq_false h2
  have h3:=of_decide_eq_false h3
  have h4:=of_decide_eq_false h4
  have h5:=of_decide_eq_false h5
  rw [wrapId (by omega)] at h3
  omega
theorem c2_t {f:Fg} (h:(if (if decide (fData f = []) = true then true else decide ((fOff f).tmod 8≠0)) = true then true else if fMore f = true then decide (((fData f).length:Int).tmod 8≠0) else false) = true) :
    fData f = []∨(fOff f).tmod 8≠0∨(fMore f = true∧((fData f).length:Int).tmod 8≠0):=by
  rcases or_t h with h|h
  · rcases or_t h with h|h
    · exact .inl (of_decide_eq_true h)
    · exact .inr (.inl (of_decide_eq_true h))
  · obtain ⟨h1,h2⟩:=and_t h
    exact .inr (.inr ⟨h1,of_decide_eq_true h2⟩)
theorem c2_f {f:Fg} (h:(if (if decide (fData f = []) = true then true else decide ((fOff f).tmod 8≠0)) = true then true else if fMore f = true then decide (((fData f).length:Int).tmod 8≠0) else false) = false) :
    ¬ (fData f = []∨(fOff f).tmod 8≠0∨(fMore f = true∧((fData f).length:Int).tmod 8≠0)):=by
  obtain ⟨h,h3⟩:=or_f h
  obtain ⟨h1,h2⟩:=or_f h
  rintro (q|q|⟨q,q2⟩)
  · exact of_decide_eq_false h1 q
  · exact of_decide_eq_false h2 q
  · rcases and_f h3 with h3|h3
    · rw [q] at h3;cases h3
    · exact of_decide_eq_false h3 q2
structure RbOk (rb:Rb):Prop where
  len:rb.xs.length≤1048575
  tmo:1≤rb.timeout∧rb.timeout≤1099511627776
  tim:0≤rb.time∧rb.time≤1099511627776
  conf:0≤rb.conf∧rb.conf≤1099511627776
  ents:∀ e∈rb.xs,Valid (rPcs e)∧(rPcs e).length≤64
theorem RbOk.move {rb:Rb} (h:RbOk rb) {at_:Int} (h1:rb.time≤at_) (h2:at_≤1099511627776):RbOk (moveR rb at_):=
  ⟨Nat.le_trans (List.length_filter_le _ _) h.len,h.tmo,by have:=h.tim;show 0≤at_∧at_≤1099511627776;omega,h.conf,fun e he=>h.ents e (List.mem_filter.1 he).1⟩
theorem ins17 (f:Fg) (at_ pol:Int):(insE (newE f at_) f pol).2.2≠17:=by
  show (insR [] (pcF f) pol).2.2≠17
  by_cases h1:pd (pcF f) = []
  · have e:insR [] (pcF f) pol = ([],0,0):=if_pos h1
    rw [e];decide
  by_cases h2:rangeB (pcF f).1 pol = true
  · rw [insR_range (decide_eq_false h1) h2];decide
  have h2':rangeB (pcF f).1 pol = false:=by simpa using h2
  have hv:Valid ([]:List Pc):=fun j hj=>absurd (show j < 0 from hj) (by omega)
  have e:=insR_end hv (decide_eq_false h1) h2'
  have hc:covN [] (pcF f) (pd (pcF f)).length = 0:=cnt_false (fun x _ _=>rfl)
  rw [e,if_neg (by rw [hc];rintro ⟨_,q⟩;exact absurd q (by decide))]
  split <;> simp
set_option maxRecDepth 16000 in
theorem addRK_spec (rb:Rb) (at_:Int) (f:Fg) (pol:Int) (hi:RbOk rb) (hd:(fData f).length≤1099511627776) (k:Nat) (hk:(moveR rb at_).xs.findIdx? (fun e=>sameK (rKey e) f) = some k) :
    HSpec P [] 13 [.loc 0 0,.int .i64 at_,fv f,.int .i64 pol] (rbH rb) (resV (addR rb at_ f pol).1) (rbH (addR rb at_ f pol).2):=by
  have htm:=hi.tim
  have hlr:=hi.len
  have hkl:k < (moveR rb at_).xs.length:=(List.findIdx?_eq_some_iff_getElem.1 hk).1
  have hfx:findX (moveR rb at_).xs f = (k:Int):=by unfold findX;rw [hk]
  have hem:((moveR rb at_).xs.getD k rD)∈rb.xs:=(List.mem_filter.1 (getD_mem (d:=rD) hkl)).1
  have hev:=hi.ents _ hem
  have core:¬ (at_ < rb.time∨at_ > 1099511627776)→¬ (fOff f = 0∧fMore f = false)→chkE f pol = 0→addR rb at_ f pol = if rGone ((moveR rb at_).xs.getD k rD) = true then (failR 20,moveR rb at_) else if fitsR ((moveR rb at_).xs.getD k rD) f = false then (failR 2,moveR rb at_) else insK (moveR rb at_) k ((moveR rb at_).xs.getD k rD) f pol:=fun h1 h2 h3=>by unfold addR;rw [if_neg h1,if_neg h2,if_neg (fun q=>q h3)];unfold corR;rw [hk]
  refine fspec_intro hT (rbH rb) (rbH (addR rb at_ f pol).2) 1 2 Try.func13 (by decide) rfl rfl (by kernel_rfl) rfl rfl (Tri.post ?_)
  refine Tri.seq (Tri.reg hT ?_)
  refine Tri.seq ?_
  refine Tri.seq (Tri.reg hT ?_)
  refine ⟨_,[],trivial,rfl,rfl,fun h=>⟨rfl,rfl,rfl⟩,?_⟩
  refine ⟨_,[],trivial,rfl,rfl,fun h=>⟨h,rfl,rfl,rfl⟩,?_⟩
  refine ⟨⟨fun _=>trivial,fun hc=>(gn hc)⟩,?_⟩
  refine (Tri.cond ⟨fun h1=>?_,fun h1=>?_⟩)
  · refine Tri.seq (Tri.reg hT ?_)
    refine Tri.ret ?_
    have hA:at_ < rb.time∨at_ > 1099511627776:=(or_t h1).imp of_decide_eq_true of_decide_eq_true;have e:addR rb at_ f pol = (failR 12,rb):=if_pos hA;exact ⟨_,Le.refl _,by rw [e];exact ⟨rfl,rfl,rfl,trivial⟩⟩
  · refine (Tri.skip ?_)
    have hA:¬ (at_ < rb.time∨at_ > 1099511627776):=(by have:=or_f h1;have h21:=of_decide_eq_false this.1;have h22:=of_decide_eq_false this.2;omega);have him:RbOk (moveR rb at_):=hi.move (by omega) (by omega)
    refine Tri.seq (Tri.regM hT [2] ?_)
    refine ⟨_,Le.refl _,.inl (.inr (OpTri.hcall 1 rfl rfl rfl (f28_spec rb at_ (by omega) (by omega) hi.tmo) trivial ⟨rfl,rfl,trivial⟩ rfl ?_))⟩
    refine Tri.seq ?_
    refine Tri.seq (Tri.reg hT ?_)
    refine ⟨_,[],trivial,rfl,rfl,fun h=>⟨rfl,rfl,rfl⟩,?_⟩
    refine ⟨_,[],trivial,rfl,rfl,fun h=>⟨h,rfl,rfl,rfl⟩,?_⟩
    refine ⟨_,[],trivial,rfl,rfl,fun h=>⟨h,rfl,rfl,rfl⟩,?_⟩
    refine ⟨⟨fun hc=>hc,fun _=>trivial⟩,?_⟩
    refine (Tri.cond ⟨fun h2=>?_,fun h2=>?_⟩)
    · refine Tri.seq (Tri.reg hT ?_)
      refine Tri.ret ?_
      have h2':=and_t h2;have hB:fOff f = 0∧fMore f = false:=⟨of_decide_eq_true h2'.1,by simpa using h2'.2⟩;have e:addR rb at_ f pol = (okR (fSrc f) (fDst f) (fPro f) (fTtl f) (fData f),moveR rb at_):=(by unfold addR;rw [if_neg hA,if_pos hB]);exact ⟨_,Le.refl _,by rw [e];exact ⟨rfl,rfl,rfl,trivial⟩⟩
    · refine (Tri.skip ?_)
      refine Tri.seq ?_
      have hB:¬ (fOff f = 0∧fMore f = false):=(fun q=>by rcases and_f h2 with h|h;exact of_decide_eq_false h q.1;rw [q.2] at h;cases h)
      refine Tri.seq (Tri.reg hT ?_)
      refine ⟨_,[],trivial,rfl,rfl,fun h=>⟨rfl,rfl,rfl⟩,?_⟩
      refine ⟨_,[],trivial,rfl,rfl,fun h=>⟨h,rfl,rfl,rfl⟩,?_⟩
      refine ⟨_,[],trivial,rfl,rfl,fun h=>⟨h,rfl,rfl,rfl⟩,?_⟩
      refine ⟨⟨fun _=>trivial,fun hc=>(gn hc)⟩,?_⟩
      refine ⟨_,[],trivial,rfl,rfl,fun h=>⟨rfl,rfl,rfl⟩,?_⟩
      refine ⟨_,[],trivial,rfl,rfl,fun h=>⟨h,rfl,rfl,rfl⟩,?_⟩
      refine ⟨_,[],trivial,rfl,rfl,fun h=>⟨h,rfl,rfl,rfl⟩,?_⟩
      refine ⟨_,[],trivial,rfl,rfl,fun h=>⟨rfl,rfl,rfl⟩,?_⟩
      refine ⟨_,[],trivial,rfl,rfl,fun h=>⟨h,rfl,rfl,rfl⟩,?_⟩
      refine ⟨_,[],trivial,rfl,rfl,fun h=>⟨h,rfl,rfl,rfl⟩,?_⟩
      refine ⟨_,[],trivial,rfl,rfl,fun h=>⟨h,h,rfl,rfl,rfl⟩,?_⟩
      refine ⟨⟨fun _=>trivial,fun hc=>(gn hc)⟩,?_⟩
      refine ⟨_,[],trivial,rfl,rfl,fun h=>⟨rfl,rfl,rfl⟩,?_⟩
      refine ⟨_,[],trivial,rfl,rfl,fun h=>⟨h,rfl,rfl,rfl⟩,?_⟩
      refine ⟨⟨fun _=>trivial,fun hc=>(gn hc)⟩,?_⟩
      refine ⟨_,[],trivial,rfl,rfl,fun h=>⟨rfl,rfl,rfl⟩,?_⟩
      refine ⟨_,[],trivial,rfl,rfl,fun h=>⟨h,rfl,rfl,rfl⟩,?_⟩
      refine ⟨⟨fun _=>trivial,fun hc=>(gn hc)⟩,?_⟩
      refine (Tri.cond ⟨fun h3=>?_,fun h3=>?_⟩)
      · refine Tri.seq (Tri.reg hT ?_)
        refine Tri.ret ?_
        have hC:chkE f pol = 4:=if_pos (c4_t hd h3);have e:addR rb at_ f pol = (failR 4,moveR rb at_):=(by unfold addR;rw [if_neg hA,if_neg hB,if_pos (by rw [hC];decide),hC]);exact ⟨_,Le.refl _,by rw [e];exact ⟨rfl,rfl,rfl,trivial⟩⟩
      · refine (Tri.skip ?_)
        refine Tri.seq ?_
        refine Tri.seq (Tri.reg hT ?_)
        refine ⟨_,[],trivial,rfl,rfl,fun h=>⟨rfl,rfl,rfl⟩,?_⟩
        refine ⟨_,[],trivial,rfl,rfl,fun h=>⟨h,rfl,rfl,rfl⟩,?_⟩
        refine ⟨_,[],trivial,rfl,rfl,fun h=>⟨h,(by decide),rfl,rfl,rfl⟩,?_⟩
        refine ⟨_,[],trivial,rfl,rfl,fun h=>⟨h,rfl,rfl,rfl⟩,?_⟩
        refine ⟨⟨fun _=>trivial,fun hc=>(gn hc)⟩,?_⟩
        refine ⟨_,[],trivial,rfl,rfl,fun h=>⟨rfl,rfl,rfl⟩,?_⟩
        refine ⟨_,[],trivial,rfl,rfl,fun h=>⟨h,rfl,rfl,rfl⟩,?_⟩
        refine ⟨_,[],trivial,rfl,rfl,fun h=>⟨h,rfl,rfl,rfl⟩,?_⟩
        refine ⟨_,[],trivial,rfl,rfl,fun h=>⟨rfl,rfl,rfl⟩,?_⟩
        refine ⟨_,[],trivial,rfl,rfl,fun h=>⟨h,rfl,rfl,rfl⟩,?_⟩
        refine ⟨_,[],trivial,rfl,rfl,fun h=>⟨h,rfl,rfl,rfl⟩,?_⟩
        refine ⟨_,[],trivial,rfl,rfl,fun h=>⟨h,(by decide),rfl,rfl,rfl⟩,?_⟩
        refine ⟨_,[],trivial,rfl,rfl,fun h=>⟨h,rfl,rfl,rfl⟩,?_⟩
        refine ⟨_,[],trivial,rfl,rfl,fun h=>⟨h,⟨fun hc=>ga h hc,fun _=>trivial⟩,rfl,rfl,rfl⟩,?_⟩
        refine ⟨⟨fun _=>trivial,fun hc=>(gn hc)⟩,?_⟩
        refine (Tri.cond ⟨fun h4=>?_,fun h4=>?_⟩)
        · refine Tri.seq (Tri.reg hT ?_)
          refine Tri.ret ?_
          have hC:chkE f pol = 2:=(if_neg (c4_f hd h3)).trans (if_pos (c2_t h4));have e:addR rb at_ f pol = (failR 2,moveR rb at_):=(by unfold addR;rw [if_neg hA,if_neg hB,if_pos (by rw [hC];decide),hC]);exact ⟨_,Le.refl _,by rw [e];exact ⟨rfl,rfl,rfl,trivial⟩⟩
        · refine (Tri.skip ?_)
          have hC:chkE f pol = 0:=(if_neg (c4_f hd h3)).trans (if_neg (c2_f h4));obtain ⟨c1,c2,c3,c4,c5,c6⟩:=chk_ok hC;have hcore:=core hA hB hC;have hfd:HSpec P [] 29 [.loc 0 0,fv f] (rbH (moveR rb at_)) (.int .i64 (k:Int)) (rbH (moveR rb at_)):=hfx ▸ f29_spec (moveR rb at_) f (by have:=him.len;omega)
          refine Tri.seq (Tri.regM hT [2] ?_)
          refine ⟨_,Le.refl _,.inl (.inr (OpTri.hcall 1 rfl rfl rfl (hfd) trivial ⟨rfl,rfl,trivial⟩ rfl ?_))⟩
          refine Tri.seq (Tri.reg hT ?_)
          refine Tri.seq ?_
          refine Tri.seq (Tri.reg hT ?_)
          refine (Tri.cond ⟨fun h5=>?_,fun h5=>?_⟩)
          · refine (Tri.reg hT ?_)
            refine ⟨(by show 0≤(k:Int)∧(k:Int) < ((moveR rb at_).xs.length:Int);omega),?_⟩
            refine ⟨(by show k < (moveR rb at_).xs.length;omega),?_⟩
            refine Tri.seq ?_
            refine Tri.seq (Tri.reg hT ?_)
            refine (Tri.cond ⟨fun h6=>?_,fun h6=>?_⟩)
            · refine Tri.seq (Tri.reg hT ?_)
              refine Tri.ret ?_
              have h6':rGone ((moveR rb at_).xs.getD k rD) = true:=h6;have e:=hcore.trans (if_pos h6');exact ⟨_,Le.refl _,by rw [e];exact ⟨rfl,rfl,rfl,trivial⟩⟩
            · refine (Tri.skip ?_)
              refine Tri.seq ?_
              refine Tri.seq (Tri.reg hT ?_)
              refine .inl (.inl ⟨_,fun _=>rfl,f30_spec ((moveR rb at_).xs.getD k rD) f hev.1 (by have:=hev.2;omega) ⟨c1,c2⟩ (by omega),?_⟩)
              refine (Tri.cond ⟨fun h7=>?_,fun h7=>?_⟩)
              · refine Tri.seq (Tri.reg hT ?_)
                refine Tri.ret ?_
                have h7':fitsR ((moveR rb at_).xs.getD k rD) f = false:=(by have h7'':(!fitsR ((moveR rb at_).xs.getD k rD) f) = true:=h7;simpa using h7'');have e:=hcore.trans ((if_neg (show ¬ rGone ((moveR rb at_).xs.getD k rD) = true from fun q=>by have h6':rGone ((moveR rb at_).xs.getD k rD) = false:=h6;rw [h6'] at q;cases q)).trans (if_pos h7'));exact ⟨_,Le.refl _,by rw [e];exact ⟨rfl,rfl,rfl,trivial⟩⟩
              · refine (Tri.skip ?_)
                have hin:HSpec P [] 31 [.loc 0 0,.int .i64 (k:Int),.agg (rC ((moveR rb at_).xs.getD k rD)),fv f,.int .i64 pol] (rbH (moveR rb at_)) (resV (insK (moveR rb at_) k ((moveR rb at_).xs.getD k rD) f pol).1) (rbH (insK (moveR rb at_) k ((moveR rb at_).xs.getD k rD) f pol).2):=insK_spec (moveR rb at_) k ((moveR rb at_).xs.getD k rD) f pol (by have:=him.len;omega) hkl hev.1 hev.2 ⟨c1,c2⟩ c3 ⟨c4,c5⟩ him.conf
                refine Tri.seq (Tri.regM hT [5] ?_)
                refine ⟨_,Le.refl _,.inl (.inr (OpTri.hcall 1 rfl rfl rfl (hin) trivial ⟨rfl,rfl,trivial⟩ rfl ?_))⟩
                refine Tri.ret ?_
                have h7':fitsR ((moveR rb at_).xs.getD k rD) f = true:=(by have h7'':(!fitsR ((moveR rb at_).xs.getD k rD) f) = false:=h7;simpa using h7'');have e:addR rb at_ f pol = insK (moveR rb at_) k ((moveR rb at_).xs.getD k rD) f pol:=hcore.trans ((if_neg (show ¬ rGone ((moveR rb at_).xs.getD k rD) = true from fun q=>by have h6':rGone ((moveR rb at_).xs.getD k rD) = false:=h6;rw [h6'] at q;cases q)).trans (if_neg (by rw [h7'];decide)));exact ⟨_,Le.refl _,by rw [e];exact ⟨rfl,rfl,rfl,trivial⟩⟩
          · exact absurd (show decide ((k:Int)≥0) = false from h5) (by simp)
set_option maxRecDepth 16000 in
theorem addRN_spec (rb:Rb) (at_:Int) (f:Fg) (pol:Int) (hi:RbOk rb) (hd:(fData f).length≤1099511627776) (hq:(moveR rb at_).xs.findIdx? (fun e=>sameK (rKey e) f) = none) :
    HSpec P [] 13 [.loc 0 0,.int .i64 at_,fv f,.int .i64 pol] (rbH rb) (resV (addR rb at_ f pol).1) (rbH (addR rb at_ f pol).2):=by
  have htm:=hi.tim
  have hlr:=hi.len
  have hfx:findX (moveR rb at_).xs f = -1:=by unfold findX;rw [hq]
  have hev:Valid (rPcs (newE f at_))∧(rPcs (newE f at_)).length≤64:=⟨fun j hj=>absurd (show j < 0 from hj) (by omega),by show (0:Nat)≤64;omega⟩
  have core:¬ (at_ < rb.time∨at_ > 1099511627776)→¬ (fOff f = 0∧fMore f = false)→chkE f pol = 0→addR rb at_ f pol = if fitsR (newE f at_) f = false then (failR 2,moveR rb at_) else insN (moveR rb at_) (newE f at_) f pol:=fun h1 h2 h3=>by unfold addR;rw [if_neg h1,if_neg h2,if_neg (fun q=>q h3)];unfold corR;rw [hq]
  refine fspec_intro hT (rbH rb) (rbH (addR rb at_ f pol).2) 1 2 Try.func13 (by decide) rfl rfl (by kernel_rfl) rfl rfl (Tri.post ?_)
  refine Tri.seq (Tri.reg hT ?_)
  refine Tri.seq ?_
  refine Tri.seq (Tri.reg hT ?_)
  refine ⟨_,[],trivial,rfl,rfl,fun h=>⟨rfl,rfl,rfl⟩,?_⟩
  refine ⟨_,[],trivial,rfl,rfl,fun h=>⟨h,rfl,rfl,rfl⟩,?_⟩
  refine ⟨⟨fun _=>trivial,fun hc=>(gn hc)⟩,?_⟩
  refine (Tri.cond ⟨fun h1=>?_,fun h1=>?_⟩)
  · refine Tri.seq (Tri.reg hT ?_)
    refine Tri.ret ?_
    have hA:at_ < rb.time∨at_ > 1099511627776:=(or_t h1).imp of_decide_eq_true of_decide_eq_true;have e:addR rb at_ f pol = (failR 12,rb):=if_pos hA;exact ⟨_,Le.refl _,by rw [e];exact ⟨rfl,rfl,rfl,trivial⟩⟩
  · refine (Tri.skip ?_)
    have hA:¬ (at_ < rb.time∨at_ > 1099511627776):=(by have:=or_f h1;have h21:=of_decide_eq_false this.1;have h22:=of_decide_eq_false this.2;omega);have him:RbOk (moveR rb at_):=hi.move (by omega) (by omega)
    refine Tri.seq (Tri.regM hT [2] ?_)
    refine ⟨_,Le.refl _,.inl (.inr (OpTri.hcall 1 rfl rfl rfl (f28_spec rb at_ (by omega) (by omega) hi.tmo) trivial ⟨rfl,rfl,trivial⟩ rfl ?_))⟩
    refine Tri.seq ?_
    refine Tri.seq (Tri.reg hT ?_)
    refine ⟨_,[],trivial,rfl,rfl,fun h=>⟨rfl,rfl,rfl⟩,?_⟩
    refine ⟨_,[],trivial,rfl,rfl,fun h=>⟨h,rfl,rfl,rfl⟩,?_⟩
    refine ⟨_,[],trivial,rfl,rfl,fun h=>⟨h,rfl,rfl,rfl⟩,?_⟩
    refine ⟨⟨fun hc=>hc,fun _=>trivial⟩,?_⟩
    refine (Tri.cond ⟨fun h2=>?_,fun h2=>?_⟩)
    · refine Tri.seq (Tri.reg hT ?_)
      refine Tri.ret ?_
      have h2':=and_t h2;have hB:fOff f = 0∧fMore f = false:=⟨of_decide_eq_true h2'.1,by simpa using h2'.2⟩;have e:addR rb at_ f pol = (okR (fSrc f) (fDst f) (fPro f) (fTtl f) (fData f),moveR rb at_):=(by unfold addR;rw [if_neg hA,if_pos hB]);exact ⟨_,Le.refl _,by rw [e];exact ⟨rfl,rfl,rfl,trivial⟩⟩
    · refine (Tri.skip ?_)
      refine Tri.seq ?_
      have hB:¬ (fOff f = 0∧fMore f = false):=(fun q=>by rcases and_f h2 with h|h;exact of_decide_eq_false h q.1;rw [q.2] at h;cases h)
      refine Tri.seq (Tri.reg hT ?_)
      refine ⟨_,[],trivial,rfl,rfl,fun h=>⟨rfl,rfl,rfl⟩,?_⟩
      refine ⟨_,[],trivial,rfl,rfl,fun h=>⟨h,rfl,rfl,rfl⟩,?_⟩
      refine ⟨_,[],trivial,rfl,rfl,fun h=>⟨h,rfl,rfl,rfl⟩,?_⟩
      refine ⟨⟨fun _=>trivial,fun hc=>(gn hc)⟩,?_⟩
      refine ⟨_,[],trivial,rfl,rfl,fun h=>⟨rfl,rfl,rfl⟩,?_⟩
      refine ⟨_,[],trivial,rfl,rfl,fun h=>⟨h,rfl,rfl,rfl⟩,?_⟩
      refine ⟨_,[],trivial,rfl,rfl,fun h=>⟨h,rfl,rfl,rfl⟩,?_⟩
      refine ⟨_,[],trivial,rfl,rfl,fun h=>⟨rfl,rfl,rfl⟩,?_⟩
      refine ⟨_,[],trivial,rfl,rfl,fun h=>⟨h,rfl,rfl,rfl⟩,?_⟩
      refine ⟨_,[],trivial,rfl,rfl,fun h=>⟨h,rfl,rfl,rfl⟩,?_⟩
      refine ⟨_,[],trivial,rfl,rfl,fun h=>⟨h,h,rfl,rfl,rfl⟩,?_⟩
      refine ⟨⟨fun _=>trivial,fun hc=>(gn hc)⟩,?_⟩
      refine ⟨_,[],trivial,rfl,rfl,fun h=>⟨rfl,rfl,rfl⟩,?_⟩
      refine ⟨_,[],trivial,rfl,rfl,fun h=>⟨h,rfl,rfl,rfl⟩,?_⟩
      refine ⟨⟨fun _=>trivial,fun hc=>(gn hc)⟩,?_⟩
      refine ⟨_,[],trivial,rfl,rfl,fun h=>⟨rfl,rfl,rfl⟩,?_⟩
      refine ⟨_,[],trivial,rfl,rfl,fun h=>⟨h,rfl,rfl,rfl⟩,?_⟩
      refine ⟨⟨fun _=>trivial,fun hc=>(gn hc)⟩,?_⟩
      refine (Tri.cond ⟨fun h3=>?_,fun h3=>?_⟩)
      · refine Tri.seq (Tri.reg hT ?_)
        refine Tri.ret ?_
        have hC:chkE f pol = 4:=if_pos (c4_t hd h3);have e:addR rb at_ f pol = (failR 4,moveR rb at_):=(by unfold addR;rw [if_neg hA,if_neg hB,if_pos (by rw [hC];decide),hC]);exact ⟨_,Le.refl _,by rw [e];exact ⟨rfl,rfl,rfl,trivial⟩⟩
      · refine (Tri.skip ?_)
        refine Tri.seq ?_
        refine Tri.seq (Tri.reg hT ?_)
        refine ⟨_,[],trivial,rfl,rfl,fun h=>⟨rfl,rfl,rfl⟩,?_⟩
        refine ⟨_,[],trivial,rfl,rfl,fun h=>⟨h,rfl,rfl,rfl⟩,?_⟩
        refine ⟨_,[],trivial,rfl,rfl,fun h=>⟨h,(by decide),rfl,rfl,rfl⟩,?_⟩
        refine ⟨_,[],trivial,rfl,rfl,fun h=>⟨h,rfl,rfl,rfl⟩,?_⟩
        refine ⟨⟨fun _=>trivial,fun hc=>(gn hc)⟩,?_⟩
        refine ⟨_,[],trivial,rfl,rfl,fun h=>⟨rfl,rfl,rfl⟩,?_⟩
        refine ⟨_,[],trivial,rfl,rfl,fun h=>⟨h,rfl,rfl,rfl⟩,?_⟩
        refine ⟨_,[],trivial,rfl,rfl,fun h=>⟨h,rfl,rfl,rfl⟩,?_⟩
        refine ⟨_,[],trivial,rfl,rfl,fun h=>⟨rfl,rfl,rfl⟩,?_⟩
        refine ⟨_,[],trivial,rfl,rfl,fun h=>⟨h,rfl,rfl,rfl⟩,?_⟩
        refine ⟨_,[],trivial,rfl,rfl,fun h=>⟨h,rfl,rfl,rfl⟩,?_⟩
        refine ⟨_,[],trivial,rfl,rfl,fun h=>⟨h,(by decide),rfl,rfl,rfl⟩,?_⟩
        refine ⟨_,[],trivial,rfl,rfl,fun h=>⟨h,rfl,rfl,rfl⟩,?_⟩
        refine ⟨_,[],trivial,rfl,rfl,fun h=>⟨h,⟨fun hc=>ga h hc,fun _=>trivial⟩,rfl,rfl,rfl⟩,?_⟩
        refine ⟨⟨fun _=>trivial,fun hc=>(gn hc)⟩,?_⟩
        refine (Tri.cond ⟨fun h4=>?_,fun h4=>?_⟩)
        · refine Tri.seq (Tri.reg hT ?_)
          refine Tri.ret ?_
          have hC:chkE f pol = 2:=(if_neg (c4_f hd h3)).trans (if_pos (c2_t h4));have e:addR rb at_ f pol = (failR 2,moveR rb at_):=(by unfold addR;rw [if_neg hA,if_neg hB,if_pos (by rw [hC];decide),hC]);exact ⟨_,Le.refl _,by rw [e];exact ⟨rfl,rfl,rfl,trivial⟩⟩
        · refine (Tri.skip ?_)
          have hC:chkE f pol = 0:=(if_neg (c4_f hd h3)).trans (if_neg (c2_f h4));obtain ⟨c1,c2,c3,c4,c5,c6⟩:=chk_ok hC;have hcore:=core hA hB hC;have hfd:HSpec P [] 29 [.loc 0 0,fv f] (rbH (moveR rb at_)) (.int .i64 (-1)) (rbH (moveR rb at_)):=hfx ▸ f29_spec (moveR rb at_) f (by have:=him.len;omega)
          refine Tri.seq (Tri.regM hT [2] ?_)
          refine ⟨_,Le.refl _,.inl (.inr (OpTri.hcall 1 rfl rfl rfl (hfd) trivial ⟨rfl,rfl,trivial⟩ rfl ?_))⟩
          refine Tri.seq (Tri.reg hT ?_)
          refine Tri.seq ?_
          refine Tri.seq (Tri.reg hT ?_)
          refine (Tri.cond ⟨fun h5=>?_,fun h5=>?_⟩)
          · exact absurd (show decide ((-1:Int)≥0) = true from h5) (by decide)
          · refine (Tri.skip ?_)
            refine Tri.seq ?_
            refine Tri.le (S:=⟨135,1,100,[(0,.loc 0 0),(3,.int .i64 pol),(6,.loc 2 0),(8,.loc 3 0),(11,.int .i64 (-1)),(12,.loc 89 0)],[(89,.box (rC (newE f at_))),(0,.box (rbC (moveR rb at_) 1)),(1,.arr rT (moveR rb at_).xs),(2,.box (fgC f)),(3,.box zDv)],[]⟩) (Le.weakV rfl rfl rfl rfl ⟨rfl,rfl,rfl,rfl,rfl,rfl,trivial⟩ ⟨⟨rfl,rfl,rfl,rfl,rfl,rfl,rfl,rfl,rfl,rfl,rfl,rfl,rfl,rfl,rfl,rfl,rfl,trivial⟩,⟨rfl,rfl,rfl,rfl,trivial⟩,rfl,leL_self _,leL_self _,trivial⟩) ?_
            refine Tri.seq (Tri.reg hT ?_)
            refine (Tri.cond ⟨fun h6=>?_,fun h6=>?_⟩)
            · exact absurd (show false = true from h6) (by decide)
            · refine (Tri.skip ?_)
              refine Tri.seq ?_
              refine Tri.seq (Tri.reg hT ?_)
              refine .inl (.inl ⟨_,fun _=>rfl,f30_spec (newE f at_) f hev.1 (by have:=hev.2;omega) ⟨c1,c2⟩ (by omega),?_⟩)
              refine (Tri.cond ⟨fun h7=>?_,fun h7=>?_⟩)
              · refine Tri.seq (Tri.reg hT ?_)
                refine Tri.ret ?_
                have h7':fitsR (newE f at_) f = false:=(by have h7'':(!fitsR (newE f at_) f) = true:=h7;simpa using h7'');have e:=hcore.trans (if_pos h7');exact ⟨_,Le.refl _,by rw [e];exact ⟨rfl,rfl,rfl,trivial⟩⟩
              · refine (Tri.skip ?_)
                have hin:HSpec P [] 31 [.loc 0 0,.int .i64 (-1),.agg (rC (newE f at_)),fv f,.int .i64 pol] (rbH (moveR rb at_)) (resV (insN (moveR rb at_) (newE f at_) f pol).1) (rbH (insN (moveR rb at_) (newE f at_) f pol).2):=insN_spec (moveR rb at_) (newE f at_) f pol (by have:=him.len;omega) hev.1 hev.2 ⟨c1,c2⟩ c3 ⟨c4,c5⟩ him.conf (ins17 f at_ pol) (by have h9:=him.len;rw [List.length_append];show (moveR rb at_).xs.length + 1≤1048576;omega)
                refine Tri.seq (Tri.regM hT [5] ?_)
                refine ⟨_,Le.refl _,.inl (.inr (OpTri.hcall 1 rfl rfl rfl (hin) trivial ⟨rfl,rfl,trivial⟩ rfl ?_))⟩
                refine Tri.ret ?_
                have h7':fitsR (newE f at_) f = true:=(by have h7'':(!fitsR (newE f at_) f) = false:=h7;simpa using h7'');have e:addR rb at_ f pol = insN (moveR rb at_) (newE f at_) f pol:=hcore.trans (if_neg (by rw [h7'];decide));exact ⟨_,Le.refl _,by rw [e];exact ⟨rfl,rfl,rfl,trivial⟩⟩
theorem f13_spec (rb:Rb) (at_:Int) (f:Fg) (pol:Int) (hi:RbOk rb) (hd:(fData f).length≤1099511627776) :
    HSpec P [] 13 [.loc 0 0,.int .i64 at_,fv f,.int .i64 pol] (rbH rb) (resV (addR rb at_ f pol).1) (rbH (addR rb at_ f pol).2):=by
  cases hq:(moveR rb at_).xs.findIdx? (fun e=>sameK (rKey e) f) with
  | none=>exact addRN_spec rb at_ f pol hi hd hq
  | some k=>exact addRK_spec rb at_ f pol hi hd k hq
end Go.Proofs.Ytfaplilocljknaa.Fx
