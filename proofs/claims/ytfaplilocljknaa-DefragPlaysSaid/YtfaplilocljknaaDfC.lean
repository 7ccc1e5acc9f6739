import Derived.Test.YtfaplilocljknaaDfB
set_option linter.all false
namespace Go.Proofs.Ytfaplilocljknaa.Fx
open Go Go.Fw Go.Ov Go.Df
theorem f42_spec (d:En) (hv:Valid (ePcs d)) (hl:(ePcs d).length≤1048576) (id:Nat):CSpec P [] 42 [.loc id 0] (oneU id (enC d) none) (.int .i64 (lastE (ePcs d))):=by
  refine cspec_intro hT Try.func42 (by decide) rfl rfl (by kernel_rfl) rfl (fun _=>rfl) (fun _=>rfl) (fun _=>rfl) (fun _=>rfl) ?_ id
  have hw9:(ePcs d)≠[]→IntKind.i64.wrap (((ePcs d).length:Int) - 1) = (((ePcs d).length - 1:Nat):Int):=(fun h=>by have:=List.length_pos_iff.2 h;rw [wrapId (by omega)];omega)
  refine Tri.seq (Tri.reg hT ?_)
  refine Tri.seq ?_
  refine Tri.seq (Tri.reg hT ?_)
  refine (Tri.cond ⟨fun h1=>?_,fun h1=>?_⟩)
  · refine Tri.seq (Tri.reg hT ?_)
    refine Tri.ret ?_
    exact ⟨congrArg (AV.int .i64) (by have h1':=of_decide_eq_true h1;unfold lastE;rw [if_pos (List.eq_nil_of_length_eq_zero (by omega))]),rfl,trivial⟩
  · refine (Tri.skip ?_)
    refine Tri.seq (Tri.drw hT hm 13 (by kernel_rfl) ?_)
    refine ⟨by have h1':=of_decide_eq_false h1;rw [hw9 (fun e=>h1' (by rw [e];rfl))];omega,?_⟩
    refine ⟨by kernel_rfl,?_⟩
    refine Tri.seq (Tri.reg hT ?_)
    refine Tri.ret ?_
    have h1':=of_decide_eq_false h1;have hne:ePcs d≠[]:=(fun e=>h1' (by rw [e];rfl));exact ⟨congrArg (AV.int .i64) (by unfold lastE;rw [if_neg hne,hw9 hne,toNat_cast];exact wrapEnd (vInB hv (by have:=List.length_pos_iff.2 hne;omega))),rfl,trivial⟩
theorem f23_spec (f:Fg) (pol:Int) (hd:(fData f).length≤1099511627776):PSpec P [] 23 [fv f,.int .i64 pol] (.int .i64 (chkE f pol)):=by
  have hw:0≤fOff f→fOff f≤65535→IntKind.i64.wrap (fOff f + (fData f).length) = fOff f + (fData f).length:=fun h1 h2=>wrapId (by omega)
  have hneg:(if (if (if (if decide (fOff f < 0) = true then true else decide (fOff f > 65535)) = true then true else decide (IntKind.i64.wrap (fOff f + ((fData f).length:Int)) > 65535)) = true then true else decide (pol < 1)) = true then true else decide (pol > 5)) = false→
      ¬ (fOff f < 0∨fOff f > 65535∨fOff f + (fData f).length > 65535∨pol < 1∨pol > 5):=fun h1=>by
    simp only [Bool.if_true_left,Bool.decide_eq_true,Bool.or_eq_false_iff,decide_eq_false_iff_not] at h1
    rw [hw (by omega) (by omega)] at h1
    omega
  refine pspec_intro hT Try.func23 (by decide) rfl rfl (by kernel_rfl) rfl ?_
  refine Tri.seq (Tri.reg hT ?_)
  refine Tri.seq (Tri.block ?_)
  refine Tri.seq (Tri.reg hT ?_)
  refine ⟨_,[],trivial,rfl,rfl,fun h=>⟨rfl,rfl,rfl⟩,?_⟩
  refine ⟨_,[],trivial,rfl,rfl,fun h=>⟨h,rfl,rfl,rfl⟩,?_⟩
  refine ⟨_,[],trivial,rfl,rfl,fun h=>⟨h,rfl,rfl,rfl⟩,?_⟩
  refine ⟨⟨fun _=>trivial,fun hc=>(gn hc)⟩,?_⟩
  refine ⟨_,[],trivial,rfl,rfl,fun h=>⟨rfl,rfl,rfl⟩,?_⟩
  refine ⟨_,[],trivial,rfl,rfl,fun h=>⟨h,rfl,rfl,rfl⟩,?_⟩
  refine ⟨_,[],trivial,rfl,rfl,fun h=>⟨rfl,rfl,rfl⟩,?_⟩
  refine ⟨_,[],trivial,rfl,rfl,fun h=>⟨h,rfl,rfl,rfl⟩,?_⟩
  refine ⟨_,[],trivial,rfl,rfl,fun h=>⟨h,rfl,rfl,rfl⟩,?_⟩
  refine ⟨_,[],trivial,rfl,rfl,fun h=>⟨h,h,rfl,rfl,rfl⟩,?_⟩
  refine ⟨_,[],trivial,rfl,rfl,fun h=>⟨h,rfl,rfl,rfl⟩,?_⟩
  refine ⟨⟨fun _=>trivial,fun hc=>(gn hc)⟩,?_⟩
  refine ⟨_,[],trivial,rfl,rfl,fun h=>⟨rfl,rfl,rfl⟩,?_⟩
  refine ⟨_,[],trivial,rfl,rfl,fun h=>⟨h,rfl,rfl,rfl⟩,?_⟩
  refine ⟨⟨fun _=>trivial,fun hc=>(gn hc)⟩,?_⟩
  refine ⟨_,[],trivial,rfl,rfl,fun h=>⟨rfl,rfl,rfl⟩,?_⟩
  refine ⟨_,[],trivial,rfl,rfl,fun h=>⟨h,rfl,rfl,rfl⟩,?_⟩
  refine ⟨⟨fun _=>trivial,fun hc=>(gn hc)⟩,?_⟩
  refine (Tri.cond ⟨fun h1=>?_,fun h1=>?_⟩)
  · refine Tri.seq (Tri.reg hT ?_)
    refine Tri.ret ?_
    simp only [Bool.if_true_left,Bool.decide_eq_true,Bool.or_eq_true,decide_eq_true_eq] at h1;have h9:fOff f < 0∨fOff f > 65535∨fOff f + (fData f).length > 65535∨pol < 1∨pol > 5:=(by rcases h1 with (((h|h)|h)|h)|h;exact .inl h;exact .inr (.inl h);(by_cases h5:0≤fOff f∧fOff f≤65535;(rw [hw h5.1 h5.2] at h;omega);omega);omega;omega);exact ⟨congrArg (AV.int .i64) (by unfold chkE;rw [if_pos h9]),trivial⟩
  · refine Tri.seq (Tri.reg hT ?_)
    refine ⟨_,[],trivial,rfl,rfl,fun h=>⟨rfl,rfl,rfl⟩,?_⟩
    refine ⟨_,[],trivial,rfl,rfl,fun h=>⟨h,rfl,rfl,rfl⟩,?_⟩
    refine ⟨_,[],trivial,rfl,rfl,fun h=>⟨h,(by decide),rfl,rfl,rfl⟩,?_⟩
    refine ⟨_,[],trivial,rfl,rfl,fun h=>⟨h,rfl,rfl,rfl⟩,?_⟩
    refine ⟨⟨fun _=>trivial,fun hc=>(gn hc)⟩,?_⟩
    refine ⟨_,[],trivial,rfl,rfl,fun h=>⟨rfl,rfl,rfl⟩,?_⟩
    refine ⟨_,[],trivial,rfl,rfl,fun h=>⟨h,rfl,rfl,rfl⟩,?_⟩
    refine ⟨_,[],trivial,rfl,rfl,fun h=>⟨h,rfl,rfl,rfl⟩,?_⟩
    refine ⟨_,[],trivial,rfl,rfl,fun h=>⟨rfl,rfl,rfl⟩,?_⟩
    refine ⟨_,[],trivial,rfl,rfl,fun h=>⟨h,rfl,rfl,rfl⟩,?_⟩
    refine ⟨_,[],trivial,rfl,rfl,fun h=>⟨h,rfl,rfl,rfl⟩,?_⟩
    refine ⟨_,[],trivial,rfl,rfl,fun h=>⟨h,(by decide),rfl,rfl,rfl⟩,?_⟩
    refine ⟨_,[],trivial,rfl,rfl,fun h=>⟨h,rfl,rfl,rfl⟩,?_⟩
    refine ⟨_,[],trivial,rfl,rfl,fun h=>⟨h,⟨fun hc=>ga h hc,fun _=>trivial⟩,rfl,rfl,rfl⟩,?_⟩
    refine ⟨⟨fun _=>trivial,fun hc=>(gn hc)⟩,?_⟩
    refine (Tri.cond ⟨fun h2=>?_,fun h2=>?_⟩)
    · refine Tri.seq (Tri.reg hT ?_)
      refine Tri.ret ?_
      have h9:=hneg h1;simp only [Bool.if_true_left,Bool.if_false_right,Bool.decide_eq_true,Bool.or_eq_true,Bool.and_eq_true,decide_eq_true_eq] at h2;have h8:fData f = []∨(fOff f).tmod 8≠0∨(fMore f = true∧((fData f).length:Int).tmod 8≠0):=(by rcases h2 with (h|h)|h;exact .inl h;exact .inr (.inl h);exact .inr (.inr h));exact ⟨congrArg (AV.int .i64) (by unfold chkE;rw [if_neg h9,if_pos h8]),trivial⟩
    · refine (Tri.skip ?_)
      refine Tri.seq (Tri.reg hT ?_)
      refine Tri.ret ?_
      have h9:=hneg h1;simp only [Bool.if_true_left,Bool.if_false_right,Bool.decide_eq_true,Bool.or_eq_false_iff,Bool.and_eq_false_iff,decide_eq_false_iff_not] at h2;have h8:¬ (fData f = []∨(fOff f).tmod 8≠0∨(fMore f = true∧((fData f).length:Int).tmod 8≠0)):=(by rintro (h|h|⟨h,h'⟩);exact h2.1.1 h;exact h2.1.2 h;rcases h2.2 with q|q;(rw [h] at q;cases q);exact q h');exact ⟨congrArg (AV.int .i64) (by unfold chkE;rw [if_neg h9,if_neg h8]),trivial⟩
theorem f24_spec (d:En) (f:Fg) (hv:Valid (ePcs d)) (hl:(ePcs d).length≤1048576) (h1:0≤fOff f∧fOff f≤65535) (h2:(fData f).length≤65535) (id:Nat) :
    CSpec P [] 24 [.loc id 0,fv f] (oneU id (enC d) none) (.bool (fitsB d f)):=by
  have hw:IntKind.i64.wrap (fOff f + (fData f).length) = fOff f + (fData f).length:=wrapId (by omega)
  have hpos:(if decide (eEnd d≥0) = true then (if decide (IntKind.i64.wrap (fOff f + ((fData f).length:Int)) > eEnd d) = true then true else (if (!fMore f) = true then decide (IntKind.i64.wrap (fOff f + ((fData f).length:Int))≠eEnd d) else false)) else false) = true→
      eEnd d≥0∧(fOff f + (fData f).length > eEnd d∨(fMore f = false∧fOff f + (fData f).length≠eEnd d)):=fun h=>by
    rw [hw] at h
    simpa only [Bool.if_true_left,Bool.if_false_right,Bool.decide_eq_true,Bool.and_eq_true,Bool.or_eq_true,decide_eq_true_eq,Bool.not_eq_true'] using h
  have hneg:(if decide (eEnd d≥0) = true then (if decide (IntKind.i64.wrap (fOff f + ((fData f).length:Int)) > eEnd d) = true then true else (if (!fMore f) = true then decide (IntKind.i64.wrap (fOff f + ((fData f).length:Int))≠eEnd d) else false)) else false) = false→
      ¬ (eEnd d≥0∧(fOff f + (fData f).length > eEnd d∨(fMore f = false∧fOff f + (fData f).length≠eEnd d))):=fun h q=>by
    rw [hw] at h
    have:(if decide (eEnd d≥0) = true then (if decide (fOff f + ((fData f).length:Int) > eEnd d) = true then true else (if (!fMore f) = true then decide (fOff f + ((fData f).length:Int)≠eEnd d) else false)) else false) = true:=by
      simpa only [Bool.if_true_left,Bool.if_false_right,Bool.decide_eq_true,Bool.and_eq_true,Bool.or_eq_true,decide_eq_true_eq,Bool.not_eq_true'] using q
    rw [this] at h;cases h
  refine cspec_intro hT Try.func24 (by decide) rfl rfl (by kernel_rfl) rfl (fun _=>rfl) (fun _=>rfl) (fun _=>rfl) (fun _=>rfl) ?_ id
  refine Tri.seq (Tri.reg hT ?_)
  refine Tri.seq (Tri.reg hT ?_)
  refine Tri.seq ?_
  refine Tri.seq (Tri.reg hT ?_)
  refine ⟨_,[],trivial,rfl,rfl,fun h=>⟨rfl,rfl,rfl⟩,?_⟩
  refine ⟨_,[],trivial,rfl,rfl,fun h=>⟨rfl,rfl,rfl⟩,?_⟩
  refine ⟨_,[],trivial,rfl,rfl,fun h=>⟨h,rfl,rfl,rfl⟩,?_⟩
  refine ⟨_,[],trivial,rfl,rfl,fun h=>⟨h,rfl,rfl,rfl⟩,?_⟩
  refine ⟨_,[],trivial,rfl,rfl,fun h=>⟨h,rfl,rfl,rfl⟩,?_⟩
  refine ⟨_,[],trivial,rfl,rfl,fun h=>⟨h,h,rfl,rfl,rfl⟩,?_⟩
  refine ⟨_,[],trivial,rfl,rfl,fun h=>⟨h,rfl,rfl,rfl⟩,?_⟩
  refine ⟨_,[],trivial,rfl,rfl,fun h=>⟨rfl,rfl,rfl⟩,?_⟩
  refine ⟨_,[],trivial,rfl,rfl,fun h=>⟨h,rfl,rfl,rfl⟩,?_⟩
  refine ⟨_,[],trivial,rfl,rfl,fun h=>⟨h,rfl,rfl,rfl⟩,?_⟩
  refine ⟨_,[],trivial,rfl,rfl,fun h=>⟨h,rfl,rfl,rfl⟩,?_⟩
  refine ⟨_,[],trivial,rfl,rfl,fun h=>⟨rfl,rfl,rfl⟩,?_⟩
  refine ⟨_,[],trivial,rfl,rfl,fun h=>⟨rfl,rfl,rfl⟩,?_⟩
  refine ⟨_,[],trivial,rfl,rfl,fun h=>⟨h,rfl,rfl,rfl⟩,?_⟩
  refine ⟨_,[],trivial,rfl,rfl,fun h=>⟨h,rfl,rfl,rfl⟩,?_⟩
  refine ⟨_,[],trivial,rfl,rfl,fun h=>⟨h,rfl,rfl,rfl⟩,?_⟩
  refine ⟨_,[],trivial,rfl,rfl,fun h=>⟨h,h,rfl,rfl,rfl⟩,?_⟩
  refine ⟨_,[],trivial,rfl,rfl,fun h=>⟨h,⟨fun hc=>ga h hc,fun _=>trivial⟩,rfl,rfl,rfl⟩,?_⟩
  refine ⟨_,[],trivial,rfl,rfl,fun h=>⟨h,⟨fun _=>trivial,fun hc=>ga h (gn hc)⟩,rfl,rfl,rfl⟩,?_⟩
  refine ⟨⟨fun hc=>hc,fun _=>trivial⟩,?_⟩
  refine (Tri.cond ⟨fun h1=>?_,fun h1=>?_⟩)
  · refine Tri.seq (Tri.reg hT ?_)
    refine Tri.ret ?_
    have h1':=hpos h1;exact ⟨congrArg AV.bool (by unfold fitsB;rw [if_pos h1']),rfl,trivial⟩
  · refine (Tri.skip ?_)
    refine Tri.seq (Tri.reg hT ?_)
    refine ⟨_,[],trivial,rfl,rfl,fun h=>⟨rfl,rfl,rfl⟩,?_⟩
    refine ⟨_,oneU 0 (enC d) none,(by exact ⟨rfl,trivial⟩),rfl,(by rfl),fun h=>⟨h,(.inr (.inl ⟨_,_,(by exact ⟨rfl,trivial⟩),f42_spec d hv hl 0,(by rfl),rfl,rfl,rfl⟩))⟩,?_⟩
    refine ⟨_,[],trivial,rfl,rfl,fun h=>⟨rfl,rfl,rfl⟩,?_⟩
    refine ⟨_,[],trivial,rfl,rfl,fun h=>⟨h,h,rfl,rfl,rfl⟩,?_⟩
    refine ⟨⟨fun _=>trivial,fun hc=>(gn hc)⟩,?_⟩
    refine Tri.ret ?_
    have h1':=hneg h1;exact ⟨congrArg AV.bool (by unfold fitsB;rw [if_neg h1'];simp only [Bool.if_true_left,Bool.decide_eq_true];rw [hw]),rfl,trivial⟩
theorem f14_spec (tb:Tb) (at_:Int) (L:DL) (clock:Nat) (hf:Fits L clock tb.l) (hn:(tb.l.map (·.1)).Nodup) (hl:tb.l.length≤1048576) (h1:0≤tb.time∧tb.time≤1099511627776) (h2:1≤tb.timeout∧tb.timeout≤1099511627776) :
    HSpec P [] 14 [.loc 0 0,.int .i64 at_] (tbH tb L clock) (.int .i64 (moveN tb (min (max at_ tb.time) 1099511627776))) (tbH (moveT tb (min (max at_ tb.time) 1099511627776)) (L.filter fun E=>!valB (expB tb (min (max at_ tb.time) 1099511627776)) E) clock):=by
  refine fspec_intro hT (tbH tb L clock) (tbH (moveT tb (min (max at_ tb.time) 1099511627776)) (L.filter fun E=>!valB (expB tb (min (max at_ tb.time) 1099511627776)) E) clock) 2 2 Try.func14 (by decide) rfl rfl (by kernel_rfl) rfl rfl ?_
  refine Tri.seq (Tri.reg hT ?_)
  refine Tri.seq ?_
  refine Tri.seq (Tri.reg hT ?_)
  refine (Tri.cond ⟨fun h1=>?_,fun h1=>?_⟩)
  · exact absurd h1 (by decide)
  · refine (Tri.skip ?_)
    refine Tri.seq (Tri.regM hT [8] ?_)
    refine ⟨_,Le.refl _,.inl (.inr (OpTri.hcall 1 rfl rfl rfl (f22_spec tb _ L clock hf hn hl (by omega) h2) trivial ⟨rfl,rfl,trivial⟩ rfl ?_))⟩
    refine Tri.ret ?_
    exact ⟨rfl,rfl,rfl,trivial⟩
end Go.Proofs.Ytfaplilocljknaa.Fx
