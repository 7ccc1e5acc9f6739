import Derived.Test.YtfaplilocljknaaDfL
import Derived.Test.YtfaplilocljknaaDfE
set_option linter.all false
namespace Go.Proofs.Ytfaplilocljknaa.Fx
open Go Go.Fw Go.Ov Go.Df
abbrev endF (f:Fg):Int:=fOff f + (fData f).length
def fitsR (e:Re) (f:Fg):Bool:=if rEnd e > 0∧(endF f > rEnd e∨(fMore f = false∧endF f≠rEnd e)) then false else fMore f || (rPcs e).all (fun p=>decide (endP p≤endF f))
theorem fits_t {e:Re} {f:Fg} (h:(if decide (rEnd e > 0) = true then if decide (endF f > rEnd e) = true then true else if (!fMore f) = true then decide (endF f≠rEnd e) else false else false) = true):fitsR e f = false:=by
  unfold fitsR
  rw [if_pos]
  rcases and_t h with ⟨h1,h2⟩
  refine ⟨of_decide_eq_true h1,?_⟩
  rcases or_t h2 with h2|h2
  · exact .inl (of_decide_eq_true h2)
  · obtain ⟨h3,h4⟩:=and_t h2
    exact .inr ⟨by simpa using h3,of_decide_eq_true h4⟩
theorem fits_f {e:Re} {f:Fg} (h:(if decide (rEnd e > 0) = true then if decide (endF f > rEnd e) = true then true else if (!fMore f) = true then decide (endF f≠rEnd e) else false else false) = false):fitsR e f = (fMore f || (rPcs e).all (fun p=>decide (endP p≤endF f))):=by
  unfold fitsR
  rw [if_neg]
  rintro ⟨h1,h2⟩
  rcases and_f h with h3|h3
  · exact of_decide_eq_false h3 h1
  · obtain ⟨h4,h5⟩:=or_f h3
    rcases h2 with h2|⟨h2,h6⟩
    · exact of_decide_eq_false h4 h2
    · rcases and_f h5 with h7|h7
      · rw [h2] at h7;cases h7
      · exact of_decide_eq_false h7 h6
theorem f30_spec (e:Re) (f:Fg) (hv:Valid (rPcs e)) (hl:(rPcs e).length≤1048576) (ho1:0≤fOff f∧fOff f≤65535) (hd2:(fData f).length≤1099511627776):PSpec P [] 30 [.agg (rC e),fv f] (.bool (fitsR e f)):=by
  have hw:IntKind.i64.wrap (fOff f + (fData f).length) = endF f:=wrapId (by omega)
  refine pspec_intro hT Try.func30 (by decide) rfl rfl (by kernel_rfl) rfl ?_
  have hib:∀ j,j < (rPcs e).length→IntKind.i64.wrap (pa ((rPcs e).getD j (Ty.dflt pT)) + (pd ((rPcs e).getD j (Ty.dflt pT))).length) = endP ((rPcs e).getD j (Ty.dflt pT)):=fun j hj=>wrapEnd (valid_inB hv _ (getD_mem hj))
  refine Tri.seq (Tri.reg hT ?_)
  refine Tri.seq (Tri.reg hT ?_)
  refine Tri.seq ?_
  refine Tri.seq (Tri.reg hT ?_)
  refine ⟨_,[],trivial,rfl,rfl,fun h=>⟨rfl,rfl,rfl⟩,?_⟩
  refine ⟨_,[],trivial,rfl,rfl,fun h=>⟨rfl,rfl,rfl⟩,?_⟩
  refine ⟨_,[],trivial,rfl,rfl,fun h=>⟨h,rfl,rfl,rfl⟩,?_⟩
  refine ⟨_,[],trivial,rfl,rfl,fun h=>⟨h,h,rfl,rfl,rfl⟩,?_⟩
  refine ⟨_,[],trivial,rfl,rfl,fun h=>⟨h,rfl,rfl,rfl⟩,?_⟩
  refine ⟨_,[],trivial,rfl,rfl,fun h=>⟨rfl,rfl,rfl⟩,?_⟩
  refine ⟨_,[],trivial,rfl,rfl,fun h=>⟨h,rfl,rfl,rfl⟩,?_⟩
  refine ⟨_,[],trivial,rfl,rfl,fun h=>⟨h,rfl,rfl,rfl⟩,?_⟩
  refine ⟨_,[],trivial,rfl,rfl,fun h=>⟨h,rfl,rfl,rfl⟩,?_⟩
  refine ⟨_,[],trivial,rfl,rfl,fun h=>⟨rfl,rfl,rfl⟩,?_⟩
  refine ⟨_,[],trivial,rfl,rfl,fun h=>⟨rfl,rfl,rfl⟩,?_⟩
  refine ⟨_,[],trivial,rfl,rfl,fun h=>⟨h,rfl,rfl,rfl⟩,?_⟩
  refine ⟨_,[],trivial,rfl,rfl,fun h=>⟨h,h,rfl,rfl,rfl⟩,?_⟩
  refine ⟨_,[],trivial,rfl,rfl,fun h=>⟨h,⟨fun hc=>ga h hc,fun _=>trivial⟩,rfl,rfl,rfl⟩,?_⟩
  refine ⟨_,[],trivial,rfl,rfl,fun h=>⟨h,⟨fun _=>trivial,fun hc=>ga h (gn hc)⟩,rfl,rfl,rfl⟩,?_⟩
  refine ⟨⟨fun hc=>hc,fun _=>trivial⟩,?_⟩
  refine (Tri.cond ⟨fun h1=>?_,fun h1=>?_⟩)
  · refine Tri.seq (Tri.reg hT ?_)
    refine Tri.ret ?_
    rw [hw] at h1;exact ⟨congrArg AV.bool (fits_t h1).symm,trivial⟩
  · refine (Tri.skip ?_)
    refine Tri.seq ?_
    rw [hw] at h1;have hff:=fits_f h1
    refine Tri.seq (Tri.reg hT ?_)
    refine (Tri.block ?_)
    refine (Tri.loop (ι:=Nat) (fun i=>⟨61,0,20,[(2,.loc 0 0),(3,.loc 1 0),(5,.int .i64 (endF f)),(6,.int .i64 (i:Int))],[(0,.box (rC e)),(1,.box (fgC f))],[]⟩) (fun i=>i≤(rPcs e).length∧(fMore f = false→∀ j,j < i→endP ((rPcs e).getD j (Ty.dflt pT))≤endF f)) (fun i=>(rPcs e).length - i) (0) ?_ ?_ ?_)
    · exact ⟨Nat.zero_le _,fun _ j hj=>absurd hj (by omega)⟩
    · exact Le.weak rfl rfl rfl rfl ⟨rfl,rfl,congrArg (AV.int .i64) hw,rfl,trivial⟩ ⟨rfl,rfl,trivial⟩
    · intro i hi
      refine Tri.seq ?_
      refine Tri.seq (Tri.reg hT ?_)
      refine (Tri.cond ⟨fun h2=>?_,fun h2=>?_⟩)
      · refine (Tri.skip ?_)
        refine Tri.seq (Tri.block ?_)
        refine Tri.seq (Tri.drw hT hm 21 (by kernel_rfl) ?_)
        refine ⟨_,[],trivial,rfl,rfl,fun h=>⟨rfl,rfl,rfl⟩,?_⟩
        refine ⟨_,[],trivial,rfl,rfl,fun h=>⟨h,rfl,rfl,rfl⟩,?_⟩
        refine ⟨_,[],trivial,rfl,rfl,fun h=>⟨rfl,rfl,rfl⟩,?_⟩
        refine ⟨_,[],trivial,rfl,rfl,fun h=>⟨h,h,(by first|((try simp only [decide_eq_true_eq,decide_eq_false_iff_not,toNat_cast] at *);omega)|decide),rfl,rfl,rfl⟩,?_⟩
        refine ⟨_,[],trivial,rfl,rfl,fun h=>⟨h,rfl,rfl,rfl⟩,?_⟩
        refine ⟨_,[],trivial,rfl,rfl,fun h=>⟨h,rfl,rfl,rfl⟩,?_⟩
        refine ⟨_,[],trivial,rfl,rfl,fun h=>⟨rfl,rfl,rfl⟩,?_⟩
        refine ⟨_,[],trivial,rfl,rfl,fun h=>⟨h,rfl,rfl,rfl⟩,?_⟩
        refine ⟨_,[],trivial,rfl,rfl,fun h=>⟨rfl,rfl,rfl⟩,?_⟩
        refine ⟨_,[],trivial,rfl,rfl,fun h=>⟨h,h,(by first|((try simp only [decide_eq_true_eq,decide_eq_false_iff_not,toNat_cast] at *);omega)|decide),rfl,rfl,rfl⟩,?_⟩
        refine ⟨_,[],trivial,rfl,rfl,fun h=>⟨h,rfl,rfl,rfl⟩,?_⟩
        refine ⟨_,[],trivial,rfl,rfl,fun h=>⟨h,rfl,rfl,rfl⟩,?_⟩
        refine ⟨_,[],trivial,rfl,rfl,fun h=>⟨h,rfl,rfl,rfl⟩,?_⟩
        refine ⟨_,[],trivial,rfl,rfl,fun h=>⟨h,h,rfl,rfl,rfl⟩,?_⟩
        refine ⟨_,[],trivial,rfl,rfl,fun h=>⟨rfl,rfl,rfl⟩,?_⟩
        refine ⟨_,[],trivial,rfl,rfl,fun h=>⟨h,h,rfl,rfl,rfl⟩,?_⟩
        refine ⟨⟨fun hc=>hc,fun _=>trivial⟩,?_⟩
        refine ⟨by kernel_rfl,?_⟩
        refine (Tri.cond ⟨fun h3=>?_,fun h3=>?_⟩)
        · refine Tri.seq (Tri.reg hT ?_)
          refine Tri.ret ?_
          have h2':(i:Int) < ((rPcs e).length:Int):=of_decide_eq_true h2;obtain ⟨h4,h5⟩:=and_t h3;have h4':fMore f = false:=(by simpa using h4);have h5':decide (IntKind.i64.wrap (pa ((rPcs e).getD i (Ty.dflt pT)) + (pd ((rPcs e).getD i (Ty.dflt pT))).length) > endF f) = true:=h5;rw [hib i (by omega)] at h5';have h6:=of_decide_eq_true h5';have hall:(rPcs e).all (fun p=>decide (endP p≤endF f)) = false:=(by rw [Bool.eq_false_iff];intro q;rw [List.all_eq_true] at q;have:=of_decide_eq_true (q _ (getD_mem (d:=Ty.dflt pT) (show i < (rPcs e).length by omega)));omega);exact ⟨congrArg AV.bool (by rw [hff,h4',hall];rfl),trivial⟩
        · refine (Tri.skip ?_)
          refine (Tri.reg hT ?_)
          have h2':(i:Int) < ((rPcs e).length:Int):=of_decide_eq_true h2;exact ⟨i + 1,⟨by omega,fun hmf j hj=>by rcases Nat.lt_succ_iff_lt_or_eq.1 hj with q|q;exact hi.2 hmf j q;rw [q];rcases and_f h3 with h4|h4;rw [hmf] at h4;cases h4;have h5':decide (IntKind.i64.wrap (pa ((rPcs e).getD i (Ty.dflt pT)) + (pd ((rPcs e).getD i (Ty.dflt pT))).length) > endF f) = false:=h4;rw [hib i (by omega)] at h5';have:=of_decide_eq_false h5';omega⟩,by omega,Le.weak rfl rfl rfl rfl ⟨rfl,rfl,rfl,iv1 (by omega),trivial⟩ ⟨rfl,rfl,trivial⟩⟩
      · refine Tri.exit ?_
        refine Tri.seq (Tri.reg hT ?_)
        refine Tri.ret ?_
        have h2':¬ (i:Int) < ((rPcs e).length:Int):=of_decide_eq_false h2;have hall:(fMore f || (rPcs e).all (fun p=>decide (endP p≤endF f))) = true:=(by cases hmf:fMore f with|true=>rfl|false=>exact List.all_eq_true.2 (fun p hp=>by obtain ⟨j,hj,rfl⟩:=List.getElem_of_mem hp;have:=hi.2 hmf j (by omega);rw [List.getD_eq_getElem?_getD,List.getElem?_eq_getElem hj] at this;exact decide_eq_true this));exact ⟨congrArg AV.bool (hff.trans hall).symm,trivial⟩
end Go.Proofs.Ytfaplilocljknaa.Fx
