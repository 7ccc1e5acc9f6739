import Derived.Test.YtfaplilocljknaaOvR2
import Derived.Test.YtfaplilocljknaaGOv2
set_option linter.all false
namespace Go.Proofs.Ytfaplilocljknaa.Fx
open Go Go.Fw Go.Ov
theorem f51_spec (l:List Pc) (a:Int) (hv:Valid l) (hl:l.length≤1099511627776) (hc:(cells l).length≤1099511627776) (ht:(takeF l a).1.length≤4294967296) :
  PSpec P [] 51 [.list pT l,.int .i64 a] (.tup [.str (takeF l a).1,.list pT (cutL l (takeF l a).2)]):=by
 have hx:=valid_inB hv;have tk:=takeOk hv a;refine pspec_intro hT Try.func51 (by decide) rfl rfl (by kernel_rfl) rfl ?_;refine Tri.seq (Tri.reg hT ?_);refine Tri.seq (Tri.reg hT ?_);refine .inl (.inl ⟨_,fun _=>rfl,f72_spec l hl hx hc,?_⟩);refine Tri.seq (Tri.reg hT ?_);refine Tri.seq ?_;refine Tri.seq (Tri.reg hT ?_);refine (Tri.block ?_);refine (Tri.loop (ι:=Nat) (fun k=>⟨42,0,50,[(0,.list pT l),(1,.int .i64 a),(6,.list cT (cells l)),(7,.own 8 (intsOf ((takeF l a).1.take k)).length),(8,.int .i64 (a + k))],[(8,.arr (.int .u8) (intsOf ((takeF l a).1.take k)))],[]⟩) (fun k=>k≤(takeF l a).1.length) (fun k=>(takeF l a).1.length - k) (0) ?_ ?_ ?_)
 ·
  exact Nat.zero_le _
 ·
  exact Le.trans (Le.own 7 (.int .u8) rfl) (Le.weak rfl rfl rfl rfl ⟨(by first|rfl|exact iv1 (by (try simp only [decide_eq_true_eq,decide_eq_false_iff_not,toNat_cast] at *);omega)),(by first|rfl|exact iv1 (by (try simp only [decide_eq_true_eq,decide_eq_false_iff_not,toNat_cast] at *);omega)),(by first|rfl|exact iv1 (by (try simp only [decide_eq_true_eq,decide_eq_false_iff_not,toNat_cast] at *);omega)),(by first|rfl|exact iv1 (by (try simp only [decide_eq_true_eq,decide_eq_false_iff_not,toNat_cast] at *);omega)),congrArg (AV.int .i64) (by show a = a + 0;omega),trivial⟩ ⟨rfl,trivial⟩)
 ·
  intro i hi;refine Tri.seq ?_;refine Tri.seq (Tri.reg hT ?_);refine .inl (.inl ⟨_,fun _=>rfl,f73_spec _ _ (by omega),?_⟩);refine (Tri.cond ⟨fun h1=>?_,fun h1=>?_⟩)
  ·
   refine (Tri.skip ?_);refine Tri.seq (Tri.block ?_);have hk:=tk.lt hi (of_decide_eq_true h1);have ta:=tk.at_ hv hk;have e:=ta.2.2.2;have hil:(intsOf ((takeF l a).1.take i)).length = i:=(by rw [intsOf_len,List.length_take];omega)
   refine (Tri.reg hT ?_);refine .inl (.inl ⟨_,fun _=>rfl,f73_spec _ _ (by omega),?_⟩);refine ⟨⟨ta.1,ta.2.1⟩,?_⟩;refine ⟨(Nat.le_refl _),(by show _≤_∧(_ + 1) * _≤_∧_ + 1≤_;dsimp only;(try simp only [decide_eq_true_eq,decide_eq_false_iff_not,toNat_cast] at *);omega),?_⟩;refine (Tri.reg hT ?_);exact ⟨i + 1,hk,by (try simp only [decide_eq_true_eq,decide_eq_false_iff_not,toNat_cast] at *);omega,Le.weak rfl rfl rfl rfl ⟨(by first|rfl|exact iv1 (by (try simp only [decide_eq_true_eq,decide_eq_false_iff_not,toNat_cast] at *);omega)),(by first|rfl|exact iv1 (by (try simp only [decide_eq_true_eq,decide_eq_false_iff_not,toNat_cast] at *);omega)),(by first|rfl|exact iv1 (by (try simp only [decide_eq_true_eq,decide_eq_false_iff_not,toNat_cast] at *);omega)),congrArg (AV.own 8) (by rw [e];exact List.length_append.symm),congrArg (AV.int .i64) (by rw [wrapId (by omega)];show a + (i:Int) + 1 = a + ((i:Int) + 1);omega),trivial⟩ ⟨congrArg (fun l=>some (Chunk.arr _ l)) (by rw [e];first|rfl|(rw [List.take_length];rfl)),trivial⟩⟩
  ·
   refine Tri.exit ?_;refine Tri.seq ?_;have hk:=tk.eq hv hi (of_decide_eq_false h1);subst hk;have eB:(takeF l a).1.take (takeF l a).1.length = (takeF l a).1:=List.take_length;rw [eB]
   refine Tri.seq (Tri.reg hT ?_);refine (Tri.cond ⟨fun h2=>?_,fun h2=>?_⟩)
   ·
    refine Tri.seq (Tri.reg hT ?_);refine .inl (.inl ⟨_,fun _=>rfl,f77_spec l _ hl hx,?_⟩);refine Tri.ret ?_;have h0:(takeF l a).1 = []:=(by have:=of_decide_eq_true h2;rw [intsOf_len] at this;exact List.length_eq_zero_iff.1 (by omega));have h3:=tk.end_;rw [h0] at h3;exact ⟨tupSL h0.symm (congrArg (cutL l) (by rw [h3];simp)),trivial⟩
   ·
    refine (Tri.skip ?_);refine Tri.seq (Tri.drw hT hm 9 (by kernel_rfl) ?_);refine ⟨(Nat.le_refl _),?_⟩;refine .inl ⟨_,fun _=>rfl,f77_spec l _ hl hx,?_⟩;refine ⟨by kernel_rfl,?_⟩;refine Tri.ret ?_;have h3:=tk.end_;have h0:(takeF l a).1.length≠0:=(by have:=of_decide_eq_false h2;rw [intsOf_len] at this;omega);have ta:=tk.at_ hv (k:=0) (by omega);exact ⟨tupSL (by rw [List.take_length];exact bytes_back _) (congrArg (cutL l) (by rw [h3,intsOf_len,wrapId (by have:=ta.2.2.1;omega)])),trivial⟩
end Go.Proofs.Ytfaplilocljknaa.Fx
