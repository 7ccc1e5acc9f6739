import Derived.Test.YtfaplilocljknaaOvB
set_option linter.all false
namespace Go.Proofs.Ytfaplilocljknaa.Fx
open Go Go.Fw Go.Ov
theorem mkC_snoc (f t a:Int) (bs:List Int) (b:Int):mkC f t a (bs ++ [b]) = mkC f t a bs ++ [(a + bs.length,b,f,t,())]:=by
 rw [mkC_append];rfl
def cellsTo (l:List Pc) (i k:Nat):List Cl:=cells (l.take i) ++ mkC (pf (l.getD i (Ty.dflt pT))) (pt (l.getD i (Ty.dflt pT))) (pa (l.getD i (Ty.dflt pT))) ((bytesOf (pd (l.getD i (Ty.dflt pT)))).take k)
theorem cellsTo_succ (l:List Pc) (i k:Nat) (h:k < (pd (l.getD i (Ty.dflt pT))).length):cellsTo l i (k + 1) = cellsTo l i k ++ [(pa (l.getD i (Ty.dflt pT)) + k,bt (pd (l.getD i (Ty.dflt pT))) k,pf (l.getD i (Ty.dflt pT)),pt (l.getD i (Ty.dflt pT)),())]:=by
 have hk:k < (bytesOf (pd (l.getD i (Ty.dflt pT)))).length:=by rw [B_len];exact h
 unfold cellsTo
 rw [take_getD 0 hk,mkC_snoc,List.append_assoc,bt_B];have:((bytesOf (pd (l.getD i (Ty.dflt pT)))).take k).length = k:=by rw [List.length_take];omega
 rw [this];rfl
theorem cellsTo_all (l:List Pc) (i k:Nat) (hi:i < l.length) (h:(pd (l.getD i (Ty.dflt pT))).length≤k):cellsTo l i k = cells (l.take (i + 1)):=by
 unfold cellsTo
 have e:(bytesOf (pd (l.getD i (Ty.dflt pT)))).take k = bytesOf (pd (l.getD i (Ty.dflt pT))):=List.take_of_length_le (by rw [B_len];exact h);rw [e,take_getD (Ty.dflt pT) hi,cells_append,cells_cons,cells_nil,List.append_nil];rfl
theorem cellsTo_len (l:List Pc) (i k:Nat) (hi:i < l.length):(cellsTo l i k).length≤(cells l).length:=by
 have h1:(cellsTo l i k).length≤(cells (l.take (i + 1))).length:=by
  rw [← cellsTo_all l i (pd (l.getD i (Ty.dflt pT))).length hi (Nat.le_refl _)];unfold cellsTo
  rw [List.length_append,List.length_append,mkC_length,mkC_length,List.length_take,List.length_take,B_len];omega
 have h2:cells l = cells (l.take (i + 1)) ++ cells (l.drop (i + 1)):=by rw [← cells_append,List.take_append_drop]
 have h3:=congrArg List.length h2;rw [List.length_append] at h3;omega
theorem cellWrap {x:Pc} {k:Nat} (hx:InB x) (h:k < (pd x).length):IntKind.i64.wrap (pa x + (k:Int)) = pa x + k:=by
 have:=hx.1;have h2:pa x + ((pd x).length:Int)≤4611686018427387904:=hx.2;exact wrapId (by omega)
theorem f72_spec (l:List Pc) (hl:l.length≤1099511627776) (hx:∀ x∈l,InB x) (hc:(cells l).length≤1099511627776):PSpec P [] 72 [.list pT l] (.list cT (cells l)):=by
 refine pspec_intro hT Try.func72 (by decide) rfl rfl (by kernel_rfl) rfl ?_;refine Tri.seq (Tri.reg hT ?_);refine Tri.seq (Tri.reg hT ?_);refine Tri.seq ?_;refine Tri.seq (Tri.reg hT ?_);refine (Tri.block ?_);refine (Tri.loop (ι:=Nat) (fun i=>⟨51,0,4,[(0,.list pT l),(3,.own 3 (cells (l.take i)).length),(4,.int .i64 (i:Int))],[(3,.arr cT (cells (l.take i)))],[]⟩) (fun i=>i≤l.length) (fun i=>l.length - i) (0) ?_ ?_ ?_)
 ·
  exact Nat.zero_le _
 ·
  exact Le.trans (Le.own 3 cT rfl) (Le.weak rfl rfl rfl rfl ⟨(by first|rfl|exact iv1 (by (try simp only [decide_eq_true_eq,decide_eq_false_iff_not,toNat_cast] at *);omega)),(by first|rfl|exact iv1 (by (try simp only [decide_eq_true_eq,decide_eq_false_iff_not,toNat_cast] at *);omega)),(by first|rfl|exact iv1 (by (try simp only [decide_eq_true_eq,decide_eq_false_iff_not,toNat_cast] at *);omega)),trivial⟩ ⟨rfl,trivial⟩)
 ·
  intro i hi;refine Tri.seq ?_;refine Tri.seq (Tri.reg hT ?_);refine (Tri.cond ⟨fun h1=>?_,fun h1=>?_⟩)
  ·
   refine (Tri.skip ?_);refine Tri.seq (Tri.block ?_);refine Tri.seq (Tri.reg hT ?_);refine (Tri.block ?_);refine (Tri.loop (ι:=Nat) (fun k=>⟨51,0,4,[(0,.list pT l),(3,.own 3 (cellsTo l i k).length),(4,.int .i64 (i:Int)),(5,.int .i64 (k:Int))],[(3,.arr cT (cellsTo l i k))],[]⟩) (fun k=>k≤(pd (l.getD i (Ty.dflt pT))).length) (fun k=>(pd (l.getD i (Ty.dflt pT))).length - k) (0) ?_ ?_ ?_)
   ·
    exact Nat.zero_le _
   ·
    have e0:cells (l.take i) = cellsTo l i 0:=by simp [cellsTo,mkC]
    exact Le.weak rfl rfl rfl rfl ⟨(by first|rfl|exact iv1 (by (try simp only [decide_eq_true_eq,decide_eq_false_iff_not,toNat_cast] at *);omega)),congrArg (AV.own 3) (congrArg List.length (e0)),(by first|rfl|exact iv1 (by (try simp only [decide_eq_true_eq,decide_eq_false_iff_not,toNat_cast] at *);omega)),(by first|rfl|exact iv1 (by (try simp only [decide_eq_true_eq,decide_eq_false_iff_not,toNat_cast] at *);omega)),trivial⟩ ⟨congrArg (fun l=>some (Chunk.arr _ l)) (e0),trivial⟩
   ·
    intro k hk;refine Tri.seq ?_;refine Tri.seq (Tri.reg hT ?_);refine ⟨(by first|((try simp only [decide_eq_true_eq,decide_eq_false_iff_not,toNat_cast] at *);omega)|decide),?_⟩;refine (Tri.cond ⟨fun h2=>?_,fun h2=>?_⟩)
    ·
     refine (Tri.skip ?_);refine Tri.seq (Tri.block ?_);have h1':=i_lt h1;have h2':k < (pd (l.getD i (Ty.dflt pT))).length:=i_lt h2;have hlen:=(hx _ (getD_mem (d:=Ty.dflt pT) h1')).len;have hle:=cellsTo_len l i k h1';have e:=cellsTo_succ l i k h2';rw [← cellWrap (hx _ (getD_mem h1')) h2'] at e
     refine (Tri.drw hT hm 27 (by kernel_rfl) ?_);refine ⟨(by first|((try simp only [decide_eq_true_eq,decide_eq_false_iff_not,toNat_cast] at *);omega)|decide),?_⟩;refine ⟨(by first|((try simp only [decide_eq_true_eq,decide_eq_false_iff_not,toNat_cast] at *);omega)|decide),?_⟩;refine ⟨by have:=i_lt h2;rw [toNat_cast];show _∧(k:Int) < ((pd (l.getD i (Ty.dflt pT))).length:Int);omega,?_⟩;refine ⟨(by first|((try simp only [decide_eq_true_eq,decide_eq_false_iff_not,toNat_cast] at *);omega)|decide),?_⟩;refine ⟨(by first|((try simp only [decide_eq_true_eq,decide_eq_false_iff_not,toNat_cast] at *);omega)|decide),?_⟩;refine ⟨by kernel_rfl,?_⟩;refine ⟨(Nat.le_refl _),(by show _≤_∧(_ + 1) * _≤_∧_ + 1≤_;dsimp only;(try simp only [decide_eq_true_eq,decide_eq_false_iff_not,toNat_cast] at *);omega),?_⟩;refine (Tri.reg hT ?_);exact ⟨k + 1,h2',by (try simp only [decide_eq_true_eq,decide_eq_false_iff_not,toNat_cast] at *);omega,Le.weak rfl rfl rfl rfl ⟨(by first|rfl|exact iv1 (by (try simp only [decide_eq_true_eq,decide_eq_false_iff_not,toNat_cast] at *);omega)),congrArg (AV.own 3) (by rw [e];exact List.length_append.symm),(by first|rfl|exact iv1 (by (try simp only [decide_eq_true_eq,decide_eq_false_iff_not,toNat_cast] at *);omega)),(by first|rfl|exact iv1 (by (try simp only [decide_eq_true_eq,decide_eq_false_iff_not,toNat_cast] at *);omega)),trivial⟩ ⟨congrArg (fun l=>some (Chunk.arr _ l)) (by rw [e];first|rfl|(rw [List.take_length];rfl)),trivial⟩⟩
    ·
     refine Tri.exit ?_;refine (Tri.reg hT ?_);have h1':=i_lt h1;have e:=cellsTo_all l i k h1' (by have:¬ (k:Int) < ((pd (l.getD i (Ty.dflt pT))).length:Int):=of_decide_eq_false h2;omega)
     exact ⟨i + 1,h1',by (try simp only [decide_eq_true_eq,decide_eq_false_iff_not,toNat_cast] at *);omega,Le.weak rfl rfl rfl rfl ⟨(by first|rfl|exact iv1 (by (try simp only [decide_eq_true_eq,decide_eq_false_iff_not,toNat_cast] at *);omega)),congrArg (AV.own 3) (congrArg List.length (e)),(by first|rfl|exact iv1 (by (try simp only [decide_eq_true_eq,decide_eq_false_iff_not,toNat_cast] at *);omega)),trivial⟩ ⟨congrArg (fun l=>some (Chunk.arr _ l)) (e),trivial⟩⟩
  ·
   refine Tri.exit ?_;refine Tri.seq (Tri.reg hT ?_);refine Tri.le ⟨51,0,0,[(2,.list cT (cells l))],[],[]⟩ (Le.trans (Le.freeze 2 _ _ rfl rfl (by first|exact Nat.le_refl _|(rw [List.length_append,List.length_take];exact Nat.le_of_eq (by simp)))) (Le.weak rfl rfl rfl rfl ⟨congrArg (AV.list cT) ((List.take_length ..).trans (by rw [List.take_of_length_le (by have:=of_decide_eq_false h1;omega)])),trivial⟩ trivial)) ?_;refine Tri.ret ?_;exact ⟨rfl,trivial⟩
end Go.Proofs.Ytfaplilocljknaa.Fx
