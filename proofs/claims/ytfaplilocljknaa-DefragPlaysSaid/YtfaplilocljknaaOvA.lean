import Derived.Test.YtfaplilocljknaaFxT
import Derived.Test.YtfaplilocljknaaGOv1
set_option linter.all false
namespace Go.Proofs.Ytfaplilocljknaa.Fx
open Go Go.Fw Go.Ov
theorem f44_spec (x:Pc) (h:InB x):PSpec P [] 44 [pv x] (.int .i64 (endP x)):=by
 refine pspec_intro hT Try.func44 (by decide) rfl rfl (by kernel_rfl) rfl ?_;refine Tri.seq (Tri.reg hT ?_);refine Tri.seq (Tri.reg hT ?_);refine Tri.ret ?_;exact ⟨congrArg (AV.int .i64) (wrapEnd h),trivial⟩
theorem f46_spec (x:Pc) (a b:Int) (h:InB x) (h1:pa x≤a) (h2:a≤b) (h3:b≤endP x):PSpec P [] 46 [pv x,.int .i64 a,.int .i64 b] (pv (partP x a b)):=by
 have hb:=h.1;have hb2:=h.2;unfold endP at hb2 h3
 have w1:IntKind.i64.wrap (a - pa x) = a - pa x:=wrapId (by omega);have w2:IntKind.i64.wrap (b - pa x) = b - pa x:=wrapId (by omega);refine pspec_intro hT Try.func46 (by decide) rfl rfl (by kernel_rfl) rfl ?_;refine Tri.seq (Tri.reg hT ?_);refine Tri.seq (Tri.reg hT ?_);refine ⟨by rw [w1,w2];show _∧_∧_≤((pd x).length:Int);omega,?_⟩;refine Tri.seq (Tri.reg hT ?_);refine Tri.seq (Tri.reg hT ?_);refine Tri.ret ?_;exact ⟨by rw [w1,w2];rfl,trivial⟩
theorem f47_spec (s t:List UInt8) (h:s.length = t.length) (hb:s.length < 4611686018427387904):PSpec P [] 47 [.str s,.str t] (.int .i64 (differN s t s.length:Nat)):=by
 refine pspec_intro hT Try.func47 (by decide) rfl rfl (by kernel_rfl) rfl ?_;refine Tri.seq (Tri.reg hT ?_);refine Tri.seq (Tri.reg hT ?_);refine Tri.seq ?_;refine Tri.seq (Tri.reg hT ?_);refine (Tri.block ?_);refine (Tri.loop (ι:=Nat) (fun i=>⟨23,0,0,[(0,.str s),(1,.str t),(5,.int .i64 (differN s t i:Nat)),(8,.int .i64 s.length),(9,.int .i64 (i:Int))],[],[]⟩) (fun i=>i≤s.length) (fun i=>s.length - i) (0) ?_ ?_ ?_)
 ·
  exact Nat.zero_le _
 ·
  exact Le.weak rfl rfl rfl rfl ⟨rfl,rfl,rfl,rfl,rfl,trivial⟩ trivial
 ·
  intro i hi;refine Tri.seq (Tri.reg hT ?_);refine Tri.seq (Tri.cond ⟨fun h1=>?_,fun h1=>?_⟩)
  ·
   refine (Tri.skip ?_);refine Tri.seq (Tri.block ?_);refine Tri.seq (Tri.reg hT ?_);refine Tri.seq (Tri.drw hT hm 7 (by kernel_rfl) ?_);refine ⟨by have:=of_decide_eq_true h1;omega,?_⟩;refine ⟨by have:=of_decide_eq_true h1;omega,?_⟩;refine ⟨by kernel_rfl,?_⟩;refine (Tri.cond ⟨fun h2=>?_,fun h2=>?_⟩)
   ·
    refine (Tri.reg hT ?_);refine (Tri.reg hT ?_);have h1':=of_decide_eq_true h1;have h2':=h2;rw [toNat_cast] at h2';have hc:differN s t i≤i:=(by have:=List.countP_le_length (p:=fun k=>decide (((s.getD k 0).toNat:Int)≠((t.getD k 0).toNat:Int))) (l:=List.range i);simpa [differN] using this);exact ⟨i + 1,by omega,by omega,Le.weak rfl rfl rfl rfl ⟨rfl,rfl,congrArg (AV.int .i64) (by rw [differ_succ,h2'];first|(rw [wrapId (by omega)];rfl)|rfl),rfl,iv1 (by omega),trivial⟩ trivial⟩
   ·
    refine (Tri.skip ?_);refine (Tri.reg hT ?_);have h1':=of_decide_eq_true h1;have h2':=h2;rw [toNat_cast] at h2';have hc:differN s t i≤i:=(by have:=List.countP_le_length (p:=fun k=>decide (((s.getD k 0).toNat:Int)≠((t.getD k 0).toNat:Int))) (l:=List.range i);simpa [differN] using this);exact ⟨i + 1,by omega,by omega,Le.weak rfl rfl rfl rfl ⟨rfl,rfl,congrArg (AV.int .i64) (by rw [differ_succ,h2'];first|(rw [wrapId (by omega)];rfl)|rfl),rfl,iv1 (by omega),trivial⟩ trivial⟩
  ·
   refine Tri.exit ?_;refine Tri.seq (Tri.reg hT ?_);refine Tri.ret ?_;have:=of_decide_eq_false h1;obtain rfl:i = s.length:=(by omega);exact ⟨rfl,trivial⟩
theorem f45_spec (xs:List Pc) (p:Pc) (hx:∀ x∈xs,InB x) (hp:InB p) (hl:xs.length≤1099511627776) (id:Nat) :
  FSpec P [] 45 [.own id xs.length,pv p] (oneC id (.arr pT xs)) (.own id (joinL xs p).length) (oneC id (.arr pT (joinL xs p))):=by
 have hw:∀ h:decide ((xs.length:Int) > 0) = true,IntKind.i64.wrap ((xs.length:Int) - 1) = ((xs.length - 1:Nat):Int):=fun h=>by
  have:=of_decide_eq_true h;rw [wrapId (by omega)];omega
 have hlt:∀ h:decide ((xs.length:Int) > 0) = true,xs.length - 1 < xs.length:=fun h=>by have:=of_decide_eq_true h;omega
 refine fspec_own hT Try.func45 (by decide) rfl rfl (by kernel_rfl) rfl (fun _=>rfl) ?_ id;refine Tri.seq (Tri.reg hT ?_);refine Tri.seq ?_;refine Tri.seq (Tri.reg hT ?_);refine Tri.seq (Tri.drw hT hm 34 (by kernel_rfl) ?_);refine ⟨_,[],trivial,rfl,rfl,fun h=>⟨rfl,rfl,rfl⟩,?_⟩;refine ⟨_,[],trivial,rfl,rfl,fun h=>⟨rfl,rfl,rfl⟩,?_⟩;refine ⟨_,[],trivial,rfl,rfl,fun h=>⟨h,rfl,rfl,rfl⟩,?_⟩;refine ⟨_,[],trivial,rfl,rfl,fun h=>⟨h,h,by rw [hw h];have:=hlt h;omega,rfl,rfl,rfl⟩,?_⟩;refine ⟨_,[],trivial,rfl,rfl,fun h=>⟨h,by rw [hw h];exact hlt h,rfl,rfl,rfl⟩,?_⟩;refine ⟨_,[],trivial,rfl,rfl,fun h=>⟨h,(.inl ⟨_,fun _=>rfl,f44_spec (xs.getD (IntKind.i64.wrap ((xs.length:Int) - 1)).toNat (Ty.dflt pT)) (by rw [hw h];exact hx _ (getD_mem (hlt h))),rfl,rfl,rfl⟩)⟩,?_⟩;refine ⟨_,[],trivial,rfl,rfl,fun h=>⟨rfl,rfl,rfl⟩,?_⟩;refine ⟨_,[],trivial,rfl,rfl,fun h=>⟨h,rfl,rfl,rfl⟩,?_⟩;refine ⟨_,[],trivial,rfl,rfl,fun h=>⟨h,h,rfl,rfl,rfl⟩,?_⟩;refine ⟨⟨fun hc=>hc,fun _=>trivial⟩,?_⟩;refine ⟨_,[],trivial,rfl,rfl,fun h=>⟨rfl,rfl,rfl⟩,?_⟩;refine ⟨_,[],trivial,rfl,rfl,fun h=>⟨rfl,rfl,rfl⟩,?_⟩;refine ⟨_,[],trivial,rfl,rfl,fun h=>⟨h,rfl,rfl,rfl⟩,?_⟩;refine ⟨_,[],trivial,rfl,rfl,fun h=>⟨h,h,by rw [hw (gl' h)];have:=hlt (gl' h);omega,rfl,rfl,rfl⟩,?_⟩;refine ⟨_,[],trivial,rfl,rfl,fun h=>⟨h,rfl,rfl,rfl⟩,?_⟩;refine ⟨_,[],trivial,rfl,rfl,fun h=>⟨h,by rw [hw (gl' h)];exact hlt (gl' h),rfl,rfl,rfl⟩,?_⟩;refine ⟨_,[],trivial,rfl,rfl,fun h=>⟨rfl,rfl,rfl⟩,?_⟩;refine ⟨_,[],trivial,rfl,rfl,fun h=>⟨rfl,rfl,rfl⟩,?_⟩;refine ⟨_,[],trivial,rfl,rfl,fun h=>⟨h,rfl,rfl,rfl⟩,?_⟩;refine ⟨_,[],trivial,rfl,rfl,fun h=>⟨h,h,by rw [hw (gl' h)];have:=hlt (gl' h);omega,rfl,rfl,rfl⟩,?_⟩;refine ⟨_,[],trivial,rfl,rfl,fun h=>⟨h,rfl,rfl,rfl⟩,?_⟩;refine ⟨_,[],trivial,rfl,rfl,fun h=>⟨h,by rw [hw (gl' h)];exact hlt (gl' h),rfl,rfl,rfl⟩,?_⟩;refine ⟨_,[],trivial,rfl,rfl,fun h=>⟨h,h,rfl,rfl,rfl⟩,?_⟩;refine ⟨_,[],trivial,rfl,rfl,fun h=>⟨rfl,rfl,rfl⟩,?_⟩;refine ⟨_,[],trivial,rfl,rfl,fun h=>⟨h,rfl,rfl,rfl⟩,?_⟩;refine ⟨_,[],trivial,rfl,rfl,fun h=>⟨rfl,rfl,rfl⟩,?_⟩;refine ⟨_,[],trivial,rfl,rfl,fun h=>⟨h,rfl,rfl,rfl⟩,?_⟩;refine ⟨_,[],trivial,rfl,rfl,fun h=>⟨h,h,rfl,rfl,rfl⟩,?_⟩;refine ⟨_,[],trivial,rfl,rfl,fun h=>⟨h,h,rfl,rfl,rfl⟩,?_⟩;refine ⟨⟨fun hc=>hc,fun _=>trivial⟩,?_⟩;refine ⟨by kernel_rfl,?_⟩;refine (Tri.cond ⟨fun h1=>?_,fun h1=>?_⟩)
 ·
  refine Tri.seq (Tri.drw hT hm 17 (by kernel_rfl) ?_);refine ⟨by rw [hw (gl' (gl' h1))];have:=hlt (gl' (gl' h1));omega,?_⟩;refine ⟨by rw [hw (gl' (gl' h1))];exact hlt (gl' (gl' h1)),?_⟩;refine ⟨by rw [hw (gl' (gl' h1))];have:=hlt (gl' (gl' h1));omega,?_⟩;refine ⟨by rw [hw (gl' (gl' h1))];exact hlt (gl' (gl' h1)),?_⟩;refine ⟨by have:=of_decide_eq_true (gr' (gl' h1));rw [hw (gl' (gl' h1)),toNat_cast] at this ⊢;exact joinLen hx hp (hlt (gl' (gl' h1))) this,?_⟩;refine ⟨by kernel_rfl,?_⟩;refine (Tri.reg hT ?_);refine ⟨by rw [hw (gl' (gl' h1))];omega,?_⟩;refine Tri.seq (Tri.reg hT ?_);refine ⟨(Nat.le_refl _),by first|(rw [hw (gl' (gl' h1))];show _≤_∧(_ + 1) * 40≤_∧_ + 1≤_;omega)|(show _≤_∧(_ + 1) * 40≤_∧_ + 1≤_;omega),?_⟩;refine Tri.ret ?_;have hj:=(joins_eq hw).symm.trans h1;have e:=join_t hj (k:=(IntKind.i64.wrap ((xs.length:Int) - 1)).toNat) (by rw [hw (gl' (gl' h1))];rfl);exact ⟨congrArg (AV.own 0) (by rw [← e,List.length_append];show (IntKind.i64.wrap _).toNat + 1 = (List.take _ xs).length + 1;rw [List.length_take,hw (gl' (gl' h1)),toNat_cast];omega),congrArg (fun l:List Pc=>some (Chunk.arr pT l)) e,trivial⟩
 ·
  refine (Tri.skip ?_);refine Tri.seq (Tri.reg hT ?_);refine ⟨(Nat.le_refl _),by first|(rw [hw (gl' (gl' h1))];show _≤_∧(_ + 1) * 40≤_∧_ + 1≤_;omega)|(show _≤_∧(_ + 1) * 40≤_∧_ + 1≤_;omega),?_⟩;refine Tri.ret ?_;have e:=join_f (xs:=xs) (p:=p) ((joins_eq hw).symm.trans h1);exact ⟨congrArg (AV.own 0) (by rw [← e,List.length_append];rfl),congrArg (fun l:List Pc=>some (Chunk.arr pT l)) (by rw [← e,List.take_length];rfl),trivial⟩
theorem f43_spec (xs:List Pc) (hl:xs.length≤1099511627776):PSpec P [] 43 [.list pT xs] (.list pT xs):=by
 refine pspec_intro hT Try.func43 (by decide) rfl rfl (by kernel_rfl) rfl ?_;refine Tri.seq (Tri.reg hT ?_);refine Tri.seq ?_;refine Tri.seq (Tri.reg hT ?_);refine (Tri.cond ⟨fun h1=>?_,fun h1=>?_⟩)
 ·
  refine Tri.seq (Tri.reg hT ?_);refine Tri.le ⟨8,0,0,[(2,.list pT xs)],[],[]⟩ (Le.weakV rfl rfl rfl rfl ⟨h1,trivial⟩ trivial) ?_;refine Tri.ret ?_;exact ⟨rfl,trivial⟩
 ·
  refine (Tri.skip ?_);refine Tri.seq (Tri.reg hT ?_);refine ⟨by show _≤_∧(0 + xs.length) * 40≤_∧0 + xs.length≤_;omega,?_⟩;refine Tri.le ⟨8,0,0,[(2,.list pT xs)],[],[]⟩ (Le.trans (Le.freeze 2 _ _ rfl rfl (by show 0 + xs.length≤([] ++ xs).length;simp)) (Le.weak rfl rfl rfl rfl ⟨congrArg (AV.list pT) (by show List.take (0 + xs.length) ([] ++ xs) = xs;simp),trivial⟩ trivial)) ?_;refine Tri.ret ?_;exact ⟨rfl,trivial⟩
theorem f32_spec (xs:List Pc) (hl:xs.length≤1099511627776) (hs:lenSum xs≤4611686018427387904):PSpec P [] 32 [.list pT xs] (.int .i64 (lenSum xs)):=by
 refine pspec_intro hT Try.func32 (by decide) rfl rfl (by kernel_rfl) rfl ?_;refine Tri.seq (Tri.reg hT ?_);refine Tri.seq (Tri.reg hT ?_);refine Tri.seq ?_;refine Tri.seq (Tri.reg hT ?_);refine (Tri.block ?_);refine (Tri.loop (ι:=Nat) (fun i=>⟨19,0,0,[(3,.int .i64 (lenSum (xs.take i))),(6,.list pT xs),(7,.int .i64 xs.length),(8,.int .i64 (i:Int))],[],[]⟩) (fun i=>i≤xs.length) (fun i=>xs.length - i) (0) ?_ ?_ ?_)
 ·
  exact Nat.zero_le _
 ·
  exact Le.weak rfl rfl rfl rfl ⟨rfl,rfl,rfl,rfl,trivial⟩ trivial
 ·
  intro i hi;refine Tri.seq (Tri.reg hT ?_);refine Tri.seq (Tri.cond ⟨fun h1=>?_,fun h1=>?_⟩)
  ·
   refine (Tri.skip ?_);refine Tri.seq (Tri.block ?_);refine Tri.seq (Tri.reg hT ?_);refine ⟨by have:=of_decide_eq_true h1;omega,?_⟩;refine (Tri.reg hT ?_);refine (Tri.reg hT ?_);have h1':=of_decide_eq_true h1;have e:=lenSum_take xs i (by omega);have m:=lenSum_mono xs (i + 1);have z:=lenSum_nonneg (xs.take i);exact ⟨i + 1,by omega,by omega,Le.weak rfl rfl rfl rfl ⟨congrArg (AV.int .i64) (by rw [toNat_cast];show IntKind.i64.wrap (lenSum (xs.take i) + ((pd (xs.getD i (Ty.dflt pT))).length:Int)) = _;rw [← e,wrapId (by omega)]),rfl,rfl,iv1 (by omega),trivial⟩ trivial⟩
  ·
   refine Tri.exit ?_;refine Tri.seq (Tri.reg hT ?_);refine Tri.ret ?_;have h1':=of_decide_eq_false h1;exact ⟨congrArg (AV.int .i64) (by rw [List.take_of_length_le (by omega)]),trivial⟩
theorem f33_spec (xs:List Pc) (hl:xs.length≤1099511627776) (hs:lenSum xs≤4611686018427387904):PSpec P [] 33 [.list pT xs] (.int .i64 (lenSum xs)):=by
 refine pspec_intro hT Try.func33 (by decide) rfl rfl (by kernel_rfl) rfl ?_;refine Tri.seq (Tri.reg hT ?_);refine Tri.seq (Tri.reg hT ?_);refine Tri.seq ?_;refine Tri.seq (Tri.reg hT ?_);refine (Tri.block ?_);refine (Tri.loop (ι:=Nat) (fun i=>⟨20,0,0,[(0,.list pT xs),(3,.int .i64 (lenSum (xs.take i))),(4,.int .i64 (i:Int))],[],[]⟩) (fun i=>i≤xs.length) (fun i=>xs.length - i) (0) ?_ ?_ ?_)
 ·
  exact Nat.zero_le _
 ·
  exact Le.weak rfl rfl rfl rfl ⟨rfl,rfl,rfl,trivial⟩ trivial
 ·
  intro i hi;refine Tri.seq ?_;refine Tri.seq (Tri.reg hT ?_);refine (Tri.cond ⟨fun h1=>?_,fun h1=>?_⟩)
  ·
   refine (Tri.skip ?_);refine Tri.seq (Tri.block ?_);refine (Tri.reg hT ?_);refine ⟨by have:=of_decide_eq_true h1;omega,?_⟩;refine (Tri.reg hT ?_);have h1':=of_decide_eq_true h1;have e:=lenSum_take xs i (by omega);have m:=lenSum_mono xs (i + 1);have z:=lenSum_nonneg (xs.take i);exact ⟨i + 1,by omega,by omega,Le.weak rfl rfl rfl rfl ⟨rfl,congrArg (AV.int .i64) (by rw [toNat_cast];show IntKind.i64.wrap (lenSum (xs.take i) + ((pd (xs.getD i (Ty.dflt pT))).length:Int)) = _;rw [← e,wrapId (by omega)]),iv1 (by omega),trivial⟩ trivial⟩
  ·
   refine Tri.exit ?_;refine Tri.seq (Tri.reg hT ?_);refine Tri.ret ?_;have h1':=of_decide_eq_false h1;exact ⟨congrArg (AV.int .i64) (by rw [List.take_of_length_le (by omega)]),trivial⟩
theorem f49_spec (xs:List Pc) (a:Int) (hl:xs.length≤1099511627776) (hx:∀ x∈xs,InB x):PSpec P [] 49 [.list pT xs,.int .i64 a] (.list pT (cutL xs a)):=by
 refine pspec_intro hT Try.func49 (by decide) rfl rfl (by kernel_rfl) rfl ?_;refine Tri.seq (Tri.reg hT ?_);refine Tri.seq (Tri.reg hT ?_);refine Tri.seq ?_;refine Tri.seq (Tri.reg hT ?_);refine (Tri.block ?_);refine (Tri.loop (ι:=Nat) (fun i=>⟨38,0,6,[(1,.int .i64 a),(5,.own 5 (cutL (xs.take i) a).length),(8,.list pT xs),(9,.int .i64 xs.length),(10,.int .i64 (i:Int))],[(5,.arr pT (cutL (xs.take i) a))],[]⟩) (fun i=>i≤xs.length) (fun i=>xs.length - i) (0) ?_ ?_ ?_)
 ·
  exact Nat.zero_le _
 ·
  exact Le.trans (Le.own 5 pT rfl) (Le.weak rfl rfl rfl rfl ⟨rfl,rfl,rfl,rfl,rfl,trivial⟩ ⟨rfl,trivial⟩)
 ·
  intro i hi;refine Tri.seq (Tri.reg hT ?_);refine Tri.seq (Tri.cond ⟨fun h1=>?_,fun h1=>?_⟩)
  ·
   refine (Tri.skip ?_);refine Tri.seq (Tri.block ?_);refine Tri.seq (Tri.reg hT ?_);refine ⟨by have:=of_decide_eq_true h1;omega,?_⟩;refine (Tri.block ?_);refine Tri.seq (Tri.reg hT ?_);refine .inl (.inl ⟨_,fun _=>rfl,f44_spec _ (hx _ (getD_mem (by have:=of_decide_eq_true h1;omega))),?_⟩);refine (Tri.cond ⟨fun h2=>?_,fun h2=>?_⟩)
   ·
    refine (Tri.skip ?_);refine (Tri.reg hT ?_);have h1':=of_decide_eq_true h1;have e:=cut_next xs a i (by omega);rw [cut1,if_pos (of_decide_eq_true h2:endP (xs.getD i (Ty.dflt pT))≤a)] at e;exact ⟨i + 1,by omega,by omega,Le.weak rfl rfl rfl rfl ⟨rfl,congrArg (AV.own 5) (by rw [e];simp),rfl,rfl,iv1 (by omega),trivial⟩ ⟨congrArg (fun l=>some (Chunk.arr pT l)) (by rw [e];simp),trivial⟩⟩
   ·
    refine Tri.seq (Tri.reg hT ?_);refine (Tri.cond ⟨fun h3=>?_,fun h3=>?_⟩)
    ·
     refine (Tri.drw hT hm 7 (by kernel_rfl) ?_);refine .inl ⟨_,fun _=>rfl,f44_spec _ (hx _ (getD_mem (by have:=of_decide_eq_true h1;omega))),?_⟩;refine .inl ⟨_,fun _=>rfl,f46_spec _ _ _ (hx _ (getD_mem (by have:=of_decide_eq_true h1;omega))) (Int.le_of_lt (of_decide_eq_true h3)) (by have:=of_decide_eq_false h2;omega) (Int.le_refl _),?_⟩;refine ⟨by kernel_rfl,?_⟩;refine ⟨(Nat.le_refl _),by have:=cut_len xs a i;show _≤_∧(_ + 1) * 40≤_∧_ + 1≤_;omega,?_⟩;refine (Tri.reg hT ?_);have h1':=of_decide_eq_true h1;have e:=cut_next xs a i (by omega);rw [cut1,if_neg (of_decide_eq_false h2:¬ endP (xs.getD i (Ty.dflt pT))≤a),if_pos (of_decide_eq_true h3:pa (xs.getD i (Ty.dflt pT)) < a)] at e;exact ⟨i + 1,by omega,by omega,Le.weak rfl rfl rfl rfl ⟨rfl,congrArg (AV.own 5) (by show (cutL _ a).length + 1 = _;rw [e,List.length_append];rfl),rfl,rfl,iv1 (by omega),trivial⟩ ⟨congrArg (fun l=>some (Chunk.arr pT l)) (by show List.take (cutL _ a).length (cutL _ a) ++ [_] = _;rw [List.take_length,e];rfl),trivial⟩⟩
    ·
     refine (Tri.reg hT ?_);refine ⟨(Nat.le_refl _),by have:=cut_len xs a i;show _≤_∧(_ + 1) * 40≤_∧_ + 1≤_;omega,?_⟩;refine (Tri.reg hT ?_);have h1':=of_decide_eq_true h1;have e:=cut_next xs a i (by omega);rw [cut1,if_neg (of_decide_eq_false h2:¬ endP (xs.getD i (Ty.dflt pT))≤a),if_neg (of_decide_eq_false h3:¬ pa (xs.getD i (Ty.dflt pT)) < a)] at e;exact ⟨i + 1,by omega,by omega,Le.weak rfl rfl rfl rfl ⟨rfl,congrArg (AV.own 5) (by show (cutL _ a).length + 1 = _;rw [e,List.length_append];rfl),rfl,rfl,iv1 (by omega),trivial⟩ ⟨congrArg (fun l=>some (Chunk.arr pT l)) (by show List.take (cutL _ a).length (cutL _ a) ++ [_] = _;rw [List.take_length,e];rfl),trivial⟩⟩
  ·
   refine Tri.exit ?_;refine Tri.seq (Tri.reg hT ?_);have h1':=of_decide_eq_false h1;refine Tri.le ⟨38,0,0,[(4,.list pT (cutL xs a))],[],[]⟩ (Le.trans (Le.freeze 4 _ _ rfl rfl (Nat.le_refl _)) (Le.weak rfl rfl rfl rfl ⟨congrArg (AV.list pT) (by rw [List.take_length,List.take_of_length_le (by omega)]),trivial⟩ trivial)) ?_
   refine Tri.ret ?_;exact ⟨rfl,trivial⟩
theorem f77_spec (xs:List Pc) (a:Int) (hl:xs.length≤1099511627776) (hx:∀ x∈xs,InB x):PSpec P [] 77 [.list pT xs,.int .i64 a] (.list pT (cutL xs a)):=by
 refine pspec_intro hT Try.func77 (by decide) rfl rfl (by kernel_rfl) rfl ?_;refine Tri.seq (Tri.reg hT ?_);refine Tri.seq (Tri.reg hT ?_);refine Tri.seq ?_;refine Tri.seq (Tri.reg hT ?_);refine (Tri.block ?_);refine (Tri.loop (ι:=Nat) (fun i=>⟨45,0,4,[(0,.list pT xs),(1,.int .i64 a),(5,.own 3 (cutL (xs.take i) a).length),(6,.int .i64 (i:Int))],[(3,.arr pT (cutL (xs.take i) a))],[]⟩) (fun i=>i≤xs.length) (fun i=>xs.length - i) (0) ?_ ?_ ?_)
 ·
  exact Nat.zero_le _
 ·
  exact Le.trans (Le.own 5 pT rfl) (Le.weak rfl rfl rfl rfl ⟨rfl,rfl,rfl,rfl,trivial⟩ ⟨rfl,trivial⟩)
 ·
  intro i hi;refine Tri.seq ?_;refine Tri.seq (Tri.reg hT ?_);refine (Tri.cond ⟨fun h1=>?_,fun h1=>?_⟩)
  ·
   refine (Tri.skip ?_);refine Tri.seq (Tri.block ?_);refine Tri.seq (Tri.reg hT ?_);refine ⟨by have:=of_decide_eq_true h1;omega,?_⟩;refine Tri.seq ?_;refine Tri.seq (Tri.reg hT ?_);refine (Tri.cond ⟨fun h2=>?_,fun h2=>?_⟩)
   ·
    refine Tri.exit ?_;refine (Tri.reg hT ?_);have h1':=of_decide_eq_true h1;have hb:=hx _ (getD_mem (d:=Ty.dflt pT) (show i < xs.length by omega));have e:=cut_next xs a i (by omega);rw [cut1,if_pos ((wrapEnd hb) ▸ (of_decide_eq_true h2:IntKind.i64.wrap (pa (xs.getD i (Ty.dflt pT)) + (pd (xs.getD i (Ty.dflt pT))).length)≤a))] at e;exact ⟨i + 1,by omega,by omega,Le.weak rfl rfl rfl rfl ⟨rfl,rfl,congrArg (AV.own 3) (by rw [e];simp),iv1 (by omega),trivial⟩ ⟨congrArg (fun l=>some (Chunk.arr pT l)) (by rw [e];simp),trivial⟩⟩
   ·
    refine (Tri.skip ?_);refine Tri.seq ?_;refine Tri.seq (Tri.reg hT ?_);refine (Tri.cond ⟨fun h3=>?_,fun h3=>?_⟩)
    ·
     refine Tri.seq (Tri.reg hT ?_);refine ⟨by have h2':¬ IntKind.i64.wrap (pa (xs.getD i (Ty.dflt pT)) + (pd (xs.getD i (Ty.dflt pT))).length)≤a:=of_decide_eq_false h2;have h3':pa (xs.getD i (Ty.dflt pT)) < a:=of_decide_eq_true h3;have hb:=hx _ (getD_mem (d:=Ty.dflt pT) (show i < xs.length by have:=of_decide_eq_true h1;omega));rw [wrapEnd hb] at h2';have hb1:=hb.1;have hb2:=hb.2;unfold endP at hb2 h2';have w1:IntKind.i64.wrap (a - pa (xs.getD i (Ty.dflt pT))) = a - pa (xs.getD i (Ty.dflt pT)):=wrapId (by omega);show 0≤IntKind.i64.wrap (a - pa (xs.getD i (Ty.dflt pT)))∧IntKind.i64.wrap (a - pa (xs.getD i (Ty.dflt pT)))≤((pd (xs.getD i (Ty.dflt pT))).length:Int)∧((pd (xs.getD i (Ty.dflt pT))).length:Int)≤((pd (xs.getD i (Ty.dflt pT))).length:Int);rw [w1];omega,?_⟩;refine (Tri.reg hT ?_);refine (Tri.reg hT ?_);refine ⟨(Nat.le_refl _),by have:=cut_len xs a i;show _≤_∧(_ + 1) * 40≤_∧_ + 1≤_;omega,?_⟩;refine (Tri.reg hT ?_);have h1':=of_decide_eq_true h1;have hb:=hx _ (getD_mem (d:=Ty.dflt pT) (show i < xs.length by omega));have e:=cut_next xs a i (by omega);have q2:¬ endP (xs.getD i (Ty.dflt pT))≤a:=(wrapEnd hb) ▸ (of_decide_eq_false h2:¬ IntKind.i64.wrap (pa (xs.getD i (Ty.dflt pT)) + (pd (xs.getD i (Ty.dflt pT))).length)≤a);have q3:pa (xs.getD i (Ty.dflt pT)) < a:=of_decide_eq_true h3;rw [cut1,if_neg q2,if_pos q3,part_end hb q3 q2] at e;exact ⟨i + 1,by omega,by omega,Le.weak rfl rfl rfl rfl ⟨rfl,rfl,congrArg (AV.own 3) (by show (cutL _ a).length + 1 = _;rw [e,List.length_append];rfl),iv1 (by omega),trivial⟩ ⟨congrArg (fun l=>some (Chunk.arr pT l)) (by show List.take (cutL _ a).length (cutL _ a) ++ [_] = _;rw [List.take_length,e];rfl),trivial⟩⟩
    ·
     refine (Tri.skip ?_);refine (Tri.reg hT ?_);refine ⟨(Nat.le_refl _),by have:=cut_len xs a i;show _≤_∧(_ + 1) * 40≤_∧_ + 1≤_;omega,?_⟩;refine (Tri.reg hT ?_);have h1':=of_decide_eq_true h1;have hb:=hx _ (getD_mem (d:=Ty.dflt pT) (show i < xs.length by omega));have e:=cut_next xs a i (by omega);have q2:¬ endP (xs.getD i (Ty.dflt pT))≤a:=(wrapEnd hb) ▸ (of_decide_eq_false h2:¬ IntKind.i64.wrap (pa (xs.getD i (Ty.dflt pT)) + (pd (xs.getD i (Ty.dflt pT))).length)≤a);have q3:¬ pa (xs.getD i (Ty.dflt pT)) < a:=of_decide_eq_false h3;rw [cut1,if_neg q2,if_neg q3] at e;exact ⟨i + 1,by omega,by omega,Le.weak rfl rfl rfl rfl ⟨rfl,rfl,congrArg (AV.own 3) (by show (cutL _ a).length + 1 = _;rw [e,List.length_append];rfl),iv1 (by omega),trivial⟩ ⟨congrArg (fun l=>some (Chunk.arr pT l)) (by show List.take (cutL _ a).length (cutL _ a) ++ [_] = _;rw [List.take_length,e];rfl),trivial⟩⟩
  ·
   refine Tri.exit ?_;refine Tri.seq (Tri.reg hT ?_);have h1':=of_decide_eq_false h1;refine Tri.le ⟨45,0,0,[(4,.list pT (cutL xs a))],[],[]⟩ (Le.trans (Le.freeze 4 _ _ rfl rfl (Nat.le_refl _)) (Le.weak rfl rfl rfl rfl ⟨congrArg (AV.list pT) (by rw [List.take_length,List.take_of_length_le (by omega)]),trivial⟩ trivial)) ?_
   refine Tri.ret ?_;exact ⟨rfl,trivial⟩
end Go.Proofs.Ytfaplilocljknaa.Fx
