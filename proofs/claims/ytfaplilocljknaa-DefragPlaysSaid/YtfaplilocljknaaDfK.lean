import Derived.Test.YtfaplilocljknaaDfJ
set_option linter.all false
namespace Go.Proofs.Ytfaplilocljknaa.Fx
open Go Go.Fw Go.Ov Go.Df
theorem f12_spec (t:Int):HSpec P [] 12 [.int .i64 t] [] (.loc 42 0) [(42,.box (rbC ⟨min (max t 1) 1099511627776,0,0,[]⟩ 44)),(44,.arr rT [])]:=by
  refine fspec_intro hT [] [(42,.box (rbC ⟨min (max t 1) 1099511627776,0,0,[]⟩ 44)),(44,.arr rT [])] 0 0 Try.func12 (by decide) rfl rfl (by kernel_rfl) rfl rfl ?_
  refine Tri.seq (Tri.reg hT ?_)
  refine Tri.join (True) (⟨10,0,20,[(0,.int .i64 (max t 1))],[],[]⟩) ?_ fun hp1=>?_
  · refine Tri.seq (Tri.reg hT ?_)
    refine (Tri.cond ⟨fun h1=>?_,fun h1=>?_⟩)
    · refine (Tri.reg hT ?_)
      have h1':=of_decide_eq_true h1;exact ⟨trivial,Le.weak rfl rfl rfl rfl ⟨congrArg (AV.int .i64) (by omega),trivial⟩ trivial⟩
    · refine (Tri.skip ?_)
      have h1':=of_decide_eq_false h1;exact ⟨trivial,Le.weak rfl rfl rfl rfl ⟨congrArg (AV.int .i64) (by omega),trivial⟩ trivial⟩
  · refine Tri.join (True) (⟨10,0,40,[(0,.int .i64 (min (max t 1) 1099511627776))],[],[]⟩) ?_ fun hp2=>?_
    · refine Tri.seq (Tri.reg hT ?_)
      refine (Tri.cond ⟨fun h2=>?_,fun h2=>?_⟩)
      · refine (Tri.reg hT ?_)
        have h2':=of_decide_eq_true h2;exact ⟨trivial,Le.weak rfl rfl rfl rfl ⟨congrArg (AV.int .i64) (by omega),trivial⟩ trivial⟩
      · refine (Tri.skip ?_)
        have h2':=of_decide_eq_false h2;exact ⟨trivial,Le.weak rfl rfl rfl rfl ⟨congrArg (AV.int .i64) (by omega),trivial⟩ trivial⟩
    · refine Tri.seq (Tri.reg hT ?_)
      refine Tri.le (S:=⟨10,0,60,[(2,.loc 42 0)],[(42,.box (rbC ⟨min (max t 1) 1099511627776,0,0,[]⟩ 44)),(44,.arr rT [])],[]⟩) (Le.trans (Le.ownB 42 [.int .i64 (min (max t 1) 1099511627776),.int .i64 0,.int .i64 0] [] rT rfl) (Le.weak rfl rfl rfl rfl ⟨rfl,trivial⟩ ⟨rfl,rfl,trivial⟩)) ?_
      refine Tri.ret ?_
      exact ⟨rfl,rfl,rfl,trivial⟩
abbrev moveX (tt at_:Int) (xs:List Re):List Re:=xs.filter (keepK tt at_)
abbrev moveR (rb:Rb) (at_:Int):Rb:=⟨rb.timeout,at_,rb.conf,moveX rb.timeout at_ rb.xs⟩
theorem f28_spec (rb:Rb) (at_:Int) (hl:rb.xs.length≤1048576) (h1:0≤at_∧at_≤1099511627776) (h2:1≤rb.timeout∧rb.timeout≤1099511627776) :
    HSpec P [] 28 [.loc 0 0,.int .i64 at_] (rbH rb) (.int .i64 (sumL (vGone rb.timeout at_) rb.xs)) (rbH (moveR rb at_)):=by
  have hb:∀ i,0≤sumL (vGone rb.timeout at_) (rb.xs.take i)∧sumL (vGone rb.timeout at_) (rb.xs.take i)≤1048576:=fun i=>by
    have:=sumL_take (vGone rb.timeout at_) (m:=1) (by omega) (xs:=rb.xs) (fun e _=>by show 0≤vGone rb.timeout at_ e∧vGone rb.timeout at_ e≤1;unfold vGone;split;omega;split <;> omega) i
    omega
  have hfl:∀ i,(moveX rb.timeout at_ (rb.xs.take i)).length≤rb.xs.length:=fun i=>by
    have h1:=List.length_filter_le (keepK rb.timeout at_) (rb.xs.take i)
    rw [List.length_take] at h1
    show (List.filter (keepK rb.timeout at_) (rb.xs.take i)).length≤_
    omega
  have hw:IntKind.i64.wrap (at_ - rb.timeout) = at_ - rb.timeout:=wrapId (by omega)
  refine fspec_intro hT (rbH rb) (rbH (moveR rb at_)) 1 2 Try.func28 (by decide) rfl rfl (by kernel_rfl) rfl rfl ?_
  refine Tri.seq (Tri.reg hT ?_)
  refine Tri.seq (Tri.reg hT ?_)
  refine Tri.seq (Tri.reg hT ?_)
  refine Tri.seq (Tri.reg hT ?_)
  refine Tri.seq ?_
  refine Tri.seq (Tri.reg hT ?_)
  refine (Tri.block ?_)
  refine (Tri.loop (ι:=Nat) (fun i=>⟨62,1,12,[(0,.loc 0 0),(1,.int .i64 at_),(5,.int .i64 (sumL (vGone rb.timeout at_) (rb.xs.take i))),(6,.own 11 (moveX rb.timeout at_ (rb.xs.take i)).length),(7,.int .i64 (i:Int))],[(11,.arr rT (moveX rb.timeout at_ (rb.xs.take i))),(0,.box (rbC ⟨rb.timeout,at_,rb.conf,rb.xs⟩ 1)),(1,.arr rT rb.xs)],[]⟩) (fun i=>i≤rb.xs.length) (fun i=>rb.xs.length - i) (0) ?_ ?_ ?_)
  · exact Nat.zero_le _
  · exact Le.trans (Le.own 6 rT rfl) (Le.weak rfl rfl rfl rfl ⟨rfl,rfl,rfl,rfl,rfl,trivial⟩ ⟨rfl,rfl,rfl,trivial⟩)
  · intro i hi
    refine Tri.seq ?_
    refine Tri.seq (Tri.reg hT ?_)
    refine (Tri.cond ⟨fun h1=>?_,fun h1=>?_⟩)
    · refine (Tri.skip ?_)
      refine Tri.seq (Tri.block ?_)
      have hiL:(i:Int) < (rb.xs.length:Int):=of_decide_eq_true h1;have hfi:=hfl i
      refine Tri.seq (Tri.drw hT hm 15 (by kernel_rfl) ?_)
      refine ⟨(by show 0≤(i:Int)∧(i:Int) < (rb.xs.length:Int);omega),?_⟩
      refine ⟨(by show i < rb.xs.length;omega),?_⟩
      refine ⟨by kernel_rfl,?_⟩
      refine (Tri.cond ⟨fun h2=>?_,fun h2=>?_⟩)
      · refine (Tri.reg hT ?_)
        refine ⟨(by show 0≤(i:Int)∧(i:Int) < (rb.xs.length:Int);omega),?_⟩
        refine ⟨(by show i < rb.xs.length;omega),?_⟩
        refine ⟨(Nat.le_refl _),by show _≤_∧(_ + 1) * 160≤_∧_ + 1≤_;omega,?_⟩
        refine (Tri.reg hT ?_)
        have e:=filt_next (keepK rb.timeout at_) rb.xs (i:=i) (by omega);have es:=sumL_next (vGone rb.timeout at_) rb.xs (i:=i) (by omega);have hbi:=hb (i + 1);have ek:keepK rb.timeout at_ (rb.xs.getD i rD) = true:=(by have h2':decide (rBeg (rb.xs.getD i rD) > IntKind.i64.wrap (at_ - rb.timeout)) = true:=h2;rw [hw] at h2';exact h2');rw [ek,if_pos rfl] at e;have ev:vGone rb.timeout at_ (rb.xs.getD i rD) = 0:=(by unfold vGone;rw [ek];rfl);rw [ev,Int.add_zero] at es;have e:moveX rb.timeout at_ (rb.xs.take (i + 1)) = moveX rb.timeout at_ (rb.xs.take i) ++ [rb.xs.getD i rD]:=e;exact ⟨i + 1,by omega,by omega,Le.weak rfl rfl rfl rfl ⟨rfl,rfl,congrArg (AV.int .i64) (es.symm),congrArg (AV.own 11) (by rw [e,List.length_append];rfl),iv1 (by omega),trivial⟩ ⟨congrArg (fun l=>some (Chunk.arr rT l)) (by rw [e,List.take_length];rfl),rfl,rfl,trivial⟩⟩
      · refine Tri.seq (Tri.reg hT ?_)
        refine ⟨(by show 0≤(i:Int)∧(i:Int) < (rb.xs.length:Int);omega),?_⟩
        refine ⟨(by show i < rb.xs.length;omega),?_⟩
        refine (Tri.cond ⟨fun h3=>?_,fun h3=>?_⟩)
        · refine (Tri.reg hT ?_)
          refine (Tri.reg hT ?_)
          have e:=filt_next (keepK rb.timeout at_) rb.xs (i:=i) (by omega);have es:=sumL_next (vGone rb.timeout at_) rb.xs (i:=i) (by omega);have hbi:=hb (i + 1);have ek:keepK rb.timeout at_ (rb.xs.getD i rD) = false:=(by have h2':decide (rBeg (rb.xs.getD i rD) > IntKind.i64.wrap (at_ - rb.timeout)) = false:=h2;rw [hw] at h2';exact h2');rw [ek,if_neg Bool.false_ne_true,List.append_nil] at e;have h3':(!rGone (rb.xs.getD i rD)) = true:=h3;have ev:vGone rb.timeout at_ (rb.xs.getD i rD) = 1:=(by unfold vGone;rw [ek,if_neg Bool.false_ne_true,if_neg (by simpa using h3')]);rw [ev] at es;rw [es] at hbi;have e:moveX rb.timeout at_ (rb.xs.take (i + 1)) = moveX rb.timeout at_ (rb.xs.take i):=e;exact ⟨i + 1,by omega,by omega,Le.weak rfl rfl rfl rfl ⟨rfl,rfl,congrArg (AV.int .i64) (by rw [es];exact wrapId (by omega)),congrArg (AV.own 11) (by rw [e]),iv1 (by omega),trivial⟩ ⟨congrArg (fun l=>some (Chunk.arr rT l)) (by rw [e]),rfl,rfl,trivial⟩⟩
        · refine (Tri.skip ?_)
          refine (Tri.reg hT ?_)
          have e:=filt_next (keepK rb.timeout at_) rb.xs (i:=i) (by omega);have es:=sumL_next (vGone rb.timeout at_) rb.xs (i:=i) (by omega);have hbi:=hb (i + 1);have ek:keepK rb.timeout at_ (rb.xs.getD i rD) = false:=(by have h2':decide (rBeg (rb.xs.getD i rD) > IntKind.i64.wrap (at_ - rb.timeout)) = false:=h2;rw [hw] at h2';exact h2');rw [ek,if_neg Bool.false_ne_true,List.append_nil] at e;have h3':(!rGone (rb.xs.getD i rD)) = false:=h3;have ev:vGone rb.timeout at_ (rb.xs.getD i rD) = 0:=(by unfold vGone;rw [ek,if_neg Bool.false_ne_true,if_pos (by simpa using h3')]);rw [ev,Int.add_zero] at es;have e:moveX rb.timeout at_ (rb.xs.take (i + 1)) = moveX rb.timeout at_ (rb.xs.take i):=e;exact ⟨i + 1,by omega,by omega,Le.weak rfl rfl rfl rfl ⟨rfl,rfl,congrArg (AV.int .i64) (es.symm),congrArg (AV.own 11) (by rw [e]),iv1 (by omega),trivial⟩ ⟨congrArg (fun l=>some (Chunk.arr rT l)) (by rw [e]),rfl,rfl,trivial⟩⟩
    · refine Tri.exit ?_
      have h1':¬ (i:Int) < (rb.xs.length:Int):=of_decide_eq_false h1;have et:rb.xs.take i = rb.xs:=List.take_of_length_le (by omega)
      refine Tri.seq (Tri.reg hT ?_)
      refine Tri.le (S:=⟨62,1,40,[(5,.int .i64 (sumL (vGone rb.timeout at_) rb.xs))],rbH (moveR rb at_),[]⟩) (Le.trans (Le.weak (S:=⟨62,1,40,[(5,.int .i64 (sumL (vGone rb.timeout at_) rb.xs))],[(0,.box (rbC (moveR rb at_) 11)),(11,.arr rT (moveR rb at_).xs)],[]⟩) rfl rfl rfl rfl ⟨congrArg (AV.int .i64) (by rw [et]),trivial⟩ ⟨by show some (Chunk.box [.int .i64 rb.timeout,.int .i64 at_,.int .i64 rb.conf,.own 11 (moveX rb.timeout at_ (rb.xs.take i)).length]) = _;rw [et],by show some (Chunk.arr rT (moveX rb.timeout at_ (rb.xs.take i))) = _;rw [et],trivial⟩) (Le.swap 11 1 rfl rfl rfl rfl rfl rfl rfl rfl)) ?_
      refine Tri.seq (Tri.reg hT ?_)
      refine Tri.ret ?_
      exact ⟨rfl,rfl,rfl,trivial⟩
end Go.Proofs.Ytfaplilocljknaa.Fx
