import Derived.Test.YtfaplilocljknaaDfA
import Derived.Test.YtfaplilocljknaaGDf4
import Derived.Test.YtfaplilocljknaaGFw15
set_option linter.all false
namespace Go.Proofs.Ytfaplilocljknaa.Fx
open Go Go.Fw Go.Ov Go.Df
abbrev hR:List AV:=[]
theorem f19_spec (rb:Rb):HSpec P [] 19 [.loc 0 0] (rbH rb) (.int .i64 rb.conf) (rbH rb):=by
  refine fspec_intro hT (rbH rb) (rbH rb) 1 2 Try.func19 (by decide) rfl rfl (by kernel_rfl) rfl rfl ?_
  refine Tri.seq (Tri.reg hT ?_)
  refine Tri.seq (Tri.reg hT ?_)
  refine Tri.ret ?_
  exact ⟨rfl,rfl,rfl,trivial⟩
theorem f16_spec (rb:Rb) (hl:rb.xs.length≤1099511627776):HSpec P [] 16 [.loc 0 0] (rbH rb) (.int .i64 (sumL vOpen rb.xs)) (rbH rb):=by
  have hb:∀ i,0≤sumL vOpen (rb.xs.take i)∧sumL vOpen (rb.xs.take i)≤1099511627776:=fun i=>by
    have:=sumL_take vOpen (m:=1) (by omega) (xs:=rb.xs) (fun e _=>by show 0≤(if rGone e = true then (0:Int) else 1)∧(if rGone e = true then (0:Int) else 1)≤1;split <;> omega) i
    omega
  refine fspec_intro hT (rbH rb) (rbH rb) 1 2 Try.func16 (by decide) rfl rfl (by kernel_rfl) rfl rfl ?_
  refine Tri.seq (Tri.reg hT ?_)
  refine Tri.seq (Tri.reg hT ?_)
  refine Tri.seq ?_
  refine Tri.seq (Tri.reg hT ?_)
  refine (Tri.block ?_)
  refine (Tri.loop (ι:=Nat) (fun i=>⟨26,1,10,[(0,.loc 0 0),(3,.int .i64 (sumL vOpen (rb.xs.take i))),(4,.int .i64 (i:Int))],rbH rb,[]⟩) (fun i=>i≤rb.xs.length) (fun i=>rb.xs.length - i) (0) ?_ ?_ ?_)
  · exact Nat.zero_le _
  · exact Le.weak rfl rfl rfl rfl ⟨rfl,rfl,rfl,trivial⟩ ⟨rfl,rfl,trivial⟩
  · intro i hi
    refine Tri.seq ?_
    refine Tri.seq (Tri.reg hT ?_)
    refine (Tri.cond ⟨fun h1=>?_,fun h1=>?_⟩)
    · refine (Tri.skip ?_)
      refine Tri.seq (Tri.block ?_)
      refine Tri.seq (Tri.reg hT ?_)
      refine ⟨(by have:=of_decide_eq_true h1;show 0≤(i:Int)∧(i:Int) < (rb.xs.length:Int);omega),?_⟩
      refine ⟨(by have:=of_decide_eq_true h1;show i < rb.xs.length;omega),?_⟩
      refine (Tri.cond ⟨fun h2=>?_,fun h2=>?_⟩)
      · refine (Tri.reg hT ?_)
        refine (Tri.reg hT ?_)
        have h1':=of_decide_eq_true h1;have e:=sumL_next vOpen rb.xs (i:=i) (by omega);have h2':(!rGone (rb.xs.getD i rD)) = true:=h2;have ev:vOpen (rb.xs.getD i rD) = 1:=(by show (if rGone (rb.xs.getD i rD) = true then (0:Int) else 1) = 1;rw [if_neg (by simpa using h2')]);have hbi:=hb (i + 1);rw [e,ev] at hbi;exact ⟨i + 1,by omega,by omega,Le.weak rfl rfl rfl rfl ⟨rfl,congrArg (AV.int .i64) (by rw [e,ev,wrapId (by omega)]),iv1 (by omega),trivial⟩ ⟨rfl,rfl,trivial⟩⟩
      · refine (Tri.skip ?_)
        refine (Tri.reg hT ?_)
        have h1':=of_decide_eq_true h1;have e:=sumL_next vOpen rb.xs (i:=i) (by omega);have h2':(!rGone (rb.xs.getD i rD)) = false:=h2;have ev:vOpen (rb.xs.getD i rD) = 0:=(by show (if rGone (rb.xs.getD i rD) = true then (0:Int) else 1) = 0;rw [if_pos (by simpa using h2')]);exact ⟨i + 1,by omega,by omega,Le.weak rfl rfl rfl rfl ⟨rfl,congrArg (AV.int .i64) (by rw [e,ev,Int.add_zero]),iv1 (by omega),trivial⟩ ⟨rfl,rfl,trivial⟩⟩
    · refine Tri.exit ?_
      refine Tri.seq (Tri.reg hT ?_)
      refine Tri.ret ?_
      have h1':=of_decide_eq_false h1;exact ⟨congrArg (AV.int .i64) (by rw [List.take_of_length_le (by omega)]),rfl,rfl,trivial⟩
theorem f18_spec (rb:Rb) (hl:rb.xs.length≤1048576) (hv:∀ e∈rb.xs,Valid (rPcs e)∧(rPcs e).length≤1048576):HSpec P [] 18 [.loc 0 0] (rbH rb) (.int .i64 (sumL vLen rb.xs)) (rbH rb):=by
  have hb:∀ i,0≤sumL vLen (rb.xs.take i)∧sumL vLen (rb.xs.take i)≤4503599627370496:=fun i=>by
    have:=sumL_take vLen (m:=4294967296) (by omega) (xs:=rb.xs) (fun e he=>⟨lenSum_nonneg _,lenSum_le (hv e he).1⟩) i
    omega
  refine fspec_intro hT (rbH rb) (rbH rb) 1 2 Try.func18 (by decide) rfl rfl (by kernel_rfl) rfl rfl ?_
  refine Tri.seq (Tri.reg hT ?_)
  refine Tri.seq (Tri.reg hT ?_)
  refine Tri.seq ?_
  refine Tri.seq (Tri.reg hT ?_)
  refine (Tri.block ?_)
  refine (Tri.loop (ι:=Nat) (fun i=>⟨26,1,10,[(0,.loc 0 0),(3,.int .i64 (sumL vLen (rb.xs.take i))),(4,.int .i64 (i:Int))],rbH rb,[]⟩) (fun i=>i≤rb.xs.length) (fun i=>rb.xs.length - i) (0) ?_ ?_ ?_)
  · exact Nat.zero_le _
  · exact Le.weak rfl rfl rfl rfl ⟨rfl,rfl,rfl,trivial⟩ ⟨rfl,rfl,trivial⟩
  · intro i hi
    refine Tri.seq ?_
    refine Tri.seq (Tri.reg hT ?_)
    refine (Tri.cond ⟨fun h1=>?_,fun h1=>?_⟩)
    · refine (Tri.skip ?_)
      refine Tri.seq (Tri.block ?_)
      have h1':=of_decide_eq_true h1;have hve:=hv _ (getD_mem (l:=rb.xs) (i:=i) (d:=rD) (by omega));have hls:=lenSum_le hve.1
      refine (Tri.reg hT ?_)
      refine ⟨(by have:=of_decide_eq_true h1;show 0≤(i:Int)∧(i:Int) < (rb.xs.length:Int);omega),?_⟩
      refine ⟨(by have:=of_decide_eq_true h1;show i < rb.xs.length;omega),?_⟩
      refine .inl (.inl ⟨_,fun _=>rfl,f33_spec (rPcs (rb.xs.getD i rD)) (by omega) (by omega),?_⟩)
      refine (Tri.reg hT ?_)
      have e:=sumL_next vLen rb.xs (i:=i) (by omega);have hbi:=hb (i + 1);rw [e] at hbi;have hbi':0≤sumL vLen (rb.xs.take i) + lenSum (rPcs (rb.xs.getD i rD))∧sumL vLen (rb.xs.take i) + lenSum (rPcs (rb.xs.getD i rD))≤4503599627370496:=hbi;exact ⟨i + 1,by omega,by omega,Le.weak rfl rfl rfl rfl ⟨rfl,congrArg (AV.int .i64) ((wrapId (by omega)).trans e.symm),iv1 (by omega),trivial⟩ ⟨rfl,rfl,trivial⟩⟩
    · refine Tri.exit ?_
      refine Tri.seq (Tri.reg hT ?_)
      refine Tri.ret ?_
      have h1':=of_decide_eq_false h1;exact ⟨congrArg (AV.int .i64) (by rw [List.take_of_length_le (by omega)]),rfl,rfl,trivial⟩
theorem f29_spec (rb:Rb) (f:Fg) (hl:rb.xs.length≤1099511627776):HSpec P [] 29 [.loc 0 0,fv f] (rbH rb) (.int .i64 (findX rb.xs f)) (rbH rb):=by
  refine fspec_intro hT (rbH rb) (rbH rb) 1 2 Try.func29 (by decide) rfl rfl (by kernel_rfl) rfl rfl ?_
  refine Tri.seq (Tri.reg hT ?_)
  refine Tri.seq ?_
  refine Tri.seq (Tri.reg hT ?_)
  refine (Tri.block ?_)
  refine (Tri.loop (ι:=Nat) (fun i=>⟨51,1,10,[(0,.loc 0 0),(3,.loc 2 0),(5,.int .i64 (i:Int))],[(2,.box (fgC f)),(0,.box (rbC rb 1)),(1,.arr rT rb.xs)],[]⟩) (fun i=>i≤rb.xs.length∧∀ j,j < i→sameK (rKey (rb.xs.getD j rD)) f = false) (fun i=>rb.xs.length - i) (0) ?_ ?_ ?_)
  · exact ⟨Nat.zero_le _,fun j hj=>absurd hj (by omega)⟩
  · exact Le.weak rfl rfl rfl rfl ⟨rfl,rfl,rfl,trivial⟩ ⟨rfl,rfl,rfl,trivial⟩
  · intro i hi
    refine Tri.seq ?_
    refine Tri.seq (Tri.reg hT ?_)
    refine (Tri.cond ⟨fun h1=>?_,fun h1=>?_⟩)
    · refine (Tri.skip ?_)
      refine Tri.seq (Tri.block ?_)
      refine Tri.seq (Tri.reg hT ?_)
      refine ⟨(by have:=of_decide_eq_true h1;show 0≤(i:Int)∧(i:Int) < (rb.xs.length:Int);omega),?_⟩
      refine ⟨(by have:=of_decide_eq_true h1;show i < rb.xs.length;omega),?_⟩
      refine Tri.seq (Tri.reg hT ?_)
      refine ⟨_,[],trivial,rfl,rfl,fun h=>⟨rfl,rfl,rfl⟩,?_⟩
      refine ⟨_,[],trivial,rfl,rfl,fun h=>⟨h,rfl,rfl,rfl⟩,?_⟩
      refine ⟨_,[],trivial,rfl,rfl,fun h=>⟨rfl,rfl,rfl⟩,?_⟩
      refine ⟨_,[],trivial,rfl,rfl,fun h=>⟨h,rfl,rfl,rfl⟩,?_⟩
      refine ⟨_,[],trivial,rfl,rfl,fun h=>⟨h,h,rfl,rfl,rfl⟩,?_⟩
      refine ⟨⟨fun hc=>hc,fun _=>trivial⟩,?_⟩
      refine ⟨_,[],trivial,rfl,rfl,fun h=>⟨rfl,rfl,rfl⟩,?_⟩
      refine ⟨_,[],trivial,rfl,rfl,fun h=>⟨h,rfl,rfl,rfl⟩,?_⟩
      refine ⟨_,[],trivial,rfl,rfl,fun h=>⟨rfl,rfl,rfl⟩,?_⟩
      refine ⟨_,[],trivial,rfl,rfl,fun h=>⟨h,rfl,rfl,rfl⟩,?_⟩
      refine ⟨_,[],trivial,rfl,rfl,fun h=>⟨h,h,rfl,rfl,rfl⟩,?_⟩
      refine ⟨⟨fun hc=>hc,fun _=>trivial⟩,?_⟩
      refine ⟨_,[],trivial,rfl,rfl,fun h=>⟨rfl,rfl,rfl⟩,?_⟩
      refine ⟨_,[],trivial,rfl,rfl,fun h=>⟨h,rfl,rfl,rfl⟩,?_⟩
      refine ⟨_,[],trivial,rfl,rfl,fun h=>⟨rfl,rfl,rfl⟩,?_⟩
      refine ⟨_,[],trivial,rfl,rfl,fun h=>⟨h,rfl,rfl,rfl⟩,?_⟩
      refine ⟨_,[],trivial,rfl,rfl,fun h=>⟨h,h,rfl,rfl,rfl⟩,?_⟩
      refine ⟨⟨fun hc=>hc,fun _=>trivial⟩,?_⟩
      refine (Tri.cond ⟨fun h2=>?_,fun h2=>?_⟩)
      · refine Tri.seq (Tri.reg hT ?_)
        refine Tri.ret ?_
        have h1':=of_decide_eq_true h1;have e:=find_at (xs:=rb.xs) (f:=f) (i:=i) (by omega) hi.2 h2;exact ⟨congrArg (AV.int .i64) e.symm,rfl,rfl,trivial⟩
      · refine (Tri.skip ?_)
        refine (Tri.reg hT ?_)
        have h1':=of_decide_eq_true h1;exact ⟨i + 1,⟨by omega,fun j hj=>by rcases Nat.lt_succ_iff_lt_or_eq.1 hj with q|q;exact hi.2 j q;rw [q];exact h2⟩,by omega,Le.weak rfl rfl rfl rfl ⟨rfl,rfl,iv1 (by omega),trivial⟩ ⟨rfl,rfl,rfl,trivial⟩⟩
    · refine Tri.exit ?_
      refine Tri.seq (Tri.reg hT ?_)
      refine Tri.ret ?_
      have h1':=of_decide_eq_false h1;have e:=find_no (xs:=rb.xs) (f:=f) (fun j hj=>hi.2 j (by have:=hi.1;omega));exact ⟨congrArg (AV.int .i64) e.symm,rfl,rfl,trivial⟩
end Go.Proofs.Ytfaplilocljknaa.Fx
