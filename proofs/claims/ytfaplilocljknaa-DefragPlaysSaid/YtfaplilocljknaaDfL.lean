import Derived.Test.YtfaplilocljknaaDfK
import Derived.Test.YtfaplilocljknaaGDf4
set_option linter.all false
namespace Go.Proofs.Ytfaplilocljknaa.Fx
open Go Go.Fw Go.Ov Go.Df
abbrev eraR (rb:Rb) (k:Nat):Rb:=⟨rb.timeout,rb.time,rb.conf,rb.xs.eraseIdx k⟩
theorem f52_spec (rb:Rb) (k:Nat) (hl:rb.xs.length≤1048576) :
    HSpec P [] 52 [.loc 0 0,.int .i64 (k:Int)] (rbH rb) (.tup []) (rbH (eraR rb k)):=by
  have hfl:∀ i,((rb.xs.take i).eraseIdx k).length≤rb.xs.length:=fun i=>by
    have:=List.length_eraseIdx_le (rb.xs.take i) k
    rw [List.length_take] at this
    omega
  refine fspec_intro hT (rbH rb) (rbH (eraR rb k)) 1 2 Try.func52 (by decide) rfl rfl (by kernel_rfl) rfl rfl (Tri.post ?_)
  refine Tri.seq (Tri.reg hT ?_)
  refine Tri.seq ?_
  refine Tri.seq (Tri.reg hT ?_)
  refine (Tri.block ?_)
  refine (Tri.loop (ι:=Nat) (fun i=>⟨32,1,5,[(0,.loc 0 0),(1,.int .i64 (k:Int)),(4,.own 4 ((rb.xs.take i).eraseIdx k).length),(5,.int .i64 (i:Int))],[(4,.arr rT ((rb.xs.take i).eraseIdx k)),(0,.box (rbC rb 1)),(1,.arr rT rb.xs)],[]⟩) (fun i=>i≤rb.xs.length) (fun i=>rb.xs.length - i) (0) ?_ ?_ ?_)
  · exact Nat.zero_le _
  · exact Le.trans (Le.own 4 rT rfl) (Le.weak rfl rfl rfl rfl ⟨rfl,rfl,rfl,rfl,trivial⟩ ⟨rfl,rfl,rfl,trivial⟩)
  · intro i hi
    refine Tri.seq ?_
    refine Tri.seq (Tri.reg hT ?_)
    refine (Tri.cond ⟨fun h1=>?_,fun h1=>?_⟩)
    · refine (Tri.skip ?_)
      refine Tri.seq (Tri.block ?_)
      have hiL:(i:Int) < (rb.xs.length:Int):=of_decide_eq_true h1;have hfi:=hfl i;have e:=erase_next rb.xs k (i:=i) (by omega)
      refine Tri.seq (Tri.reg hT ?_)
      refine (Tri.cond ⟨fun h2=>?_,fun h2=>?_⟩)
      · refine (Tri.reg hT ?_)
        refine ⟨(by show 0≤(i:Int)∧(i:Int) < (rb.xs.length:Int);omega),?_⟩
        refine ⟨(by show i < rb.xs.length;omega),?_⟩
        refine ⟨(Nat.le_refl _),by show _≤_∧(_ + 1) * 160≤_∧_ + 1≤_;omega,?_⟩
        refine (Tri.reg hT ?_)
        have h2':(i:Int)≠(k:Int):=of_decide_eq_true h2;rw [if_neg (by omega)] at e;exact ⟨i + 1,by omega,by omega,Le.weak rfl rfl rfl rfl ⟨rfl,rfl,congrArg (AV.own 4) (by rw [e,List.length_append];rfl),iv1 (by omega),trivial⟩ ⟨congrArg (fun l=>some (Chunk.arr rT l)) (by rw [e,List.take_length];rfl),rfl,rfl,trivial⟩⟩
      · refine (Tri.skip ?_)
        refine (Tri.reg hT ?_)
        have h2':¬ (i:Int)≠(k:Int):=of_decide_eq_false h2;rw [if_pos (by omega),List.append_nil] at e;exact ⟨i + 1,by omega,by omega,Le.weak rfl rfl rfl rfl ⟨rfl,rfl,congrArg (AV.own 4) (by rw [e]),iv1 (by omega),trivial⟩ ⟨congrArg (fun l=>some (Chunk.arr rT l)) (by rw [e]),rfl,rfl,trivial⟩⟩
    · refine Tri.exit ?_
      have h1':¬ (i:Int) < (rb.xs.length:Int):=of_decide_eq_false h1;have et:rb.xs.take i = rb.xs:=List.take_of_length_le (by omega)
      refine (Tri.reg hT ?_)
      exact ⟨⟨32,1,40,[],rbH (eraR rb k),[]⟩,Le.trans (Le.weak (S:=⟨32,1,40,[],[(0,.box (rbC (eraR rb k) 4)),(4,.arr rT (eraR rb k).xs)],[]⟩) rfl rfl rfl rfl trivial ⟨by show some (Chunk.box [.int .i64 rb.timeout,.int .i64 rb.time,.int .i64 rb.conf,.own 4 ((rb.xs.take i).eraseIdx k).length]) = _;rw [et],by show some (Chunk.arr rT ((rb.xs.take i).eraseIdx k)) = _;rw [et],trivial⟩) (Le.swap 4 1 rfl rfl rfl rfl rfl rfl rfl rfl),rfl,rfl,rfl,trivial⟩
theorem f15_spec (rb:Rb) (at_:Int) (hl:rb.xs.length≤1048576) (ht:0≤rb.time∧rb.time≤1099511627776) (htt:1≤rb.timeout∧rb.timeout≤1099511627776) :
    HSpec P [] 15 [.loc 0 0,.int .i64 at_] (rbH rb) (.int .i64 (sumL (vGone rb.timeout (min (max at_ rb.time) 1099511627776)) rb.xs)) (rbH (moveR rb (min (max at_ rb.time) 1099511627776))):=by
  refine fspec_intro hT (rbH rb) (rbH (moveR rb (min (max at_ rb.time) 1099511627776))) 1 2 Try.func15 (by decide) rfl rfl (by kernel_rfl) rfl rfl ?_
  refine Tri.seq (Tri.reg hT ?_)
  refine Tri.join (True) (⟨20,1,20,[(0,.loc 0 0),(1,.int .i64 (max at_ rb.time))],rbH rb,[]⟩) ?_ fun hp1=>?_
  · refine Tri.seq (Tri.reg hT ?_)
    refine (Tri.cond ⟨fun h1=>?_,fun h1=>?_⟩)
    · refine (Tri.reg hT ?_)
      have h1':=of_decide_eq_true h1;exact ⟨trivial,Le.weak rfl rfl rfl rfl ⟨rfl,congrArg (AV.int .i64) (by omega),trivial⟩ ⟨rfl,rfl,trivial⟩⟩
    · refine (Tri.skip ?_)
      have h1':=of_decide_eq_false h1;exact ⟨trivial,Le.weak rfl rfl rfl rfl ⟨rfl,congrArg (AV.int .i64) (by omega),trivial⟩ ⟨rfl,rfl,trivial⟩⟩
  · refine Tri.join (True) (⟨20,1,40,[(0,.loc 0 0),(1,.int .i64 (min (max at_ rb.time) 1099511627776))],rbH rb,[]⟩) ?_ fun hp2=>?_
    · refine Tri.seq (Tri.reg hT ?_)
      refine (Tri.cond ⟨fun h2=>?_,fun h2=>?_⟩)
      · refine (Tri.reg hT ?_)
        have h2':=of_decide_eq_true h2;exact ⟨trivial,Le.weak rfl rfl rfl rfl ⟨rfl,congrArg (AV.int .i64) (by omega),trivial⟩ ⟨rfl,rfl,trivial⟩⟩
      · refine (Tri.skip ?_)
        have h2':=of_decide_eq_false h2;exact ⟨trivial,Le.weak rfl rfl rfl rfl ⟨rfl,congrArg (AV.int .i64) (by omega),trivial⟩ ⟨rfl,rfl,trivial⟩⟩
    · refine Tri.seq (Tri.regM hT [2] ?_)
      refine ⟨_,Le.refl _,.inl (.inr (OpTri.hcall 1 rfl rfl rfl (f28_spec rb (min (max at_ rb.time) 1099511627776) hl (by omega) htt) trivial ⟨rfl,rfl,trivial⟩ rfl ?_))⟩
      refine Tri.ret ?_
      exact ⟨rfl,rfl,rfl,trivial⟩
end Go.Proofs.Ytfaplilocljknaa.Fx
