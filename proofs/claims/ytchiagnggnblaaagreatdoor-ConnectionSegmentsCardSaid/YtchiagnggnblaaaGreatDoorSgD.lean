import Derived.Test.YtchiagnggnblaaaGreatDoorSgC
set_option linter.all false
namespace Go.Proofs.YtchiagnggnblaaaGreatDoor.Ac
open Go Go.Fw Go.Proofs.YtchiagnggnblaaaGreatDoor.Fx
def G:Gl:=[(0,[.list (.int .i64) [3,6]])]
def has (a b:Int):Bool:=decide (bitop .i64 .and a b = b)
def diff (a b:Int):Int:=IntKind.i64.wrap (IntKind.i32.wrap (IntKind.u32.wrap (a - b)))
def beforeR (a b:Int):Bool:=decide (IntKind.u32.wrap (a - b)≥2147483648)
theorem f47_spec (a b:Int):PSpec P G 47 [.int .i64 a,.int .i64 b] (.bool (has a b)):=by
 refine pspec_intro hT Tryz.func47 (by decide) rfl rfl (by kernel_rfl) rfl ?_;refine Tri.seq (Tri.reg hT ?_);refine Tri.seq (Tri.reg hT ?_);refine Tri.ret ?_;exact ⟨rfl,trivial⟩
theorem f89_spec (a b:Int):PSpec P G 89 [.int .u32 a,.int .u32 b] (.int .i64 (diff a b)):=by
 refine pspec_intro hT Tryz.func89 (by decide) rfl rfl (by kernel_rfl) rfl ?_;refine Tri.seq (Tri.reg hT ?_);refine Tri.seq (Tri.reg hT ?_);refine Tri.ret ?_;exact ⟨rfl,trivial⟩
theorem f51_spec (a b:Int):PSpec P G 51 [.int .u32 a,.int .u32 b] (.bool (beforeR a b)):=by
 refine pspec_intro hT Tryz.func51 (by decide) rfl rfl (by kernel_rfl) rfl ?_;refine Tri.seq (Tri.reg hT ?_);refine Tri.seq (Tri.reg hT ?_);refine Tri.ret ?_;exact ⟨rfl,trivial⟩
theorem f69_spec (a b:Int):PSpec P G 69 [.int .u32 a,.int .u32 b] (.bool (decide (diff a b < 0))):=by
 refine pspec_intro hT Tryz.func69 (by decide) rfl rfl (by kernel_rfl) rfl ?_;refine Tri.seq (Tri.reg hT ?_);refine Tri.seq (Tri.reg hT ?_);refine .inl (.inl ⟨_,fun _=>rfl,f89_spec ..,?_⟩);refine Tri.ret ?_;exact ⟨rfl,trivial⟩
def valid (n:Int):Bool:=if decide (n≥1) then decide (n≤7) else false
theorem f93_spec (n:Int):PSpec P G 93 [.int .i64 n] (.bool (valid n)):=by
 refine pspec_intro hT Tryz.func93 (by decide) rfl rfl (by kernel_rfl) rfl ?_;refine Tri.seq (Tri.reg hT ?_);refine Tri.seq (Tri.reg hT ?_);refine ⟨_,[],trivial,rfl,rfl,fun h=>⟨rfl,rfl,rfl⟩,?_⟩;refine ⟨_,[],trivial,rfl,rfl,fun h=>⟨h,rfl,rfl,rfl⟩,?_⟩;refine ⟨⟨fun hc=>hc,fun _=>trivial⟩,?_⟩;refine Tri.ret ?_;exact ⟨rfl,trivial⟩
abbrev optT:Ty:=.cons (.int .i64) (.cons .str .nil)
abbrev tcpV (a b s k f w u:Int) (o:List optT.D) (p:List UInt8):AV:=.agg [.int .i64 a,.int .i64 b,.int .u32 s,.int .u32 k,.int .i64 f,.int .i64 w,.int .i64 u,.list optT o,.str p]
abbrev viewV (op:Bool) (nx sn w:Int) (st:Bool) (stamp:Int):AV:=.agg [.bool op,.int .u32 nx,.int .u32 sn,.int .i64 w,.bool st,.int .u32 stamp]
abbrev svcT:Ty:=.cons (.int .i64) (.cons (.int .i64) (.cons (.int .i64) .nil))
abbrev assetV (nm:List UInt8) (v6:Bool) (hi lo ln pol frag hops win:Int) (stamps:Bool) (val:Int) (sv:List svcT.D):AV:=
 .agg [.str nm,.bool v6,.int .u64 hi,.int .u64 lo,.int .i64 ln,.int .i64 pol,.int .i64 frag,.int .i64 hops,.int .i64 win,.bool stamps,.int .i64 val,.list svcT sv]
def flags (f:Int):Bool:=if has f 3 || has f 6 then false else decide (bitop .i64 .and f 22≠0)
def flagsR (f:Int):Bool:=if has f 2 && (has f 1 || has f 4) then false else has f 2 || has f 4 || has f 16
theorem f28_spec (f:Int):PSpec P G 28 [.int .i64 f] (.bool (flagsR f)):=by
 refine pspec_intro hT Tryz.func28 (by decide) rfl rfl (by kernel_rfl) rfl ?_;refine Tri.seq (Tri.reg hT ?_);refine Tri.seq ?_;refine Tri.seq (Tri.reg hT ?_);refine .inl (.inl ⟨_,fun _=>rfl,f47_spec ..,?_⟩);refine ⟨_,[],trivial,rfl,rfl,fun h=>⟨rfl,rfl,rfl⟩,?_⟩;refine ⟨_,[],trivial,rfl,rfl,fun h=>⟨h,(.inl ⟨_,fun _=>rfl,f47_spec ..,rfl,rfl,rfl⟩)⟩,?_⟩;refine ⟨_,[],trivial,rfl,rfl,fun h=>⟨h,rfl,rfl,rfl⟩,?_⟩;refine ⟨_,[],trivial,rfl,rfl,fun h=>⟨rfl,rfl,rfl⟩,?_⟩;refine ⟨_,[],trivial,rfl,rfl,fun h=>⟨h,(.inl ⟨_,fun _=>rfl,f47_spec ..,rfl,rfl,rfl⟩)⟩,?_⟩;refine ⟨_,[],trivial,rfl,rfl,fun h=>⟨h,⟨fun _=>trivial,fun hc=>ga h (gn hc)⟩,rfl,rfl,rfl⟩,?_⟩;refine ⟨⟨fun hc=>hc,fun _=>trivial⟩,?_⟩;refine (Tri.cond ⟨fun h1=>?_,fun h1=>?_⟩)
 ·
  refine Tri.seq (Tri.reg hT ?_);refine Tri.ret ?_;exact ⟨congrArg AV.bool (by simp_all [flagsR]),trivial⟩
 ·
  refine (Tri.skip ?_);refine Tri.seq (Tri.reg hT ?_);refine .inl (.inl ⟨_,fun _=>rfl,f47_spec ..,?_⟩);refine ⟨_,[],trivial,rfl,rfl,fun h=>⟨rfl,rfl,rfl⟩,?_⟩;refine ⟨_,[],trivial,rfl,rfl,fun h=>⟨h,(.inl ⟨_,fun _=>rfl,f47_spec ..,rfl,rfl,rfl⟩)⟩,?_⟩;refine ⟨⟨fun _=>trivial,fun hc=>(gn hc)⟩,?_⟩;refine ⟨_,[],trivial,rfl,rfl,fun h=>⟨rfl,rfl,rfl⟩,?_⟩;refine ⟨_,[],trivial,rfl,rfl,fun h=>⟨h,(.inl ⟨_,fun _=>rfl,f47_spec ..,rfl,rfl,rfl⟩)⟩,?_⟩;refine ⟨⟨fun _=>trivial,fun hc=>(gn hc)⟩,?_⟩;refine Tri.ret ?_;exact ⟨congrArg AV.bool (by unfold flagsR;revert h1;cases has f 2 <;> cases has f 1 <;> cases has f 4 <;> simp),trivial⟩
theorem f22_spec (f:Int):PSpec P G 22 [.int .i64 f] (.bool (flags f)):=by
 refine pspec_intro hT Tryz.func22 (by decide) rfl rfl (by kernel_rfl) rfl ?_;refine Tri.seq (Tri.reg hT ?_);refine Tri.seq ?_;refine Tri.seq (Tri.reg hT ?_);refine (Tri.block ?_);refine (Tri.loop (ι:=Nat) (fun i=>⟨20,0,0,[(0,.int .i64 f),(2,.bool false),(5,.list (.int .i64) [3,6]),(6,.int .i64 2),(7,.int .i64 (i:Int))],[],G⟩) (fun i=>i≤2∧(1≤i→has f 3 = false)∧(2≤i→has f 6 = false)) (fun i=>2 - i) (0) ?_ ?_ ?_)
 ·
  exact ⟨by omega,fun h=>by omega,fun h=>by omega⟩
 ·
  exact Le.weak rfl rfl rfl rfl ⟨rfl,rfl,rfl,rfl,rfl,trivial⟩ trivial
 ·
  intro i hi;refine Tri.seq (Tri.reg hT ?_);refine Tri.seq (Tri.cond ⟨fun h1=>?_,fun h1=>?_⟩)
  ·
   refine (Tri.skip ?_);refine Tri.seq (Tri.block ?_);refine Tri.seq (Tri.reg hT ?_);refine ⟨⟨by simp only [List.length_cons,List.length_nil,decide_eq_true_eq] at h1 ⊢;omega,by simp only [List.length_cons,List.length_nil,decide_eq_true_eq] at h1 ⊢;omega⟩,?_⟩;refine Tri.seq (Tri.reg hT ?_);refine (Tri.cond ⟨fun h2=>?_,fun h2=>?_⟩)
   ·
    refine Tri.seq (Tri.reg hT ?_);refine Tri.ret ?_;exact ⟨congrArg AV.bool (by rcases (by simp at h1;omega:i = 0∨i = 1) with rfl|rfl <;> simp_all [flags,has,Ty.dflt]),trivial⟩
   ·
    refine (Tri.skip ?_);refine (Tri.reg hT ?_);refine ⟨i + 1,?_,by simp at h1;omega,Le.weak rfl rfl rfl rfl ⟨rfl,rfl,rfl,rfl,iv1 (by omega),trivial⟩ trivial⟩;rcases (by simp at h1;omega:i = 0∨i = 1) with rfl|rfl <;> simp_all [has,Ty.dflt]
  ·
   refine Tri.exit ?_;refine Tri.seq (Tri.reg hT ?_);refine Tri.ret ?_;exact ⟨congrArg AV.bool (by simp at h1;obtain rfl:i = 2:=(by omega);simp_all [flags]),trivial⟩
def packet (t:Int) (r:Bool) (hops:Int):Int:=if t < hops then 1 else if r then 2 else 0
end Go.Proofs.YtchiagnggnblaaaGreatDoor.Ac
namespace Go.Proofs.YtchiagnggnblaaaGreatDoor.Ac
open Go Go.Fw Go.Proofs.YtchiagnggnblaaaGreatDoor.Fx
def within (s n nx w:Int):Bool:=
 if min (max n 0) 1048576 = 0 then diff s nx = 0 || (diff s nx > 0 && diff s nx < min (max w 0) 1073741824)
 else min (max w 0) 1073741824 > 0 && diff s nx < min (max w 0) 1073741824 && IntKind.i64.wrap (diff s nx + min (max n 0) 1048576) > 0
def lowR (s nx n w:Int):Bool:=if IntKind.u32.wrap (s - nx) < IntKind.u32.wrap w then true else decide (IntKind.u32.wrap (nx - s) < IntKind.u32.wrap n)
def withinR (s n nx w:Int):Bool:=
 if n < 1∧s = nx then true
 else if w < 1 then false
 else lowR s nx (if (if n < 1 then 1 else n) > 1048576 then 1048576 else (if n < 1 then 1 else n)) (if w > 1073741824 then 1073741824 else w)
theorem f71_spec (s n:Int) (op:Bool) (nx sn w:Int) (st:Bool) (stamp:Int):PSpec P G 71 [.int .u32 s,.int .i64 n,viewV op nx sn w st stamp] (.bool (within s n nx w)):=by
 refine pspec_intro hT Tryz.func71 (by decide) rfl rfl (by kernel_rfl) rfl ?_;refine Tri.seq (Tri.reg hT ?_);refine Tri.seq (Tri.reg hT ?_);refine Tri.seq (Tri.reg hT ?_);refine Tri.seq (Tri.reg hT ?_);refine .inl (.inl ⟨_,fun _=>rfl,f89_spec ..,?_⟩);refine Tri.seq ?_;refine Tri.seq (Tri.reg hT ?_);refine (Tri.cond ⟨fun h1=>?_,fun h1=>?_⟩)
 ·
  refine Tri.seq (Tri.reg hT ?_);refine ⟨_,[],trivial,rfl,rfl,fun h=>⟨rfl,rfl,rfl⟩,?_⟩;refine ⟨_,[],trivial,rfl,rfl,fun h=>⟨h,rfl,rfl,rfl⟩,?_⟩;refine ⟨_,[],trivial,rfl,rfl,fun h=>⟨h,rfl,rfl,rfl⟩,?_⟩;refine ⟨_,[],trivial,rfl,rfl,fun h=>⟨rfl,rfl,rfl⟩,?_⟩;refine ⟨_,[],trivial,rfl,rfl,fun h=>⟨rfl,rfl,rfl⟩,?_⟩;refine ⟨_,[],trivial,rfl,rfl,fun h=>⟨h,h,rfl,rfl,rfl⟩,?_⟩;refine ⟨_,[],trivial,rfl,rfl,fun h=>⟨h,⟨fun hc=>ga h hc,fun _=>trivial⟩,rfl,rfl,rfl⟩,?_⟩;refine ⟨⟨fun _=>trivial,fun hc=>(gn hc)⟩,?_⟩;refine Tri.ret ?_;exact ⟨congrArg AV.bool (by simp_all [within]),trivial⟩
 ·
  refine (Tri.skip ?_);refine Tri.seq (Tri.reg hT ?_);refine ⟨_,[],trivial,rfl,rfl,fun h=>⟨rfl,rfl,rfl⟩,?_⟩;refine ⟨_,[],trivial,rfl,rfl,fun h=>⟨rfl,rfl,rfl⟩,?_⟩;refine ⟨_,[],trivial,rfl,rfl,fun h=>⟨h,h,rfl,rfl,rfl⟩,?_⟩;refine ⟨⟨fun hc=>hc,fun _=>trivial⟩,?_⟩;refine ⟨_,[],trivial,rfl,rfl,fun h=>⟨rfl,rfl,rfl⟩,?_⟩;refine ⟨_,[],trivial,rfl,rfl,fun h=>⟨rfl,rfl,rfl⟩,?_⟩;refine ⟨_,[],trivial,rfl,rfl,fun h=>⟨h,h,rfl,rfl,rfl⟩,?_⟩;refine ⟨_,[],trivial,rfl,rfl,fun h=>⟨h,rfl,rfl,rfl⟩,?_⟩;refine ⟨⟨fun hc=>hc,fun _=>trivial⟩,?_⟩;refine Tri.ret ?_;exact ⟨congrArg AV.bool (by simp_all [within]),trivial⟩
theorem f53_spec (s n:Int) (op:Bool) (nx sn w:Int) (st:Bool) (stamp:Int):PSpec P G 53 [.int .u32 s,.int .i64 n,viewV op nx sn w st stamp] (.bool (withinR s n nx w)):=by
 refine pspec_intro hT Tryz.func53 (by decide) rfl rfl (by kernel_rfl) rfl ?_;refine Tri.seq (Tri.reg hT ?_);refine Tri.join (¬ (n < 1∧s = nx)) (⟨38,0,1,[(0,.int .u32 s),(1,.int .i64 (if n < 1 then 1 else n)),(5,.loc 0 0)],[(0,.box [.bool op,.int .u32 nx,.int .u32 sn,.int .i64 w,.bool st,.int .u32 stamp])],G⟩) ?_ fun hp1=>?_
 ·
  refine Tri.seq (Tri.reg hT ?_);refine (Tri.cond ⟨fun h1=>?_,fun h1=>?_⟩)
  ·
   refine Tri.seq (Tri.reg hT ?_);refine Tri.seq (Tri.reg hT ?_);refine (Tri.cond ⟨fun h2=>?_,fun h2=>?_⟩)
   ·
    refine Tri.seq (Tri.reg hT ?_);refine Tri.ret ?_;simp only [decide_eq_true_eq,decide_eq_false_iff_not] at *;refine ⟨congrArg AV.bool (?_:_ = withinR s n nx w),trivial⟩;first|(rw [withinR,if_pos ⟨by assumption,by assumption⟩];done)|(simp only [withinR,lowR,if_neg hp1,if_false,if_true,decide_eq_true_eq, *];done)
   ·
    refine (Tri.skip ?_);exact ⟨by simp_all;try omega,Le.weak rfl rfl rfl rfl ⟨rfl,congrArg (AV.int .i64) (by simp_all;try omega),rfl,trivial⟩ ⟨rfl,trivial⟩⟩
  ·
   refine (Tri.skip ?_);exact ⟨by simp_all;try omega,Le.weak rfl rfl rfl rfl ⟨rfl,congrArg (AV.int .i64) (by simp_all;try omega),rfl,trivial⟩ ⟨rfl,trivial⟩⟩
 ·
  refine Tri.seq ?_;refine Tri.seq (Tri.reg hT ?_);refine (Tri.cond ⟨fun h3=>?_,fun h3=>?_⟩)
  ·
   refine (Tri.reg hT ?_);refine Tri.seq (Tri.reg hT ?_);refine Tri.seq ?_;refine Tri.seq (Tri.reg hT ?_);refine (Tri.cond ⟨fun h4=>?_,fun h4=>?_⟩)
   ·
    refine Tri.seq (Tri.reg hT ?_);refine Tri.ret ?_;simp only [decide_eq_true_eq,decide_eq_false_iff_not] at *;refine ⟨congrArg AV.bool (?_:_ = withinR s n nx w),trivial⟩;first|(rw [withinR,if_pos ⟨by assumption,by assumption⟩];done)|(simp only [withinR,lowR,if_neg hp1,if_false,if_true,decide_eq_true_eq, *];done)
   ·
    refine (Tri.skip ?_);refine Tri.seq ?_;refine Tri.seq (Tri.reg hT ?_);refine (Tri.cond ⟨fun h5=>?_,fun h5=>?_⟩)
    ·
     refine (Tri.reg hT ?_);refine Tri.seq (Tri.reg hT ?_);refine ⟨_,[],trivial,rfl,rfl,fun h=>⟨rfl,rfl,rfl⟩,?_⟩;refine ⟨_,[],trivial,rfl,rfl,fun h=>⟨h,rfl,rfl,rfl⟩,?_⟩;refine ⟨_,[],trivial,rfl,rfl,fun h=>⟨rfl,rfl,rfl⟩,?_⟩;refine ⟨_,[],trivial,rfl,rfl,fun h=>⟨h,h,rfl,rfl,rfl⟩,?_⟩;refine ⟨_,[],trivial,rfl,rfl,fun h=>⟨rfl,rfl,rfl⟩,?_⟩;refine ⟨_,[],trivial,rfl,rfl,fun h=>⟨h,rfl,rfl,rfl⟩,?_⟩;refine ⟨_,[],trivial,rfl,rfl,fun h=>⟨h,h,rfl,rfl,rfl⟩,?_⟩;refine ⟨⟨fun _=>trivial,fun hc=>(gn hc)⟩,?_⟩;refine Tri.ret ?_;simp only [decide_eq_true_eq,decide_eq_false_iff_not] at *;refine ⟨congrArg AV.bool (?_:_ = withinR s n nx w),trivial⟩;first|(rw [withinR,if_pos ⟨by assumption,by assumption⟩];done)|(simp only [withinR,lowR,if_neg hp1,if_false,if_true,decide_eq_true_eq, *];done)
    ·
     refine (Tri.skip ?_);refine Tri.seq (Tri.reg hT ?_);refine ⟨_,[],trivial,rfl,rfl,fun h=>⟨rfl,rfl,rfl⟩,?_⟩;refine ⟨_,[],trivial,rfl,rfl,fun h=>⟨h,rfl,rfl,rfl⟩,?_⟩;refine ⟨_,[],trivial,rfl,rfl,fun h=>⟨rfl,rfl,rfl⟩,?_⟩;refine ⟨_,[],trivial,rfl,rfl,fun h=>⟨h,h,rfl,rfl,rfl⟩,?_⟩;refine ⟨_,[],trivial,rfl,rfl,fun h=>⟨rfl,rfl,rfl⟩,?_⟩;refine ⟨_,[],trivial,rfl,rfl,fun h=>⟨h,rfl,rfl,rfl⟩,?_⟩;refine ⟨_,[],trivial,rfl,rfl,fun h=>⟨h,h,rfl,rfl,rfl⟩,?_⟩;refine ⟨⟨fun _=>trivial,fun hc=>(gn hc)⟩,?_⟩;refine Tri.ret ?_;simp only [decide_eq_true_eq,decide_eq_false_iff_not] at *;refine ⟨congrArg AV.bool (?_:_ = withinR s n nx w),trivial⟩;first|(rw [withinR,if_pos ⟨by assumption,by assumption⟩];done)|(simp only [withinR,lowR,if_neg hp1,if_false,if_true,decide_eq_true_eq, *];done)
  ·
   refine (Tri.skip ?_);refine Tri.seq (Tri.reg hT ?_);refine Tri.seq ?_;refine Tri.seq (Tri.reg hT ?_);refine (Tri.cond ⟨fun h6=>?_,fun h6=>?_⟩)
   ·
    refine Tri.seq (Tri.reg hT ?_);refine Tri.ret ?_;simp only [decide_eq_true_eq,decide_eq_false_iff_not] at *;refine ⟨congrArg AV.bool (?_:_ = withinR s n nx w),trivial⟩;first|(rw [withinR,if_pos ⟨by assumption,by assumption⟩];done)|(simp only [withinR,lowR,if_neg hp1,if_false,if_true,decide_eq_true_eq, *];done)
   ·
    refine (Tri.skip ?_);refine Tri.seq ?_;refine Tri.seq (Tri.reg hT ?_);refine (Tri.cond ⟨fun h7=>?_,fun h7=>?_⟩)
    ·
     refine (Tri.reg hT ?_);refine Tri.seq (Tri.reg hT ?_);refine ⟨_,[],trivial,rfl,rfl,fun h=>⟨rfl,rfl,rfl⟩,?_⟩;refine ⟨_,[],trivial,rfl,rfl,fun h=>⟨h,rfl,rfl,rfl⟩,?_⟩;refine ⟨_,[],trivial,rfl,rfl,fun h=>⟨rfl,rfl,rfl⟩,?_⟩;refine ⟨_,[],trivial,rfl,rfl,fun h=>⟨h,h,rfl,rfl,rfl⟩,?_⟩;refine ⟨_,[],trivial,rfl,rfl,fun h=>⟨rfl,rfl,rfl⟩,?_⟩;refine ⟨_,[],trivial,rfl,rfl,fun h=>⟨h,rfl,rfl,rfl⟩,?_⟩;refine ⟨_,[],trivial,rfl,rfl,fun h=>⟨h,h,rfl,rfl,rfl⟩,?_⟩;refine ⟨⟨fun _=>trivial,fun hc=>(gn hc)⟩,?_⟩;refine Tri.ret ?_;simp only [decide_eq_true_eq,decide_eq_false_iff_not] at *;refine ⟨congrArg AV.bool (?_:_ = withinR s n nx w),trivial⟩;first|(rw [withinR,if_pos ⟨by assumption,by assumption⟩];done)|(simp only [withinR,lowR,if_neg hp1,if_false,if_true,decide_eq_true_eq, *];done)
    ·
     refine (Tri.skip ?_);refine Tri.seq (Tri.reg hT ?_);refine ⟨_,[],trivial,rfl,rfl,fun h=>⟨rfl,rfl,rfl⟩,?_⟩;refine ⟨_,[],trivial,rfl,rfl,fun h=>⟨h,rfl,rfl,rfl⟩,?_⟩;refine ⟨_,[],trivial,rfl,rfl,fun h=>⟨rfl,rfl,rfl⟩,?_⟩;refine ⟨_,[],trivial,rfl,rfl,fun h=>⟨h,h,rfl,rfl,rfl⟩,?_⟩;refine ⟨_,[],trivial,rfl,rfl,fun h=>⟨rfl,rfl,rfl⟩,?_⟩;refine ⟨_,[],trivial,rfl,rfl,fun h=>⟨h,rfl,rfl,rfl⟩,?_⟩;refine ⟨_,[],trivial,rfl,rfl,fun h=>⟨h,h,rfl,rfl,rfl⟩,?_⟩;refine ⟨⟨fun _=>trivial,fun hc=>(gn hc)⟩,?_⟩;refine Tri.ret ?_;simp only [decide_eq_true_eq,decide_eq_false_iff_not] at *;refine ⟨congrArg AV.bool (?_:_ = withinR s n nx w),trivial⟩;first|(rw [withinR,if_pos ⟨by assumption,by assumption⟩];done)|(simp only [withinR,lowR,if_neg hp1,if_false,if_true,decide_eq_true_eq, *];done)
def optionR (o:List optT.D) (k n:Int):List UInt8 × Bool:=
 match o.find? (fun x=>decide (x.1 = k)) with
 | some x=>(x.2.1,decide ((x.2.1.length:Int) = n))
 | none=>([],false)
theorem f78_spec (a b s k f w u:Int) (o:List optT.D) (p:List UInt8) (kind size:Int) (ho:o.length < 9223372036854775807) :
  PSpec P G 78 [tcpV a b s k f w u o p,.int .i64 kind,.int .i64 size] (.tup [.str (optionR o kind size).1,.bool (optionR o kind size).2]):=by
 refine pspec_intro hT Tryz.func78 (by decide) rfl rfl (by kernel_rfl) rfl ?_;refine Tri.seq (Tri.reg hT ?_);refine Tri.seq ?_;refine Tri.seq (Tri.reg hT ?_);refine (Tri.block ?_);refine (Tri.loop (ι:=Nat) (fun i=>⟨29,0,0,[(1,.int .i64 kind),(2,.int .i64 size),(6,.str []),(7,.bool false),(11,.list optT o),(12,.int .i64 o.length),(13,.int .i64 (i:Int))],[],G⟩) (fun i=>i≤o.length∧o.find? (fun x=>decide (x.1 = kind)) = (o.drop i).find? (fun x=>decide (x.1 = kind))) (fun i=>o.length - i) (0) ?_ ?_ ?_)
 ·
  exact ⟨by omega,rfl⟩
 ·
  exact Le.weak rfl rfl rfl rfl ⟨rfl,rfl,rfl,rfl,rfl,rfl,rfl,trivial⟩ trivial
 ·
  intro i hi;refine Tri.seq (Tri.reg hT ?_);refine Tri.seq (Tri.cond ⟨fun h1=>?_,fun h1=>?_⟩)
  ·
   refine (Tri.skip ?_);refine Tri.seq (Tri.block ?_);refine Tri.seq (Tri.reg hT ?_);refine ⟨by simp at h1 ⊢;omega,?_⟩;refine Tri.seq (Tri.reg hT ?_);refine (Tri.cond ⟨fun h2=>?_,fun h2=>?_⟩)
   ·
    refine Tri.seq (Tri.drw hT hm 8 (by kernel_rfl) ?_);refine ⟨by kernel_rfl,?_⟩;refine Tri.ret ?_;simp at h1;have hd:=drop_getD (Ty.dflt optT) (show i < o.length by omega);rw [toNat_cast] at h2;have hf:o.find? (fun x=>decide (x.1 = kind)) = some (o.getD i (Ty.dflt optT)):=(by rw [hi.2,hd,List.find?_cons_of_pos (p:=fun x:optT.D=>decide (x.1 = kind)) h2]);exact ⟨by simp only [optionR,hf];rfl,trivial⟩
   ·
    refine (Tri.skip ?_);refine (Tri.reg hT ?_);simp at h1;have hd:=drop_getD (Ty.dflt optT) (show i < o.length by omega);rw [toNat_cast] at h2;exact ⟨i + 1,⟨by omega,by rw [hi.2,hd,List.find?_cons_of_neg (p:=fun x:optT.D=>decide (x.1 = kind)) (by rw [Bool.not_eq_true];exact h2)]⟩,by omega,Le.weak rfl rfl rfl rfl ⟨rfl,rfl,rfl,rfl,rfl,rfl,iv1 (by omega),trivial⟩ trivial⟩
  ·
   refine Tri.exit ?_;refine Tri.seq (Tri.reg hT ?_);refine Tri.ret ?_;simp at h1;exact ⟨by simp only [optionR,hi.2,List.drop_of_length_le h1,List.find?_nil];rfl,trivial⟩
def num (l:List Int):Int:=l.foldl (fun n b=>bitop .i64 .or (IntKind.i64.wrap (n * 256)) (IntKind.i64.wrap b)) 0
theorem f95_spec (l:List Int) (hl:l.length < 9223372036854775807):PSpec P G 95 [.list (.int .u8) l] (.int .i64 (num l)):=by
 refine pspec_intro hT Tryz.func95 (by decide) rfl rfl (by kernel_rfl) rfl ?_;refine Tri.seq (Tri.reg hT ?_);refine Tri.seq (Tri.reg hT ?_);refine Tri.seq ?_;refine Tri.seq (Tri.reg hT ?_);refine (Tri.block ?_);refine (Tri.loop (ι:=Nat) (fun i=>⟨19,0,0,[(3,.int .i64 (num (l.take i))),(6,.list (.int .u8) l),(7,.int .i64 l.length),(8,.int .i64 (i:Int))],[],G⟩) (fun i=>i≤l.length) (fun i=>l.length - i) (0) ?_ ?_ ?_)
 ·
  exact Nat.zero_le _
 ·
  exact Le.weak rfl rfl rfl rfl ⟨rfl,rfl,rfl,rfl,trivial⟩ trivial
 ·
  intro i hi;refine Tri.seq (Tri.reg hT ?_);refine Tri.seq (Tri.cond ⟨fun h1=>?_,fun h1=>?_⟩)
  ·
   refine (Tri.skip ?_);refine Tri.seq (Tri.block ?_);refine Tri.seq (Tri.reg hT ?_);refine ⟨by simp at h1 ⊢;omega,?_⟩;refine (Tri.reg hT ?_);refine ⟨(by decide),?_⟩;refine (Tri.reg hT ?_);simp at h1;refine ⟨i + 1,by omega,by omega,Le.weak rfl rfl rfl rfl ⟨congrArg (AV.int .i64) ?_,rfl,rfl,iv1 (by omega),trivial⟩ trivial⟩;rw [take_getD (Ty.dflt (.int .u8)) h1];simp only [num,List.foldl_append,List.foldl_cons,List.foldl_nil];rfl
  ·
   refine Tri.exit ?_;refine Tri.seq (Tri.reg hT ?_);refine Tri.ret ?_;simp at h1;exact ⟨congrArg (AV.int .i64) (by rw [List.take_of_length_le h1]),trivial⟩
theorem f94_spec (s:List UInt8) (at_ n:Int) (hv:valid n = true) (h0:0≤at_) (hL:at_ + n≤s.length) (hs:s.length≤140737488355328) :
  PSpec P G 94 [.str s,.int .i64 at_,.int .i64 n] (.tup [.list (.int .u8) (((intsOf s).take (at_ + n).toNat).drop at_.toNat),.int .i64 0]):=by
 have hn:1≤n∧n≤7:=by simpa [valid] using hv
 have hw:IntKind.i64.wrap (at_ + n) = at_ + n:=wrapId (by omega);have hw2:IntKind.i64.wrap (s.length - at_) = s.length - at_:=wrapId (by omega);have hlen:(intsOf s).length = s.length:=by simp [intsOf]
 have htk:(intsOf s).take s.length = intsOf s:=by rw [← hlen,List.take_length]
 refine pspec_intro hT Tryz.func94 (by decide) rfl rfl (by kernel_rfl) rfl ?_;refine Tri.seq (Tri.reg hT ?_);refine Tri.seq (Tri.block ?_);refine Tri.seq (Tri.reg hT ?_);refine .inl (.inl ⟨_,fun _=>rfl,f93_spec ..,?_⟩);refine ⟨_,[],trivial,rfl,rfl,fun h=>⟨rfl,rfl,rfl⟩,?_⟩;refine ⟨_,[],trivial,rfl,rfl,fun h=>⟨h,rfl,rfl,rfl⟩,?_⟩;refine ⟨⟨fun _=>trivial,fun hc=>(gn hc)⟩,?_⟩;refine (Tri.cond ⟨fun h1=>?_,fun h1=>?_⟩)
 ·
  rw [hv] at h1;simp at h1;omega
 ·
  refine Tri.seq (Tri.reg hT ?_);refine ⟨_,[],trivial,rfl,rfl,fun h=>⟨rfl,rfl,rfl⟩,?_⟩;refine ⟨_,[],trivial,rfl,rfl,fun h=>⟨h,rfl,rfl,rfl⟩,?_⟩;refine ⟨_,[],trivial,rfl,rfl,fun h=>⟨rfl,rfl,rfl⟩,?_⟩;refine ⟨_,[],trivial,rfl,rfl,fun h=>⟨h,h,rfl,rfl,rfl⟩,?_⟩;refine ⟨_,[],trivial,rfl,rfl,fun h=>⟨rfl,rfl,rfl⟩,?_⟩;refine ⟨_,[],trivial,rfl,rfl,fun h=>⟨h,h,rfl,rfl,rfl⟩,?_⟩;refine ⟨⟨fun _=>trivial,fun hc=>(gn hc)⟩,?_⟩;refine (Tri.cond ⟨fun h2=>?_,fun h2=>?_⟩)
  ·
   rw [hw2] at h2;simp at h2;omega
  ·
   refine (Tri.skip ?_);refine Tri.seq (Tri.reg hT ?_);refine ⟨⟨_,rfl⟩,by omega,?_⟩;refine Tri.le ⟨41,0,0,[(1,.int .i64 at_),(2,.int .i64 n),(8,.list (.int .u8) (intsOf s))],[],G⟩ (Le.trans (Le.freeze 8 _ _ rfl rfl (by rw [hlen];exact Nat.le_refl _)) (Le.weak rfl rfl rfl rfl ⟨rfl,rfl,congrArg (AV.list (.int .u8)) htk,trivial⟩ trivial)) ?_;refine Tri.seq (Tri.reg hT ?_);refine ⟨by rw [hw,hlen];omega,?_⟩;refine Tri.ret ?_;exact ⟨by rw [hw];rfl,trivial⟩
end Go.Proofs.YtchiagnggnblaaaGreatDoor.Ac
namespace Go.Proofs.YtchiagnggnblaaaGreatDoor.Ac
open Go Go.Fw Go.Proofs.YtchiagnggnblaaaGreatDoor.Fx
theorem intsOf_take (s:List UInt8) (n:Nat):(intsOf s).take n = intsOf (s.take n):=by simp [intsOf]
theorem f79_spec (s:List UInt8) (at_ n:Int) (hv:valid n = true) (h0:0≤at_) (hL:at_ + n≤s.length) (hs:s.length≤140737488355328) :
  PSpec P G 79 [.str s,.int .i64 at_,.int .i64 n] (.tup [.int .i64 (num (intsOf ((s.take (at_ + n).toNat).drop at_.toNat))),.int .i64 0]):=by
 have hn:1≤n∧n≤7:=by simpa [valid] using hv
 have hw:IntKind.i64.wrap (at_ + n) = at_ + n:=wrapId (by omega);have hw2:IntKind.i64.wrap (s.length - at_) = s.length - at_:=wrapId (by omega);have hl:((s.take (at_ + n).toNat).drop at_.toNat).length = n.toNat:=by simp;omega
 have he:(intsOf ((s.take (at_ + n).toNat).drop at_.toNat)).take (0 + n).toNat = intsOf ((s.take (at_ + n).toNat).drop at_.toNat):=by
  rw [intsOf_take,List.take_of_length_le (by omega)]
 refine pspec_intro hT Tryz.func79 (by decide) rfl rfl (by kernel_rfl) rfl ?_;refine Tri.seq (Tri.reg hT ?_);refine Tri.seq ?_;refine Tri.seq (Tri.reg hT ?_);refine .inl (.inl ⟨_,fun _=>rfl,f93_spec ..,?_⟩);refine ⟨_,[],trivial,rfl,rfl,fun h=>⟨rfl,rfl,rfl⟩,?_⟩;refine ⟨_,[],trivial,rfl,rfl,fun h=>⟨h,rfl,rfl,rfl⟩,?_⟩;refine ⟨⟨fun hc=>hc,fun _=>trivial⟩,?_⟩;refine ⟨_,[],trivial,rfl,rfl,fun h=>⟨rfl,rfl,rfl⟩,?_⟩;refine ⟨_,[],trivial,rfl,rfl,fun h=>⟨rfl,rfl,rfl⟩,?_⟩;refine ⟨_,[],trivial,rfl,rfl,fun h=>⟨h,rfl,rfl,rfl⟩,?_⟩;refine ⟨_,[],trivial,rfl,rfl,fun h=>⟨h,h,rfl,rfl,rfl⟩,?_⟩;refine ⟨⟨fun hc=>hc,fun _=>trivial⟩,?_⟩;refine ⟨_,[],trivial,rfl,rfl,fun h=>⟨rfl,rfl,rfl⟩,?_⟩;refine ⟨_,[],trivial,rfl,rfl,fun h=>⟨h,rfl,rfl,rfl⟩,?_⟩;refine ⟨_,[],trivial,rfl,rfl,fun h=>⟨rfl,rfl,rfl⟩,?_⟩;refine ⟨_,[],trivial,rfl,rfl,fun h=>⟨h,h,rfl,rfl,rfl⟩,?_⟩;refine ⟨_,[],trivial,rfl,rfl,fun h=>⟨rfl,rfl,rfl⟩,?_⟩;refine ⟨_,[],trivial,rfl,rfl,fun h=>⟨h,h,rfl,rfl,rfl⟩,?_⟩;refine ⟨⟨fun hc=>hc,fun _=>trivial⟩,?_⟩;refine (Tri.cond ⟨fun h1=>?_,fun h1=>?_⟩)
 ·
  refine (Tri.reg hT ?_);refine ⟨by rw [hw];omega,?_⟩;refine Tri.seq (Tri.reg hT ?_);refine .inl (.inl ⟨_,fun _=>rfl,f94_spec _ _ _ hv (by decide) (by rw [hw,hl];omega) (by rw [hw,hl];omega),?_⟩);refine Tri.seq (Tri.reg hT ?_);refine .inl (.inl ⟨_,fun _=>rfl,f95_spec _ (by simp [intsOf];omega),?_⟩);refine Tri.ret ?_;exact ⟨by rw [hw,he];rfl,trivial⟩
 ·
  rw [hv,hw2] at h1;simp at h1;omega
def stampsA (o:List optT.D):Int × Int × Bool:=
 if (optionR o 8 8).2 = true then (IntKind.u32.wrap (num (intsOf (((optionR o 8 8).1.take 4).drop 0))),IntKind.u32.wrap (num (intsOf (((optionR o 8 8).1.take 8).drop 4))),true) else (0,0,false)
theorem optionR_len {o:List optT.D} {k n:Int} (h:(optionR o k n).2 = true):((optionR o k n).1.length:Int) = n:=by
 unfold optionR at h ⊢
 split at h <;> simp_all
theorem f45_spec (a b s k f w u:Int) (o:List optT.D) (p:List UInt8) (ho:o.length < 9223372036854775807) :
  PSpec P G 45 [tcpV a b s k f w u o p] (.tup [.int .u32 (stampsA o).1,.int .u32 (stampsA o).2.1,.bool (stampsA o).2.2]):=by
 refine pspec_intro hT Tryz.func45 (by decide) rfl rfl (by kernel_rfl) rfl ?_;refine Tri.seq (Tri.reg hT ?_);refine Tri.seq (Tri.reg hT ?_);refine .inl (.inl ⟨_,fun _=>rfl,f78_spec _ _ _ _ _ _ _ _ _ _ _ ho,?_⟩);refine Tri.seq ?_;refine Tri.seq (Tri.reg hT ?_);refine (Tri.cond ⟨fun h1=>?_,fun h1=>?_⟩)
 ·
  refine Tri.seq (Tri.reg hT ?_);refine Tri.ret ?_;simp at h1;exact ⟨by simp only [stampsA,h1];rfl,trivial⟩
 ·
  refine (Tri.skip ?_);refine Tri.seq (Tri.reg hT ?_);refine .inl (.inl ⟨_,fun _=>rfl,f79_spec _ _ _ (by decide) (by decide) (by simp at h1;have:=optionR_len h1;omega) (by simp at h1;have:=optionR_len h1;omega),?_⟩);refine Tri.seq (Tri.reg hT ?_);refine .inl (.inl ⟨_,fun _=>rfl,f79_spec _ _ _ (by decide) (by decide) (by simp at h1;have:=optionR_len h1;omega) (by simp at h1;have:=optionR_len h1;omega),?_⟩);refine Tri.seq (Tri.reg hT ?_);refine Tri.ret ?_;simp at h1;exact ⟨by simp only [stampsA,h1];rfl,trivial⟩
def oldA (o:List optT.D) (stamp:Int):Bool:=!(stampsA o).2.2 || decide (diff (stampsA o).1 stamp < 0)
theorem f70_spec (a b s k f w u:Int) (o:List optT.D) (p:List UInt8) (stamp:Int) (ho:o.length < 9223372036854775807) :
  PSpec P G 70 [tcpV a b s k f w u o p,.int .u32 stamp] (.bool (oldA o stamp)):=by
 refine pspec_intro hT Tryz.func70 (by decide) rfl rfl (by kernel_rfl) rfl ?_;refine Tri.seq (Tri.reg hT ?_);refine Tri.seq (Tri.reg hT ?_);refine .inl (.inl ⟨_,fun _=>rfl,f45_spec _ _ _ _ _ _ _ _ _ ho,?_⟩);refine Tri.seq (Tri.reg hT ?_);refine ⟨_,[],trivial,rfl,rfl,fun h=>⟨rfl,rfl,rfl⟩,?_⟩;refine ⟨_,[],trivial,rfl,rfl,fun h=>⟨rfl,rfl,rfl⟩,?_⟩;refine ⟨_,[],trivial,rfl,rfl,fun h=>⟨h,h,(.inl ⟨_,fun _=>rfl,f69_spec ..,rfl,rfl,rfl⟩)⟩,?_⟩;refine ⟨⟨fun _=>trivial,fun hc=>(gn hc)⟩,?_⟩;refine Tri.ret ?_;exact ⟨congrArg AV.bool (by simp [oldA]),trivial⟩
def byteI (d:List UInt8) (i:Nat):Int:=((d.getD i 0).toNat:Int)
def u32add (a b:Int):Int:=IntKind.u32.wrap (a + b)
def fourR (d:List UInt8):Int:=u32add (u32add (u32add (IntKind.u32.wrap (IntKind.u32.wrap (byteI d 0) * 16777216)) (IntKind.u32.wrap (IntKind.u32.wrap (byteI d 1) * 65536))) (IntKind.u32.wrap (IntKind.u32.wrap (byteI d 2) * 256))) (IntKind.u32.wrap (byteI d 3))
def stampR (o:List optT.D):Int × Bool:=
 match o.find? (fun x=>decide (x.1 = 8)) with
 | some x=>if x.2.1.length = 8 then (fourR x.2.1,true) else (0,false)
 | none=>(0,false)
theorem stampAt {o:List optT.D} {i:Nat} (h:o.find? (fun x=>decide (x.1 = 8)) = (o.drop i).find? (fun x=>decide (x.1 = 8))) (hi:i < o.length) (hk:(o.getD i (Ty.dflt optT)).1 = 8) :
  stampR o = if (o.getD i (Ty.dflt optT)).2.1.length = 8 then (fourR (o.getD i (Ty.dflt optT)).2.1,true) else (0,false):=by
 rw [drop_getD (Ty.dflt optT) hi,List.find?_cons_of_pos (p:=fun x:optT.D=>decide (x.1 = 8)) (by simpa using hk)] at h;simp only [stampR,h]
theorem f52_spec (o:List optT.D) (ho:o.length < 9223372036854775807):PSpec P G 52 [.list optT o] (.tup [.int .u32 (stampR o).1,.bool (stampR o).2]):=by
 refine pspec_intro hT Tryz.func52 (by decide) rfl rfl (by kernel_rfl) rfl ?_;refine Tri.seq (Tri.reg hT ?_);refine Tri.seq ?_;refine Tri.seq (Tri.reg hT ?_);refine (Tri.block ?_);refine (Tri.loop (ι:=Nat) (fun i=>⟨44,0,0,[(0,.list optT o),(2,.int .u32 0),(3,.bool false),(4,.int .i64 (i:Int))],[],G⟩) (fun i=>i≤o.length∧o.find? (fun x=>decide (x.1 = 8)) = (o.drop i).find? (fun x=>decide (x.1 = 8))) (fun i=>o.length - i) (0) ?_ ?_ ?_)
 ·
  exact ⟨by omega,rfl⟩
 ·
  exact Le.weak rfl rfl rfl rfl ⟨rfl,rfl,rfl,rfl,trivial⟩ trivial
 ·
  intro i hi;refine Tri.seq ?_;refine Tri.seq (Tri.reg hT ?_);refine (Tri.cond ⟨fun h1=>?_,fun h1=>?_⟩)
  ·
   refine (Tri.skip ?_);refine Tri.seq (Tri.block ?_);refine Tri.seq ?_;refine Tri.seq (Tri.reg hT ?_);refine ⟨by simp at h1 ⊢;omega,?_⟩;refine (Tri.cond ⟨fun h2=>?_,fun h2=>?_⟩)
   ·
    refine Tri.exit ?_;refine (Tri.reg hT ?_);simp at h1;have hd:=drop_getD (Ty.dflt optT) (show i < o.length by omega);rw [toNat_cast] at h2;exact ⟨i + 1,⟨by omega,by rw [hi.2,hd,List.find?_cons_of_neg (p:=fun x:optT.D=>decide (x.1 = 8)) (by simpa using h2)]⟩,by omega,Le.weak rfl rfl rfl rfl ⟨rfl,rfl,rfl,iv1 (by omega),trivial⟩ trivial⟩
   ·
    refine (Tri.skip ?_);refine Tri.seq (Tri.reg hT ?_);refine ⟨by simp at h1 ⊢;omega,?_⟩;refine Tri.seq ?_;refine Tri.seq (Tri.reg hT ?_);refine (Tri.cond ⟨fun h3=>?_,fun h3=>?_⟩)
    ·
     refine Tri.seq (Tri.reg hT ?_);refine Tri.ret ?_;have h3':=of_decide_eq_true h3;exact ⟨by rw [stampAt hi.2 (by simpa using h1) (by simpa using h2),if_neg (fun e=>h3' (by rw [toNat_cast,e];rfl))];rfl,trivial⟩
    ·
     refine (Tri.skip ?_);refine Tri.seq (Tri.drw hT hm 18 (by kernel_rfl) ?_);refine ⟨by have:=of_decide_eq_false h3;omega,?_⟩;refine ⟨by have:=of_decide_eq_false h3;omega,?_⟩;refine ⟨by have:=of_decide_eq_false h3;omega,?_⟩;refine ⟨by have:=of_decide_eq_false h3;omega,?_⟩;refine ⟨by kernel_rfl,?_⟩;refine Tri.ret ?_;have h3':=of_decide_eq_false h3;rw [toNat_cast] at h3';exact ⟨by rw [stampAt hi.2 (by simpa using h1) (by simpa using h2),if_pos (by omega)];rfl,trivial⟩
  ·
   refine Tri.exit ?_;refine Tri.seq (Tri.reg hT ?_);refine Tri.ret ?_;simp at h1;exact ⟨by simp only [stampR,hi.2,List.drop_of_length_le h1,List.find?_nil];rfl,trivial⟩
def segA (s k f:Int) (o:List optT.D) (n:Int) (op:Bool) (nx sn w:Int) (st:Bool) (stamp:Int) (stamps:Bool):Int:=
 if (!flags f) = true then 3
 else if decide (bitop .i64 .and f 2≠0) && !op then 0
 else if decide (bitop .i64 .and f 2≠0) then 7
 else if !op then 7
 else if decide (bitop .i64 .and f 4≠0) && decide (s = nx) then 0
 else if decide (bitop .i64 .and f 4≠0) then 6
 else if decide (bitop .i64 .and f 16 = 0) || decide (diff sn k < 0) then 4
 else if stamps && st && oldA o stamp then 5
 else if !within s n nx w then 6
 else 0
theorem f43_spec (a b s k f w' u:Int) (o:List optT.D) (p:List UInt8) (op:Bool) (nx sn w:Int) (st:Bool) (stamp:Int)
  (nm:List UInt8) (v6:Bool) (hi lo ln pol frag hops win:Int) (stamps:Bool) (val:Int) (sv:List svcT.D) (ho:o.length < 9223372036854775807) :
  PSpec P G 43 [tcpV a b s k f w' u o p,viewV op nx sn w st stamp,assetV nm v6 hi lo ln pol frag hops win stamps val sv] (.int .i64 (segA s k f o p.length op nx sn w st stamp stamps)):=by
 refine pspec_intro hT Tryz.func43 (by decide) rfl rfl (by kernel_rfl) rfl ?_;refine Tri.seq (Tri.reg hT ?_);refine Tri.seq (Tri.block ?_);refine Tri.seq (Tri.block ?_);refine Tri.seq (Tri.block ?_);refine Tri.seq (Tri.block ?_);refine Tri.seq (Tri.block ?_);refine Tri.seq (Tri.block ?_);refine Tri.seq (Tri.block ?_);refine (Tri.block ?_);refine Tri.seq (Tri.block ?_);refine Tri.seq (Tri.block ?_);refine Tri.seq ?_;refine Tri.seq ?_;refine Tri.seq (Tri.reg hT ?_);refine .inl (.inl ⟨_,fun _=>rfl,f22_spec ..,?_⟩);refine (Tri.cond ⟨fun h1=>?_,fun h1=>?_⟩)
 ·
  refine Tri.exit ?_;refine Tri.seq ?_;refine Tri.seq (Tri.reg hT ?_);refine Tri.ret ?_;refine ⟨congrArg (AV.int .i64) ?_,trivial⟩;simp_all [segA] <;> rw [if_neg (by omega),if_neg (by rintro ⟨⟨q1,q2⟩,q3⟩;rw [h8 q1 q2] at q3;cases q3)]
 ·
  refine (Tri.skip ?_);refine Tri.seq ?_;refine Tri.seq (Tri.reg hT ?_);refine ⟨_,[],trivial,rfl,rfl,fun h=>⟨rfl,rfl,rfl⟩,?_⟩;refine ⟨_,[],trivial,rfl,rfl,fun h=>⟨h,rfl,rfl,rfl⟩,?_⟩;refine ⟨_,[],trivial,rfl,rfl,fun h=>⟨h,rfl,rfl,rfl⟩,?_⟩;refine ⟨⟨fun hc=>hc,fun _=>trivial⟩,?_⟩;refine (Tri.cond ⟨fun h2=>?_,fun h2=>?_⟩)
  ·
   refine Tri.exit ?_;refine Tri.seq ?_;refine Tri.seq (Tri.reg hT ?_);refine Tri.ret ?_;refine ⟨congrArg (AV.int .i64) ?_,trivial⟩;simp_all [segA] <;> rw [if_neg (by omega),if_neg (by rintro ⟨⟨q1,q2⟩,q3⟩;rw [h8 q1 q2] at q3;cases q3)]
  ·
   refine (Tri.skip ?_);refine Tri.seq ?_;refine Tri.seq (Tri.reg hT ?_);refine (Tri.cond ⟨fun h3=>?_,fun h3=>?_⟩)
   ·
    refine Tri.exit ?_;refine Tri.seq ?_;refine Tri.seq (Tri.reg hT ?_);refine Tri.ret ?_;refine ⟨congrArg (AV.int .i64) ?_,trivial⟩;simp_all [segA] <;> rw [if_neg (by omega),if_neg (by rintro ⟨⟨q1,q2⟩,q3⟩;rw [h8 q1 q2] at q3;cases q3)]
   ·
    refine (Tri.skip ?_);refine Tri.seq ?_;refine Tri.seq (Tri.reg hT ?_);refine (Tri.cond ⟨fun h4=>?_,fun h4=>?_⟩)
    ·
     refine Tri.exit ?_;refine Tri.seq ?_;refine Tri.seq (Tri.reg hT ?_);refine Tri.ret ?_;refine ⟨congrArg (AV.int .i64) ?_,trivial⟩;simp_all [segA] <;> rw [if_neg (by omega),if_neg (by rintro ⟨⟨q1,q2⟩,q3⟩;rw [h8 q1 q2] at q3;cases q3)]
    ·
     refine (Tri.skip ?_);refine Tri.seq ?_;refine Tri.seq (Tri.reg hT ?_);refine ⟨_,[],trivial,rfl,rfl,fun h=>⟨rfl,rfl,rfl⟩,?_⟩;refine ⟨_,[],trivial,rfl,rfl,fun h=>⟨h,rfl,rfl,rfl⟩,?_⟩;refine ⟨_,[],trivial,rfl,rfl,fun h=>⟨rfl,rfl,rfl⟩,?_⟩;refine ⟨_,[],trivial,rfl,rfl,fun h=>⟨h,rfl,rfl,rfl⟩,?_⟩;refine ⟨_,[],trivial,rfl,rfl,fun h=>⟨h,h,rfl,rfl,rfl⟩,?_⟩;refine ⟨⟨fun hc=>hc,fun _=>trivial⟩,?_⟩;refine (Tri.cond ⟨fun h5=>?_,fun h5=>?_⟩)
     ·
      refine Tri.exit ?_;refine Tri.seq ?_;refine Tri.seq (Tri.reg hT ?_);refine Tri.ret ?_;refine ⟨congrArg (AV.int .i64) ?_,trivial⟩;simp_all [segA] <;> rw [if_neg (by omega),if_neg (by rintro ⟨⟨q1,q2⟩,q3⟩;rw [h8 q1 q2] at q3;cases q3)]
     ·
      refine (Tri.skip ?_);refine Tri.seq ?_;refine Tri.seq (Tri.reg hT ?_);refine (Tri.cond ⟨fun h6=>?_,fun h6=>?_⟩)
      ·
       refine Tri.exit ?_;refine Tri.seq ?_;refine Tri.seq (Tri.reg hT ?_);refine Tri.ret ?_;refine ⟨congrArg (AV.int .i64) ?_,trivial⟩;simp_all [segA] <;> rw [if_neg (by omega),if_neg (by rintro ⟨⟨q1,q2⟩,q3⟩;rw [h8 q1 q2] at q3;cases q3)]
      ·
       refine (Tri.skip ?_);refine Tri.seq ?_;refine Tri.seq (Tri.reg hT ?_);refine ⟨_,[],trivial,rfl,rfl,fun h=>⟨rfl,rfl,rfl⟩,?_⟩;refine ⟨_,[],trivial,rfl,rfl,fun h=>⟨h,rfl,rfl,rfl⟩,?_⟩;refine ⟨_,[],trivial,rfl,rfl,fun h=>⟨rfl,rfl,rfl⟩,?_⟩;refine ⟨_,[],trivial,rfl,rfl,fun h=>⟨h,rfl,rfl,rfl⟩,?_⟩;refine ⟨_,[],trivial,rfl,rfl,fun h=>⟨h,h,(.inl ⟨_,fun _=>rfl,f69_spec ..,rfl,rfl,rfl⟩)⟩,?_⟩;refine ⟨⟨fun _=>trivial,fun hc=>(gn hc)⟩,?_⟩;refine (Tri.cond ⟨fun h7=>?_,fun h7=>?_⟩)
       ·
        refine Tri.exit ?_;refine Tri.seq ?_;refine Tri.seq (Tri.reg hT ?_);refine Tri.ret ?_;refine ⟨congrArg (AV.int .i64) ?_,trivial⟩;simp_all [segA] <;> rw [if_neg (by omega),if_neg (by rintro ⟨⟨q1,q2⟩,q3⟩;rw [h8 q1 q2] at q3;cases q3)]
       ·
        refine (Tri.skip ?_);refine Tri.seq ?_;refine Tri.seq (Tri.reg hT ?_);refine ⟨_,[],trivial,rfl,rfl,fun h=>⟨rfl,rfl,rfl⟩,?_⟩;refine ⟨_,[],trivial,rfl,rfl,fun h=>⟨h,rfl,rfl,rfl⟩,?_⟩;refine ⟨⟨fun hc=>hc,fun _=>trivial⟩,?_⟩;refine ⟨_,[],trivial,rfl,rfl,fun h=>⟨rfl,rfl,rfl⟩,?_⟩;refine ⟨_,[],trivial,rfl,rfl,fun h=>⟨rfl,rfl,rfl⟩,?_⟩;refine ⟨_,[],trivial,rfl,rfl,fun h=>⟨h,rfl,rfl,rfl⟩,?_⟩;refine ⟨_,[],trivial,rfl,rfl,fun h=>⟨h,h,(.inl ⟨_,fun _=>rfl,f70_spec _ _ _ _ _ _ _ _ _ _ ho,rfl,rfl,rfl⟩)⟩,?_⟩;refine ⟨⟨fun hc=>hc,fun _=>trivial⟩,?_⟩;refine (Tri.cond ⟨fun h8=>?_,fun h8=>?_⟩)
        ·
         refine Tri.exit ?_;refine Tri.seq ?_;refine Tri.seq (Tri.reg hT ?_);refine Tri.ret ?_;refine ⟨congrArg (AV.int .i64) ?_,trivial⟩;simp_all [segA] <;> rw [if_neg (by omega),if_neg (by rintro ⟨⟨q1,q2⟩,q3⟩;rw [h8 q1 q2] at q3;cases q3)]
        ·
         refine (Tri.skip ?_);refine Tri.seq (Tri.reg hT ?_);refine .inl (.inl ⟨_,fun _=>rfl,f71_spec ..,?_⟩);refine (Tri.cond ⟨fun h9=>?_,fun h9=>?_⟩)
         ·
          refine Tri.exit ?_;refine Tri.seq ?_;refine Tri.seq (Tri.reg hT ?_);refine Tri.ret ?_;refine ⟨congrArg (AV.int .i64) ?_,trivial⟩;simp_all [segA] <;> rw [if_neg (by omega),if_neg (by rintro ⟨⟨q1,q2⟩,q3⟩;rw [h8 q1 q2] at q3;cases q3)]
         ·
          refine (Tri.skip ?_);refine Tri.exit ?_;refine Tri.seq (Tri.reg hT ?_);refine Tri.ret ?_;refine ⟨congrArg (AV.int .i64) ?_,trivial⟩;simp_all [segA] <;> rw [if_neg (by omega),if_neg (by rintro ⟨⟨q1,q2⟩,q3⟩;rw [h8 q1 q2] at q3;cases q3)]
def segR (s k f:Int) (o:List optT.D) (n:Int) (op:Bool) (nx sn w:Int) (st:Bool) (stamp:Int) (stamps:Bool):Int:=
 if (!flagsR f) = true then 3
 else if has f 2 then (if op then 7 else 0)
 else if !op then 7
 else if has f 4 then (if decide (s = nx) then 0 else 6)
 else if !has f 16 || beforeR sn k then 4
 else if stamps && st && (!(stampR o).2 || beforeR (stampR o).1 stamp) then 5
 else if !withinR s n nx w then 6
 else 0
theorem f31_spec (a b s k f w' u:Int) (o:List optT.D) (p:List UInt8) (op:Bool) (nx sn w:Int) (st:Bool) (stamp:Int)
  (nm:List UInt8) (v6:Bool) (hi lo ln pol frag hops win:Int) (stamps:Bool) (val:Int) (sv:List svcT.D) (ho:o.length < 9223372036854775807) :
  PSpec P G 31 [tcpV a b s k f w' u o p,viewV op nx sn w st stamp,assetV nm v6 hi lo ln pol frag hops win stamps val sv] (.int .i64 (segR s k f o p.length op nx sn w st stamp stamps)):=by
 refine pspec_intro hT Tryz.func31 (by decide) rfl rfl (by kernel_rfl) rfl ?_;refine Tri.seq (Tri.reg hT ?_);refine Tri.seq ?_;refine Tri.seq (Tri.reg hT ?_);refine .inl (.inl ⟨_,fun _=>rfl,f28_spec ..,?_⟩);refine (Tri.cond ⟨fun h1=>?_,fun h1=>?_⟩)
 ·
  refine Tri.seq (Tri.reg hT ?_);refine Tri.ret ?_;refine ⟨congrArg (AV.int .i64) ?_,trivial⟩;simp_all [segR]
 ·
  refine (Tri.skip ?_);refine Tri.seq ?_;refine Tri.seq (Tri.reg hT ?_);refine .inl (.inl ⟨_,fun _=>rfl,f47_spec ..,?_⟩);refine (Tri.cond ⟨fun h2=>?_,fun h2=>?_⟩)
  ·
   refine Tri.seq ?_;refine Tri.seq (Tri.reg hT ?_);refine (Tri.cond ⟨fun h3=>?_,fun h3=>?_⟩)
   ·
    refine Tri.seq (Tri.reg hT ?_);refine Tri.ret ?_;refine ⟨congrArg (AV.int .i64) ?_,trivial⟩;simp_all [segR]
   ·
    refine (Tri.skip ?_);refine Tri.seq (Tri.reg hT ?_);refine Tri.ret ?_;refine ⟨congrArg (AV.int .i64) ?_,trivial⟩;simp_all [segR]
  ·
   refine (Tri.skip ?_);refine Tri.seq ?_;refine Tri.seq (Tri.reg hT ?_);refine (Tri.cond ⟨fun h4=>?_,fun h4=>?_⟩)
   ·
    refine Tri.seq (Tri.reg hT ?_);refine Tri.ret ?_;refine ⟨congrArg (AV.int .i64) ?_,trivial⟩;simp_all [segR]
   ·
    refine (Tri.skip ?_);refine Tri.seq ?_;refine Tri.seq (Tri.reg hT ?_);refine .inl (.inl ⟨_,fun _=>rfl,f47_spec ..,?_⟩);refine (Tri.cond ⟨fun h5=>?_,fun h5=>?_⟩)
    ·
     refine Tri.seq ?_;refine Tri.seq (Tri.reg hT ?_);refine (Tri.cond ⟨fun h6=>?_,fun h6=>?_⟩)
     ·
      refine Tri.seq (Tri.reg hT ?_);refine Tri.ret ?_;refine ⟨congrArg (AV.int .i64) ?_,trivial⟩;simp_all [segR]
     ·
      refine (Tri.skip ?_);refine Tri.seq (Tri.reg hT ?_);refine Tri.ret ?_;refine ⟨congrArg (AV.int .i64) ?_,trivial⟩;simp_all [segR]
    ·
     refine (Tri.skip ?_);refine Tri.seq ?_;refine Tri.seq (Tri.reg hT ?_);refine .inl (.inl ⟨_,fun _=>rfl,f47_spec ..,?_⟩);refine ⟨_,[],trivial,rfl,rfl,fun h=>⟨rfl,rfl,rfl⟩,?_⟩;refine ⟨_,[],trivial,rfl,rfl,fun h=>⟨h,rfl,rfl,rfl⟩,?_⟩;refine ⟨_,[],trivial,rfl,rfl,fun h=>⟨rfl,rfl,rfl⟩,?_⟩;refine ⟨_,[],trivial,rfl,rfl,fun h=>⟨h,rfl,rfl,rfl⟩,?_⟩;refine ⟨_,[],trivial,rfl,rfl,fun h=>⟨h,h,(.inl ⟨_,fun _=>rfl,f51_spec ..,rfl,rfl,rfl⟩)⟩,?_⟩;refine ⟨⟨fun _=>trivial,fun hc=>(gn hc)⟩,?_⟩;refine (Tri.cond ⟨fun h7=>?_,fun h7=>?_⟩)
     ·
      refine Tri.seq (Tri.reg hT ?_);refine Tri.ret ?_;refine ⟨congrArg (AV.int .i64) ?_,trivial⟩;simp_all [segR]
     ·
      refine (Tri.skip ?_);refine Tri.seq (Tri.reg hT ?_);refine .inl (.inl ⟨_,fun _=>rfl,f52_spec _ ho,?_⟩);refine Tri.seq ?_;refine Tri.seq (Tri.reg hT ?_);refine ⟨_,[],trivial,rfl,rfl,fun h=>⟨rfl,rfl,rfl⟩,?_⟩;refine ⟨_,[],trivial,rfl,rfl,fun h=>⟨h,rfl,rfl,rfl⟩,?_⟩;refine ⟨⟨fun hc=>hc,fun _=>trivial⟩,?_⟩;refine ⟨_,[],trivial,rfl,rfl,fun h=>⟨rfl,rfl,rfl⟩,?_⟩;refine ⟨_,[],trivial,rfl,rfl,fun h=>⟨h,rfl,rfl,rfl⟩,?_⟩;refine ⟨_,[],trivial,rfl,rfl,fun h=>⟨h,rfl,rfl,rfl⟩,?_⟩;refine ⟨_,[],trivial,rfl,rfl,fun h=>⟨rfl,rfl,rfl⟩,?_⟩;refine ⟨_,[],trivial,rfl,rfl,fun h=>⟨rfl,rfl,rfl⟩,?_⟩;refine ⟨_,[],trivial,rfl,rfl,fun h=>⟨h,rfl,rfl,rfl⟩,?_⟩;refine ⟨_,[],trivial,rfl,rfl,fun h=>⟨h,h,(.inl ⟨_,fun _=>rfl,f51_spec ..,rfl,rfl,rfl⟩)⟩,?_⟩;refine ⟨_,[],trivial,rfl,rfl,fun h=>⟨h,⟨fun _=>trivial,fun hc=>ga h (gn hc)⟩,rfl,rfl,rfl⟩,?_⟩;refine ⟨⟨fun hc=>hc,fun _=>trivial⟩,?_⟩;refine (Tri.cond ⟨fun h8=>?_,fun h8=>?_⟩)
      ·
       refine Tri.seq (Tri.reg hT ?_);refine Tri.ret ?_;refine ⟨congrArg (AV.int .i64) ?_,trivial⟩;simp_all [segR]
      ·
       refine (Tri.skip ?_);refine Tri.seq ?_;refine Tri.seq (Tri.reg hT ?_);refine .inl (.inl ⟨_,fun _=>rfl,f53_spec ..,?_⟩);refine (Tri.cond ⟨fun h9=>?_,fun h9=>?_⟩)
       ·
        refine Tri.seq (Tri.reg hT ?_);refine Tri.ret ?_;refine ⟨congrArg (AV.int .i64) ?_,trivial⟩;simp_all [segR]
       ·
        refine (Tri.skip ?_);refine Tri.seq (Tri.reg hT ?_);refine Tri.ret ?_;refine ⟨congrArg (AV.int .i64) ?_,trivial⟩;simp_all [segR]
def longR (o:List optT.D) (p:List UInt8):Bool:=decide ((o.length:Int) > 10) || decide ((p.length:Int) > 2000) || o.any (fun x=>decide ((x.2.1.length:Int) > 40))
end Go.Proofs.YtchiagnggnblaaaGreatDoor.Ac
namespace Go.Proofs.YtchiagnggnblaaaGreatDoor.Ac
open Go Go.Fw Go.Proofs.YtchiagnggnblaaaGreatDoor.Fx
theorem and_low (f:Int) (m:Nat) (hm:m < 32):bitop .i64 .and f m = (((f % 32).toNat &&& m:Nat):Int):=by
 have hx:(BitVec.ofInt 64 f &&& BitVec.ofInt 64 (m:Int)).toNat = (f % 32).toNat &&& m:=by
  rw [BitVec.toNat_and,BitVec.toNat_ofInt,BitVec.toNat_ofInt];have e1:((m:Int) % ((2 ^ 64:Nat):Int)).toNat = m:=by omega
  rw [e1];generalize hA:(f % ((2 ^ 64:Nat):Int)).toNat = A;have hA':A % 2 ^ 5 = (f % 32).toNat:=by omega
  have hm':m % 2 ^ 5 = m:=Nat.mod_eq_of_lt hm;have hle:A &&& m < 2 ^ 5:=Nat.lt_of_le_of_lt Nat.and_le_right hm;rw [← Nat.mod_eq_of_lt hle,Nat.and_mod_two_pow,hA',hm']
 have hle:(f % 32).toNat &&& m≤m:=Nat.and_le_right;show IntKind.i64.wrap ((BitVec.ofInt 64 f &&& BitVec.ofInt 64 (m:Int)).toNat:Int) = _
 rw [hx,wrapId (by omega)]
theorem low_lt (f:Int):(f % 32).toNat < 32:=by omega
theorem has_low (f:Int) (m:Nat) (hm:m < 32):has f m = decide ((f % 32).toNat &&& m = m):=by
 unfold has
 rw [and_low f m hm];exact decide_eq_decide.2 (by omega)
theorem flags_eq (f:Int):flags f = flagsR f:=by
 have key:∀ r,r < 32→(if decide (r &&& 3 = 3) || decide (r &&& 6 = 6) then false else decide (((r &&& 22:Nat):Int)≠0)) =
   (if decide (r &&& 2 = 2) && (decide (r &&& 1 = 1) || decide (r &&& 4 = 4)) then false else decide (r &&& 2 = 2) || decide (r &&& 4 = 4) || decide (r &&& 16 = 16)):=by decide
 unfold flags flagsR
 rw [show has f 3 = _ from has_low f 3 (by decide),show has f 6 = _ from has_low f 6 (by decide),show has f 2 = _ from has_low f 2 (by decide),show has f 1 = _ from has_low f 1 (by decide),
  show has f 4 = _ from has_low f 4 (by decide),show has f 16 = _ from has_low f 16 (by decide),show bitop .i64 .and f 22 = _ from and_low f 22 (by decide)]
 exact key _ (low_lt f)
theorem one_bit (f:Int) (m:Nat) (hm:m = 2∨m = 4∨m = 16):decide (bitop .i64 .and f m≠0) = has f m:=by
 have key:∀ r,r < 32→∀ m,m < 32→(m = 2∨m = 4∨m = 16)→decide (((r &&& m:Nat):Int)≠0) = decide (r &&& m = m):=by decide
 rw [has_low f m (by omega),and_low f m (by omega)];exact key _ (low_lt f) m (by omega) hm
theorem diff_def (a b:Int):diff a b = (if (a - b) % 4294967296 < 2147483648 then (a - b) % 4294967296 else (a - b) % 4294967296 - 4294967296):=by
 unfold diff
 rw [IntKind.wrap_u32,IntKind.wrap_i32,wrapId (by omega)];split <;> omega
theorem before_eq (a b:Int):decide (diff a b < 0) = beforeR a b:=by
 unfold beforeR
 rw [diff_def,IntKind.wrap_u32];exact decide_eq_decide.2 (by split <;> omega)
def U32 (x:Int):Prop:=0≤x∧x < 4294967296
theorem within_eq {s n nx w:Int} (hs:U32 s) (hnx:U32 nx):within s n nx w = withinR s n nx w:=by
 unfold U32 at hs hnx
 unfold within withinR lowR
 have hd:=diff_def s nx;have hd2:(0≤diff s nx∧diff s nx < 2147483648∧diff s nx = (s - nx) % 4294967296)∨(-2147483648≤diff s nx∧diff s nx < 0∧diff s nx = (s - nx) % 4294967296 - 4294967296):=by
  split at hd <;> omega
 clear hd;generalize diff s nx = d at *;have hw:IntKind.i64.wrap (d + min (max n 0) 1048576) = d + min (max n 0) 1048576:=wrapId (by omega);simp only [hw,IntKind.wrap_u32];rw [Bool.eq_iff_iff];by_cases hn:n < 1
 ·
  rw [if_pos (by omega)];by_cases he:s = nx
  ·
   have:d = 0:=by omega
   simp [this,hn,he]
  ·
   rw [if_neg (by omega)];by_cases hw1:w < 1
   ·
    rw [if_pos hw1];simp
    omega
   ·
    rw [if_neg hw1];have hd0:d≠0:=by omega
    simp [hn,hd0]
    by_cases hw2:1073741824 < w
    ·
     simp [hw2];omega
    ·
     simp [hw2];omega
 ·
  rw [if_neg (by omega),if_neg (by omega)];by_cases hw1:w < 1
  ·
   rw [if_pos hw1];simp
   omega
  ·
   rw [if_neg hw1];simp [hn]
   by_cases hw2:1073741824 < w <;> by_cases hn2:1048576 < n <;> simp [hw2,hn2] <;> omega
theorem or_step (n b:Nat) (hn:n < 2 ^ 48) (hb:b < 256):bitop .i64 .or (IntKind.i64.wrap ((n:Int) * 256)) (IntKind.i64.wrap (b:Int)) = ((n * 256 + b:Nat):Int):=by
 rw [wrapId (by omega),wrapId (by omega)];show IntKind.i64.wrap ((BitVec.ofInt 64 ((n:Int) * 256) ||| BitVec.ofInt 64 (b:Int)).toNat:Int) = _
 rw [BitVec.toNat_or,BitVec.toNat_ofInt,BitVec.toNat_ofInt];have e1:(((n:Int) * 256) % ((2 ^ 64:Nat):Int)).toNat = 2 ^ 8 * n:=by omega
 have e2:((b:Int) % ((2 ^ 64:Nat):Int)).toNat = b:=by omega
 rw [e1,e2,← Nat.two_pow_add_eq_or_of_lt hb,wrapId (by omega)];omega
theorem num4 (b0 b1 b2 b3:UInt8):IntKind.u32.wrap (num (intsOf [b0,b1,b2,b3])) = fourR [b0,b1,b2,b3]:=by
 have h0:=b0.toNat_lt;have h1:=b1.toNat_lt;have h2:=b2.toNat_lt;have h3:=b3.toNat_lt
 have e:num (intsOf [b0,b1,b2,b3]) = ((((b0.toNat * 256 + b1.toNat) * 256 + b2.toNat) * 256 + b3.toNat:Nat):Int):=by
  simp only [num,intsOf,List.map_cons,List.map_nil,List.foldl_cons,List.foldl_nil];have k0:=or_step 0 b0.toNat (by decide) h0;simp only [Int.natCast_zero,Nat.zero_mul,Nat.zero_add] at k0;rw [k0,or_step _ _ (by omega) h1,or_step _ _ (by omega) h2,or_step _ _ (by omega) h3]
 rw [e];show _ = u32add (u32add (u32add (IntKind.u32.wrap (IntKind.u32.wrap (b0.toNat:Int) * 16777216)) (IntKind.u32.wrap (IntKind.u32.wrap (b1.toNat:Int) * 65536))) (IntKind.u32.wrap (IntKind.u32.wrap (b2.toNat:Int) * 256))) (IntKind.u32.wrap (b3.toNat:Int))
 simp only [u32add,IntKind.wrap_u32];omega
theorem four_of_len (d:List UInt8) (h:d.length = 8):IntKind.u32.wrap (num (intsOf ((d.take 4).drop 0))) = fourR d:=by
 rcases d with _|⟨a,_|⟨b,_|⟨c,_|⟨e,r⟩⟩⟩⟩
 ·
  simp at h
 ·
  simp at h
 ·
  simp at h
 ·
  simp at h
 ·
  show IntKind.u32.wrap (num (intsOf [a,b,c,e])) = _
  rw [num4];rfl
theorem old_eq (o:List optT.D) (stamp:Int):oldA o stamp = (!(stampR o).2 || beforeR (stampR o).1 stamp):=by
 unfold oldA stampsA stampR optionR
 cases hf:o.find? (fun x=>decide (x.1 = 8)) with
 | none=>simp
 | some x=>
  simp only [decide_eq_true_eq];by_cases h8:x.2.1.length = 8
  ·
   rw [if_pos (by omega),if_pos h8];simp only [four_of_len _ h8,before_eq]
  ·
   rw [if_neg (by omega),if_neg h8];simp
theorem seg_eq {s k f:Int} {o:List optT.D} {n:Int} {op:Bool} {nx sn w:Int} {st:Bool} {stamp:Int} {stamps:Bool} (hs:U32 s) (hnx:U32 nx) :
  segA s k f o n op nx sn w st stamp stamps = segR s k f o n op nx sn w st stamp stamps:=by
 have h16:decide (bitop .i64 .and f 16 = 0) = !has f 16:=by have h:decide (bitop .i64 .and f 16≠0) = has f 16:=one_bit f 16 (.inr (.inr rfl));rw [← h];simp
 unfold segA segR
 rw [flags_eq,show decide (bitop .i64 .and f 2≠0) = _ from one_bit f 2 (.inl rfl),show decide (bitop .i64 .and f 4≠0) = _ from one_bit f 4 (.inr (.inl rfl)),h16,before_eq,old_eq,within_eq hs hnx];cases flagsR f <;> cases has f 2 <;> cases op <;> cases has f 4 <;> cases decide (s = nx) <;> simp
end Go.Proofs.YtchiagnggnblaaaGreatDoor.Ac
