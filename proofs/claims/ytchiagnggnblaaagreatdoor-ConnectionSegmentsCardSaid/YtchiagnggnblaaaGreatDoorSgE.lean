import Derived.Test.YtchiagnggnblaaaGreatDoorSgD
import Derived.Test.YtchiagnggnblaaaGreatDoorGCn1
set_option linter.all false
namespace Go.Proofs.YtchiagnggnblaaaGreatDoor.Ac
open Go Go.Fw Go.Ov Go.Proofs.YtchiagnggnblaaaGreatDoor.Fx
theorem f21_spec (d:Int):PSpec P G 21 [.int .i64 d] (.bool (decide (d = 1) || decide (d = 2))):=by
 refine pspec_intro hT Tryz.func21 (by decide) rfl rfl (by kernel_rfl) rfl ?_;refine Tri.seq (Tri.reg hT ?_);refine Tri.seq (Tri.reg hT ?_);refine ⟨_,[],trivial,rfl,rfl,fun h=>⟨rfl,rfl,rfl⟩,?_⟩;refine ⟨_,[],trivial,rfl,rfl,fun h=>⟨h,rfl,rfl,rfl⟩,?_⟩;refine ⟨⟨fun _=>trivial,fun hc=>(gn hc)⟩,?_⟩;refine Tri.ret ?_;exact ⟨congrArg AV.bool (by simp),trivial⟩
theorem f66_one:PSpec P G 66 [.int .i64 1] (.int .i64 2):=by
 refine pspec_intro hT Tryz.func66 (by decide) rfl rfl (by kernel_rfl) rfl ?_;refine Tri.seq (Tri.reg hT ?_);refine Tri.seq (Tri.reg hT ?_);refine Tri.ret ?_;exact ⟨rfl,trivial⟩
theorem f66_two:PSpec P G 66 [.int .i64 2] (.int .i64 1):=by
 refine pspec_intro hT Tryz.func66 (by decide) rfl rfl (by kernel_rfl) rfl ?_;refine Tri.seq (Tri.reg hT ?_);refine Tri.seq (Tri.reg hT ?_);refine Tri.ret ?_;exact ⟨rfl,trivial⟩
theorem f4_spec (h g:Hf) (hh:h.isn = 0∧h.high = 0∧h.stamped = false∧h.stamp = 0) (hg:g.isn = 0∧g.high = 0∧g.stamped = false∧g.stamp = 0):NSpec P G 4 [.agg (asA g),.agg (asA h)] (cnC 0 h g .nilp .nilp):=by
 obtain ⟨h1,h2,h3,h4⟩:=hh;obtain ⟨g1,g2,g3,g4⟩:=hg;unfold cnC
 rw [h1,h2,h3,h4,g1,g2,g3,g4];refine nspec_intro hT 4 Tryz.func4 (by decide) rfl rfl (by kernel_rfl) rfl ?_;refine Tri.seq (Tri.reg hT ?_);refine Tri.seq (Tri.reg hT ?_);refine Tri.seq (Tri.drw hT hm 7 (by kernel_rfl) ?_);refine ⟨(by first|((try simp only [decide_eq_true_eq,decide_eq_false_iff_not,toNat_cast] at *);omega)|decide),?_⟩;refine ⟨by kernel_rfl,?_⟩;refine Tri.seq (Tri.drw hT hm 7 (by kernel_rfl) ?_);refine ⟨(by first|((try simp only [decide_eq_true_eq,decide_eq_false_iff_not,toNat_cast] at *);omega)|decide),?_⟩;refine ⟨by kernel_rfl,?_⟩;refine Tri.seq (Tri.reg hT ?_);refine Tri.ret ?_;exact ⟨rfl,rfl,trivial⟩
abbrev cnH (st:Int) (h g:Hf) (s t:SS):List (Nat × Chunk):=[(0,.box (cnC st h g (.loc 1 0) (.loc 2 0))),(1,.box (bxS s)),(2,.box (bxS t))]
abbrev cnN (st:Int) (h g:Hf):List (Nat × Chunk):=[(0,.box (cnC st h g .nilp .nilp))]
theorem f11_h (st:Int) (h g:Hf) (s t:SS):HSpec P G 11 [.loc 0 0] (cnH st h g s t) (.int .i64 st) (cnH st h g s t):=by
 refine fspec_intro hT (cnH st h g s t) (cnH st h g s t) 3 3 Tryz.func11 (by decide) rfl rfl (by kernel_rfl) rfl rfl ?_;refine Tri.seq (Tri.reg hT ?_);refine Tri.seq ?_;refine Tri.seq (Tri.reg hT ?_);refine (Tri.cond ⟨fun h1=>?_,fun h1=>?_⟩)
 ·
  cases h1
 ·
  refine (Tri.skip ?_);refine Tri.seq (Tri.reg hT ?_);refine Tri.ret ?_;exact ⟨rfl,rfl,rfl,rfl,trivial⟩
theorem f24_h (st:Int) (h g:Hf) (s t:SS):HSpec P G 24 [.loc 0 0] (cnH st h g s t) (.bool (decide (st = 3) || decide (st = 4))) (cnH st h g s t):=by
 refine fspec_intro hT (cnH st h g s t) (cnH st h g s t) 3 3 Tryz.func24 (by decide) rfl rfl (by kernel_rfl) rfl rfl ?_;refine Tri.seq (Tri.reg hT ?_);refine Tri.seq (Tri.reg hT ?_);refine ⟨_,[],trivial,rfl,rfl,fun h=>⟨rfl,rfl,rfl⟩,?_⟩;refine ⟨_,[],trivial,rfl,rfl,fun h=>⟨h,rfl,rfl,rfl⟩,?_⟩;refine ⟨_,[],trivial,rfl,rfl,fun h=>⟨h,rfl,rfl,rfl⟩,?_⟩;refine ⟨_,[],trivial,rfl,rfl,fun h=>⟨h,rfl,rfl,rfl⟩,?_⟩;refine ⟨_,[],trivial,rfl,rfl,fun h=>⟨h,rfl,rfl,rfl⟩,?_⟩;refine ⟨⟨fun _=>trivial,fun hc=>(gn hc)⟩,?_⟩;refine Tri.ret ?_;exact ⟨congrArg AV.bool (by simp),rfl,rfl,rfl,trivial⟩
theorem f17_h1 (st:Int) (h g:Hf) (s t:SS):HSpec P G 17 [.loc 0 0,.int .i64 1] (cnH st h g s t) (.int .i64 s.pos) (cnH st h g s t):=by
 refine fspec_intro hT (cnH st h g s t) (cnH st h g s t) 3 3 Tryz.func17 (by decide) rfl rfl (by kernel_rfl) rfl rfl ?_;refine Tri.seq (Tri.reg hT ?_);refine Tri.seq ?_;refine Tri.seq (Tri.reg hT ?_);refine ⟨_,[],trivial,rfl,rfl,fun h=>⟨rfl,rfl,rfl⟩,?_⟩;refine ⟨_,[],trivial,rfl,rfl,fun h=>⟨h,(.inl ⟨_,fun _=>rfl,f21_spec 1,rfl,rfl,rfl⟩)⟩,?_⟩;refine ⟨_,[],trivial,rfl,rfl,fun h=>⟨h,rfl,rfl,rfl⟩,?_⟩;refine ⟨⟨fun _=>trivial,fun hc=>(gn hc)⟩,?_⟩;refine ⟨_,[],trivial,rfl,rfl,fun h=>⟨rfl,rfl,rfl⟩,?_⟩;refine ⟨_,[],trivial,rfl,rfl,fun h=>⟨rfl,rfl,rfl⟩,?_⟩;refine ⟨_,[],trivial,rfl,rfl,fun h=>⟨h,rfl,rfl,rfl⟩,?_⟩;refine ⟨_,[],trivial,rfl,rfl,fun h=>⟨h,rfl,rfl,rfl⟩,?_⟩;refine ⟨_,[],trivial,rfl,rfl,fun h=>⟨h,h,(by first|((try simp only [decide_eq_true_eq,decide_eq_false_iff_not,toNat_cast] at *);omega)|decide),rfl,rfl,rfl⟩,?_⟩;refine ⟨_,[],trivial,rfl,rfl,fun h=>⟨h,rfl,rfl,rfl⟩,?_⟩;refine ⟨_,[],trivial,rfl,rfl,fun h=>⟨h,rfl,rfl,rfl⟩,?_⟩;refine ⟨_,[],trivial,rfl,rfl,fun h=>⟨h,rfl,rfl,rfl⟩,?_⟩;refine ⟨⟨fun _=>trivial,fun hc=>(gn hc)⟩,?_⟩;refine (Tri.cond ⟨fun h1=>?_,fun h1=>?_⟩)
 ·
  cases h1
 ·
  refine (Tri.skip ?_);refine Tri.seq (Tri.reg hT ?_);refine ⟨(by first|((try simp only [decide_eq_true_eq,decide_eq_false_iff_not,toNat_cast] at *);omega)|decide),?_⟩;refine .inl (.inr (.inl ⟨_,_,(by exact ⟨rfl,trivial⟩),(CSpec.gw (f40_spec s 1)),(by rfl),?_⟩));refine Tri.ret ?_;exact ⟨rfl,rfl,rfl,rfl,trivial⟩
theorem f42_h1 (st:Int) (h g:Hf) (s t:SS) (k n:Int):HSpec P G 42 [.loc 0 0,.int .i64 k,.int .i64 1,.int .i64 n] (cnH st h g s t) (evA k 1 s.pos n []) (cnH st h g s t):=by
 refine fspec_intro hT (cnH st h g s t) (cnH st h g s t) 3 3 Tryz.func42 (by decide) rfl rfl (by kernel_rfl) rfl rfl ?_;refine Tri.seq (Tri.reg hT ?_);refine Tri.seq (Tri.reg hT ?_);refine .inl (.inr (.inl ⟨_,_,(by exact ⟨rfl,rfl,rfl,trivial⟩),(CSpec.ofH (u:=[(0,cnC st h g (.loc 1 0) (.loc 2 0),none),(1,bxS s,none),(2,bxS t,none)]) (f17_h1 st h g s t)),(by rfl),?_⟩));refine Tri.ret ?_;exact ⟨rfl,rfl,rfl,rfl,trivial⟩
theorem f17_h2 (st:Int) (h g:Hf) (s t:SS):HSpec P G 17 [.loc 0 0,.int .i64 2] (cnH st h g s t) (.int .i64 t.pos) (cnH st h g s t):=by
 refine fspec_intro hT (cnH st h g s t) (cnH st h g s t) 3 3 Tryz.func17 (by decide) rfl rfl (by kernel_rfl) rfl rfl ?_;refine Tri.seq (Tri.reg hT ?_);refine Tri.seq ?_;refine Tri.seq (Tri.reg hT ?_);refine ⟨_,[],trivial,rfl,rfl,fun h=>⟨rfl,rfl,rfl⟩,?_⟩;refine ⟨_,[],trivial,rfl,rfl,fun h=>⟨h,(.inl ⟨_,fun _=>rfl,f21_spec 2,rfl,rfl,rfl⟩)⟩,?_⟩;refine ⟨_,[],trivial,rfl,rfl,fun h=>⟨h,rfl,rfl,rfl⟩,?_⟩;refine ⟨⟨fun _=>trivial,fun hc=>(gn hc)⟩,?_⟩;refine ⟨_,[],trivial,rfl,rfl,fun h=>⟨rfl,rfl,rfl⟩,?_⟩;refine ⟨_,[],trivial,rfl,rfl,fun h=>⟨rfl,rfl,rfl⟩,?_⟩;refine ⟨_,[],trivial,rfl,rfl,fun h=>⟨h,rfl,rfl,rfl⟩,?_⟩;refine ⟨_,[],trivial,rfl,rfl,fun h=>⟨h,rfl,rfl,rfl⟩,?_⟩;refine ⟨_,[],trivial,rfl,rfl,fun h=>⟨h,h,(by first|((try simp only [decide_eq_true_eq,decide_eq_false_iff_not,toNat_cast] at *);omega)|decide),rfl,rfl,rfl⟩,?_⟩;refine ⟨_,[],trivial,rfl,rfl,fun h=>⟨h,rfl,rfl,rfl⟩,?_⟩;refine ⟨_,[],trivial,rfl,rfl,fun h=>⟨h,rfl,rfl,rfl⟩,?_⟩;refine ⟨_,[],trivial,rfl,rfl,fun h=>⟨h,rfl,rfl,rfl⟩,?_⟩;refine ⟨⟨fun _=>trivial,fun hc=>(gn hc)⟩,?_⟩;refine (Tri.cond ⟨fun h1=>?_,fun h1=>?_⟩)
 ·
  cases h1
 ·
  refine (Tri.skip ?_);refine Tri.seq (Tri.reg hT ?_);refine ⟨(by first|((try simp only [decide_eq_true_eq,decide_eq_false_iff_not,toNat_cast] at *);omega)|decide),?_⟩;refine .inl (.inr (.inl ⟨_,_,(by exact ⟨rfl,trivial⟩),(CSpec.gw (f40_spec t 2)),(by rfl),?_⟩));refine Tri.ret ?_;exact ⟨rfl,rfl,rfl,rfl,trivial⟩
theorem f42_h2 (st:Int) (h g:Hf) (s t:SS) (k n:Int):HSpec P G 42 [.loc 0 0,.int .i64 k,.int .i64 2,.int .i64 n] (cnH st h g s t) (evA k 2 t.pos n []) (cnH st h g s t):=by
 refine fspec_intro hT (cnH st h g s t) (cnH st h g s t) 3 3 Tryz.func42 (by decide) rfl rfl (by kernel_rfl) rfl rfl ?_;refine Tri.seq (Tri.reg hT ?_);refine Tri.seq (Tri.reg hT ?_);refine .inl (.inr (.inl ⟨_,_,(by exact ⟨rfl,rfl,rfl,trivial⟩),(CSpec.ofH (u:=[(0,cnC st h g (.loc 1 0) (.loc 2 0),none),(1,bxS s,none),(2,bxS t,none)]) (f17_h2 st h g s t)),(by rfl),?_⟩));refine Tri.ret ?_;exact ⟨rfl,rfl,rfl,rfl,trivial⟩
end Go.Proofs.YtchiagnggnblaaaGreatDoor.Ac
namespace Go.Proofs.YtchiagnggnblaaaGreatDoor.Ac
open Go Go.Fw Go.Ov Go.Proofs.YtchiagnggnblaaaGreatDoor.Fx
theorem f72_spec (a b s k f w u:Int) (o:List optT.D) (p:List UInt8) (hp:p.length≤140737488355328):PSpec P G 72 [tcpV a b s k f w u o p] (.int .i64 (p.length + (if bitop .i64 .and f 2≠0 then 1 else 0) + (if bitop .i64 .and f 1≠0 then 1 else 0))):=by
 have w1:IntKind.i64.wrap ((p.length:Int) + 1) = p.length + 1:=wrapId (by omega);have w2:IntKind.i64.wrap ((p.length:Int) + 1 + 1) = p.length + 1 + 1:=wrapId (by omega);refine pspec_intro hT Tryz.func72 (by decide) rfl rfl (by kernel_rfl) rfl ?_;refine Tri.seq (Tri.reg hT ?_);refine Tri.seq (Tri.reg hT ?_);refine Tri.seq ?_;refine Tri.seq (Tri.reg hT ?_);refine (Tri.cond ⟨fun h1=>?_,fun h1=>?_⟩)
 ·
  refine (Tri.reg hT ?_);refine Tri.seq ?_;refine Tri.seq (Tri.reg hT ?_);refine (Tri.cond ⟨fun h2=>?_,fun h2=>?_⟩)
  ·
   refine (Tri.reg hT ?_);refine Tri.seq (Tri.reg hT ?_);refine Tri.ret ?_;exact ⟨congrArg (AV.int .i64) (by simp_all),trivial⟩
  ·
   refine (Tri.skip ?_);refine Tri.seq (Tri.reg hT ?_);refine Tri.ret ?_;exact ⟨congrArg (AV.int .i64) (by simp_all),trivial⟩
 ·
  refine (Tri.skip ?_);refine Tri.seq ?_;refine Tri.seq (Tri.reg hT ?_);refine (Tri.cond ⟨fun h3=>?_,fun h3=>?_⟩)
  ·
   refine (Tri.reg hT ?_);refine Tri.seq (Tri.reg hT ?_);refine Tri.ret ?_;exact ⟨congrArg (AV.int .i64) (by simp_all),trivial⟩
  ·
   refine (Tri.skip ?_);refine Tri.seq (Tri.reg hT ?_);refine Tri.ret ?_;exact ⟨congrArg (AV.int .i64) (by simp_all),trivial⟩
theorem vw_t {nx sn w x:Int} {a b:Bool} (h:(if a = true then b else false) = true):AV.agg [.bool true,.int .u32 nx,.int .u32 sn,.int .i64 w,.bool (if a = true then b else false),.int .u32 x] = viewV true nx sn w (a && b) (if (a && b) = true then x else 0):=by
 cases a <;> cases b <;> first|rfl|cases h
theorem vw_f {nx sn w x:Int} {a b:Bool} (h:(if a = true then b else false) = false):AV.agg [.bool true,.int .u32 nx,.int .u32 sn,.int .i64 w,.bool (if a = true then b else false),.int .u32 0] = viewV true nx sn w (a && b) (if (a && b) = true then x else 0):=by
 cases a <;> cases b <;> first|rfl|cases h
abbrev vwA1 (h g:Hf) (s t:SS):AV:=viewV true (nextS s) g.high h.win (h.stamped && g.stamped) (if (h.stamped && g.stamped) = true then h.stamp else 0)
theorem f39_h1 (st:Int) (h g:Hf) (s t:SS):HSpec P G 39 [.loc 0 0,.int .i64 1] (cnH st h g s t) (vwA1 h g s t) (cnH st h g s t):=by
 refine fspec_intro hT (cnH st h g s t) (cnH st h g s t) 3 3 Tryz.func39 (by decide) rfl rfl (by kernel_rfl) rfl rfl ?_;refine Tri.seq (Tri.reg hT ?_);refine Tri.seq (Tri.drw hT hm 12 (by kernel_rfl) ?_);refine ⟨(by first|((try simp only [decide_eq_true_eq,decide_eq_false_iff_not,toNat_cast] at *);omega)|decide),?_⟩;refine .inl ⟨_,fun _=>rfl,f66_one,?_⟩;refine ⟨(by first|((try simp only [decide_eq_true_eq,decide_eq_false_iff_not,toNat_cast] at *);omega)|decide),?_⟩;refine ⟨by kernel_rfl,?_⟩;refine Tri.seq (Tri.drw hT hm 26 (by kernel_rfl) ?_);refine .inr (.inl ⟨_,_,(by exact ⟨rfl,trivial⟩),(CSpec.gw (f67_spec s 1)),(by rfl),?_⟩);refine ⟨_,[],trivial,rfl,rfl,fun h=>⟨rfl,rfl,rfl⟩,?_⟩;refine ⟨_,[],trivial,rfl,rfl,fun h=>⟨h,rfl,rfl,rfl⟩,?_⟩;refine ⟨_,[],trivial,rfl,rfl,fun h=>⟨h,rfl,rfl,rfl⟩,?_⟩;refine ⟨_,[],trivial,rfl,rfl,fun h=>⟨h,rfl,rfl,rfl⟩,?_⟩;refine ⟨⟨fun hc=>hc,fun _=>trivial⟩,?_⟩;refine ⟨by kernel_rfl,?_⟩;refine Tri.seq ?_;refine Tri.seq (Tri.reg hT ?_);refine (Tri.cond ⟨fun h1=>?_,fun h1=>?_⟩)
 ·
  refine (Tri.reg hT ?_);refine Tri.seq (Tri.reg hT ?_);refine Tri.ret ?_;exact ⟨vw_t h1,rfl,rfl,rfl,trivial⟩
 ·
  refine (Tri.skip ?_);refine Tri.seq (Tri.reg hT ?_);refine Tri.ret ?_;exact ⟨vw_f h1,rfl,rfl,rfl,trivial⟩
theorem f23_h1 (st:Int) (h g:Hf) (s t:SS) (n:Int):HSpec P G 23 [.loc 0 0,.int .i64 1,.int .i64 n] (cnH st h g s t) (.list evT [(7,1,s.pos,n,[],())]) (cnH st h g s t):=by
 refine fspec_intro hT (cnH st h g s t) (cnH st h g s t) 3 3 Tryz.func23 (by decide) rfl rfl (by kernel_rfl) rfl rfl ?_;refine Tri.seq (Tri.reg hT ?_);refine Tri.seq (Tri.reg hT ?_);refine .inl (.inr (.inl ⟨_,_,(by exact ⟨rfl,rfl,rfl,trivial⟩),(CSpec.ofH (u:=[(0,cnC st h g (.loc 1 0) (.loc 2 0),none),(1,bxS s,none),(2,bxS t,none)]) (f42_h1 st h g s t 7 n)),(by rfl),?_⟩));refine Tri.le _ (Le.freeze 6 8 1 rfl rfl (Nat.le_refl 1)) ?_;refine Tri.ret ?_;exact ⟨rfl,rfl,rfl,rfl,trivial⟩
abbrev vwA2 (h g:Hf) (s t:SS):AV:=viewV true (nextS t) h.high g.win (g.stamped && h.stamped) (if (g.stamped && h.stamped) = true then g.stamp else 0)
theorem f39_h2 (st:Int) (h g:Hf) (s t:SS):HSpec P G 39 [.loc 0 0,.int .i64 2] (cnH st h g s t) (vwA2 h g s t) (cnH st h g s t):=by
 refine fspec_intro hT (cnH st h g s t) (cnH st h g s t) 3 3 Tryz.func39 (by decide) rfl rfl (by kernel_rfl) rfl rfl ?_;refine Tri.seq (Tri.reg hT ?_);refine Tri.seq (Tri.drw hT hm 12 (by kernel_rfl) ?_);refine ⟨(by first|((try simp only [decide_eq_true_eq,decide_eq_false_iff_not,toNat_cast] at *);omega)|decide),?_⟩;refine .inl ⟨_,fun _=>rfl,f66_two,?_⟩;refine ⟨(by first|((try simp only [decide_eq_true_eq,decide_eq_false_iff_not,toNat_cast] at *);omega)|decide),?_⟩;refine ⟨by kernel_rfl,?_⟩;refine Tri.seq (Tri.drw hT hm 26 (by kernel_rfl) ?_);refine .inr (.inl ⟨_,_,(by exact ⟨rfl,trivial⟩),(CSpec.gw (f67_spec t 2)),(by rfl),?_⟩);refine ⟨_,[],trivial,rfl,rfl,fun h=>⟨rfl,rfl,rfl⟩,?_⟩;refine ⟨_,[],trivial,rfl,rfl,fun h=>⟨h,rfl,rfl,rfl⟩,?_⟩;refine ⟨_,[],trivial,rfl,rfl,fun h=>⟨h,rfl,rfl,rfl⟩,?_⟩;refine ⟨_,[],trivial,rfl,rfl,fun h=>⟨h,rfl,rfl,rfl⟩,?_⟩;refine ⟨⟨fun hc=>hc,fun _=>trivial⟩,?_⟩;refine ⟨by kernel_rfl,?_⟩;refine Tri.seq ?_;refine Tri.seq (Tri.reg hT ?_);refine (Tri.cond ⟨fun h1=>?_,fun h1=>?_⟩)
 ·
  refine (Tri.reg hT ?_);refine Tri.seq (Tri.reg hT ?_);refine Tri.ret ?_;exact ⟨vw_t h1,rfl,rfl,rfl,trivial⟩
 ·
  refine (Tri.skip ?_);refine Tri.seq (Tri.reg hT ?_);refine Tri.ret ?_;exact ⟨vw_f h1,rfl,rfl,rfl,trivial⟩
theorem f23_h2 (st:Int) (h g:Hf) (s t:SS) (n:Int):HSpec P G 23 [.loc 0 0,.int .i64 2,.int .i64 n] (cnH st h g s t) (.list evT [(7,2,t.pos,n,[],())]) (cnH st h g s t):=by
 refine fspec_intro hT (cnH st h g s t) (cnH st h g s t) 3 3 Tryz.func23 (by decide) rfl rfl (by kernel_rfl) rfl rfl ?_;refine Tri.seq (Tri.reg hT ?_);refine Tri.seq (Tri.reg hT ?_);refine .inl (.inr (.inl ⟨_,_,(by exact ⟨rfl,rfl,rfl,trivial⟩),(CSpec.ofH (u:=[(0,cnC st h g (.loc 1 0) (.loc 2 0),none),(1,bxS s,none),(2,bxS t,none)]) (f42_h2 st h g s t 7 n)),(by rfl),?_⟩));refine Tri.le _ (Le.freeze 6 8 1 rfl rfl (Nat.le_refl 1)) ?_;refine Tri.ret ?_;exact ⟨rfl,rfl,rfl,rfl,trivial⟩
end Go.Proofs.YtchiagnggnblaaaGreatDoor.Ac
namespace Go.Proofs.YtchiagnggnblaaaGreatDoor.Ac
open Go Go.Fw Go.Ov Go.Proofs.YtchiagnggnblaaaGreatDoor.Fx
def rp1 (d pos:Int) (x:List UInt8):List Evt:=if x = [] then [] else [(2,d,pos - x.length,0,x,())]
theorem rp1_len (d pos:Int) (x:List UInt8):(rp1 d pos x).length≤1:=by unfold rp1;split <;> simp
def rp2 (d pos:Int) (b:Bool):List Evt:=if b = true then [(4,d,pos,0,[],())] else []
def repM (d:Int) (s:SS) (x:List UInt8) (had:Bool):List Evt:=rp1 d s.pos x ++ rp2 d s.pos (!had && endedS s)
theorem rep_t {d:Int} {s:SS} {x:List UInt8} {had:Bool} (h:(if (!had) = true then endedS s else false) = true):rp1 d s.pos x ++ [(4,d,s.pos,0,[],())] = repM d s x had:=by
 unfold repM rp2
 rw [if_pos (by cases had <;> simp_all)]
theorem rep_f {d:Int} {s:SS} {x:List UInt8} {had:Bool} (h:(if (!had) = true then endedS s else false) = false):rp1 d s.pos x = repM d s x had:=by
 unfold repM rp2
 rw [if_neg (by cases had <;> simp_all),List.append_nil]
theorem f76_h1 (st:Int) (h g:Hf) (s t:SS) (x:List UInt8) (had:Bool) (hx:x.length≤1099511627776) (h0:0≤s.pos) (h1':s.pos≤1099511627776):HSpec P G 76 [.loc 0 0,.int .i64 1,.str x,.bool had] (cnH st h g s t) (.list evT (repM 1 s x had)) (cnH st h g s t):=by
 refine fspec_intro hT (cnH st h g s t) (cnH st h g s t) 3 3 Tryz.func76 (by decide) rfl rfl (by kernel_rfl) rfl rfl ?_;refine Tri.seq (Tri.reg hT ?_);refine Tri.seq (Tri.reg hT ?_);refine Tri.le _ (Le.own 9 evT rfl) ?_;refine Tri.join (True) (⟨47,3,60,[(0,.loc 0 0),(1,.int .i64 1),(3,.bool had),(9,.own 5 (rp1 1 s.pos x).length)],[(0,.box (cnC st h g (.loc 1 0) (.loc 2 0))),(1,.box (bxS s)),(2,.box (bxS t)),(5,.arr evT (rp1 1 s.pos x))],G⟩) ?_ fun hp1=>?_
 ·
  refine Tri.seq (Tri.reg hT ?_);refine (Tri.cond ⟨fun h1=>?_,fun h1=>?_⟩)
  ·
   refine Tri.seq (Tri.reg hT ?_);refine .inl (.inr (.inl ⟨_,_,(by exact ⟨rfl,rfl,rfl,trivial⟩),(CSpec.ofH (u:=[(0,cnC st h g (.loc 1 0) (.loc 2 0),none),(1,bxS s,none),(2,bxS t,none)]) (f42_h1 st h g s t 2 0)),(by rfl),?_⟩));refine Tri.seq (Tri.reg hT ?_);refine Tri.seq (Tri.reg hT ?_);refine (Tri.reg hT ?_);refine ⟨(Nat.le_refl _),(by show _≤_∧(_ + 1) * _≤_∧_ + 1≤_;dsimp only;(try simp only [decide_eq_true_eq,decide_eq_false_iff_not,toNat_cast] at *);omega),?_⟩;have hE:rp1 1 s.pos x = [((2:Int),(1:Int),s.pos - (x.length:Int),(0:Int),x,())]:=if_neg (of_decide_eq_true h1);have w:=wrapId (x:=s.pos - (x.length:Int)) (by omega)
   exact ⟨trivial,Le.weak rfl rfl rfl rfl ⟨(by first|rfl|exact iv1 (by (try simp only [decide_eq_true_eq,decide_eq_false_iff_not,toNat_cast] at *);omega)),(by first|rfl|exact iv1 (by (try simp only [decide_eq_true_eq,decide_eq_false_iff_not,toNat_cast] at *);omega)),(by first|rfl|exact iv1 (by (try simp only [decide_eq_true_eq,decide_eq_false_iff_not,toNat_cast] at *);omega)),(show AV.own 5 1 = AV.own 5 (rp1 1 s.pos x).length from by rw [hE];rfl),trivial⟩ ⟨rfl,rfl,rfl,(show some (Chunk.arr evT [((2:Int),(1:Int),IntKind.i64.wrap (s.pos - (x.length:Int)),(0:Int),x,())]) = some (Chunk.arr evT (rp1 1 s.pos x)) from by rw [hE,w]),trivial⟩⟩
  ·
   refine (Tri.skip ?_);have he:x = []:=(by have:=of_decide_eq_false h1;simpa using this);subst he
   exact ⟨trivial,Le.weak rfl rfl rfl rfl ⟨(by first|rfl|exact iv1 (by (try simp only [decide_eq_true_eq,decide_eq_false_iff_not,toNat_cast] at *);omega)),(by first|rfl|exact iv1 (by (try simp only [decide_eq_true_eq,decide_eq_false_iff_not,toNat_cast] at *);omega)),(by first|rfl|exact iv1 (by (try simp only [decide_eq_true_eq,decide_eq_false_iff_not,toNat_cast] at *);omega)),(by first|rfl|exact iv1 (by (try simp only [decide_eq_true_eq,decide_eq_false_iff_not,toNat_cast] at *);omega)),trivial⟩ ⟨rfl,rfl,rfl,rfl,trivial⟩⟩
 ·
  refine Tri.seq ?_;have hr1:=rp1_len 1 s.pos x;refine Tri.seq (Tri.reg hT ?_);refine ⟨_,[],trivial,rfl,rfl,fun h=>⟨rfl,rfl,rfl⟩,?_⟩;refine ⟨_,[],trivial,rfl,rfl,fun h=>⟨rfl,rfl,rfl⟩,?_⟩;refine ⟨_,[],trivial,rfl,rfl,fun h=>⟨h,rfl,rfl,rfl⟩,?_⟩;refine ⟨_,[],trivial,rfl,rfl,fun h=>⟨h,rfl,rfl,rfl⟩,?_⟩;refine ⟨_,[],trivial,rfl,rfl,fun h=>⟨h,h,(by first|((try simp only [decide_eq_true_eq,decide_eq_false_iff_not,toNat_cast] at *);omega)|decide),rfl,rfl,rfl⟩,?_⟩;refine ⟨_,[],trivial,rfl,rfl,fun h=>⟨h,rfl,rfl,rfl⟩,?_⟩;refine ⟨_,[],trivial,rfl,rfl,fun h=>⟨h,rfl,rfl,rfl⟩,?_⟩;refine ⟨_,[(1,bxS s,none)],(by exact ⟨rfl,trivial⟩),rfl,(by rfl),fun h=>⟨h,(.inr (.inl ⟨_,_,(by exact ⟨rfl,trivial⟩),(CSpec.gw (f74_spec s 1)),(by rfl),rfl,rfl,rfl⟩))⟩,?_⟩;refine ⟨⟨fun hc=>hc,fun _=>trivial⟩,?_⟩;refine (Tri.cond ⟨fun h2=>?_,fun h2=>?_⟩)
  ·
   refine (Tri.reg hT ?_);refine .inl (.inr (.inl ⟨_,_,(by exact ⟨rfl,rfl,rfl,trivial⟩),(CSpec.ofH (u:=[(0,cnC st h g (.loc 1 0) (.loc 2 0),none),(1,bxS s,none),(2,bxS t,none)]) (f42_h1 st h g s t 4 0)),(by rfl),?_⟩));refine ⟨(Nat.le_refl _),(by show _≤_∧(_ + 1) * _≤_∧_ + 1≤_;dsimp only;(try simp only [decide_eq_true_eq,decide_eq_false_iff_not,toNat_cast] at *);omega),?_⟩;refine Tri.seq (Tri.reg hT ?_);refine Tri.le ⟨47,3,90,[(8,.list evT (repM 1 s x had))],[(0,.box (cnC st h g (.loc 1 0) (.loc 2 0))),(1,.box (bxS s)),(2,.box (bxS t))],G⟩ (Le.trans (Le.freeze 8 5 _ rfl rfl (by simp)) (Le.weak rfl rfl rfl rfl ⟨congrArg (AV.list evT) (by rw [← rep_t h2];simp only [List.take_length];exact List.take_of_length_le (by simp)),trivial⟩ ⟨rfl,rfl,rfl,trivial⟩)) ?_;refine Tri.ret ?_;exact ⟨rfl,rfl,rfl,rfl,trivial⟩
  ·
   refine (Tri.skip ?_);refine Tri.seq (Tri.reg hT ?_);refine Tri.le ⟨47,3,90,[(8,.list evT (repM 1 s x had))],[(0,.box (cnC st h g (.loc 1 0) (.loc 2 0))),(1,.box (bxS s)),(2,.box (bxS t))],G⟩ (Le.trans (Le.freeze 8 5 _ rfl rfl (Nat.le_refl _)) (Le.weak rfl rfl rfl rfl ⟨congrArg (AV.list evT) (by rw [← rep_f h2,List.take_length]),trivial⟩ ⟨rfl,rfl,rfl,trivial⟩)) ?_;refine Tri.ret ?_;exact ⟨rfl,rfl,rfl,rfl,trivial⟩
theorem f76_h2 (st:Int) (h g:Hf) (s t:SS) (x:List UInt8) (had:Bool) (hx:x.length≤1099511627776) (h0:0≤t.pos) (h1':t.pos≤1099511627776):HSpec P G 76 [.loc 0 0,.int .i64 2,.str x,.bool had] (cnH st h g s t) (.list evT (repM 2 t x had)) (cnH st h g s t):=by
 refine fspec_intro hT (cnH st h g s t) (cnH st h g s t) 3 3 Tryz.func76 (by decide) rfl rfl (by kernel_rfl) rfl rfl ?_;refine Tri.seq (Tri.reg hT ?_);refine Tri.seq (Tri.reg hT ?_);refine Tri.le _ (Le.own 9 evT rfl) ?_;refine Tri.join (True) (⟨47,3,60,[(0,.loc 0 0),(1,.int .i64 2),(3,.bool had),(9,.own 5 (rp1 2 t.pos x).length)],[(0,.box (cnC st h g (.loc 1 0) (.loc 2 0))),(1,.box (bxS s)),(2,.box (bxS t)),(5,.arr evT (rp1 2 t.pos x))],G⟩) ?_ fun hp1=>?_
 ·
  refine Tri.seq (Tri.reg hT ?_);refine (Tri.cond ⟨fun h1=>?_,fun h1=>?_⟩)
  ·
   refine Tri.seq (Tri.reg hT ?_);refine .inl (.inr (.inl ⟨_,_,(by exact ⟨rfl,rfl,rfl,trivial⟩),(CSpec.ofH (u:=[(0,cnC st h g (.loc 1 0) (.loc 2 0),none),(1,bxS s,none),(2,bxS t,none)]) (f42_h2 st h g s t 2 0)),(by rfl),?_⟩));refine Tri.seq (Tri.reg hT ?_);refine Tri.seq (Tri.reg hT ?_);refine (Tri.reg hT ?_);refine ⟨(Nat.le_refl _),(by show _≤_∧(_ + 1) * _≤_∧_ + 1≤_;dsimp only;(try simp only [decide_eq_true_eq,decide_eq_false_iff_not,toNat_cast] at *);omega),?_⟩;have hE:rp1 2 t.pos x = [((2:Int),(2:Int),t.pos - (x.length:Int),(0:Int),x,())]:=if_neg (of_decide_eq_true h1);have w:=wrapId (x:=t.pos - (x.length:Int)) (by omega)
   exact ⟨trivial,Le.weak rfl rfl rfl rfl ⟨(by first|rfl|exact iv1 (by (try simp only [decide_eq_true_eq,decide_eq_false_iff_not,toNat_cast] at *);omega)),(by first|rfl|exact iv1 (by (try simp only [decide_eq_true_eq,decide_eq_false_iff_not,toNat_cast] at *);omega)),(by first|rfl|exact iv1 (by (try simp only [decide_eq_true_eq,decide_eq_false_iff_not,toNat_cast] at *);omega)),(show AV.own 5 1 = AV.own 5 (rp1 2 t.pos x).length from by rw [hE];rfl),trivial⟩ ⟨rfl,rfl,rfl,(show some (Chunk.arr evT [((2:Int),(2:Int),IntKind.i64.wrap (t.pos - (x.length:Int)),(0:Int),x,())]) = some (Chunk.arr evT (rp1 2 t.pos x)) from by rw [hE,w]),trivial⟩⟩
  ·
   refine (Tri.skip ?_);have he:x = []:=(by have:=of_decide_eq_false h1;simpa using this);subst he
   exact ⟨trivial,Le.weak rfl rfl rfl rfl ⟨(by first|rfl|exact iv1 (by (try simp only [decide_eq_true_eq,decide_eq_false_iff_not,toNat_cast] at *);omega)),(by first|rfl|exact iv1 (by (try simp only [decide_eq_true_eq,decide_eq_false_iff_not,toNat_cast] at *);omega)),(by first|rfl|exact iv1 (by (try simp only [decide_eq_true_eq,decide_eq_false_iff_not,toNat_cast] at *);omega)),(by first|rfl|exact iv1 (by (try simp only [decide_eq_true_eq,decide_eq_false_iff_not,toNat_cast] at *);omega)),trivial⟩ ⟨rfl,rfl,rfl,rfl,trivial⟩⟩
 ·
  refine Tri.seq ?_;have hr1:=rp1_len 2 t.pos x;refine Tri.seq (Tri.reg hT ?_);refine ⟨_,[],trivial,rfl,rfl,fun h=>⟨rfl,rfl,rfl⟩,?_⟩;refine ⟨_,[],trivial,rfl,rfl,fun h=>⟨rfl,rfl,rfl⟩,?_⟩;refine ⟨_,[],trivial,rfl,rfl,fun h=>⟨h,rfl,rfl,rfl⟩,?_⟩;refine ⟨_,[],trivial,rfl,rfl,fun h=>⟨h,rfl,rfl,rfl⟩,?_⟩;refine ⟨_,[],trivial,rfl,rfl,fun h=>⟨h,h,(by first|((try simp only [decide_eq_true_eq,decide_eq_false_iff_not,toNat_cast] at *);omega)|decide),rfl,rfl,rfl⟩,?_⟩;refine ⟨_,[],trivial,rfl,rfl,fun h=>⟨h,rfl,rfl,rfl⟩,?_⟩;refine ⟨_,[],trivial,rfl,rfl,fun h=>⟨h,rfl,rfl,rfl⟩,?_⟩;refine ⟨_,[(2,bxS t,none)],(by exact ⟨rfl,trivial⟩),rfl,(by rfl),fun h=>⟨h,(.inr (.inl ⟨_,_,(by exact ⟨rfl,trivial⟩),(CSpec.gw (f74_spec t 2)),(by rfl),rfl,rfl,rfl⟩))⟩,?_⟩;refine ⟨⟨fun hc=>hc,fun _=>trivial⟩,?_⟩;refine (Tri.cond ⟨fun h2=>?_,fun h2=>?_⟩)
  ·
   refine (Tri.reg hT ?_);refine .inl (.inr (.inl ⟨_,_,(by exact ⟨rfl,rfl,rfl,trivial⟩),(CSpec.ofH (u:=[(0,cnC st h g (.loc 1 0) (.loc 2 0),none),(1,bxS s,none),(2,bxS t,none)]) (f42_h2 st h g s t 4 0)),(by rfl),?_⟩));refine ⟨(Nat.le_refl _),(by show _≤_∧(_ + 1) * _≤_∧_ + 1≤_;dsimp only;(try simp only [decide_eq_true_eq,decide_eq_false_iff_not,toNat_cast] at *);omega),?_⟩;refine Tri.seq (Tri.reg hT ?_);refine Tri.le ⟨47,3,90,[(8,.list evT (repM 2 t x had))],[(0,.box (cnC st h g (.loc 1 0) (.loc 2 0))),(1,.box (bxS s)),(2,.box (bxS t))],G⟩ (Le.trans (Le.freeze 8 5 _ rfl rfl (by simp)) (Le.weak rfl rfl rfl rfl ⟨congrArg (AV.list evT) (by rw [← rep_t h2];simp only [List.take_length];exact List.take_of_length_le (by simp)),trivial⟩ ⟨rfl,rfl,rfl,trivial⟩)) ?_;refine Tri.ret ?_;exact ⟨rfl,rfl,rfl,rfl,trivial⟩
  ·
   refine (Tri.skip ?_);refine Tri.seq (Tri.reg hT ?_);refine Tri.le ⟨47,3,90,[(8,.list evT (repM 2 t x had))],[(0,.box (cnC st h g (.loc 1 0) (.loc 2 0))),(1,.box (bxS s)),(2,.box (bxS t))],G⟩ (Le.trans (Le.freeze 8 5 _ rfl rfl (Nat.le_refl _)) (Le.weak rfl rfl rfl rfl ⟨congrArg (AV.list evT) (by rw [← rep_f h2,List.take_length]),trivial⟩ ⟨rfl,rfl,rfl,trivial⟩)) ?_;refine Tri.ret ?_;exact ⟨rfl,rfl,rfl,rfl,trivial⟩
end Go.Proofs.YtchiagnggnblaaaGreatDoor.Ac
namespace Go.Proofs.YtchiagnggnblaaaGreatDoor.Ac
open Go Go.Fw Go.Ov Go.Proofs.YtchiagnggnblaaaGreatDoor.Fx
def begH (h:Hf) (q:Int) (o:List optT.D):Hf:=
 { nm:=h.nm,v6:=h.v6,hi:=h.hi,lo:=h.lo,ln:=h.ln,pol:=h.pol,frag:=h.frag,hops:=h.hops,win:=h.win,stamps:=h.stamps,val:=h.val,sv:=h.sv,isn:=q,high:=IntKind.u32.wrap (q + 1),stamped:=(stampsA o).2.2,stamp:=(stampsA o).1 }
set_option maxRecDepth 16000 in
theorem f26_n1 (st:Int) (h g:Hf) (a b k f w u:Int) (k2:Int) (o:List optT.D) (p:List UInt8) (ho:o.length < 9223372036854775807) :
  HSpec P G 26 [.loc 0 0,.int .i64 1,tcpV a b k k2 f w u o p] (cnN st h g) (.tup []) (cnN st (begH h k o) g):=by
 refine fspec_intro hT (cnN st h g) (cnN st (begH h k o) g) 1 1 Tryz.func26 (by decide) rfl rfl (by kernel_rfl) rfl rfl ?_;refine Tri.seq (Tri.reg hT ?_);refine Tri.seq (Tri.reg hT ?_);refine ⟨(by first|((try simp only [decide_eq_true_eq,decide_eq_false_iff_not,toNat_cast] at *);omega)|decide),?_⟩;refine Tri.seq (Tri.reg hT ?_);refine .inl (.inl ⟨_,fun _=>rfl,f45_spec a b k k2 f w u o p ho,?_⟩);refine (Tri.drw hT hm 27 (by kernel_rfl) ?_);refine ⟨by kernel_rfl,?_⟩;exact ⟨rfl,rfl,trivial⟩
set_option maxRecDepth 16000 in
theorem f26_n2 (st:Int) (h g:Hf) (a b k f w u:Int) (k2:Int) (o:List optT.D) (p:List UInt8) (ho:o.length < 9223372036854775807) :
  HSpec P G 26 [.loc 0 0,.int .i64 2,tcpV a b k k2 f w u o p] (cnN st h g) (.tup []) (cnN st h (begH g k o)):=by
 refine fspec_intro hT (cnN st h g) (cnN st h (begH g k o)) 1 1 Tryz.func26 (by decide) rfl rfl (by kernel_rfl) rfl rfl ?_;refine Tri.seq (Tri.reg hT ?_);refine Tri.seq (Tri.reg hT ?_);refine ⟨(by first|((try simp only [decide_eq_true_eq,decide_eq_false_iff_not,toNat_cast] at *);omega)|decide),?_⟩;refine Tri.seq (Tri.reg hT ?_);refine .inl (.inl ⟨_,fun _=>rfl,f45_spec a b k k2 f w u o p ho,?_⟩);refine (Tri.drw hT hm 27 (by kernel_rfl) ?_);refine ⟨by kernel_rfl,?_⟩;exact ⟨rfl,rfl,trivial⟩
set_option maxRecDepth 16000 in
theorem f26_h1 (st:Int) (h g:Hf) (s t:SS) (a b k f w u:Int) (k2:Int) (o:List optT.D) (p:List UInt8) (ho:o.length < 9223372036854775807) :
  HSpec P G 26 [.loc 0 0,.int .i64 1,tcpV a b k k2 f w u o p] (cnH st h g s t) (.tup []) ([(0,.box (cnC st (begH h k o) g .nilp (.loc 2 0))),(1,.box (bxS s)),(2,.box (bxS t))]):=by
 refine fspec_intro hT (cnH st h g s t) ([(0,.box (cnC st (begH h k o) g .nilp (.loc 2 0))),(1,.box (bxS s)),(2,.box (bxS t))]) 3 3 Tryz.func26 (by decide) rfl rfl (by kernel_rfl) rfl rfl ?_;refine Tri.seq (Tri.reg hT ?_);refine Tri.seq (Tri.reg hT ?_);refine ⟨(by first|((try simp only [decide_eq_true_eq,decide_eq_false_iff_not,toNat_cast] at *);omega)|decide),?_⟩;refine Tri.seq (Tri.reg hT ?_);refine .inl (.inl ⟨_,fun _=>rfl,f45_spec a b k k2 f w u o p ho,?_⟩);refine (Tri.drw hT hm 27 (by kernel_rfl) ?_);refine ⟨by kernel_rfl,?_⟩;exact ⟨rfl,rfl,rfl,rfl,trivial⟩
end Go.Proofs.YtchiagnggnblaaaGreatDoor.Ac
namespace Go.Proofs.YtchiagnggnblaaaGreatDoor.Ac
open Go Go.Fw Go.Ov Go.Proofs.YtchiagnggnblaaaGreatDoor.Fx
abbrev opB (st:Int):Bool:=decide (st = 3) || decide (st = 4)
abbrev vwZ:AV:=viewV false 0 0 0 false 0
theorem f15_h1 (st:Int) (p g:Hf) (s t:SS):HSpec P G 15 [.loc 0 0,.int .i64 1] (cnH st p g s t) (if opB st = true then vwA1 p g s t else vwZ) (cnH st p g s t):=by
 generalize hO:opB st = ob;rw [show (if ob = true then vwA1 p g s t else vwZ) = (match ob with|true=>vwA1 p g s t|false=>vwZ) by cases ob <;> rfl];refine fspec_intro hT (cnH st p g s t) (cnH st p g s t) 3 3 Tryz.func15 (by decide) rfl rfl (by kernel_rfl) rfl rfl ?_
 refine Tri.seq (Tri.reg hT ?_);refine Tri.seq ?_;refine Tri.seq (Tri.reg hT ?_);refine ⟨_,[],trivial,rfl,rfl,fun h=>⟨rfl,rfl,rfl⟩,?_⟩;refine ⟨_,[],trivial,rfl,rfl,fun h=>⟨h,(.inl ⟨_,fun _=>rfl,f21_spec 1,rfl,rfl,rfl⟩)⟩,?_⟩;refine ⟨_,[],trivial,rfl,rfl,fun h=>⟨h,rfl,rfl,rfl⟩,?_⟩;refine ⟨⟨fun _=>trivial,fun hc=>(gn hc)⟩,?_⟩;refine ⟨_,[],trivial,rfl,rfl,fun h=>⟨rfl,rfl,rfl⟩,?_⟩;refine ⟨_,[(0,cnC st p g (.loc 1 0) (.loc 2 0),none),(1,bxS s,none),(2,bxS t,none)],(by exact ⟨rfl,rfl,rfl,trivial⟩),rfl,(by rfl),fun h=>⟨h,(.inr (.inl ⟨_,_,(by exact ⟨rfl,rfl,rfl,trivial⟩),(CSpec.ofH (u:=[(0,cnC st p g (.loc 1 0) (.loc 2 0),none),(1,bxS s,none),(2,bxS t,none)]) (f24_h st p g s t)),(by rfl),rfl,rfl,rfl⟩))⟩,?_⟩;refine ⟨_,[],trivial,rfl,rfl,fun h=>⟨h,rfl,rfl,rfl⟩,?_⟩;refine ⟨⟨fun _=>trivial,fun hc=>(gn hc)⟩,?_⟩;refine (Tri.cond ⟨fun h1=>?_,fun h1=>?_⟩)
 ·
  refine Tri.seq (Tri.reg hT ?_);refine Tri.ret ?_;have hf:ob = false:=(by rw [← hO];unfold opB;simpa using h1);subst hf;exact ⟨rfl,rfl,rfl,rfl,trivial⟩
 ·
  refine (Tri.skip ?_);refine Tri.seq (Tri.reg hT ?_);refine .inl (.inr (.inl ⟨_,_,(by exact ⟨rfl,rfl,rfl,trivial⟩),(CSpec.ofH (u:=[(0,cnC st p g (.loc 1 0) (.loc 2 0),none),(1,bxS s,none),(2,bxS t,none)]) (f39_h1 st p g s t)),(by rfl),?_⟩));refine Tri.ret ?_;have hf:ob = true:=(by rw [← hO];unfold opB;simp at h1;by_cases q:st = 3 <;> simp_all);subst hf;exact ⟨rfl,rfl,rfl,rfl,trivial⟩
theorem f15_h2 (st:Int) (p g:Hf) (s t:SS):HSpec P G 15 [.loc 0 0,.int .i64 2] (cnH st p g s t) (if opB st = true then vwA2 p g s t else vwZ) (cnH st p g s t):=by
 generalize hO:opB st = ob;rw [show (if ob = true then vwA2 p g s t else vwZ) = (match ob with|true=>vwA2 p g s t|false=>vwZ) by cases ob <;> rfl];refine fspec_intro hT (cnH st p g s t) (cnH st p g s t) 3 3 Tryz.func15 (by decide) rfl rfl (by kernel_rfl) rfl rfl ?_
 refine Tri.seq (Tri.reg hT ?_);refine Tri.seq ?_;refine Tri.seq (Tri.reg hT ?_);refine ⟨_,[],trivial,rfl,rfl,fun h=>⟨rfl,rfl,rfl⟩,?_⟩;refine ⟨_,[],trivial,rfl,rfl,fun h=>⟨h,(.inl ⟨_,fun _=>rfl,f21_spec 2,rfl,rfl,rfl⟩)⟩,?_⟩;refine ⟨_,[],trivial,rfl,rfl,fun h=>⟨h,rfl,rfl,rfl⟩,?_⟩;refine ⟨⟨fun _=>trivial,fun hc=>(gn hc)⟩,?_⟩;refine ⟨_,[],trivial,rfl,rfl,fun h=>⟨rfl,rfl,rfl⟩,?_⟩;refine ⟨_,[(0,cnC st p g (.loc 1 0) (.loc 2 0),none),(1,bxS s,none),(2,bxS t,none)],(by exact ⟨rfl,rfl,rfl,trivial⟩),rfl,(by rfl),fun h=>⟨h,(.inr (.inl ⟨_,_,(by exact ⟨rfl,rfl,rfl,trivial⟩),(CSpec.ofH (u:=[(0,cnC st p g (.loc 1 0) (.loc 2 0),none),(1,bxS s,none),(2,bxS t,none)]) (f24_h st p g s t)),(by rfl),rfl,rfl,rfl⟩))⟩,?_⟩;refine ⟨_,[],trivial,rfl,rfl,fun h=>⟨h,rfl,rfl,rfl⟩,?_⟩;refine ⟨⟨fun _=>trivial,fun hc=>(gn hc)⟩,?_⟩;refine (Tri.cond ⟨fun h1=>?_,fun h1=>?_⟩)
 ·
  refine Tri.seq (Tri.reg hT ?_);refine Tri.ret ?_;have hf:ob = false:=(by rw [← hO];unfold opB;simpa using h1);subst hf;exact ⟨rfl,rfl,rfl,rfl,trivial⟩
 ·
  refine (Tri.skip ?_);refine Tri.seq (Tri.reg hT ?_);refine .inl (.inr (.inl ⟨_,_,(by exact ⟨rfl,rfl,rfl,trivial⟩),(CSpec.ofH (u:=[(0,cnC st p g (.loc 1 0) (.loc 2 0),none),(1,bxS s,none),(2,bxS t,none)]) (f39_h2 st p g s t)),(by rfl),?_⟩));refine Tri.ret ?_;have hf:ob = true:=(by rw [← hO];unfold opB;simp at h1;by_cases q:st = 3 <;> simp_all);subst hf;exact ⟨rfl,rfl,rfl,rfl,trivial⟩
end Go.Proofs.YtchiagnggnblaaaGreatDoor.Ac
