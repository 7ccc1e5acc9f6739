import Derived.Test.YtchiagnggnblaaaGreatDoorSgI
import Derived.Test.YtchiagnggnblaaaGreatDoorSgC
import Derived.Test.YtchiagnggnblaaaGreatDoorSgD
set_option linter.all false
namespace Go.Proofs.YtchiagnggnblaaaGreatDoor.Ac
open Go Go.Fw Go.Ov Go.Proofs.YtchiagnggnblaaaGreatDoor.Fx
theorem f84_d (a b:Int):PSpec P G 84 [.int .u32 a,.int .u32 b] (.int .i64 (diff a b)):=PSpec.gw (f84_spec a b)
theorem f57_spec (a b:Int):PSpec P G 57 [.int .u32 a,.int .u32 b] (.bool (decide (diff a b < 0))):=by
 refine pspec_intro hT Tryz.func57 (by decide) rfl rfl (by kernel_rfl) rfl ?_;refine Tri.seq (Tri.reg hT ?_);refine Tri.seq (Tri.reg hT ?_);refine .inl (.inl ⟨_,fun _=>rfl,f84_d a b,?_⟩);refine Tri.ret ?_;exact ⟨rfl,trivial⟩
theorem f58_spec (a b s k f w u:Int) (o:List optT.D) (p:List UInt8) (hp:p.length≤140737488355328):PSpec P G 58 [tcpV a b s k f w u o p] (.int .i64 (p.length + (if bitop .i64 .and f 2≠0 then 1 else 0) + (if bitop .i64 .and f 1≠0 then 1 else 0))):=by
 have w1:IntKind.i64.wrap ((p.length:Int) + 1) = p.length + 1:=wrapId (by omega);have w2:IntKind.i64.wrap ((p.length:Int) + 1 + 1) = p.length + 1 + 1:=wrapId (by omega);refine pspec_intro hT Tryz.func58 (by decide) rfl rfl (by kernel_rfl) rfl ?_;refine Tri.seq (Tri.reg hT ?_);refine Tri.seq (Tri.reg hT ?_);refine Tri.seq ?_;refine Tri.seq (Tri.reg hT ?_);refine (Tri.cond ⟨fun h1=>?_,fun h1=>?_⟩)
 ·
  refine (Tri.reg hT ?_);refine Tri.seq ?_;refine Tri.seq (Tri.reg hT ?_);refine (Tri.cond ⟨fun h2=>?_,fun h2=>?_⟩)
  ·
   refine (Tri.reg hT ?_);refine Tri.seq (Tri.reg hT ?_);refine Tri.ret ?_;exact ⟨congrArg (AV.int .i64) (by simp_all),trivial⟩
  ·
   refine (Tri.skip ?_);refine Tri.seq (Tri.reg hT ?_);refine Tri.ret ?_;exact ⟨congrArg (AV.int .i64) (by simp_all),trivial⟩
 ·
  refine (Tri.skip ?_);refine Tri.seq ?_;refine Tri.seq (Tri.reg hT ?_);refine (Tri.cond ⟨fun h3=>?_,fun h3=>?_⟩)
  ·
   refine (Tri.reg hT ?_);refine Tri.seq (Tri.reg hT ?_);refine Tri.ret ?_;exact ⟨congrArg (AV.int .i64) (by simp_all),trivial⟩
  ·
   refine (Tri.skip ?_);refine Tri.seq (Tri.reg hT ?_);refine Tri.ret ?_;exact ⟨congrArg (AV.int .i64) (by simp_all),trivial⟩
def valR (l:List UInt8):Int:=l.foldl (fun n b=>n * 256 + (b.toNat:Int)) 0
theorem valR_bound (l:List UInt8) (n:Nat) (h:l.length≤n):0≤valR l∧valR l < ((256 ^ n:Nat):Int):=by
 have key:∀ (l:List UInt8) (a:Int) (m:Nat),0≤a→a < ((256 ^ m:Nat):Int)→0≤l.foldl (fun n b=>n * 256 + (b.toNat:Int)) a∧l.foldl (fun n b=>n * 256 + (b.toNat:Int)) a < ((256 ^ (m + l.length):Nat):Int):=by
  intro l;induction l with
  | nil=>intro a m h0 h1;exact ⟨h0,h1⟩
  | cons b l ih=>
   intro a m h0 h1;have hb:=b.toNat_lt;have e:256 ^ (m + 1) = 256 ^ m * 256:=Nat.pow_succ ..;have:=ih (a * 256 + (b.toNat:Int)) (m + 1) (by omega) (by omega);rw [List.foldl_cons,List.length_cons,show m + (l.length + 1) = m + 1 + l.length by omega];exact this
 have k:=key l 0 0 (by omega) (by decide);refine ⟨k.1,Int.lt_of_lt_of_le k.2 ?_⟩;rw [Nat.zero_add];exact Int.ofNat_le.2 (Nat.pow_le_pow_right (by decide:0 < 256) h)
theorem f110_spec (s:List UInt8) (hs:s.length≤7):PSpec P G 110 [.str s] (.int .i64 (valR s)):=by
 refine pspec_intro hT Tryz.func110 (by decide) rfl rfl (by kernel_rfl) rfl ?_;refine Tri.seq (Tri.reg hT ?_);refine Tri.seq (Tri.reg hT ?_);refine Tri.seq ?_;refine Tri.seq (Tri.reg hT ?_);refine (Tri.block ?_);refine (Tri.loop (ι:=Nat) (fun i=>⟨19,0,0,[(0,.str s),(3,.int .i64 (valR (s.take i))),(4,.int .i64 (i:Int))],[],G⟩) (fun i=>i≤s.length) (fun i=>s.length - i) (0) ?_ ?_ ?_)
 ·
  exact Nat.zero_le _
 ·
  exact Le.weak rfl rfl rfl rfl ⟨rfl,rfl,rfl,trivial⟩ trivial
 ·
  intro i hi;refine Tri.seq ?_;refine Tri.seq (Tri.reg hT ?_);refine (Tri.cond ⟨fun h1=>?_,fun h1=>?_⟩)
  ·
   refine (Tri.skip ?_);refine Tri.seq (Tri.block ?_);refine (Tri.reg hT ?_);refine ⟨by simp at h1 ⊢;omega,?_⟩;refine (Tri.reg hT ?_);simp at h1;refine ⟨i + 1,by omega,by omega,Le.weak rfl rfl rfl rfl ⟨rfl,congrArg (AV.int .i64) ?_,iv1 (by omega),trivial⟩ trivial⟩;have hb:=valR_bound (s.take i) 6 (by rw [List.length_take];omega);have hc:=(s.getD i 0).toNat_lt;rw [take_getD (0:UInt8) h1];simp only [valR,List.foldl_append,List.foldl_cons,List.foldl_nil];simp only [valR] at hb;rw [toNat_cast,wrapId (x:=((s.getD i 0).toNat:Int)) (by omega),wrapId (x:=List.foldl (fun n b=>n * 256 + (b.toNat:Int)) 0 (List.take i s) * 256) (by omega),wrapId (by omega)]
  ·
   refine Tri.exit ?_;refine Tri.seq (Tri.reg hT ?_);refine Tri.ret ?_;simp at h1;exact ⟨congrArg (AV.int .i64) (by rw [List.take_of_length_le h1]),trivial⟩
theorem f96_spec (s:List UInt8) (at_ n:Int) (hn:1≤n∧n≤7) (h0:0≤at_) (hL:at_ + n≤s.length) (hs:s.length≤140737488355328) :
  PSpec P G 96 [.str s,.int .i64 at_,.int .i64 n] (.tup [.int .i64 (valR ((s.take (at_ + n).toNat).drop at_.toNat)),.int .i64 0]):=by
 have hw:IntKind.i64.wrap (at_ + n) = at_ + n:=wrapId (by omega);have hw2:IntKind.i64.wrap (s.length - at_) = s.length - at_:=wrapId (by omega);have hl:((s.take (at_ + n).toNat).drop at_.toNat).length = n.toNat:=by simp;omega
 refine pspec_intro hT Tryz.func96 (by decide) rfl rfl (by kernel_rfl) rfl ?_;refine Tri.seq (Tri.reg hT ?_);refine Tri.seq ?_;refine Tri.seq (Tri.reg hT ?_);refine ⟨_,[],trivial,rfl,rfl,fun h=>⟨rfl,rfl,rfl⟩,?_⟩;refine ⟨_,[],trivial,rfl,rfl,fun h=>⟨h,rfl,rfl,rfl⟩,?_⟩;refine ⟨⟨fun _=>trivial,fun hc=>(gn hc)⟩,?_⟩;refine ⟨_,[],trivial,rfl,rfl,fun h=>⟨rfl,rfl,rfl⟩,?_⟩;refine ⟨_,[],trivial,rfl,rfl,fun h=>⟨h,rfl,rfl,rfl⟩,?_⟩;refine ⟨⟨fun _=>trivial,fun hc=>(gn hc)⟩,?_⟩;refine (Tri.cond ⟨fun h1=>?_,fun h1=>?_⟩)
 ·
  exact absurd h1 (by simp;omega)
 ·
  refine (Tri.skip ?_);refine Tri.seq ?_;refine Tri.seq (Tri.reg hT ?_);refine ⟨_,[],trivial,rfl,rfl,fun h=>⟨rfl,rfl,rfl⟩,?_⟩;refine ⟨_,[],trivial,rfl,rfl,fun h=>⟨h,rfl,rfl,rfl⟩,?_⟩;refine ⟨_,[],trivial,rfl,rfl,fun h=>⟨rfl,rfl,rfl⟩,?_⟩;refine ⟨_,[],trivial,rfl,rfl,fun h=>⟨h,h,rfl,rfl,rfl⟩,?_⟩;refine ⟨_,[],trivial,rfl,rfl,fun h=>⟨rfl,rfl,rfl⟩,?_⟩;refine ⟨_,[],trivial,rfl,rfl,fun h=>⟨h,h,rfl,rfl,rfl⟩,?_⟩;refine ⟨⟨fun _=>trivial,fun hc=>(gn hc)⟩,?_⟩;refine (Tri.cond ⟨fun h2=>?_,fun h2=>?_⟩)
  ·
   exact absurd h2 (by rw [hw2];simp;omega)
  ·
   refine (Tri.skip ?_);refine Tri.seq (Tri.reg hT ?_);refine ⟨by rw [hw];omega,?_⟩;refine .inl (.inl ⟨_,fun _=>rfl,f110_spec _ (by rw [hw,hl];omega),?_⟩);refine Tri.ret ?_;exact ⟨by rw [hw];rfl,trivial⟩
theorem f83_spec (s:List UInt8) (at_ n:Int) (hn:1≤n∧n≤7) (h0:0≤at_) (hL:at_ + n≤s.length) (hs:s.length≤140737488355328) :
  PSpec P G 83 [.str s,.int .i64 at_,.int .i64 n] (.int .i64 (valR ((s.take (at_ + n).toNat).drop at_.toNat))):=by
 refine pspec_intro hT Tryz.func83 (by decide) rfl rfl (by kernel_rfl) rfl ?_;refine Tri.seq (Tri.reg hT ?_);refine Tri.seq (Tri.reg hT ?_);refine .inl (.inl ⟨_,fun _=>rfl,f96_spec s at_ n hn h0 hL hs,?_⟩);refine Tri.seq (Tri.reg hT ?_);refine Tri.ret ?_;exact ⟨rfl,trivial⟩
def optR (o:List optT.D) (k:Int):List UInt8:=match o.find? (fun x=>decide (x.1 = k)) with
 | some x=>x.2.1
 | none=>[]
theorem f82_spec (a b s k f w u:Int) (o:List optT.D) (p:List UInt8) (kind:Int) (ho:o.length < 9223372036854775807) :
  PSpec P G 82 [tcpV a b s k f w u o p,.int .i64 kind] (.str (optR o kind)):=by
 refine pspec_intro hT Tryz.func82 (by decide) rfl rfl (by kernel_rfl) rfl ?_;refine Tri.seq (Tri.reg hT ?_);refine Tri.seq ?_;refine Tri.seq (Tri.reg hT ?_);refine (Tri.block ?_);refine (Tri.loop (ι:=Nat) (fun i=>⟨27,0,1,[(1,.int .i64 kind),(2,.loc 0 0),(4,.str []),(5,.int .i64 (i:Int))],[(0,.box [.int .i64 a,.int .i64 b,.int .u32 s,.int .u32 k,.int .i64 f,.int .i64 w,.int .i64 u,.list optT o,.str p])],G⟩) (fun i=>i≤o.length∧o.find? (fun x=>decide (x.1 = kind)) = (o.drop i).find? (fun x=>decide (x.1 = kind))) (fun i=>o.length - i) (0) ?_ ?_ ?_)
 ·
  exact ⟨by omega,rfl⟩
 ·
  exact Le.weak rfl rfl rfl rfl ⟨rfl,rfl,rfl,rfl,trivial⟩ ⟨rfl,trivial⟩
 ·
  intro i hi;refine Tri.seq ?_;refine Tri.seq (Tri.reg hT ?_);refine (Tri.cond ⟨fun h1=>?_,fun h1=>?_⟩)
  ·
   refine (Tri.skip ?_);refine Tri.seq (Tri.block ?_);refine Tri.seq (Tri.reg hT ?_);refine ⟨by simp at h1 ⊢;omega,?_⟩;refine (Tri.cond ⟨fun h2=>?_,fun h2=>?_⟩)
   ·
    refine Tri.seq (Tri.reg hT ?_);refine ⟨by simp at h1 ⊢;omega,?_⟩;refine Tri.ret ?_;simp at h1;have hd:=drop_getD (Ty.dflt optT) (show i < o.length by omega);rw [toNat_cast] at h2;have hf:o.find? (fun x=>decide (x.1 = kind)) = some (o.getD i (Ty.dflt optT)):=(by rw [hi.2,hd,List.find?_cons_of_pos (p:=fun x:optT.D=>decide (x.1 = kind)) h2]);exact ⟨by simp only [optR,hf];rfl,trivial⟩
   ·
    refine (Tri.skip ?_);refine (Tri.reg hT ?_);simp at h1;have hd:=drop_getD (Ty.dflt optT) (show i < o.length by omega);rw [toNat_cast] at h2;exact ⟨i + 1,⟨by omega,by rw [hi.2,hd,List.find?_cons_of_neg (p:=fun x:optT.D=>decide (x.1 = kind)) (by rw [Bool.not_eq_true];exact h2)]⟩,by omega,Le.weak rfl rfl rfl rfl ⟨rfl,rfl,rfl,iv1 (by omega),trivial⟩ ⟨rfl,trivial⟩⟩
  ·
   refine Tri.exit ?_;refine Tri.seq (Tri.reg hT ?_);refine Tri.ret ?_;simp at h1;exact ⟨by simp only [optR,hi.2,List.drop_of_length_le h1,List.find?_nil];rfl,trivial⟩
theorem num_val (l:List UInt8) (h:l.length≤6):num (intsOf l) = valR l:=by
 have key:∀ (l:List UInt8) (a m:Nat),a < 256 ^ m→m + l.length≤6→(intsOf l).foldl (fun n b=>bitop .i64 .or (IntKind.i64.wrap (n * 256)) (IntKind.i64.wrap b)) (a:Int) = l.foldl (fun n b=>n * 256 + (b.toNat:Int)) (a:Int):=by
  intro l;induction l with
  | nil=>intro a m _ _;rfl
  | cons b l ih=>
   intro a m h0 h1;rw [List.length_cons] at h1;have hb:=b.toNat_lt;have h48:a < 2 ^ 48:=Nat.lt_of_lt_of_le h0 (Nat.le_trans (Nat.pow_le_pow_right (by decide:0 < 256) (show m≤6 by omega)) (by decide));rw [show intsOf (b :: l) = (b.toNat:Int) :: intsOf l from rfl,List.foldl_cons,List.foldl_cons,or_step a b.toNat h48 hb];rw [show (a:Int) * 256 + (b.toNat:Int) = ((a * 256 + b.toNat:Nat):Int) by omega];refine ih _ (m + 1) ?_ (by omega);have e:256 ^ (m + 1) = 256 ^ m * 256:=Nat.pow_succ ..;omega
 exact key l 0 0 (by decide) (by omega)
theorem optR_eq (o:List optT.D):optionR o 8 8 = (optR o 8,decide (((optR o 8).length:Int) = 8)):=by
 unfold optionR optR
 cases o.find? (fun x=>decide (x.1 = 8)) with
 | none=>rfl
 | some x=>rfl
theorem stamps_t {o:List optT.D} (h:((optR o 8).length:Int) = 8):stampsA o = (IntKind.u32.wrap (valR (((optR o 8).take 4).drop 0)),IntKind.u32.wrap (valR (((optR o 8).take 8).drop 4)),true):=by
 unfold stampsA
 rw [optR_eq,if_pos (decide_eq_true h)];rw [num_val _ (by simp only [List.length_drop,List.length_take];omega),num_val _ (by simp only [List.length_drop,List.length_take];omega)]
theorem stamps_f {o:List optT.D} (h:¬ ((optR o 8).length:Int) = 8):stampsA o = (0,0,false):=by
 unfold stampsA
 rw [optR_eq,if_neg (by simpa using h)]
theorem f56_spec (a b s k f w u:Int) (o:List optT.D) (p:List UInt8) (ho:o.length < 9223372036854775807) :
  PSpec P G 56 [tcpV a b s k f w u o p] (.tup [.int .u32 (stampsA o).1,.int .u32 (stampsA o).2.1,.bool (stampsA o).2.2]):=by
 refine pspec_intro hT Tryz.func56 (by decide) rfl rfl (by kernel_rfl) rfl ?_;refine Tri.seq (Tri.reg hT ?_);refine Tri.seq (Tri.reg hT ?_);refine .inl (.inl ⟨_,fun _=>rfl,f82_spec _ _ _ _ _ _ _ _ _ _ ho,?_⟩);refine Tri.seq ?_;refine Tri.seq (Tri.reg hT ?_);refine (Tri.cond ⟨fun h1=>?_,fun h1=>?_⟩)
 ·
  refine Tri.seq (Tri.reg hT ?_);refine Tri.ret ?_;have h1':=of_decide_eq_true h1;exact ⟨by rw [stamps_f h1'];rfl,trivial⟩
 ·
  refine (Tri.skip ?_);refine Tri.seq (Tri.reg hT ?_);refine .inl (.inl ⟨_,fun _=>rfl,f83_spec _ _ _ (by decide) (by decide) (by have:=of_decide_eq_false h1;simp at this;omega) (by have:=of_decide_eq_false h1;simp at this;omega),?_⟩);refine .inl (.inl ⟨_,fun _=>rfl,f83_spec _ _ _ (by decide) (by decide) (by have:=of_decide_eq_false h1;simp at this;omega) (by have:=of_decide_eq_false h1;simp at this;omega),?_⟩);refine Tri.ret ?_;have h1':=of_decide_eq_false h1;exact ⟨by rw [stamps_t (by simpa using h1')];rfl,trivial⟩
theorem f31_a (a b s k f w' u:Int) (o:List optT.D) (p:List UInt8) (op:Bool) (nx sn w:Int) (st:Bool) (stamp:Int)
  (nm:List UInt8) (v6:Bool) (hi lo ln pol frag hops win:Int) (stamps:Bool) (val:Int) (sv:List svcT.D) (ho:o.length < 9223372036854775807) (hs:U32 s) (hx:U32 nx) :
  PSpec P G 31 [tcpV a b s k f w' u o p,viewV op nx sn w st stamp,assetV nm v6 hi lo ln pol frag hops win stamps val sv] (.int .i64 (segA s k f o p.length op nx sn w st stamp stamps)):=by
 rw [seg_eq hs hx];exact f31_spec a b s k f w' u o p op nx sn w st stamp nm v6 hi lo ln pol frag hops win stamps val sv ho
theorem f28_a (f:Int):PSpec P G 28 [.int .i64 f] (.bool (flags f)):=by
 rw [flags_eq];exact f28_spec f
theorem nextS_u (s:SS):U32 (nextS s):=by
 unfold nextS U32
 split <;> · simp only [wrap_u32];omega
end Go.Proofs.YtchiagnggnblaaaGreatDoor.Ac
namespace Go.Proofs.YtchiagnggnblaaaGreatDoor.Ac
open Go Go.Fw Go.Ov Go.Proofs.YtchiagnggnblaaaGreatDoor.Fx
abbrev rfC (st:Int) (p g:Hf) (e1 e2:Int) (b1 b2:Bool) (s t:AV):List AV:=[
 .str g.nm,.bool g.v6,.int .u64 g.hi,.int .u64 g.lo,.int .i64 g.ln,.int .i64 g.pol,.int .i64 g.frag,.int .i64 g.hops,.int .i64 g.win,.bool g.stamps,.int .i64 g.val,.list svT g.sv,.int .u32 p.isn,.bool p.stamped,.int .u32 e1,t,.int .u32 g.stamp,.bool b2,
 .str p.nm,.bool p.v6,.int .u64 p.hi,.int .u64 p.lo,.int .i64 p.ln,.int .i64 p.pol,.int .i64 p.frag,.int .i64 p.hops,.int .i64 p.win,.bool p.stamps,.int .i64 p.val,.list svT p.sv,.int .u32 g.isn,.bool g.stamped,.int .u32 e2,s,.int .u32 p.stamp,.bool b1,.int .i64 st]
abbrev rnN (st:Int) (p g:Hf) (e1 e2:Int) (b1 b2:Bool):List (Nat × Chunk):=[(0,.box (rfC st p g e1 e2 b1 b2 .nilp .nilp))]
abbrev rnH (st:Int) (p g:Hf) (e1 e2:Int) (b1 b2:Bool) (s t:SS):List (Nat × Chunk):=[(0,.box (rfC st p g e1 e2 b1 b2 (.loc 1 0) (.loc 2 0))),(1,.box (bxR s)),(2,.box (bxR t))]
abbrev rnM (st:Int) (p g:Hf) (e1 e2:Int) (b1 b2:Bool) (s t:SS):List (Nat × Chunk):=[(0,.box (rfC st p g e1 e2 b1 b2 .nilp .nilp)),(1,.box (bxR s)),(2,.box (bxR t))]
abbrev ruN (st:Int) (p g:Hf) (e1 e2:Int) (b1 b2:Bool):Upd:=[(0,rfC st p g e1 e2 b1 b2 .nilp .nilp,none)]
abbrev ruH (st:Int) (p g:Hf) (e1 e2:Int) (b1 b2:Bool) (s t:SS):Upd:=[(0,rfC st p g e1 e2 b1 b2 (.loc 1 0) (.loc 2 0),none),(1,bxR s,none),(2,bxR t,none)]
abbrev ruM (st:Int) (p g:Hf) (e1 e2:Int) (b1 b2:Bool) (s t:SS):Upd:=[(0,rfC st p g e1 e2 b1 b2 .nilp .nilp,none),(1,bxR s,none),(2,bxR t,none)]
set_option maxRecDepth 16000 in
theorem f5_spec (h g:Hf) (hh:h.isn = 0∧h.high = 0∧h.stamped = false∧h.stamp = 0) (hg:g.isn = 0∧g.high = 0∧g.stamped = false∧g.stamp = 0):NSpec P G 5 [.agg (asA g),.agg (asA h)] (rfC 0 h g 0 0 false false .nilp .nilp):=by
 obtain ⟨h1,h2,h3,h4⟩:=hh;obtain ⟨g1,g2,g3,g4⟩:=hg;unfold rfC
 rw [h1,h3,h4,g1,g3,g4];refine nspec_intro hT 8 Tryz.func5 (by decide) rfl rfl (by kernel_rfl) rfl ?_;refine Tri.seq (Tri.reg hT ?_);refine Tri.seq (Tri.reg hT ?_);refine Tri.ret ?_;exact ⟨rfl,rfl,trivial⟩
theorem f34_spec (a b s k f w u:Int) (o:List optT.D) (p:List UInt8) (m:Int):PSpec P G 34 [tcpV a b s k f w u o p,.int .i64 m] (.bool (decide (bitop .i64 .and f m≠0))):=by
 refine pspec_intro hT Tryz.func34 (by decide) rfl rfl (by kernel_rfl) rfl ?_;refine Tri.seq (Tri.reg hT ?_);refine Tri.seq (Tri.reg hT ?_);refine Tri.ret ?_;exact ⟨rfl,trivial⟩
theorem f55_n1 (st:Int) (p g:Hf) (e1 e2:Int) (b1 b2:Bool):HSpec P G 55 [.loc 0 0,.int .i64 1] (rnN st p g e1 e2 b1 b2) (.loc 0 0) (rnN st p g e1 e2 b1 b2):=by
 refine fspec_intro hT (rnN st p g e1 e2 b1 b2) (rnN st p g e1 e2 b1 b2) 1 1 Tryz.func55 (by decide) rfl rfl (by kernel_rfl) rfl rfl ?_;refine Tri.seq (Tri.reg hT ?_);refine Tri.seq ?_;refine Tri.seq (Tri.reg hT ?_);refine (Tri.cond ⟨fun h1=>?_,fun h1=>?_⟩)
 ·
  refine Tri.seq (Tri.reg hT ?_);refine Tri.ret ?_;exact ⟨rfl,rfl,trivial⟩
 ·
  exact absurd h1 (by decide)
theorem f55_n2 (st:Int) (p g:Hf) (e1 e2:Int) (b1 b2:Bool):HSpec P G 55 [.loc 0 0,.int .i64 2] (rnN st p g e1 e2 b1 b2) (.loc 0 18) (rnN st p g e1 e2 b1 b2):=by
 refine fspec_intro hT (rnN st p g e1 e2 b1 b2) (rnN st p g e1 e2 b1 b2) 1 1 Tryz.func55 (by decide) rfl rfl (by kernel_rfl) rfl rfl ?_;refine Tri.seq (Tri.reg hT ?_);refine Tri.seq ?_;refine Tri.seq (Tri.reg hT ?_);refine (Tri.cond ⟨fun h1=>?_,fun h1=>?_⟩)
 ·
  exact absurd h1 (by decide)
 ·
  refine (Tri.skip ?_);refine Tri.seq (Tri.reg hT ?_);refine Tri.ret ?_;exact ⟨rfl,rfl,trivial⟩
theorem f33_n1 (st:Int) (p g:Hf) (e1 e2:Int) (b1 b2:Bool):HSpec P G 33 [.loc 0 0,.int .i64 1] (rnN st p g e1 e2 b1 b2) (.loc 0 18) (rnN st p g e1 e2 b1 b2):=by
 refine fspec_intro hT (rnN st p g e1 e2 b1 b2) (rnN st p g e1 e2 b1 b2) 1 1 Tryz.func33 (by decide) rfl rfl (by kernel_rfl) rfl rfl ?_;refine Tri.seq (Tri.reg hT ?_);refine Tri.seq (Tri.reg hT ?_);refine .inl (.inr (.inl ⟨_,_,(by exact ⟨rfl,trivial⟩),(CSpec.ofH (u:=ruN st p g e1 e2 b1 b2) (f55_n2 st p g e1 e2 b1 b2)),(by rfl),?_⟩));refine Tri.ret ?_;exact ⟨rfl,rfl,trivial⟩
theorem f33_n2 (st:Int) (p g:Hf) (e1 e2:Int) (b1 b2:Bool):HSpec P G 33 [.loc 0 0,.int .i64 2] (rnN st p g e1 e2 b1 b2) (.loc 0 0) (rnN st p g e1 e2 b1 b2):=by
 refine fspec_intro hT (rnN st p g e1 e2 b1 b2) (rnN st p g e1 e2 b1 b2) 1 1 Tryz.func33 (by decide) rfl rfl (by kernel_rfl) rfl rfl ?_;refine Tri.seq (Tri.reg hT ?_);refine Tri.seq (Tri.reg hT ?_);refine .inl (.inr (.inl ⟨_,_,(by exact ⟨rfl,trivial⟩),(CSpec.ofH (u:=ruN st p g e1 e2 b1 b2) (f55_n1 st p g e1 e2 b1 b2)),(by rfl),?_⟩));refine Tri.ret ?_;exact ⟨rfl,rfl,trivial⟩
theorem f55_h1 (st:Int) (p g:Hf) (e1 e2:Int) (b1 b2:Bool) (s t:SS):HSpec P G 55 [.loc 0 0,.int .i64 1] (rnH st p g e1 e2 b1 b2 s t) (.loc 0 0) (rnH st p g e1 e2 b1 b2 s t):=by
 refine fspec_intro hT (rnH st p g e1 e2 b1 b2 s t) (rnH st p g e1 e2 b1 b2 s t) 3 3 Tryz.func55 (by decide) rfl rfl (by kernel_rfl) rfl rfl ?_;refine Tri.seq (Tri.reg hT ?_);refine Tri.seq ?_;refine Tri.seq (Tri.reg hT ?_);refine (Tri.cond ⟨fun h1=>?_,fun h1=>?_⟩)
 ·
  refine Tri.seq (Tri.reg hT ?_);refine Tri.ret ?_;exact ⟨rfl,rfl,rfl,rfl,trivial⟩
 ·
  exact absurd h1 (by decide)
theorem f55_h2 (st:Int) (p g:Hf) (e1 e2:Int) (b1 b2:Bool) (s t:SS):HSpec P G 55 [.loc 0 0,.int .i64 2] (rnH st p g e1 e2 b1 b2 s t) (.loc 0 18) (rnH st p g e1 e2 b1 b2 s t):=by
 refine fspec_intro hT (rnH st p g e1 e2 b1 b2 s t) (rnH st p g e1 e2 b1 b2 s t) 3 3 Tryz.func55 (by decide) rfl rfl (by kernel_rfl) rfl rfl ?_;refine Tri.seq (Tri.reg hT ?_);refine Tri.seq ?_;refine Tri.seq (Tri.reg hT ?_);refine (Tri.cond ⟨fun h1=>?_,fun h1=>?_⟩)
 ·
  exact absurd h1 (by decide)
 ·
  refine (Tri.skip ?_);refine Tri.seq (Tri.reg hT ?_);refine Tri.ret ?_;exact ⟨rfl,rfl,rfl,rfl,trivial⟩
theorem f33_h1 (st:Int) (p g:Hf) (e1 e2:Int) (b1 b2:Bool) (s t:SS):HSpec P G 33 [.loc 0 0,.int .i64 1] (rnH st p g e1 e2 b1 b2 s t) (.loc 0 18) (rnH st p g e1 e2 b1 b2 s t):=by
 refine fspec_intro hT (rnH st p g e1 e2 b1 b2 s t) (rnH st p g e1 e2 b1 b2 s t) 3 3 Tryz.func33 (by decide) rfl rfl (by kernel_rfl) rfl rfl ?_;refine Tri.seq (Tri.reg hT ?_);refine Tri.seq (Tri.reg hT ?_);refine .inl (.inr (.inl ⟨_,_,(by exact ⟨rfl,rfl,rfl,trivial⟩),(CSpec.ofH (u:=ruH st p g e1 e2 b1 b2 s t) (f55_h2 st p g e1 e2 b1 b2 s t)),(by rfl),?_⟩));refine Tri.ret ?_;exact ⟨rfl,rfl,rfl,rfl,trivial⟩
theorem f33_h2 (st:Int) (p g:Hf) (e1 e2:Int) (b1 b2:Bool) (s t:SS):HSpec P G 33 [.loc 0 0,.int .i64 2] (rnH st p g e1 e2 b1 b2 s t) (.loc 0 0) (rnH st p g e1 e2 b1 b2 s t):=by
 refine fspec_intro hT (rnH st p g e1 e2 b1 b2 s t) (rnH st p g e1 e2 b1 b2 s t) 3 3 Tryz.func33 (by decide) rfl rfl (by kernel_rfl) rfl rfl ?_;refine Tri.seq (Tri.reg hT ?_);refine Tri.seq (Tri.reg hT ?_);refine .inl (.inr (.inl ⟨_,_,(by exact ⟨rfl,rfl,rfl,trivial⟩),(CSpec.ofH (u:=ruH st p g e1 e2 b1 b2 s t) (f55_h1 st p g e1 e2 b1 b2 s t)),(by rfl),?_⟩));refine Tri.ret ?_;exact ⟨rfl,rfl,rfl,rfl,trivial⟩
theorem f55_m1 (st:Int) (p g:Hf) (e1 e2:Int) (b1 b2:Bool) (s t:SS):HSpec P G 55 [.loc 0 0,.int .i64 1] (rnM st p g e1 e2 b1 b2 s t) (.loc 0 0) (rnM st p g e1 e2 b1 b2 s t):=by
 refine fspec_intro hT (rnM st p g e1 e2 b1 b2 s t) (rnM st p g e1 e2 b1 b2 s t) 3 3 Tryz.func55 (by decide) rfl rfl (by kernel_rfl) rfl rfl ?_;refine Tri.seq (Tri.reg hT ?_);refine Tri.seq ?_;refine Tri.seq (Tri.reg hT ?_);refine (Tri.cond ⟨fun h1=>?_,fun h1=>?_⟩)
 ·
  refine Tri.seq (Tri.reg hT ?_);refine Tri.ret ?_;exact ⟨rfl,rfl,rfl,rfl,trivial⟩
 ·
  exact absurd h1 (by decide)
theorem f55_m2 (st:Int) (p g:Hf) (e1 e2:Int) (b1 b2:Bool) (s t:SS):HSpec P G 55 [.loc 0 0,.int .i64 2] (rnM st p g e1 e2 b1 b2 s t) (.loc 0 18) (rnM st p g e1 e2 b1 b2 s t):=by
 refine fspec_intro hT (rnM st p g e1 e2 b1 b2 s t) (rnM st p g e1 e2 b1 b2 s t) 3 3 Tryz.func55 (by decide) rfl rfl (by kernel_rfl) rfl rfl ?_;refine Tri.seq (Tri.reg hT ?_);refine Tri.seq ?_;refine Tri.seq (Tri.reg hT ?_);refine (Tri.cond ⟨fun h1=>?_,fun h1=>?_⟩)
 ·
  exact absurd h1 (by decide)
 ·
  refine (Tri.skip ?_);refine Tri.seq (Tri.reg hT ?_);refine Tri.ret ?_;exact ⟨rfl,rfl,rfl,rfl,trivial⟩
theorem f33_m1 (st:Int) (p g:Hf) (e1 e2:Int) (b1 b2:Bool) (s t:SS):HSpec P G 33 [.loc 0 0,.int .i64 1] (rnM st p g e1 e2 b1 b2 s t) (.loc 0 18) (rnM st p g e1 e2 b1 b2 s t):=by
 refine fspec_intro hT (rnM st p g e1 e2 b1 b2 s t) (rnM st p g e1 e2 b1 b2 s t) 3 3 Tryz.func33 (by decide) rfl rfl (by kernel_rfl) rfl rfl ?_;refine Tri.seq (Tri.reg hT ?_);refine Tri.seq (Tri.reg hT ?_);refine .inl (.inr (.inl ⟨_,_,(by exact ⟨rfl,rfl,rfl,trivial⟩),(CSpec.ofH (u:=ruM st p g e1 e2 b1 b2 s t) (f55_m2 st p g e1 e2 b1 b2 s t)),(by rfl),?_⟩));refine Tri.ret ?_;exact ⟨rfl,rfl,rfl,rfl,trivial⟩
theorem f41_n1 (st:Int) (p g:Hf) (e1 e2:Int) (b1 b2:Bool):HSpec P G 41 [.loc 0 18] (rnN st p g e1 e2 b1 b2) (.int .i64 0) (rnN st p g e1 e2 b1 b2):=by
 refine fspec_intro hT (rnN st p g e1 e2 b1 b2) (rnN st p g e1 e2 b1 b2) 1 1 Tryz.func41 (by decide) rfl rfl (by kernel_rfl) rfl rfl ?_;refine Tri.seq (Tri.reg hT ?_);refine Tri.seq ?_;refine Tri.seq (Tri.reg hT ?_);refine (Tri.cond ⟨fun h1=>?_,fun h1=>?_⟩)
 ·
  refine Tri.seq (Tri.reg hT ?_);refine Tri.ret ?_;exact ⟨rfl,rfl,trivial⟩
 ·
  cases h1
theorem f35_n1 (st:Int) (p g:Hf) (e1 e2:Int) (b1 b2:Bool) (k n:Int):HSpec P G 35 [.loc 0 0,.int .i64 k,.int .i64 1,.int .i64 n] (rnN st p g e1 e2 b1 b2) (evA k 1 0 n []) (rnN st p g e1 e2 b1 b2):=by
 refine fspec_intro hT (rnN st p g e1 e2 b1 b2) (rnN st p g e1 e2 b1 b2) 1 1 Tryz.func35 (by decide) rfl rfl (by kernel_rfl) rfl rfl ?_;refine Tri.seq (Tri.reg hT ?_);refine Tri.seq (Tri.reg hT ?_);refine .inl (.inr (.inl ⟨_,_,(by exact ⟨rfl,trivial⟩),(CSpec.ofH (u:=ruN st p g e1 e2 b1 b2) (f33_n1 st p g e1 e2 b1 b2)),(by rfl),?_⟩));refine .inl (.inr (.inl ⟨_,_,(by exact ⟨rfl,trivial⟩),(CSpec.ofH (u:=ruN st p g e1 e2 b1 b2) (f41_n1 st p g e1 e2 b1 b2)),(by rfl),?_⟩));refine Tri.ret ?_;exact ⟨rfl,rfl,trivial⟩
theorem f29_n1 (st:Int) (p g:Hf) (e1 e2:Int) (b1 b2:Bool) (n:Int):HSpec P G 29 [.loc 0 0,.int .i64 1,.int .i64 n] (rnN st p g e1 e2 b1 b2) (.list evT [(7,1,0,n,[],())]) (rnN st p g e1 e2 b1 b2):=by
 refine fspec_intro hT (rnN st p g e1 e2 b1 b2) (rnN st p g e1 e2 b1 b2) 1 1 Tryz.func29 (by decide) rfl rfl (by kernel_rfl) rfl rfl ?_;refine Tri.seq (Tri.reg hT ?_);refine Tri.seq (Tri.reg hT ?_);refine .inl (.inr (.inl ⟨_,_,(by exact ⟨rfl,trivial⟩),(CSpec.ofH (u:=ruN st p g e1 e2 b1 b2) (f35_n1 st p g e1 e2 b1 b2 7 n)),(by rfl),?_⟩));refine Tri.le _ (Le.freeze 6 6 1 rfl rfl (Nat.le_refl 1)) ?_;refine Tri.ret ?_;exact ⟨rfl,rfl,trivial⟩
theorem f18_n1 (st:Int) (p g:Hf) (e1 e2:Int) (b1 b2:Bool):HSpec P G 18 [.loc 0 0,.int .i64 1] (rnN st p g e1 e2 b1 b2) (.int .i64 0) (rnN st p g e1 e2 b1 b2):=by
 refine fspec_intro hT (rnN st p g e1 e2 b1 b2) (rnN st p g e1 e2 b1 b2) 1 1 Tryz.func18 (by decide) rfl rfl (by kernel_rfl) rfl rfl ?_;refine Tri.seq (Tri.reg hT ?_);refine Tri.seq ?_;refine Tri.seq (Tri.reg hT ?_);refine ⟨_,[],trivial,rfl,rfl,fun h=>⟨rfl,rfl,rfl⟩,?_⟩;refine ⟨_,[],trivial,rfl,rfl,fun h=>⟨h,rfl,rfl,rfl⟩,?_⟩;refine ⟨_,[],trivial,rfl,rfl,fun h=>⟨h,rfl,rfl,rfl⟩,?_⟩;refine ⟨_,[],trivial,rfl,rfl,fun h=>⟨rfl,rfl,rfl⟩,?_⟩;refine ⟨_,[],trivial,rfl,rfl,fun h=>⟨h,rfl,rfl,rfl⟩,?_⟩;refine ⟨_,[],trivial,rfl,rfl,fun h=>⟨h,⟨fun hc=>ga h hc,fun _=>trivial⟩,rfl,rfl,rfl⟩,?_⟩;refine ⟨⟨fun _=>trivial,fun hc=>(gn hc)⟩,?_⟩;refine (Tri.cond ⟨fun h1=>?_,fun h1=>?_⟩)
 ·
  cases h1
 ·
  refine (Tri.skip ?_);refine Tri.seq (Tri.reg hT ?_);refine .inl (.inr (.inl ⟨_,_,(by exact ⟨rfl,trivial⟩),(CSpec.ofH (u:=ruN st p g e1 e2 b1 b2) (f33_n1 st p g e1 e2 b1 b2)),(by rfl),?_⟩));refine .inl (.inr (.inl ⟨_,_,(by exact ⟨rfl,trivial⟩),(CSpec.ofH (u:=ruN st p g e1 e2 b1 b2) (f41_n1 st p g e1 e2 b1 b2)),(by rfl),?_⟩));refine Tri.ret ?_;exact ⟨rfl,rfl,trivial⟩
theorem f41_n2 (st:Int) (p g:Hf) (e1 e2:Int) (b1 b2:Bool):HSpec P G 41 [.loc 0 0] (rnN st p g e1 e2 b1 b2) (.int .i64 0) (rnN st p g e1 e2 b1 b2):=by
 refine fspec_intro hT (rnN st p g e1 e2 b1 b2) (rnN st p g e1 e2 b1 b2) 1 1 Tryz.func41 (by decide) rfl rfl (by kernel_rfl) rfl rfl ?_;refine Tri.seq (Tri.reg hT ?_);refine Tri.seq ?_;refine Tri.seq (Tri.reg hT ?_);refine (Tri.cond ⟨fun h1=>?_,fun h1=>?_⟩)
 ·
  refine Tri.seq (Tri.reg hT ?_);refine Tri.ret ?_;exact ⟨rfl,rfl,trivial⟩
 ·
  cases h1
theorem f35_n2 (st:Int) (p g:Hf) (e1 e2:Int) (b1 b2:Bool) (k n:Int):HSpec P G 35 [.loc 0 0,.int .i64 k,.int .i64 2,.int .i64 n] (rnN st p g e1 e2 b1 b2) (evA k 2 0 n []) (rnN st p g e1 e2 b1 b2):=by
 refine fspec_intro hT (rnN st p g e1 e2 b1 b2) (rnN st p g e1 e2 b1 b2) 1 1 Tryz.func35 (by decide) rfl rfl (by kernel_rfl) rfl rfl ?_;refine Tri.seq (Tri.reg hT ?_);refine Tri.seq (Tri.reg hT ?_);refine .inl (.inr (.inl ⟨_,_,(by exact ⟨rfl,trivial⟩),(CSpec.ofH (u:=ruN st p g e1 e2 b1 b2) (f33_n2 st p g e1 e2 b1 b2)),(by rfl),?_⟩));refine .inl (.inr (.inl ⟨_,_,(by exact ⟨rfl,trivial⟩),(CSpec.ofH (u:=ruN st p g e1 e2 b1 b2) (f41_n2 st p g e1 e2 b1 b2)),(by rfl),?_⟩));refine Tri.ret ?_;exact ⟨rfl,rfl,trivial⟩
theorem f29_n2 (st:Int) (p g:Hf) (e1 e2:Int) (b1 b2:Bool) (n:Int):HSpec P G 29 [.loc 0 0,.int .i64 2,.int .i64 n] (rnN st p g e1 e2 b1 b2) (.list evT [(7,2,0,n,[],())]) (rnN st p g e1 e2 b1 b2):=by
 refine fspec_intro hT (rnN st p g e1 e2 b1 b2) (rnN st p g e1 e2 b1 b2) 1 1 Tryz.func29 (by decide) rfl rfl (by kernel_rfl) rfl rfl ?_;refine Tri.seq (Tri.reg hT ?_);refine Tri.seq (Tri.reg hT ?_);refine .inl (.inr (.inl ⟨_,_,(by exact ⟨rfl,trivial⟩),(CSpec.ofH (u:=ruN st p g e1 e2 b1 b2) (f35_n2 st p g e1 e2 b1 b2 7 n)),(by rfl),?_⟩));refine Tri.le _ (Le.freeze 6 6 1 rfl rfl (Nat.le_refl 1)) ?_;refine Tri.ret ?_;exact ⟨rfl,rfl,trivial⟩
theorem f18_n2 (st:Int) (p g:Hf) (e1 e2:Int) (b1 b2:Bool):HSpec P G 18 [.loc 0 0,.int .i64 2] (rnN st p g e1 e2 b1 b2) (.int .i64 0) (rnN st p g e1 e2 b1 b2):=by
 refine fspec_intro hT (rnN st p g e1 e2 b1 b2) (rnN st p g e1 e2 b1 b2) 1 1 Tryz.func18 (by decide) rfl rfl (by kernel_rfl) rfl rfl ?_;refine Tri.seq (Tri.reg hT ?_);refine Tri.seq ?_;refine Tri.seq (Tri.reg hT ?_);refine ⟨_,[],trivial,rfl,rfl,fun h=>⟨rfl,rfl,rfl⟩,?_⟩;refine ⟨_,[],trivial,rfl,rfl,fun h=>⟨h,rfl,rfl,rfl⟩,?_⟩;refine ⟨_,[],trivial,rfl,rfl,fun h=>⟨h,rfl,rfl,rfl⟩,?_⟩;refine ⟨_,[],trivial,rfl,rfl,fun h=>⟨rfl,rfl,rfl⟩,?_⟩;refine ⟨_,[],trivial,rfl,rfl,fun h=>⟨h,rfl,rfl,rfl⟩,?_⟩;refine ⟨_,[],trivial,rfl,rfl,fun h=>⟨h,⟨fun hc=>ga h hc,fun _=>trivial⟩,rfl,rfl,rfl⟩,?_⟩;refine ⟨⟨fun _=>trivial,fun hc=>(gn hc)⟩,?_⟩;refine (Tri.cond ⟨fun h1=>?_,fun h1=>?_⟩)
 ·
  cases h1
 ·
  refine (Tri.skip ?_);refine Tri.seq (Tri.reg hT ?_);refine .inl (.inr (.inl ⟨_,_,(by exact ⟨rfl,trivial⟩),(CSpec.ofH (u:=ruN st p g e1 e2 b1 b2) (f33_n2 st p g e1 e2 b1 b2)),(by rfl),?_⟩));refine .inl (.inr (.inl ⟨_,_,(by exact ⟨rfl,trivial⟩),(CSpec.ofH (u:=ruN st p g e1 e2 b1 b2) (f41_n2 st p g e1 e2 b1 b2)),(by rfl),?_⟩));refine Tri.ret ?_;exact ⟨rfl,rfl,trivial⟩
theorem f18_nx (st:Int) (p g:Hf) (e1 e2:Int) (b1 b2:Bool) (d:Int) (hd1:d≠1) (hd2:d≠2):HSpec P G 18 [.loc 0 0,.int .i64 d] (rnN st p g e1 e2 b1 b2) (.int .i64 0) (rnN st p g e1 e2 b1 b2):=by
 refine fspec_intro hT (rnN st p g e1 e2 b1 b2) (rnN st p g e1 e2 b1 b2) 1 1 Tryz.func18 (by decide) rfl rfl (by kernel_rfl) rfl rfl ?_;refine Tri.seq (Tri.reg hT ?_);refine Tri.seq ?_;refine Tri.seq (Tri.reg hT ?_);refine ⟨_,[],trivial,rfl,rfl,fun h=>⟨rfl,rfl,rfl⟩,?_⟩;refine ⟨_,[],trivial,rfl,rfl,fun h=>⟨h,rfl,rfl,rfl⟩,?_⟩;refine ⟨_,[],trivial,rfl,rfl,fun h=>⟨h,rfl,rfl,rfl⟩,?_⟩;refine ⟨_,[],trivial,rfl,rfl,fun h=>⟨rfl,rfl,rfl⟩,?_⟩;refine ⟨_,[],trivial,rfl,rfl,fun h=>⟨h,rfl,rfl,rfl⟩,?_⟩;refine ⟨_,[],trivial,rfl,rfl,fun h=>⟨h,⟨fun hc=>ga h hc,fun _=>trivial⟩,rfl,rfl,rfl⟩,?_⟩;refine ⟨⟨fun _=>trivial,fun hc=>(gn hc)⟩,?_⟩;refine (Tri.cond ⟨fun h1=>?_,fun h1=>?_⟩)
 ·
  refine Tri.seq (Tri.reg hT ?_);refine Tri.ret ?_;exact ⟨rfl,rfl,trivial⟩
 ·
  exact absurd h1 (by simp [hd1,hd2])
theorem f12_n (st:Int) (p g:Hf) (e1 e2:Int) (b1 b2:Bool):HSpec P G 12 [.loc 0 0] (rnN st p g e1 e2 b1 b2) (.int .i64 st) (rnN st p g e1 e2 b1 b2):=by
 refine fspec_intro hT (rnN st p g e1 e2 b1 b2) (rnN st p g e1 e2 b1 b2) 1 1 Tryz.func12 (by decide) rfl rfl (by kernel_rfl) rfl rfl ?_;refine Tri.seq (Tri.reg hT ?_);refine Tri.seq ?_;refine Tri.seq (Tri.reg hT ?_);refine (Tri.cond ⟨fun h1=>?_,fun h1=>?_⟩)
 ·
  cases h1
 ·
  refine (Tri.skip ?_);refine Tri.seq (Tri.reg hT ?_);refine Tri.ret ?_;exact ⟨rfl,rfl,trivial⟩
theorem f41_h1 (st:Int) (p g:Hf) (e1 e2:Int) (b1 b2:Bool) (s t:SS):HSpec P G 41 [.loc 0 18] (rnH st p g e1 e2 b1 b2 s t) (.int .i64 s.pos) (rnH st p g e1 e2 b1 b2 s t):=by
 refine fspec_intro hT (rnH st p g e1 e2 b1 b2 s t) (rnH st p g e1 e2 b1 b2 s t) 3 3 Tryz.func41 (by decide) rfl rfl (by kernel_rfl) rfl rfl ?_;refine Tri.seq (Tri.reg hT ?_);refine Tri.seq ?_;refine Tri.seq (Tri.reg hT ?_);refine (Tri.cond ⟨fun h1=>?_,fun h1=>?_⟩)
 ·
  cases h1
 ·
  refine (Tri.skip ?_);refine Tri.seq (Tri.reg hT ?_);refine .inl (.inr (.inl ⟨_,_,(by exact ⟨rfl,trivial⟩),(CSpec.gw (f68_spec s 1)),(by rfl),?_⟩));refine Tri.ret ?_;exact ⟨rfl,rfl,rfl,rfl,trivial⟩
theorem f35_h1 (st:Int) (p g:Hf) (e1 e2:Int) (b1 b2:Bool) (s t:SS) (k n:Int):HSpec P G 35 [.loc 0 0,.int .i64 k,.int .i64 1,.int .i64 n] (rnH st p g e1 e2 b1 b2 s t) (evA k 1 s.pos n []) (rnH st p g e1 e2 b1 b2 s t):=by
 refine fspec_intro hT (rnH st p g e1 e2 b1 b2 s t) (rnH st p g e1 e2 b1 b2 s t) 3 3 Tryz.func35 (by decide) rfl rfl (by kernel_rfl) rfl rfl ?_;refine Tri.seq (Tri.reg hT ?_);refine Tri.seq (Tri.reg hT ?_);refine .inl (.inr (.inl ⟨_,_,(by exact ⟨rfl,rfl,rfl,trivial⟩),(CSpec.ofH (u:=ruH st p g e1 e2 b1 b2 s t) (f33_h1 st p g e1 e2 b1 b2 s t)),(by rfl),?_⟩));refine .inl (.inr (.inl ⟨_,_,(by exact ⟨rfl,rfl,rfl,trivial⟩),(CSpec.ofH (u:=ruH st p g e1 e2 b1 b2 s t) (f41_h1 st p g e1 e2 b1 b2 s t)),(by rfl),?_⟩));refine Tri.ret ?_;exact ⟨rfl,rfl,rfl,rfl,trivial⟩
theorem f29_h1 (st:Int) (p g:Hf) (e1 e2:Int) (b1 b2:Bool) (s t:SS) (n:Int):HSpec P G 29 [.loc 0 0,.int .i64 1,.int .i64 n] (rnH st p g e1 e2 b1 b2 s t) (.list evT [(7,1,s.pos,n,[],())]) (rnH st p g e1 e2 b1 b2 s t):=by
 refine fspec_intro hT (rnH st p g e1 e2 b1 b2 s t) (rnH st p g e1 e2 b1 b2 s t) 3 3 Tryz.func29 (by decide) rfl rfl (by kernel_rfl) rfl rfl ?_;refine Tri.seq (Tri.reg hT ?_);refine Tri.seq (Tri.reg hT ?_);refine .inl (.inr (.inl ⟨_,_,(by exact ⟨rfl,rfl,rfl,trivial⟩),(CSpec.ofH (u:=ruH st p g e1 e2 b1 b2 s t) (f35_h1 st p g e1 e2 b1 b2 s t 7 n)),(by rfl),?_⟩));refine Tri.le _ (Le.freeze 6 8 1 rfl rfl (Nat.le_refl 1)) ?_;refine Tri.ret ?_;exact ⟨rfl,rfl,rfl,rfl,trivial⟩
theorem f18_h1 (st:Int) (p g:Hf) (e1 e2:Int) (b1 b2:Bool) (s t:SS):HSpec P G 18 [.loc 0 0,.int .i64 1] (rnH st p g e1 e2 b1 b2 s t) (.int .i64 s.pos) (rnH st p g e1 e2 b1 b2 s t):=by
 refine fspec_intro hT (rnH st p g e1 e2 b1 b2 s t) (rnH st p g e1 e2 b1 b2 s t) 3 3 Tryz.func18 (by decide) rfl rfl (by kernel_rfl) rfl rfl ?_;refine Tri.seq (Tri.reg hT ?_);refine Tri.seq ?_;refine Tri.seq (Tri.reg hT ?_);refine ⟨_,[],trivial,rfl,rfl,fun h=>⟨rfl,rfl,rfl⟩,?_⟩;refine ⟨_,[],trivial,rfl,rfl,fun h=>⟨h,rfl,rfl,rfl⟩,?_⟩;refine ⟨_,[],trivial,rfl,rfl,fun h=>⟨h,rfl,rfl,rfl⟩,?_⟩;refine ⟨_,[],trivial,rfl,rfl,fun h=>⟨rfl,rfl,rfl⟩,?_⟩;refine ⟨_,[],trivial,rfl,rfl,fun h=>⟨h,rfl,rfl,rfl⟩,?_⟩;refine ⟨_,[],trivial,rfl,rfl,fun h=>⟨h,⟨fun hc=>ga h hc,fun _=>trivial⟩,rfl,rfl,rfl⟩,?_⟩;refine ⟨⟨fun _=>trivial,fun hc=>(gn hc)⟩,?_⟩;refine (Tri.cond ⟨fun h1=>?_,fun h1=>?_⟩)
 ·
  cases h1
 ·
  refine (Tri.skip ?_);refine Tri.seq (Tri.reg hT ?_);refine .inl (.inr (.inl ⟨_,_,(by exact ⟨rfl,rfl,rfl,trivial⟩),(CSpec.ofH (u:=ruH st p g e1 e2 b1 b2 s t) (f33_h1 st p g e1 e2 b1 b2 s t)),(by rfl),?_⟩));refine .inl (.inr (.inl ⟨_,_,(by exact ⟨rfl,rfl,rfl,trivial⟩),(CSpec.ofH (u:=ruH st p g e1 e2 b1 b2 s t) (f41_h1 st p g e1 e2 b1 b2 s t)),(by rfl),?_⟩));refine Tri.ret ?_;exact ⟨rfl,rfl,rfl,rfl,trivial⟩
theorem f41_h2 (st:Int) (p g:Hf) (e1 e2:Int) (b1 b2:Bool) (s t:SS):HSpec P G 41 [.loc 0 0] (rnH st p g e1 e2 b1 b2 s t) (.int .i64 t.pos) (rnH st p g e1 e2 b1 b2 s t):=by
 refine fspec_intro hT (rnH st p g e1 e2 b1 b2 s t) (rnH st p g e1 e2 b1 b2 s t) 3 3 Tryz.func41 (by decide) rfl rfl (by kernel_rfl) rfl rfl ?_;refine Tri.seq (Tri.reg hT ?_);refine Tri.seq ?_;refine Tri.seq (Tri.reg hT ?_);refine (Tri.cond ⟨fun h1=>?_,fun h1=>?_⟩)
 ·
  cases h1
 ·
  refine (Tri.skip ?_);refine Tri.seq (Tri.reg hT ?_);refine .inl (.inr (.inl ⟨_,_,(by exact ⟨rfl,trivial⟩),(CSpec.gw (f68_spec t 2)),(by rfl),?_⟩));refine Tri.ret ?_;exact ⟨rfl,rfl,rfl,rfl,trivial⟩
theorem f35_h2 (st:Int) (p g:Hf) (e1 e2:Int) (b1 b2:Bool) (s t:SS) (k n:Int):HSpec P G 35 [.loc 0 0,.int .i64 k,.int .i64 2,.int .i64 n] (rnH st p g e1 e2 b1 b2 s t) (evA k 2 t.pos n []) (rnH st p g e1 e2 b1 b2 s t):=by
 refine fspec_intro hT (rnH st p g e1 e2 b1 b2 s t) (rnH st p g e1 e2 b1 b2 s t) 3 3 Tryz.func35 (by decide) rfl rfl (by kernel_rfl) rfl rfl ?_;refine Tri.seq (Tri.reg hT ?_);refine Tri.seq (Tri.reg hT ?_);refine .inl (.inr (.inl ⟨_,_,(by exact ⟨rfl,rfl,rfl,trivial⟩),(CSpec.ofH (u:=ruH st p g e1 e2 b1 b2 s t) (f33_h2 st p g e1 e2 b1 b2 s t)),(by rfl),?_⟩));refine .inl (.inr (.inl ⟨_,_,(by exact ⟨rfl,rfl,rfl,trivial⟩),(CSpec.ofH (u:=ruH st p g e1 e2 b1 b2 s t) (f41_h2 st p g e1 e2 b1 b2 s t)),(by rfl),?_⟩));refine Tri.ret ?_;exact ⟨rfl,rfl,rfl,rfl,trivial⟩
theorem f29_h2 (st:Int) (p g:Hf) (e1 e2:Int) (b1 b2:Bool) (s t:SS) (n:Int):HSpec P G 29 [.loc 0 0,.int .i64 2,.int .i64 n] (rnH st p g e1 e2 b1 b2 s t) (.list evT [(7,2,t.pos,n,[],())]) (rnH st p g e1 e2 b1 b2 s t):=by
 refine fspec_intro hT (rnH st p g e1 e2 b1 b2 s t) (rnH st p g e1 e2 b1 b2 s t) 3 3 Tryz.func29 (by decide) rfl rfl (by kernel_rfl) rfl rfl ?_;refine Tri.seq (Tri.reg hT ?_);refine Tri.seq (Tri.reg hT ?_);refine .inl (.inr (.inl ⟨_,_,(by exact ⟨rfl,rfl,rfl,trivial⟩),(CSpec.ofH (u:=ruH st p g e1 e2 b1 b2 s t) (f35_h2 st p g e1 e2 b1 b2 s t 7 n)),(by rfl),?_⟩));refine Tri.le _ (Le.freeze 6 8 1 rfl rfl (Nat.le_refl 1)) ?_;refine Tri.ret ?_;exact ⟨rfl,rfl,rfl,rfl,trivial⟩
theorem f18_h2 (st:Int) (p g:Hf) (e1 e2:Int) (b1 b2:Bool) (s t:SS):HSpec P G 18 [.loc 0 0,.int .i64 2] (rnH st p g e1 e2 b1 b2 s t) (.int .i64 t.pos) (rnH st p g e1 e2 b1 b2 s t):=by
 refine fspec_intro hT (rnH st p g e1 e2 b1 b2 s t) (rnH st p g e1 e2 b1 b2 s t) 3 3 Tryz.func18 (by decide) rfl rfl (by kernel_rfl) rfl rfl ?_;refine Tri.seq (Tri.reg hT ?_);refine Tri.seq ?_;refine Tri.seq (Tri.reg hT ?_);refine ⟨_,[],trivial,rfl,rfl,fun h=>⟨rfl,rfl,rfl⟩,?_⟩;refine ⟨_,[],trivial,rfl,rfl,fun h=>⟨h,rfl,rfl,rfl⟩,?_⟩;refine ⟨_,[],trivial,rfl,rfl,fun h=>⟨h,rfl,rfl,rfl⟩,?_⟩;refine ⟨_,[],trivial,rfl,rfl,fun h=>⟨rfl,rfl,rfl⟩,?_⟩;refine ⟨_,[],trivial,rfl,rfl,fun h=>⟨h,rfl,rfl,rfl⟩,?_⟩;refine ⟨_,[],trivial,rfl,rfl,fun h=>⟨h,⟨fun hc=>ga h hc,fun _=>trivial⟩,rfl,rfl,rfl⟩,?_⟩;refine ⟨⟨fun _=>trivial,fun hc=>(gn hc)⟩,?_⟩;refine (Tri.cond ⟨fun h1=>?_,fun h1=>?_⟩)
 ·
  cases h1
 ·
  refine (Tri.skip ?_);refine Tri.seq (Tri.reg hT ?_);refine .inl (.inr (.inl ⟨_,_,(by exact ⟨rfl,rfl,rfl,trivial⟩),(CSpec.ofH (u:=ruH st p g e1 e2 b1 b2 s t) (f33_h2 st p g e1 e2 b1 b2 s t)),(by rfl),?_⟩));refine .inl (.inr (.inl ⟨_,_,(by exact ⟨rfl,rfl,rfl,trivial⟩),(CSpec.ofH (u:=ruH st p g e1 e2 b1 b2 s t) (f41_h2 st p g e1 e2 b1 b2 s t)),(by rfl),?_⟩));refine Tri.ret ?_;exact ⟨rfl,rfl,rfl,rfl,trivial⟩
theorem f18_hx (st:Int) (p g:Hf) (e1 e2:Int) (b1 b2:Bool) (s t:SS) (d:Int) (hd1:d≠1) (hd2:d≠2):HSpec P G 18 [.loc 0 0,.int .i64 d] (rnH st p g e1 e2 b1 b2 s t) (.int .i64 0) (rnH st p g e1 e2 b1 b2 s t):=by
 refine fspec_intro hT (rnH st p g e1 e2 b1 b2 s t) (rnH st p g e1 e2 b1 b2 s t) 3 3 Tryz.func18 (by decide) rfl rfl (by kernel_rfl) rfl rfl ?_;refine Tri.seq (Tri.reg hT ?_);refine Tri.seq ?_;refine Tri.seq (Tri.reg hT ?_);refine ⟨_,[],trivial,rfl,rfl,fun h=>⟨rfl,rfl,rfl⟩,?_⟩;refine ⟨_,[],trivial,rfl,rfl,fun h=>⟨h,rfl,rfl,rfl⟩,?_⟩;refine ⟨_,[],trivial,rfl,rfl,fun h=>⟨h,rfl,rfl,rfl⟩,?_⟩;refine ⟨_,[],trivial,rfl,rfl,fun h=>⟨rfl,rfl,rfl⟩,?_⟩;refine ⟨_,[],trivial,rfl,rfl,fun h=>⟨h,rfl,rfl,rfl⟩,?_⟩;refine ⟨_,[],trivial,rfl,rfl,fun h=>⟨h,⟨fun hc=>ga h hc,fun _=>trivial⟩,rfl,rfl,rfl⟩,?_⟩;refine ⟨⟨fun _=>trivial,fun hc=>(gn hc)⟩,?_⟩;refine (Tri.cond ⟨fun h1=>?_,fun h1=>?_⟩)
 ·
  refine Tri.seq (Tri.reg hT ?_);refine Tri.ret ?_;exact ⟨rfl,rfl,rfl,rfl,trivial⟩
 ·
  exact absurd h1 (by simp [hd1,hd2])
theorem f12_h (st:Int) (p g:Hf) (e1 e2:Int) (b1 b2:Bool) (s t:SS):HSpec P G 12 [.loc 0 0] (rnH st p g e1 e2 b1 b2 s t) (.int .i64 st) (rnH st p g e1 e2 b1 b2 s t):=by
 refine fspec_intro hT (rnH st p g e1 e2 b1 b2 s t) (rnH st p g e1 e2 b1 b2 s t) 3 3 Tryz.func12 (by decide) rfl rfl (by kernel_rfl) rfl rfl ?_;refine Tri.seq (Tri.reg hT ?_);refine Tri.seq ?_;refine Tri.seq (Tri.reg hT ?_);refine (Tri.cond ⟨fun h1=>?_,fun h1=>?_⟩)
 ·
  cases h1
 ·
  refine (Tri.skip ?_);refine Tri.seq (Tri.reg hT ?_);refine Tri.ret ?_;exact ⟨rfl,rfl,rfl,rfl,trivial⟩
end Go.Proofs.YtchiagnggnblaaaGreatDoor.Ac
namespace Go.Proofs.YtchiagnggnblaaaGreatDoor.Ac
open Go Go.Fw Go.Ov Go.Proofs.YtchiagnggnblaaaGreatDoor.Fx
theorem rp2_f {d pos:Int} {a b:Bool} (h:(if (!a) = true then true else b) = true):([]:List Evt) = rp2 d pos (!b && a):=by
 cases a <;> cases b <;> first|rfl|cases h
theorem rp2_t {d pos:Int} {a b:Bool} (h:(if (!a) = true then true else b) = false):[((4:Int),d,pos,(0:Int),([]:List UInt8),())] = rp2 d pos (!b && a):=by
 cases a <;> cases b <;> first|rfl|cases h
theorem cl_f {a b:Bool} (h:(if (!a) = true then true else b) = true):b = (b || a):=by
 cases a <;> cases b <;> first|rfl|cases h
theorem cl_t {a b:Bool} (h:(if (!a) = true then true else b) = false):true = (b || a):=by
 cases a <;> cases b <;> first|rfl|cases h
abbrev vwR1 (p g:Hf) (e2:Int) (s:SS):AV:=viewV true (nextS s) e2 p.win (p.stamped && g.stamped) (if (p.stamped && g.stamped) = true then p.stamp else 0)
abbrev vwR2 (p g:Hf) (e1:Int) (t:SS):AV:=viewV true (nextS t) e1 g.win (g.stamped && p.stamped) (if (g.stamped && p.stamped) = true then g.stamp else 0)
theorem f80_half (p:Hf):NSpec P G 80 [.int .u32 p.isn,.int .i64 p.win,.int .i64 p.pol] (bxR (nwS p)):=NSpec.gw (f80_spec p.isn p.win p.pol)
theorem f32_h1 (st:Int) (p g:Hf) (e1 e2:Int) (b1 b2:Bool) (s t:SS):HSpec P G 32 [.loc 0 0,.int .i64 1] (rnH st p g e1 e2 b1 b2 s t) (vwR1 p g e2 s) (rnH st p g e1 e2 b1 b2 s t):=by
 refine fspec_intro hT (rnH st p g e1 e2 b1 b2 s t) (rnH st p g e1 e2 b1 b2 s t) 3 3 Tryz.func32 (by decide) rfl rfl (by kernel_rfl) rfl rfl ?_;refine Tri.seq (Tri.reg hT ?_);refine Tri.seq (Tri.reg hT ?_);refine .inl (.inr (.inl ⟨_,_,(by exact ⟨rfl,rfl,rfl,trivial⟩),(CSpec.ofH (u:=ruH st p g e1 e2 b1 b2 s t) (f33_h1 st p g e1 e2 b1 b2 s t)),(by rfl),?_⟩));refine Tri.seq (Tri.drw hT hm 28 (by kernel_rfl) ?_);refine .inr (.inl ⟨_,_,(by exact ⟨rfl,trivial⟩),(CSpec.gw (f54_spec s 1)),(by rfl),?_⟩);refine ⟨_,[],trivial,rfl,rfl,fun h=>⟨rfl,rfl,rfl⟩,?_⟩;refine ⟨_,[],trivial,rfl,rfl,fun h=>⟨h,rfl,rfl,rfl⟩,?_⟩;refine ⟨_,[],trivial,rfl,rfl,fun h=>⟨h,rfl,rfl,rfl⟩,?_⟩;refine ⟨_,[],trivial,rfl,rfl,fun h=>⟨h,rfl,rfl,rfl⟩,?_⟩;refine ⟨_,[],trivial,rfl,rfl,fun h=>⟨h,rfl,rfl,rfl⟩,?_⟩;refine ⟨⟨fun hc=>hc,fun _=>trivial⟩,?_⟩;refine ⟨by kernel_rfl,?_⟩;refine Tri.seq ?_;refine Tri.seq (Tri.reg hT ?_);refine (Tri.cond ⟨fun h1=>?_,fun h1=>?_⟩)
 ·
  refine (Tri.reg hT ?_);refine Tri.seq (Tri.reg hT ?_);refine Tri.ret ?_;exact ⟨(vw_t h1),rfl,rfl,rfl,trivial⟩
 ·
  refine (Tri.skip ?_);refine Tri.seq (Tri.reg hT ?_);refine Tri.ret ?_;exact ⟨(vw_f h1),rfl,rfl,rfl,trivial⟩
theorem f60_h1 (st:Int) (p g:Hf) (e1 e2:Int) (b1 b2:Bool) (s t:SS) (x:List UInt8) (hx:x.length≤1099511627776) (h0:0≤s.pos) (h1':s.pos≤1099511627776):HSpec P G 60 [.loc 0 0,.int .i64 1,.str x] (rnH st p g e1 e2 b1 b2 s t) (.list evT (rp1 1 s.pos x)) (rnH st p g e1 e2 b1 b2 s t):=by
 refine fspec_intro hT (rnH st p g e1 e2 b1 b2 s t) (rnH st p g e1 e2 b1 b2 s t) 3 3 Tryz.func60 (by decide) rfl rfl (by kernel_rfl) rfl rfl ?_;refine Tri.seq (Tri.reg hT ?_);refine Tri.seq ?_;refine Tri.seq (Tri.reg hT ?_);refine (Tri.cond ⟨fun h1=>?_,fun h1=>?_⟩)
 ·
  refine Tri.seq (Tri.reg hT ?_);refine Tri.le _ (Le.own 6 evT rfl) ?_;refine Tri.le _ (Le.freeze 6 _ 0 rfl rfl (Nat.le_refl 0)) ?_
  refine Tri.ret ?_;exact ⟨congrArg (AV.list evT) (if_pos (of_decide_eq_true h1)).symm,rfl,rfl,rfl,trivial⟩
 ·
  refine (Tri.skip ?_);refine Tri.seq (Tri.reg hT ?_);refine .inl (.inr (.inl ⟨_,_,(by exact ⟨rfl,rfl,rfl,trivial⟩),(CSpec.ofH (u:=ruH st p g e1 e2 b1 b2 s t) (f33_h1 st p g e1 e2 b1 b2 s t)),(by rfl),?_⟩));refine .inl (.inr (.inl ⟨_,_,(by exact ⟨rfl,rfl,rfl,trivial⟩),(CSpec.ofH (u:=ruH st p g e1 e2 b1 b2 s t) (f41_h1 st p g e1 e2 b1 b2 s t)),(by rfl),?_⟩));refine Tri.le _ (Le.freeze 6 _ 1 rfl rfl (Nat.le_refl 1)) ?_;refine Tri.ret ?_;exact ⟨congrArg (AV.list evT) (by unfold rp1;rw [if_neg (of_decide_eq_false h1),show IntKind.i64.wrap (s.pos - (x.length:Int)) = s.pos - (x.length:Int) from wrapId (by omega)];rfl),rfl,rfl,rfl,trivial⟩
theorem f62_h1 (st:Int) (p g:Hf) (e1 e2:Int) (b1 b2:Bool) (s t:SS):HSpec P G 62 [.loc 0 0,.int .i64 1] (rnH st p g e1 e2 b1 b2 s t) (.list evT (rp2 1 s.pos (!b1 && endedS s))) (rnH st p g e1 e2 (b1 || endedS s) b2 s t):=by
 generalize hz:(b1 || endedS s) = z;refine fspec_intro hT (rnH st p g e1 e2 b1 b2 s t) (rnH st p g e1 e2 z b2 s t) 3 3 Tryz.func62 (by decide) rfl rfl (by kernel_rfl) rfl rfl ?_
 refine Tri.seq (Tri.reg hT ?_);refine Tri.seq (Tri.reg hT ?_);refine .inl (.inr (.inl ⟨_,_,(by exact ⟨rfl,rfl,rfl,trivial⟩),(CSpec.ofH (u:=ruH st p g e1 e2 b1 b2 s t) (f33_h1 st p g e1 e2 b1 b2 s t)),(by rfl),?_⟩));refine Tri.seq ?_;refine Tri.seq (Tri.reg hT ?_);refine .inl (.inr (.inl ⟨_,_,(by exact ⟨rfl,trivial⟩),(CSpec.gw (f81_spec s 1)),(by rfl),?_⟩));refine ⟨_,[],trivial,rfl,rfl,fun h=>⟨rfl,rfl,rfl⟩,?_⟩;refine ⟨_,[],trivial,rfl,rfl,fun h=>⟨h,rfl,rfl,rfl⟩,?_⟩;refine ⟨_,[],trivial,rfl,rfl,fun h=>⟨h,rfl,rfl,rfl⟩,?_⟩;refine ⟨_,[],trivial,rfl,rfl,fun h=>⟨h,rfl,rfl,rfl⟩,?_⟩;refine ⟨⟨fun _=>trivial,fun hc=>(gn hc)⟩,?_⟩;refine (Tri.cond ⟨fun h1=>?_,fun h1=>?_⟩)
 ·
  refine Tri.seq (Tri.reg hT ?_);refine Tri.le _ (Le.own 4 evT rfl) ?_;refine Tri.le _ (Le.freeze 4 _ 0 rfl rfl (Nat.le_refl 0)) ?_
  refine Tri.ret ?_;exact ⟨congrArg (AV.list evT) (rp2_f h1),congrArg (fun z=>some (Chunk.box (rfC st p g e1 e2 z b2 (.loc 1 0) (.loc 2 0)))) ((cl_f h1).trans hz),rfl,rfl,trivial⟩
 ·
  refine (Tri.skip ?_);refine Tri.seq (Tri.reg hT ?_);refine Tri.seq (Tri.reg hT ?_);refine .inl (.inr (.inl ⟨_,_,(by exact ⟨rfl,rfl,rfl,trivial⟩),(CSpec.ofH (u:=ruH st p g e1 e2 true b2 s t) (f35_h1 st p g e1 e2 true b2 s t 4 0)),(by rfl),?_⟩));refine Tri.le _ (Le.freeze 4 _ 1 rfl rfl (Nat.le_refl 1)) ?_;refine Tri.ret ?_;exact ⟨congrArg (AV.list evT) (rp2_t h1),congrArg (fun z=>some (Chunk.box (rfC st p g e1 e2 z b2 (.loc 1 0) (.loc 2 0)))) ((cl_t h1).trans hz),rfl,rfl,trivial⟩
theorem f16_h1 (st:Int) (p g:Hf) (e1 e2:Int) (b1 b2:Bool) (s t:SS):HSpec P G 16 [.loc 0 0,.int .i64 1] (rnH st p g e1 e2 b1 b2 s t) ((if opB st = true then vwR1 p g e2 s else vwZ)) (rnH st p g e1 e2 b1 b2 s t):=by
 generalize hO:opB st = ob;rw [show (if ob = true then vwR1 p g e2 s else vwZ) = (match ob with|true=>vwR1 p g e2 s|false=>vwZ) by cases ob <;> rfl];refine fspec_intro hT (rnH st p g e1 e2 b1 b2 s t) (rnH st p g e1 e2 b1 b2 s t) 3 3 Tryz.func16 (by decide) rfl rfl (by kernel_rfl) rfl rfl ?_
 refine Tri.seq (Tri.reg hT ?_);refine Tri.seq ?_;refine Tri.seq (Tri.reg hT ?_);refine ⟨_,[],trivial,rfl,rfl,fun h=>⟨rfl,rfl,rfl⟩,?_⟩;refine ⟨_,[],trivial,rfl,rfl,fun h=>⟨h,rfl,rfl,rfl⟩,?_⟩;refine ⟨_,[],trivial,rfl,rfl,fun h=>⟨h,rfl,rfl,rfl⟩,?_⟩;refine ⟨_,[],trivial,rfl,rfl,fun h=>⟨h,rfl,rfl,rfl⟩,?_⟩;refine ⟨_,[],trivial,rfl,rfl,fun h=>⟨h,rfl,rfl,rfl⟩,?_⟩;refine ⟨_,[],trivial,rfl,rfl,fun h=>⟨h,rfl,rfl,rfl⟩,?_⟩;refine ⟨_,[],trivial,rfl,rfl,fun h=>⟨rfl,rfl,rfl⟩,?_⟩;refine ⟨_,[],trivial,rfl,rfl,fun h=>⟨h,rfl,rfl,rfl⟩,?_⟩;refine ⟨_,[],trivial,rfl,rfl,fun h=>⟨h,rfl,rfl,rfl⟩,?_⟩;refine ⟨_,[],trivial,rfl,rfl,fun h=>⟨h,rfl,rfl,rfl⟩,?_⟩;refine ⟨_,[],trivial,rfl,rfl,fun h=>⟨h,rfl,rfl,rfl⟩,?_⟩;refine ⟨_,[],trivial,rfl,rfl,fun h=>⟨h,⟨fun hc=>ga h hc,fun _=>trivial⟩,rfl,rfl,rfl⟩,?_⟩;refine ⟨⟨fun _=>trivial,fun hc=>(gn hc)⟩,?_⟩;refine ⟨_,[],trivial,rfl,rfl,fun h=>⟨rfl,rfl,rfl⟩,?_⟩;refine ⟨_,[],trivial,rfl,rfl,fun h=>⟨h,rfl,rfl,rfl⟩,?_⟩;refine ⟨_,[],trivial,rfl,rfl,fun h=>⟨h,rfl,rfl,rfl⟩,?_⟩;refine ⟨_,[],trivial,rfl,rfl,fun h=>⟨rfl,rfl,rfl⟩,?_⟩;refine ⟨_,[],trivial,rfl,rfl,fun h=>⟨h,rfl,rfl,rfl⟩,?_⟩;refine ⟨_,[],trivial,rfl,rfl,fun h=>⟨h,⟨fun hc=>ga h hc,fun _=>trivial⟩,rfl,rfl,rfl⟩,?_⟩;refine ⟨⟨fun _=>trivial,fun hc=>(gn hc)⟩,?_⟩;refine (Tri.cond ⟨fun h1=>?_,fun h1=>?_⟩)
 ·
  refine Tri.seq (Tri.reg hT ?_);refine Tri.ret ?_;have hf:ob = false:=(by rw [← hO];unfold opB;revert h1;by_cases q3:st = 3 <;> by_cases q4:st = 4 <;> simp_all);subst hf;exact ⟨rfl,rfl,rfl,rfl,trivial⟩
 ·
  refine (Tri.skip ?_);refine Tri.seq (Tri.reg hT ?_);refine .inl (.inr (.inl ⟨_,_,(by exact ⟨rfl,rfl,rfl,trivial⟩),(CSpec.ofH (u:=ruH st p g e1 e2 b1 b2 s t) (f32_h1 st p g e1 e2 b1 b2 s t)),(by rfl),?_⟩));refine Tri.ret ?_;have hf:ob = true:=(by rw [← hO];unfold opB;revert h1;by_cases q3:st = 3 <;> by_cases q4:st = 4 <;> simp_all);subst hf;exact ⟨rfl,rfl,rfl,rfl,trivial⟩
theorem f16_n1 (st:Int) (p g:Hf) (e1 e2:Int) (b1 b2:Bool) (ho:opB st = false):HSpec P G 16 [.loc 0 0,.int .i64 1] (rnN st p g e1 e2 b1 b2) (vwZ) (rnN st p g e1 e2 b1 b2):=by
 refine fspec_intro hT (rnN st p g e1 e2 b1 b2) (rnN st p g e1 e2 b1 b2) 1 1 Tryz.func16 (by decide) rfl rfl (by kernel_rfl) rfl rfl ?_;refine Tri.seq (Tri.reg hT ?_);refine Tri.seq ?_;refine Tri.seq (Tri.reg hT ?_);refine ⟨_,[],trivial,rfl,rfl,fun h=>⟨rfl,rfl,rfl⟩,?_⟩;refine ⟨_,[],trivial,rfl,rfl,fun h=>⟨h,rfl,rfl,rfl⟩,?_⟩;refine ⟨_,[],trivial,rfl,rfl,fun h=>⟨h,rfl,rfl,rfl⟩,?_⟩;refine ⟨_,[],trivial,rfl,rfl,fun h=>⟨h,rfl,rfl,rfl⟩,?_⟩;refine ⟨_,[],trivial,rfl,rfl,fun h=>⟨h,rfl,rfl,rfl⟩,?_⟩;refine ⟨_,[],trivial,rfl,rfl,fun h=>⟨h,rfl,rfl,rfl⟩,?_⟩;refine ⟨_,[],trivial,rfl,rfl,fun h=>⟨rfl,rfl,rfl⟩,?_⟩;refine ⟨_,[],trivial,rfl,rfl,fun h=>⟨h,rfl,rfl,rfl⟩,?_⟩;refine ⟨_,[],trivial,rfl,rfl,fun h=>⟨h,rfl,rfl,rfl⟩,?_⟩;refine ⟨_,[],trivial,rfl,rfl,fun h=>⟨h,rfl,rfl,rfl⟩,?_⟩;refine ⟨_,[],trivial,rfl,rfl,fun h=>⟨h,rfl,rfl,rfl⟩,?_⟩;refine ⟨_,[],trivial,rfl,rfl,fun h=>⟨h,⟨fun hc=>ga h hc,fun _=>trivial⟩,rfl,rfl,rfl⟩,?_⟩;refine ⟨⟨fun _=>trivial,fun hc=>(gn hc)⟩,?_⟩;refine ⟨_,[],trivial,rfl,rfl,fun h=>⟨rfl,rfl,rfl⟩,?_⟩;refine ⟨_,[],trivial,rfl,rfl,fun h=>⟨h,rfl,rfl,rfl⟩,?_⟩;refine ⟨_,[],trivial,rfl,rfl,fun h=>⟨h,rfl,rfl,rfl⟩,?_⟩;refine ⟨_,[],trivial,rfl,rfl,fun h=>⟨rfl,rfl,rfl⟩,?_⟩;refine ⟨_,[],trivial,rfl,rfl,fun h=>⟨h,rfl,rfl,rfl⟩,?_⟩;refine ⟨_,[],trivial,rfl,rfl,fun h=>⟨h,⟨fun hc=>ga h hc,fun _=>trivial⟩,rfl,rfl,rfl⟩,?_⟩;refine ⟨⟨fun _=>trivial,fun hc=>(gn hc)⟩,?_⟩;refine (Tri.cond ⟨fun h1=>?_,fun h1=>?_⟩)
 ·
  refine Tri.seq (Tri.reg hT ?_);refine Tri.ret ?_;exact ⟨rfl,rfl,trivial⟩
 ·
  exact absurd h1 (by unfold opB at ho;simp_all)
theorem f32_h2 (st:Int) (p g:Hf) (e1 e2:Int) (b1 b2:Bool) (s t:SS):HSpec P G 32 [.loc 0 0,.int .i64 2] (rnH st p g e1 e2 b1 b2 s t) (vwR2 p g e1 t) (rnH st p g e1 e2 b1 b2 s t):=by
 refine fspec_intro hT (rnH st p g e1 e2 b1 b2 s t) (rnH st p g e1 e2 b1 b2 s t) 3 3 Tryz.func32 (by decide) rfl rfl (by kernel_rfl) rfl rfl ?_;refine Tri.seq (Tri.reg hT ?_);refine Tri.seq (Tri.reg hT ?_);refine .inl (.inr (.inl ⟨_,_,(by exact ⟨rfl,rfl,rfl,trivial⟩),(CSpec.ofH (u:=ruH st p g e1 e2 b1 b2 s t) (f33_h2 st p g e1 e2 b1 b2 s t)),(by rfl),?_⟩));refine Tri.seq (Tri.drw hT hm 28 (by kernel_rfl) ?_);refine .inr (.inl ⟨_,_,(by exact ⟨rfl,trivial⟩),(CSpec.gw (f54_spec t 2)),(by rfl),?_⟩);refine ⟨_,[],trivial,rfl,rfl,fun h=>⟨rfl,rfl,rfl⟩,?_⟩;refine ⟨_,[],trivial,rfl,rfl,fun h=>⟨h,rfl,rfl,rfl⟩,?_⟩;refine ⟨_,[],trivial,rfl,rfl,fun h=>⟨h,rfl,rfl,rfl⟩,?_⟩;refine ⟨_,[],trivial,rfl,rfl,fun h=>⟨h,rfl,rfl,rfl⟩,?_⟩;refine ⟨_,[],trivial,rfl,rfl,fun h=>⟨h,rfl,rfl,rfl⟩,?_⟩;refine ⟨⟨fun hc=>hc,fun _=>trivial⟩,?_⟩;refine ⟨by kernel_rfl,?_⟩;refine Tri.seq ?_;refine Tri.seq (Tri.reg hT ?_);refine (Tri.cond ⟨fun h1=>?_,fun h1=>?_⟩)
 ·
  refine (Tri.reg hT ?_);refine Tri.seq (Tri.reg hT ?_);refine Tri.ret ?_;exact ⟨(vw_t h1).trans (by rw [Bool.and_comm]),rfl,rfl,rfl,trivial⟩
 ·
  refine (Tri.skip ?_);refine Tri.seq (Tri.reg hT ?_);refine Tri.ret ?_;exact ⟨(vw_f h1).trans (by rw [Bool.and_comm]),rfl,rfl,rfl,trivial⟩
theorem f60_h2 (st:Int) (p g:Hf) (e1 e2:Int) (b1 b2:Bool) (s t:SS) (x:List UInt8) (hx:x.length≤1099511627776) (h0:0≤t.pos) (h1':t.pos≤1099511627776):HSpec P G 60 [.loc 0 0,.int .i64 2,.str x] (rnH st p g e1 e2 b1 b2 s t) (.list evT (rp1 2 t.pos x)) (rnH st p g e1 e2 b1 b2 s t):=by
 refine fspec_intro hT (rnH st p g e1 e2 b1 b2 s t) (rnH st p g e1 e2 b1 b2 s t) 3 3 Tryz.func60 (by decide) rfl rfl (by kernel_rfl) rfl rfl ?_;refine Tri.seq (Tri.reg hT ?_);refine Tri.seq ?_;refine Tri.seq (Tri.reg hT ?_);refine (Tri.cond ⟨fun h1=>?_,fun h1=>?_⟩)
 ·
  refine Tri.seq (Tri.reg hT ?_);refine Tri.le _ (Le.own 6 evT rfl) ?_;refine Tri.le _ (Le.freeze 6 _ 0 rfl rfl (Nat.le_refl 0)) ?_
  refine Tri.ret ?_;exact ⟨congrArg (AV.list evT) (if_pos (of_decide_eq_true h1)).symm,rfl,rfl,rfl,trivial⟩
 ·
  refine (Tri.skip ?_);refine Tri.seq (Tri.reg hT ?_);refine .inl (.inr (.inl ⟨_,_,(by exact ⟨rfl,rfl,rfl,trivial⟩),(CSpec.ofH (u:=ruH st p g e1 e2 b1 b2 s t) (f33_h2 st p g e1 e2 b1 b2 s t)),(by rfl),?_⟩));refine .inl (.inr (.inl ⟨_,_,(by exact ⟨rfl,rfl,rfl,trivial⟩),(CSpec.ofH (u:=ruH st p g e1 e2 b1 b2 s t) (f41_h2 st p g e1 e2 b1 b2 s t)),(by rfl),?_⟩));refine Tri.le _ (Le.freeze 6 _ 1 rfl rfl (Nat.le_refl 1)) ?_;refine Tri.ret ?_;exact ⟨congrArg (AV.list evT) (by unfold rp1;rw [if_neg (of_decide_eq_false h1),show IntKind.i64.wrap (t.pos - (x.length:Int)) = t.pos - (x.length:Int) from wrapId (by omega)];rfl),rfl,rfl,rfl,trivial⟩
theorem f62_h2 (st:Int) (p g:Hf) (e1 e2:Int) (b1 b2:Bool) (s t:SS):HSpec P G 62 [.loc 0 0,.int .i64 2] (rnH st p g e1 e2 b1 b2 s t) (.list evT (rp2 2 t.pos (!b2 && endedS t))) (rnH st p g e1 e2 b1 (b2 || endedS t) s t):=by
 generalize hz:(b2 || endedS t) = z;refine fspec_intro hT (rnH st p g e1 e2 b1 b2 s t) (rnH st p g e1 e2 b1 z s t) 3 3 Tryz.func62 (by decide) rfl rfl (by kernel_rfl) rfl rfl ?_
 refine Tri.seq (Tri.reg hT ?_);refine Tri.seq (Tri.reg hT ?_);refine .inl (.inr (.inl ⟨_,_,(by exact ⟨rfl,rfl,rfl,trivial⟩),(CSpec.ofH (u:=ruH st p g e1 e2 b1 b2 s t) (f33_h2 st p g e1 e2 b1 b2 s t)),(by rfl),?_⟩));refine Tri.seq ?_;refine Tri.seq (Tri.reg hT ?_);refine .inl (.inr (.inl ⟨_,_,(by exact ⟨rfl,trivial⟩),(CSpec.gw (f81_spec t 2)),(by rfl),?_⟩));refine ⟨_,[],trivial,rfl,rfl,fun h=>⟨rfl,rfl,rfl⟩,?_⟩;refine ⟨_,[],trivial,rfl,rfl,fun h=>⟨h,rfl,rfl,rfl⟩,?_⟩;refine ⟨_,[],trivial,rfl,rfl,fun h=>⟨h,rfl,rfl,rfl⟩,?_⟩;refine ⟨_,[],trivial,rfl,rfl,fun h=>⟨h,rfl,rfl,rfl⟩,?_⟩;refine ⟨⟨fun _=>trivial,fun hc=>(gn hc)⟩,?_⟩;refine (Tri.cond ⟨fun h1=>?_,fun h1=>?_⟩)
 ·
  refine Tri.seq (Tri.reg hT ?_);refine Tri.le _ (Le.own 4 evT rfl) ?_;refine Tri.le _ (Le.freeze 4 _ 0 rfl rfl (Nat.le_refl 0)) ?_
  refine Tri.ret ?_;exact ⟨congrArg (AV.list evT) (rp2_f h1),congrArg (fun z=>some (Chunk.box (rfC st p g e1 e2 b1 z (.loc 1 0) (.loc 2 0)))) ((cl_f h1).trans hz),rfl,rfl,trivial⟩
 ·
  refine (Tri.skip ?_);refine Tri.seq (Tri.reg hT ?_);refine Tri.seq (Tri.reg hT ?_);refine .inl (.inr (.inl ⟨_,_,(by exact ⟨rfl,rfl,rfl,trivial⟩),(CSpec.ofH (u:=ruH st p g e1 e2 b1 true s t) (f35_h2 st p g e1 e2 b1 true s t 4 0)),(by rfl),?_⟩));refine Tri.le _ (Le.freeze 4 _ 1 rfl rfl (Nat.le_refl 1)) ?_;refine Tri.ret ?_;exact ⟨congrArg (AV.list evT) (rp2_t h1),congrArg (fun z=>some (Chunk.box (rfC st p g e1 e2 b1 z (.loc 1 0) (.loc 2 0)))) ((cl_t h1).trans hz),rfl,rfl,trivial⟩
theorem f16_h2 (st:Int) (p g:Hf) (e1 e2:Int) (b1 b2:Bool) (s t:SS):HSpec P G 16 [.loc 0 0,.int .i64 2] (rnH st p g e1 e2 b1 b2 s t) ((if opB st = true then vwR2 p g e1 t else vwZ)) (rnH st p g e1 e2 b1 b2 s t):=by
 generalize hO:opB st = ob;rw [show (if ob = true then vwR2 p g e1 t else vwZ) = (match ob with|true=>vwR2 p g e1 t|false=>vwZ) by cases ob <;> rfl];refine fspec_intro hT (rnH st p g e1 e2 b1 b2 s t) (rnH st p g e1 e2 b1 b2 s t) 3 3 Tryz.func16 (by decide) rfl rfl (by kernel_rfl) rfl rfl ?_
 refine Tri.seq (Tri.reg hT ?_);refine Tri.seq ?_;refine Tri.seq (Tri.reg hT ?_);refine ⟨_,[],trivial,rfl,rfl,fun h=>⟨rfl,rfl,rfl⟩,?_⟩;refine ⟨_,[],trivial,rfl,rfl,fun h=>⟨h,rfl,rfl,rfl⟩,?_⟩;refine ⟨_,[],trivial,rfl,rfl,fun h=>⟨h,rfl,rfl,rfl⟩,?_⟩;refine ⟨_,[],trivial,rfl,rfl,fun h=>⟨h,rfl,rfl,rfl⟩,?_⟩;refine ⟨_,[],trivial,rfl,rfl,fun h=>⟨h,rfl,rfl,rfl⟩,?_⟩;refine ⟨_,[],trivial,rfl,rfl,fun h=>⟨h,rfl,rfl,rfl⟩,?_⟩;refine ⟨_,[],trivial,rfl,rfl,fun h=>⟨rfl,rfl,rfl⟩,?_⟩;refine ⟨_,[],trivial,rfl,rfl,fun h=>⟨h,rfl,rfl,rfl⟩,?_⟩;refine ⟨_,[],trivial,rfl,rfl,fun h=>⟨h,rfl,rfl,rfl⟩,?_⟩;refine ⟨_,[],trivial,rfl,rfl,fun h=>⟨h,rfl,rfl,rfl⟩,?_⟩;refine ⟨_,[],trivial,rfl,rfl,fun h=>⟨h,rfl,rfl,rfl⟩,?_⟩;refine ⟨_,[],trivial,rfl,rfl,fun h=>⟨h,⟨fun hc=>ga h hc,fun _=>trivial⟩,rfl,rfl,rfl⟩,?_⟩;refine ⟨⟨fun _=>trivial,fun hc=>(gn hc)⟩,?_⟩;refine ⟨_,[],trivial,rfl,rfl,fun h=>⟨rfl,rfl,rfl⟩,?_⟩;refine ⟨_,[],trivial,rfl,rfl,fun h=>⟨h,rfl,rfl,rfl⟩,?_⟩;refine ⟨_,[],trivial,rfl,rfl,fun h=>⟨h,rfl,rfl,rfl⟩,?_⟩;refine ⟨_,[],trivial,rfl,rfl,fun h=>⟨rfl,rfl,rfl⟩,?_⟩;refine ⟨_,[],trivial,rfl,rfl,fun h=>⟨h,rfl,rfl,rfl⟩,?_⟩;refine ⟨_,[],trivial,rfl,rfl,fun h=>⟨h,⟨fun hc=>ga h hc,fun _=>trivial⟩,rfl,rfl,rfl⟩,?_⟩;refine ⟨⟨fun _=>trivial,fun hc=>(gn hc)⟩,?_⟩;refine (Tri.cond ⟨fun h1=>?_,fun h1=>?_⟩)
 ·
  refine Tri.seq (Tri.reg hT ?_);refine Tri.ret ?_;have hf:ob = false:=(by rw [← hO];unfold opB;revert h1;by_cases q3:st = 3 <;> by_cases q4:st = 4 <;> simp_all);subst hf;exact ⟨rfl,rfl,rfl,rfl,trivial⟩
 ·
  refine (Tri.skip ?_);refine Tri.seq (Tri.reg hT ?_);refine .inl (.inr (.inl ⟨_,_,(by exact ⟨rfl,rfl,rfl,trivial⟩),(CSpec.ofH (u:=ruH st p g e1 e2 b1 b2 s t) (f32_h2 st p g e1 e2 b1 b2 s t)),(by rfl),?_⟩));refine Tri.ret ?_;have hf:ob = true:=(by rw [← hO];unfold opB;revert h1;by_cases q3:st = 3 <;> by_cases q4:st = 4 <;> simp_all);subst hf;exact ⟨rfl,rfl,rfl,rfl,trivial⟩
theorem f16_n2 (st:Int) (p g:Hf) (e1 e2:Int) (b1 b2:Bool) (ho:opB st = false):HSpec P G 16 [.loc 0 0,.int .i64 2] (rnN st p g e1 e2 b1 b2) (vwZ) (rnN st p g e1 e2 b1 b2):=by
 refine fspec_intro hT (rnN st p g e1 e2 b1 b2) (rnN st p g e1 e2 b1 b2) 1 1 Tryz.func16 (by decide) rfl rfl (by kernel_rfl) rfl rfl ?_;refine Tri.seq (Tri.reg hT ?_);refine Tri.seq ?_;refine Tri.seq (Tri.reg hT ?_);refine ⟨_,[],trivial,rfl,rfl,fun h=>⟨rfl,rfl,rfl⟩,?_⟩;refine ⟨_,[],trivial,rfl,rfl,fun h=>⟨h,rfl,rfl,rfl⟩,?_⟩;refine ⟨_,[],trivial,rfl,rfl,fun h=>⟨h,rfl,rfl,rfl⟩,?_⟩;refine ⟨_,[],trivial,rfl,rfl,fun h=>⟨h,rfl,rfl,rfl⟩,?_⟩;refine ⟨_,[],trivial,rfl,rfl,fun h=>⟨h,rfl,rfl,rfl⟩,?_⟩;refine ⟨_,[],trivial,rfl,rfl,fun h=>⟨h,rfl,rfl,rfl⟩,?_⟩;refine ⟨_,[],trivial,rfl,rfl,fun h=>⟨rfl,rfl,rfl⟩,?_⟩;refine ⟨_,[],trivial,rfl,rfl,fun h=>⟨h,rfl,rfl,rfl⟩,?_⟩;refine ⟨_,[],trivial,rfl,rfl,fun h=>⟨h,rfl,rfl,rfl⟩,?_⟩;refine ⟨_,[],trivial,rfl,rfl,fun h=>⟨h,rfl,rfl,rfl⟩,?_⟩;refine ⟨_,[],trivial,rfl,rfl,fun h=>⟨h,rfl,rfl,rfl⟩,?_⟩;refine ⟨_,[],trivial,rfl,rfl,fun h=>⟨h,⟨fun hc=>ga h hc,fun _=>trivial⟩,rfl,rfl,rfl⟩,?_⟩;refine ⟨⟨fun _=>trivial,fun hc=>(gn hc)⟩,?_⟩;refine ⟨_,[],trivial,rfl,rfl,fun h=>⟨rfl,rfl,rfl⟩,?_⟩;refine ⟨_,[],trivial,rfl,rfl,fun h=>⟨h,rfl,rfl,rfl⟩,?_⟩;refine ⟨_,[],trivial,rfl,rfl,fun h=>⟨h,rfl,rfl,rfl⟩,?_⟩;refine ⟨_,[],trivial,rfl,rfl,fun h=>⟨rfl,rfl,rfl⟩,?_⟩;refine ⟨_,[],trivial,rfl,rfl,fun h=>⟨h,rfl,rfl,rfl⟩,?_⟩;refine ⟨_,[],trivial,rfl,rfl,fun h=>⟨h,⟨fun hc=>ga h hc,fun _=>trivial⟩,rfl,rfl,rfl⟩,?_⟩;refine ⟨⟨fun _=>trivial,fun hc=>(gn hc)⟩,?_⟩;refine (Tri.cond ⟨fun h1=>?_,fun h1=>?_⟩)
 ·
  refine Tri.seq (Tri.reg hT ?_);refine Tri.ret ?_;exact ⟨rfl,rfl,trivial⟩
 ·
  exact absurd h1 (by unfold opB at ho;simp_all)
theorem f16_nx (st:Int) (p g:Hf) (e1 e2:Int) (b1 b2:Bool) (d:Int) (hd1:d≠1) (hd2:d≠2):HSpec P G 16 [.loc 0 0,.int .i64 d] (rnN st p g e1 e2 b1 b2) (vwZ) (rnN st p g e1 e2 b1 b2):=by
 refine fspec_intro hT (rnN st p g e1 e2 b1 b2) (rnN st p g e1 e2 b1 b2) 1 1 Tryz.func16 (by decide) rfl rfl (by kernel_rfl) rfl rfl ?_;refine Tri.seq (Tri.reg hT ?_);refine Tri.seq ?_;refine Tri.seq (Tri.reg hT ?_);refine ⟨_,[],trivial,rfl,rfl,fun h=>⟨rfl,rfl,rfl⟩,?_⟩;refine ⟨_,[],trivial,rfl,rfl,fun h=>⟨h,rfl,rfl,rfl⟩,?_⟩;refine ⟨_,[],trivial,rfl,rfl,fun h=>⟨h,rfl,rfl,rfl⟩,?_⟩;refine ⟨_,[],trivial,rfl,rfl,fun h=>⟨h,rfl,rfl,rfl⟩,?_⟩;refine ⟨_,[],trivial,rfl,rfl,fun h=>⟨h,rfl,rfl,rfl⟩,?_⟩;refine ⟨_,[],trivial,rfl,rfl,fun h=>⟨h,rfl,rfl,rfl⟩,?_⟩;refine ⟨_,[],trivial,rfl,rfl,fun h=>⟨rfl,rfl,rfl⟩,?_⟩;refine ⟨_,[],trivial,rfl,rfl,fun h=>⟨h,rfl,rfl,rfl⟩,?_⟩;refine ⟨_,[],trivial,rfl,rfl,fun h=>⟨h,rfl,rfl,rfl⟩,?_⟩;refine ⟨_,[],trivial,rfl,rfl,fun h=>⟨h,rfl,rfl,rfl⟩,?_⟩;refine ⟨_,[],trivial,rfl,rfl,fun h=>⟨h,rfl,rfl,rfl⟩,?_⟩;refine ⟨_,[],trivial,rfl,rfl,fun h=>⟨h,⟨fun hc=>ga h hc,fun _=>trivial⟩,rfl,rfl,rfl⟩,?_⟩;refine ⟨⟨fun _=>trivial,fun hc=>(gn hc)⟩,?_⟩;refine ⟨_,[],trivial,rfl,rfl,fun h=>⟨rfl,rfl,rfl⟩,?_⟩;refine ⟨_,[],trivial,rfl,rfl,fun h=>⟨h,rfl,rfl,rfl⟩,?_⟩;refine ⟨_,[],trivial,rfl,rfl,fun h=>⟨h,rfl,rfl,rfl⟩,?_⟩;refine ⟨_,[],trivial,rfl,rfl,fun h=>⟨rfl,rfl,rfl⟩,?_⟩;refine ⟨_,[],trivial,rfl,rfl,fun h=>⟨h,rfl,rfl,rfl⟩,?_⟩;refine ⟨_,[],trivial,rfl,rfl,fun h=>⟨h,⟨fun hc=>ga h hc,fun _=>trivial⟩,rfl,rfl,rfl⟩,?_⟩;refine ⟨⟨fun _=>trivial,fun hc=>(gn hc)⟩,?_⟩;refine (Tri.cond ⟨fun h1=>?_,fun h1=>?_⟩)
 ·
  refine Tri.seq (Tri.reg hT ?_);refine Tri.ret ?_;exact ⟨rfl,rfl,trivial⟩
 ·
  exact absurd h1 (by simp [iteO,iteA,hd1,hd2])
theorem f16_hx (st:Int) (p g:Hf) (e1 e2:Int) (b1 b2:Bool) (s t:SS) (d:Int) (hd1:d≠1) (hd2:d≠2):HSpec P G 16 [.loc 0 0,.int .i64 d] (rnH st p g e1 e2 b1 b2 s t) (vwZ) (rnH st p g e1 e2 b1 b2 s t):=by
 refine fspec_intro hT (rnH st p g e1 e2 b1 b2 s t) (rnH st p g e1 e2 b1 b2 s t) 3 3 Tryz.func16 (by decide) rfl rfl (by kernel_rfl) rfl rfl ?_;refine Tri.seq (Tri.reg hT ?_);refine Tri.seq ?_;refine Tri.seq (Tri.reg hT ?_);refine ⟨_,[],trivial,rfl,rfl,fun h=>⟨rfl,rfl,rfl⟩,?_⟩;refine ⟨_,[],trivial,rfl,rfl,fun h=>⟨h,rfl,rfl,rfl⟩,?_⟩;refine ⟨_,[],trivial,rfl,rfl,fun h=>⟨h,rfl,rfl,rfl⟩,?_⟩;refine ⟨_,[],trivial,rfl,rfl,fun h=>⟨h,rfl,rfl,rfl⟩,?_⟩;refine ⟨_,[],trivial,rfl,rfl,fun h=>⟨h,rfl,rfl,rfl⟩,?_⟩;refine ⟨_,[],trivial,rfl,rfl,fun h=>⟨h,rfl,rfl,rfl⟩,?_⟩;refine ⟨_,[],trivial,rfl,rfl,fun h=>⟨rfl,rfl,rfl⟩,?_⟩;refine ⟨_,[],trivial,rfl,rfl,fun h=>⟨h,rfl,rfl,rfl⟩,?_⟩;refine ⟨_,[],trivial,rfl,rfl,fun h=>⟨h,rfl,rfl,rfl⟩,?_⟩;refine ⟨_,[],trivial,rfl,rfl,fun h=>⟨h,rfl,rfl,rfl⟩,?_⟩;refine ⟨_,[],trivial,rfl,rfl,fun h=>⟨h,rfl,rfl,rfl⟩,?_⟩;refine ⟨_,[],trivial,rfl,rfl,fun h=>⟨h,⟨fun hc=>ga h hc,fun _=>trivial⟩,rfl,rfl,rfl⟩,?_⟩;refine ⟨⟨fun _=>trivial,fun hc=>(gn hc)⟩,?_⟩;refine ⟨_,[],trivial,rfl,rfl,fun h=>⟨rfl,rfl,rfl⟩,?_⟩;refine ⟨_,[],trivial,rfl,rfl,fun h=>⟨h,rfl,rfl,rfl⟩,?_⟩;refine ⟨_,[],trivial,rfl,rfl,fun h=>⟨h,rfl,rfl,rfl⟩,?_⟩;refine ⟨_,[],trivial,rfl,rfl,fun h=>⟨rfl,rfl,rfl⟩,?_⟩;refine ⟨_,[],trivial,rfl,rfl,fun h=>⟨h,rfl,rfl,rfl⟩,?_⟩;refine ⟨_,[],trivial,rfl,rfl,fun h=>⟨h,⟨fun hc=>ga h hc,fun _=>trivial⟩,rfl,rfl,rfl⟩,?_⟩;refine ⟨⟨fun _=>trivial,fun hc=>(gn hc)⟩,?_⟩;refine (Tri.cond ⟨fun h1=>?_,fun h1=>?_⟩)
 ·
  refine Tri.seq (Tri.reg hT ?_);refine Tri.ret ?_;exact ⟨rfl,rfl,rfl,rfl,trivial⟩
 ·
  exact absurd h1 (by simp [iteO,iteA,hd1,hd2])
theorem f14_n (st:Int) (p g:Hf) (e1 e2:Int) (b1 b2:Bool) (hst:st < 3):HSpec P G 14 [.loc 0 0] (rnN st p g e1 e2 b1 b2) (.int .i64 0) (rnN st p g e1 e2 b1 b2):=by
 refine fspec_intro hT (rnN st p g e1 e2 b1 b2) (rnN st p g e1 e2 b1 b2) 1 1 Tryz.func14 (by decide) rfl rfl (by kernel_rfl) rfl rfl ?_;refine Tri.seq (Tri.reg hT ?_);refine Tri.seq ?_;refine Tri.seq (Tri.reg hT ?_);refine ⟨_,[],trivial,rfl,rfl,fun h=>⟨rfl,rfl,rfl⟩,?_⟩;refine ⟨_,[],trivial,rfl,rfl,fun h=>⟨h,rfl,rfl,rfl⟩,?_⟩;refine ⟨_,[],trivial,rfl,rfl,fun h=>⟨h,rfl,rfl,rfl⟩,?_⟩;refine ⟨_,[],trivial,rfl,rfl,fun h=>⟨h,rfl,rfl,rfl⟩,?_⟩;refine ⟨_,[],trivial,rfl,rfl,fun h=>⟨h,rfl,rfl,rfl⟩,?_⟩;refine ⟨⟨fun _=>trivial,fun hc=>(gn hc)⟩,?_⟩;refine ⟨_,[],trivial,rfl,rfl,fun h=>⟨rfl,rfl,rfl⟩,?_⟩;refine ⟨_,[],trivial,rfl,rfl,fun h=>⟨h,rfl,rfl,rfl⟩,?_⟩;refine ⟨_,[],trivial,rfl,rfl,fun h=>⟨h,rfl,rfl,rfl⟩,?_⟩;refine ⟨_,[],trivial,rfl,rfl,fun h=>⟨h,rfl,rfl,rfl⟩,?_⟩;refine ⟨_,[],trivial,rfl,rfl,fun h=>⟨h,rfl,rfl,rfl⟩,?_⟩;refine ⟨⟨fun _=>trivial,fun hc=>(gn hc)⟩,?_⟩;refine (Tri.cond ⟨fun h1=>?_,fun h1=>?_⟩)
 ·
  refine Tri.seq (Tri.reg hT ?_);refine Tri.ret ?_;exact ⟨rfl,rfl,trivial⟩
 ·
  exact absurd h1 (by simp [iteO,hst])
theorem f14_h (st:Int) (p g:Hf) (e1 e2:Int) (b1 b2:Bool) (s t:SS) (B:Int) (is:SInv s B) (it:SInv t B) (h3:3≤st) (h6:st≠6):HSpec P G 14 [.loc 0 0] (rnH st p g e1 e2 b1 b2 s t) (.int .i64 (lenSum s.l + lenSum t.l)) (rnH st p g e1 e2 b1 b2 s t):=by
 refine fspec_intro hT (rnH st p g e1 e2 b1 b2 s t) (rnH st p g e1 e2 b1 b2 s t) 3 3 Tryz.func14 (by decide) rfl rfl (by kernel_rfl) rfl rfl ?_;refine Tri.seq (Tri.reg hT ?_);refine Tri.seq ?_;refine Tri.seq (Tri.reg hT ?_);refine ⟨_,[],trivial,rfl,rfl,fun h=>⟨rfl,rfl,rfl⟩,?_⟩;refine ⟨_,[],trivial,rfl,rfl,fun h=>⟨h,rfl,rfl,rfl⟩,?_⟩;refine ⟨_,[],trivial,rfl,rfl,fun h=>⟨h,rfl,rfl,rfl⟩,?_⟩;refine ⟨_,[],trivial,rfl,rfl,fun h=>⟨h,rfl,rfl,rfl⟩,?_⟩;refine ⟨_,[],trivial,rfl,rfl,fun h=>⟨h,rfl,rfl,rfl⟩,?_⟩;refine ⟨⟨fun _=>trivial,fun hc=>(gn hc)⟩,?_⟩;refine ⟨_,[],trivial,rfl,rfl,fun h=>⟨rfl,rfl,rfl⟩,?_⟩;refine ⟨_,[],trivial,rfl,rfl,fun h=>⟨h,rfl,rfl,rfl⟩,?_⟩;refine ⟨_,[],trivial,rfl,rfl,fun h=>⟨h,rfl,rfl,rfl⟩,?_⟩;refine ⟨_,[],trivial,rfl,rfl,fun h=>⟨h,rfl,rfl,rfl⟩,?_⟩;refine ⟨_,[],trivial,rfl,rfl,fun h=>⟨h,rfl,rfl,rfl⟩,?_⟩;refine ⟨⟨fun _=>trivial,fun hc=>(gn hc)⟩,?_⟩;refine (Tri.cond ⟨fun h1=>?_,fun h1=>?_⟩)
 ·
  exact absurd h1 (by simp [iteO,h6];omega)
 ·
  refine (Tri.skip ?_);have hs1:=is.size;have hs2:=it.size;have hw1:=is.win;have hw2:=it.win;have hl1:=is.len;have hl2:=it.len
  refine Tri.seq (Tri.drw hT hm 13 (by kernel_rfl) ?_);refine .inr (.inl ⟨_,_,(by exact ⟨rfl,trivial⟩),(CSpec.gw (f38_spec t (by omega) (by omega) 2)),(by rfl),?_⟩);refine .inr (.inl ⟨_,_,(by exact ⟨rfl,trivial⟩),(CSpec.gw (f38_spec s (by omega) (by omega) 1)),(by rfl),?_⟩);refine ⟨by kernel_rfl,?_⟩;refine Tri.ret ?_;exact ⟨congrArg (AV.int .i64) (by rw [show IntKind.i64.wrap (lenSum t.l + lenSum s.l) = lenSum t.l + lenSum s.l from wrapId (by omega),Int.add_comm]),rfl,rfl,rfl,trivial⟩
theorem f14_6 (st:Int) (p g:Hf) (e1 e2:Int) (b1 b2:Bool) (s t:SS) (h6:st = 6):HSpec P G 14 [.loc 0 0] (rnH st p g e1 e2 b1 b2 s t) (.int .i64 0) (rnH st p g e1 e2 b1 b2 s t):=by
 subst h6;refine fspec_intro hT (rnH 6 p g e1 e2 b1 b2 s t) (rnH 6 p g e1 e2 b1 b2 s t) 3 3 Tryz.func14 (by decide) rfl rfl (by kernel_rfl) rfl rfl ?_
 refine Tri.seq (Tri.reg hT ?_);refine Tri.seq ?_;refine Tri.seq (Tri.reg hT ?_);refine ⟨_,[],trivial,rfl,rfl,fun h=>⟨rfl,rfl,rfl⟩,?_⟩;refine ⟨_,[],trivial,rfl,rfl,fun h=>⟨h,rfl,rfl,rfl⟩,?_⟩;refine ⟨_,[],trivial,rfl,rfl,fun h=>⟨h,rfl,rfl,rfl⟩,?_⟩;refine ⟨_,[],trivial,rfl,rfl,fun h=>⟨h,rfl,rfl,rfl⟩,?_⟩;refine ⟨_,[],trivial,rfl,rfl,fun h=>⟨h,rfl,rfl,rfl⟩,?_⟩;refine ⟨⟨fun _=>trivial,fun hc=>(gn hc)⟩,?_⟩;refine ⟨_,[],trivial,rfl,rfl,fun h=>⟨rfl,rfl,rfl⟩,?_⟩;refine ⟨_,[],trivial,rfl,rfl,fun h=>⟨h,rfl,rfl,rfl⟩,?_⟩;refine ⟨_,[],trivial,rfl,rfl,fun h=>⟨h,rfl,rfl,rfl⟩,?_⟩;refine ⟨_,[],trivial,rfl,rfl,fun h=>⟨h,rfl,rfl,rfl⟩,?_⟩;refine ⟨_,[],trivial,rfl,rfl,fun h=>⟨h,rfl,rfl,rfl⟩,?_⟩;refine ⟨⟨fun _=>trivial,fun hc=>(gn hc)⟩,?_⟩;refine (Tri.cond ⟨fun h1=>?_,fun h1=>?_⟩)
 ·
  refine Tri.seq (Tri.reg hT ?_);refine Tri.ret ?_;exact ⟨rfl,rfl,rfl,rfl,trivial⟩
 ·
  exact absurd h1 (by simp [iteO])
set_option maxRecDepth 16000 in
theorem f49_n1 (st:Int) (p g:Hf) (e1 e2:Int) (b1 b2:Bool) (a b q k f w u:Int) (o:List optT.D) (x:List UInt8) (ho:o.length < 9223372036854775807):HSpec P G 49 [.loc 0 0,.int .i64 1,tcpV a b q k f w u o x] (rnN st p g e1 e2 b1 b2) (.tup []) (rnN st (begH p q o) g e1 e2 b1 b2):=by
 refine fspec_intro hT (rnN st p g e1 e2 b1 b2) (rnN st (begH p q o) g e1 e2 b1 b2) 1 1 Tryz.func49 (by decide) rfl rfl (by kernel_rfl) rfl rfl ?_;refine Tri.seq (Tri.reg hT ?_);refine Tri.seq (Tri.reg hT ?_);refine .inl (.inr (.inl ⟨_,_,(by exact ⟨rfl,trivial⟩),(CSpec.ofH (u:=ruN st p g e1 e2 b1 b2) (f55_n1 st p g e1 e2 b1 b2)),(by rfl),?_⟩));refine Tri.seq (Tri.reg hT ?_);refine .inl (.inl ⟨_,fun _=>rfl,f56_spec a b q k f w u o x ho,?_⟩);refine Tri.seq (Tri.reg hT ?_);refine Tri.seq (Tri.reg hT ?_);refine (Tri.reg hT ?_);refine .inl (.inr (.inl ⟨_,_,(by exact ⟨rfl,trivial⟩),(CSpec.ofH (u:=ruN st ({ p with isn:=q,stamped:=(stampsA o).2.2 }:Hf) g e1 e2 b1 b2) (f33_n1 st ({ p with isn:=q,stamped:=(stampsA o).2.2 }:Hf) g e1 e2 b1 b2)),(by rfl),?_⟩));exact ⟨rfl,rfl,trivial⟩
set_option maxRecDepth 16000 in
theorem f49_n2 (st:Int) (p g:Hf) (e1 e2:Int) (b1 b2:Bool) (a b q k f w u:Int) (o:List optT.D) (x:List UInt8) (ho:o.length < 9223372036854775807):HSpec P G 49 [.loc 0 0,.int .i64 2,tcpV a b q k f w u o x] (rnN st p g e1 e2 b1 b2) (.tup []) (rnN st p (begH g q o) e1 e2 b1 b2):=by
 refine fspec_intro hT (rnN st p g e1 e2 b1 b2) (rnN st p (begH g q o) e1 e2 b1 b2) 1 1 Tryz.func49 (by decide) rfl rfl (by kernel_rfl) rfl rfl ?_;refine Tri.seq (Tri.reg hT ?_);refine Tri.seq (Tri.reg hT ?_);refine .inl (.inr (.inl ⟨_,_,(by exact ⟨rfl,trivial⟩),(CSpec.ofH (u:=ruN st p g e1 e2 b1 b2) (f55_n2 st p g e1 e2 b1 b2)),(by rfl),?_⟩));refine Tri.seq (Tri.reg hT ?_);refine .inl (.inl ⟨_,fun _=>rfl,f56_spec a b q k f w u o x ho,?_⟩);refine Tri.seq (Tri.reg hT ?_);refine Tri.seq (Tri.reg hT ?_);refine (Tri.reg hT ?_);refine .inl (.inr (.inl ⟨_,_,(by exact ⟨rfl,trivial⟩),(CSpec.ofH (u:=ruN st p ({ g with isn:=q,stamped:=(stampsA o).2.2 }:Hf) e1 e2 b1 b2) (f33_n2 st p ({ g with isn:=q,stamped:=(stampsA o).2.2 }:Hf) e1 e2 b1 b2)),(by rfl),?_⟩));exact ⟨rfl,rfl,trivial⟩
set_option maxRecDepth 16000 in
theorem f49_m1 (st:Int) (p g:Hf) (e1 e2:Int) (b1 b2:Bool) (s t:SS) (a b q k f w u:Int) (o:List optT.D) (x:List UInt8) (ho:o.length < 9223372036854775807):HSpec P G 49 [.loc 0 0,.int .i64 1,tcpV a b q k f w u o x] (rnM st p g e1 e2 b1 b2 s t) (.tup []) (rnM st (begH p q o) g e1 e2 b1 b2 s t):=by
 refine fspec_intro hT (rnM st p g e1 e2 b1 b2 s t) (rnM st (begH p q o) g e1 e2 b1 b2 s t) 3 3 Tryz.func49 (by decide) rfl rfl (by kernel_rfl) rfl rfl ?_;refine Tri.seq (Tri.reg hT ?_);refine Tri.seq (Tri.reg hT ?_);refine .inl (.inr (.inl ⟨_,_,(by exact ⟨rfl,rfl,rfl,trivial⟩),(CSpec.ofH (u:=ruM st p g e1 e2 b1 b2 s t) (f55_m1 st p g e1 e2 b1 b2 s t)),(by rfl),?_⟩));refine Tri.seq (Tri.reg hT ?_);refine .inl (.inl ⟨_,fun _=>rfl,f56_spec a b q k f w u o x ho,?_⟩);refine Tri.seq (Tri.reg hT ?_);refine Tri.seq (Tri.reg hT ?_);refine (Tri.reg hT ?_);refine .inl (.inr (.inl ⟨_,_,(by exact ⟨rfl,rfl,rfl,trivial⟩),(CSpec.ofH (u:=ruM st ({ p with isn:=q,stamped:=(stampsA o).2.2 }:Hf) g e1 e2 b1 b2 s t) (f33_m1 st ({ p with isn:=q,stamped:=(stampsA o).2.2 }:Hf) g e1 e2 b1 b2 s t)),(by rfl),?_⟩));exact ⟨rfl,rfl,rfl,rfl,trivial⟩
theorem f48_n (st:Int) (p g:Hf) (e1 e2:Int) (b1 b2:Bool):HSpec P G 48 [.loc 0 0] (rnN st p g e1 e2 b1 b2) (.tup []) (rnN st p g e1 e2 b1 b2):=by
 refine fspec_intro hT (rnN st p g e1 e2 b1 b2) (rnN st p g e1 e2 b1 b2) 1 1 Tryz.func48 (by decide) rfl rfl (by kernel_rfl) rfl rfl ?_;refine Tri.seq (Tri.reg hT ?_);refine (Tri.reg hT ?_);exact ⟨rfl,rfl,trivial⟩
theorem f48_h (st:Int) (p g:Hf) (e1 e2:Int) (b1 b2:Bool) (s t:SS):HSpec P G 48 [.loc 0 0] (rnH st p g e1 e2 b1 b2 s t) (.tup []) (rnM st p g e1 e2 b1 b2 s t):=by
 refine fspec_intro hT (rnH st p g e1 e2 b1 b2 s t) (rnM st p g e1 e2 b1 b2 s t) 3 3 Tryz.func48 (by decide) rfl rfl (by kernel_rfl) rfl rfl ?_;refine Tri.seq (Tri.reg hT ?_);refine (Tri.reg hT ?_);exact ⟨rfl,rfl,rfl,rfl,trivial⟩
abbrev rnE (i j:Nat) (st:Int) (p g:Hf) (e1 e2:Int) (b1 b2:Bool) (s t:SS):List (Nat × Chunk):=[(0,.box (rfC st p g e1 e2 b1 b2 (.loc i 0) (.loc j 0))),(i,.box (bxR s)),(j,.box (bxR t))]
set_option maxRecDepth 16000 in
theorem f50_n (st:Int) (p g:Hf) (e1 e2:Int) (b1 b2:Bool):HSpec P G 50 [.loc 0 0] (rnN st p g e1 e2 b1 b2) (.tup []) (rnE 19 42 st p g (IntKind.u32.wrap (p.isn + 1)) (IntKind.u32.wrap (g.isn + 1)) false false (nwS p) (nwS g)):=by
 refine fspec_intro hT (rnN st p g e1 e2 b1 b2) (rnE 19 42 st p g (IntKind.u32.wrap (p.isn + 1)) (IntKind.u32.wrap (g.isn + 1)) false false (nwS p) (nwS g)) 1 1 Tryz.func50 (by decide) rfl rfl (by kernel_rfl) rfl rfl ?_;refine Tri.seq (Tri.drw hT hm 23 (by kernel_rfl) ?_);refine .inr (.inr ⟨_,(by exact fun _=>rfl),(f80_half _),?_⟩);refine ⟨by kernel_rfl,?_⟩;refine Tri.seq (Tri.drw hT hm 23 (by kernel_rfl) ?_);refine .inr (.inr ⟨_,(by exact fun _=>rfl),(f80_half _),?_⟩);refine ⟨by kernel_rfl,?_⟩;refine Tri.seq (Tri.reg hT ?_);refine Tri.seq (Tri.reg hT ?_);refine Tri.seq (Tri.reg hT ?_);refine (Tri.reg hT ?_);exact ⟨rfl,rfl,rfl,rfl,trivial⟩
end Go.Proofs.YtchiagnggnblaaaGreatDoor.Ac
