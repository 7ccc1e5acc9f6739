import Derived.Test.YtchiagnggnblaaaGreatDoorSgG
import Derived.Test.YtchiagnggnblaaaGreatDoorGFw11
set_option linter.all false
namespace Go.Proofs.YtchiagnggnblaaaGreatDoor.Ac
open Go Go.Fw Go.Ov Go.Proofs.YtchiagnggnblaaaGreatDoor.Fx
theorem iteA (a b:Bool):(if a = true then b else false) = (a && b):=by cases a <;> rfl
theorem iteO (a b:Bool):(if a = true then true else b) = (a || b):=by cases a <;> rfl
def synB (f:Int):Bool:=decide (bitop .i64 .and f 2≠0)
def ackB (f:Int):Bool:=decide (bitop .i64 .and f 16≠0)
def rstZ (f:Int):Bool:=decide (bitop .i64 .and f 4 = 0)
def c1 (f st:Int):Bool:=synB f && !ackB f && decide (st≠2)
def c2 (f st:Int):Bool:=synB f && ackB f && (decide (st = 1) || decide (st = 2))
def c3 (f st:Int):Bool:=!synB f && rstZ f && decide (st = 2)
def opensB (st:Int) (p g:Hf) (q k f:Int) (o:List optT.D) (x:List UInt8):Bool:=flags f && c3 f st && decide (esR p g q k f o x = 0)
def sgN1 (st:Int) (p g:Hf) (q k f:Int) (o:List optT.D) (x:List UInt8):List Evt × Int × Hf:=
 if (!flags f) = true then ([(7,1,0,3,[],())],st,p)
 else if c1 f st = true then ([],1,begH p q o)
 else if c3 f st = true then ([(7,1,0,esR p g q k f o x,[],())],st,p)
 else ([(7,1,0,7,[],())],st,p)
def sgN2 (st:Int) (p g:Hf) (q k f:Int) (o:List optT.D):List Evt × Int × Hf:=
 if (!flags f) = true then ([(7,2,0,3,[],())],st,g)
 else if c2 f st = true then (if k≠IntKind.u32.wrap (p.isn + 1) then ([(7,2,0,4,[],())],st,g) else ([],2,begH g q o))
 else ([(7,2,0,7,[],())],st,g)
def sgH (d e st:Int) (p g:Hf) (s t:SS) (q k f:Int) (o:List optT.D) (x:List UInt8):List Evt × Int × Hf × SS × SS:=
 if (!flags f) = true then ([(7,d,s.pos,3,[],())],st,p,s,t) else prM d e st p g s t q k f o x
theorem op_parts {st:Int} {p g:Hf} {q k f:Int} {o:List optT.D} {x:List UInt8} (h:opensB st p g q k f o x = true):flags f = true∧c3 f st = true∧esR p g q k f o x = 0:=by
 unfold opensB at h
 simp only [Bool.and_eq_true,decide_eq_true_eq] at h;exact ⟨h.1.1,h.1.2,h.2⟩
theorem f24_hf (st:Int) (p g:Hf) (s t:SS) (ho:opB st = false):HSpec P G 24 [.loc 0 0] (cnH st p g s t) (.bool false) (cnH st p g s t):=by
 have:=f24_h st p g s t;rw [show (decide (st = 3) || decide (st = 4)) = false from ho] at this;exact this
theorem f24_ht (st:Int) (p g:Hf) (s t:SS) (ho:opB st = true):HSpec P G 24 [.loc 0 0] (cnH st p g s t) (.bool true) (cnH st p g s t):=by
 have:=f24_h st p g s t;rw [show (decide (st = 3) || decide (st = 4)) = true from ho] at this;exact this
set_option maxRecDepth 16000 in
theorem f8_n1 (st:Int) (p g:Hf) (a b q k f w u:Int) (o:List optT.D) (x:List UInt8) (ho:o.length < 9223372036854775807) (hx:x.length≤1000000) (hop:opB st = false) (hno:opensB st p g q k f o x = false) :
  HSpec P G 8 [.loc 0 0,.int .i64 1,tcpV a b q k f w u o x] (cnN st p g) (.list evT (sgN1 st p g q k f o x).1) (cnN (sgN1 st p g q k f o x).2.1 (sgN1 st p g q k f o x).2.2 g):=by
 generalize hz:sgN1 st p g q k f o x = z;refine fspec_intro hT (cnN st p g) (cnN z.2.1 z.2.2 g) 1 1 Tryz.func8 (by decide) rfl rfl (by kernel_rfl) rfl rfl ?_
 refine Tri.seq (Tri.reg hT ?_);refine Tri.seq ?_;refine Tri.seq (Tri.reg hT ?_);refine ⟨_,[],trivial,rfl,rfl,fun h=>⟨rfl,rfl,rfl⟩,?_⟩;refine ⟨_,[],trivial,rfl,rfl,fun h=>⟨h,(.inl ⟨_,fun _=>rfl,f21_spec 1,rfl,rfl,rfl⟩)⟩,?_⟩;refine ⟨_,[],trivial,rfl,rfl,fun h=>⟨h,rfl,rfl,rfl⟩,?_⟩;refine ⟨⟨fun _=>trivial,fun hc=>(gn hc)⟩,?_⟩;refine (Tri.cond ⟨fun h1=>?_,fun h1=>?_⟩)
 ·
  exact absurd h1 (by decide)
 ·
  refine (Tri.skip ?_);refine Tri.seq ?_;refine Tri.seq (Tri.reg hT ?_);refine .inl (.inl ⟨_,fun _=>rfl,f22_spec f,?_⟩);refine (Tri.cond ⟨fun h2=>?_,fun h2=>?_⟩)
  ·
   refine Tri.seq (Tri.reg hT ?_);refine .inl (.inr (.inl ⟨_,_,(by exact ⟨rfl,trivial⟩),(CSpec.ofH (u:=[(0,cnC st p g .nilp .nilp,none)]) (f23_n1 st p g 3)),(by rfl),?_⟩));refine Tri.ret ?_;have e:=(if_pos h2).symm.trans hz;exact ⟨congrArg (fun z:List Evt × Int × Hf=>AV.list evT z.1) e,congrArg (fun z:List Evt × Int × Hf=>some (Chunk.box (cnC z.2.1 z.2.2 g .nilp .nilp))) e,trivial⟩
  ·
   refine (Tri.skip ?_);refine Tri.seq ?_;refine Tri.seq (Tri.reg hT ?_);refine .inl (.inr (.inl ⟨_,_,(by exact ⟨rfl,trivial⟩),(CSpec.ofH (u:=[(0,cnC st p g .nilp .nilp,none)]) (f24_nf st p g hop)),(by rfl),?_⟩));refine (Tri.cond ⟨fun h3=>?_,fun h3=>?_⟩)
   ·
    cases h3
   ·
    refine (Tri.skip ?_);refine Tri.seq (Tri.drw hT hm 9 (by kernel_rfl) ?_);refine ⟨by kernel_rfl,?_⟩;refine Tri.seq (Tri.block ?_);refine Tri.seq (Tri.reg hT ?_);refine ⟨_,[],trivial,rfl,rfl,fun h=>⟨rfl,rfl,rfl⟩,?_⟩;refine ⟨_,[],trivial,rfl,rfl,fun h=>⟨h,rfl,rfl,rfl⟩,?_⟩;refine ⟨⟨fun hc=>hc,fun _=>trivial⟩,?_⟩;refine ⟨_,[],trivial,rfl,rfl,fun h=>⟨rfl,rfl,rfl⟩,?_⟩;refine ⟨_,[],trivial,rfl,rfl,fun h=>⟨h,rfl,rfl,rfl⟩,?_⟩;refine ⟨⟨fun hc=>hc,fun _=>trivial⟩,?_⟩;refine ⟨_,[],trivial,rfl,rfl,fun h=>⟨rfl,rfl,rfl⟩,?_⟩;refine ⟨_,[],trivial,rfl,rfl,fun h=>⟨h,rfl,rfl,rfl⟩,?_⟩;refine ⟨_,[],trivial,rfl,rfl,fun h=>⟨h,rfl,rfl,rfl⟩,?_⟩;refine ⟨_,[],trivial,rfl,rfl,fun h=>⟨h,rfl,rfl,rfl⟩,?_⟩;refine ⟨_,[],trivial,rfl,rfl,fun h=>⟨h,rfl,rfl,rfl⟩,?_⟩;refine ⟨⟨fun hc=>hc,fun _=>trivial⟩,?_⟩;refine (Tri.cond ⟨fun h4=>?_,fun h4=>?_⟩)
    ·
     refine Tri.seq (Tri.reg hT ?_);refine .inl (.inr (.inl ⟨_,_,(by exact ⟨rfl,trivial⟩),(CSpec.ofH (u:=[(0,cnC st p g .nilp .nilp,some (cnC st (begH p q o) g .nilp .nilp))]) (f26_n1 st p g a b q f w u k o x ho)),(by rfl),?_⟩));refine Tri.seq (Tri.reg hT ?_);refine ⟨(by first|((try simp only [decide_eq_true_eq,decide_eq_false_iff_not,toNat_cast] at *);omega)|decide),?_⟩;refine Tri.seq (Tri.reg hT ?_);refine Tri.seq (Tri.reg hT ?_);refine Tri.le _ (Le.own 6 evT rfl) ?_;refine Tri.le _ (Le.freeze 6 _ 0 rfl rfl (Nat.le_refl 0)) ?_
     refine Tri.ret ?_;have h4':c1 f st = true:=(by simp only [iteA] at h4;simpa [c1,synB,ackB] using h4);have e:=((if_neg (by rw [h2];decide)).trans (if_pos h4')).symm.trans hz;exact ⟨congrArg (fun z:List Evt × Int × Hf=>AV.list evT z.1) e,congrArg (fun z:List Evt × Int × Hf=>some (Chunk.box (cnC z.2.1 z.2.2 g .nilp .nilp))) e,trivial⟩
    ·
     refine Tri.seq (Tri.reg hT ?_);refine ⟨_,[],trivial,rfl,rfl,fun h=>⟨rfl,rfl,rfl⟩,?_⟩;refine ⟨⟨fun hc=>hc,fun _=>trivial⟩,?_⟩;refine ⟨_,[],trivial,rfl,rfl,fun h=>⟨rfl,rfl,rfl⟩,?_⟩;refine ⟨_,[],trivial,rfl,rfl,fun h=>⟨h,rfl,rfl,rfl⟩,?_⟩;refine ⟨⟨fun hc=>hc,fun _=>trivial⟩,?_⟩;refine ⟨_,[],trivial,rfl,rfl,fun h=>⟨rfl,rfl,rfl⟩,?_⟩;refine ⟨_,[],trivial,rfl,rfl,fun h=>⟨h,rfl,rfl,rfl⟩,?_⟩;refine ⟨_,[],trivial,rfl,rfl,fun h=>⟨h,rfl,rfl,rfl⟩,?_⟩;refine ⟨_,[],trivial,rfl,rfl,fun h=>⟨h,rfl,rfl,rfl⟩,?_⟩;refine ⟨_,[],trivial,rfl,rfl,fun h=>⟨h,rfl,rfl,rfl⟩,?_⟩;refine ⟨_,[],trivial,rfl,rfl,fun h=>⟨h,rfl,rfl,rfl⟩,?_⟩;refine ⟨_,[],trivial,rfl,rfl,fun h=>⟨rfl,rfl,rfl⟩,?_⟩;refine ⟨_,[],trivial,rfl,rfl,fun h=>⟨h,rfl,rfl,rfl⟩,?_⟩;refine ⟨_,[],trivial,rfl,rfl,fun h=>⟨h,rfl,rfl,rfl⟩,?_⟩;refine ⟨_,[],trivial,rfl,rfl,fun h=>⟨h,rfl,rfl,rfl⟩,?_⟩;refine ⟨_,[],trivial,rfl,rfl,fun h=>⟨h,rfl,rfl,rfl⟩,?_⟩;refine ⟨_,[],trivial,rfl,rfl,fun h=>⟨h,⟨fun _=>trivial,fun hc=>ga h (gn hc)⟩,rfl,rfl,rfl⟩,?_⟩;refine ⟨⟨fun hc=>hc,fun _=>trivial⟩,?_⟩;refine (Tri.cond ⟨fun h5=>?_,fun h5=>?_⟩)
     ·
      exact absurd h5 (by simp [iteA])
     ·
      refine Tri.seq (Tri.reg hT ?_);refine ⟨_,[],trivial,rfl,rfl,fun h=>⟨rfl,rfl,rfl⟩,?_⟩;refine ⟨_,[],trivial,rfl,rfl,fun h=>⟨h,rfl,rfl,rfl⟩,?_⟩;refine ⟨_,[],trivial,rfl,rfl,fun h=>⟨h,rfl,rfl,rfl⟩,?_⟩;refine ⟨_,[],trivial,rfl,rfl,fun h=>⟨h,rfl,rfl,rfl⟩,?_⟩;refine ⟨⟨fun hc=>hc,fun _=>trivial⟩,?_⟩;refine ⟨_,[],trivial,rfl,rfl,fun h=>⟨rfl,rfl,rfl⟩,?_⟩;refine ⟨_,[],trivial,rfl,rfl,fun h=>⟨h,rfl,rfl,rfl⟩,?_⟩;refine ⟨⟨fun hc=>hc,fun _=>trivial⟩,?_⟩;refine ⟨_,[],trivial,rfl,rfl,fun h=>⟨rfl,rfl,rfl⟩,?_⟩;refine ⟨_,[],trivial,rfl,rfl,fun h=>⟨h,rfl,rfl,rfl⟩,?_⟩;refine ⟨_,[],trivial,rfl,rfl,fun h=>⟨h,rfl,rfl,rfl⟩,?_⟩;refine ⟨_,[],trivial,rfl,rfl,fun h=>⟨h,rfl,rfl,rfl⟩,?_⟩;refine ⟨_,[],trivial,rfl,rfl,fun h=>⟨h,rfl,rfl,rfl⟩,?_⟩;refine ⟨⟨fun hc=>hc,fun _=>trivial⟩,?_⟩;refine (Tri.cond ⟨fun h6=>?_,fun h6=>?_⟩)
      ·
       have h4':c1 f st = false:=(by simp only [iteA] at h4;simpa [c1,synB,ackB] using h4);have h6':c3 f st = true:=(by simp only [iteA] at h6;simpa [c3,synB,rstZ] using h6);have hne:esR p g q k f o x≠0:=(fun e0=>by unfold opensB at hno;rw [h6',show flags f = true by simpa using h2,decide_eq_true e0] at hno;cases hno)
       refine Tri.seq (Tri.reg hT ?_);refine .inl (.inr (.inl ⟨_,_,(by exact ⟨rfl,trivial⟩),(CSpec.ofH (u:=[(0,cnC st p g .nilp .nilp,none)]) (f27_r st p g a b q k f w u o x ho hx hne)),(by rfl),?_⟩));refine Tri.ret ?_;have e:=((if_neg (by rw [h2];decide)).trans ((if_neg (by rw [h4'];decide)).trans (if_pos h6'))).symm.trans hz;exact ⟨congrArg (fun z:List Evt × Int × Hf=>AV.list evT z.1) e,congrArg (fun z:List Evt × Int × Hf=>some (Chunk.box (cnC z.2.1 z.2.2 g .nilp .nilp))) e,trivial⟩
      ·
       refine (Tri.skip ?_);refine Tri.seq (Tri.reg hT ?_);refine .inl (.inr (.inl ⟨_,_,(by exact ⟨rfl,trivial⟩),(CSpec.ofH (u:=[(0,cnC st p g .nilp .nilp,none)]) (f23_n1 st p g 7)),(by rfl),?_⟩));refine Tri.ret ?_;have h4':c1 f st = false:=(by simp only [iteA] at h4;simpa [c1,synB,ackB] using h4);have h6':c3 f st = false:=(by simp only [iteA] at h6;simpa [c3,synB,rstZ] using h6);have e:=((if_neg (by rw [h2];decide)).trans ((if_neg (by rw [h4'];decide)).trans (if_neg (by rw [h6'];decide)))).symm.trans hz;exact ⟨congrArg (fun z:List Evt × Int × Hf=>AV.list evT z.1) e,congrArg (fun z:List Evt × Int × Hf=>some (Chunk.box (cnC z.2.1 z.2.2 g .nilp .nilp))) e,trivial⟩
set_option maxRecDepth 16000 in
theorem f8_n2 (st:Int) (p g:Hf) (a b q k f w u:Int) (o:List optT.D) (x:List UInt8) (ho:o.length < 9223372036854775807) (hx:x.length≤1000000) (hop:opB st = false) :
  HSpec P G 8 [.loc 0 0,.int .i64 2,tcpV a b q k f w u o x] (cnN st p g) (.list evT (sgN2 st p g q k f o).1) (cnN (sgN2 st p g q k f o).2.1 p (sgN2 st p g q k f o).2.2):=by
 generalize hz:sgN2 st p g q k f o = z;refine fspec_intro hT (cnN st p g) (cnN z.2.1 p z.2.2) 1 1 Tryz.func8 (by decide) rfl rfl (by kernel_rfl) rfl rfl ?_
 refine Tri.seq (Tri.reg hT ?_);refine Tri.seq ?_;refine Tri.seq (Tri.reg hT ?_);refine ⟨_,[],trivial,rfl,rfl,fun h=>⟨rfl,rfl,rfl⟩,?_⟩;refine ⟨_,[],trivial,rfl,rfl,fun h=>⟨h,(.inl ⟨_,fun _=>rfl,f21_spec 2,rfl,rfl,rfl⟩)⟩,?_⟩;refine ⟨_,[],trivial,rfl,rfl,fun h=>⟨h,rfl,rfl,rfl⟩,?_⟩;refine ⟨⟨fun _=>trivial,fun hc=>(gn hc)⟩,?_⟩;refine (Tri.cond ⟨fun h1=>?_,fun h1=>?_⟩)
 ·
  exact absurd h1 (by decide)
 ·
  refine (Tri.skip ?_);refine Tri.seq ?_;refine Tri.seq (Tri.reg hT ?_);refine .inl (.inl ⟨_,fun _=>rfl,f22_spec f,?_⟩);refine (Tri.cond ⟨fun h2=>?_,fun h2=>?_⟩)
  ·
   refine Tri.seq (Tri.reg hT ?_);refine .inl (.inr (.inl ⟨_,_,(by exact ⟨rfl,trivial⟩),(CSpec.ofH (u:=[(0,cnC st p g .nilp .nilp,none)]) (f23_n2 st p g 3)),(by rfl),?_⟩));refine Tri.ret ?_;have e:=(if_pos h2).symm.trans hz;exact ⟨congrArg (fun z:List Evt × Int × Hf=>AV.list evT z.1) e,congrArg (fun z:List Evt × Int × Hf=>some (Chunk.box (cnC z.2.1 p z.2.2 .nilp .nilp))) e,trivial⟩
  ·
   refine (Tri.skip ?_);refine Tri.seq ?_;refine Tri.seq (Tri.reg hT ?_);refine .inl (.inr (.inl ⟨_,_,(by exact ⟨rfl,trivial⟩),(CSpec.ofH (u:=[(0,cnC st p g .nilp .nilp,none)]) (f24_nf st p g hop)),(by rfl),?_⟩));refine (Tri.cond ⟨fun h3=>?_,fun h3=>?_⟩)
   ·
    cases h3
   ·
    refine (Tri.skip ?_);refine Tri.seq (Tri.drw hT hm 9 (by kernel_rfl) ?_);refine ⟨by kernel_rfl,?_⟩;refine Tri.seq (Tri.block ?_);refine Tri.seq (Tri.reg hT ?_);refine ⟨_,[],trivial,rfl,rfl,fun h=>⟨rfl,rfl,rfl⟩,?_⟩;refine ⟨_,[],trivial,rfl,rfl,fun h=>⟨h,rfl,rfl,rfl⟩,?_⟩;refine ⟨⟨fun hc=>hc,fun _=>trivial⟩,?_⟩;refine ⟨_,[],trivial,rfl,rfl,fun h=>⟨rfl,rfl,rfl⟩,?_⟩;refine ⟨_,[],trivial,rfl,rfl,fun h=>⟨h,rfl,rfl,rfl⟩,?_⟩;refine ⟨⟨fun hc=>hc,fun _=>trivial⟩,?_⟩;refine ⟨_,[],trivial,rfl,rfl,fun h=>⟨rfl,rfl,rfl⟩,?_⟩;refine ⟨_,[],trivial,rfl,rfl,fun h=>⟨h,rfl,rfl,rfl⟩,?_⟩;refine ⟨_,[],trivial,rfl,rfl,fun h=>⟨h,rfl,rfl,rfl⟩,?_⟩;refine ⟨_,[],trivial,rfl,rfl,fun h=>⟨h,rfl,rfl,rfl⟩,?_⟩;refine ⟨_,[],trivial,rfl,rfl,fun h=>⟨h,rfl,rfl,rfl⟩,?_⟩;refine ⟨⟨fun hc=>hc,fun _=>trivial⟩,?_⟩;refine (Tri.cond ⟨fun h4=>?_,fun h4=>?_⟩)
    ·
     exact absurd h4 (by simp [iteA])
    ·
     refine Tri.seq (Tri.reg hT ?_);refine ⟨_,[],trivial,rfl,rfl,fun h=>⟨rfl,rfl,rfl⟩,?_⟩;refine ⟨⟨fun hc=>hc,fun _=>trivial⟩,?_⟩;refine ⟨_,[],trivial,rfl,rfl,fun h=>⟨rfl,rfl,rfl⟩,?_⟩;refine ⟨_,[],trivial,rfl,rfl,fun h=>⟨h,rfl,rfl,rfl⟩,?_⟩;refine ⟨⟨fun hc=>hc,fun _=>trivial⟩,?_⟩;refine ⟨_,[],trivial,rfl,rfl,fun h=>⟨rfl,rfl,rfl⟩,?_⟩;refine ⟨_,[],trivial,rfl,rfl,fun h=>⟨h,rfl,rfl,rfl⟩,?_⟩;refine ⟨_,[],trivial,rfl,rfl,fun h=>⟨h,rfl,rfl,rfl⟩,?_⟩;refine ⟨_,[],trivial,rfl,rfl,fun h=>⟨h,rfl,rfl,rfl⟩,?_⟩;refine ⟨_,[],trivial,rfl,rfl,fun h=>⟨h,rfl,rfl,rfl⟩,?_⟩;refine ⟨_,[],trivial,rfl,rfl,fun h=>⟨h,rfl,rfl,rfl⟩,?_⟩;refine ⟨_,[],trivial,rfl,rfl,fun h=>⟨rfl,rfl,rfl⟩,?_⟩;refine ⟨_,[],trivial,rfl,rfl,fun h=>⟨h,rfl,rfl,rfl⟩,?_⟩;refine ⟨_,[],trivial,rfl,rfl,fun h=>⟨h,rfl,rfl,rfl⟩,?_⟩;refine ⟨_,[],trivial,rfl,rfl,fun h=>⟨h,rfl,rfl,rfl⟩,?_⟩;refine ⟨_,[],trivial,rfl,rfl,fun h=>⟨h,rfl,rfl,rfl⟩,?_⟩;refine ⟨_,[],trivial,rfl,rfl,fun h=>⟨h,⟨fun _=>trivial,fun hc=>ga h (gn hc)⟩,rfl,rfl,rfl⟩,?_⟩;refine ⟨⟨fun hc=>hc,fun _=>trivial⟩,?_⟩;refine (Tri.cond ⟨fun h5=>?_,fun h5=>?_⟩)
     ·
      refine Tri.seq ?_;refine Tri.seq (Tri.drw hT hm 10 (by kernel_rfl) ?_);refine ⟨(by first|((try simp only [decide_eq_true_eq,decide_eq_false_iff_not,toNat_cast] at *);omega)|decide),?_⟩;refine ⟨by kernel_rfl,?_⟩;refine (Tri.cond ⟨fun h6=>?_,fun h6=>?_⟩)
      ·
       refine Tri.seq (Tri.reg hT ?_);refine .inl (.inr (.inl ⟨_,_,(by exact ⟨rfl,trivial⟩),(CSpec.ofH (u:=[(0,cnC st p g .nilp .nilp,none)]) (f23_n2 st p g 4)),(by rfl),?_⟩));refine Tri.ret ?_;have h5':c2 f st = true:=(by simp only [iteA,iteO] at h5;simpa [c2,synB,ackB] using h5);have e:=((if_neg (by rw [h2];decide)).trans ((if_pos h5').trans (if_pos (of_decide_eq_true h6)))).symm.trans hz;exact ⟨congrArg (fun z:List Evt × Int × Hf=>AV.list evT z.1) e,congrArg (fun z:List Evt × Int × Hf=>some (Chunk.box (cnC z.2.1 p z.2.2 .nilp .nilp))) e,trivial⟩
      ·
       refine (Tri.skip ?_);refine Tri.seq (Tri.reg hT ?_);refine .inl (.inr (.inl ⟨_,_,(by exact ⟨rfl,trivial⟩),(CSpec.ofH (u:=[(0,cnC st p g .nilp .nilp,some (cnC st p (begH g q o) .nilp .nilp))]) (f26_n2 st p g a b q f w u k o x ho)),(by rfl),?_⟩));refine Tri.seq (Tri.reg hT ?_);refine Tri.seq (Tri.reg hT ?_);refine Tri.le _ (Le.own 6 evT rfl) ?_;refine Tri.le _ (Le.freeze 6 _ 0 rfl rfl (Nat.le_refl 0)) ?_
       refine Tri.ret ?_;have h5':c2 f st = true:=(by simp only [iteA,iteO] at h5;simpa [c2,synB,ackB] using h5);have e:=((if_neg (by rw [h2];decide)).trans ((if_pos h5').trans (if_neg (of_decide_eq_false h6)))).symm.trans hz;exact ⟨congrArg (fun z:List Evt × Int × Hf=>AV.list evT z.1) e,congrArg (fun z:List Evt × Int × Hf=>some (Chunk.box (cnC z.2.1 p z.2.2 .nilp .nilp))) e,trivial⟩
     ·
      refine Tri.seq (Tri.reg hT ?_);refine ⟨_,[],trivial,rfl,rfl,fun h=>⟨rfl,rfl,rfl⟩,?_⟩;refine ⟨_,[],trivial,rfl,rfl,fun h=>⟨h,rfl,rfl,rfl⟩,?_⟩;refine ⟨_,[],trivial,rfl,rfl,fun h=>⟨h,rfl,rfl,rfl⟩,?_⟩;refine ⟨_,[],trivial,rfl,rfl,fun h=>⟨h,rfl,rfl,rfl⟩,?_⟩;refine ⟨⟨fun hc=>hc,fun _=>trivial⟩,?_⟩;refine ⟨_,[],trivial,rfl,rfl,fun h=>⟨rfl,rfl,rfl⟩,?_⟩;refine ⟨_,[],trivial,rfl,rfl,fun h=>⟨h,rfl,rfl,rfl⟩,?_⟩;refine ⟨⟨fun hc=>hc,fun _=>trivial⟩,?_⟩;refine ⟨_,[],trivial,rfl,rfl,fun h=>⟨rfl,rfl,rfl⟩,?_⟩;refine ⟨_,[],trivial,rfl,rfl,fun h=>⟨h,rfl,rfl,rfl⟩,?_⟩;refine ⟨_,[],trivial,rfl,rfl,fun h=>⟨h,rfl,rfl,rfl⟩,?_⟩;refine ⟨_,[],trivial,rfl,rfl,fun h=>⟨h,rfl,rfl,rfl⟩,?_⟩;refine ⟨_,[],trivial,rfl,rfl,fun h=>⟨h,rfl,rfl,rfl⟩,?_⟩;refine ⟨⟨fun hc=>hc,fun _=>trivial⟩,?_⟩;refine (Tri.cond ⟨fun h7=>?_,fun h7=>?_⟩)
      ·
       exact absurd h7 (by simp [iteA])
      ·
       refine (Tri.skip ?_);refine Tri.seq (Tri.reg hT ?_);refine .inl (.inr (.inl ⟨_,_,(by exact ⟨rfl,trivial⟩),(CSpec.ofH (u:=[(0,cnC st p g .nilp .nilp,none)]) (f23_n2 st p g 7)),(by rfl),?_⟩));refine Tri.ret ?_;have h5':c2 f st = false:=(by simp only [iteA,iteO] at h5;simpa [c2,synB,ackB] using h5);have e:=((if_neg (by rw [h2];decide)).trans (if_neg (by rw [h5'];decide))).symm.trans hz;exact ⟨congrArg (fun z:List Evt × Int × Hf=>AV.list evT z.1) e,congrArg (fun z:List Evt × Int × Hf=>some (Chunk.box (cnC z.2.1 p z.2.2 .nilp .nilp))) e,trivial⟩
set_option maxRecDepth 16000 in
theorem f8_a (st:Int) (p g:Hf) (a b q k f w u:Int) (o:List optT.D) (x:List UInt8) (ho:o.length < 9223372036854775807) (hx:x.length≤1000000) (hop:opB st = false) (hyes:opensB st p g q k f o x = true) :
  HSpec P G 8 [.loc 0 0,.int .i64 1,tcpV a b q k f w u o x] (cnN st p g) (.list evT ((1,1,0,0,[],()) :: tkE 1 2 (nwS p) (nwS g) q k f x)) (esZ 300 301 st p g q k f o x):=by
 refine fspec_intro hT (cnN st p g) (esZ 300 301 st p g q k f o x) 1 1 Tryz.func8 (by decide) rfl rfl (by kernel_rfl) rfl rfl ?_;refine Tri.seq (Tri.reg hT ?_);refine Tri.seq ?_;refine Tri.seq (Tri.reg hT ?_);refine ⟨_,[],trivial,rfl,rfl,fun h=>⟨rfl,rfl,rfl⟩,?_⟩;refine ⟨_,[],trivial,rfl,rfl,fun h=>⟨h,(.inl ⟨_,fun _=>rfl,f21_spec 1,rfl,rfl,rfl⟩)⟩,?_⟩;refine ⟨_,[],trivial,rfl,rfl,fun h=>⟨h,rfl,rfl,rfl⟩,?_⟩;refine ⟨⟨fun _=>trivial,fun hc=>(gn hc)⟩,?_⟩;refine (Tri.cond ⟨fun h1=>?_,fun h1=>?_⟩)
 ·
  exact absurd h1 (by decide)
 ·
  refine (Tri.skip ?_);refine Tri.seq ?_;refine Tri.seq (Tri.reg hT ?_);refine .inl (.inl ⟨_,fun _=>rfl,f22_spec f,?_⟩);refine (Tri.cond ⟨fun h2=>?_,fun h2=>?_⟩)
  ·
   exact absurd h2 (by rw [(op_parts hyes).1];decide)
  ·
   refine (Tri.skip ?_);refine Tri.seq ?_;refine Tri.seq (Tri.reg hT ?_);refine .inl (.inr (.inl ⟨_,_,(by exact ⟨rfl,trivial⟩),(CSpec.ofH (u:=[(0,cnC st p g .nilp .nilp,none)]) (f24_nf st p g hop)),(by rfl),?_⟩));refine (Tri.cond ⟨fun h3=>?_,fun h3=>?_⟩)
   ·
    cases h3
   ·
    refine (Tri.skip ?_);refine Tri.seq (Tri.drw hT hm 9 (by kernel_rfl) ?_);refine ⟨by kernel_rfl,?_⟩;refine Tri.seq (Tri.block ?_);refine Tri.seq (Tri.reg hT ?_);refine ⟨_,[],trivial,rfl,rfl,fun h=>⟨rfl,rfl,rfl⟩,?_⟩;refine ⟨_,[],trivial,rfl,rfl,fun h=>⟨h,rfl,rfl,rfl⟩,?_⟩;refine ⟨⟨fun hc=>hc,fun _=>trivial⟩,?_⟩;refine ⟨_,[],trivial,rfl,rfl,fun h=>⟨rfl,rfl,rfl⟩,?_⟩;refine ⟨_,[],trivial,rfl,rfl,fun h=>⟨h,rfl,rfl,rfl⟩,?_⟩;refine ⟨⟨fun hc=>hc,fun _=>trivial⟩,?_⟩;refine ⟨_,[],trivial,rfl,rfl,fun h=>⟨rfl,rfl,rfl⟩,?_⟩;refine ⟨_,[],trivial,rfl,rfl,fun h=>⟨h,rfl,rfl,rfl⟩,?_⟩;refine ⟨_,[],trivial,rfl,rfl,fun h=>⟨h,rfl,rfl,rfl⟩,?_⟩;refine ⟨_,[],trivial,rfl,rfl,fun h=>⟨h,rfl,rfl,rfl⟩,?_⟩;refine ⟨_,[],trivial,rfl,rfl,fun h=>⟨h,rfl,rfl,rfl⟩,?_⟩;refine ⟨⟨fun hc=>hc,fun _=>trivial⟩,?_⟩;refine (Tri.cond ⟨fun h4=>?_,fun h4=>?_⟩)
    ·
     exact absurd h4 (by have:=(op_parts hyes).2.1;simp only [iteA];unfold c3 synB at this;simp_all)
    ·
     refine Tri.seq (Tri.reg hT ?_);refine ⟨_,[],trivial,rfl,rfl,fun h=>⟨rfl,rfl,rfl⟩,?_⟩;refine ⟨⟨fun hc=>hc,fun _=>trivial⟩,?_⟩;refine ⟨_,[],trivial,rfl,rfl,fun h=>⟨rfl,rfl,rfl⟩,?_⟩;refine ⟨_,[],trivial,rfl,rfl,fun h=>⟨h,rfl,rfl,rfl⟩,?_⟩;refine ⟨⟨fun hc=>hc,fun _=>trivial⟩,?_⟩;refine ⟨_,[],trivial,rfl,rfl,fun h=>⟨rfl,rfl,rfl⟩,?_⟩;refine ⟨_,[],trivial,rfl,rfl,fun h=>⟨h,rfl,rfl,rfl⟩,?_⟩;refine ⟨_,[],trivial,rfl,rfl,fun h=>⟨h,rfl,rfl,rfl⟩,?_⟩;refine ⟨_,[],trivial,rfl,rfl,fun h=>⟨h,rfl,rfl,rfl⟩,?_⟩;refine ⟨_,[],trivial,rfl,rfl,fun h=>⟨h,rfl,rfl,rfl⟩,?_⟩;refine ⟨_,[],trivial,rfl,rfl,fun h=>⟨h,rfl,rfl,rfl⟩,?_⟩;refine ⟨_,[],trivial,rfl,rfl,fun h=>⟨rfl,rfl,rfl⟩,?_⟩;refine ⟨_,[],trivial,rfl,rfl,fun h=>⟨h,rfl,rfl,rfl⟩,?_⟩;refine ⟨_,[],trivial,rfl,rfl,fun h=>⟨h,rfl,rfl,rfl⟩,?_⟩;refine ⟨_,[],trivial,rfl,rfl,fun h=>⟨h,rfl,rfl,rfl⟩,?_⟩;refine ⟨_,[],trivial,rfl,rfl,fun h=>⟨h,rfl,rfl,rfl⟩,?_⟩;refine ⟨_,[],trivial,rfl,rfl,fun h=>⟨h,⟨fun _=>trivial,fun hc=>ga h (gn hc)⟩,rfl,rfl,rfl⟩,?_⟩;refine ⟨⟨fun hc=>hc,fun _=>trivial⟩,?_⟩;refine (Tri.cond ⟨fun h5=>?_,fun h5=>?_⟩)
     ·
      exact absurd h5 (by simp [iteA])
     ·
      refine Tri.seq (Tri.reg hT ?_);refine ⟨_,[],trivial,rfl,rfl,fun h=>⟨rfl,rfl,rfl⟩,?_⟩;refine ⟨_,[],trivial,rfl,rfl,fun h=>⟨h,rfl,rfl,rfl⟩,?_⟩;refine ⟨_,[],trivial,rfl,rfl,fun h=>⟨h,rfl,rfl,rfl⟩,?_⟩;refine ⟨_,[],trivial,rfl,rfl,fun h=>⟨h,rfl,rfl,rfl⟩,?_⟩;refine ⟨⟨fun hc=>hc,fun _=>trivial⟩,?_⟩;refine ⟨_,[],trivial,rfl,rfl,fun h=>⟨rfl,rfl,rfl⟩,?_⟩;refine ⟨_,[],trivial,rfl,rfl,fun h=>⟨h,rfl,rfl,rfl⟩,?_⟩;refine ⟨⟨fun hc=>hc,fun _=>trivial⟩,?_⟩;refine ⟨_,[],trivial,rfl,rfl,fun h=>⟨rfl,rfl,rfl⟩,?_⟩;refine ⟨_,[],trivial,rfl,rfl,fun h=>⟨h,rfl,rfl,rfl⟩,?_⟩;refine ⟨_,[],trivial,rfl,rfl,fun h=>⟨h,rfl,rfl,rfl⟩,?_⟩;refine ⟨_,[],trivial,rfl,rfl,fun h=>⟨h,rfl,rfl,rfl⟩,?_⟩;refine ⟨_,[],trivial,rfl,rfl,fun h=>⟨h,rfl,rfl,rfl⟩,?_⟩;refine ⟨⟨fun hc=>hc,fun _=>trivial⟩,?_⟩;refine (Tri.cond ⟨fun h6=>?_,fun h6=>?_⟩)
      ·
       refine Tri.seq (Tri.regM hT [2] ?_);refine ⟨_,Le.refl _,.inl (.inr (OpTri.hcall 400 rfl rfl rfl (HSpec.at2 (f27_a st p g a b q k f w u o x ho hx (op_parts hyes).2.2) 45 85 300 301 rfl rfl rfl rfl) trivial ⟨rfl,trivial⟩ rfl ?_))⟩;refine Tri.ret ?_;exact ⟨rfl,rfl,rfl,rfl,trivial⟩
      ·
       exact absurd h6 (by have:=(op_parts hyes).2.1;simp only [iteA];unfold c3 synB rstZ at this;simp_all)
set_option maxRecDepth 16000 in
theorem f8_o1 (st:Int) (p g:Hf) (s t:SS) (B:Int) (is:SInv s B) (it:SInv t B) (hB:B≤1099511600000) (a b q k f w u:Int) (o:List optT.D) (x:List UInt8) (ho:o.length < 9223372036854775807) (hx:x.length≤1000000) (hop:opB st = true) :
  HSpec P G 8 [.loc 0 0,.int .i64 1,tcpV a b q k f w u o x] (cnH st p g s t) (.list evT (sgH 1 2 st p g s t q k f o x).1) [(0,.box (cnC (sgH 1 2 st p g s t q k f o x).2.1 (sgH 1 2 st p g s t q k f o x).2.2.1 g (.loc 1 0) (.loc 2 0))),(1,.box (bxS (sgH 1 2 st p g s t q k f o x).2.2.2.1)),(2,.box (bxS (sgH 1 2 st p g s t q k f o x).2.2.2.2))]:=by
 generalize hz:sgH 1 2 st p g s t q k f o x = z;refine fspec_intro hT (cnH st p g s t) [(0,.box (cnC z.2.1 z.2.2.1 g (.loc 1 0) (.loc 2 0))),(1,.box (bxS z.2.2.2.1)),(2,.box (bxS z.2.2.2.2))] 3 3 Tryz.func8 (by decide) rfl rfl (by kernel_rfl) rfl rfl ?_
 refine Tri.seq (Tri.reg hT ?_);refine Tri.seq ?_;refine Tri.seq (Tri.reg hT ?_);refine ⟨_,[],trivial,rfl,rfl,fun h=>⟨rfl,rfl,rfl⟩,?_⟩;refine ⟨_,[],trivial,rfl,rfl,fun h=>⟨h,(.inl ⟨_,fun _=>rfl,f21_spec 1,rfl,rfl,rfl⟩)⟩,?_⟩;refine ⟨_,[],trivial,rfl,rfl,fun h=>⟨h,rfl,rfl,rfl⟩,?_⟩;refine ⟨⟨fun _=>trivial,fun hc=>(gn hc)⟩,?_⟩;refine (Tri.cond ⟨fun h1=>?_,fun h1=>?_⟩)
 ·
  exact absurd h1 (by decide)
 ·
  refine (Tri.skip ?_);refine Tri.seq ?_;refine Tri.seq (Tri.reg hT ?_);refine .inl (.inl ⟨_,fun _=>rfl,f22_spec f,?_⟩);refine (Tri.cond ⟨fun h2=>?_,fun h2=>?_⟩)
  ·
   refine Tri.seq (Tri.reg hT ?_);refine .inl (.inr (.inl ⟨_,_,(by exact ⟨rfl,rfl,rfl,trivial⟩),(CSpec.ofH (u:=[(0,cnC st p g (.loc 1 0) (.loc 2 0),none),(1,bxS s,none),(2,bxS t,none)]) (f23_h1 st p g s t 3)),(by rfl),?_⟩));refine Tri.ret ?_;have e:=(if_pos h2).symm.trans hz;exact ⟨congrArg (fun z:List Evt × Int × Hf × SS × SS=>AV.list evT z.1) e,congrArg (fun z:List Evt × Int × Hf × SS × SS=>some (Chunk.box (cnC z.2.1 z.2.2.1 g (.loc 1 0) (.loc 2 0)))) e,congrArg (fun z:List Evt × Int × Hf × SS × SS=>some (Chunk.box (bxS z.2.2.2.1))) e,congrArg (fun z:List Evt × Int × Hf × SS × SS=>some (Chunk.box (bxS z.2.2.2.2))) e,trivial⟩
  ·
   refine (Tri.skip ?_);refine Tri.seq ?_;refine Tri.seq (Tri.reg hT ?_);refine .inl (.inr (.inl ⟨_,_,(by exact ⟨rfl,rfl,rfl,trivial⟩),(CSpec.ofH (u:=[(0,cnC st p g (.loc 1 0) (.loc 2 0),none),(1,bxS s,none),(2,bxS t,none)]) (f24_ht st p g s t hop)),(by rfl),?_⟩));refine (Tri.cond ⟨fun h3=>?_,fun h3=>?_⟩)
   ·
    refine Tri.seq (Tri.reg hT ?_);refine .inl (.inr (.inl ⟨_,_,(by exact ⟨rfl,rfl,rfl,trivial⟩),(CSpec.ofH (u:=[(0,cnC st p g (.loc 1 0) (.loc 2 0),some (cnC (prM 1 2 st p g s t q k f o x).2.1 (prM 1 2 st p g s t q k f o x).2.2.1 g (.loc 1 0) (.loc 2 0))),(1,bxS s,some (bxS (prM 1 2 st p g s t q k f o x).2.2.2.1)),(2,bxS t,some (bxS (prM 1 2 st p g s t q k f o x).2.2.2.2))]) (f25_h1 st p g s t B is it hB a b q k f w u o x ho hx)),(by rfl),?_⟩));refine Tri.ret ?_;have e:=((if_neg (by rw [h2];decide))).symm.trans hz;exact ⟨congrArg (fun z:List Evt × Int × Hf × SS × SS=>AV.list evT z.1) e,congrArg (fun z:List Evt × Int × Hf × SS × SS=>some (Chunk.box (cnC z.2.1 z.2.2.1 g (.loc 1 0) (.loc 2 0)))) e,congrArg (fun z:List Evt × Int × Hf × SS × SS=>some (Chunk.box (bxS z.2.2.2.1))) e,congrArg (fun z:List Evt × Int × Hf × SS × SS=>some (Chunk.box (bxS z.2.2.2.2))) e,trivial⟩
   ·
    cases h3
set_option maxRecDepth 16000 in
theorem f8_o2 (st:Int) (p g:Hf) (s t:SS) (B:Int) (is:SInv s B) (it:SInv t B) (hB:B≤1099511600000) (a b q k f w u:Int) (o:List optT.D) (x:List UInt8) (ho:o.length < 9223372036854775807) (hx:x.length≤1000000) (hop:opB st = true) :
  HSpec P G 8 [.loc 0 0,.int .i64 2,tcpV a b q k f w u o x] (cnH st g p t s) (.list evT (sgH 2 1 st p g s t q k f o x).1) [(0,.box (cnC (sgH 2 1 st p g s t q k f o x).2.1 g (sgH 2 1 st p g s t q k f o x).2.2.1 (.loc 1 0) (.loc 2 0))),(1,.box (bxS (sgH 2 1 st p g s t q k f o x).2.2.2.2)),(2,.box (bxS (sgH 2 1 st p g s t q k f o x).2.2.2.1))]:=by
 generalize hz:sgH 2 1 st p g s t q k f o x = z;refine fspec_intro hT (cnH st g p t s) [(0,.box (cnC z.2.1 g z.2.2.1 (.loc 1 0) (.loc 2 0))),(1,.box (bxS z.2.2.2.2)),(2,.box (bxS z.2.2.2.1))] 3 3 Tryz.func8 (by decide) rfl rfl (by kernel_rfl) rfl rfl ?_
 refine Tri.seq (Tri.reg hT ?_);refine Tri.seq ?_;refine Tri.seq (Tri.reg hT ?_);refine ⟨_,[],trivial,rfl,rfl,fun h=>⟨rfl,rfl,rfl⟩,?_⟩;refine ⟨_,[],trivial,rfl,rfl,fun h=>⟨h,(.inl ⟨_,fun _=>rfl,f21_spec 2,rfl,rfl,rfl⟩)⟩,?_⟩;refine ⟨_,[],trivial,rfl,rfl,fun h=>⟨h,rfl,rfl,rfl⟩,?_⟩;refine ⟨⟨fun _=>trivial,fun hc=>(gn hc)⟩,?_⟩;refine (Tri.cond ⟨fun h1=>?_,fun h1=>?_⟩)
 ·
  exact absurd h1 (by decide)
 ·
  refine (Tri.skip ?_);refine Tri.seq ?_;refine Tri.seq (Tri.reg hT ?_);refine .inl (.inl ⟨_,fun _=>rfl,f22_spec f,?_⟩);refine (Tri.cond ⟨fun h2=>?_,fun h2=>?_⟩)
  ·
   refine Tri.seq (Tri.reg hT ?_);refine .inl (.inr (.inl ⟨_,_,(by exact ⟨rfl,rfl,rfl,trivial⟩),(CSpec.ofH (u:=[(0,cnC st g p (.loc 1 0) (.loc 2 0),none),(1,bxS t,none),(2,bxS s,none)]) (f23_h2 st g p t s 3)),(by rfl),?_⟩));refine Tri.ret ?_;have e:=(if_pos h2).symm.trans hz;exact ⟨congrArg (fun z:List Evt × Int × Hf × SS × SS=>AV.list evT z.1) e,congrArg (fun z:List Evt × Int × Hf × SS × SS=>some (Chunk.box (cnC z.2.1 g z.2.2.1 (.loc 1 0) (.loc 2 0)))) e,congrArg (fun z:List Evt × Int × Hf × SS × SS=>some (Chunk.box (bxS z.2.2.2.2))) e,congrArg (fun z:List Evt × Int × Hf × SS × SS=>some (Chunk.box (bxS z.2.2.2.1))) e,trivial⟩
  ·
   refine (Tri.skip ?_);refine Tri.seq ?_;refine Tri.seq (Tri.reg hT ?_);refine .inl (.inr (.inl ⟨_,_,(by exact ⟨rfl,rfl,rfl,trivial⟩),(CSpec.ofH (u:=[(0,cnC st g p (.loc 1 0) (.loc 2 0),none),(1,bxS t,none),(2,bxS s,none)]) (f24_ht st g p t s hop)),(by rfl),?_⟩));refine (Tri.cond ⟨fun h3=>?_,fun h3=>?_⟩)
   ·
    refine Tri.seq (Tri.reg hT ?_);refine .inl (.inr (.inl ⟨_,_,(by exact ⟨rfl,rfl,rfl,trivial⟩),(CSpec.ofH (u:=[(0,cnC st g p (.loc 1 0) (.loc 2 0),some (cnC (prM 2 1 st p g s t q k f o x).2.1 g (prM 2 1 st p g s t q k f o x).2.2.1 (.loc 1 0) (.loc 2 0))),(1,bxS t,some (bxS (prM 2 1 st p g s t q k f o x).2.2.2.2)),(2,bxS s,some (bxS (prM 2 1 st p g s t q k f o x).2.2.2.1))]) (f25_h2 st p g s t B is it hB a b q k f w u o x ho hx)),(by rfl),?_⟩));refine Tri.ret ?_;have e:=((if_neg (by rw [h2];decide))).symm.trans hz;exact ⟨congrArg (fun z:List Evt × Int × Hf × SS × SS=>AV.list evT z.1) e,congrArg (fun z:List Evt × Int × Hf × SS × SS=>some (Chunk.box (cnC z.2.1 g z.2.2.1 (.loc 1 0) (.loc 2 0)))) e,congrArg (fun z:List Evt × Int × Hf × SS × SS=>some (Chunk.box (bxS z.2.2.2.2))) e,congrArg (fun z:List Evt × Int × Hf × SS × SS=>some (Chunk.box (bxS z.2.2.2.1))) e,trivial⟩
   ·
    cases h3
set_option maxRecDepth 16000 in
theorem f8_s1 (st:Int) (p g:Hf) (s t:SS) (a b q k f w u:Int) (o:List optT.D) (x:List UInt8) (ho:o.length < 9223372036854775807) (hx:x.length≤1000000) (hop:opB st = false) (hs2:st≠2) (hf:flags f = true) (hc:(synB f && !ackB f) = true) :
  HSpec P G 8 [.loc 0 0,.int .i64 1,tcpV a b q k f w u o x] (cnH st p g s t) (.list evT []) [(0,.box (cnC 1 (begH p q o) g .nilp .nilp)),(1,.box (bxS s)),(2,.box (bxS t))]:=by
 refine fspec_intro hT (cnH st p g s t) [(0,.box (cnC 1 (begH p q o) g .nilp .nilp)),(1,.box (bxS s)),(2,.box (bxS t))] 3 3 Tryz.func8 (by decide) rfl rfl (by kernel_rfl) rfl rfl ?_;refine Tri.seq (Tri.reg hT ?_);refine Tri.seq ?_;refine Tri.seq (Tri.reg hT ?_);refine ⟨_,[],trivial,rfl,rfl,fun h=>⟨rfl,rfl,rfl⟩,?_⟩;refine ⟨_,[],trivial,rfl,rfl,fun h=>⟨h,(.inl ⟨_,fun _=>rfl,f21_spec 1,rfl,rfl,rfl⟩)⟩,?_⟩;refine ⟨_,[],trivial,rfl,rfl,fun h=>⟨h,rfl,rfl,rfl⟩,?_⟩;refine ⟨⟨fun _=>trivial,fun hc=>(gn hc)⟩,?_⟩;refine (Tri.cond ⟨fun h1=>?_,fun h1=>?_⟩)
 ·
  exact absurd h1 (by decide)
 ·
  refine (Tri.skip ?_);refine Tri.seq ?_;refine Tri.seq (Tri.reg hT ?_);refine .inl (.inl ⟨_,fun _=>rfl,f22_spec f,?_⟩);refine (Tri.cond ⟨fun h2=>?_,fun h2=>?_⟩)
  ·
   exact absurd h2 (by rw [hf];decide)
  ·
   refine (Tri.skip ?_);refine Tri.seq ?_;refine Tri.seq (Tri.reg hT ?_);refine .inl (.inr (.inl ⟨_,_,(by exact ⟨rfl,rfl,rfl,trivial⟩),(CSpec.ofH (u:=[(0,cnC st p g (.loc 1 0) (.loc 2 0),none),(1,bxS s,none),(2,bxS t,none)]) (f24_hf st p g s t hop)),(by rfl),?_⟩));refine (Tri.cond ⟨fun h3=>?_,fun h3=>?_⟩)
   ·
    cases h3
   ·
    refine (Tri.skip ?_);refine Tri.seq (Tri.drw hT hm 9 (by kernel_rfl) ?_);refine ⟨by kernel_rfl,?_⟩;refine Tri.seq (Tri.block ?_);refine Tri.seq (Tri.reg hT ?_);refine ⟨_,[],trivial,rfl,rfl,fun h=>⟨rfl,rfl,rfl⟩,?_⟩;refine ⟨_,[],trivial,rfl,rfl,fun h=>⟨h,rfl,rfl,rfl⟩,?_⟩;refine ⟨⟨fun hc=>hc,fun _=>trivial⟩,?_⟩;refine ⟨_,[],trivial,rfl,rfl,fun h=>⟨rfl,rfl,rfl⟩,?_⟩;refine ⟨_,[],trivial,rfl,rfl,fun h=>⟨h,rfl,rfl,rfl⟩,?_⟩;refine ⟨⟨fun hc=>hc,fun _=>trivial⟩,?_⟩;refine ⟨_,[],trivial,rfl,rfl,fun h=>⟨rfl,rfl,rfl⟩,?_⟩;refine ⟨_,[],trivial,rfl,rfl,fun h=>⟨h,rfl,rfl,rfl⟩,?_⟩;refine ⟨_,[],trivial,rfl,rfl,fun h=>⟨h,rfl,rfl,rfl⟩,?_⟩;refine ⟨_,[],trivial,rfl,rfl,fun h=>⟨h,rfl,rfl,rfl⟩,?_⟩;refine ⟨_,[],trivial,rfl,rfl,fun h=>⟨h,rfl,rfl,rfl⟩,?_⟩;refine ⟨⟨fun hc=>hc,fun _=>trivial⟩,?_⟩;refine (Tri.cond ⟨fun h4=>?_,fun h4=>?_⟩)
    ·
     refine Tri.seq (Tri.reg hT ?_);refine .inl (.inr (.inl ⟨_,_,(by exact ⟨rfl,rfl,rfl,trivial⟩),(CSpec.ofH (u:=[(0,cnC st p g (.loc 1 0) (.loc 2 0),some (cnC st (begH p q o) g .nilp (.loc 2 0))),(1,bxS s,none),(2,bxS t,none)]) (f26_h1 st p g s t a b q f w u k o x ho)),(by rfl),?_⟩));refine Tri.seq (Tri.reg hT ?_);refine ⟨(by first|((try simp only [decide_eq_true_eq,decide_eq_false_iff_not,toNat_cast] at *);omega)|decide),?_⟩;refine Tri.seq (Tri.reg hT ?_);refine Tri.seq (Tri.reg hT ?_);refine Tri.le _ (Le.own 6 evT rfl) ?_;refine Tri.le _ (Le.freeze 6 _ 0 rfl rfl (Nat.le_refl 0)) ?_
     refine Tri.ret ?_;exact ⟨rfl,rfl,rfl,rfl,trivial⟩
    ·
     exact absurd h4 (by simp only [iteA];unfold synB ackB at hc;simp_all)
set_option maxRecDepth 16000 in
theorem f8_r1 (st:Int) (p g:Hf) (s t:SS) (a b q k f w u:Int) (o:List optT.D) (x:List UInt8) (ho:o.length < 9223372036854775807) (hx:x.length≤1000000) (hop:opB st = false) (hs1:st≠1) (hs2:st≠2) (hc:(flags f && (synB f && !ackB f)) = false) :
  HSpec P G 8 [.loc 0 0,.int .i64 1,tcpV a b q k f w u o x] (cnH st p g s t) (.list evT [(7,1,s.pos,(if flags f = true then 7 else 3),[],())]) (cnH st p g s t):=by
 refine fspec_intro hT (cnH st p g s t) (cnH st p g s t) 3 3 Tryz.func8 (by decide) rfl rfl (by kernel_rfl) rfl rfl ?_;refine Tri.seq (Tri.reg hT ?_);refine Tri.seq ?_;refine Tri.seq (Tri.reg hT ?_);refine ⟨_,[],trivial,rfl,rfl,fun h=>⟨rfl,rfl,rfl⟩,?_⟩;refine ⟨_,[],trivial,rfl,rfl,fun h=>⟨h,(.inl ⟨_,fun _=>rfl,f21_spec 1,rfl,rfl,rfl⟩)⟩,?_⟩;refine ⟨_,[],trivial,rfl,rfl,fun h=>⟨h,rfl,rfl,rfl⟩,?_⟩;refine ⟨⟨fun _=>trivial,fun hc=>(gn hc)⟩,?_⟩;refine (Tri.cond ⟨fun h1=>?_,fun h1=>?_⟩)
 ·
  exact absurd h1 (by decide)
 ·
  refine (Tri.skip ?_);refine Tri.seq ?_;refine Tri.seq (Tri.reg hT ?_);refine .inl (.inl ⟨_,fun _=>rfl,f22_spec f,?_⟩);refine (Tri.cond ⟨fun h2=>?_,fun h2=>?_⟩)
  ·
   refine Tri.seq (Tri.reg hT ?_);refine .inl (.inr (.inl ⟨_,_,(by exact ⟨rfl,rfl,rfl,trivial⟩),(CSpec.ofH (u:=[(0,cnC st p g (.loc 1 0) (.loc 2 0),none),(1,bxS s,none),(2,bxS t,none)]) (f23_h1 st p g s t 3)),(by rfl),?_⟩));refine Tri.ret ?_;exact ⟨congrArg (fun n=>AV.list evT [(7,1,s.pos,n,[],())]) (if_neg (by simpa using h2)).symm,rfl,rfl,rfl,trivial⟩
  ·
   refine (Tri.skip ?_);refine Tri.seq ?_;refine Tri.seq (Tri.reg hT ?_);refine .inl (.inr (.inl ⟨_,_,(by exact ⟨rfl,rfl,rfl,trivial⟩),(CSpec.ofH (u:=[(0,cnC st p g (.loc 1 0) (.loc 2 0),none),(1,bxS s,none),(2,bxS t,none)]) (f24_hf st p g s t hop)),(by rfl),?_⟩));refine (Tri.cond ⟨fun h3=>?_,fun h3=>?_⟩)
   ·
    cases h3
   ·
    refine (Tri.skip ?_);refine Tri.seq (Tri.drw hT hm 9 (by kernel_rfl) ?_);refine ⟨by kernel_rfl,?_⟩;refine Tri.seq (Tri.block ?_);refine Tri.seq (Tri.reg hT ?_);refine ⟨_,[],trivial,rfl,rfl,fun h=>⟨rfl,rfl,rfl⟩,?_⟩;refine ⟨_,[],trivial,rfl,rfl,fun h=>⟨h,rfl,rfl,rfl⟩,?_⟩;refine ⟨⟨fun hc=>hc,fun _=>trivial⟩,?_⟩;refine ⟨_,[],trivial,rfl,rfl,fun h=>⟨rfl,rfl,rfl⟩,?_⟩;refine ⟨_,[],trivial,rfl,rfl,fun h=>⟨h,rfl,rfl,rfl⟩,?_⟩;refine ⟨⟨fun hc=>hc,fun _=>trivial⟩,?_⟩;refine ⟨_,[],trivial,rfl,rfl,fun h=>⟨rfl,rfl,rfl⟩,?_⟩;refine ⟨_,[],trivial,rfl,rfl,fun h=>⟨h,rfl,rfl,rfl⟩,?_⟩;refine ⟨_,[],trivial,rfl,rfl,fun h=>⟨h,rfl,rfl,rfl⟩,?_⟩;refine ⟨_,[],trivial,rfl,rfl,fun h=>⟨h,rfl,rfl,rfl⟩,?_⟩;refine ⟨_,[],trivial,rfl,rfl,fun h=>⟨h,rfl,rfl,rfl⟩,?_⟩;refine ⟨⟨fun hc=>hc,fun _=>trivial⟩,?_⟩;refine (Tri.cond ⟨fun h4=>?_,fun h4=>?_⟩)
    ·
     exact absurd h4 (by simp only [iteA];have h2':flags f = true:=(by simpa using h2);unfold synB ackB at hc;simp_all)
    ·
     refine Tri.seq (Tri.reg hT ?_);refine ⟨_,[],trivial,rfl,rfl,fun h=>⟨rfl,rfl,rfl⟩,?_⟩;refine ⟨⟨fun hc=>hc,fun _=>trivial⟩,?_⟩;refine ⟨_,[],trivial,rfl,rfl,fun h=>⟨rfl,rfl,rfl⟩,?_⟩;refine ⟨_,[],trivial,rfl,rfl,fun h=>⟨h,rfl,rfl,rfl⟩,?_⟩;refine ⟨⟨fun hc=>hc,fun _=>trivial⟩,?_⟩;refine ⟨_,[],trivial,rfl,rfl,fun h=>⟨rfl,rfl,rfl⟩,?_⟩;refine ⟨_,[],trivial,rfl,rfl,fun h=>⟨h,rfl,rfl,rfl⟩,?_⟩;refine ⟨_,[],trivial,rfl,rfl,fun h=>⟨h,rfl,rfl,rfl⟩,?_⟩;refine ⟨_,[],trivial,rfl,rfl,fun h=>⟨h,rfl,rfl,rfl⟩,?_⟩;refine ⟨_,[],trivial,rfl,rfl,fun h=>⟨h,rfl,rfl,rfl⟩,?_⟩;refine ⟨_,[],trivial,rfl,rfl,fun h=>⟨h,rfl,rfl,rfl⟩,?_⟩;refine ⟨_,[],trivial,rfl,rfl,fun h=>⟨rfl,rfl,rfl⟩,?_⟩;refine ⟨_,[],trivial,rfl,rfl,fun h=>⟨h,rfl,rfl,rfl⟩,?_⟩;refine ⟨_,[],trivial,rfl,rfl,fun h=>⟨h,rfl,rfl,rfl⟩,?_⟩;refine ⟨_,[],trivial,rfl,rfl,fun h=>⟨h,rfl,rfl,rfl⟩,?_⟩;refine ⟨_,[],trivial,rfl,rfl,fun h=>⟨h,rfl,rfl,rfl⟩,?_⟩;refine ⟨_,[],trivial,rfl,rfl,fun h=>⟨h,⟨fun _=>trivial,fun hc=>ga h (gn hc)⟩,rfl,rfl,rfl⟩,?_⟩;refine ⟨⟨fun hc=>hc,fun _=>trivial⟩,?_⟩;refine (Tri.cond ⟨fun h5=>?_,fun h5=>?_⟩)
     ·
      exact absurd h5 (by simp [iteA,iteO,hs1,hs2])
     ·
      refine Tri.seq (Tri.reg hT ?_);refine ⟨_,[],trivial,rfl,rfl,fun h=>⟨rfl,rfl,rfl⟩,?_⟩;refine ⟨_,[],trivial,rfl,rfl,fun h=>⟨h,rfl,rfl,rfl⟩,?_⟩;refine ⟨_,[],trivial,rfl,rfl,fun h=>⟨h,rfl,rfl,rfl⟩,?_⟩;refine ⟨_,[],trivial,rfl,rfl,fun h=>⟨h,rfl,rfl,rfl⟩,?_⟩;refine ⟨⟨fun hc=>hc,fun _=>trivial⟩,?_⟩;refine ⟨_,[],trivial,rfl,rfl,fun h=>⟨rfl,rfl,rfl⟩,?_⟩;refine ⟨_,[],trivial,rfl,rfl,fun h=>⟨h,rfl,rfl,rfl⟩,?_⟩;refine ⟨⟨fun hc=>hc,fun _=>trivial⟩,?_⟩;refine ⟨_,[],trivial,rfl,rfl,fun h=>⟨rfl,rfl,rfl⟩,?_⟩;refine ⟨_,[],trivial,rfl,rfl,fun h=>⟨h,rfl,rfl,rfl⟩,?_⟩;refine ⟨_,[],trivial,rfl,rfl,fun h=>⟨h,rfl,rfl,rfl⟩,?_⟩;refine ⟨_,[],trivial,rfl,rfl,fun h=>⟨h,rfl,rfl,rfl⟩,?_⟩;refine ⟨_,[],trivial,rfl,rfl,fun h=>⟨h,rfl,rfl,rfl⟩,?_⟩;refine ⟨⟨fun hc=>hc,fun _=>trivial⟩,?_⟩;refine (Tri.cond ⟨fun h6=>?_,fun h6=>?_⟩)
      ·
       exact absurd h6 (by simp [iteA,hs2])
      ·
       refine (Tri.skip ?_);refine Tri.seq (Tri.reg hT ?_);refine .inl (.inr (.inl ⟨_,_,(by exact ⟨rfl,rfl,rfl,trivial⟩),(CSpec.ofH (u:=[(0,cnC st p g (.loc 1 0) (.loc 2 0),none),(1,bxS s,none),(2,bxS t,none)]) (f23_h1 st p g s t 7)),(by rfl),?_⟩));refine Tri.ret ?_;exact ⟨congrArg (fun n=>AV.list evT [(7,1,s.pos,n,[],())]) (if_pos (by simpa using h2)).symm,rfl,rfl,rfl,trivial⟩
set_option maxRecDepth 16000 in
theorem f8_r2 (st:Int) (p g:Hf) (s t:SS) (a b q k f w u:Int) (o:List optT.D) (x:List UInt8) (ho:o.length < 9223372036854775807) (hx:x.length≤1000000) (hop:opB st = false) (hs1:st≠1) (hs2:st≠2) :
  HSpec P G 8 [.loc 0 0,.int .i64 2,tcpV a b q k f w u o x] (cnH st p g s t) (.list evT [(7,2,t.pos,(if flags f = true then 7 else 3),[],())]) (cnH st p g s t):=by
 refine fspec_intro hT (cnH st p g s t) (cnH st p g s t) 3 3 Tryz.func8 (by decide) rfl rfl (by kernel_rfl) rfl rfl ?_;refine Tri.seq (Tri.reg hT ?_);refine Tri.seq ?_;refine Tri.seq (Tri.reg hT ?_);refine ⟨_,[],trivial,rfl,rfl,fun h=>⟨rfl,rfl,rfl⟩,?_⟩;refine ⟨_,[],trivial,rfl,rfl,fun h=>⟨h,(.inl ⟨_,fun _=>rfl,f21_spec 2,rfl,rfl,rfl⟩)⟩,?_⟩;refine ⟨_,[],trivial,rfl,rfl,fun h=>⟨h,rfl,rfl,rfl⟩,?_⟩;refine ⟨⟨fun _=>trivial,fun hc=>(gn hc)⟩,?_⟩;refine (Tri.cond ⟨fun h1=>?_,fun h1=>?_⟩)
 ·
  exact absurd h1 (by decide)
 ·
  refine (Tri.skip ?_);refine Tri.seq ?_;refine Tri.seq (Tri.reg hT ?_);refine .inl (.inl ⟨_,fun _=>rfl,f22_spec f,?_⟩);refine (Tri.cond ⟨fun h2=>?_,fun h2=>?_⟩)
  ·
   refine Tri.seq (Tri.reg hT ?_);refine .inl (.inr (.inl ⟨_,_,(by exact ⟨rfl,rfl,rfl,trivial⟩),(CSpec.ofH (u:=[(0,cnC st p g (.loc 1 0) (.loc 2 0),none),(1,bxS s,none),(2,bxS t,none)]) (f23_h2 st p g s t 3)),(by rfl),?_⟩));refine Tri.ret ?_;exact ⟨congrArg (fun n=>AV.list evT [(7,2,t.pos,n,[],())]) (if_neg (by simpa using h2)).symm,rfl,rfl,rfl,trivial⟩
  ·
   refine (Tri.skip ?_);refine Tri.seq ?_;refine Tri.seq (Tri.reg hT ?_);refine .inl (.inr (.inl ⟨_,_,(by exact ⟨rfl,rfl,rfl,trivial⟩),(CSpec.ofH (u:=[(0,cnC st p g (.loc 1 0) (.loc 2 0),none),(1,bxS s,none),(2,bxS t,none)]) (f24_hf st p g s t hop)),(by rfl),?_⟩));refine (Tri.cond ⟨fun h3=>?_,fun h3=>?_⟩)
   ·
    cases h3
   ·
    refine (Tri.skip ?_);refine Tri.seq (Tri.drw hT hm 9 (by kernel_rfl) ?_);refine ⟨by kernel_rfl,?_⟩;refine Tri.seq (Tri.block ?_);refine Tri.seq (Tri.reg hT ?_);refine ⟨_,[],trivial,rfl,rfl,fun h=>⟨rfl,rfl,rfl⟩,?_⟩;refine ⟨_,[],trivial,rfl,rfl,fun h=>⟨h,rfl,rfl,rfl⟩,?_⟩;refine ⟨⟨fun hc=>hc,fun _=>trivial⟩,?_⟩;refine ⟨_,[],trivial,rfl,rfl,fun h=>⟨rfl,rfl,rfl⟩,?_⟩;refine ⟨_,[],trivial,rfl,rfl,fun h=>⟨h,rfl,rfl,rfl⟩,?_⟩;refine ⟨⟨fun hc=>hc,fun _=>trivial⟩,?_⟩;refine ⟨_,[],trivial,rfl,rfl,fun h=>⟨rfl,rfl,rfl⟩,?_⟩;refine ⟨_,[],trivial,rfl,rfl,fun h=>⟨h,rfl,rfl,rfl⟩,?_⟩;refine ⟨_,[],trivial,rfl,rfl,fun h=>⟨h,rfl,rfl,rfl⟩,?_⟩;refine ⟨_,[],trivial,rfl,rfl,fun h=>⟨h,rfl,rfl,rfl⟩,?_⟩;refine ⟨_,[],trivial,rfl,rfl,fun h=>⟨h,rfl,rfl,rfl⟩,?_⟩;refine ⟨⟨fun hc=>hc,fun _=>trivial⟩,?_⟩;refine (Tri.cond ⟨fun h4=>?_,fun h4=>?_⟩)
    ·
     exact absurd h4 (by simp only [iteA];simp)
    ·
     refine Tri.seq (Tri.reg hT ?_);refine ⟨_,[],trivial,rfl,rfl,fun h=>⟨rfl,rfl,rfl⟩,?_⟩;refine ⟨⟨fun hc=>hc,fun _=>trivial⟩,?_⟩;refine ⟨_,[],trivial,rfl,rfl,fun h=>⟨rfl,rfl,rfl⟩,?_⟩;refine ⟨_,[],trivial,rfl,rfl,fun h=>⟨h,rfl,rfl,rfl⟩,?_⟩;refine ⟨⟨fun hc=>hc,fun _=>trivial⟩,?_⟩;refine ⟨_,[],trivial,rfl,rfl,fun h=>⟨rfl,rfl,rfl⟩,?_⟩;refine ⟨_,[],trivial,rfl,rfl,fun h=>⟨h,rfl,rfl,rfl⟩,?_⟩;refine ⟨_,[],trivial,rfl,rfl,fun h=>⟨h,rfl,rfl,rfl⟩,?_⟩;refine ⟨_,[],trivial,rfl,rfl,fun h=>⟨h,rfl,rfl,rfl⟩,?_⟩;refine ⟨_,[],trivial,rfl,rfl,fun h=>⟨h,rfl,rfl,rfl⟩,?_⟩;refine ⟨_,[],trivial,rfl,rfl,fun h=>⟨h,rfl,rfl,rfl⟩,?_⟩;refine ⟨_,[],trivial,rfl,rfl,fun h=>⟨rfl,rfl,rfl⟩,?_⟩;refine ⟨_,[],trivial,rfl,rfl,fun h=>⟨h,rfl,rfl,rfl⟩,?_⟩;refine ⟨_,[],trivial,rfl,rfl,fun h=>⟨h,rfl,rfl,rfl⟩,?_⟩;refine ⟨_,[],trivial,rfl,rfl,fun h=>⟨h,rfl,rfl,rfl⟩,?_⟩;refine ⟨_,[],trivial,rfl,rfl,fun h=>⟨h,rfl,rfl,rfl⟩,?_⟩;refine ⟨_,[],trivial,rfl,rfl,fun h=>⟨h,⟨fun _=>trivial,fun hc=>ga h (gn hc)⟩,rfl,rfl,rfl⟩,?_⟩;refine ⟨⟨fun hc=>hc,fun _=>trivial⟩,?_⟩;refine (Tri.cond ⟨fun h5=>?_,fun h5=>?_⟩)
     ·
      exact absurd h5 (by simp [iteA,iteO,hs1,hs2])
     ·
      refine Tri.seq (Tri.reg hT ?_);refine ⟨_,[],trivial,rfl,rfl,fun h=>⟨rfl,rfl,rfl⟩,?_⟩;refine ⟨_,[],trivial,rfl,rfl,fun h=>⟨h,rfl,rfl,rfl⟩,?_⟩;refine ⟨_,[],trivial,rfl,rfl,fun h=>⟨h,rfl,rfl,rfl⟩,?_⟩;refine ⟨_,[],trivial,rfl,rfl,fun h=>⟨h,rfl,rfl,rfl⟩,?_⟩;refine ⟨⟨fun hc=>hc,fun _=>trivial⟩,?_⟩;refine ⟨_,[],trivial,rfl,rfl,fun h=>⟨rfl,rfl,rfl⟩,?_⟩;refine ⟨_,[],trivial,rfl,rfl,fun h=>⟨h,rfl,rfl,rfl⟩,?_⟩;refine ⟨⟨fun hc=>hc,fun _=>trivial⟩,?_⟩;refine ⟨_,[],trivial,rfl,rfl,fun h=>⟨rfl,rfl,rfl⟩,?_⟩;refine ⟨_,[],trivial,rfl,rfl,fun h=>⟨h,rfl,rfl,rfl⟩,?_⟩;refine ⟨_,[],trivial,rfl,rfl,fun h=>⟨h,rfl,rfl,rfl⟩,?_⟩;refine ⟨_,[],trivial,rfl,rfl,fun h=>⟨h,rfl,rfl,rfl⟩,?_⟩;refine ⟨_,[],trivial,rfl,rfl,fun h=>⟨h,rfl,rfl,rfl⟩,?_⟩;refine ⟨⟨fun hc=>hc,fun _=>trivial⟩,?_⟩;refine (Tri.cond ⟨fun h6=>?_,fun h6=>?_⟩)
      ·
       exact absurd h6 (by simp [iteA,hs2])
      ·
       refine (Tri.skip ?_);refine Tri.seq (Tri.reg hT ?_);refine .inl (.inr (.inl ⟨_,_,(by exact ⟨rfl,rfl,rfl,trivial⟩),(CSpec.ofH (u:=[(0,cnC st p g (.loc 1 0) (.loc 2 0),none),(1,bxS s,none),(2,bxS t,none)]) (f23_h2 st p g s t 7)),(by rfl),?_⟩));refine Tri.ret ?_;exact ⟨congrArg (fun n=>AV.list evT [(7,2,t.pos,n,[],())]) (if_pos (by simpa using h2)).symm,rfl,rfl,rfl,trivial⟩
set_option maxRecDepth 16000 in
theorem f8_xn (st:Int) (p g:Hf) (d:Int) (a b q k f w u:Int) (o:List optT.D) (x:List UInt8) (ho:o.length < 9223372036854775807) (hx:x.length≤1000000) (hd1:d≠1) (hd2:d≠2) :
  HSpec P G 8 [.loc 0 0,.int .i64 d,tcpV a b q k f w u o x] (cnN st p g) (.list evT []) (cnN st p g):=by
 refine fspec_intro hT (cnN st p g) (cnN st p g) 1 1 Tryz.func8 (by decide) rfl rfl (by kernel_rfl) rfl rfl ?_;refine Tri.seq (Tri.reg hT ?_);refine Tri.seq ?_;refine Tri.seq (Tri.reg hT ?_);refine ⟨_,[],trivial,rfl,rfl,fun h=>⟨rfl,rfl,rfl⟩,?_⟩;refine ⟨_,[],trivial,rfl,rfl,fun h=>⟨h,(.inl ⟨_,fun _=>rfl,f21_spec d,rfl,rfl,rfl⟩)⟩,?_⟩;refine ⟨_,[],trivial,rfl,rfl,fun h=>⟨h,rfl,rfl,rfl⟩,?_⟩;refine ⟨⟨fun _=>trivial,fun hc=>(gn hc)⟩,?_⟩;refine (Tri.cond ⟨fun h1=>?_,fun h1=>?_⟩)
 ·
  refine Tri.seq (Tri.reg hT ?_);refine Tri.le _ (Le.own 6 evT rfl) ?_;refine Tri.le _ (Le.freeze 6 _ 0 rfl rfl (Nat.le_refl 0)) ?_
  refine Tri.ret ?_;exact ⟨rfl,rfl,trivial⟩
 ·
  exact absurd h1 (by simp [hd1,hd2])
set_option maxRecDepth 16000 in
theorem f8_xh (st:Int) (p g:Hf) (s t:SS) (d:Int) (a b q k f w u:Int) (o:List optT.D) (x:List UInt8) (ho:o.length < 9223372036854775807) (hx:x.length≤1000000) (hd1:d≠1) (hd2:d≠2) :
  HSpec P G 8 [.loc 0 0,.int .i64 d,tcpV a b q k f w u o x] (cnH st p g s t) (.list evT []) (cnH st p g s t):=by
 refine fspec_intro hT (cnH st p g s t) (cnH st p g s t) 3 3 Tryz.func8 (by decide) rfl rfl (by kernel_rfl) rfl rfl ?_;refine Tri.seq (Tri.reg hT ?_);refine Tri.seq ?_;refine Tri.seq (Tri.reg hT ?_);refine ⟨_,[],trivial,rfl,rfl,fun h=>⟨rfl,rfl,rfl⟩,?_⟩;refine ⟨_,[],trivial,rfl,rfl,fun h=>⟨h,(.inl ⟨_,fun _=>rfl,f21_spec d,rfl,rfl,rfl⟩)⟩,?_⟩;refine ⟨_,[],trivial,rfl,rfl,fun h=>⟨h,rfl,rfl,rfl⟩,?_⟩;refine ⟨⟨fun _=>trivial,fun hc=>(gn hc)⟩,?_⟩;refine (Tri.cond ⟨fun h1=>?_,fun h1=>?_⟩)
 ·
  refine Tri.seq (Tri.reg hT ?_);refine Tri.le _ (Le.own 6 evT rfl) ?_;refine Tri.le _ (Le.freeze 6 _ 0 rfl rfl (Nat.le_refl 0)) ?_
  refine Tri.ret ?_;exact ⟨rfl,rfl,rfl,rfl,trivial⟩
 ·
  exact absurd h1 (by simp [hd1,hd2])
end Go.Proofs.YtchiagnggnblaaaGreatDoor.Ac
namespace Go.Proofs.YtchiagnggnblaaaGreatDoor.Ac
open Go Go.Fw Go.Ov Go.Proofs.YtchiagnggnblaaaGreatDoor.Fx
set_option maxRecDepth 16000 in
theorem f13_n (st:Int) (p g:Hf) (h6:st≠6):HSpec P G 13 [.loc 0 0] (cnN st p g) (.int .i64 0) (cnN st p g):=by
 refine fspec_intro hT (cnN st p g) (cnN st p g) 1 1 Tryz.func13 (by decide) rfl rfl (by kernel_rfl) rfl rfl ?_;refine Tri.seq (Tri.reg hT ?_);refine Tri.seq ?_;refine Tri.seq (Tri.reg hT ?_);refine ⟨_,[],trivial,rfl,rfl,fun h=>⟨rfl,rfl,rfl⟩,?_⟩;refine ⟨_,[],trivial,rfl,rfl,fun h=>⟨h,rfl,rfl,rfl⟩,?_⟩;refine ⟨_,[],trivial,rfl,rfl,fun h=>⟨h,rfl,rfl,rfl⟩,?_⟩;refine ⟨_,[],trivial,rfl,rfl,fun h=>⟨h,rfl,rfl,rfl⟩,?_⟩;refine ⟨_,[],trivial,rfl,rfl,fun h=>⟨h,rfl,rfl,rfl⟩,?_⟩;refine ⟨⟨fun _=>trivial,fun hc=>(gn hc)⟩,?_⟩;refine (Tri.cond ⟨fun h1=>?_,fun h1=>?_⟩)
 ·
  exact absurd h1 (by simp [iteO,h6])
 ·
  refine (Tri.skip ?_);refine Tri.seq (Tri.reg hT ?_);refine Tri.seq ?_;refine Tri.seq (Tri.reg hT ?_);refine (Tri.block ?_);refine (Tri.loopN 4 ?_);refine TriL.go (Tri.le (S:=⟨32,1,40,[(3,.int .i64 0),(18,.agg ((cnC st p g .nilp .nilp).drop 1)),(19,.int .i64 0)],[(0,.box (cnC st p g .nilp .nilp))],G⟩) (Le.weak rfl rfl rfl rfl ⟨(by first|rfl|exact iv1 (by (try simp only [decide_eq_true_eq,decide_eq_false_iff_not,toNat_cast] at *);omega)),(by first|rfl|exact iv1 (by (try simp only [decide_eq_true_eq,decide_eq_false_iff_not,toNat_cast] at *);omega)),(by first|rfl|exact iv1 (by (try simp only [decide_eq_true_eq,decide_eq_false_iff_not,toNat_cast] at *);omega)),trivial⟩ ⟨rfl,trivial⟩) ?_);refine Tri.seq (Tri.reg hT ?_);refine Tri.seq (Tri.cond ⟨fun hq=>?_,fun hq=>absurd hq (by decide)⟩);refine (Tri.skip ?_);refine Tri.seq (Tri.block ?_);refine Tri.seq (Tri.reg hT ?_);refine ⟨(by first|((try simp only [decide_eq_true_eq,decide_eq_false_iff_not,toNat_cast] at *);omega)|decide),?_⟩;refine Tri.seq (Tri.reg hT ?_);refine (Tri.cond ⟨fun h2=>?_,fun h2=>?_⟩)
  ·
   cases h2
  ·
   refine (Tri.skip ?_);refine (Tri.reg hT ?_);refine TriL.go (Tri.le (S:=⟨32,1,60,[(3,.int .i64 0),(18,.agg ((cnC st p g .nilp .nilp).drop 1)),(19,.int .i64 1)],[(0,.box (cnC st p g .nilp .nilp))],G⟩) (Le.weak rfl rfl rfl rfl ⟨(by first|rfl|exact iv1 (by (try simp only [decide_eq_true_eq,decide_eq_false_iff_not,toNat_cast] at *);omega)),(by first|rfl|exact iv1 (by (try simp only [decide_eq_true_eq,decide_eq_false_iff_not,toNat_cast] at *);omega)),(by first|rfl|exact iv1 (by (try simp only [decide_eq_true_eq,decide_eq_false_iff_not,toNat_cast] at *);omega)),trivial⟩ ⟨rfl,trivial⟩) ?_);refine Tri.seq (Tri.reg hT ?_);refine Tri.seq (Tri.cond ⟨fun hq=>?_,fun hq=>absurd hq (by decide)⟩);refine (Tri.skip ?_);refine Tri.seq (Tri.block ?_);refine Tri.seq (Tri.reg hT ?_);refine ⟨(by first|((try simp only [decide_eq_true_eq,decide_eq_false_iff_not,toNat_cast] at *);omega)|decide),?_⟩;refine Tri.seq (Tri.reg hT ?_);refine (Tri.cond ⟨fun h3=>?_,fun h3=>?_⟩)
   ·
    cases h3
   ·
    refine (Tri.skip ?_);refine (Tri.reg hT ?_);refine TriL.go (Tri.le (S:=⟨32,1,80,[(3,.int .i64 0),(18,.agg ((cnC st p g .nilp .nilp).drop 1)),(19,.int .i64 2)],[(0,.box (cnC st p g .nilp .nilp))],G⟩) (Le.weak rfl rfl rfl rfl ⟨(by first|rfl|exact iv1 (by (try simp only [decide_eq_true_eq,decide_eq_false_iff_not,toNat_cast] at *);omega)),(by first|rfl|exact iv1 (by (try simp only [decide_eq_true_eq,decide_eq_false_iff_not,toNat_cast] at *);omega)),(by first|rfl|exact iv1 (by (try simp only [decide_eq_true_eq,decide_eq_false_iff_not,toNat_cast] at *);omega)),trivial⟩ ⟨rfl,trivial⟩) ?_);refine Tri.seq (Tri.reg hT ?_);refine Tri.seq (Tri.cond ⟨fun hq=>?_,fun hq=>absurd hq (by decide)⟩);refine (Tri.skip ?_);refine Tri.seq (Tri.block ?_);refine Tri.seq (Tri.reg hT ?_);refine ⟨(by first|((try simp only [decide_eq_true_eq,decide_eq_false_iff_not,toNat_cast] at *);omega)|decide),?_⟩;refine Tri.seq (Tri.reg hT ?_);refine (Tri.cond ⟨fun h4=>?_,fun h4=>?_⟩)
    ·
     cases h4
    ·
     refine (Tri.skip ?_);refine (Tri.reg hT ?_);refine TriL.go (Tri.le (S:=⟨32,1,100,[(3,.int .i64 0),(18,.agg ((cnC st p g .nilp .nilp).drop 1)),(19,.int .i64 3)],[(0,.box (cnC st p g .nilp .nilp))],G⟩) (Le.weak rfl rfl rfl rfl ⟨(by first|rfl|exact iv1 (by (try simp only [decide_eq_true_eq,decide_eq_false_iff_not,toNat_cast] at *);omega)),(by first|rfl|exact iv1 (by (try simp only [decide_eq_true_eq,decide_eq_false_iff_not,toNat_cast] at *);omega)),(by first|rfl|exact iv1 (by (try simp only [decide_eq_true_eq,decide_eq_false_iff_not,toNat_cast] at *);omega)),trivial⟩ ⟨rfl,trivial⟩) ?_);refine Tri.seq (Tri.reg hT ?_);refine Tri.seq (Tri.cond ⟨fun hq=>absurd hq (by decide),fun hq=>?_⟩);refine Tri.exit ?_;refine Tri.seq (Tri.reg hT ?_);refine Tri.ret ?_;exact ⟨rfl,rfl,trivial⟩
set_option maxRecDepth 16000 in
theorem f13_h (st:Int) (p g:Hf) (s t:SS) (B:Int) (is:SInv s B) (it:SInv t B) (h6:st≠6):HSpec P G 13 [.loc 0 0] (cnH st p g s t) (.int .i64 (lenSum s.l + lenSum t.l)) (cnH st p g s t):=by
 have hs1:=is.size;have hs2:=it.size;have hw1:=is.win;have hw2:=it.win;have hl1:=is.len;have hl2:=it.len;have w1:IntKind.i64.wrap (0 + lenSum s.l) = lenSum s.l:=by rw [Int.zero_add];exact wrapId (by omega)
 have w2:IntKind.i64.wrap (lenSum s.l + lenSum t.l) = lenSum s.l + lenSum t.l:=wrapId (by omega);refine fspec_intro hT (cnH st p g s t) (cnH st p g s t) 3 3 Tryz.func13 (by decide) rfl rfl (by kernel_rfl) rfl rfl ?_;refine Tri.seq (Tri.reg hT ?_);refine Tri.seq ?_;refine Tri.seq (Tri.reg hT ?_);refine ⟨_,[],trivial,rfl,rfl,fun h=>⟨rfl,rfl,rfl⟩,?_⟩;refine ⟨_,[],trivial,rfl,rfl,fun h=>⟨h,rfl,rfl,rfl⟩,?_⟩;refine ⟨_,[],trivial,rfl,rfl,fun h=>⟨h,rfl,rfl,rfl⟩,?_⟩;refine ⟨_,[],trivial,rfl,rfl,fun h=>⟨h,rfl,rfl,rfl⟩,?_⟩;refine ⟨_,[],trivial,rfl,rfl,fun h=>⟨h,rfl,rfl,rfl⟩,?_⟩;refine ⟨⟨fun _=>trivial,fun hc=>(gn hc)⟩,?_⟩;refine (Tri.cond ⟨fun h1=>?_,fun h1=>?_⟩)
 ·
  exact absurd h1 (by simp [iteO,h6])
 ·
  refine (Tri.skip ?_);refine Tri.seq (Tri.reg hT ?_);refine Tri.seq ?_;refine Tri.seq (Tri.reg hT ?_);refine (Tri.block ?_);refine (Tri.loopN 4 ?_);refine TriL.go (Tri.le (S:=⟨32,3,40,[(3,.int .i64 0),(18,.agg ((cnC st p g (.loc 1 0) (.loc 2 0)).drop 1)),(19,.int .i64 0)],[(0,.box (cnC st p g (.loc 1 0) (.loc 2 0))),(1,.box (bxS s)),(2,.box (bxS t))],G⟩) (Le.weak rfl rfl rfl rfl ⟨(by first|rfl|exact iv1 (by (try simp only [decide_eq_true_eq,decide_eq_false_iff_not,toNat_cast] at *);omega)),(by first|rfl|exact iv1 (by (try simp only [decide_eq_true_eq,decide_eq_false_iff_not,toNat_cast] at *);omega)),(by first|rfl|exact iv1 (by (try simp only [decide_eq_true_eq,decide_eq_false_iff_not,toNat_cast] at *);omega)),trivial⟩ ⟨rfl,rfl,rfl,trivial⟩) ?_);refine Tri.seq (Tri.reg hT ?_);refine Tri.seq (Tri.cond ⟨fun hq=>?_,fun hq=>absurd hq (by decide)⟩);refine (Tri.skip ?_);refine Tri.seq (Tri.block ?_);refine Tri.seq (Tri.reg hT ?_);refine ⟨(by first|((try simp only [decide_eq_true_eq,decide_eq_false_iff_not,toNat_cast] at *);omega)|decide),?_⟩;refine Tri.seq (Tri.reg hT ?_);refine (Tri.cond ⟨fun h2=>?_,fun h2=>?_⟩)
  ·
   cases h2
  ·
   refine (Tri.skip ?_);refine (Tri.reg hT ?_);refine TriL.go (Tri.le (S:=⟨32,3,60,[(3,.int .i64 0),(18,.agg ((cnC st p g (.loc 1 0) (.loc 2 0)).drop 1)),(19,.int .i64 1)],[(0,.box (cnC st p g (.loc 1 0) (.loc 2 0))),(1,.box (bxS s)),(2,.box (bxS t))],G⟩) (Le.weak rfl rfl rfl rfl ⟨(by first|rfl|exact iv1 (by (try simp only [decide_eq_true_eq,decide_eq_false_iff_not,toNat_cast] at *);omega)),(by first|rfl|exact iv1 (by (try simp only [decide_eq_true_eq,decide_eq_false_iff_not,toNat_cast] at *);omega)),(by first|rfl|exact iv1 (by (try simp only [decide_eq_true_eq,decide_eq_false_iff_not,toNat_cast] at *);omega)),trivial⟩ ⟨rfl,rfl,rfl,trivial⟩) ?_);refine Tri.seq (Tri.reg hT ?_);refine Tri.seq (Tri.cond ⟨fun hq=>?_,fun hq=>absurd hq (by decide)⟩);refine (Tri.skip ?_);refine Tri.seq (Tri.block ?_);refine Tri.seq (Tri.reg hT ?_);refine ⟨(by first|((try simp only [decide_eq_true_eq,decide_eq_false_iff_not,toNat_cast] at *);omega)|decide),?_⟩;refine Tri.seq (Tri.reg hT ?_);refine (Tri.cond ⟨fun h3=>?_,fun h3=>?_⟩)
   ·
    refine (Tri.reg hT ?_);refine .inl (.inr (.inl ⟨_,_,(by exact ⟨rfl,trivial⟩),(CSpec.gw (f37_spec s (by omega) (by omega) 1)),(by rfl),?_⟩));refine (Tri.reg hT ?_);refine TriL.go (Tri.le (S:=⟨32,3,80,[(3,.int .i64 (lenSum s.l)),(18,.agg ((cnC st p g (.loc 1 0) (.loc 2 0)).drop 1)),(19,.int .i64 2)],[(0,.box (cnC st p g (.loc 1 0) (.loc 2 0))),(1,.box (bxS s)),(2,.box (bxS t))],G⟩) (Le.weak rfl rfl rfl rfl ⟨congrArg (AV.int .i64) w1,(by first|rfl|exact iv1 (by (try simp only [decide_eq_true_eq,decide_eq_false_iff_not,toNat_cast] at *);omega)),(by first|rfl|exact iv1 (by (try simp only [decide_eq_true_eq,decide_eq_false_iff_not,toNat_cast] at *);omega)),trivial⟩ ⟨rfl,rfl,rfl,trivial⟩) ?_);refine Tri.seq (Tri.reg hT ?_);refine Tri.seq (Tri.cond ⟨fun hq=>?_,fun hq=>absurd hq (by decide)⟩);refine (Tri.skip ?_);refine Tri.seq (Tri.block ?_);refine Tri.seq (Tri.reg hT ?_);refine ⟨(by first|((try simp only [decide_eq_true_eq,decide_eq_false_iff_not,toNat_cast] at *);omega)|decide),?_⟩;refine Tri.seq (Tri.reg hT ?_);refine (Tri.cond ⟨fun h4=>?_,fun h4=>?_⟩)
    ·
     refine (Tri.reg hT ?_);refine .inl (.inr (.inl ⟨_,_,(by exact ⟨rfl,trivial⟩),(CSpec.gw (f37_spec t (by omega) (by omega) 2)),(by rfl),?_⟩));refine (Tri.reg hT ?_);refine TriL.go (Tri.le (S:=⟨32,3,100,[(3,.int .i64 (lenSum s.l + lenSum t.l)),(18,.agg ((cnC st p g (.loc 1 0) (.loc 2 0)).drop 1)),(19,.int .i64 3)],[(0,.box (cnC st p g (.loc 1 0) (.loc 2 0))),(1,.box (bxS s)),(2,.box (bxS t))],G⟩) (Le.weak rfl rfl rfl rfl ⟨congrArg (AV.int .i64) w2,(by first|rfl|exact iv1 (by (try simp only [decide_eq_true_eq,decide_eq_false_iff_not,toNat_cast] at *);omega)),(by first|rfl|exact iv1 (by (try simp only [decide_eq_true_eq,decide_eq_false_iff_not,toNat_cast] at *);omega)),trivial⟩ ⟨rfl,rfl,rfl,trivial⟩) ?_);refine Tri.seq (Tri.reg hT ?_);refine Tri.seq (Tri.cond ⟨fun hq=>absurd hq (by decide),fun hq=>?_⟩);refine Tri.exit ?_;refine Tri.seq (Tri.reg hT ?_);refine Tri.ret ?_;exact ⟨rfl,rfl,rfl,rfl,trivial⟩
    ·
     cases h4
   ·
    cases h3
theorem f13_6 (p g:Hf) (s t:SS):HSpec P G 13 [.loc 0 0] (cnH 6 p g s t) (.int .i64 0) (cnH 6 p g s t):=by
 refine fspec_intro hT (cnH 6 p g s t) (cnH 6 p g s t) 3 3 Tryz.func13 (by decide) rfl rfl (by kernel_rfl) rfl rfl ?_;refine Tri.seq (Tri.reg hT ?_);refine Tri.seq ?_;refine Tri.seq (Tri.reg hT ?_);refine ⟨_,[],trivial,rfl,rfl,fun h=>⟨rfl,rfl,rfl⟩,?_⟩;refine ⟨_,[],trivial,rfl,rfl,fun h=>⟨h,rfl,rfl,rfl⟩,?_⟩;refine ⟨_,[],trivial,rfl,rfl,fun h=>⟨h,rfl,rfl,rfl⟩,?_⟩;refine ⟨_,[],trivial,rfl,rfl,fun h=>⟨h,rfl,rfl,rfl⟩,?_⟩;refine ⟨_,[],trivial,rfl,rfl,fun h=>⟨h,rfl,rfl,rfl⟩,?_⟩;refine ⟨⟨fun _=>trivial,fun hc=>(gn hc)⟩,?_⟩;refine (Tri.cond ⟨fun h1=>?_,fun h1=>?_⟩)
 ·
  refine Tri.seq (Tri.reg hT ?_);refine Tri.ret ?_;exact ⟨rfl,rfl,rfl,rfl,trivial⟩
 ·
  cases h1
end Go.Proofs.YtchiagnggnblaaaGreatDoor.Ac
namespace Go.Proofs.YtchiagnggnblaaaGreatDoor.Ac
open Go Go.Fw Go.Ov Go.Proofs.YtchiagnggnblaaaGreatDoor.Fx
structure Cnn where
 st:Int
 p:Hf
 g:Hf
 ss:Option (SS × SS)
abbrev Cnn.cells (c:Cnn) (j k:Nat):List AV:=match c.ss with
 | none=>cnC c.st c.p c.g .nilp .nilp
 | some _=>cnC c.st c.p c.g (.loc j 0) (.loc k 0)
theorem cells_ids (c:Cnn) (j k id:Nat) (h:AV.hasAny id (c.cells j k) = true):([j,k]:List Nat).contains id = true:=by
 unfold Cnn.cells at h
 split at h
 ·
  exact absurd h (by simp [AV.hasAny,AV.has])
 ·
  simp only [AV.hasAny,AV.has,Bool.or_false,Bool.false_or,Bool.or_eq_true,beq_iff_eq] at h;simp only [List.contains_eq_mem,List.mem_cons,List.not_mem_nil,or_false,decide_eq_true_eq];rcases h with h|h
  ·
   exact .inl h.symm
  ·
   exact .inr h.symm
def conX (c:Cnn) (j k:Nat):XCh where
 ids:=[j,k]
 fixed:=true
 nil:=False
 rel φ R w _ o _:=∃ vs e fr,o = .cells vs e fr∧RepVs φ R w (c.cells j k) vs.toList∧NoFr fr vs.size
 mono hR hw hφ h:=by
  obtain ⟨vs,e,fr,h2,h3,h4⟩:=h;exact ⟨vs,e,fr,h2,RepVs.mono hR hw (fun id hi=>hφ id (cells_ids c j k id hi)) h3,h4⟩
theorem bxS_has (s:SS) (id:Nat):AV.hasAny id (bxS s) = false:=rfl
def strX (x:Option SS):XCh where
 ids:=[]
 fixed:=false
 nil:=x = none
 rel φ R w _ o _:=∃ s vs e fr,x = some s∧o = .cells vs e fr∧RepVs φ R w (bxS s) vs.toList∧NoFr fr vs.size
 mono hR hw hφ h:=by
  obtain ⟨s,vs,e,fr,h1,h2,h3,h4⟩:=h;exact ⟨s,vs,e,fr,h1,h2,RepVs.mono hR hw (fun id hi=>by rw [bxS_has] at hi;cases hi) h3,h4⟩
theorem Conv.conB (c:Cnn) (j k:Nat):Conv (.ext (conX c j k)) (.box (c.cells j k)):=fun φ R w id h=>by
 rcases h with ⟨_,h⟩|⟨b,cap,o,h1,h2,⟨vs,e,fr,rfl,h4,h5⟩,h6⟩
 ·
  exact h.elim
 ·
  exact ⟨b,cap,vs,e,fr,h1,h2,h4,h6,h5⟩
theorem Conv.conX (c:Cnn) (j k:Nat):Conv (.box (c.cells j k)) (.ext (conX c j k)):=fun φ R w id h=>by
 obtain ⟨b,cap,vs,e,fr,h1,h2,h3,h4,h5⟩:=h;exact .inr ⟨b,cap,_,h1,h2,⟨vs,e,fr,rfl,h3,h5⟩,h4⟩
theorem Conv.strB (s:SS):Conv (.ext (strX (some s))) (.box (bxS s)):=fun φ R w id h=>by
 rcases h with ⟨_,h⟩|⟨b,cap,o,h1,h2,⟨s',vs,e,fr,h3,rfl,h4,h5⟩,h6⟩
 ·
  cases h
 ·
  simp only [Option.some.injEq] at h3;subst h3;exact ⟨b,cap,vs,e,fr,h1,h2,h4,h6,h5⟩
theorem Conv.strX (s:SS):Conv (.box (bxS s)) (.ext (strX (some s))):=fun φ R w id h=>by
 obtain ⟨b,cap,vs,e,fr,h1,h2,h3,h4,h5⟩:=h;exact .inr ⟨b,cap,_,h1,h2,⟨s,vs,e,fr,rfl,rfl,h3,h5⟩,h4⟩
abbrev Cnn.s1 (c:Cnn):Option SS:=c.ss.map (·.1)
abbrev Cnn.s2 (c:Cnn):Option SS:=c.ss.map (·.2)
abbrev cnU (c:Cnn) (i j k:Nat):List (Nat × Chunk):=[(i,.ext (conX c j k)),(j,.ext (strX c.s1)),(k,.ext (strX c.s2))]
theorem lk3 {a b c d:Chunk} {j:Nat} (h:lookup j [(0,a),(1,b),(2,c)] = some d):(j = 0∧d = a)∨(j = 1∧d = b)∨(j = 2∧d = c):=by
 rw [lookup_cons] at h;split at h
 ·
  rename_i e;exact .inl ⟨e.symm,(Option.some.inj h).symm⟩
 ·
  rw [lookup_cons] at h;split at h
  ·
   rename_i e;exact .inr (.inl ⟨e.symm,(Option.some.inj h).symm⟩)
  ·
   rw [lookup_cons] at h;split at h
   ·
    rename_i e;exact .inr (.inr ⟨e.symm,(Option.some.inj h).symm⟩)
   ·
    cases h
theorem lk1 {a d:Chunk} {j:Nat} (h:lookup j [(0,a)] = some d):j = 0∧d = a:=by
 rw [lookup_cons] at h;split at h
 ·
  rename_i e;exact ⟨e.symm,(Option.some.inj h).symm⟩
 ·
  cases h
theorem ret_any {ret:AV} (hr:∀ j,ret.has j = false) (φ φ':Fw.Place) (R:Prot) (w:World) (v:Value) (h:RepV φ R w ret v):RepV φ' R w ret v:=
 RepV.mono (fun _ _ h=>h) (fun _ _ _=>rfl) (fun j hj=>by rw [hr j] at hj;cases hj) h
def only0 (k:Nat):Option Nat:=if k = 0 then some 0 else none
theorem only0_inj (i j a:Nat) (h1:only0 i = some a) (h2:only0 j = some a):i = j:=by
 unfold only0 at h1 h2
 split at h1 <;> split at h2 <;> simp_all
theorem pre_n (st:Int) (p g:Hf):∀ j c,lookup j (cnN st p g) = some c→∃ c',lookup j (cnU ⟨st,p,g,none⟩ 0 1 2) = some c'∧Conv c' c:=fun j c hj=>by
 obtain ⟨rfl,rfl⟩:=lk1 hj;exact ⟨_,rfl,Conv.conB ⟨st,p,g,none⟩ 1 2⟩
theorem pre_h (st:Int) (p g:Hf) (s t:SS):∀ j c,lookup j (cnH st p g s t) = some c→∃ c',lookup j (cnU ⟨st,p,g,some (s,t)⟩ 0 1 2) = some c'∧Conv c' c:=fun j c hj=>by
 rcases lk3 hj with ⟨rfl,rfl⟩|⟨rfl,rfl⟩|⟨rfl,rfl⟩
 ·
  exact ⟨_,rfl,Conv.conB ⟨st,p,g,some (s,t)⟩ 1 2⟩
 ·
  exact ⟨_,rfl,Conv.strB s⟩
 ·
  exact ⟨_,rfl,Conv.strB t⟩
theorem fix_U {c c':Cnn} {h:List (Nat × Chunk)} {ρ:Nat→Option Nat} (hρ:ρ 0 = some 0) (hh:∃ cs,lookup 0 h = some (.box cs)):∀ j d,lookup j (cnU c 0 1 2) = some d→d.fixed = true→ρ j = some j∧(∃ d',lookup j h = some d'∧d'.fixed = true)∧∃ d',lookup j (cnU c' 0 1 2) = some d'∧d'.fixed = true:=fun j d hj hd=>by
 rcases lk3 hj with ⟨rfl,rfl⟩|⟨rfl,rfl⟩|⟨rfl,rfl⟩
 ·
  obtain ⟨cs,hcs⟩:=hh;exact ⟨hρ,⟨_,hcs,rfl⟩,⟨_,rfl,rfl⟩⟩
 ·
  cases hd
 ·
  cases hd
theorem post_n {st:Int} {p g:Hf} {φ:Fw.Place} {R:Prot} {w:World} (h:ChunkRel φ R w 0 (.box (cnC st p g .nilp .nilp))):∀ j c,lookup j (cnU ⟨st,p,g,none⟩ 0 1 2) = some c→ChunkRel (fun k=>(only0 k).bind φ) R w j c:=fun j c hj=>by
 rcases lk3 hj with ⟨rfl,rfl⟩|⟨rfl,rfl⟩|⟨rfl,rfl⟩
 ·
  refine Conv.conX ⟨st,p,g,none⟩ 1 2 _ _ _ _ ?_;exact ChunkRel.mono (c:=.box (cnC st p g .nilp .nilp)) h rfl (fun k hk=>absurd hk (by simp [Chunk.has,AV.hasAny,AV.has])) (fun _ _ h=>h) (fun _ _ _=>rfl) (fun _ _ _ _=>⟨rfl,fun _ h=>h⟩)
 ·
  exact .inl ⟨rfl,rfl⟩
 ·
  exact .inl ⟨rfl,rfl⟩
theorem conv_nn {f:FuncId} {args:List AV} {ret:AV} {st st':Int} {p g p' g':Hf} (k:HSpec P G f args (cnN st p g) ret (cnN st' p' g')) (hr:∀ j,ret.has j = false) :
  HSpec P G f args (cnU ⟨st,p,g,none⟩ 0 1 2) ret (cnU ⟨st',p',g',none⟩ 0 1 2):=
 HSpec.conv k only0 (pre_n st p g) (fun φ R w hh=>post_n (hh.rel 0 _ rfl)) (fun j a ha _=>by
  unfold only0 at ha
  split at ha
  ·
   simp only [Option.some.injEq] at ha;subst ha;exact ⟨_,rfl⟩
  ·
   cases ha) only0_inj (fun φ R w v h=>ret_any hr _ _ _ _ _ h) (fix_U rfl ⟨_,rfl⟩)
theorem conv_hn {f:FuncId} {args:List AV} {ret:AV} {st st':Int} {p g p' g':Hf} {s t s' t':SS} (k:HSpec P G f args (cnH st p g s t) ret [(0,.box (cnC st' p' g' .nilp .nilp)),(1,.box (bxS s')),(2,.box (bxS t'))]) (hr:∀ j,ret.has j = false) :
  HSpec P G f args (cnU ⟨st,p,g,some (s,t)⟩ 0 1 2) ret (cnU ⟨st',p',g',none⟩ 0 1 2):=
 HSpec.conv k only0 (pre_h st p g s t) (fun φ R w hh=>post_n (hh.rel 0 _ rfl)) (fun j a ha _=>by
  unfold only0 at ha
  split at ha
  ·
   simp only [Option.some.injEq] at ha;subst ha;exact ⟨_,rfl⟩
  ·
   cases ha) only0_inj (fun φ R w v h=>ret_any hr _ _ _ _ _ h) (fix_U rfl ⟨_,rfl⟩)
theorem conv_hh {f:FuncId} {args:List AV} {ret:AV} {st st':Int} {p g p' g':Hf} {s t s' t':SS} (k:HSpec P G f args (cnH st p g s t) ret (cnH st' p' g' s' t')) :
  HSpec P G f args (cnU ⟨st,p,g,some (s,t)⟩ 0 1 2) ret (cnU ⟨st',p',g',some (s',t')⟩ 0 1 2):=
 HSpec.conv k some (pre_h st p g s t) (fun φ R w hh j c hj=>by
  rcases lk3 hj with ⟨rfl,rfl⟩|⟨rfl,rfl⟩|⟨rfl,rfl⟩
  ·
   exact Conv.conX ⟨st',p',g',some (s',t')⟩ 1 2 _ _ _ _ (hh.rel 0 _ rfl)
  ·
   exact Conv.strX s' _ _ _ _ (hh.rel 1 _ rfl)
  ·
   exact Conv.strX t' _ _ _ _ (hh.rel 2 _ rfl)) (fun j a ha hc=>by
  simp only [Option.some.injEq] at ha;subst ha;obtain ⟨c,hc⟩:=hc;rcases lk3 hc with ⟨rfl,rfl⟩|⟨rfl,rfl⟩|⟨rfl,rfl⟩ <;> exact ⟨_,rfl⟩) (fun i j a h1 h2=>by rw [Option.some.inj h1,Option.some.inj h2]) (fun φ R w v h=>h) (fix_U rfl ⟨_,rfl⟩)
def up300 (k:Nat):Option Nat:=if k = 0 then some 0 else if k = 1 then some 300 else if k = 2 then some 301 else none
theorem conv_nh {f:FuncId} {args:List AV} {ret:AV} {st st':Int} {p g p' g':Hf} {s' t':SS} (k:HSpec P G f args (cnN st p g) ret [(0,.box (cnC st' p' g' (.loc 300 0) (.loc 301 0))),(300,.box (bxS s')),(301,.box (bxS t'))]) (hr:∀ j,ret.has j = false) :
  HSpec P G f args (cnU ⟨st,p,g,none⟩ 0 1 2) ret (cnU ⟨st',p',g',some (s',t')⟩ 0 1 2):=
 HSpec.conv k up300 (pre_n st p g) (fun φ R w hh j c hj=>by
  rcases lk3 hj with ⟨rfl,rfl⟩|⟨rfl,rfl⟩|⟨rfl,rfl⟩
  ·
   refine Conv.conX ⟨st',p',g',some (s',t')⟩ 1 2 _ _ _ _ ?_;obtain ⟨b,cap,vs,e,fr,h1,h2,h3,h4,h5⟩:=hh.rel 0 _ rfl;refine ⟨b,cap,vs,e,fr,h1,h2,?_,h4,h5⟩;have e2:cnC st' p' g' (.loc 300 0) (.loc 301 0) = AV.renL (fun k=>(up300 k).getD 0) (cnC st' p' g' (.loc 1 0) (.loc 2 0)):=rfl;rw [e2,RepVs.ren] at h3;refine RepVs.mono (fun _ _ h=>h) (fun _ _ _=>rfl) (fun id hi=>?_) h3;have:=cells_ids ⟨st',p',g',some (s',t')⟩ 1 2 id hi;simp only [List.contains_eq_mem,List.mem_cons,List.not_mem_nil,or_false,decide_eq_true_eq] at this;rcases this with rfl|rfl <;> rfl
  ·
   refine Conv.strX s' _ _ _ _ ?_;obtain ⟨b,cap,vs,e,fr,h1,h2,h3,h4,h5⟩:=hh.rel 300 _ rfl;exact ⟨b,cap,vs,e,fr,h1,h2,RepVs.mono (fun _ _ h=>h) (fun _ _ _=>rfl) (fun id hi=>by rw [bxS_has] at hi;cases hi) h3,h4,h5⟩
  ·
   refine Conv.strX t' _ _ _ _ ?_;obtain ⟨b,cap,vs,e,fr,h1,h2,h3,h4,h5⟩:=hh.rel 301 _ rfl;exact ⟨b,cap,vs,e,fr,h1,h2,RepVs.mono (fun _ _ h=>h) (fun _ _ _=>rfl) (fun id hi=>by rw [bxS_has] at hi;cases hi) h3,h4,h5⟩) (fun j a ha hc=>by
  obtain ⟨c,hc⟩:=hc;rcases lk3 hc with ⟨rfl,rfl⟩|⟨rfl,rfl⟩|⟨rfl,rfl⟩ <;> · rw [← Option.some.inj ha];exact ⟨_,rfl⟩) (fun i j a h1 h2=>by
  unfold up300 at h1 h2
  (repeat' split at h1) <;> (repeat' split at h2) <;> simp_all <;> omega) (fun φ R w v h=>ret_any hr _ _ _ _ _ h) (fix_U rfl ⟨_,rfl⟩)
theorem lk3' {a b c d:Chunk} {i j k n:Nat} (h:lookup n [(i,a),(j,b),(k,c)] = some d):(n = i∧d = a)∨(n = j∧d = b)∨(n = k∧d = c):=by
 rw [lookup_cons] at h;split at h
 ·
  rename_i e;exact .inl ⟨e.symm,(Option.some.inj h).symm⟩
 ·
  rw [lookup_cons] at h;split at h
  ·
   rename_i e;exact .inr (.inl ⟨e.symm,(Option.some.inj h).symm⟩)
  ·
   rw [lookup_cons] at h;split at h
   ·
    rename_i e;exact .inr (.inr ⟨e.symm,(Option.some.inj h).symm⟩)
   ·
    cases h
theorem cells_ren (c:Cnn) (i j k:Nat):AV.renL (renOf [i,j,k]) (c.cells 1 2) = c.cells j k:=by
 obtain ⟨st,p,g,ss⟩:=c;cases ss <;> rfl
theorem con_ren (c:Cnn) (i j k:Nat) (φ:Fw.Place) (R:Prot) (w:World) (b:Nat) (o:Obj) (cap:Nat):((conX c 1 2).ren (renOf [i,j,k])).rel φ R w b o cap ↔ (conX c j k).rel φ R w b o cap:=by
 constructor
 ·
  rintro ⟨vs,e,fr,h1,h2,h3⟩;refine ⟨vs,e,fr,h1,?_,h3⟩;rw [← cells_ren c i j k,RepVs.ren];exact h2
 ·
  rintro ⟨vs,e,fr,h1,h2,h3⟩;refine ⟨vs,e,fr,h1,?_,h3⟩;rw [← cells_ren c i j k,RepVs.ren] at h2;exact h2
theorem str_ren (x:Option SS) (ρ:Nat→Nat) (φ:Fw.Place) (R:Prot) (w:World) (b:Nat) (o:Obj) (cap:Nat):((strX x).ren ρ).rel φ R w b o cap ↔ (strX x).rel φ R w b o cap:=by
 constructor
 ·
  rintro ⟨s,vs,e,fr,h0,h1,h2,h3⟩;exact ⟨s,vs,e,fr,h0,h1,RepVs.mono (fun _ _ h=>h) (fun _ _ _=>rfl) (fun id hi=>by rw [bxS_has] at hi;cases hi) h2,h3⟩
 ·
  rintro ⟨s,vs,e,fr,h0,h1,h2,h3⟩;exact ⟨s,vs,e,fr,h0,h1,RepVs.mono (fun _ _ h=>h) (fun _ _ _=>rfl) (fun id hi=>by rw [bxS_has] at hi;cases hi) h2,h3⟩
theorem conv_ext {X Y:XCh} (hn:X.nil→Y.nil) (hr:∀ φ R w b o cap,X.rel φ R w b o cap→Y.rel φ R w b o cap):Conv (.ext X) (.ext Y):=fun φ R w id h=>by
 rcases h with ⟨h1,h2⟩|⟨b,cap,o,h1,h2,h3,h4⟩
 ·
  exact .inl ⟨h1,hn h2⟩
 ·
  exact .inr ⟨b,cap,o,h1,h2,hr _ _ _ _ _ _ h3,h4⟩
theorem lkA (i j k:Nat) (a b c:Chunk):lookup i [(i,a),(j,b),(k,c)] = some a:=by rw [lookup_cons,if_pos rfl]
theorem lkB {i j:Nat} (h:i≠j) (k:Nat) (a b c:Chunk):lookup j [(i,a),(j,b),(k,c)] = some b:=by rw [lookup_cons,if_neg h,lookup_cons,if_pos rfl]
theorem lkC {i j k:Nat} (h:i≠k) (h2:j≠k) (a b c:Chunk):lookup k [(i,a),(j,b),(k,c)] = some c:=by rw [lookup_cons,if_neg h,lookup_cons,if_neg h2,lookup_cons,if_pos rfl]
theorem at_U {f:FuncId} {rest:List AV} {ret:AV} {c c':Cnn} (h:HSpec P G f (.loc 0 0 :: rest) (cnU c 0 1 2) ret (cnU c' 0 1 2)) (i j k:Nat) (hn:[i,j,k].Nodup)
  (hrest:AV.renL (renOf [i,j,k]) rest = rest) (hret:ret.ren (renOf [i,j,k]) = ret):HSpec P G f (.loc i 0 :: rest) (cnU c i j k) ret (cnU c' i j k):=by
 have h2:=FSpec.ren h (renOf [i,j,k]) (renOf_inj hn);rw [show AV.renL (renOf [i,j,k]) (.loc 0 0 :: rest) = .loc i 0 :: AV.renL (renOf [i,j,k]) rest from rfl,hrest,hret] at h2;have hd:i≠j∧i≠k∧j≠k:=by simp at hn;omega
 have eR:∀ c:Cnn,renH (renOf [i,j,k]) (cnU c 0 1 2) = [(i,.ext ((conX c 1 2).ren (renOf [i,j,k]))),(j,.ext ((strX c.s1).ren (renOf [i,j,k]))),(k,.ext ((strX c.s2).ren (renOf [i,j,k])))]:=fun _=>rfl
 rw [eR,eR] at h2;refine HSpec.conv h2 some (fun n d hd'=>?_) (fun φ R w hh n d hd'=>?_) (fun n a ha hc=>?_) (fun _ _ _ h1 h2=>by rw [Option.some.inj h1,Option.some.inj h2]) (fun _ _ _ _ h=>h) (fun n d hd' hfx=>?_)
 ·
  rcases lk3' hd' with ⟨e,e2⟩|⟨e,e2⟩|⟨e,e2⟩
  ·
   rw [e,e2];exact ⟨.ext (conX c j k),lkA ..,conv_ext (fun h=>h) (fun φ R w b o cap h=>(con_ren c i j k φ R w b o cap).2 h)⟩
  ·
   rw [e,e2];exact ⟨.ext (strX c.s1),lkB hd.1 ..,conv_ext (fun h=>h) (fun φ R w b o cap h=>(str_ren _ _ φ R w b o cap).2 h)⟩
  ·
   rw [e,e2];exact ⟨.ext (strX c.s2),lkC hd.2.1 hd.2.2 ..,conv_ext (fun h=>h) (fun φ R w b o cap h=>(str_ren _ _ φ R w b o cap).2 h)⟩
 ·
  rcases lk3' hd' with ⟨e,e2⟩|⟨e,e2⟩|⟨e,e2⟩
  ·
   rw [e,e2];exact conv_ext (X:=(conX c' 1 2).ren (renOf [i,j,k])) (Y:=conX c' j k) (fun h=>h) (fun φ R w b o cap h=>(con_ren c' i j k φ R w b o cap).1 h) _ _ _ _ (hh.rel i _ (lkA ..))
  ·
   rw [e,e2];exact conv_ext (X:=(strX c'.s1).ren (renOf [i,j,k])) (fun h=>h) (fun φ R w b o cap h=>(str_ren c'.s1 (renOf [i,j,k]) φ R w b o cap).1 h) _ _ _ _ (hh.rel j _ (lkB hd.1 ..))
  ·
   rw [e,e2];exact conv_ext (X:=(strX c'.s2).ren (renOf [i,j,k])) (fun h=>h) (fun φ R w b o cap h=>(str_ren c'.s2 (renOf [i,j,k]) φ R w b o cap).1 h) _ _ _ _ (hh.rel k _ (lkC hd.2.1 hd.2.2 ..))
 ·
  simp only [Option.some.injEq] at ha;subst ha;obtain ⟨d,hd'⟩:=hc;rcases lk3' hd' with ⟨e,e2⟩|⟨e,e2⟩|⟨e,e2⟩
  ·
   rw [e];exact ⟨_,lkA ..⟩
  ·
   rw [e];exact ⟨_,lkB hd.1 ..⟩
  ·
   rw [e];exact ⟨_,lkC hd.2.1 hd.2.2 ..⟩
 ·
  rcases lk3' hd' with ⟨e,e2⟩|⟨e,e2⟩|⟨e,e2⟩
  ·
   rw [e];exact ⟨rfl,⟨_,lkA ..,rfl⟩,⟨_,lkA ..,rfl⟩⟩
  ·
   rw [e2] at hfx;cases hfx
  ·
   rw [e2] at hfx;cases hfx
end Go.Proofs.YtchiagnggnblaaaGreatDoor.Ac
namespace Go.Proofs.YtchiagnggnblaaaGreatDoor.Ac
open Go Go.Fw Go.Ov Go.Proofs.YtchiagnggnblaaaGreatDoor.Fx
def seg1 (c:Cnn) (q k f:Int) (o:List optT.D) (x:List UInt8):List Evt × Cnn:=
 match c.ss with
 | none=>if opensB c.st c.p c.g q k f o x = true then ((1,1,0,0,[],()) :: tkE 1 2 (nwS c.p) (nwS c.g) q k f x,⟨stM (tkS (nwS c.p) q f x) (tkT (nwS c.g) k),tkH c.p (nwS c.p) q f o x,c.g,some (tkS (nwS c.p) q f x,tkT (nwS c.g) k)⟩)
  else ((sgN1 c.st c.p c.g q k f o x).1,⟨(sgN1 c.st c.p c.g q k f o x).2.1,(sgN1 c.st c.p c.g q k f o x).2.2,c.g,none⟩)
 | some (s,t)=>if opB c.st = true then ((sgH 1 2 c.st c.p c.g s t q k f o x).1,⟨(sgH 1 2 c.st c.p c.g s t q k f o x).2.1,(sgH 1 2 c.st c.p c.g s t q k f o x).2.2.1,c.g,some ((sgH 1 2 c.st c.p c.g s t q k f o x).2.2.2.1,(sgH 1 2 c.st c.p c.g s t q k f o x).2.2.2.2)⟩)
  else if (flags f && (synB f && !ackB f)) = true then ([],⟨1,begH c.p q o,c.g,none⟩)
  else ([(7,1,s.pos,(if flags f = true then 7 else 3),[],())],⟨c.st,c.p,c.g,some (s,t)⟩)
def seg2 (c:Cnn) (q k f:Int) (o:List optT.D) (x:List UInt8):List Evt × Cnn:=
 match c.ss with
 | none=>((sgN2 c.st c.p c.g q k f o).1,⟨(sgN2 c.st c.p c.g q k f o).2.1,c.p,(sgN2 c.st c.p c.g q k f o).2.2,none⟩)
 | some (s,t)=>if opB c.st = true then ((sgH 2 1 c.st c.g c.p t s q k f o x).1,⟨(sgH 2 1 c.st c.g c.p t s q k f o x).2.1,c.p,(sgH 2 1 c.st c.g c.p t s q k f o x).2.2.1,some ((sgH 2 1 c.st c.g c.p t s q k f o x).2.2.2.2,(sgH 2 1 c.st c.g c.p t s q k f o x).2.2.2.1)⟩)
  else ([(7,2,t.pos,(if flags f = true then 7 else 3),[],())],⟨c.st,c.p,c.g,some (s,t)⟩)
def segC (d:Int) (c:Cnn) (q k f:Int) (o:List optT.D) (x:List UInt8):List Evt × Cnn:=
 if d = 1 then seg1 c q k f o x else if d = 2 then seg2 c q k f o x else ([],c)
def CInv (c:Cnn) (B:Int):Prop:=match c.ss with
 | none=>c.st = 0∨c.st = 1∨c.st = 2
 | some (s,t)=>SInv s B∧SInv t B∧(c.st = 3∨c.st = 4∨c.st = 5∨c.st = 6)
theorem CInv.mono {c:Cnn} {B B':Int} (h:CInv c B) (hB:B≤B'):CInv c B':=by
 unfold CInv at h ⊢
 split
 ·
  rename_i e;rw [e] at h;exact h
 ·
  rename_i s t e;rw [e] at h;exact ⟨h.1.mono hB,h.2.1.mono hB,h.2.2⟩
theorem opB_n {st:Int} (h:st = 0∨st = 1∨st = 2):opB st = false:=by
 rcases h with rfl|rfl|rfl <;> decide
theorem has_list (t:Ty) (l:List t.D) (j:Nat):(AV.list t l).has j = false:=rfl
theorem f8_u (c:Cnn) (B:Int) (hi:CInv c B) (h0:0≤B) (hB:B≤1099511600000) (d:Int) (a b q k f w u:Int) (o:List optT.D) (x:List UInt8) (ho:o.length < 9223372036854775807) (hx:x.length≤1000000) :
  HSpec P G 8 [.loc 0 0,.int .i64 d,tcpV a b q k f w u o x] (cnU c 0 1 2) (.list evT (segC d c q k f o x).1) (cnU (segC d c q k f o x).2 0 1 2):=by
 obtain ⟨st,p,g,ss⟩:=c;unfold segC
 by_cases h1:d = 1
 ·
  subst h1;rw [if_pos rfl];cases ss with
  | none=>
   have hi:st = 0∨st = 1∨st = 2:=hi;unfold seg1
   dsimp only
   cases hop:opensB st p g q k f o x with
   | true=>
    rw [if_pos rfl];exact conv_nh (f8_a st p g a b q k f w u o x ho hx (opB_n hi) hop) (has_list _ _)
   | false=>
    rw [if_neg (by decide)];exact conv_nn (f8_n1 st p g a b q k f w u o x ho hx (opB_n hi) hop) (has_list _ _)
  | some y=>
   obtain ⟨s,t⟩:=y;obtain ⟨is,it,hst⟩:SInv s B∧SInv t B∧(st = 3∨st = 4∨st = 5∨st = 6):=hi;unfold seg1
   dsimp only
   cases hop:opB st with
   | true=>
    rw [if_pos rfl];exact conv_hh (f8_o1 st p g s t B is it hB a b q k f w u o x ho hx hop)
   | false=>
    rw [if_neg (by decide)];cases hf:(flags f && (synB f && !ackB f)) with
    | true=>
     rw [if_pos rfl];have hf':=hf;rw [Bool.and_eq_true] at hf';exact conv_hn (f8_s1 st p g s t a b q k f w u o x ho hx hop (by rcases hst with rfl|rfl|rfl|rfl <;> decide) hf'.1 hf'.2) (has_list _ _)
    | false=>
     rw [if_neg (by decide)];exact conv_hh (f8_r1 st p g s t a b q k f w u o x ho hx hop (by rcases hst with rfl|rfl|rfl|rfl <;> decide) (by rcases hst with rfl|rfl|rfl|rfl <;> decide) hf)
 ·
  rw [if_neg h1];by_cases h2:d = 2
  ·
   subst h2;rw [if_pos rfl];cases ss with
   | none=>
    have hi:st = 0∨st = 1∨st = 2:=hi;exact conv_nn (f8_n2 st p g a b q k f w u o x ho hx (opB_n hi)) (has_list _ _)
   | some y=>
    obtain ⟨s,t⟩:=y;obtain ⟨is,it,hst⟩:SInv s B∧SInv t B∧(st = 3∨st = 4∨st = 5∨st = 6):=hi;unfold seg2
    dsimp only
    cases hop:opB st with
    | true=>
     rw [if_pos rfl];exact conv_hh (f8_o2 st g p t s B it is hB a b q k f w u o x ho hx hop)
    | false=>
     rw [if_neg (by decide)];exact conv_hh (f8_r2 st p g s t a b q k f w u o x ho hx hop (by rcases hst with rfl|rfl|rfl|rfl <;> decide) (by rcases hst with rfl|rfl|rfl|rfl <;> decide))
  ·
   rw [if_neg h2];cases ss with
   | none=>exact conv_nn (f8_xn st p g d a b q k f w u o x ho hx h1 h2) (has_list _ _)
   | some y=>exact conv_hh (f8_xh st p g y.1 y.2 d a b q k f w u o x ho hx h1 h2)
theorem f11_u (c:Cnn):HSpec P G 11 [.loc 0 0] (cnU c 0 1 2) (.int .i64 c.st) (cnU c 0 1 2):=by
 obtain ⟨st,p,g,ss⟩:=c;cases ss with
 | none=>exact conv_nn (f11_n st p g) (fun _=>rfl)
 | some y=>exact conv_hh (f11_h st p g y.1 y.2)
def offC (c:Cnn) (d:Int):Int:=match c.ss with
 | none=>0
 | some y=>if d = 1 then y.1.pos else y.2.pos
theorem f17_u1 (c:Cnn):HSpec P G 17 [.loc 0 0,.int .i64 1] (cnU c 0 1 2) (.int .i64 (offC c 1)) (cnU c 0 1 2):=by
 obtain ⟨st,p,g,ss⟩:=c;cases ss with
 | none=>exact conv_nn (f17_n1 st p g) (fun _=>rfl)
 | some y=>exact conv_hh (f17_h1 st p g y.1 y.2)
theorem f17_u2 (c:Cnn):HSpec P G 17 [.loc 0 0,.int .i64 2] (cnU c 0 1 2) (.int .i64 (offC c 2)) (cnU c 0 1 2):=by
 obtain ⟨st,p,g,ss⟩:=c;cases ss with
 | none=>exact conv_nn (f17_n2 st p g) (fun _=>rfl)
 | some y=>exact conv_hh (f17_h2 st p g y.1 y.2)
def sizC (c:Cnn):Int:=match c.ss with
 | none=>0
 | some y=>if c.st = 6 then 0 else lenSum y.1.l + lenSum y.2.l
theorem f13_u (c:Cnn) (B:Int) (hi:CInv c B):HSpec P G 13 [.loc 0 0] (cnU c 0 1 2) (.int .i64 (sizC c)) (cnU c 0 1 2):=by
 obtain ⟨st,p,g,ss⟩:=c;cases ss with
 | none=>
  have hi:st = 0∨st = 1∨st = 2:=hi;exact conv_nn (f13_n st p g (by rcases hi with rfl|rfl|rfl <;> decide)) (fun _=>rfl)
 | some y=>
  obtain ⟨s,t⟩:=y;obtain ⟨is,it,hst⟩:SInv s B∧SInv t B∧(st = 3∨st = 4∨st = 5∨st = 6):=hi;by_cases h6:st = 6
  ·
   subst h6;exact conv_hh (f13_6 p g s t)
  ·
   have:=conv_hh (f13_h st p g s t B is it h6);rw [show lenSum s.l + lenSum t.l = sizC ⟨st,p,g,some (s,t)⟩ from (if_neg h6).symm] at this;exact this
def vw1 (p g:Hf) (s:SS):Bool × Int × Int × Int × Bool × Int:=(true,nextS s,g.high,p.win,p.stamped && g.stamped,if (p.stamped && g.stamped) = true then p.stamp else 0)
def vwC (c:Cnn) (d:Int):Bool × Int × Int × Int × Bool × Int:=match c.ss with
 | none=>(false,0,0,0,false,0)
 | some y=>if opB c.st = true then (if d = 1 then vw1 c.p c.g y.1 else vw1 c.g c.p y.2) else (false,0,0,0,false,0)
abbrev vwV (z:Bool × Int × Int × Int × Bool × Int):AV:=viewV z.1 z.2.1 z.2.2.1 z.2.2.2.1 z.2.2.2.2.1 z.2.2.2.2.2
theorem f15_u1 (c:Cnn) (B:Int) (hi:CInv c B):HSpec P G 15 [.loc 0 0,.int .i64 1] (cnU c 0 1 2) (vwV (vwC c 1)) (cnU c 0 1 2):=by
 obtain ⟨st,p,g,ss⟩:=c;cases ss with
 | none=>exact conv_nn (f15_n1 st p g (opB_n hi)) (fun _=>rfl)
 | some y=>
  have:=conv_hh (f15_h1 st p g y.1 y.2);unfold vwC
  dsimp only
  cases ho:opB st <;> rw [ho] at this
  ·
   rw [if_neg (by decide)] at this ⊢;exact this
  ·
   rw [if_pos rfl] at this ⊢;exact this
theorem f15_u2 (c:Cnn) (B:Int) (hi:CInv c B):HSpec P G 15 [.loc 0 0,.int .i64 2] (cnU c 0 1 2) (vwV (vwC c 2)) (cnU c 0 1 2):=by
 obtain ⟨st,p,g,ss⟩:=c;cases ss with
 | none=>exact conv_nn (f15_n2 st p g (opB_n hi)) (fun _=>rfl)
 | some y=>
  have:=conv_hh (f15_h2 st p g y.1 y.2);unfold vwC
  dsimp only
  cases ho:opB st <;> rw [ho] at this
  ·
   rw [if_neg (by decide)] at this ⊢;exact this
  ·
   rw [if_pos rfl] at this ⊢;exact this
end Go.Proofs.YtchiagnggnblaaaGreatDoor.Ac
