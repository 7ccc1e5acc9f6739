import Derived.Test.YtchiagnggnblaaaGreatDoorSgK
import Derived.Test.YtchiagnggnblaaaGreatDoorGFw12
set_option linter.all false
namespace Go.Proofs.YtchiagnggnblaaaGreatDoor.Ac
open Go Go.Fw Go.Ov Go.Proofs.YtchiagnggnblaaaGreatDoor.Fx
def sgR1 (st:Int) (p g:Hf) (y:Ga) (q k f:Int) (o:List optT.D) (x:List UInt8):List Evt × Int × Hf × Ga:=
 if (!flags f) = true then ([(7,1,0,3,[],())],st,p,y) else bgN1 st p g y q k f o x
def sgR2 (st:Int) (p g:Hf) (q k f:Int) (o:List optT.D):List Evt × Int × Hf:=
 if (!flags f) = true then ([(7,2,0,3,[],())],st,g) else bgN2 st p g q k f o
set_option maxRecDepth 16000 in
theorem f9_n1 (st:Int) (p g:Hf) (y:Ga) (a b q k f w u:Int) (o:List optT.D) (x:List UInt8) (ho:o.length < 9223372036854775807) (hx:x.length≤1000000) (hq:U32 q) (hb:Both st p g) (hop:opB st = false) (hno:opensB st p g q k f o x = false) :
  HSpec P G 9 [.loc 0 0,.int .i64 1,tcpV a b q k f w u o x] (rnG st p g y) (.list evT (sgR1 st p g y q k f o x).1) (rnG (sgR1 st p g y q k f o x).2.1 (sgR1 st p g y q k f o x).2.2.1 g (sgR1 st p g y q k f o x).2.2.2):=by
 generalize hz:sgR1 st p g y q k f o x = z;refine fspec_intro hT (rnG st p g y) (rnG z.2.1 z.2.2.1 g z.2.2.2) 1 1 Tryz.func9 (by decide) rfl rfl (by kernel_rfl) rfl rfl ?_
 refine Tri.seq (Tri.reg hT ?_);refine Tri.seq ?_;refine Tri.seq (Tri.reg hT ?_);refine ⟨_,[],trivial,rfl,rfl,fun h=>⟨rfl,rfl,rfl⟩,?_⟩;refine ⟨_,[],trivial,rfl,rfl,fun h=>⟨h,rfl,rfl,rfl⟩,?_⟩;refine ⟨_,[],trivial,rfl,rfl,fun h=>⟨h,rfl,rfl,rfl⟩,?_⟩;refine ⟨_,[],trivial,rfl,rfl,fun h=>⟨rfl,rfl,rfl⟩,?_⟩;refine ⟨_,[],trivial,rfl,rfl,fun h=>⟨h,rfl,rfl,rfl⟩,?_⟩;refine ⟨_,[],trivial,rfl,rfl,fun h=>⟨h,⟨fun hc=>ga h hc,fun _=>trivial⟩,rfl,rfl,rfl⟩,?_⟩;refine ⟨⟨fun _=>trivial,fun hc=>(gn hc)⟩,?_⟩;refine (Tri.cond ⟨fun h1=>?_,fun h1=>?_⟩)
 ·
  exact absurd h1 (by decide)
 ·
  refine (Tri.skip ?_);refine Tri.seq ?_;refine Tri.seq (Tri.reg hT ?_);refine .inl (.inl ⟨_,fun _=>rfl,f28_a f,?_⟩);refine (Tri.cond ⟨fun h2=>?_,fun h2=>?_⟩)
  ·
   refine Tri.seq (Tri.reg hT ?_);refine .inl (.inr (.inl ⟨_,_,(by exact ⟨rfl,trivial⟩),(CSpec.ofH (u:=ruN st p g y.e1 y.e2 y.b1 y.b2) (f29_n1 st p g y.e1 y.e2 y.b1 y.b2 3)),(by rfl),?_⟩));refine Tri.ret ?_;have e:=(if_pos h2).symm.trans hz;exact ⟨congrArg (fun z:List Evt × Int × Hf × Ga=>AV.list evT z.1) e,congrArg (fun z:List Evt × Int × Hf × Ga=>some (Chunk.box (rfC z.2.1 z.2.2.1 g z.2.2.2.e1 z.2.2.2.e2 z.2.2.2.b1 z.2.2.2.b2 .nilp .nilp))) e,trivial⟩
  ·
   refine (Tri.skip ?_);refine Tri.seq ?_;refine Tri.seq (Tri.reg hT ?_);refine ⟨_,[],trivial,rfl,rfl,fun h=>⟨rfl,rfl,rfl⟩,?_⟩;refine ⟨_,[],trivial,rfl,rfl,fun h=>⟨h,rfl,rfl,rfl⟩,?_⟩;refine ⟨_,[],trivial,rfl,rfl,fun h=>⟨h,rfl,rfl,rfl⟩,?_⟩;refine ⟨_,[],trivial,rfl,rfl,fun h=>⟨h,rfl,rfl,rfl⟩,?_⟩;refine ⟨_,[],trivial,rfl,rfl,fun h=>⟨h,rfl,rfl,rfl⟩,?_⟩;refine ⟨⟨fun hc=>hc,fun _=>trivial⟩,?_⟩;refine (Tri.cond ⟨fun h3=>?_,fun h3=>?_⟩)
   ·
    have hno':c3 f st = true→esR p g q k f o x≠0:=(fun hc e0=>by unfold opensB at hno;rw [hc,show flags f = true by simpa using h2,decide_eq_true e0] at hno;cases hno);refine Tri.seq (Tri.reg hT ?_);refine .inl (.inr (.inl ⟨_,_,(by exact ⟨rfl,trivial⟩),(CSpec.ofH (u:=[(0,rfC st p g y.e1 y.e2 y.b1 y.b2 .nilp .nilp,some (rfC (bgN1 st p g y q k f o x).2.1 (bgN1 st p g y q k f o x).2.2.1 g (bgN1 st p g y q k f o x).2.2.2.e1 (bgN1 st p g y q k f o x).2.2.2.e2 (bgN1 st p g y q k f o x).2.2.2.b1 (bgN1 st p g y q k f o x).2.2.2.b2 .nilp .nilp))]) (f30_n1 st p g y a b q k f w u o x ho hx hq hb hno')),(by rfl),?_⟩));refine Tri.ret ?_;have e:=((if_neg (by rw [h2];decide))).symm.trans hz;exact ⟨congrArg (fun z:List Evt × Int × Hf × Ga=>AV.list evT z.1) e,congrArg (fun z:List Evt × Int × Hf × Ga=>some (Chunk.box (rfC z.2.1 z.2.2.1 g z.2.2.2.e1 z.2.2.2.e2 z.2.2.2.b1 z.2.2.2.b2 .nilp .nilp))) e,trivial⟩
   ·
    exact absurd h3 (by unfold opB at hop;by_cases q3:st = 3 <;> by_cases q4:st = 4 <;> simp_all)
set_option maxRecDepth 16000 in
theorem f9_n2 (st:Int) (p g:Hf) (y:Ga) (a b q k f w u:Int) (o:List optT.D) (x:List UInt8) (ho:o.length < 9223372036854775807) (hx:x.length≤1000000) (hop:opB st = false) :
  HSpec P G 9 [.loc 0 0,.int .i64 2,tcpV a b q k f w u o x] (rnG st p g y) (.list evT (sgR2 st p g q k f o).1) (rnG (sgR2 st p g q k f o).2.1 p (sgR2 st p g q k f o).2.2 y):=by
 generalize hz:sgR2 st p g q k f o = z;refine fspec_intro hT (rnG st p g y) (rnG z.2.1 p z.2.2 y) 1 1 Tryz.func9 (by decide) rfl rfl (by kernel_rfl) rfl rfl ?_
 refine Tri.seq (Tri.reg hT ?_);refine Tri.seq ?_;refine Tri.seq (Tri.reg hT ?_);refine ⟨_,[],trivial,rfl,rfl,fun h=>⟨rfl,rfl,rfl⟩,?_⟩;refine ⟨_,[],trivial,rfl,rfl,fun h=>⟨h,rfl,rfl,rfl⟩,?_⟩;refine ⟨_,[],trivial,rfl,rfl,fun h=>⟨h,rfl,rfl,rfl⟩,?_⟩;refine ⟨_,[],trivial,rfl,rfl,fun h=>⟨rfl,rfl,rfl⟩,?_⟩;refine ⟨_,[],trivial,rfl,rfl,fun h=>⟨h,rfl,rfl,rfl⟩,?_⟩;refine ⟨_,[],trivial,rfl,rfl,fun h=>⟨h,⟨fun hc=>ga h hc,fun _=>trivial⟩,rfl,rfl,rfl⟩,?_⟩;refine ⟨⟨fun _=>trivial,fun hc=>(gn hc)⟩,?_⟩;refine (Tri.cond ⟨fun h1=>?_,fun h1=>?_⟩)
 ·
  exact absurd h1 (by decide)
 ·
  refine (Tri.skip ?_);refine Tri.seq ?_;refine Tri.seq (Tri.reg hT ?_);refine .inl (.inl ⟨_,fun _=>rfl,f28_a f,?_⟩);refine (Tri.cond ⟨fun h2=>?_,fun h2=>?_⟩)
  ·
   refine Tri.seq (Tri.reg hT ?_);refine .inl (.inr (.inl ⟨_,_,(by exact ⟨rfl,trivial⟩),(CSpec.ofH (u:=ruN st p g y.e1 y.e2 y.b1 y.b2) (f29_n2 st p g y.e1 y.e2 y.b1 y.b2 3)),(by rfl),?_⟩));refine Tri.ret ?_;have e:=(if_pos h2).symm.trans hz;exact ⟨congrArg (fun z:List Evt × Int × Hf=>AV.list evT z.1) e,congrArg (fun z:List Evt × Int × Hf=>some (Chunk.box (rfC z.2.1 p z.2.2 y.e1 y.e2 y.b1 y.b2 .nilp .nilp))) e,trivial⟩
  ·
   refine (Tri.skip ?_);refine Tri.seq ?_;refine Tri.seq (Tri.reg hT ?_);refine ⟨_,[],trivial,rfl,rfl,fun h=>⟨rfl,rfl,rfl⟩,?_⟩;refine ⟨_,[],trivial,rfl,rfl,fun h=>⟨h,rfl,rfl,rfl⟩,?_⟩;refine ⟨_,[],trivial,rfl,rfl,fun h=>⟨h,rfl,rfl,rfl⟩,?_⟩;refine ⟨_,[],trivial,rfl,rfl,fun h=>⟨h,rfl,rfl,rfl⟩,?_⟩;refine ⟨_,[],trivial,rfl,rfl,fun h=>⟨h,rfl,rfl,rfl⟩,?_⟩;refine ⟨⟨fun hc=>hc,fun _=>trivial⟩,?_⟩;refine (Tri.cond ⟨fun h3=>?_,fun h3=>?_⟩)
   ·
    refine Tri.seq (Tri.reg hT ?_);refine .inl (.inr (.inl ⟨_,_,(by exact ⟨rfl,trivial⟩),(CSpec.ofH (u:=[(0,rfC st p g y.e1 y.e2 y.b1 y.b2 .nilp .nilp,some (rfC (bgN2 st p g q k f o).2.1 p (bgN2 st p g q k f o).2.2 y.e1 y.e2 y.b1 y.b2 .nilp .nilp))]) (f30_n2 st p g y a b q k f w u o x ho hx)),(by rfl),?_⟩));refine Tri.ret ?_;have e:=((if_neg (by rw [h2];decide))).symm.trans hz;exact ⟨congrArg (fun z:List Evt × Int × Hf=>AV.list evT z.1) e,congrArg (fun z:List Evt × Int × Hf=>some (Chunk.box (rfC z.2.1 p z.2.2 y.e1 y.e2 y.b1 y.b2 .nilp .nilp))) e,trivial⟩
   ·
    exact absurd h3 (by unfold opB at hop;by_cases q3:st = 3 <;> by_cases q4:st = 4 <;> simp_all)
set_option maxRecDepth 16000 in
theorem f9_a (st:Int) (p g:Hf) (y:Ga) (a b q k f w u:Int) (o:List optT.D) (x:List UInt8) (ho:o.length < 9223372036854775807) (hx:x.length≤1000000) (hq:U32 q) (hb:Both st p g) (hop:opB st = false) (hyes:opensB st p g q k f o x = true) :
  HSpec P G 9 [.loc 0 0,.int .i64 1,tcpV a b q k f w u o x] (rnG st p g y) (.list evT ((1,1,0,0,[],()) :: tkE 1 2 (nwS p) (nwS g) q k f x)) [(0,.box (rfC (stM (tkS (nwS p) q f x) (tkT (nwS g) k)) (tkH p (nwS p) q f o x) g (tkH p (nwS p) q f o x).high g.high (endedS (tkS (nwS p) q f x)) (endedS (tkT (nwS g) k)) (.loc 300 0) (.loc 301 0))),(300,.box (bxR (tkS (nwS p) q f x))),(301,.box (bxR (tkT (nwS g) k)))]:=by
 refine fspec_intro hT (rnG st p g y) [(0,.box (rfC (stM (tkS (nwS p) q f x) (tkT (nwS g) k)) (tkH p (nwS p) q f o x) g (tkH p (nwS p) q f o x).high g.high (endedS (tkS (nwS p) q f x)) (endedS (tkT (nwS g) k)) (.loc 300 0) (.loc 301 0))),(300,.box (bxR (tkS (nwS p) q f x))),(301,.box (bxR (tkT (nwS g) k)))] 1 1 Tryz.func9 (by decide) rfl rfl (by kernel_rfl) rfl rfl ?_;refine Tri.seq (Tri.reg hT ?_);refine Tri.seq ?_;refine Tri.seq (Tri.reg hT ?_);refine ⟨_,[],trivial,rfl,rfl,fun h=>⟨rfl,rfl,rfl⟩,?_⟩;refine ⟨_,[],trivial,rfl,rfl,fun h=>⟨h,rfl,rfl,rfl⟩,?_⟩;refine ⟨_,[],trivial,rfl,rfl,fun h=>⟨h,rfl,rfl,rfl⟩,?_⟩;refine ⟨_,[],trivial,rfl,rfl,fun h=>⟨rfl,rfl,rfl⟩,?_⟩;refine ⟨_,[],trivial,rfl,rfl,fun h=>⟨h,rfl,rfl,rfl⟩,?_⟩;refine ⟨_,[],trivial,rfl,rfl,fun h=>⟨h,⟨fun hc=>ga h hc,fun _=>trivial⟩,rfl,rfl,rfl⟩,?_⟩;refine ⟨⟨fun _=>trivial,fun hc=>(gn hc)⟩,?_⟩;refine (Tri.cond ⟨fun h1=>?_,fun h1=>?_⟩)
 ·
  exact absurd h1 (by decide)
 ·
  refine (Tri.skip ?_);refine Tri.seq ?_;refine Tri.seq (Tri.reg hT ?_);refine .inl (.inl ⟨_,fun _=>rfl,f28_a f,?_⟩);refine (Tri.cond ⟨fun h2=>?_,fun h2=>?_⟩)
  ·
   exact absurd h2 (by rw [(op_parts hyes).1];decide)
  ·
   refine (Tri.skip ?_);refine Tri.seq ?_;refine Tri.seq (Tri.reg hT ?_);refine ⟨_,[],trivial,rfl,rfl,fun h=>⟨rfl,rfl,rfl⟩,?_⟩;refine ⟨_,[],trivial,rfl,rfl,fun h=>⟨h,rfl,rfl,rfl⟩,?_⟩;refine ⟨_,[],trivial,rfl,rfl,fun h=>⟨h,rfl,rfl,rfl⟩,?_⟩;refine ⟨_,[],trivial,rfl,rfl,fun h=>⟨h,rfl,rfl,rfl⟩,?_⟩;refine ⟨_,[],trivial,rfl,rfl,fun h=>⟨h,rfl,rfl,rfl⟩,?_⟩;refine ⟨⟨fun hc=>hc,fun _=>trivial⟩,?_⟩;refine (Tri.cond ⟨fun h3=>?_,fun h3=>?_⟩)
   ·
    refine Tri.seq (Tri.regM hT [3] ?_);refine ⟨_,Le.refl _,.inl (.inr (OpTri.hcall 400 rfl rfl rfl (f30_a st p g y a b q k f w u o x ho hx hq hb (op_parts hyes).2.1 (op_parts hyes).2.2) trivial ⟨rfl,trivial⟩ rfl ?_))⟩;refine Tri.ret ?_;exact ⟨rfl,rfl,rfl,rfl,trivial⟩
   ·
    exact absurd h3 (by unfold opB at hop;by_cases q3:st = 3 <;> by_cases q4:st = 4 <;> simp_all)
set_option maxRecDepth 16000 in
theorem f9_o1 (st:Int) (p g:Hf) (s t:SS) (B:Int) (is:SInv s B) (it:SInv t B) (hB:B≤1099511600000) (a b q k f w u:Int) (o:List optT.D) (x:List UInt8) (ho:o.length < 9223372036854775807) (hx:x.length≤1000000) (hq:U32 q) (hop:opB st = true) :
  HSpec P G 9 [.loc 0 0,.int .i64 1,tcpV a b q k f w u o x] (rnO st p g s t) (.list evT (sgH 1 2 st p g s t q k f o x).1) (rnO (sgH 1 2 st p g s t q k f o x).2.1 (sgH 1 2 st p g s t q k f o x).2.2.1 g (sgH 1 2 st p g s t q k f o x).2.2.2.1 (sgH 1 2 st p g s t q k f o x).2.2.2.2):=by
 generalize hz:sgH 1 2 st p g s t q k f o x = z;refine fspec_intro hT (rnO st p g s t) (rnO z.2.1 z.2.2.1 g z.2.2.2.1 z.2.2.2.2) 3 3 Tryz.func9 (by decide) rfl rfl (by kernel_rfl) rfl rfl ?_
 refine Tri.seq (Tri.reg hT ?_);refine Tri.seq ?_;refine Tri.seq (Tri.reg hT ?_);refine ⟨_,[],trivial,rfl,rfl,fun h=>⟨rfl,rfl,rfl⟩,?_⟩;refine ⟨_,[],trivial,rfl,rfl,fun h=>⟨h,rfl,rfl,rfl⟩,?_⟩;refine ⟨_,[],trivial,rfl,rfl,fun h=>⟨h,rfl,rfl,rfl⟩,?_⟩;refine ⟨_,[],trivial,rfl,rfl,fun h=>⟨rfl,rfl,rfl⟩,?_⟩;refine ⟨_,[],trivial,rfl,rfl,fun h=>⟨h,rfl,rfl,rfl⟩,?_⟩;refine ⟨_,[],trivial,rfl,rfl,fun h=>⟨h,⟨fun hc=>ga h hc,fun _=>trivial⟩,rfl,rfl,rfl⟩,?_⟩;refine ⟨⟨fun _=>trivial,fun hc=>(gn hc)⟩,?_⟩;refine (Tri.cond ⟨fun h1=>?_,fun h1=>?_⟩)
 ·
  exact absurd h1 (by decide)
 ·
  refine (Tri.skip ?_);refine Tri.seq ?_;refine Tri.seq (Tri.reg hT ?_);refine .inl (.inl ⟨_,fun _=>rfl,f28_a f,?_⟩);refine (Tri.cond ⟨fun h2=>?_,fun h2=>?_⟩)
  ·
   refine Tri.seq (Tri.reg hT ?_);refine .inl (.inr (.inl ⟨_,_,(by exact ⟨rfl,rfl,rfl,trivial⟩),(CSpec.ofH (u:=ruH st p g p.high g.high (endedS s) (endedS t) s t) (f29_h1 st p g p.high g.high (endedS s) (endedS t) s t 3)),(by rfl),?_⟩));refine Tri.ret ?_;have e:=(if_pos h2).symm.trans hz;exact ⟨congrArg (fun z:List Evt × Int × Hf × SS × SS=>AV.list evT z.1) e,congrArg (fun z:List Evt × Int × Hf × SS × SS=>some (Chunk.box (rfC z.2.1 z.2.2.1 g z.2.2.1.high g.high (endedS z.2.2.2.1) (endedS z.2.2.2.2) (.loc 1 0) (.loc 2 0)))) e,congrArg (fun z:List Evt × Int × Hf × SS × SS=>some (Chunk.box (bxR z.2.2.2.1))) e,congrArg (fun z:List Evt × Int × Hf × SS × SS=>some (Chunk.box (bxR z.2.2.2.2))) e,trivial⟩
  ·
   refine (Tri.skip ?_);refine Tri.seq ?_;refine Tri.seq (Tri.reg hT ?_);refine ⟨_,[],trivial,rfl,rfl,fun h=>⟨rfl,rfl,rfl⟩,?_⟩;refine ⟨_,[],trivial,rfl,rfl,fun h=>⟨h,rfl,rfl,rfl⟩,?_⟩;refine ⟨_,[],trivial,rfl,rfl,fun h=>⟨h,rfl,rfl,rfl⟩,?_⟩;refine ⟨_,[],trivial,rfl,rfl,fun h=>⟨h,rfl,rfl,rfl⟩,?_⟩;refine ⟨_,[],trivial,rfl,rfl,fun h=>⟨h,rfl,rfl,rfl⟩,?_⟩;refine ⟨⟨fun hc=>hc,fun _=>trivial⟩,?_⟩;refine (Tri.cond ⟨fun h3=>?_,fun h3=>?_⟩)
   ·
    exact absurd h3 (by unfold opB at hop;by_cases q3:st = 3 <;> by_cases q4:st = 4 <;> simp_all)
   ·
    refine (Tri.skip ?_);refine Tri.seq (Tri.drw hT hm 11 (by kernel_rfl) ?_);refine .inr (.inl ⟨_,_,(by exact ⟨rfl,rfl,rfl,trivial⟩),(CSpec.ofH (u:=ruH st p g p.high g.high (endedS s) (endedS t) s t) (f32_h1 st p g p.high g.high (endedS s) (endedS t) s t)),(by rfl),?_⟩);refine .inr (.inl ⟨_,_,(by exact ⟨rfl,rfl,rfl,trivial⟩),(CSpec.ofH (u:=ruH st p g p.high g.high (endedS s) (endedS t) s t) (f33_h1 st p g p.high g.high (endedS s) (endedS t) s t)),(by rfl),?_⟩);refine .inl ⟨_,fun _=>rfl,f31_a a b q k f w u o x true (nextS s) g.high p.win (p.stamped && g.stamped) (if (p.stamped && g.stamped) = true then p.stamp else 0) _ _ _ _ _ _ _ _ _ p.stamps _ _ ho hq (nextS_u _),?_⟩;refine ⟨by kernel_rfl,?_⟩;refine Tri.seq ?_;refine Tri.seq (Tri.reg hT ?_);refine (Tri.cond ⟨fun h4=>?_,fun h4=>?_⟩)
    ·
     refine Tri.seq (Tri.reg hT ?_);refine .inl (.inr (.inl ⟨_,_,(by exact ⟨rfl,rfl,rfl,trivial⟩),(CSpec.ofH (u:=ruH st p g p.high g.high (endedS s) (endedS t) s t) (f29_h1 st p g p.high g.high (endedS s) (endedS t) s t (rsnM p g s q k f o x))),(by rfl),?_⟩));refine Tri.ret ?_;have e:=((if_neg (by rw [h2];decide)).trans (if_pos (of_decide_eq_true h4))).symm.trans hz;exact ⟨congrArg (fun z:List Evt × Int × Hf × SS × SS=>AV.list evT z.1) e,congrArg (fun z:List Evt × Int × Hf × SS × SS=>some (Chunk.box (rfC z.2.1 z.2.2.1 g z.2.2.1.high g.high (endedS z.2.2.2.1) (endedS z.2.2.2.2) (.loc 1 0) (.loc 2 0)))) e,congrArg (fun z:List Evt × Int × Hf × SS × SS=>some (Chunk.box (bxR z.2.2.2.1))) e,congrArg (fun z:List Evt × Int × Hf × SS × SS=>some (Chunk.box (bxR z.2.2.2.2))) e,trivial⟩
    ·
     refine (Tri.skip ?_);refine Tri.seq ?_;refine Tri.seq (Tri.reg hT ?_);refine .inl (.inl ⟨_,fun _=>rfl,f34_spec a b q k f w u o x 4,?_⟩);refine (Tri.cond ⟨fun h5=>?_,fun h5=>?_⟩)
     ·
      refine Tri.seq (Tri.reg hT ?_);refine Tri.seq (Tri.reg hT ?_);refine .inl (.inr (.inl ⟨_,_,(by exact ⟨rfl,rfl,rfl,trivial⟩),(CSpec.ofH (u:=ruH 6 p g p.high g.high (endedS s) (endedS t) s t) (f35_h1 6 p g p.high g.high (endedS s) (endedS t) s t 5 0)),(by rfl),?_⟩));refine Tri.le _ (Le.freeze 6 _ 1 rfl rfl (Nat.le_refl 1)) ?_;refine Tri.ret ?_;have e:=((if_neg (by rw [h2];decide)).trans ((if_neg (of_decide_eq_false h4)).trans (if_pos (of_decide_eq_true h5)))).symm.trans hz;exact ⟨congrArg (fun z:List Evt × Int × Hf × SS × SS=>AV.list evT z.1) e,congrArg (fun z:List Evt × Int × Hf × SS × SS=>some (Chunk.box (rfC z.2.1 z.2.2.1 g z.2.2.1.high g.high (endedS z.2.2.2.1) (endedS z.2.2.2.2) (.loc 1 0) (.loc 2 0)))) e,congrArg (fun z:List Evt × Int × Hf × SS × SS=>some (Chunk.box (bxR z.2.2.2.1))) e,congrArg (fun z:List Evt × Int × Hf × SS × SS=>some (Chunk.box (bxR z.2.2.2.2))) e,trivial⟩
     ·
      refine (Tri.skip ?_);refine Tri.seq (Tri.reg hT ?_);refine .inl (.inr (.inl ⟨_,_,(by exact ⟨rfl,rfl,rfl,trivial⟩),(CSpec.ofH (u:=[(0,rfC st p g p.high g.high (endedS s) (endedS t) (.loc 1 0) (.loc 2 0),some (rfC (stM (tkS s q f x) (tkT t k)) (tkH p s q f o x) g (tkH p s q f o x).high g.high (endedS (tkS s q f x)) (endedS (tkT t k)) (.loc 1 0) (.loc 2 0))),(1,bxR s,some (bxR (tkS s q f x))),(2,bxR t,some (bxR (tkT t k)))]) (f36_h1 st p g s t B is it hB a b q k f w u o x ho hx)),(by rfl),?_⟩));refine Tri.ret ?_;have e:=((if_neg (by rw [h2];decide)).trans ((if_neg (of_decide_eq_false h4)).trans (if_neg (of_decide_eq_false h5)))).symm.trans hz;exact ⟨congrArg (fun z:List Evt × Int × Hf × SS × SS=>AV.list evT z.1) e,congrArg (fun z:List Evt × Int × Hf × SS × SS=>some (Chunk.box (rfC z.2.1 z.2.2.1 g z.2.2.1.high g.high (endedS z.2.2.2.1) (endedS z.2.2.2.2) (.loc 1 0) (.loc 2 0)))) e,congrArg (fun z:List Evt × Int × Hf × SS × SS=>some (Chunk.box (bxR z.2.2.2.1))) e,congrArg (fun z:List Evt × Int × Hf × SS × SS=>some (Chunk.box (bxR z.2.2.2.2))) e,trivial⟩
set_option maxRecDepth 16000 in
theorem f9_o2 (st:Int) (p g:Hf) (s t:SS) (B:Int) (is:SInv s B) (it:SInv t B) (hB:B≤1099511600000) (a b q k f w u:Int) (o:List optT.D) (x:List UInt8) (ho:o.length < 9223372036854775807) (hx:x.length≤1000000) (hq:U32 q) (hop:opB st = true) :
  HSpec P G 9 [.loc 0 0,.int .i64 2,tcpV a b q k f w u o x] (rnO st g p t s) (.list evT (sgH 2 1 st p g s t q k f o x).1) (rnO (sgH 2 1 st p g s t q k f o x).2.1 g (sgH 2 1 st p g s t q k f o x).2.2.1 (sgH 2 1 st p g s t q k f o x).2.2.2.2 (sgH 2 1 st p g s t q k f o x).2.2.2.1):=by
 generalize hz:sgH 2 1 st p g s t q k f o x = z;refine fspec_intro hT (rnO st g p t s) (rnO z.2.1 g z.2.2.1 z.2.2.2.2 z.2.2.2.1) 3 3 Tryz.func9 (by decide) rfl rfl (by kernel_rfl) rfl rfl ?_
 refine Tri.seq (Tri.reg hT ?_);refine Tri.seq ?_;refine Tri.seq (Tri.reg hT ?_);refine ⟨_,[],trivial,rfl,rfl,fun h=>⟨rfl,rfl,rfl⟩,?_⟩;refine ⟨_,[],trivial,rfl,rfl,fun h=>⟨h,rfl,rfl,rfl⟩,?_⟩;refine ⟨_,[],trivial,rfl,rfl,fun h=>⟨h,rfl,rfl,rfl⟩,?_⟩;refine ⟨_,[],trivial,rfl,rfl,fun h=>⟨rfl,rfl,rfl⟩,?_⟩;refine ⟨_,[],trivial,rfl,rfl,fun h=>⟨h,rfl,rfl,rfl⟩,?_⟩;refine ⟨_,[],trivial,rfl,rfl,fun h=>⟨h,⟨fun hc=>ga h hc,fun _=>trivial⟩,rfl,rfl,rfl⟩,?_⟩;refine ⟨⟨fun _=>trivial,fun hc=>(gn hc)⟩,?_⟩;refine (Tri.cond ⟨fun h1=>?_,fun h1=>?_⟩)
 ·
  exact absurd h1 (by decide)
 ·
  refine (Tri.skip ?_);refine Tri.seq ?_;refine Tri.seq (Tri.reg hT ?_);refine .inl (.inl ⟨_,fun _=>rfl,f28_a f,?_⟩);refine (Tri.cond ⟨fun h2=>?_,fun h2=>?_⟩)
  ·
   refine Tri.seq (Tri.reg hT ?_);refine .inl (.inr (.inl ⟨_,_,(by exact ⟨rfl,rfl,rfl,trivial⟩),(CSpec.ofH (u:=ruH st g p g.high p.high (endedS t) (endedS s) t s) (f29_h2 st g p g.high p.high (endedS t) (endedS s) t s 3)),(by rfl),?_⟩));refine Tri.ret ?_;have e:=(if_pos h2).symm.trans hz;exact ⟨congrArg (fun z:List Evt × Int × Hf × SS × SS=>AV.list evT z.1) e,congrArg (fun z:List Evt × Int × Hf × SS × SS=>some (Chunk.box (rfC z.2.1 g z.2.2.1 g.high z.2.2.1.high (endedS z.2.2.2.2) (endedS z.2.2.2.1) (.loc 1 0) (.loc 2 0)))) e,congrArg (fun z:List Evt × Int × Hf × SS × SS=>some (Chunk.box (bxR z.2.2.2.2))) e,congrArg (fun z:List Evt × Int × Hf × SS × SS=>some (Chunk.box (bxR z.2.2.2.1))) e,trivial⟩
  ·
   refine (Tri.skip ?_);refine Tri.seq ?_;refine Tri.seq (Tri.reg hT ?_);refine ⟨_,[],trivial,rfl,rfl,fun h=>⟨rfl,rfl,rfl⟩,?_⟩;refine ⟨_,[],trivial,rfl,rfl,fun h=>⟨h,rfl,rfl,rfl⟩,?_⟩;refine ⟨_,[],trivial,rfl,rfl,fun h=>⟨h,rfl,rfl,rfl⟩,?_⟩;refine ⟨_,[],trivial,rfl,rfl,fun h=>⟨h,rfl,rfl,rfl⟩,?_⟩;refine ⟨_,[],trivial,rfl,rfl,fun h=>⟨h,rfl,rfl,rfl⟩,?_⟩;refine ⟨⟨fun hc=>hc,fun _=>trivial⟩,?_⟩;refine (Tri.cond ⟨fun h3=>?_,fun h3=>?_⟩)
   ·
    exact absurd h3 (by unfold opB at hop;by_cases q3:st = 3 <;> by_cases q4:st = 4 <;> simp_all)
   ·
    refine (Tri.skip ?_);refine Tri.seq (Tri.drw hT hm 11 (by kernel_rfl) ?_);refine .inr (.inl ⟨_,_,(by exact ⟨rfl,rfl,rfl,trivial⟩),(CSpec.ofH (u:=ruH st g p g.high p.high (endedS t) (endedS s) t s) (f32_h2 st g p g.high p.high (endedS t) (endedS s) t s)),(by rfl),?_⟩);refine .inr (.inl ⟨_,_,(by exact ⟨rfl,rfl,rfl,trivial⟩),(CSpec.ofH (u:=ruH st g p g.high p.high (endedS t) (endedS s) t s) (f33_h2 st g p g.high p.high (endedS t) (endedS s) t s)),(by rfl),?_⟩);refine .inl ⟨_,fun _=>rfl,f31_a a b q k f w u o x true (nextS s) g.high p.win (p.stamped && g.stamped) (if (p.stamped && g.stamped) = true then p.stamp else 0) _ _ _ _ _ _ _ _ _ p.stamps _ _ ho hq (nextS_u _),?_⟩;refine ⟨by kernel_rfl,?_⟩;refine Tri.seq ?_;refine Tri.seq (Tri.reg hT ?_);refine (Tri.cond ⟨fun h4=>?_,fun h4=>?_⟩)
    ·
     refine Tri.seq (Tri.reg hT ?_);refine .inl (.inr (.inl ⟨_,_,(by exact ⟨rfl,rfl,rfl,trivial⟩),(CSpec.ofH (u:=ruH st g p g.high p.high (endedS t) (endedS s) t s) (f29_h2 st g p g.high p.high (endedS t) (endedS s) t s (rsnM p g s q k f o x))),(by rfl),?_⟩));refine Tri.ret ?_;have e:=((if_neg (by rw [h2];decide)).trans (if_pos (of_decide_eq_true h4))).symm.trans hz;exact ⟨congrArg (fun z:List Evt × Int × Hf × SS × SS=>AV.list evT z.1) e,congrArg (fun z:List Evt × Int × Hf × SS × SS=>some (Chunk.box (rfC z.2.1 g z.2.2.1 g.high z.2.2.1.high (endedS z.2.2.2.2) (endedS z.2.2.2.1) (.loc 1 0) (.loc 2 0)))) e,congrArg (fun z:List Evt × Int × Hf × SS × SS=>some (Chunk.box (bxR z.2.2.2.2))) e,congrArg (fun z:List Evt × Int × Hf × SS × SS=>some (Chunk.box (bxR z.2.2.2.1))) e,trivial⟩
    ·
     refine (Tri.skip ?_);refine Tri.seq ?_;refine Tri.seq (Tri.reg hT ?_);refine .inl (.inl ⟨_,fun _=>rfl,f34_spec a b q k f w u o x 4,?_⟩);refine (Tri.cond ⟨fun h5=>?_,fun h5=>?_⟩)
     ·
      refine Tri.seq (Tri.reg hT ?_);refine Tri.seq (Tri.reg hT ?_);refine .inl (.inr (.inl ⟨_,_,(by exact ⟨rfl,rfl,rfl,trivial⟩),(CSpec.ofH (u:=ruH 6 g p g.high p.high (endedS t) (endedS s) t s) (f35_h2 6 g p g.high p.high (endedS t) (endedS s) t s 5 0)),(by rfl),?_⟩));refine Tri.le _ (Le.freeze 6 _ 1 rfl rfl (Nat.le_refl 1)) ?_;refine Tri.ret ?_;have e:=((if_neg (by rw [h2];decide)).trans ((if_neg (of_decide_eq_false h4)).trans (if_pos (of_decide_eq_true h5)))).symm.trans hz;exact ⟨congrArg (fun z:List Evt × Int × Hf × SS × SS=>AV.list evT z.1) e,congrArg (fun z:List Evt × Int × Hf × SS × SS=>some (Chunk.box (rfC z.2.1 g z.2.2.1 g.high z.2.2.1.high (endedS z.2.2.2.2) (endedS z.2.2.2.1) (.loc 1 0) (.loc 2 0)))) e,congrArg (fun z:List Evt × Int × Hf × SS × SS=>some (Chunk.box (bxR z.2.2.2.2))) e,congrArg (fun z:List Evt × Int × Hf × SS × SS=>some (Chunk.box (bxR z.2.2.2.1))) e,trivial⟩
     ·
      refine (Tri.skip ?_);refine Tri.seq (Tri.reg hT ?_);refine .inl (.inr (.inl ⟨_,_,(by exact ⟨rfl,rfl,rfl,trivial⟩),(CSpec.ofH (u:=[(0,rfC st g p g.high p.high (endedS t) (endedS s) (.loc 1 0) (.loc 2 0),some (rfC (stM (tkS s q f x) (tkT t k)) g (tkH p s q f o x) g.high (tkH p s q f o x).high (endedS (tkT t k)) (endedS (tkS s q f x)) (.loc 1 0) (.loc 2 0))),(1,bxR t,some (bxR (tkT t k))),(2,bxR s,some (bxR (tkS s q f x)))]) (f36_h2 st p g s t B is it hB a b q k f w u o x ho hx)),(by rfl),?_⟩));refine Tri.ret ?_;have e:=((if_neg (by rw [h2];decide)).trans ((if_neg (of_decide_eq_false h4)).trans (if_neg (of_decide_eq_false h5)))).symm.trans hz;exact ⟨congrArg (fun z:List Evt × Int × Hf × SS × SS=>AV.list evT z.1) e,congrArg (fun z:List Evt × Int × Hf × SS × SS=>some (Chunk.box (rfC z.2.1 g z.2.2.1 g.high z.2.2.1.high (endedS z.2.2.2.2) (endedS z.2.2.2.1) (.loc 1 0) (.loc 2 0)))) e,congrArg (fun z:List Evt × Int × Hf × SS × SS=>some (Chunk.box (bxR z.2.2.2.2))) e,congrArg (fun z:List Evt × Int × Hf × SS × SS=>some (Chunk.box (bxR z.2.2.2.1))) e,trivial⟩
set_option maxRecDepth 16000 in
theorem f9_s1 (st:Int) (p g:Hf) (e1 e2:Int) (b1 b2:Bool) (s t:SS) (a b q k f w u:Int) (o:List optT.D) (x:List UInt8) (ho:o.length < 9223372036854775807) (hx:x.length≤1000000) (hop:opB st = false) (hs2:st≠2) (hf:flags f = true) (hc:(synB f && !ackB f) = true) :
  HSpec P G 9 [.loc 0 0,.int .i64 1,tcpV a b q k f w u o x] (rnH st p g e1 e2 b1 b2 s t) (.list evT []) (rnM 1 (begH p q o) g e1 e2 b1 b2 s t):=by
 refine fspec_intro hT (rnH st p g e1 e2 b1 b2 s t) (rnM 1 (begH p q o) g e1 e2 b1 b2 s t) 3 3 Tryz.func9 (by decide) rfl rfl (by kernel_rfl) rfl rfl ?_;refine Tri.seq (Tri.reg hT ?_);refine Tri.seq ?_;refine Tri.seq (Tri.reg hT ?_);refine ⟨_,[],trivial,rfl,rfl,fun h=>⟨rfl,rfl,rfl⟩,?_⟩;refine ⟨_,[],trivial,rfl,rfl,fun h=>⟨h,rfl,rfl,rfl⟩,?_⟩;refine ⟨_,[],trivial,rfl,rfl,fun h=>⟨h,rfl,rfl,rfl⟩,?_⟩;refine ⟨_,[],trivial,rfl,rfl,fun h=>⟨rfl,rfl,rfl⟩,?_⟩;refine ⟨_,[],trivial,rfl,rfl,fun h=>⟨h,rfl,rfl,rfl⟩,?_⟩;refine ⟨_,[],trivial,rfl,rfl,fun h=>⟨h,⟨fun hc=>ga h hc,fun _=>trivial⟩,rfl,rfl,rfl⟩,?_⟩;refine ⟨⟨fun _=>trivial,fun hc=>(gn hc)⟩,?_⟩;refine (Tri.cond ⟨fun h1=>?_,fun h1=>?_⟩)
 ·
  exact absurd h1 (by decide)
 ·
  refine (Tri.skip ?_);refine Tri.seq ?_;refine Tri.seq (Tri.reg hT ?_);refine .inl (.inl ⟨_,fun _=>rfl,f28_a f,?_⟩);refine (Tri.cond ⟨fun h2=>?_,fun h2=>?_⟩)
  ·
   exact absurd h2 (by rw [hf];decide)
  ·
   refine (Tri.skip ?_);refine Tri.seq ?_;refine Tri.seq (Tri.reg hT ?_);refine ⟨_,[],trivial,rfl,rfl,fun h=>⟨rfl,rfl,rfl⟩,?_⟩;refine ⟨_,[],trivial,rfl,rfl,fun h=>⟨h,rfl,rfl,rfl⟩,?_⟩;refine ⟨_,[],trivial,rfl,rfl,fun h=>⟨h,rfl,rfl,rfl⟩,?_⟩;refine ⟨_,[],trivial,rfl,rfl,fun h=>⟨h,rfl,rfl,rfl⟩,?_⟩;refine ⟨_,[],trivial,rfl,rfl,fun h=>⟨h,rfl,rfl,rfl⟩,?_⟩;refine ⟨⟨fun hc=>hc,fun _=>trivial⟩,?_⟩;refine (Tri.cond ⟨fun h3=>?_,fun h3=>?_⟩)
   ·
    refine Tri.seq (Tri.reg hT ?_);refine .inl (.inr (.inl ⟨_,_,(by exact ⟨rfl,rfl,rfl,trivial⟩),(CSpec.ofH (u:=[(0,rfC st p g e1 e2 b1 b2 (.loc 1 0) (.loc 2 0),some (rfC 1 (begH p q o) g e1 e2 b1 b2 .nilp .nilp)),(1,bxR s,none),(2,bxR t,none)]) (f30_s1 st p g e1 e2 b1 b2 s t a b q k f w u o x ho hx hs2 hc)),(by rfl),?_⟩));refine Tri.ret ?_;exact ⟨rfl,rfl,rfl,rfl,trivial⟩
   ·
    exact absurd h3 (by unfold opB at hop;by_cases q3:st = 3 <;> by_cases q4:st = 4 <;> simp_all)
set_option maxRecDepth 16000 in
theorem f9_r1 (st:Int) (p g:Hf) (e1 e2:Int) (b1 b2:Bool) (s t:SS) (a b q k f w u:Int) (o:List optT.D) (x:List UInt8) (ho:o.length < 9223372036854775807) (hx:x.length≤1000000) (hop:opB st = false) (hs1:st≠1) (hs2:st≠2) (hc:(flags f && (synB f && !ackB f)) = false) :
  HSpec P G 9 [.loc 0 0,.int .i64 1,tcpV a b q k f w u o x] (rnH st p g e1 e2 b1 b2 s t) (.list evT [(7,1,s.pos,(if flags f = true then 7 else 3),[],())]) (rnH st p g e1 e2 b1 b2 s t):=by
 refine fspec_intro hT (rnH st p g e1 e2 b1 b2 s t) (rnH st p g e1 e2 b1 b2 s t) 3 3 Tryz.func9 (by decide) rfl rfl (by kernel_rfl) rfl rfl ?_;refine Tri.seq (Tri.reg hT ?_);refine Tri.seq ?_;refine Tri.seq (Tri.reg hT ?_);refine ⟨_,[],trivial,rfl,rfl,fun h=>⟨rfl,rfl,rfl⟩,?_⟩;refine ⟨_,[],trivial,rfl,rfl,fun h=>⟨h,rfl,rfl,rfl⟩,?_⟩;refine ⟨_,[],trivial,rfl,rfl,fun h=>⟨h,rfl,rfl,rfl⟩,?_⟩;refine ⟨_,[],trivial,rfl,rfl,fun h=>⟨rfl,rfl,rfl⟩,?_⟩;refine ⟨_,[],trivial,rfl,rfl,fun h=>⟨h,rfl,rfl,rfl⟩,?_⟩;refine ⟨_,[],trivial,rfl,rfl,fun h=>⟨h,⟨fun hc=>ga h hc,fun _=>trivial⟩,rfl,rfl,rfl⟩,?_⟩;refine ⟨⟨fun _=>trivial,fun hc=>(gn hc)⟩,?_⟩;refine (Tri.cond ⟨fun h1=>?_,fun h1=>?_⟩)
 ·
  exact absurd h1 (by decide)
 ·
  refine (Tri.skip ?_);refine Tri.seq ?_;refine Tri.seq (Tri.reg hT ?_);refine .inl (.inl ⟨_,fun _=>rfl,f28_a f,?_⟩);refine (Tri.cond ⟨fun h2=>?_,fun h2=>?_⟩)
  ·
   refine Tri.seq (Tri.reg hT ?_);refine .inl (.inr (.inl ⟨_,_,(by exact ⟨rfl,rfl,rfl,trivial⟩),(CSpec.ofH (u:=ruH st p g e1 e2 b1 b2 s t) (f29_h1 st p g e1 e2 b1 b2 s t 3)),(by rfl),?_⟩));refine Tri.ret ?_;exact ⟨congrArg (fun n=>AV.list evT [(7,1,s.pos,n,[],())]) (if_neg (by simpa using h2)).symm,rfl,rfl,rfl,trivial⟩
  ·
   refine (Tri.skip ?_);refine Tri.seq ?_;refine Tri.seq (Tri.reg hT ?_);refine ⟨_,[],trivial,rfl,rfl,fun h=>⟨rfl,rfl,rfl⟩,?_⟩;refine ⟨_,[],trivial,rfl,rfl,fun h=>⟨h,rfl,rfl,rfl⟩,?_⟩;refine ⟨_,[],trivial,rfl,rfl,fun h=>⟨h,rfl,rfl,rfl⟩,?_⟩;refine ⟨_,[],trivial,rfl,rfl,fun h=>⟨h,rfl,rfl,rfl⟩,?_⟩;refine ⟨_,[],trivial,rfl,rfl,fun h=>⟨h,rfl,rfl,rfl⟩,?_⟩;refine ⟨⟨fun hc=>hc,fun _=>trivial⟩,?_⟩;refine (Tri.cond ⟨fun h3=>?_,fun h3=>?_⟩)
   ·
    have hc':(synB f && !ackB f) = false:=(by rw [show flags f = true by simpa using h2] at hc;exact hc);refine Tri.seq (Tri.reg hT ?_);refine .inl (.inr (.inl ⟨_,_,(by exact ⟨rfl,rfl,rfl,trivial⟩),(CSpec.ofH (u:=ruH st p g e1 e2 b1 b2 s t) (f30_r1 st p g e1 e2 b1 b2 s t a b q k f w u o x ho hx hs1 hs2 hc')),(by rfl),?_⟩));refine Tri.ret ?_;exact ⟨congrArg (fun n=>AV.list evT [(7,1,s.pos,n,[],())]) (if_pos (by simpa using h2)).symm,rfl,rfl,rfl,trivial⟩
   ·
    exact absurd h3 (by unfold opB at hop;by_cases q3:st = 3 <;> by_cases q4:st = 4 <;> simp_all)
set_option maxRecDepth 16000 in
theorem f9_r2 (st:Int) (p g:Hf) (e1 e2:Int) (b1 b2:Bool) (s t:SS) (a b q k f w u:Int) (o:List optT.D) (x:List UInt8) (ho:o.length < 9223372036854775807) (hx:x.length≤1000000) (hop:opB st = false) (hs1:st≠1) (hs2:st≠2) :
  HSpec P G 9 [.loc 0 0,.int .i64 2,tcpV a b q k f w u o x] (rnH st p g e1 e2 b1 b2 s t) (.list evT [(7,2,t.pos,(if flags f = true then 7 else 3),[],())]) (rnH st p g e1 e2 b1 b2 s t):=by
 refine fspec_intro hT (rnH st p g e1 e2 b1 b2 s t) (rnH st p g e1 e2 b1 b2 s t) 3 3 Tryz.func9 (by decide) rfl rfl (by kernel_rfl) rfl rfl ?_;refine Tri.seq (Tri.reg hT ?_);refine Tri.seq ?_;refine Tri.seq (Tri.reg hT ?_);refine ⟨_,[],trivial,rfl,rfl,fun h=>⟨rfl,rfl,rfl⟩,?_⟩;refine ⟨_,[],trivial,rfl,rfl,fun h=>⟨h,rfl,rfl,rfl⟩,?_⟩;refine ⟨_,[],trivial,rfl,rfl,fun h=>⟨h,rfl,rfl,rfl⟩,?_⟩;refine ⟨_,[],trivial,rfl,rfl,fun h=>⟨rfl,rfl,rfl⟩,?_⟩;refine ⟨_,[],trivial,rfl,rfl,fun h=>⟨h,rfl,rfl,rfl⟩,?_⟩;refine ⟨_,[],trivial,rfl,rfl,fun h=>⟨h,⟨fun hc=>ga h hc,fun _=>trivial⟩,rfl,rfl,rfl⟩,?_⟩;refine ⟨⟨fun _=>trivial,fun hc=>(gn hc)⟩,?_⟩;refine (Tri.cond ⟨fun h1=>?_,fun h1=>?_⟩)
 ·
  exact absurd h1 (by decide)
 ·
  refine (Tri.skip ?_);refine Tri.seq ?_;refine Tri.seq (Tri.reg hT ?_);refine .inl (.inl ⟨_,fun _=>rfl,f28_a f,?_⟩);refine (Tri.cond ⟨fun h2=>?_,fun h2=>?_⟩)
  ·
   refine Tri.seq (Tri.reg hT ?_);refine .inl (.inr (.inl ⟨_,_,(by exact ⟨rfl,rfl,rfl,trivial⟩),(CSpec.ofH (u:=ruH st p g e1 e2 b1 b2 s t) (f29_h2 st p g e1 e2 b1 b2 s t 3)),(by rfl),?_⟩));refine Tri.ret ?_;exact ⟨congrArg (fun n=>AV.list evT [(7,2,t.pos,n,[],())]) (if_neg (by simpa using h2)).symm,rfl,rfl,rfl,trivial⟩
  ·
   refine (Tri.skip ?_);refine Tri.seq ?_;refine Tri.seq (Tri.reg hT ?_);refine ⟨_,[],trivial,rfl,rfl,fun h=>⟨rfl,rfl,rfl⟩,?_⟩;refine ⟨_,[],trivial,rfl,rfl,fun h=>⟨h,rfl,rfl,rfl⟩,?_⟩;refine ⟨_,[],trivial,rfl,rfl,fun h=>⟨h,rfl,rfl,rfl⟩,?_⟩;refine ⟨_,[],trivial,rfl,rfl,fun h=>⟨h,rfl,rfl,rfl⟩,?_⟩;refine ⟨_,[],trivial,rfl,rfl,fun h=>⟨h,rfl,rfl,rfl⟩,?_⟩;refine ⟨⟨fun hc=>hc,fun _=>trivial⟩,?_⟩;refine (Tri.cond ⟨fun h3=>?_,fun h3=>?_⟩)
   ·
    refine Tri.seq (Tri.reg hT ?_);refine .inl (.inr (.inl ⟨_,_,(by exact ⟨rfl,rfl,rfl,trivial⟩),(CSpec.ofH (u:=ruH st p g e1 e2 b1 b2 s t) (f30_r2 st p g e1 e2 b1 b2 s t a b q k f w u o x ho hx hs1 hs2)),(by rfl),?_⟩));refine Tri.ret ?_;exact ⟨congrArg (fun n=>AV.list evT [(7,2,t.pos,n,[],())]) (if_pos (by simpa using h2)).symm,rfl,rfl,rfl,trivial⟩
   ·
    exact absurd h3 (by unfold opB at hop;by_cases q3:st = 3 <;> by_cases q4:st = 4 <;> simp_all)
set_option maxRecDepth 16000 in
theorem f9_xn (st:Int) (p g:Hf) (e1 e2:Int) (b1 b2:Bool) (d:Int) (a b q k f w u:Int) (o:List optT.D) (x:List UInt8) (ho:o.length < 9223372036854775807) (hx:x.length≤1000000) (hd1:d≠1) (hd2:d≠2) :
  HSpec P G 9 [.loc 0 0,.int .i64 d,tcpV a b q k f w u o x] (rnN st p g e1 e2 b1 b2) (.list evT []) (rnN st p g e1 e2 b1 b2):=by
 refine fspec_intro hT (rnN st p g e1 e2 b1 b2) (rnN st p g e1 e2 b1 b2) 1 1 Tryz.func9 (by decide) rfl rfl (by kernel_rfl) rfl rfl ?_;refine Tri.seq (Tri.reg hT ?_);refine Tri.seq ?_;refine Tri.seq (Tri.reg hT ?_);refine ⟨_,[],trivial,rfl,rfl,fun h=>⟨rfl,rfl,rfl⟩,?_⟩;refine ⟨_,[],trivial,rfl,rfl,fun h=>⟨h,rfl,rfl,rfl⟩,?_⟩;refine ⟨_,[],trivial,rfl,rfl,fun h=>⟨h,rfl,rfl,rfl⟩,?_⟩;refine ⟨_,[],trivial,rfl,rfl,fun h=>⟨rfl,rfl,rfl⟩,?_⟩;refine ⟨_,[],trivial,rfl,rfl,fun h=>⟨h,rfl,rfl,rfl⟩,?_⟩;refine ⟨_,[],trivial,rfl,rfl,fun h=>⟨h,⟨fun hc=>ga h hc,fun _=>trivial⟩,rfl,rfl,rfl⟩,?_⟩;refine ⟨⟨fun _=>trivial,fun hc=>(gn hc)⟩,?_⟩;refine (Tri.cond ⟨fun h1=>?_,fun h1=>?_⟩)
 ·
  refine Tri.seq (Tri.reg hT ?_);refine Tri.le _ (Le.own 6 evT rfl) ?_;refine Tri.le _ (Le.freeze 6 _ 0 rfl rfl (Nat.le_refl 0)) ?_
  refine Tri.ret ?_;exact ⟨rfl,rfl,trivial⟩
 ·
  exact absurd h1 (by simp [iteO,iteA,hd1,hd2])
set_option maxRecDepth 16000 in
theorem f9_xh (st:Int) (p g:Hf) (e1 e2:Int) (b1 b2:Bool) (s t:SS) (d:Int) (a b q k f w u:Int) (o:List optT.D) (x:List UInt8) (ho:o.length < 9223372036854775807) (hx:x.length≤1000000) (hd1:d≠1) (hd2:d≠2) :
  HSpec P G 9 [.loc 0 0,.int .i64 d,tcpV a b q k f w u o x] (rnH st p g e1 e2 b1 b2 s t) (.list evT []) (rnH st p g e1 e2 b1 b2 s t):=by
 refine fspec_intro hT (rnH st p g e1 e2 b1 b2 s t) (rnH st p g e1 e2 b1 b2 s t) 3 3 Tryz.func9 (by decide) rfl rfl (by kernel_rfl) rfl rfl ?_;refine Tri.seq (Tri.reg hT ?_);refine Tri.seq ?_;refine Tri.seq (Tri.reg hT ?_);refine ⟨_,[],trivial,rfl,rfl,fun h=>⟨rfl,rfl,rfl⟩,?_⟩;refine ⟨_,[],trivial,rfl,rfl,fun h=>⟨h,rfl,rfl,rfl⟩,?_⟩;refine ⟨_,[],trivial,rfl,rfl,fun h=>⟨h,rfl,rfl,rfl⟩,?_⟩;refine ⟨_,[],trivial,rfl,rfl,fun h=>⟨rfl,rfl,rfl⟩,?_⟩;refine ⟨_,[],trivial,rfl,rfl,fun h=>⟨h,rfl,rfl,rfl⟩,?_⟩;refine ⟨_,[],trivial,rfl,rfl,fun h=>⟨h,⟨fun hc=>ga h hc,fun _=>trivial⟩,rfl,rfl,rfl⟩,?_⟩;refine ⟨⟨fun _=>trivial,fun hc=>(gn hc)⟩,?_⟩;refine (Tri.cond ⟨fun h1=>?_,fun h1=>?_⟩)
 ·
  refine Tri.seq (Tri.reg hT ?_);refine Tri.le _ (Le.own 6 evT rfl) ?_;refine Tri.le _ (Le.freeze 6 _ 0 rfl rfl (Nat.le_refl 0)) ?_
  refine Tri.ret ?_;exact ⟨rfl,rfl,rfl,rfl,trivial⟩
 ·
  exact absurd h1 (by simp [iteO,iteA,hd1,hd2])
end Go.Proofs.YtchiagnggnblaaaGreatDoor.Ac
namespace Go.Proofs.YtchiagnggnblaaaGreatDoor.Ac
open Go Go.Fw Go.Ov Go.Proofs.YtchiagnggnblaaaGreatDoor.Fx
structure Rnn where
 st:Int
 p:Hf
 g:Hf
 ss:Option (SS × SS)
 y:Ga
abbrev Rnn.cells (c:Rnn) (j k:Nat):List AV:=match c.ss with
 | none=>rfC c.st c.p c.g c.y.e1 c.y.e2 c.y.b1 c.y.b2 .nilp .nilp
 | some z=>rfC c.st c.p c.g c.p.high c.g.high (endedS z.1) (endedS z.2) (.loc j 0) (.loc k 0)
theorem rcells_ids (c:Rnn) (j k id:Nat) (h:AV.hasAny id (c.cells j k) = true):([j,k]:List Nat).contains id = true:=by
 unfold Rnn.cells at h
 split at h
 ·
  exact absurd h (by simp [AV.hasAny,AV.has])
 ·
  simp only [AV.hasAny,AV.has,Bool.or_false,Bool.false_or,Bool.or_eq_true,beq_iff_eq] at h;simp only [List.contains_eq_mem,List.mem_cons,List.not_mem_nil,or_false,decide_eq_true_eq];rcases h with h|h
  ·
   exact .inr h.symm
  ·
   exact .inl h.symm
def rcnX (c:Rnn) (j k:Nat):XCh where
 ids:=[j,k]
 fixed:=true
 nil:=False
 rel φ R w _ o _:=∃ vs e fr,o = .cells vs e fr∧RepVs φ R w (c.cells j k) vs.toList∧NoFr fr vs.size
 mono hR hw hφ h:=by
  obtain ⟨vs,e,fr,h2,h3,h4⟩:=h;exact ⟨vs,e,fr,h2,RepVs.mono hR hw (fun id hi=>hφ id (rcells_ids c j k id hi)) h3,h4⟩
theorem rbxR_has (s:SS) (id:Nat):AV.hasAny id (bxR s) = false:=rfl
def rstX (x:Option SS):XCh where
 ids:=[]
 fixed:=false
 nil:=x = none
 rel φ R w _ o _:=∃ s vs e fr,x = some s∧o = .cells vs e fr∧RepVs φ R w (bxR s) vs.toList∧NoFr fr vs.size
 mono hR hw hφ h:=by
  obtain ⟨s,vs,e,fr,h1,h2,h3,h4⟩:=h;exact ⟨s,vs,e,fr,h1,h2,RepVs.mono hR hw (fun id hi=>by rw [rbxR_has] at hi;cases hi) h3,h4⟩
theorem Conv.rcnB (c:Rnn) (j k:Nat):Conv (.ext (rcnX c j k)) (.box (c.cells j k)):=fun φ R w id h=>by
 rcases h with ⟨_,h⟩|⟨b,cap,o,h1,h2,⟨vs,e,fr,rfl,h4,h5⟩,h6⟩
 ·
  exact h.elim
 ·
  exact ⟨b,cap,vs,e,fr,h1,h2,h4,h6,h5⟩
theorem Conv.rcnX (c:Rnn) (j k:Nat):Conv (.box (c.cells j k)) (.ext (rcnX c j k)):=fun φ R w id h=>by
 obtain ⟨b,cap,vs,e,fr,h1,h2,h3,h4,h5⟩:=h;exact .inr ⟨b,cap,_,h1,h2,⟨vs,e,fr,rfl,h3,h5⟩,h4⟩
theorem Conv.rstB (s:SS):Conv (.ext (rstX (some s))) (.box (bxR s)):=fun φ R w id h=>by
 rcases h with ⟨_,h⟩|⟨b,cap,o,h1,h2,⟨s',vs,e,fr,h3,rfl,h4,h5⟩,h6⟩
 ·
  cases h
 ·
  simp only [Option.some.injEq] at h3;subst h3;exact ⟨b,cap,vs,e,fr,h1,h2,h4,h6,h5⟩
theorem Conv.rstX (s:SS):Conv (.box (bxR s)) (.ext (rstX (some s))):=fun φ R w id h=>by
 obtain ⟨b,cap,vs,e,fr,h1,h2,h3,h4,h5⟩:=h;exact .inr ⟨b,cap,_,h1,h2,⟨s,vs,e,fr,rfl,rfl,h3,h5⟩,h4⟩
abbrev Rnn.s1 (c:Rnn):Option SS:=c.ss.map (·.1)
abbrev Rnn.s2 (c:Rnn):Option SS:=c.ss.map (·.2)
abbrev rnU (c:Rnn) (i j k:Nat):List (Nat × Chunk):=[(i,.ext (rcnX c j k)),(j,.ext (rstX c.s1)),(k,.ext (rstX c.s2))]
theorem rpre_n (st:Int) (p g:Hf) (y:Ga):∀ j c,lookup j (rnG st p g y) = some c→∃ c',lookup j (rnU ⟨st,p,g,none,y⟩ 0 1 2) = some c'∧Conv c' c:=fun j c hj=>by
 obtain ⟨rfl,rfl⟩:=lk1 hj;exact ⟨_,rfl,Conv.rcnB ⟨st,p,g,none,y⟩ 1 2⟩
theorem rpre_h (st:Int) (p g:Hf) (y:Ga) (s t:SS):∀ j c,lookup j (rnO st p g s t) = some c→∃ c',lookup j (rnU ⟨st,p,g,some (s,t),y⟩ 0 1 2) = some c'∧Conv c' c:=fun j c hj=>by
 rcases lk3 hj with ⟨rfl,rfl⟩|⟨rfl,rfl⟩|⟨rfl,rfl⟩
 ·
  exact ⟨_,rfl,Conv.rcnB ⟨st,p,g,some (s,t),y⟩ 1 2⟩
 ·
  exact ⟨_,rfl,Conv.rstB s⟩
 ·
  exact ⟨_,rfl,Conv.rstB t⟩
theorem rfix_U {c c':Rnn} {h:List (Nat × Chunk)} {ρ:Nat→Option Nat} (hρ:ρ 0 = some 0) (hh:∃ cs,lookup 0 h = some (.box cs)):∀ j d,lookup j (rnU c 0 1 2) = some d→d.fixed = true→ρ j = some j∧(∃ d',lookup j h = some d'∧d'.fixed = true)∧∃ d',lookup j (rnU c' 0 1 2) = some d'∧d'.fixed = true:=fun j d hj hd=>by
 rcases lk3 hj with ⟨rfl,rfl⟩|⟨rfl,rfl⟩|⟨rfl,rfl⟩
 ·
  obtain ⟨cs,hcs⟩:=hh;exact ⟨hρ,⟨_,hcs,rfl⟩,⟨_,rfl,rfl⟩⟩
 ·
  cases hd
 ·
  cases hd
theorem rpost_n {st:Int} {p g:Hf} {y:Ga} {φ:Fw.Place} {R:Prot} {w:World} (h:ChunkRel φ R w 0 (.box (rfC st p g y.e1 y.e2 y.b1 y.b2 .nilp .nilp))):∀ j c,lookup j (rnU ⟨st,p,g,none,y⟩ 0 1 2) = some c→ChunkRel (fun k=>(only0 k).bind φ) R w j c:=fun j c hj=>by
 rcases lk3 hj with ⟨rfl,rfl⟩|⟨rfl,rfl⟩|⟨rfl,rfl⟩
 ·
  refine Conv.rcnX ⟨st,p,g,none,y⟩ 1 2 _ _ _ _ ?_;exact ChunkRel.mono (c:=.box (rfC st p g y.e1 y.e2 y.b1 y.b2 .nilp .nilp)) h rfl (fun k hk=>absurd hk (by simp [Chunk.has,AV.hasAny,AV.has])) (fun _ _ h=>h) (fun _ _ _=>rfl) (fun _ _ _ _=>⟨rfl,fun _ h=>h⟩)
 ·
  exact .inl ⟨rfl,rfl⟩
 ·
  exact .inl ⟨rfl,rfl⟩
theorem rconv_nn {f:FuncId} {args:List AV} {ret:AV} {st st':Int} {p g p' g':Hf} {y y':Ga} (k:HSpec P G f args (rnG st p g y) ret (rnG st' p' g' y')) (hr:∀ j,ret.has j = false) :
  HSpec P G f args (rnU ⟨st,p,g,none,y⟩ 0 1 2) ret (rnU ⟨st',p',g',none,y'⟩ 0 1 2):=
 HSpec.conv k only0 (rpre_n st p g y) (fun φ R w hh=>rpost_n (hh.rel 0 _ rfl)) (fun j a ha _=>by
  unfold only0 at ha
  split at ha
  ·
   simp only [Option.some.injEq] at ha;subst ha;exact ⟨_,rfl⟩
  ·
   cases ha) only0_inj (fun φ R w v h=>ret_any hr _ _ _ _ _ h) (rfix_U rfl ⟨_,rfl⟩)
theorem rconv_hn {f:FuncId} {args:List AV} {ret:AV} {st st':Int} {p g p' g':Hf} {y y':Ga} {s t s' t':SS} (k:HSpec P G f args (rnO st p g s t) ret [(0,.box (rfC st' p' g' y'.e1 y'.e2 y'.b1 y'.b2 .nilp .nilp)),(1,.box (bxR s')),(2,.box (bxR t'))]) (hr:∀ j,ret.has j = false) :
  HSpec P G f args (rnU ⟨st,p,g,some (s,t),y⟩ 0 1 2) ret (rnU ⟨st',p',g',none,y'⟩ 0 1 2):=
 HSpec.conv k only0 (rpre_h st p g y s t) (fun φ R w hh=>rpost_n (hh.rel 0 _ rfl)) (fun j a ha _=>by
  unfold only0 at ha
  split at ha
  ·
   simp only [Option.some.injEq] at ha;subst ha;exact ⟨_,rfl⟩
  ·
   cases ha) only0_inj (fun φ R w v h=>ret_any hr _ _ _ _ _ h) (rfix_U rfl ⟨_,rfl⟩)
theorem rconv_hh {f:FuncId} {args:List AV} {ret:AV} {st st':Int} {p g p' g':Hf} {y y':Ga} {s t s' t':SS} (k:HSpec P G f args (rnO st p g s t) ret (rnO st' p' g' s' t')) :
  HSpec P G f args (rnU ⟨st,p,g,some (s,t),y⟩ 0 1 2) ret (rnU ⟨st',p',g',some (s',t'),y'⟩ 0 1 2):=
 HSpec.conv k some (rpre_h st p g y s t) (fun φ R w hh j c hj=>by
  rcases lk3 hj with ⟨rfl,rfl⟩|⟨rfl,rfl⟩|⟨rfl,rfl⟩
  ·
   exact Conv.rcnX ⟨st',p',g',some (s',t'),y'⟩ 1 2 _ _ _ _ (hh.rel 0 _ rfl)
  ·
   exact Conv.rstX s' _ _ _ _ (hh.rel 1 _ rfl)
  ·
   exact Conv.rstX t' _ _ _ _ (hh.rel 2 _ rfl)) (fun j a ha hc=>by
  simp only [Option.some.injEq] at ha;subst ha;obtain ⟨c,hc⟩:=hc;rcases lk3 hc with ⟨rfl,rfl⟩|⟨rfl,rfl⟩|⟨rfl,rfl⟩ <;> exact ⟨_,rfl⟩) (fun i j a h1 h2=>by rw [Option.some.inj h1,Option.some.inj h2]) (fun φ R w v h=>h) (rfix_U rfl ⟨_,rfl⟩)
theorem rconv_nh {f:FuncId} {args:List AV} {ret:AV} {st st':Int} {p g p' g':Hf} {y y':Ga} {s' t':SS} (k:HSpec P G f args (rnG st p g y) ret [(0,.box (rfC st' p' g' p'.high g'.high (endedS s') (endedS t') (.loc 300 0) (.loc 301 0))),(300,.box (bxR s')),(301,.box (bxR t'))]) (hr:∀ j,ret.has j = false) :
  HSpec P G f args (rnU ⟨st,p,g,none,y⟩ 0 1 2) ret (rnU ⟨st',p',g',some (s',t'),y'⟩ 0 1 2):=
 HSpec.conv k up300 (rpre_n st p g y) (fun φ R w hh j c hj=>by
  rcases lk3 hj with ⟨rfl,rfl⟩|⟨rfl,rfl⟩|⟨rfl,rfl⟩
  ·
   refine Conv.rcnX ⟨st',p',g',some (s',t'),y'⟩ 1 2 _ _ _ _ ?_;obtain ⟨b,cap,vs,e,fr,h1,h2,h3,h4,h5⟩:=hh.rel 0 _ rfl;refine ⟨b,cap,vs,e,fr,h1,h2,?_,h4,h5⟩;have e2:rfC st' p' g' p'.high g'.high (endedS s') (endedS t') (.loc 300 0) (.loc 301 0) = AV.renL (fun k=>(up300 k).getD 0) (rfC st' p' g' p'.high g'.high (endedS s') (endedS t') (.loc 1 0) (.loc 2 0)):=rfl;rw [e2,RepVs.ren] at h3;refine RepVs.mono (fun _ _ h=>h) (fun _ _ _=>rfl) (fun id hi=>?_) h3;have:=rcells_ids ⟨st',p',g',some (s',t'),y'⟩ 1 2 id hi;simp only [List.contains_eq_mem,List.mem_cons,List.not_mem_nil,or_false,decide_eq_true_eq] at this;rcases this with rfl|rfl <;> rfl
  ·
   refine Conv.rstX s' _ _ _ _ ?_;obtain ⟨b,cap,vs,e,fr,h1,h2,h3,h4,h5⟩:=hh.rel 300 _ rfl;exact ⟨b,cap,vs,e,fr,h1,h2,RepVs.mono (fun _ _ h=>h) (fun _ _ _=>rfl) (fun id hi=>by rw [rbxR_has] at hi;cases hi) h3,h4,h5⟩
  ·
   refine Conv.rstX t' _ _ _ _ ?_;obtain ⟨b,cap,vs,e,fr,h1,h2,h3,h4,h5⟩:=hh.rel 301 _ rfl;exact ⟨b,cap,vs,e,fr,h1,h2,RepVs.mono (fun _ _ h=>h) (fun _ _ _=>rfl) (fun id hi=>by rw [rbxR_has] at hi;cases hi) h3,h4,h5⟩) (fun j a ha hc=>by
  obtain ⟨c,hc⟩:=hc;rcases lk3 hc with ⟨rfl,rfl⟩|⟨rfl,rfl⟩|⟨rfl,rfl⟩ <;> · rw [← Option.some.inj ha];exact ⟨_,rfl⟩) (fun i j a h1 h2=>by
  unfold up300 at h1 h2
  (repeat' split at h1) <;> (repeat' split at h2) <;> simp_all <;> omega) (fun φ R w v h=>ret_any hr _ _ _ _ _ h) (rfix_U rfl ⟨_,rfl⟩)
theorem rcells_ren (c:Rnn) (i j k:Nat):AV.renL (renOf [i,j,k]) (c.cells 1 2) = c.cells j k:=by
 obtain ⟨st,p,g,ss,y⟩:=c;cases ss <;> rfl
theorem rcon_ren (c:Rnn) (i j k:Nat) (φ:Fw.Place) (R:Prot) (w:World) (b:Nat) (o:Obj) (cap:Nat):((rcnX c 1 2).ren (renOf [i,j,k])).rel φ R w b o cap ↔ (rcnX c j k).rel φ R w b o cap:=by
 constructor
 ·
  rintro ⟨vs,e,fr,h1,h2,h3⟩;refine ⟨vs,e,fr,h1,?_,h3⟩;rw [← rcells_ren c i j k,RepVs.ren];exact h2
 ·
  rintro ⟨vs,e,fr,h1,h2,h3⟩;refine ⟨vs,e,fr,h1,?_,h3⟩;rw [← rcells_ren c i j k,RepVs.ren] at h2;exact h2
theorem rstr_ren (x:Option SS) (ρ:Nat→Nat) (φ:Fw.Place) (R:Prot) (w:World) (b:Nat) (o:Obj) (cap:Nat):((rstX x).ren ρ).rel φ R w b o cap ↔ (rstX x).rel φ R w b o cap:=by
 constructor
 ·
  rintro ⟨s,vs,e,fr,h0,h1,h2,h3⟩;exact ⟨s,vs,e,fr,h0,h1,RepVs.mono (fun _ _ h=>h) (fun _ _ _=>rfl) (fun id hi=>by rw [rbxR_has] at hi;cases hi) h2,h3⟩
 ·
  rintro ⟨s,vs,e,fr,h0,h1,h2,h3⟩;exact ⟨s,vs,e,fr,h0,h1,RepVs.mono (fun _ _ h=>h) (fun _ _ _=>rfl) (fun id hi=>by rw [rbxR_has] at hi;cases hi) h2,h3⟩
theorem rat_U {f:FuncId} {rest:List AV} {ret:AV} {c c':Rnn} (h:HSpec P G f (.loc 0 0 :: rest) (rnU c 0 1 2) ret (rnU c' 0 1 2)) (i j k:Nat) (hn:[i,j,k].Nodup)
  (hrest:AV.renL (renOf [i,j,k]) rest = rest) (hret:ret.ren (renOf [i,j,k]) = ret):HSpec P G f (.loc i 0 :: rest) (rnU c i j k) ret (rnU c' i j k):=by
 have h2:=FSpec.ren h (renOf [i,j,k]) (renOf_inj hn);rw [show AV.renL (renOf [i,j,k]) (.loc 0 0 :: rest) = .loc i 0 :: AV.renL (renOf [i,j,k]) rest from rfl,hrest,hret] at h2;have hd:i≠j∧i≠k∧j≠k:=by simp at hn;omega
 have eR:∀ c:Rnn,renH (renOf [i,j,k]) (rnU c 0 1 2) = [(i,.ext ((rcnX c 1 2).ren (renOf [i,j,k]))),(j,.ext ((rstX c.s1).ren (renOf [i,j,k]))),(k,.ext ((rstX c.s2).ren (renOf [i,j,k])))]:=fun _=>rfl
 rw [eR,eR] at h2;refine HSpec.conv h2 some (fun n d hd'=>?_) (fun φ R w hh n d hd'=>?_) (fun n a ha hc=>?_) (fun _ _ _ h1 h2=>by rw [Option.some.inj h1,Option.some.inj h2]) (fun _ _ _ _ h=>h) (fun n d hd' hfx=>?_)
 ·
  rcases lk3' hd' with ⟨e,e2⟩|⟨e,e2⟩|⟨e,e2⟩
  ·
   rw [e,e2];exact ⟨.ext (rcnX c j k),lkA ..,conv_ext (fun h=>h) (fun φ R w b o cap h=>(rcon_ren c i j k φ R w b o cap).2 h)⟩
  ·
   rw [e,e2];exact ⟨.ext (rstX c.s1),lkB hd.1 ..,conv_ext (fun h=>h) (fun φ R w b o cap h=>(rstr_ren _ _ φ R w b o cap).2 h)⟩
  ·
   rw [e,e2];exact ⟨.ext (rstX c.s2),lkC hd.2.1 hd.2.2 ..,conv_ext (fun h=>h) (fun φ R w b o cap h=>(rstr_ren _ _ φ R w b o cap).2 h)⟩
 ·
  rcases lk3' hd' with ⟨e,e2⟩|⟨e,e2⟩|⟨e,e2⟩
  ·
   rw [e,e2];exact conv_ext (X:=(rcnX c' 1 2).ren (renOf [i,j,k])) (Y:=rcnX c' j k) (fun h=>h) (fun φ R w b o cap h=>(rcon_ren c' i j k φ R w b o cap).1 h) _ _ _ _ (hh.rel i _ (lkA ..))
  ·
   rw [e,e2];exact conv_ext (X:=(rstX c'.s1).ren (renOf [i,j,k])) (fun h=>h) (fun φ R w b o cap h=>(rstr_ren c'.s1 (renOf [i,j,k]) φ R w b o cap).1 h) _ _ _ _ (hh.rel j _ (lkB hd.1 ..))
  ·
   rw [e,e2];exact conv_ext (X:=(rstX c'.s2).ren (renOf [i,j,k])) (fun h=>h) (fun φ R w b o cap h=>(rstr_ren c'.s2 (renOf [i,j,k]) φ R w b o cap).1 h) _ _ _ _ (hh.rel k _ (lkC hd.2.1 hd.2.2 ..))
 ·
  simp only [Option.some.injEq] at ha;subst ha;obtain ⟨d,hd'⟩:=hc;rcases lk3' hd' with ⟨e,e2⟩|⟨e,e2⟩|⟨e,e2⟩
  ·
   rw [e];exact ⟨_,lkA ..⟩
  ·
   rw [e];exact ⟨_,lkB hd.1 ..⟩
  ·
   rw [e];exact ⟨_,lkC hd.2.1 hd.2.2 ..⟩
 ·
  rcases lk3' hd' with ⟨e,e2⟩|⟨e,e2⟩|⟨e,e2⟩
  ·
   rw [e];exact ⟨rfl,⟨_,lkA ..,rfl⟩,⟨_,lkA ..,rfl⟩⟩
  ·
   rw [e2] at hfx;cases hfx
  ·
   rw [e2] at hfx;cases hfx
end Go.Proofs.YtchiagnggnblaaaGreatDoor.Ac
namespace Go.Proofs.YtchiagnggnblaaaGreatDoor.Ac
open Go Go.Fw Go.Ov Go.Proofs.YtchiagnggnblaaaGreatDoor.Fx
theorem f17_nx (st:Int) (p g:Hf) (d:Int) (hd1:d≠1) (hd2:d≠2):HSpec P G 17 [.loc 0 0,.int .i64 d] (cnN st p g) (.int .i64 0) (cnN st p g):=by
 refine fspec_intro hT (cnN st p g) (cnN st p g) 1 1 Tryz.func17 (by decide) rfl rfl (by kernel_rfl) rfl rfl ?_;refine Tri.seq (Tri.reg hT ?_);refine Tri.seq ?_;refine Tri.seq (Tri.reg hT ?_);refine ⟨_,[],trivial,rfl,rfl,fun h=>⟨rfl,rfl,rfl⟩,?_⟩;refine ⟨_,[],trivial,rfl,rfl,fun h=>⟨h,(.inl ⟨_,fun _=>rfl,f21_spec d,rfl,rfl,rfl⟩)⟩,?_⟩;refine ⟨_,[],trivial,rfl,rfl,fun h=>⟨h,rfl,rfl,rfl⟩,?_⟩;refine ⟨⟨fun _=>trivial,fun hc=>(gn hc)⟩,?_⟩;refine ⟨_,[],trivial,rfl,rfl,fun h=>⟨rfl,rfl,rfl⟩,?_⟩;refine ⟨_,[],trivial,rfl,rfl,fun h=>⟨rfl,rfl,rfl⟩,?_⟩;refine ⟨.nilp,[],trivial,rfl,rfl,fun h=>absurd h (by simp [gd,hd1,hd2]),?_⟩;refine ⟨.nilp,[],trivial,rfl,rfl,fun h=>absurd h (by simp [gd,hd1,hd2]),?_⟩;refine ⟨.nilp,[],trivial,rfl,rfl,fun h=>absurd h (by simp [gd,hd1,hd2]),?_⟩;refine ⟨.nilp,[],trivial,rfl,rfl,fun h=>absurd h (by simp [gd,hd1,hd2]),?_⟩;refine ⟨.nilp,[],trivial,rfl,rfl,fun h=>absurd h (by simp [gd,hd1,hd2]),?_⟩;refine ⟨.bool false,[],trivial,rfl,rfl,fun h=>absurd h (by simp [gd,hd1,hd2]),?_⟩;refine ⟨⟨fun _=>trivial,fun hc=>(gn hc)⟩,?_⟩;refine (Tri.cond ⟨fun h1=>?_,fun h1=>?_⟩)
 ·
  refine Tri.seq (Tri.reg hT ?_);refine Tri.ret ?_;exact ⟨rfl,rfl,trivial⟩
 ·
  exact absurd h1 (by simp [hd1,hd2])
theorem f15_nx (st:Int) (p g:Hf) (d:Int) (hd1:d≠1) (hd2:d≠2):HSpec P G 15 [.loc 0 0,.int .i64 d] (cnN st p g) vwZ (cnN st p g):=by
 refine fspec_intro hT (cnN st p g) (cnN st p g) 1 1 Tryz.func15 (by decide) rfl rfl (by kernel_rfl) rfl rfl ?_;refine Tri.seq (Tri.reg hT ?_);refine Tri.seq ?_;refine Tri.seq (Tri.reg hT ?_);refine ⟨_,[],trivial,rfl,rfl,fun h=>⟨rfl,rfl,rfl⟩,?_⟩;refine ⟨_,[],trivial,rfl,rfl,fun h=>⟨h,(.inl ⟨_,fun _=>rfl,f21_spec d,rfl,rfl,rfl⟩)⟩,?_⟩;refine ⟨_,[],trivial,rfl,rfl,fun h=>⟨h,rfl,rfl,rfl⟩,?_⟩;refine ⟨⟨fun _=>trivial,fun hc=>(gn hc)⟩,?_⟩;refine ⟨_,[],trivial,rfl,rfl,fun h=>⟨rfl,rfl,rfl⟩,?_⟩;refine ⟨_,[(0,cnC st p g .nilp .nilp,none)],(by exact ⟨rfl,trivial⟩),rfl,(by rfl),fun h=>⟨h,(.inr (.inl ⟨_,_,(by exact ⟨rfl,trivial⟩),(CSpec.ofH (u:=[(0,cnC st p g .nilp .nilp,none)]) (f24_n st p g)),(by rfl),rfl,rfl,rfl⟩))⟩,?_⟩;refine ⟨_,[],trivial,rfl,rfl,fun h=>⟨h,rfl,rfl,rfl⟩,?_⟩;refine ⟨⟨fun _=>trivial,fun hc=>(gn hc)⟩,?_⟩;refine (Tri.cond ⟨fun h1=>?_,fun h1=>?_⟩)
 ·
  refine Tri.seq (Tri.reg hT ?_);refine Tri.ret ?_;exact ⟨rfl,rfl,trivial⟩
 ·
  exact absurd h1 (by simp [hd1,hd2])
theorem f17_hx (st:Int) (p g:Hf) (s t:SS) (d:Int) (hd1:d≠1) (hd2:d≠2):HSpec P G 17 [.loc 0 0,.int .i64 d] (cnH st p g s t) (.int .i64 0) (cnH st p g s t):=by
 refine fspec_intro hT (cnH st p g s t) (cnH st p g s t) 3 3 Tryz.func17 (by decide) rfl rfl (by kernel_rfl) rfl rfl ?_;refine Tri.seq (Tri.reg hT ?_);refine Tri.seq ?_;refine Tri.seq (Tri.reg hT ?_);refine ⟨_,[],trivial,rfl,rfl,fun h=>⟨rfl,rfl,rfl⟩,?_⟩;refine ⟨_,[],trivial,rfl,rfl,fun h=>⟨h,(.inl ⟨_,fun _=>rfl,f21_spec d,rfl,rfl,rfl⟩)⟩,?_⟩;refine ⟨_,[],trivial,rfl,rfl,fun h=>⟨h,rfl,rfl,rfl⟩,?_⟩;refine ⟨⟨fun _=>trivial,fun hc=>(gn hc)⟩,?_⟩;refine ⟨_,[],trivial,rfl,rfl,fun h=>⟨rfl,rfl,rfl⟩,?_⟩;refine ⟨_,[],trivial,rfl,rfl,fun h=>⟨rfl,rfl,rfl⟩,?_⟩;refine ⟨.nilp,[],trivial,rfl,rfl,fun h=>absurd h (by simp [gd,hd1,hd2]),?_⟩;refine ⟨.nilp,[],trivial,rfl,rfl,fun h=>absurd h (by simp [gd,hd1,hd2]),?_⟩;refine ⟨.nilp,[],trivial,rfl,rfl,fun h=>absurd h (by simp [gd,hd1,hd2]),?_⟩;refine ⟨.nilp,[],trivial,rfl,rfl,fun h=>absurd h (by simp [gd,hd1,hd2]),?_⟩;refine ⟨.nilp,[],trivial,rfl,rfl,fun h=>absurd h (by simp [gd,hd1,hd2]),?_⟩;refine ⟨.bool false,[],trivial,rfl,rfl,fun h=>absurd h (by simp [gd,hd1,hd2]),?_⟩;refine ⟨⟨fun _=>trivial,fun hc=>(gn hc)⟩,?_⟩;refine (Tri.cond ⟨fun h1=>?_,fun h1=>?_⟩)
 ·
  refine Tri.seq (Tri.reg hT ?_);refine Tri.ret ?_;exact ⟨rfl,rfl,rfl,rfl,trivial⟩
 ·
  exact absurd h1 (by simp [hd1,hd2])
theorem f15_hx (st:Int) (p g:Hf) (s t:SS) (d:Int) (hd1:d≠1) (hd2:d≠2):HSpec P G 15 [.loc 0 0,.int .i64 d] (cnH st p g s t) vwZ (cnH st p g s t):=by
 refine fspec_intro hT (cnH st p g s t) (cnH st p g s t) 3 3 Tryz.func15 (by decide) rfl rfl (by kernel_rfl) rfl rfl ?_;refine Tri.seq (Tri.reg hT ?_);refine Tri.seq ?_;refine Tri.seq (Tri.reg hT ?_);refine ⟨_,[],trivial,rfl,rfl,fun h=>⟨rfl,rfl,rfl⟩,?_⟩;refine ⟨_,[],trivial,rfl,rfl,fun h=>⟨h,(.inl ⟨_,fun _=>rfl,f21_spec d,rfl,rfl,rfl⟩)⟩,?_⟩;refine ⟨_,[],trivial,rfl,rfl,fun h=>⟨h,rfl,rfl,rfl⟩,?_⟩;refine ⟨⟨fun _=>trivial,fun hc=>(gn hc)⟩,?_⟩;refine ⟨_,[],trivial,rfl,rfl,fun h=>⟨rfl,rfl,rfl⟩,?_⟩;refine ⟨_,[(0,cnC st p g (.loc 1 0) (.loc 2 0),none),(1,bxS s,none),(2,bxS t,none)],(by exact ⟨rfl,rfl,rfl,trivial⟩),rfl,(by rfl),fun h=>⟨h,(.inr (.inl ⟨_,_,(by exact ⟨rfl,rfl,rfl,trivial⟩),(CSpec.ofH (u:=[(0,cnC st p g (.loc 1 0) (.loc 2 0),none),(1,bxS s,none),(2,bxS t,none)]) (f24_h st p g s t)),(by rfl),rfl,rfl,rfl⟩))⟩,?_⟩;refine ⟨_,[],trivial,rfl,rfl,fun h=>⟨h,rfl,rfl,rfl⟩,?_⟩;refine ⟨⟨fun _=>trivial,fun hc=>(gn hc)⟩,?_⟩;refine (Tri.cond ⟨fun h1=>?_,fun h1=>?_⟩)
 ·
  refine Tri.seq (Tri.reg hT ?_);refine Tri.ret ?_;exact ⟨rfl,rfl,rfl,rfl,trivial⟩
 ·
  exact absurd h1 (by simp [hd1,hd2])
def offD (c:Cnn) (d:Int):Int:=if d = 1 then offC c 1 else if d = 2 then offC c 2 else 0
def vwD (c:Cnn) (d:Int):Bool × Int × Int × Int × Bool × Int:=if d = 1 then vwC c 1 else if d = 2 then vwC c 2 else (false,0,0,0,false,0)
theorem f17_ud (c:Cnn) (d:Int):HSpec P G 17 [.loc 0 0,.int .i64 d] (cnU c 0 1 2) (.int .i64 (offD c d)) (cnU c 0 1 2):=by
 unfold offD
 by_cases h1:d = 1
 ·
  subst h1;rw [if_pos rfl];exact f17_u1 c
 ·
  rw [if_neg h1];by_cases h2:d = 2
  ·
   subst h2;rw [if_pos rfl];exact f17_u2 c
  ·
   rw [if_neg h2];obtain ⟨st,p,g,ss⟩:=c;cases ss with
   | none=>exact conv_nn (f17_nx st p g d h1 h2) (fun _=>rfl)
   | some y=>exact conv_hh (f17_hx st p g y.1 y.2 d h1 h2)
theorem f15_ud (c:Cnn) (B:Int) (hi:CInv c B) (d:Int):HSpec P G 15 [.loc 0 0,.int .i64 d] (cnU c 0 1 2) (vwV (vwD c d)) (cnU c 0 1 2):=by
 unfold vwD
 by_cases h1:d = 1
 ·
  subst h1;rw [if_pos rfl];exact f15_u1 c B hi
 ·
  rw [if_neg h1];by_cases h2:d = 2
  ·
   subst h2;rw [if_pos rfl];exact f15_u2 c B hi
  ·
   rw [if_neg h2];obtain ⟨st,p,g,ss⟩:=c;cases ss with
   | none=>exact conv_nn (f15_nx st p g d h1 h2) (fun _=>rfl)
   | some y=>exact conv_hh (f15_hx st p g y.1 y.2 d h1 h2)
def rnn (c:Cnn) (y:Ga):Rnn:=⟨c.st,c.p,c.g,c.ss,y⟩
def HB (c:Cnn):Prop:=match c.ss with
 | none=>(c.st = 1∨c.st = 2→c.p.high = IntKind.u32.wrap (c.p.isn + 1))∧(c.st = 2→c.g.high = IntKind.u32.wrap (c.g.isn + 1))
 | some _=>True
theorem HB.both {st:Int} {p g:Hf} (h:HB ⟨st,p,g,none⟩):Both st p g:=fun e=>⟨h.1 (.inr e),h.2 e⟩
theorem segC_hb {c:Cnn} (h:HB c) (d q k f:Int) (o:List optT.D) (x:List UInt8):HB (segC d c q k f o x).2:=by
 obtain ⟨st,p,g,ss⟩:=c;unfold segC
 split
 ·
  unfold seg1
  cases ss with
  | none=>
   dsimp only
   split
   ·
    exact trivial
   ·
    have h':(st = 1∨st = 2→p.high = IntKind.u32.wrap (p.isn + 1))∧(st = 2→g.high = IntKind.u32.wrap (g.isn + 1)):=h;show ((sgN1 st p g q k f o x).2.1 = 1∨(sgN1 st p g q k f o x).2.1 = 2→(sgN1 st p g q k f o x).2.2.high = IntKind.u32.wrap ((sgN1 st p g q k f o x).2.2.isn + 1))∧((sgN1 st p g q k f o x).2.1 = 2→g.high = IntKind.u32.wrap (g.isn + 1))
    unfold sgN1
    split
    ·
     exact h'
    ·
     split
     ·
      exact ⟨fun _=>rfl,fun e=>absurd (show (1:Int) = 2 from e) (by decide)⟩
     ·
      split <;> exact h'
  | some y=>
   dsimp only
   split
   ·
    exact trivial
   ·
    split
    ·
     exact ⟨fun _=>rfl,fun e=>absurd (show (1:Int) = 2 from e) (by decide)⟩
    ·
     exact trivial
 ·
  split
  ·
   unfold seg2
   cases ss with
   | none=>
    have h':(st = 1∨st = 2→p.high = IntKind.u32.wrap (p.isn + 1))∧(st = 2→g.high = IntKind.u32.wrap (g.isn + 1)):=h;show ((sgN2 st p g q k f o).2.1 = 1∨(sgN2 st p g q k f o).2.1 = 2→p.high = IntKind.u32.wrap (p.isn + 1))∧((sgN2 st p g q k f o).2.1 = 2→(sgN2 st p g q k f o).2.2.high = IntKind.u32.wrap ((sgN2 st p g q k f o).2.2.isn + 1))
    unfold sgN2
    split
    ·
     exact h'
    ·
     split
     ·
      rename_i h2
      split
      ·
       exact h'
      ·
       refine ⟨fun _=>h'.1 ?_,fun _=>rfl⟩;unfold c2 at h2
       simp only [Bool.and_eq_true,Bool.or_eq_true,decide_eq_true_eq] at h2;exact h2.2
     ·
      exact h'
   | some y=>
    dsimp only
    split <;> exact trivial
  ·
   exact h
def gaC (d:Int) (c:Cnn) (y:Ga) (q k f:Int) (o:List optT.D) (x:List UInt8):Ga:=
 if d = 1 then (match c.ss with
  | none=>(sgR1 c.st c.p c.g y q k f o x).2.2.2
  | some z=>⟨c.p.high,c.g.high,endedS z.1,endedS z.2⟩) else y
theorem sgR1_eq (st:Int) (p g:Hf) (y:Ga) (q k f:Int) (o:List optT.D) (x:List UInt8):(sgR1 st p g y q k f o x).1 = (sgN1 st p g q k f o x).1∧(sgR1 st p g y q k f o x).2.1 = (sgN1 st p g q k f o x).2.1∧(sgR1 st p g y q k f o x).2.2.1 = (sgN1 st p g q k f o x).2.2:=by
 unfold sgR1 sgN1 bgN1
 cases flags f <;> cases c1 f st <;> cases c3 f st <;> exact ⟨rfl,rfl,rfl⟩
theorem sgR2_eq (st:Int) (p g:Hf) (q k f:Int) (o:List optT.D):sgR2 st p g q k f o = sgN2 st p g q k f o:=by
 unfold sgR2 sgN2 bgN2
 cases flags f <;> cases c2 f st <;> rfl
theorem f9_u (c:Cnn) (y:Ga) (B:Int) (hi:CInv c B) (hb:HB c) (h0:0≤B) (hB:B≤1099511600000) (d:Int) (a b q k f w u:Int) (hq:U32 q) (o:List optT.D) (x:List UInt8) (ho:o.length < 9223372036854775807) (hx:x.length≤1000000) :
  HSpec P G 9 [.loc 0 0,.int .i64 d,tcpV a b q k f w u o x] (rnU (rnn c y) 0 1 2) (.list evT (segC d c q k f o x).1) (rnU (rnn (segC d c q k f o x).2 (gaC d c y q k f o x)) 0 1 2):=by
 obtain ⟨st,p,g,ss⟩:=c;unfold segC gaC
 by_cases h1:d = 1
 ·
  subst h1;rw [if_pos rfl,if_pos rfl];cases ss with
  | none=>
   have hi:st = 0∨st = 1∨st = 2:=hi;unfold seg1
   dsimp only
   cases hop:opensB st p g q k f o x with
   | true=>
    rw [if_pos rfl];exact rconv_nh (y':=(sgR1 st p g y q k f o x).2.2.2) (f9_a st p g y a b q k f w u o x ho hx hq hb.both (opB_n hi) hop) (has_list _ _)
   | false=>
    rw [if_neg (by decide)];have key:=rconv_nn (f9_n1 st p g y a b q k f w u o x ho hx hq hb.both (opB_n hi) hop) (has_list _ _);obtain ⟨e1,e2,e3⟩:=sgR1_eq st p g y q k f o x;rw [e1,e2,e3] at key;exact key
  | some z=>
   obtain ⟨s,t⟩:=z;obtain ⟨is,it,hst⟩:SInv s B∧SInv t B∧(st = 3∨st = 4∨st = 5∨st = 6):=hi;unfold seg1
   dsimp only
   cases hop:opB st with
   | true=>
    rw [if_pos rfl];exact rconv_hh (y:=y) (y':=⟨p.high,g.high,endedS s,endedS t⟩) (f9_o1 st p g s t B is it hB a b q k f w u o x ho hx hq hop)
   | false=>
    rw [if_neg (by decide)];cases hf:(flags f && (synB f && !ackB f)) with
    | true=>
     rw [if_pos rfl];have hf':=hf;rw [Bool.and_eq_true] at hf';exact rconv_hn (y:=y) (y':=⟨p.high,g.high,endedS s,endedS t⟩) (f9_s1 st p g p.high g.high (endedS s) (endedS t) s t a b q k f w u o x ho hx hop (by rcases hst with rfl|rfl|rfl|rfl <;> decide) hf'.1 hf'.2) (has_list _ _)
    | false=>
     rw [if_neg (by decide)];exact rconv_hh (y:=y) (y':=⟨p.high,g.high,endedS s,endedS t⟩) (f9_r1 st p g p.high g.high (endedS s) (endedS t) s t a b q k f w u o x ho hx hop (by rcases hst with rfl|rfl|rfl|rfl <;> decide) (by rcases hst with rfl|rfl|rfl|rfl <;> decide) hf)
 ·
  rw [if_neg h1,if_neg h1];by_cases h2:d = 2
  ·
   subst h2;rw [if_pos rfl];cases ss with
   | none=>
    have hi:st = 0∨st = 1∨st = 2:=hi;have key:=rconv_nn (f9_n2 st p g y a b q k f w u o x ho hx (opB_n hi)) (has_list _ _);rw [sgR2_eq] at key;exact key
   | some z=>
    obtain ⟨s,t⟩:=z;obtain ⟨is,it,hst⟩:SInv s B∧SInv t B∧(st = 3∨st = 4∨st = 5∨st = 6):=hi;unfold seg2
    dsimp only
    cases hop:opB st with
    | true=>
     rw [if_pos rfl];exact rconv_hh (y:=y) (y':=y) (f9_o2 st g p t s B it is hB a b q k f w u o x ho hx hq hop)
    | false=>
     rw [if_neg (by decide)];exact rconv_hh (y:=y) (y':=y) (f9_r2 st p g p.high g.high (endedS s) (endedS t) s t a b q k f w u o x ho hx hop (by rcases hst with rfl|rfl|rfl|rfl <;> decide) (by rcases hst with rfl|rfl|rfl|rfl <;> decide))
  ·
   rw [if_neg h2];cases ss with
   | none=>exact rconv_nn (f9_xn st p g y.e1 y.e2 y.b1 y.b2 d a b q k f w u o x ho hx h1 h2) (has_list _ _)
   | some z=>exact rconv_hh (y:=y) (y':=y) (f9_xh st p g p.high g.high (endedS z.1) (endedS z.2) z.1 z.2 d a b q k f w u o x ho hx h1 h2)
theorem f12_u (c:Cnn) (y:Ga):HSpec P G 12 [.loc 0 0] (rnU (rnn c y) 0 1 2) (.int .i64 c.st) (rnU (rnn c y) 0 1 2):=by
 obtain ⟨st,p,g,ss⟩:=c;cases ss with
 | none=>exact rconv_nn (f12_n st p g y.e1 y.e2 y.b1 y.b2) (fun _=>rfl)
 | some z=>exact rconv_hh (y:=y) (y':=y) (f12_h st p g p.high g.high (endedS z.1) (endedS z.2) z.1 z.2)
theorem f18_ud (c:Cnn) (y:Ga) (d:Int):HSpec P G 18 [.loc 0 0,.int .i64 d] (rnU (rnn c y) 0 1 2) (.int .i64 (offD c d)) (rnU (rnn c y) 0 1 2):=by
 unfold offD
 obtain ⟨st,p,g,ss⟩:=c;by_cases h1:d = 1
 ·
  subst h1;rw [if_pos rfl]
  cases ss with
  | none=>exact rconv_nn (f18_n1 st p g y.e1 y.e2 y.b1 y.b2) (fun _=>rfl)
  | some z=>exact rconv_hh (y:=y) (y':=y) (f18_h1 st p g p.high g.high (endedS z.1) (endedS z.2) z.1 z.2)
 ·
  rw [if_neg h1];by_cases h2:d = 2
  ·
   subst h2;rw [if_pos rfl]
   cases ss with
   | none=>exact rconv_nn (f18_n2 st p g y.e1 y.e2 y.b1 y.b2) (fun _=>rfl)
   | some z=>exact rconv_hh (y:=y) (y':=y) (f18_h2 st p g p.high g.high (endedS z.1) (endedS z.2) z.1 z.2)
  ·
   rw [if_neg h2];cases ss with
   | none=>exact rconv_nn (f18_nx st p g y.e1 y.e2 y.b1 y.b2 d h1 h2) (fun _=>rfl)
   | some z=>exact rconv_hh (y:=y) (y':=y) (f18_hx st p g p.high g.high (endedS z.1) (endedS z.2) z.1 z.2 d h1 h2)
theorem f14_u (c:Cnn) (y:Ga) (B:Int) (hi:CInv c B):HSpec P G 14 [.loc 0 0] (rnU (rnn c y) 0 1 2) (.int .i64 (sizC c)) (rnU (rnn c y) 0 1 2):=by
 obtain ⟨st,p,g,ss⟩:=c;cases ss with
 | none=>
  have hi:st = 0∨st = 1∨st = 2:=hi;exact rconv_nn (f14_n st p g y.e1 y.e2 y.b1 y.b2 (by omega)) (fun _=>rfl)
 | some z=>
  obtain ⟨s,t⟩:=z;obtain ⟨is,it,hst⟩:SInv s B∧SInv t B∧(st = 3∨st = 4∨st = 5∨st = 6):=hi;by_cases h6:st = 6
  ·
   have:=rconv_hh (y:=y) (y':=y) (f14_6 st p g p.high g.high (endedS s) (endedS t) s t h6);rw [show (0:Int) = sizC ⟨st,p,g,some (s,t)⟩ from (if_pos h6).symm] at this;exact this
  ·
   have:=rconv_hh (y:=y) (y':=y) (f14_h st p g p.high g.high (endedS s) (endedS t) s t B is it (by omega) h6);rw [show lenSum s.l + lenSum t.l = sizC ⟨st,p,g,some (s,t)⟩ from (if_neg h6).symm] at this;exact this
theorem f16_ud (c:Cnn) (y:Ga) (B:Int) (hi:CInv c B) (d:Int):HSpec P G 16 [.loc 0 0,.int .i64 d] (rnU (rnn c y) 0 1 2) (vwV (vwD c d)) (rnU (rnn c y) 0 1 2):=by
 unfold vwD
 obtain ⟨st,p,g,ss⟩:=c;by_cases h1:d = 1
 ·
  subst h1;rw [if_pos rfl]
  cases ss with
  | none=>exact rconv_nn (f16_n1 st p g y.e1 y.e2 y.b1 y.b2 (opB_n hi)) (fun _=>rfl)
  | some z=>
   have:=rconv_hh (y:=y) (y':=y) (f16_h1 st p g p.high g.high (endedS z.1) (endedS z.2) z.1 z.2);unfold vwC
   dsimp only
   cases ho:opB st <;> rw [ho] at this
   ·
    rw [if_neg (by decide)] at this ⊢;exact this
   ·
    rw [if_pos rfl] at this ⊢;exact this
 ·
  rw [if_neg h1];by_cases h2:d = 2
  ·
   subst h2;rw [if_pos rfl]
   cases ss with
   | none=>exact rconv_nn (f16_n2 st p g y.e1 y.e2 y.b1 y.b2 (opB_n hi)) (fun _=>rfl)
   | some z=>
    have:=rconv_hh (y:=y) (y':=y) (f16_h2 st p g p.high g.high (endedS z.1) (endedS z.2) z.1 z.2);unfold vwC
    dsimp only
    cases ho:opB st <;> rw [ho] at this
    ·
     rw [if_neg (by decide)] at this ⊢;exact this
    ·
     rw [if_pos rfl] at this ⊢;exact this
  ·
   rw [if_neg h2];cases ss with
   | none=>exact rconv_nn (f16_nx st p g y.e1 y.e2 y.b1 y.b2 d h1 h2) (fun _=>rfl)
   | some z=>exact rconv_hh (y:=y) (y':=y) (f16_hx st p g p.high g.high (endedS z.1) (endedS z.2) z.1 z.2 d h1 h2)
theorem f10_self (l:List Evt) (hl:l.length≤1000):PSpec P G 10 [.list evT l,.list evT l] (.bool true):=by
 refine pspec_intro hT Tryz.func10 (by decide) rfl rfl (by kernel_rfl) rfl ?_;refine Tri.seq (Tri.reg hT ?_);refine Tri.seq ?_;refine Tri.seq (Tri.reg hT ?_);refine (Tri.cond ⟨fun h1=>?_,fun h1=>?_⟩)
 ·
  exact absurd h1 (by simp)
 ·
  refine (Tri.skip ?_);refine Tri.seq ?_;refine Tri.seq (Tri.reg hT ?_);refine (Tri.block ?_);refine (Tri.loop (ι:=Nat) (fun i=>⟨26,0,0,[(0,.list evT l),(1,.list evT l),(5,.int .i64 (i:Int))],[],G⟩) (fun i=>i≤l.length) (fun i=>l.length - i) (0) ?_ ?_ ?_)
  ·
   exact Nat.zero_le _
  ·
   exact Le.weak rfl rfl rfl rfl ⟨(by first|rfl|exact iv1 (by (try simp only [decide_eq_true_eq,decide_eq_false_iff_not,toNat_cast] at *);omega)),(by first|rfl|exact iv1 (by (try simp only [decide_eq_true_eq,decide_eq_false_iff_not,toNat_cast] at *);omega)),(by first|rfl|exact iv1 (by (try simp only [decide_eq_true_eq,decide_eq_false_iff_not,toNat_cast] at *);omega)),trivial⟩ trivial
  ·
   intro i hi;refine Tri.seq ?_;refine Tri.seq (Tri.reg hT ?_);refine (Tri.cond ⟨fun h2=>?_,fun h2=>?_⟩)
   ·
    refine (Tri.skip ?_);refine Tri.seq (Tri.block ?_);refine Tri.seq (Tri.drw hT hm 9 (by kernel_rfl) ?_);refine ⟨(by first|((try simp only [decide_eq_true_eq,decide_eq_false_iff_not,toNat_cast] at *);omega)|decide),?_⟩;refine ⟨(by first|((try simp only [decide_eq_true_eq,decide_eq_false_iff_not,toNat_cast] at *);omega)|decide),?_⟩;refine ⟨by kernel_rfl,?_⟩;refine (Tri.cond ⟨fun h3=>?_,fun h3=>?_⟩)
    ·
     exact absurd h3 (by simp)
    ·
     refine (Tri.skip ?_);refine (Tri.reg hT ?_);have h2':=of_decide_eq_true h2;exact ⟨i + 1,(show i + 1≤l.length by omega),by (try simp only [decide_eq_true_eq,decide_eq_false_iff_not,toNat_cast] at *);omega,Le.weak rfl rfl rfl rfl ⟨(by first|rfl|exact iv1 (by (try simp only [decide_eq_true_eq,decide_eq_false_iff_not,toNat_cast] at *);omega)),(by first|rfl|exact iv1 (by (try simp only [decide_eq_true_eq,decide_eq_false_iff_not,toNat_cast] at *);omega)),(by first|rfl|exact iv1 (by (try simp only [decide_eq_true_eq,decide_eq_false_iff_not,toNat_cast] at *);omega)),trivial⟩ trivial⟩
   ·
    refine Tri.exit ?_;refine Tri.seq (Tri.reg hT ?_);refine Tri.ret ?_;exact ⟨rfl,trivial⟩
end Go.Proofs.YtchiagnggnblaaaGreatDoor.Ac
namespace Go.Proofs.YtchiagnggnblaaaGreatDoor.Ac
open Go Go.Fw Go.Ov Go.Proofs.YtchiagnggnblaaaGreatDoor.Fx
theorem seg_len' (c:Cnn) (d q k f:Int) (o:List optT.D) (x:List UInt8):(segC d c q k f o x).1.length≤7:=by
 obtain ⟨st,p,g,ss⟩:=c;have key:∀ (d e:Int) (p g:Hf) (s t:SS),(sgH d e st p g s t q k f o x).1.length≤7:=by
  intro d e p g s t;have:=tkE_len d e s t q k f x;unfold sgH prM
  (repeat' split) <;> simp <;> omega
 unfold segC
 split
 ·
  unfold seg1
  cases ss with
  | none=>
   have:=tkE_len 1 2 (nwS p) (nwS g) q k f x;dsimp only
   split
   ·
    simp only [List.length_cons];omega
   ·
    unfold sgN1
    (repeat' split) <;> simp
  | some y=>
   dsimp only
   split
   ·
    exact key ..
   ·
    split <;> simp
 ·
  split
  ·
   unfold seg2
   cases ss with
   | none=>
    dsimp only
    unfold sgN2
    (repeat' split) <;> simp
   | some y=>
    dsimp only
    split
    ·
     exact key ..
    ·
     simp
  ·
   simp
def gaS (c:Cnn) (y:Ga) (e:Sg):Ga:=gaC e.1 c y (tqS e) (tkK e) (tfF e) (toO e) (txX e)
theorem rsegU (c:Cnn) (y:Ga) (B:Int) (hi:CInv c B) (hb:HB c) (h0:0≤B) (hB:B≤1099511600000) (e:Sg) (hq:U32 (tqS e)) (ho:(toO e).length≤10) (hx:(txX e).length≤200) (i j k:Nat) (hn:[i,j,k].Nodup) :
  HSpec P G 9 [.loc i 0,.int .i64 e.1,tcpV e.2.1.1 e.2.1.2.1 (tqS e) (tkK e) (tfF e) e.2.1.2.2.2.2.2.1 e.2.1.2.2.2.2.2.2.1 (toO e) (txX e)] (rnU (rnn c y) i j k) (.list evT (segS c e).1) (rnU (rnn (segS c e).2 (gaS c y e)) i j k):=
 rat_U (f9_u c y B hi hb h0 hB e.1 _ _ _ _ _ _ _ hq _ _ (by omega) (by omega)) i j k hn rfl rfl
theorem nodP:[5,20,21].Nodup:=by decide
theorem nodR:[8,22,23].Nodup:=by decide
theorem hb0 (p g:Hf):HB (new0 p g):=⟨fun h=>by rcases h with h|h <;> exact absurd (show (0:Int) = _ from h) (by decide),fun h=>absurd (show (0:Int) = 2 from h) (by decide)⟩
set_option maxRecDepth 16000 in
set_option maxHeartbeats 4000000 in
theorem f3_spec (p g:Hf) (hp:p.isn = 0∧p.high = 0∧p.stamped = false∧p.stamp = 0) (hg:g.isn = 0∧g.high = 0∧g.stamped = false∧g.stamp = 0) (l:List Sg) (hl:l.length≤140737488351232) (hu:∀ e∈l,U32 (tqS e)) :
  PSpec P G 3 [.agg (asA g),.agg (asA p),.list sgT l] (.bool true):=by
 refine pspec_intro hT Tryz.func3 (by decide) rfl rfl (by kernel_rfl) rfl ?_;refine Tri.seq (Tri.reg hT ?_);refine Tri.seq (Tri.drw hT hm 7 (by kernel_rfl) ?_);refine .inr (.inr ⟨_,(by exact fun _=>rfl),(f4_spec p g hp hg),?_⟩);refine .inr (.inr ⟨_,(by exact fun _=>rfl),(f5_spec p g hp hg),?_⟩);refine ⟨by kernel_rfl,?_⟩;refine Tri.seq ?_;refine Tri.seq (Tri.reg hT ?_);refine .inl (.inl ⟨_,fun _=>rfl,f6_spec l hl,?_⟩);refine ⟨_,[],trivial,rfl,rfl,fun h=>⟨rfl,rfl,rfl⟩,?_⟩;refine ⟨_,[],trivial,rfl,rfl,fun h=>⟨h,rfl,rfl,rfl⟩,?_⟩;refine ⟨⟨fun _=>trivial,fun hc=>(gn hc)⟩,?_⟩;refine (Tri.cond ⟨fun h1=>?_,fun h1=>?_⟩)
 ·
  refine Tri.seq (Tri.reg hT ?_);refine .inl (.inl ⟨_,fun _=>rfl,f7_spec,?_⟩);refine Tri.ret ?_;exact ⟨rfl,trivial⟩
 ·
  refine (Tri.skip ?_);refine Tri.seq ?_;have h1l:longL l = false:=(by revert h1;cases longL l <;> simp);obtain ⟨hl40,hbig⟩:=longL_f h1l;refine Tri.le ⟨95,0,20,[(2,.list sgT l),(7,.loc 5 0),(8,.loc 8 0)],[(5,.box (cnC 0 p g .nilp .nilp)),(8,.box (rfC 0 p g 0 0 false false .nilp .nilp))],G⟩ (Le.weak rfl rfl rfl rfl ⟨rfl,rfl,rfl,trivial⟩ ⟨rfl,rfl,trivial⟩) ?_;refine Tri.le _ (Le.none (X:=strX none) rfl rfl) ?_;refine Tri.le _ (Le.none (X:=strX none) rfl rfl) ?_;refine Tri.le _ (Le.none (X:=rstX none) rfl rfl) ?_;refine Tri.le _ (Le.none (X:=rstX none) rfl rfl) ?_;refine Tri.le ⟨95,0,30,[(2,.list sgT l),(7,.loc 5 0),(8,.loc 8 0)],[(5,.ext (conX (new0 p g) 20 21)),(20,.ext (strX (new0 p g).s1)),(21,.ext (strX (new0 p g).s2)),(8,.ext (rcnX (rnn (new0 p g) (⟨0,0,false,false⟩:Ga)) 22 23)),(22,.ext (rstX (rnn (new0 p g) (⟨0,0,false,false⟩:Ga)).s1)),(23,.ext (rstX (rnn (new0 p g) (⟨0,0,false,false⟩:Ga)).s2))],G⟩ (Le.weakX rfl rfl rfl rfl ⟨rfl,rfl,rfl,trivial⟩ ⟨⟨_,rfl,Conv.conX (new0 p g) 20 21⟩,⟨_,rfl,Conv.refl _⟩,⟨_,rfl,Conv.refl _⟩,⟨_,rfl,Conv.rcnX (rnn (new0 p g) (⟨0,0,false,false⟩:Ga)) 22 23⟩,⟨_,rfl,Conv.refl _⟩,⟨_,rfl,Conv.refl _⟩,trivial⟩) ?_
  refine Tri.seq (Tri.reg hT ?_);refine (Tri.block ?_);refine (Tri.loop (ι:=Nat × Cnn × Ga) (fun i=>⟨95,0,40,[(2,.list sgT l),(7,.loc 5 0),(8,.loc 8 0),(9,.int .i64 ((i.1:Nat):Int))],[(5,.ext (conX i.2.1 20 21)),(20,.ext (strX i.2.1.s1)),(21,.ext (strX i.2.1.s2)),(8,.ext (rcnX (rnn i.2.1 i.2.2) 22 23)),(22,.ext (rstX (rnn i.2.1 i.2.2).s1)),(23,.ext (rstX (rnn i.2.1 i.2.2).s2))],G⟩) (fun i=>i.1≤l.length∧CInv i.2.1 (8192 * (i.1:Int))∧HB i.2.1) (fun i=>l.length - i.1) ((0,new0 p g,(⟨0,0,false,false⟩:Ga))) ?_ ?_ ?_)
  ·
   exact ⟨Nat.zero_le _,new0_inv p g,hb0 p g⟩
  ·
   exact Le.weak rfl rfl rfl rfl ⟨(by first|rfl|exact iv1 (by (try simp only [decide_eq_true_eq,decide_eq_false_iff_not,toNat_cast] at *);omega)),(by first|rfl|exact iv1 (by (try simp only [decide_eq_true_eq,decide_eq_false_iff_not,toNat_cast] at *);omega)),(by first|rfl|exact iv1 (by (try simp only [decide_eq_true_eq,decide_eq_false_iff_not,toNat_cast] at *);omega)),(by first|rfl|exact iv1 (by (try simp only [decide_eq_true_eq,decide_eq_false_iff_not,toNat_cast] at *);omega)),trivial⟩ ⟨rfl,rfl,rfl,rfl,rfl,rfl,trivial⟩
  ·
   intro i hi;refine Tri.seq ?_;refine Tri.seq (Tri.reg hT ?_);refine (Tri.cond ⟨fun h2=>?_,fun h2=>?_⟩)
   ·
    refine (Tri.skip ?_);refine Tri.seq (Tri.block ?_);have h2':=of_decide_eq_true h2;obtain ⟨hi0,hci,hbi⟩:=hi;have hi':i.1 < l.length:=(by omega);have hbg:=bigE_f (hbig i.1 hi');have huu:=hu _ (getD_mem (d:=(Ty.dflt sgT:Sg)) hi');have hbg:(txX (l.getD (Int.toNat ((i.1:Nat):Int)) (Ty.dflt sgT))).length≤200∧(toO (l.getD (Int.toNat ((i.1:Nat):Int)) (Ty.dflt sgT))).length≤10:=(by rw [toNat_cast];exact hbg);have huu:U32 (tqS (l.getD (Int.toNat ((i.1:Nat):Int)) (Ty.dflt sgT))):=(by rw [toNat_cast];exact huu);have hcn:CInv (segS i.2.1 (l.getD (Int.toNat ((i.1:Nat):Int)) (Ty.dflt sgT))).2 (8192 * (i.1:Int) + 8192):=segC_inv hci (by omega) _ _ _ _ _ _;have hbn:HB (segS i.2.1 (l.getD (Int.toNat ((i.1:Nat):Int)) (Ty.dflt sgT))).2:=segC_hb hbi _ _ _ _ _ _;have hlen:(segS i.2.1 (l.getD (Int.toNat ((i.1:Nat):Int)) (Ty.dflt sgT))).1.length≤7:=seg_len' _ _ _ _ _ _ _
    refine Tri.seq (Hv.Tri.drwH hT hm 12 [([20,21],[5,20,21])] [] (by kernel_rfl) ?_);refine ⟨(by first|((try simp only [decide_eq_true_eq,decide_eq_false_iff_not,toNat_cast] at *);omega)|decide),?_⟩;refine ⟨(by first|((try simp only [decide_eq_true_eq,decide_eq_false_iff_not,toNat_cast] at *);omega)|decide),?_⟩;refine .inr ⟨_,_,_,Hv.hv_fact rfl rfl rfl (segU i.2.1 _ hci (by omega) (by omega) (l.getD (Int.toNat ((i.1:Nat):Int)) (Ty.dflt sgT)) hbg.2 hbg.1 5 20 21 nodP) trivial ⟨rfl,rfl,rfl,trivial⟩ rfl (fun _=>rfl) rfl (fun q=>by cases q),(List.mem_cons_self ..),?_⟩;refine ⟨by kernel_rfl,by kernel_rfl,?_⟩;refine Tri.seq (Hv.Tri.drwH hT hm 12 [([22,23],[8,22,23])] [] (by kernel_rfl) ?_);refine ⟨(by first|((try simp only [decide_eq_true_eq,decide_eq_false_iff_not,toNat_cast] at *);omega)|decide),?_⟩;refine ⟨(by first|((try simp only [decide_eq_true_eq,decide_eq_false_iff_not,toNat_cast] at *);omega)|decide),?_⟩;refine .inr ⟨_,_,_,Hv.hv_fact rfl rfl rfl (rsegU i.2.1 i.2.2 _ hci hbi (by omega) (by omega) (l.getD (Int.toNat ((i.1:Nat):Int)) (Ty.dflt sgT)) huu hbg.2 hbg.1 8 22 23 nodR) trivial ⟨rfl,rfl,rfl,trivial⟩ rfl (fun _=>rfl) rfl (fun q=>by cases q),(List.mem_cons_self ..),?_⟩;refine ⟨by kernel_rfl,by kernel_rfl,?_⟩;refine Tri.seq ?_;refine Tri.seq (Tri.regM hT [5,6,7,8,9,12,13,14,15,16] ?_);refine .inl (.inl ⟨_,fun _=>rfl,f10_self (segS i.2.1 (l.getD (Int.toNat ((i.1:Nat):Int)) (Ty.dflt sgT))).1 (by omega),?_⟩);refine ⟨_,Le.refl _,.inr (.inl ⟨_,rfl,(by refine (congrArg some ?_:some _ = some true);simp [gd]),.inl ?_⟩)⟩;refine ⟨_,Le.refl _,.inr (.inl ⟨_,rfl,(by refine (congrArg some ?_:some _ = some true);simp [gd]),.inr (OpTri.hcall 1 rfl rfl rfl (at_U (f11_u (segS i.2.1 (l.getD (Int.toNat ((i.1:Nat):Int)) (Ty.dflt sgT))).2) 5 20 21 nodP rfl rfl) trivial ⟨rfl,rfl,rfl,trivial⟩ rfl ?_)⟩)⟩;refine ⟨_,Le.refl _,.inr (.inl ⟨_,rfl,(by refine (congrArg some ?_:some _ = some true);simp [gd]),.inl ?_⟩)⟩;refine ⟨_,Le.refl _,.inr (.inl ⟨_,rfl,(by refine (congrArg some ?_:some _ = some true);simp [gd]),.inr (OpTri.hcall 1 rfl rfl rfl (rat_U (f12_u (segS i.2.1 (l.getD (Int.toNat ((i.1:Nat):Int)) (Ty.dflt sgT))).2 (gaS i.2.1 i.2.2 (l.getD (Int.toNat ((i.1:Nat):Int)) (Ty.dflt sgT)))) 8 22 23 nodR rfl rfl) trivial ⟨rfl,rfl,rfl,trivial⟩ rfl ?_)⟩)⟩;refine ⟨_,Le.refl _,.inr (.inl ⟨_,rfl,(by refine (congrArg some ?_:some _ = some true);simp [gd]),.inl ?_⟩)⟩;refine ⟨⟨fun _=>trivial,fun _=>trivial⟩,?_⟩;refine ⟨_,Le.refl _,.inr (.inl ⟨_,rfl,(by refine (congrArg some ?_:some _ = some true);simp [gd]),.inl ?_⟩)⟩;refine ⟨_,Le.refl _,.inr (.inl ⟨_,rfl,(by refine (congrArg some ?_:some _ = some true);simp [gd]),.inr (OpTri.hcall 1 rfl rfl rfl (at_U (f13_u (segS i.2.1 (l.getD (Int.toNat ((i.1:Nat):Int)) (Ty.dflt sgT))).2 _ hcn) 5 20 21 nodP rfl rfl) trivial ⟨rfl,rfl,rfl,trivial⟩ rfl ?_)⟩)⟩;refine ⟨_,Le.refl _,.inr (.inl ⟨_,rfl,(by refine (congrArg some ?_:some _ = some true);simp [gd]),.inl ?_⟩)⟩;refine ⟨_,Le.refl _,.inr (.inl ⟨_,rfl,(by refine (congrArg some ?_:some _ = some true);simp [gd]),.inr (OpTri.hcall 1 rfl rfl rfl (rat_U (f14_u (segS i.2.1 (l.getD (Int.toNat ((i.1:Nat):Int)) (Ty.dflt sgT))).2 (gaS i.2.1 i.2.2 (l.getD (Int.toNat ((i.1:Nat):Int)) (Ty.dflt sgT))) _ hcn) 8 22 23 nodR rfl rfl) trivial ⟨rfl,rfl,rfl,trivial⟩ rfl ?_)⟩)⟩;refine ⟨_,Le.refl _,.inr (.inl ⟨_,rfl,(by refine (congrArg some ?_:some _ = some true);simp [gd]),.inl ?_⟩)⟩;refine ⟨⟨fun _=>trivial,fun _=>trivial⟩,?_⟩;refine (Tri.cond ⟨fun h3=>?_,fun h3=>?_⟩)
    ·
     exact absurd h3 (by simp)
    ·
     refine (Tri.skip ?_);refine Tri.seq (Tri.reg hT ?_);refine (Tri.block ?_);refine (Tri.loop (ι:=Nat) (fun j=>⟨95,0,200,[(2,.list sgT l),(7,.loc 5 0),(8,.loc 8 0),(9,.int .i64 ((i.1:Nat):Int)),(12,.int .i64 ((j:Nat):Int))],[(5,.ext (conX (segS i.2.1 (l.getD (Int.toNat ((i.1:Nat):Int)) (Ty.dflt sgT))).2 20 21)),(20,.ext (strX (segS i.2.1 (l.getD (Int.toNat ((i.1:Nat):Int)) (Ty.dflt sgT))).2.s1)),(21,.ext (strX (segS i.2.1 (l.getD (Int.toNat ((i.1:Nat):Int)) (Ty.dflt sgT))).2.s2)),(8,.ext (rcnX (rnn (segS i.2.1 (l.getD (Int.toNat ((i.1:Nat):Int)) (Ty.dflt sgT))).2 (gaS i.2.1 i.2.2 (l.getD (Int.toNat ((i.1:Nat):Int)) (Ty.dflt sgT)))) 22 23)),(22,.ext (rstX (rnn (segS i.2.1 (l.getD (Int.toNat ((i.1:Nat):Int)) (Ty.dflt sgT))).2 (gaS i.2.1 i.2.2 (l.getD (Int.toNat ((i.1:Nat):Int)) (Ty.dflt sgT)))).s1)),(23,.ext (rstX (rnn (segS i.2.1 (l.getD (Int.toNat ((i.1:Nat):Int)) (Ty.dflt sgT))).2 (gaS i.2.1 i.2.2 (l.getD (Int.toNat ((i.1:Nat):Int)) (Ty.dflt sgT)))).s2))],G⟩) (fun j=>j≤4) (fun j=>4 - j) (0) ?_ ?_ ?_)
     ·
      exact Nat.zero_le _
     ·
      exact Le.weak rfl rfl rfl rfl ⟨(by first|rfl|exact iv1 (by (try simp only [decide_eq_true_eq,decide_eq_false_iff_not,toNat_cast] at *);omega)),(by first|rfl|exact iv1 (by (try simp only [decide_eq_true_eq,decide_eq_false_iff_not,toNat_cast] at *);omega)),(by first|rfl|exact iv1 (by (try simp only [decide_eq_true_eq,decide_eq_false_iff_not,toNat_cast] at *);omega)),(by first|rfl|exact iv1 (by (try simp only [decide_eq_true_eq,decide_eq_false_iff_not,toNat_cast] at *);omega)),(by first|rfl|exact iv1 (by (try simp only [decide_eq_true_eq,decide_eq_false_iff_not,toNat_cast] at *);omega)),trivial⟩ ⟨rfl,rfl,rfl,rfl,rfl,rfl,trivial⟩
     ·
      intro j hj;refine Tri.seq ?_;refine Tri.seq (Tri.reg hT ?_);refine (Tri.cond ⟨fun h4=>?_,fun h4=>?_⟩)
      ·
       refine (Tri.skip ?_);refine Tri.seq (Tri.block ?_);refine Tri.seq (Tri.regM hT [2,5,8,9,10,11,12,13,14] ?_);refine ⟨_,Le.refl _,.inl (.inr (OpTri.hcall 1 rfl rfl rfl (at_U (f15_ud (segS i.2.1 (l.getD (Int.toNat ((i.1:Nat):Int)) (Ty.dflt sgT))).2 _ hcn _) 5 20 21 nodP rfl rfl) trivial ⟨rfl,rfl,rfl,trivial⟩ rfl ?_))⟩;refine ⟨_,Le.refl _,.inl (.inr (OpTri.hcall 1 rfl rfl rfl (rat_U (f16_ud (segS i.2.1 (l.getD (Int.toNat ((i.1:Nat):Int)) (Ty.dflt sgT))).2 (gaS i.2.1 i.2.2 (l.getD (Int.toNat ((i.1:Nat):Int)) (Ty.dflt sgT))) _ hcn _) 8 22 23 nodR rfl rfl) trivial ⟨rfl,rfl,rfl,trivial⟩ rfl ?_))⟩;refine ⟨_,Le.refl _,.inr (.inl ⟨_,rfl,(by refine (congrArg some ?_:some _ = some true);simp [gd]),.inl ?_⟩)⟩;refine ⟨_,Le.refl _,.inr (.inl ⟨_,rfl,(by refine (congrArg some ?_:some _ = some true);simp [gd]),.inl ?_⟩)⟩;refine ⟨_,Le.refl _,.inr (.inl ⟨_,rfl,(by refine (congrArg some ?_:some _ = some true);simp [gd]),.inr (OpTri.hcall 1 rfl rfl rfl (at_U (f17_ud (segS i.2.1 (l.getD (Int.toNat ((i.1:Nat):Int)) (Ty.dflt sgT))).2 _) 5 20 21 nodP rfl rfl) trivial ⟨rfl,rfl,rfl,trivial⟩ rfl ?_)⟩)⟩;refine ⟨_,Le.refl _,.inr (.inl ⟨_,rfl,(by refine (congrArg some ?_:some _ = some true);simp [gd]),.inl ?_⟩)⟩;refine ⟨_,Le.refl _,.inr (.inl ⟨_,rfl,(by refine (congrArg some ?_:some _ = some true);simp [gd]),.inl ?_⟩)⟩;refine ⟨_,Le.refl _,.inr (.inl ⟨_,rfl,(by refine (congrArg some ?_:some _ = some true);simp [gd]),.inr (OpTri.hcall 1 rfl rfl rfl (rat_U (f18_ud (segS i.2.1 (l.getD (Int.toNat ((i.1:Nat):Int)) (Ty.dflt sgT))).2 (gaS i.2.1 i.2.2 (l.getD (Int.toNat ((i.1:Nat):Int)) (Ty.dflt sgT))) _) 8 22 23 nodR rfl rfl) trivial ⟨rfl,rfl,rfl,trivial⟩ rfl ?_)⟩)⟩;refine ⟨_,Le.refl _,.inr (.inl ⟨_,rfl,(by refine (congrArg some ?_:some _ = some true);simp [gd]),.inl ?_⟩)⟩;refine ⟨⟨fun _=>trivial,fun _=>trivial⟩,?_⟩;refine (Tri.cond ⟨fun h5=>?_,fun h5=>?_⟩)
       ·
        exact absurd h5 (by simp)
       ·
        refine (Tri.skip ?_);refine (Tri.reg hT ?_);have h4':=of_decide_eq_true h4;exact ⟨j + 1,(show j + 1≤4 by omega),(by omega),Le.weak rfl rfl rfl rfl ⟨(by first|rfl|exact iv1 (by (try simp only [decide_eq_true_eq,decide_eq_false_iff_not,toNat_cast] at *);omega)),(by first|rfl|exact iv1 (by (try simp only [decide_eq_true_eq,decide_eq_false_iff_not,toNat_cast] at *);omega)),(by first|rfl|exact iv1 (by (try simp only [decide_eq_true_eq,decide_eq_false_iff_not,toNat_cast] at *);omega)),(by first|rfl|exact iv1 (by (try simp only [decide_eq_true_eq,decide_eq_false_iff_not,toNat_cast] at *);omega)),(by first|rfl|exact iv1 (by (try simp only [decide_eq_true_eq,decide_eq_false_iff_not,toNat_cast] at *);omega)),trivial⟩ ⟨rfl,rfl,rfl,rfl,rfl,rfl,trivial⟩⟩
      ·
       refine Tri.exit ?_;refine (Tri.reg hT ?_);exact ⟨(i.1 + 1,(segS i.2.1 (l.getD (Int.toNat ((i.1:Nat):Int)) (Ty.dflt sgT))).2,(gaS i.2.1 i.2.2 (l.getD (Int.toNat ((i.1:Nat):Int)) (Ty.dflt sgT)))),⟨(by show i.1 + 1≤l.length;omega),hcn.mono (by show 8192 * (i.1:Int) + 8192≤8192 * ((i.1 + 1:Nat):Int);omega),hbn⟩,(by show l.length - (i.1 + 1) < l.length - i.1;omega),Le.weak rfl rfl rfl rfl ⟨(by first|rfl|exact iv1 (by (try simp only [decide_eq_true_eq,decide_eq_false_iff_not,toNat_cast] at *);omega)),(by first|rfl|exact iv1 (by (try simp only [decide_eq_true_eq,decide_eq_false_iff_not,toNat_cast] at *);omega)),(by first|rfl|exact iv1 (by (try simp only [decide_eq_true_eq,decide_eq_false_iff_not,toNat_cast] at *);omega)),(by first|rfl|exact iv1 (by (try simp only [decide_eq_true_eq,decide_eq_false_iff_not,toNat_cast] at *);omega)),trivial⟩ ⟨rfl,rfl,rfl,rfl,rfl,rfl,trivial⟩⟩
   ·
    refine Tri.exit ?_;refine Tri.seq (Tri.reg hT ?_);refine .inl (.inl ⟨_,fun _=>rfl,f7_spec,?_⟩);refine Tri.ret ?_;exact ⟨rfl,trivial⟩
end Go.Proofs.YtchiagnggnblaaaGreatDoor.Ac
