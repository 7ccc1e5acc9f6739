import Derived.Test.YtchiagnggnblaaaGreatDoorSgH
set_option linter.all false
namespace Go.Proofs.YtchiagnggnblaaaGreatDoor.Ac
open Go Go.Fw Go.Ov Go.Proofs.YtchiagnggnblaaaGreatDoor.Fx
abbrev tcT:Ty:=.cons (.int .i64) (.cons (.int .i64) (.cons (.int .u32) (.cons (.int .u32) (.cons (.int .i64) (.cons (.int .i64) (.cons (.int .i64) (.cons (.list optT) (.cons .str .nil))))))))
abbrev sgT:Ty:=.cons (.int .i64) (.cons tcT .nil)
abbrev Tc:=Int × Int × Int × Int × Int × Int × Int × List optT.D × List UInt8 × Unit
abbrev Sg:=Int × Tc × Unit
abbrev tqS (e:Sg):Int:=e.2.1.2.2.1
abbrev tkK (e:Sg):Int:=e.2.1.2.2.2.1
abbrev tfF (e:Sg):Int:=e.2.1.2.2.2.2.1
abbrev toO (e:Sg):List optT.D:=e.2.1.2.2.2.2.2.2.2.1
abbrev txX (e:Sg):List UInt8:=e.2.1.2.2.2.2.2.2.2.2.1
def segS (c:Cnn) (e:Sg):List Evt × Cnn:=segC e.1 c (tqS e) (tkK e) (tfF e) (toO e) (txX e)
def hostH (w p:Int):Hf:={ nm:=[],v6:=false,hi:=0,lo:=0,ln:=0,pol:=p,frag:=0,hops:=0,win:=w,stamps:=false,val:=0,sv:=[],isn:=0,high:=0,stamped:=false,stamp:=0 }
theorem f19_spec (w p:Int):PSpec P G 19 [.int .i64 w,.int .i64 p] (.agg (asA (hostH w p))):=by
 refine pspec_intro hT Tryz.func19 (by decide) rfl rfl (by kernel_rfl) rfl ?_;refine Tri.seq (Tri.reg hT ?_);refine Tri.seq (Tri.reg hT ?_);refine Tri.le ⟨8,0,50,[(4,.loc 0 0)],[(0,.box (asA (hostH w p)))],G⟩ (Le.weakV rfl rfl rfl rfl ⟨rfl,trivial⟩ ⟨⟨rfl,rfl,rfl,rfl,rfl,rfl,rfl,rfl,rfl,rfl,rfl,rfl,trivial⟩,trivial⟩) ?_;refine Tri.ret ?_;exact ⟨rfl,trivial⟩
def shkM (a b:Int):List Sg:=[(1,(0,0,a,0,2,0,0,[],[],()),()),(2,(0,0,b,IntKind.u32.wrap (a + 1),18,0,0,[],[],()),()),(1,(0,0,IntKind.u32.wrap (a + 1),IntKind.u32.wrap (b + 1),16,0,0,[],[],()),())]
set_option maxRecDepth 16000 in
theorem f20_spec (a b:Int):PSpec P G 20 [.int .u32 a,.int .u32 b] (.list sgT (shkM a b)):=by
 refine pspec_intro hT Tryz.func20 (by decide) rfl rfl (by kernel_rfl) rfl ?_;refine Tri.seq (Tri.reg hT ?_);refine Tri.seq (Tri.reg hT ?_);refine Tri.le _ (Le.freeze 4 15 3 rfl rfl (Nat.le_refl 3)) ?_;refine Tri.ret ?_;exact ⟨rfl,trivial⟩
abbrev lH:Hf:=hostH 100 1
def lH1:Hf:=begH lH 100 []
def lH2:Hf:=begH lH 300 []
def lv3:Cnn:=⟨stM (tkS (nwS lH1) 101 16 []) (tkT (nwS lH2) 301),tkH lH1 (nwS lH1) 101 16 [] [],lH2,some (tkS (nwS lH1) 101 16 [],tkT (nwS lH2) 301)⟩
def lv4:Cnn:=(segC 1 lv3 103 301 16 [] [99]).2
def lv5:Cnn:=(segC 1 lv4 101 301 16 [] [97,98]).2
theorem lvI3:CInv lv3 8192:=by
 refine ⟨(tkS_inv (nwS_inv _) _ _ _).mono (by omega),(tkT_inv (nwS_inv _) _).mono (by omega),.inl ?_⟩;kernel_rfl
theorem lvA:HSpec P G 8 [.loc 0 0,.int .i64 1,tcpV 0 0 100 0 2 0 0 [] []] (cnN 0 lH lH) (.list evT []) (cnN 1 lH1 lH):=by
 have:=f8_n1 0 lH lH 0 0 100 0 2 0 0 [] [] (by decide) (by decide) (by decide) (by kernel_rfl);rw [show sgN1 0 lH lH 100 0 2 [] [] = ([],1,lH1) by kernel_rfl] at this;exact this
theorem lvB:HSpec P G 8 [.loc 0 0,.int .i64 2,tcpV 0 0 300 101 18 0 0 [] []] (cnN 1 lH1 lH) (.list evT []) (cnN 2 lH1 lH2):=by
 have:=f8_n2 1 lH1 lH 0 0 300 101 18 0 0 [] [] (by decide) (by decide) (by decide);rw [show sgN2 1 lH1 lH 300 101 18 [] = ([],2,lH2) by kernel_rfl] at this;exact this
theorem lvC:HSpec P G 8 [.loc 0 0,.int .i64 1,tcpV 0 0 101 301 16 0 0 [] []] (cnN 2 lH1 lH2) (.list evT [(1,1,0,0,[],())]) (esZ 300 301 2 lH1 lH2 101 301 16 [] []):=by
 have:=f8_a 2 lH1 lH2 0 0 101 301 16 0 0 [] [] (by decide) (by decide) (by decide) (by kernel_rfl);rw [show tkE 1 2 (nwS lH1) (nwS lH2) 101 301 16 [] = [] by kernel_rfl] at this;exact this
theorem lvD (i j k:Nat) (hn:[i,j,k].Nodup):HSpec P G 8 [.loc i 0,.int .i64 1,tcpV 0 0 103 301 16 0 0 [] [99]] (cnU lv3 i j k) (.list evT []) (cnU lv4 i j k):=by
 have:=f8_u lv3 8192 lvI3 (by decide) (by decide) 1 0 0 103 301 16 0 0 [] [99] (by decide) (by decide);rw [show (segC 1 lv3 103 301 16 [] [99]).1 = [] by kernel_rfl] at this;exact at_U this i j k hn rfl rfl
theorem lvI4:CInv lv4 16384:=by
 have e:lv4.ss = some (tkS (tkS (nwS lH1) 101 16 []) 103 16 [99],tkT (tkT (nwS lH2) 301) 301):=by kernel_rfl
 unfold CInv
 rw [e];refine ⟨(tkS_inv (tkS_inv (nwS_inv _) _ _ _) _ _ _).mono (by omega),(tkT_inv (tkT_inv (nwS_inv _) _) _).mono (by omega),.inl ?_⟩;kernel_rfl
theorem lvE (i j k:Nat) (hn:[i,j,k].Nodup):HSpec P G 8 [.loc i 0,.int .i64 1,tcpV 0 0 101 301 16 0 0 [] [97,98]] (cnU lv4 i j k) (.list evT [(2,1,0,0,[97,98,99],())]) (cnU lv5 i j k):=by
 have:=f8_u lv4 16384 lvI4 (by decide) (by decide) 1 0 0 101 301 16 0 0 [] [97,98] (by decide) (by decide);rw [show (segC 1 lv4 101 301 16 [] [97,98]).1 = [(2,1,0,0,[97,98,99],())] by kernel_rfl] at this;exact at_U this i j k hn rfl rfl
theorem lvI5:CInv lv5 24576:=by
 have e:lv5.ss = some (tkS (tkS (tkS (nwS lH1) 101 16 []) 103 16 [99]) 101 16 [97,98],tkT (tkT (tkT (nwS lH2) 301) 301) 301):=by kernel_rfl
 unfold CInv
 rw [e];refine ⟨(tkS_inv (tkS_inv (tkS_inv (nwS_inv _) _ _ _) _ _ _) _ _ _).mono (by omega),(tkT_inv (tkT_inv (tkT_inv (nwS_inv _) _) _) _).mono (by omega),.inl ?_⟩;kernel_rfl
theorem lvV (i j k:Nat) (hn:[i,j,k].Nodup):HSpec P G 15 [.loc i 0,.int .i64 1] (cnU lv3 i j k) (viewV true 101 301 100 false 0) (cnU lv3 i j k):=by
 have:=f15_u1 lv3 8192 lvI3;rw [show vwC lv3 1 = (true,101,301,100,false,0) by kernel_rfl] at this;exact at_U this i j k hn rfl rfl
theorem lvS4 (i j k:Nat) (hn:[i,j,k].Nodup):HSpec P G 13 [.loc i 0] (cnU lv4 i j k) (.int .i64 1) (cnU lv4 i j k):=by
 have:=f13_u lv4 16384 lvI4;rw [show sizC lv4 = 1 by kernel_rfl] at this;exact at_U this i j k hn rfl rfl
theorem lvS5 (i j k:Nat) (hn:[i,j,k].Nodup):HSpec P G 13 [.loc i 0] (cnU lv5 i j k) (.int .i64 0) (cnU lv5 i j k):=by
 have:=f13_u lv5 24576 lvI5;rw [show sizC lv5 = 0 by kernel_rfl] at this;exact at_U this i j k hn rfl rfl
theorem lvT5 (i j k:Nat) (hn:[i,j,k].Nodup):HSpec P G 11 [.loc i 0] (cnU lv5 i j k) (.int .i64 3) (cnU lv5 i j k):=by
 have:=f11_u lv5;rw [show lv5.st = 3 by kernel_rfl] at this;exact at_U this i j k hn rfl rfl
theorem lvO5 (i j k:Nat) (hn:[i,j,k].Nodup):HSpec P G 17 [.loc i 0,.int .i64 1] (cnU lv5 i j k) (.int .i64 3) (cnU lv5 i j k):=by
 have:=f17_u1 lv5;rw [show offC lv5 1 = 3 by kernel_rfl] at this;exact at_U this i j k hn rfl rfl
end Go.Proofs.YtchiagnggnblaaaGreatDoor.Ac
namespace Go.Proofs.YtchiagnggnblaaaGreatDoor.Ac
open Go Go.Fw Go.Ov Go.Proofs.YtchiagnggnblaaaGreatDoor.Fx
set_option maxRecDepth 16000 in
theorem f7_spec:PSpec P G 7 [] (.bool true):=by
 refine pspec_intro hT Tryz.func7 (by decide) rfl rfl (by kernel_rfl) rfl ?_;refine Tri.seq (Tri.reg hT ?_);refine Tri.seq (Tri.reg hT ?_);refine .inl (.inl ⟨_,fun _=>rfl,f19_spec 100 1,?_⟩);refine .inl (.inl ⟨_,fun _=>rfl,f19_spec 100 1,?_⟩);refine .inl (.inr (.inr ⟨_,(by exact fun _=>rfl),(f4_spec lH lH ⟨rfl,rfl,rfl,rfl⟩ ⟨rfl,rfl,rfl,rfl⟩),?_⟩));refine Tri.seq ?_;refine Tri.seq (Tri.reg hT ?_);refine (Tri.cond ⟨fun h1=>?_,fun h1=>?_⟩)
 ·
  cases h1
 ·
  refine (Tri.skip ?_);refine Tri.seq (Tri.reg hT ?_);refine .inl (.inl ⟨_,fun _=>rfl,f20_spec 100 300,?_⟩);refine Tri.seq (Tri.drwM hT hm 17 [17] (by kernel_rfl) ?_);refine ⟨(by first|((try simp only [decide_eq_true_eq,decide_eq_false_iff_not,toNat_cast] at *);omega)|decide),?_⟩;refine .inr (.inl ⟨_,_,(by exact ⟨rfl,trivial⟩),(CSpec.ofH (u:=[(3,cnC 0 lH lH .nilp .nilp,some (cnC 1 lH1 lH .nilp .nilp))]) (FSpec.at lvA [3] (by decide) rfl rfl rfl rfl)),(by rfl),?_⟩);refine ⟨(by first|((try simp only [decide_eq_true_eq,decide_eq_false_iff_not,toNat_cast] at *);omega)|decide),?_⟩;refine .inr (.inl ⟨_,_,(by exact ⟨rfl,trivial⟩),(CSpec.ofH (u:=[(3,cnC 1 lH1 lH .nilp .nilp,some (cnC 2 lH1 lH2 .nilp .nilp))]) (FSpec.at lvB [3] (by decide) rfl rfl rfl rfl)),(by rfl),?_⟩);refine ⟨(by first|((try simp only [decide_eq_true_eq,decide_eq_false_iff_not,toNat_cast] at *);omega)|decide),?_⟩;refine ⟨by kernel_rfl,?_⟩;refine ⟨_,Le.refl _,.inl (.inr (OpTri.hcall 500 rfl rfl rfl (FSpec.at lvC [3] (by decide) rfl rfl rfl rfl) trivial ⟨rfl,trivial⟩ rfl ?_))⟩;refine Tri.le ⟨113,0,600,[(1,.loc 3 0),(3,.list evT []),(4,.list evT []),(5,.list evT [(1,1,0,0,[],())])],cnU lv3 3 304 305,G⟩ (Le.weakX rfl rfl rfl rfl ⟨rfl,rfl,rfl,rfl,trivial⟩ ⟨⟨_,rfl,Conv.conX lv3 304 305⟩,⟨_,rfl,Conv.strX _⟩,⟨_,rfl,Conv.strX _⟩,trivial⟩) ?_;refine Tri.seq (Tri.regM hT [1] ?_);refine ⟨_,Le.refl _,.inl (.inr (OpTri.hcall 1 rfl rfl rfl (lvV 3 304 305 (by decide)) trivial ⟨rfl,rfl,rfl,trivial⟩ rfl ?_))⟩;refine Tri.seq (Tri.regM hT [2] ?_);refine ⟨_,Le.refl _,.inl (.inr (OpTri.hcall 1 rfl rfl rfl (FSpec.le (lvD 3 304 305 (by decide)) ⟨rfl,rfl,⟨rfl,rfl,rfl,rfl,rfl,rfl,rfl,rfl,rfl,trivial⟩,trivial⟩) trivial ⟨rfl,rfl,rfl,trivial⟩ rfl ?_))⟩;refine Tri.seq (Tri.regM hT [1] ?_);refine ⟨_,Le.refl _,.inl (.inr (OpTri.hcall 1 rfl rfl rfl (lvS4 3 304 305 (by decide)) trivial ⟨rfl,rfl,rfl,trivial⟩ rfl ?_))⟩;refine Tri.seq (Tri.regM hT [2] ?_);refine ⟨_,Le.refl _,.inl (.inr (OpTri.hcall 1 rfl rfl rfl (FSpec.le (lvE 3 304 305 (by decide)) ⟨rfl,rfl,⟨rfl,rfl,rfl,rfl,rfl,rfl,rfl,rfl,rfl,trivial⟩,trivial⟩) trivial ⟨rfl,rfl,rfl,trivial⟩ rfl ?_))⟩;refine Tri.seq ?_;refine Tri.seq (Tri.reg hT ?_);refine ⟨_,[],trivial,rfl,rfl,fun h=>⟨rfl,rfl,rfl⟩,?_⟩;refine ⟨_,[],trivial,rfl,rfl,fun h=>⟨h,rfl,rfl,rfl⟩,?_⟩;refine ⟨_,[],trivial,rfl,rfl,fun h=>⟨h,rfl,rfl,rfl⟩,?_⟩;refine ⟨⟨fun _=>trivial,fun hc=>(gn hc)⟩,?_⟩;refine ⟨_,[],trivial,rfl,rfl,fun h=>⟨rfl,rfl,rfl⟩,?_⟩;refine ⟨_,[],trivial,rfl,rfl,fun h=>⟨h,rfl,rfl,rfl⟩,?_⟩;refine ⟨_,[],trivial,rfl,rfl,fun h=>⟨h,rfl,rfl,rfl⟩,?_⟩;refine ⟨⟨fun _=>trivial,fun hc=>(gn hc)⟩,?_⟩;refine ⟨_,[],trivial,rfl,rfl,fun h=>⟨rfl,rfl,rfl⟩,?_⟩;refine ⟨_,[],trivial,rfl,rfl,fun h=>⟨h,(by first|((try simp only [decide_eq_true_eq,decide_eq_false_iff_not,toNat_cast] at *);omega)|decide),rfl,rfl,rfl⟩,?_⟩;refine ⟨_,[],trivial,rfl,rfl,fun h=>⟨h,rfl,rfl,rfl⟩,?_⟩;refine ⟨_,[],trivial,rfl,rfl,fun h=>⟨h,rfl,rfl,rfl⟩,?_⟩;refine ⟨_,[],trivial,rfl,rfl,fun h=>⟨h,rfl,rfl,rfl⟩,?_⟩;refine ⟨⟨fun _=>trivial,fun hc=>(gn hc)⟩,?_⟩;refine ⟨_,[],trivial,rfl,rfl,fun h=>⟨rfl,rfl,rfl⟩,?_⟩;refine ⟨_,[],trivial,rfl,rfl,fun h=>⟨h,rfl,rfl,rfl⟩,?_⟩;refine ⟨_,[],trivial,rfl,rfl,fun h=>⟨h,rfl,rfl,rfl⟩,?_⟩;refine ⟨⟨fun _=>trivial,fun hc=>(gn hc)⟩,?_⟩;refine ⟨_,[],trivial,rfl,rfl,fun h=>⟨rfl,rfl,rfl⟩,?_⟩;refine ⟨_,[],trivial,rfl,rfl,fun h=>⟨h,rfl,rfl,rfl⟩,?_⟩;refine ⟨_,[],trivial,rfl,rfl,fun h=>⟨h,rfl,rfl,rfl⟩,?_⟩;refine ⟨⟨fun _=>trivial,fun hc=>(gn hc)⟩,?_⟩;refine ⟨_,[],trivial,rfl,rfl,fun h=>⟨rfl,rfl,rfl⟩,?_⟩;refine ⟨_,[],trivial,rfl,rfl,fun h=>⟨h,rfl,rfl,rfl⟩,?_⟩;refine ⟨_,[],trivial,rfl,rfl,fun h=>⟨h,rfl,rfl,rfl⟩,?_⟩;refine ⟨⟨fun _=>trivial,fun hc=>(gn hc)⟩,?_⟩;refine ⟨_,[],trivial,rfl,rfl,fun h=>⟨rfl,rfl,rfl⟩,?_⟩;refine ⟨_,[],trivial,rfl,rfl,fun h=>⟨h,rfl,rfl,rfl⟩,?_⟩;refine ⟨_,[],trivial,rfl,rfl,fun h=>⟨h,rfl,rfl,rfl⟩,?_⟩;refine ⟨⟨fun _=>trivial,fun hc=>(gn hc)⟩,?_⟩;refine ⟨_,[],trivial,rfl,rfl,fun h=>⟨rfl,rfl,rfl⟩,?_⟩;refine ⟨_,[],trivial,rfl,rfl,fun h=>⟨h,rfl,rfl,rfl⟩,?_⟩;refine ⟨⟨fun _=>trivial,fun hc=>(gn hc)⟩,?_⟩;refine ⟨_,[],trivial,rfl,rfl,fun h=>⟨rfl,rfl,rfl⟩,?_⟩;refine ⟨_,[],trivial,rfl,rfl,fun h=>⟨h,rfl,rfl,rfl⟩,?_⟩;refine ⟨_,[],trivial,rfl,rfl,fun h=>⟨h,rfl,rfl,rfl⟩,?_⟩;refine ⟨⟨fun _=>trivial,fun hc=>(gn hc)⟩,?_⟩;refine (Tri.cond ⟨fun h2=>?_,fun h2=>?_⟩)
  ·
   exact absurd h2 (by decide)
  ·
   refine (Tri.skip ?_);refine Tri.seq (Tri.regM hT [6,7,8,11,12,13,16,17,18] ?_);refine ⟨(by first|((try simp only [decide_eq_true_eq,decide_eq_false_iff_not,toNat_cast] at *);omega)|decide),?_⟩;refine ⟨_,Le.refl _,.inr (.inl ⟨_,rfl,rfl,.inl ?_⟩)⟩;refine ⟨_,Le.refl _,.inr (.inl ⟨_,rfl,rfl,.inr (OpTri.hcall 1 rfl rfl rfl (lvT5 3 304 305 (by decide)) trivial ⟨rfl,rfl,rfl,trivial⟩ rfl ?_)⟩)⟩;refine ⟨_,Le.refl _,.inr (.inl ⟨_,rfl,rfl,.inl ?_⟩)⟩;refine ⟨⟨fun _=>trivial,fun _=>trivial⟩,?_⟩;refine ⟨_,Le.refl _,.inr (.inl ⟨_,rfl,rfl,.inl ?_⟩)⟩;refine ⟨_,Le.refl _,.inr (.inl ⟨_,rfl,rfl,.inr (OpTri.hcall 1 rfl rfl rfl (lvO5 3 304 305 (by decide)) trivial ⟨rfl,rfl,rfl,trivial⟩ rfl ?_)⟩)⟩;refine ⟨_,Le.refl _,.inr (.inl ⟨_,rfl,rfl,.inl ?_⟩)⟩;refine ⟨⟨fun _=>trivial,fun _=>trivial⟩,?_⟩;refine ⟨_,Le.refl _,.inr (.inl ⟨_,rfl,rfl,.inl ?_⟩)⟩;refine ⟨_,Le.refl _,.inr (.inl ⟨_,rfl,rfl,.inr (OpTri.hcall 1 rfl rfl rfl (lvS5 3 304 305 (by decide)) trivial ⟨rfl,rfl,rfl,trivial⟩ rfl ?_)⟩)⟩;refine ⟨_,Le.refl _,.inr (.inl ⟨_,rfl,rfl,.inl ?_⟩)⟩;refine ⟨⟨fun _=>trivial,fun _=>trivial⟩,?_⟩;refine Tri.ret ?_;exact ⟨rfl,trivial⟩
end Go.Proofs.YtchiagnggnblaaaGreatDoor.Ac
namespace Go.Proofs.YtchiagnggnblaaaGreatDoor.Ac
open Go Go.Fw Go.Ov Go.Proofs.YtchiagnggnblaaaGreatDoor.Fx
theorem b01_rng (b:Bool):b01 b = 0∨b01 b = 1:=by cases b;exact .inl rfl;exact .inr rfl
theorem stM_rng (s t:SS):stM s t = 3∨stM s t = 4∨stM s t = 5:=by
 unfold stM
 rcases b01_rng (endedS s) with h1|h1 <;> rcases b01_rng (endedS t) with h2|h2 <;> rw [h1,h2] <;> decide
theorem sgH_inv {d e st:Int} {p g:Hf} {s t:SS} {B:Int} (is:SInv s B) (it:SInv t B) (q k f:Int) (o:List optT.D) (x:List UInt8) (hst:st = 3∨st = 4∨st = 5∨st = 6) :
  SInv (sgH d e st p g s t q k f o x).2.2.2.1 (B + 8192)∧SInv (sgH d e st p g s t q k f o x).2.2.2.2 (B + 8192)∧((sgH d e st p g s t q k f o x).2.1 = 3∨(sgH d e st p g s t q k f o x).2.1 = 4∨(sgH d e st p g s t q k f o x).2.1 = 5∨(sgH d e st p g s t q k f o x).2.1 = 6):=by
 unfold sgH prM
 split
 ·
  exact ⟨is.mono (by omega),it.mono (by omega),hst⟩
 ·
  split
  ·
   exact ⟨is.mono (by omega),it.mono (by omega),hst⟩
  ·
   split
   ·
    exact ⟨is.mono (by omega),it.mono (by omega),.inr (.inr (.inr rfl))⟩
   ·
    refine ⟨tkS_inv is q f x,tkT_inv it k,?_⟩;rcases stM_rng (tkS s q f x) (tkT t k) with h|h|h
    ·
     exact .inl h
    ·
     exact .inr (.inl h)
    ·
     exact .inr (.inr (.inl h))
theorem segC_inv {c:Cnn} {B:Int} (h:CInv c B) (h0:0≤B) (d q k f:Int) (o:List optT.D) (x:List UInt8):CInv (segC d c q k f o x).2 (B + 8192):=by
 obtain ⟨st,p,g,ss⟩:=c;unfold segC
 split
 ·
  unfold seg1
  cases ss with
  | none=>
   have h:st = 0∨st = 1∨st = 2:=h;dsimp only
   split
   ·
    refine ⟨(tkS_inv (nwS_inv p) q f x).mono (by omega),(tkT_inv (nwS_inv g) k).mono (by omega),?_⟩;rcases stM_rng (tkS (nwS p) q f x) (tkT (nwS g) k) with h|h|h
    ·
     exact .inl h
    ·
     exact .inr (.inl h)
    ·
     exact .inr (.inr (.inl h))
   ·
    show (sgN1 st p g q k f o x).2.1 = 0∨(sgN1 st p g q k f o x).2.1 = 1∨(sgN1 st p g q k f o x).2.1 = 2
    unfold sgN1
    split
    ·
     exact h
    ·
     split
     ·
      exact .inr (.inl rfl)
     ·
      split <;> exact h
  | some y=>
   obtain ⟨s,t⟩:=y;obtain ⟨is,it,hst⟩:SInv s B∧SInv t B∧(st = 3∨st = 4∨st = 5∨st = 6):=h;dsimp only
   split
   ·
    exact sgH_inv is it q k f o x hst
   ·
    split
    ·
     exact .inr (.inl rfl)
    ·
     exact ⟨is.mono (by omega),it.mono (by omega),hst⟩
 ·
  split
  ·
   unfold seg2
   cases ss with
   | none=>
    have h:st = 0∨st = 1∨st = 2:=h;show (sgN2 st p g q k f o).2.1 = 0∨(sgN2 st p g q k f o).2.1 = 1∨(sgN2 st p g q k f o).2.1 = 2
    unfold sgN2
    split
    ·
     exact h
    ·
     split
     ·
      split
      ·
       exact h
      ·
       exact .inr (.inr rfl)
     ·
      exact h
   | some y=>
    obtain ⟨s,t⟩:=y;obtain ⟨is,it,hst⟩:SInv s B∧SInv t B∧(st = 3∨st = 4∨st = 5∨st = 6):=h;dsimp only
    split
    ·
     have:=sgH_inv (d:=2) (e:=1) (st:=st) (p:=g) (g:=p) it is q k f o x hst;exact ⟨this.2.1,this.1,this.2.2⟩
    ·
     exact ⟨is.mono (by omega),it.mono (by omega),hst⟩
  ·
   exact h.mono (by omega)
def runC (c:Cnn) (l:List Sg):Cnn:=l.foldl (fun c e=>(segS c e).2) c
abbrev new0 (p g:Hf):Cnn:=⟨0,p,g,none⟩
theorem new0_inv (p g:Hf):CInv (new0 p g) 0:=.inl rfl
theorem segU (c:Cnn) (B:Int) (hi:CInv c B) (h0:0≤B) (hB:B≤1099511600000) (e:Sg) (ho:(toO e).length≤10) (hx:(txX e).length≤200) (i j k:Nat) (hn:[i,j,k].Nodup) :
  HSpec P G 8 [.loc i 0,.int .i64 e.1,tcpV e.2.1.1 e.2.1.2.1 (tqS e) (tkK e) (tfF e) e.2.1.2.2.2.2.2.1 e.2.1.2.2.2.2.2.2.1 (toO e) (txX e)] (cnU c i j k) (.list evT (segS c e).1) (cnU (segS c e).2 i j k):=
 at_U (f8_u c B hi h0 hB e.1 _ _ _ _ _ _ _ _ _ (by omega) (by omega)) i j k hn rfl rfl
def bigE (e:Sg):Bool:=decide ((txX e).length > 200) || decide ((toO e).length > 10)
def longL (l:List Sg):Bool:=(l.take 41).any bigE || decide (l.length > 40)
theorem bigE_f {e:Sg} (h:bigE e = false):(txX e).length≤200∧(toO e).length≤10:=by
 unfold bigE at h
 simp only [Bool.or_eq_false_iff,decide_eq_false_iff_not] at h;omega
theorem longL_f {l:List Sg} (h:longL l = false):l.length≤40∧∀ i,i < l.length→bigE (l.getD i (Ty.dflt sgT)) = false:=by
 unfold longL at h
 obtain ⟨h1,h2⟩:=Bool.or_eq_false_iff.1 h;have h3:=of_decide_eq_false h2;refine ⟨by omega,fun i hi=>?_⟩;rw [List.take_of_length_le (by omega)] at h1;have:=List.any_eq_false.1 h1 _ (getD_mem (d:=(Ty.dflt sgT:Sg)) hi);simpa using this
theorem longL_t {l:List Sg} {i:Nat} (hi:i < l.length) (h41:i < 41) (h:bigE (l.getD i (Ty.dflt sgT)) = true):longL l = true:=by
 unfold longL
 refine Bool.or_eq_true_iff.2 (.inl (List.any_eq_true.2 ⟨l.getD i (Ty.dflt sgT),?_,h⟩));have e:(l.take 41).getD i (Ty.dflt sgT) = l.getD i (Ty.dflt sgT):=getD_take (by omega);rw [← e];exact getD_mem (by rw [List.length_take];omega)
theorem longL_e {l:List Sg} {i:Nat} (hi:i = l.length∨i = 41) (h:∀ j,j < i→bigE (l.getD j (Ty.dflt sgT)) = false):longL l = decide (l.length > 40):=by
 unfold longL
 rw [show (l.take 41).any bigE = false from List.any_eq_false.2 (fun c hc=>by
  obtain ⟨j,hj,rfl⟩:=mem_getD (Ty.dflt sgT) hc;rw [List.length_take] at hj;have hj60:j < 41:=Nat.lt_of_lt_of_le hj (Nat.min_le_left ..);have hjl:j < l.length:=Nat.lt_of_lt_of_le hj (Nat.min_le_right ..);rw [getD_take (by omega)];rw [h j (by omega)];decide),Bool.false_or]
theorem bigE_of {e:Sg} {b:Bool} (h:(if decide (((txX e).length:Int) > 200) = true then true else decide (((toO e).length:Int) > 10)) = b):bigE e = b:=by
 rw [← h,iteO];unfold bigE
 congr 1 <;> exact decide_eq_decide.2 (by omega)
theorem f6_spec (l:List Sg) (hl:l.length≤140737488351232):PSpec P G 6 [.list sgT l] (.bool (longL l)):=by
 refine pspec_intro hT Tryz.func6 (by decide) rfl rfl (by kernel_rfl) rfl ?_;refine Tri.seq (Tri.reg hT ?_);refine Tri.seq ?_;refine Tri.seq (Tri.reg hT ?_);refine (Tri.block ?_);refine (Tri.loop (ι:=Nat) (fun i=>⟨35,0,0,[(0,.list sgT l),(3,.int .i64 (i:Int))],[],G⟩) (fun i=>i≤l.length∧i≤41∧∀ j,j < i→bigE (l.getD j (Ty.dflt sgT)) = false) (fun i=>41 - i) (0) ?_ ?_ ?_)
 ·
  exact ⟨Nat.zero_le _,by omega,fun j hj=>by omega⟩
 ·
  exact Le.weak rfl rfl rfl rfl ⟨(by first|rfl|exact iv1 (by (try simp only [decide_eq_true_eq,decide_eq_false_iff_not,toNat_cast] at *);omega)),(by first|rfl|exact iv1 (by (try simp only [decide_eq_true_eq,decide_eq_false_iff_not,toNat_cast] at *);omega)),trivial⟩ trivial
 ·
  intro i hi;refine Tri.seq ?_;refine Tri.seq (Tri.reg hT ?_);refine ⟨_,[],trivial,rfl,rfl,fun h=>⟨rfl,rfl,rfl⟩,?_⟩;refine ⟨_,[],trivial,rfl,rfl,fun h=>⟨h,rfl,rfl,rfl⟩,?_⟩;refine ⟨⟨fun hc=>hc,fun _=>trivial⟩,?_⟩;refine (Tri.cond ⟨fun h1=>?_,fun h1=>?_⟩)
  ·
   refine (Tri.skip ?_);refine Tri.seq (Tri.block ?_);refine Tri.seq (Tri.reg hT ?_);refine ⟨by have h1':=gand_t h1;omega,?_⟩;refine ⟨_,[],trivial,rfl,rfl,fun h=>⟨rfl,rfl,rfl⟩,?_⟩;refine ⟨_,[],trivial,rfl,rfl,fun h=>⟨rfl,rfl,rfl⟩,?_⟩;refine ⟨_,[],trivial,rfl,rfl,fun h=>⟨h,h,by have h1':=gand_t h1;omega,rfl,rfl,rfl⟩,?_⟩;refine ⟨_,[],trivial,rfl,rfl,fun h=>⟨h,rfl,rfl,rfl⟩,?_⟩;refine ⟨_,[],trivial,rfl,rfl,fun h=>⟨h,rfl,rfl,rfl⟩,?_⟩;refine ⟨_,[],trivial,rfl,rfl,fun h=>⟨h,rfl,rfl,rfl⟩,?_⟩;refine ⟨_,[],trivial,rfl,rfl,fun h=>⟨h,rfl,rfl,rfl⟩,?_⟩;refine ⟨_,[],trivial,rfl,rfl,fun h=>⟨h,rfl,rfl,rfl⟩,?_⟩;refine ⟨⟨fun _=>trivial,fun hc=>(gn hc)⟩,?_⟩;refine (Tri.cond ⟨fun h2=>?_,fun h2=>?_⟩)
   ·
    refine Tri.seq (Tri.reg hT ?_);refine Tri.ret ?_;rw [toNat_cast] at h2;have h1':=gand_t h1;exact ⟨congrArg AV.bool (longL_t (i:=i) (by omega) (by omega) (bigE_of h2)).symm,trivial⟩
   ·
    refine (Tri.skip ?_);refine (Tri.reg hT ?_);rw [toNat_cast] at h2;have h1':=gand_t h1
    exact ⟨i + 1,⟨by omega,by omega,fun j hj=>by rcases Nat.lt_or_ge j i with h9|h9;exact hi.2.2 j h9;obtain rfl:j = i:=(by omega);exact bigE_of h2⟩,(by omega),Le.weak rfl rfl rfl rfl ⟨(by first|rfl|exact iv1 (by (try simp only [decide_eq_true_eq,decide_eq_false_iff_not,toNat_cast] at *);omega)),(by first|rfl|exact iv1 (by (try simp only [decide_eq_true_eq,decide_eq_false_iff_not,toNat_cast] at *);omega)),trivial⟩ trivial⟩
  ·
   refine Tri.exit ?_;refine Tri.seq (Tri.reg hT ?_);refine Tri.ret ?_;have h9:=hi.1;have h8:=hi.2.1;have h1':i = l.length∨i = 41:=(by have:=gand_f h1;omega);exact ⟨congrArg AV.bool ((decide_eq_decide.2 (by omega)).trans (longL_e (i:=i) h1' hi.2.2).symm),trivial⟩
end Go.Proofs.YtchiagnggnblaaaGreatDoor.Ac
