import Derived.Test.YtfaplilocljknaaDfG
import Derived.Test.YtfaplilocljknaaGDf3
import Derived.Test.YtfaplilocljknaaGFw15
set_option linter.all false
namespace Go.Proofs.Ytfaplilocljknaa.Fx
open Go Go.Fw Go.Ov Go.Df
abbrev blC (m:List Bool):List AV:=[.bool (m.getD 0 false),.bool (m.getD 1 false),.bool (m.getD 2 false),.bool (m.getD 3 false),.bool (m.getD 4 false),.bool (m.getD 5 false),.bool (m.getD 6 false),.bool (m.getD 7 false),.bool (m.getD 8 false),.bool (m.getD 9 false),.bool (m.getD 10 false),.bool (m.getD 11 false),.bool (m.getD 12 false),.bool (m.getD 13 false),.bool (m.getD 14 false),.bool (m.getD 15 false),.bool (m.getD 16 false),.bool (m.getD 17 false),.bool (m.getD 18 false),.bool (m.getD 19 false),.bool (m.getD 20 false),.bool (m.getD 21 false),.bool (m.getD 22 false),.bool (m.getD 23 false),.bool (m.getD 24 false),.bool (m.getD 25 false),.bool (m.getD 26 false),.bool (m.getD 27 false),.bool (m.getD 28 false),.bool (m.getD 29 false),.bool (m.getD 30 false),.bool (m.getD 31 false)]
theorem blC_eq {m:List Bool} (h:m.length = 32):blC m = m.map AV.bool:=by
  have e:blC m = (List.range 32).map (fun k=>AV.bool (m.getD k false)):=rfl
  rw [e]
  refine List.ext_getElem (by simp [h]) (fun i h1 h2=>?_)
  rw [List.getElem_map,List.getElem_map,List.getElem_range,List.getD_eq_getElem?_getD,List.getElem?_eq_getElem (by simpa using h2)]
  rfl
theorem bl_get {m:List Bool} (h:m.length = 32) {a k:Nat} (e:k = a) (ha:a < 32):(blC m).getD k .any = .bool (m.getD a false):=by
  subst e
  rw [blC_eq h]
  exact getD_bools m (by omega)
theorem bl_set {m:List Bool} (h:m.length = 32) {a k:Nat} (e:k = a):(blC m).set k (.bool true) = blC (m.set a true):=by
  subst e
  rw [blC_eq h,blC_eq (by rw [List.length_set];exact h)]
  exact set_bools m k true
abbrev SO (D:List UInt8) (o:List Int) (p pol:Int) (g:Nat × DL × Nat):St:=⟨143,0,100,[(0,.str D),(1,.int .u8 p),(2,.list (.int .u8) o),(7,.int .i64 (nO D:Int)),(8,.loc 40 0),(9,.loc 72 0),(10,.int .i64 (leftO D (oMt D o g.1):Int)),(11,.int .i64 (g.1:Int))],
  [(72,.box (blC (oMt D o g.1))),(40,.box (tbC (oTb D o pol g.1) 41)),(41,.ext (mapX dfV [] g.2.1 g.2.2))],[]⟩
theorem set_same {m:List Bool} {a:Nat} (h:m.getD a false = true):m.set a true = m:=by
  refine List.ext_getElem? (fun j=>?_)
  rw [List.getElem?_set]
  split
  · rename_i e
    subst e
    rw [List.getD_eq_getElem?_getD] at h
    cases hm:m[a]? with
    | none=>rw [hm] at h;cases h
    | some b=>
      rw [hm] at h
      rw [if_pos (List.getElem?_eq_some_iff.1 hm).1]
      exact congrArg some h.symm
  · rfl
set_option maxHeartbeats 4000000 in
theorem f3_spec (D:List UInt8) (p:Int) (o:List Int) (hp:0≤p∧p < 256) (ho:∀ v∈o,0≤v∧v < 256):PSpec P [] 3 [.str D,.int .u8 p,.list (.int .u8) o] (.bool true):=by
  show HSpec P [] 3 [.str D,.int .u8 p,.list (.int .u8) o] [] (.bool true) []
  obtain ⟨pol,hpol⟩:∃ pol,pol = 1 + p.tmod 4:=⟨_,rfl⟩
  have hp1:1≤pol∧pol≤4:=by rw [hpol,Int.tmod_eq_emod_of_nonneg hp.1];omega
  have hpl:IntKind.i64.wrap (1 + (IntKind.i64.wrap p).tmod 4) = pol:=by rw [wrapId (x:=p) (by omega),wrapId (by omega)];exact hpol.symm
  refine fspec_intro hT [] [] 0 0 Try.func3 (by decide) rfl rfl (by kernel_rfl) rfl rfl ?_
  refine Tri.seq (Tri.reg hT ?_)
  refine Tri.seq ?_
  refine Tri.seq (Tri.reg hT ?_)
  refine ⟨_,[],trivial,rfl,rfl,fun h=>⟨rfl,rfl,rfl⟩,?_⟩
  refine ⟨_,[],trivial,rfl,rfl,fun h=>⟨h,rfl,rfl,rfl⟩,?_⟩
  refine ⟨_,[],trivial,rfl,rfl,fun h=>⟨h,rfl,rfl,rfl⟩,?_⟩
  refine ⟨⟨fun _=>trivial,fun hc=>(gn hc)⟩,?_⟩
  refine ⟨_,[],trivial,rfl,rfl,fun h=>⟨rfl,rfl,rfl⟩,?_⟩
  refine ⟨_,[],trivial,rfl,rfl,fun h=>⟨h,rfl,rfl,rfl⟩,?_⟩
  refine ⟨_,[],trivial,rfl,rfl,fun h=>⟨h,rfl,rfl,rfl⟩,?_⟩
  refine ⟨⟨fun _=>trivial,fun hc=>(gn hc)⟩,?_⟩
  refine (Tri.cond ⟨fun h1=>?_,fun h1=>?_⟩)
  · refine Tri.seq (Tri.reg hT ?_)
    refine .inl (.inl ⟨_,fun _=>rfl,f7_spec,?_⟩)
    refine Tri.ret ?_
    exact ⟨rfl,trivial⟩
  · refine (Tri.skip ?_)
    have h1':=or_f h1;have h1'':=or_f h1'.1;have hD:Sz D:=⟨by have:=of_decide_eq_false h1''.1;omega,by have:=of_decide_eq_false h1''.2;omega⟩;have ho60:o.length≤60:=(by have:=of_decide_eq_false h1'.2;omega);have hn20:=n_le hD;have hlf:=left_first hD o;have hnw:IntKind.i64.wrap ((IntKind.i64.wrap ((D.length:Int) + 7)).tdiv 8) = (nO D:Int):=(by have:=hD.hi;rw [wrapId (x:=(D.length:Int) + 7) (by omega),Int.tdiv_eq_ediv_of_nonneg (by omega),wrapId (by omega)];unfold nO;omega)
    refine Tri.seq (Tri.reg hT ?_)
    refine ⟨(by decide),?_⟩
    refine Tri.seq (Tri.regM hT [0] ?_)
    refine ⟨_,Le.refl _,.inl (.inr (OpTri.hcall 50 rfl rfl rfl (newT 100) trivial trivial rfl ?_))⟩
    refine Tri.seq ?_
    refine Tri.seq (Tri.reg hT ?_)
    refine (Tri.cond ⟨fun h2=>?_,fun h2=>?_⟩)
    · exact absurd h2 (by decide)
    · refine (Tri.skip ?_)
      refine Tri.seq (Tri.reg hT ?_)
      refine Tri.seq (Tri.reg hT ?_)
      refine Tri.seq ?_
      refine Tri.seq (Tri.reg hT ?_)
      refine (Tri.block ?_)
      refine (Tri.loop (ι:=Nat × DL × Nat) (fun g=>SO D o p pol g) (fun g=>g.1≤o.length + nO D∧Fits g.2.1 g.2.2 (oTb D o pol g.1).l) (fun g=>o.length + nO D - g.1) ((0,[],0)) ?_ ?_ ?_)
      · exact ⟨Nat.zero_le _,Fits.nil⟩
      · exact Le.weak rfl rfl rfl rfl ⟨rfl,rfl,rfl,congrArg (AV.int .i64) hnw,rfl,rfl,congrArg (AV.int .i64) (hnw.trans (congrArg Int.ofNat hlf.symm)),rfl,trivial⟩ ⟨rfl,rfl,rfl,trivial⟩
      · intro i hi
        refine Tri.seq ?_
        refine Tri.seq (Tri.reg hT ?_)
        refine (Tri.cond ⟨fun h3=>?_,fun h3=>?_⟩)
        · refine (Tri.skip ?_)
          refine Tri.seq (Tri.block ?_)
          obtain ⟨i,L,clock⟩:=i;obtain ⟨hi1,hf⟩:=hi;have hf:Fits L clock (oTb D o pol i).l:=hf;have hlt:i < o.length + nO D:=(by have h3':(i:Int) < IntKind.i64.wrap ((o.length:Int) + (nO D:Int)):=of_decide_eq_true h3;rw [wrapId (by omega)] at h3';omega);have ha:=at_lt hD hlt;have hm32:=oM_len D o i;have hw12:IntKind.i64.wrap ((i:Int) - (o.length:Int)) = (i:Int) - o.length:=wrapId (by omega)
          refine Tri.seq (Tri.reg hT ?_)
          refine Tri.join (True) (⟨143,0,130,[(0,.str D),(1,.int .u8 p),(2,.list (.int .u8) o),(7,.int .i64 (nO D:Int)),(8,.loc 40 0),(9,.loc 72 0),(10,.int .i64 (leftO D (oMt D o i):Int)),(11,.int .i64 (i:Int)),(12,.int .i64 (atO D o i:Int))],[(72,.box (blC (oMt D o i))),(40,.box (tbC (oTb D o pol i) 41)),(41,.ext (mapX dfV [] L clock))],[]⟩) ?_ fun hp5=>?_
          · refine Tri.seq (Tri.reg hT ?_)
            refine (Tri.cond ⟨fun h4=>?_,fun h4=>?_⟩)
            · refine (Tri.reg hT ?_)
              refine ⟨(by have h4':(i:Int) < (o.length:Int):=of_decide_eq_true h4;show 0≤(i:Int)∧(i:Int) < (o.length:Int);omega),?_⟩
              refine ⟨(by show (nO D:Int)≠0;omega),?_⟩
              have h4':(i:Int) < (o.length:Int):=of_decide_eq_true h4;have hov:0≤o.getD i 0∧o.getD i 0 < 256:=ho _ (getD_mem (l:=o) (i:=i) (d:=0) (by omega));have e:(IntKind.i64.wrap (o.getD i 0)).tmod (nO D:Int) = (atO D o i:Int):=(by rw [wrapId (by omega),Int.tmod_eq_emod_of_nonneg (by omega)];unfold atO;rw [if_pos (by omega),Int.natCast_emod,Int.toNat_of_nonneg hov.1]);exact ⟨trivial,Le.weak rfl rfl rfl rfl ⟨rfl,rfl,rfl,rfl,rfl,rfl,rfl,rfl,congrArg (AV.int .i64) e,trivial⟩ ⟨rfl,rfl,rfl,trivial⟩⟩
            · refine (Tri.skip ?_)
              have h4':¬ (i:Int) < (o.length:Int):=of_decide_eq_false h4;have e:IntKind.i64.wrap ((i:Int) - (o.length:Int)) = (atO D o i:Int):=(by rw [hw12];unfold atO;rw [if_neg (by omega)];omega);exact ⟨trivial,Le.weak rfl rfl rfl rfl ⟨rfl,rfl,rfl,rfl,rfl,rfl,rfl,rfl,congrArg (AV.int .i64) e,trivial⟩ ⟨rfl,rfl,rfl,trivial⟩⟩
          · refine Tri.seq ?_
            refine Tri.seq (Tri.reg hT ?_)
            refine (Tri.cond ⟨fun h5=>?_,fun h5=>?_⟩)
            · refine Tri.seq (Tri.reg hT ?_)
              refine .inl (.inl ⟨_,fun _=>rfl,f7_spec,?_⟩)
              refine Tri.ret ?_
              exact ⟨rfl,trivial⟩
            · refine (Tri.skip ?_)
              have hnz:leftO D (oMt D o i)≠0:=(by have h5':¬ (leftO D (oMt D o i):Int) = 0:=of_decide_eq_false h5;omega);have hna:¬ AllO D (oMt D o i):=fun q=>hnz (left_zero.2 q);have hst:=oT_step hD ho60 hp1.1 hp1.2 hlt hna;have hti:=oT_ti (D:=D) (o:=o) (pol:=pol) i (by omega);have hti1:=oT_ti (D:=D) (o:=o) (pol:=pol) (i + 1) (by omega);have hcl:=chunk_len hD ha;have hlen160:=hD.hi;have hw8:IntKind.i64.wrap (8 * (atO D o i:Int)) = 8 * (atO D o i:Int):=wrapId (by omega);have hw88:IntKind.i64.wrap (IntKind.i64.wrap (8 * (atO D o i:Int)) + 8) = 8 * (atO D o i:Int) + 8:=(by rw [hw8];exact wrapId (by omega))
              refine Tri.seq (Tri.reg hT ?_)
              refine Tri.join (True) (⟨143,0,130,[(0,.str D),(1,.int .u8 p),(2,.list (.int .u8) o),(7,.int .i64 (nO D:Int)),(8,.loc 40 0),(9,.loc 72 0),(10,.int .i64 (leftO D (oMt D o i):Int)),(11,.int .i64 (i:Int)),(12,.int .i64 (atO D o i:Int)),(13,.int .i64 (endO D (atO D o i):Int))],[(72,.box (blC (oMt D o i))),(40,.box (tbC (oTb D o pol i) 41)),(41,.ext (mapX dfV [] L clock))],[]⟩) ?_ fun hp7=>?_
              · refine Tri.seq (Tri.reg hT ?_)
                refine (Tri.cond ⟨fun h6=>?_,fun h6=>?_⟩)
                · refine (Tri.reg hT ?_)
                  have h6':=of_decide_eq_true h6;rw [hw88] at h6';have e:(D.length:Int) = (endO D (atO D o i):Int):=(by unfold endO;omega);exact ⟨trivial,Le.weak rfl rfl rfl rfl ⟨rfl,rfl,rfl,rfl,rfl,rfl,rfl,rfl,rfl,congrArg (AV.int .i64) e,trivial⟩ ⟨rfl,rfl,rfl,trivial⟩⟩
                · refine (Tri.skip ?_)
                  have h6':=of_decide_eq_false h6;rw [hw88] at h6';have e:IntKind.i64.wrap (IntKind.i64.wrap (8 * (atO D o i:Int)) + 8) = (endO D (atO D o i):Int):=(by rw [hw88];unfold endO;omega);exact ⟨trivial,Le.weak rfl rfl rfl rfl ⟨rfl,rfl,rfl,rfl,rfl,rfl,rfl,rfl,rfl,congrArg (AV.int .i64) e,trivial⟩ ⟨rfl,rfl,rfl,trivial⟩⟩
              · refine Tri.seq (Tri.reg hT ?_)
                refine ⟨(by show 0≤IntKind.i64.wrap (8 * (atO D o i:Int))∧IntKind.i64.wrap (8 * (atO D o i:Int))≤(endO D (atO D o i):Int)∧(endO D (atO D o i):Int)≤(D.length:Int);rw [hw8];omega),?_⟩
                have hw1:IntKind.i64.wrap ((nO D:Int) - 1) = (nO D:Int) - 1:=wrapId (by omega);have hdec:decide ((atO D o i:Int) < (nO D:Int) - 1) = decide (atO D o i < nO D - 1):=decide_eq_decide.2 (by omega);have hbx:some (Chunk.box [.bool false,.int .u64 0,.int .u64 1,.bool false,.int .u64 0,.int .u64 2,.int .i64 17,.int .i64 9,.int .i64 5,.int .i64 (IntKind.i64.wrap (8 * (atO D o i:Int))),.bool (decide ((atO D o i:Int) < IntKind.i64.wrap ((nO D:Int) - 1))),.str ((D.take (endO D (atO D o i))).drop (IntKind.i64.wrap (8 * (atO D o i:Int))).toNat)]) = some (Chunk.box (fgC (oF D (atO D o i)))):=(by rw [hw8,hw1,hdec,show (8 * (atO D o i:Int)).toNat = 8 * atO D o i by omega]);obtain ⟨r,hr⟩:∃ r,r = (addT (oTb D o pol i) i (oF D (atO D o i)) pol).1:=⟨_,rfl⟩;have eA:addT (oTb D o pol i) i (oF D (atO D o i)) pol = (r,oTb D o pol (i + 1)):=Prod.ext hr.symm rfl;rw [eA] at hst;have hcase:(AllO D (oMt D o (i + 1))∧r = okR aS aD 17 5 D∧(oTb D o pol (i + 1)).l = []∧(oTb D o pol (i + 1)).conf = 0)∨(¬ AllO D (oMt D o (i + 1))∧r = failR 0):=(by by_cases q:AllO D (oMt D o (i + 1));exact .inl ⟨q,hst.all q⟩;exact .inr ⟨q,(hst.some q).1⟩);have hadd:GSpec P [] 9 [.loc 40 0,.int .i64 (i:Int),fv (oF D (atO D o i)),.int .i64 (IntKind.i64.wrap (1 + (IntKind.i64.wrap p).tmod 4))] (tbQ (oTb D o pol i) L clock) (fun g:DL × Nat=>Fits g.1 g.2 (oTb D o pol (i + 1)).l) (fun _=>resV r) (fun g=>tbQ (oTb D o pol (i + 1)) g.1 g.2):=(by rw [hpl];exact addTo i hf hti (by omega) (by omega) eA);refine Tri.le (S:=⟨143,0,150,[(0,.str D),(1,.int .u8 p),(2,.list (.int .u8) o),(7,.int .i64 (nO D:Int)),(8,.loc 40 0),(9,.loc 72 0),(10,.int .i64 (leftO D (oMt D o i):Int)),(11,.int .i64 (i:Int)),(12,.int .i64 (atO D o i:Int)),(14,.loc 144 0)],[(144,.box (fgC (oF D (atO D o i)))),(72,.box (blC (oMt D o i))),(40,.box (tbC (oTb D o pol i) 41)),(41,.ext (mapX dfV [] L clock))],[]⟩) (Le.weak rfl rfl rfl rfl ⟨rfl,rfl,rfl,rfl,rfl,rfl,rfl,rfl,rfl,rfl,trivial⟩ ⟨hbx,rfl,rfl,rfl,trivial⟩) ?_
                refine Tri.seq (Tri.regM hT [7] ?_)
                refine ⟨(by decide),?_⟩
                refine ⟨_,Le.refl _,.inl (.inr (OpTri.gcall 1 rfl rfl rfl hadd trivial ⟨rfl,rfl,trivial⟩ (fun g _=>rfl) (fun g hg=>?_)))⟩
                refine Tri.join (True) (⟨143,0,230,[(0,.str D),(1,.int .u8 p),(2,.list (.int .u8) o),(7,.int .i64 (nO D:Int)),(8,.loc 40 0),(9,.loc 72 0),(10,.int .i64 (leftO D (oMt D o (i + 1)):Int)),(11,.int .i64 (i:Int)),(14,.loc 144 0),(15,.loc 162 0),(16,.bool r.2.1),(17,.int .i64 r.2.2)],[(162,.box (dgC r.1.1 r.1.2.1 r.1.2.2.1 r.1.2.2.2.1 r.1.2.2.2.2)),(144,.box (fgC (oF D (atO D o i)))),(72,.box (blC (oMt D o (i + 1)))),(40,.box (tbC (oTb D o pol (i + 1)) 41)),(41,.ext (mapX dfV [] g.1 g.2))],[]⟩) ?_ fun hp8=>?_
                · refine Tri.seq (Tri.regM hT [2] ?_)
                  refine ⟨(by show 0≤(atO D o i:Int)∧(atO D o i:Int) < 32;omega),?_⟩
                  refine ⟨_,Le.refl _,.inl (.inr (OpTri.loadB hT (v:=.bool ((oMt D o i).getD (atO D o i) false)) rfl rfl rfl rfl rfl ⟨trivial,rfl⟩ rfl (by show 0 + ((atO D o i:Nat):Int).toNat * 1 < 32;omega) (bl_get hm32 (show 0 + ((atO D o i:Nat):Int).toNat * 1 = atO D o i by omega) (by omega)) ?_))⟩
                  refine (Tri.cond ⟨fun h7=>?_,fun h7=>?_⟩)
                  · refine Tri.seq (Tri.regM hT [2] ?_)
                    refine ⟨(by show 0≤(atO D o i:Int)∧(atO D o i:Int) < 32;omega),?_⟩
                    refine ⟨_,Le.refl _,.inl (.inr (OpTri.storeB hT rfl rfl rfl rfl rfl ⟨trivial,rfl⟩ rfl rfl rfl rfl rfl (by show 0 + ((atO D o i:Nat):Int).toNat * 1 < 32;omega) ?_))⟩
                    refine (Tri.reg hT ?_)
                    have h7':(oMt D o i).getD (atO D o i) false = false:=(by simpa using h7);have hls:=left_set (D:=D) ha (m:=oMt D o i) (by omega);rw [if_pos h7'] at hls;have hls:leftO D (oMt D o (i + 1)) + 1 = leftO D (oMt D o i):=hls;have e1:IntKind.i64.wrap ((leftO D (oMt D o i):Int) - 1) = (leftO D (oMt D o (i + 1)):Int):=(by have:=left_le D (oMt D o i);rw [wrapId (by omega)];omega);have e2:(blC (oMt D o i)).set (0 + ((atO D o i:Nat):Int).toNat * 1) (.bool true) = blC (oMt D o (i + 1)):=bl_set hm32 (show 0 + ((atO D o i:Nat):Int).toNat * 1 = atO D o i by omega);exact ⟨trivial,Le.weak rfl rfl rfl rfl ⟨rfl,rfl,rfl,rfl,rfl,rfl,congrArg (AV.int .i64) e1,rfl,rfl,rfl,rfl,rfl,trivial⟩ ⟨rfl,rfl,congrArg (fun l=>some (Chunk.box l)) e2,rfl,rfl,trivial⟩⟩
                  · refine (Tri.skip ?_)
                    have h7':(oMt D o i).getD (atO D o i) false = true:=(by simpa using h7);have hsm:oMt D o (i + 1) = oMt D o i:=set_same h7';exact ⟨trivial,Le.weak rfl rfl rfl rfl ⟨rfl,rfl,rfl,rfl,rfl,rfl,congrArg (fun m=>AV.int .i64 (leftO D m:Int)) hsm.symm,rfl,rfl,rfl,rfl,rfl,trivial⟩ ⟨rfl,rfl,congrArg (fun m=>some (Chunk.box (blC m))) hsm.symm,rfl,rfl,trivial⟩⟩
                · refine Tri.seq ?_
                  refine Tri.seq (Tri.reg hT ?_)
                  refine ⟨_,[],trivial,rfl,rfl,fun h=>⟨rfl,rfl,rfl⟩,?_⟩
                  refine ⟨_,[],trivial,rfl,rfl,fun h=>⟨rfl,rfl,rfl⟩,?_⟩
                  refine ⟨_,[],trivial,rfl,rfl,fun h=>⟨h,rfl,rfl,rfl⟩,?_⟩
                  refine ⟨_,[],trivial,rfl,rfl,fun h=>⟨h,h,rfl,rfl,rfl⟩,?_⟩
                  refine ⟨⟨fun _=>trivial,fun hc=>(gn hc)⟩,?_⟩
                  refine (Tri.cond ⟨fun h8=>?_,fun h8=>?_⟩)
                  · exfalso;rcases hcase with ⟨q,rfl,_,_⟩|⟨q,rfl⟩;have:=left_zero.2 q;simp [this] at h8;have q:leftO D (oMt D o (i + 1))≠0:=fun z=>q (left_zero.1 z);simp [q] at h8
                  · refine (Tri.skip ?_)
                    rcases hcase with ⟨hall,rfl,hl0,hc0⟩|⟨hnall,rfl⟩
                    · refine Tri.seq (Tri.regM hT [11,12,16,17] ?_)
                      refine ⟨_,[],trivial,rfl,rfl,fun h=>⟨rfl,rfl,rfl⟩,?_⟩
                      refine ⟨_,[],trivial,rfl,rfl,fun h=>⟨rfl,rfl,rfl⟩,?_⟩
                      refine ⟨_,[],trivial,rfl,rfl,fun h=>⟨h,rfl,rfl,rfl⟩,?_⟩
                      refine ⟨_,[],trivial,rfl,rfl,fun h=>⟨rfl,rfl,rfl⟩,?_⟩
                      refine ⟨_,[],trivial,rfl,rfl,fun h=>⟨h,rfl,rfl,rfl⟩,?_⟩
                      refine ⟨_,[],trivial,rfl,rfl,fun h=>⟨rfl,rfl,rfl⟩,?_⟩
                      refine ⟨_,[],trivial,rfl,rfl,fun h=>⟨h,h,h,rfl,rfl,rfl⟩,?_⟩
                      refine ⟨_,[],trivial,rfl,rfl,fun h=>⟨h,h,rfl,rfl,rfl⟩,?_⟩
                      refine ⟨_,[],trivial,rfl,rfl,fun h=>⟨h,rfl,rfl,rfl⟩,?_⟩
                      refine ⟨_,Le.refl _,.inr (.inl ⟨_,rfl,(by refine (congrArg some ?_:some _ = some true);simp [gd]),.inl ?_⟩)⟩
                      refine ⟨_,Le.refl _,.inr (.inl ⟨_,rfl,(by refine (congrArg some ?_:some _ = some true);simp [gd]),.inr (OpTri.hcall 1 rfl rfl rfl (lenOf hg hti1 (n:=0) (by rw [hl0];rfl)) trivial ⟨rfl,rfl,trivial⟩ rfl ?_)⟩)⟩
                      refine ⟨_,[],trivial,rfl,rfl,fun h=>⟨rfl,rfl,rfl⟩,?_⟩
                      refine ⟨_,[],trivial,rfl,rfl,fun h=>⟨h,⟨fun _=>trivial,fun hc=>ga h (gn hc)⟩,rfl,rfl,rfl⟩,?_⟩
                      refine ⟨_,[],trivial,rfl,rfl,fun h=>⟨h,rfl,rfl,rfl⟩,?_⟩
                      refine ⟨_,Le.refl _,.inr (.inl ⟨_,rfl,(by refine (congrArg some ?_:some _ = some true);simp [gd]),.inl ?_⟩)⟩
                      refine ⟨_,Le.refl _,.inr (.inl ⟨_,rfl,(by refine (congrArg some ?_:some _ = some true);simp [gd]),.inr (OpTri.hcall 1 rfl rfl rfl (conOf (n:=0) hc0) trivial ⟨rfl,rfl,trivial⟩ rfl ?_)⟩)⟩
                      refine ⟨_,[],trivial,rfl,rfl,fun h=>⟨rfl,rfl,rfl⟩,?_⟩
                      refine ⟨_,[],trivial,rfl,rfl,fun h=>⟨h,⟨fun _=>trivial,fun hc=>ga h (gn hc)⟩,rfl,rfl,rfl⟩,?_⟩
                      refine ⟨⟨fun hc=>hc,fun _=>trivial⟩,?_⟩
                      refine (Tri.cond ⟨fun h9=>?_,fun h9=>?_⟩)
                      · exfalso;simp at h9
                      · refine (Tri.skip ?_)
                        refine (Tri.reg hT ?_)
                        exact ⟨(i + 1,g.1,g.2),⟨by omega,hg⟩,by show o.length + nO D - (i + 1) < o.length + nO D - i;omega,Le.weak rfl rfl rfl rfl ⟨rfl,rfl,rfl,rfl,rfl,rfl,rfl,iv1 (by omega),trivial⟩ ⟨rfl,rfl,rfl,trivial⟩⟩
                    · refine Tri.seq (Tri.reg hT ?_)
                      refine ⟨_,[],trivial,rfl,rfl,fun h=>⟨rfl,rfl,rfl⟩,?_⟩
                      refine ⟨_,[],trivial,rfl,rfl,fun h=>⟨rfl,rfl,rfl⟩,?_⟩
                      refine ⟨_,[],trivial,rfl,rfl,fun h=>⟨h,rfl,rfl,rfl⟩,?_⟩
                      refine ⟨_,[],trivial,rfl,rfl,fun h=>⟨rfl,rfl,rfl⟩,?_⟩
                      refine ⟨_,[],trivial,rfl,rfl,fun h=>⟨h,rfl,rfl,rfl⟩,?_⟩
                      refine ⟨_,[],trivial,rfl,rfl,fun h=>⟨rfl,rfl,rfl⟩,?_⟩
                      refine ⟨_,[],trivial,rfl,rfl,fun h=>⟨h,h,h,rfl,rfl,rfl⟩,?_⟩
                      refine ⟨_,[],trivial,rfl,rfl,fun h=>⟨h,h,rfl,rfl,rfl⟩,?_⟩
                      refine ⟨_,[],trivial,rfl,rfl,fun h=>⟨h,rfl,rfl,rfl⟩,?_⟩
                      refine ⟨_,[],trivial,rfl,rfl,fun h=>⟨rfl,rfl,rfl⟩,?_⟩
                      refine ⟨.int .i64 0,[],trivial,rfl,rfl,fun h=>(by simp [gd] at h),?_⟩
                      refine ⟨_,[],trivial,rfl,rfl,fun h=>⟨h,rfl,rfl,rfl⟩,?_⟩
                      refine ⟨_,[],trivial,rfl,rfl,fun h=>⟨h,⟨fun _=>trivial,fun hc=>ga h (gn hc)⟩,rfl,rfl,rfl⟩,?_⟩
                      refine ⟨_,[],trivial,rfl,rfl,fun h=>⟨h,rfl,rfl,rfl⟩,?_⟩
                      refine ⟨_,[],trivial,rfl,rfl,fun h=>⟨rfl,rfl,rfl⟩,?_⟩
                      refine ⟨.int .i64 0,[],trivial,rfl,rfl,fun h=>(by simp [gd] at h),?_⟩
                      refine ⟨_,[],trivial,rfl,rfl,fun h=>⟨h,rfl,rfl,rfl⟩,?_⟩
                      refine ⟨_,[],trivial,rfl,rfl,fun h=>⟨h,⟨fun _=>trivial,fun hc=>ga h (gn hc)⟩,rfl,rfl,rfl⟩,?_⟩
                      refine ⟨⟨fun hc=>hc,fun _=>trivial⟩,?_⟩
                      refine (Tri.cond ⟨fun h10=>?_,fun h10=>?_⟩)
                      · exfalso;simp at h10
                      · refine (Tri.skip ?_)
                        refine (Tri.reg hT ?_)
                        exact ⟨(i + 1,g.1,g.2),⟨by omega,hg⟩,by show o.length + nO D - (i + 1) < o.length + nO D - i;omega,Le.weak rfl rfl rfl rfl ⟨rfl,rfl,rfl,rfl,rfl,rfl,rfl,iv1 (by omega),trivial⟩ ⟨rfl,rfl,rfl,trivial⟩⟩
        · refine Tri.exit ?_
          obtain ⟨i,L,clock⟩:=i;obtain ⟨hi1,hf⟩:=hi;have hi1:i≤o.length + nO D:=hi1;have hie:i = o.length + nO D:=(by have h3':¬ (i:Int) < IntKind.i64.wrap ((o.length:Int) + (nO D:Int)):=of_decide_eq_false h3;rw [wrapId (by omega)] at h3';omega);have hl0:leftO D (oMt D o i) = 0:=left_zero.2 (by rw [hie];exact oM_all hD o)
          refine Tri.seq (Tri.regM hT [3] ?_)
          refine ⟨_,Le.refl _,.inr (.inl ⟨_,rfl,(by refine (congrArg some ?_:some _ = some true);simp [gd,hl0]),.inl ?_⟩)⟩
          refine .inl (.inl ⟨_,fun _=>rfl,f7_spec,?_⟩)
          refine ⟨⟨fun _=>trivial,fun _=>trivial⟩,?_⟩
          refine Tri.ret ?_
          exact ⟨congrArg AV.bool (by simp [hl0]),trivial⟩
end Go.Proofs.Ytfaplilocljknaa.Fx
