import Derived.Test.YtfaplilocljknaaDfM
import Derived.Test.YtfaplilocljknaaOvR4
import Derived.Test.YtfaplilocljknaaGDf4
import Derived.Test.YtfaplilocljknaaGFw15
set_option linter.all false
namespace Go.Proofs.Ytfaplilocljknaa.Fx
open Go Go.Fw Go.Ov Go.Df
abbrev zDv:List AV:=dgC zA zA 0 0 []
theorem insK_spec (rb:Rb) (k:Nat) (e:Re) (f:Fg) (pol:Int) (hl:rb.xs.length≤1048576) (hk:k < rb.xs.length) (hv:Valid (rPcs e)) (hl2:(rPcs e).length≤64) (ho1:0≤fOff f∧fOff f≤65535) (hd2:fOff f + (fData f).length≤65535) (hpo:1≤pol∧pol≤5) (hcf:0≤rb.conf∧rb.conf≤1099511627776) :
    HSpec P [] 31 [.loc 0 0,.int .i64 (k:Int),.agg (rC e),fv f,.int .i64 pol] (rbH rb) (resV (insK rb k e f pol).1) (rbH (insK rb k e f pol).2):=by
  have hls:=lenSum_le hv
  have hlc:=lenSum_cells (rPcs e)
  refine fspec_intro hT (rbH rb) (rbH (insK rb k e f pol).2) 1 2 Try.func31 (by decide) rfl rfl (by kernel_rfl) rfl rfl (Tri.post ?_)
  refine Tri.seq (Tri.reg hT ?_)
  refine Tri.seq (Tri.reg hT ?_)
  refine .inl (.inl ⟨_,fun _=>rfl,f50_spec (rPcs e) (pcF f) pol hv (by omega) (by omega) (by show ((fData f).length:Int)≤_;omega),?_⟩)
  refine Tri.seq ?_
  refine Tri.seq (Tri.reg hT ?_)
  refine (Tri.cond ⟨fun h1=>?_,fun h1=>?_⟩)
  · refine Tri.seq (Tri.drw hT hm 10 (by kernel_rfl) ?_)
    refine ⟨by kernel_rfl,?_⟩
    refine ⟨(by show 0≤(k:Int)∧(k:Int) < (rb.xs.length:Int);omega),?_⟩
    refine ⟨(by show k < rb.xs.length;exact hk),_,rfl,?_⟩
    refine Tri.seq (Tri.reg hT ?_)
    refine Tri.ret ?_
    have h1':(insE e f pol).2.2 = 17:=of_decide_eq_true h1;have eR:insK rb k e f pol = (failR 17,⟨rb.timeout,rb.time,rb.conf,rb.xs.set k (goneR e)⟩):=if_pos h1';exact ⟨_,Le.refl _,by rw [eR];exact ⟨by rw [← h1'];rfl,congrArg (fun n=>some (Chunk.box [.int .i64 rb.timeout,.int .i64 rb.time,.int .i64 rb.conf,.own 1 n])) List.length_set.symm,rfl,trivial⟩⟩
  · refine (Tri.skip ?_)
    refine Tri.seq ?_
    refine Tri.seq (Tri.reg hT ?_)
    refine (Tri.cond ⟨fun h2=>?_,fun h2=>?_⟩)
    · refine Tri.seq (Tri.reg hT ?_)
      refine Tri.ret ?_
      have h1':¬ (insE e f pol).2.2 = 17:=of_decide_eq_false h1;have h2':(insE e f pol).2.2≠0:=of_decide_eq_true h2;have eR:insK rb k e f pol = (failR (insE e f pol).2.2,rb):=(if_neg h1').trans (if_pos h2');exact ⟨_,Le.refl _,by rw [eR];exact ⟨rfl,rfl,rfl,trivial⟩⟩
    · refine (Tri.skip ?_)
      have hE:(insE e f pol).2.2 = 0:=Classical.byContradiction fun q=>of_decide_eq_false h2 q;have h17:¬ (insE e f pol).2.2 = 17:=of_decide_eq_false h1;have hgd:=insGood hv (p:=pcF f) (pol:=pol) (by show ((fData f).length:Int)≤_;omega) hE;have hn0:0≤(insE e f pol).2.1:=hgd.n0;have hn1:(insE e f pol).2.1≤65535:=(by have:(insE e f pol).2.1≤((fData f).length:Int):=hgd.n1;omega);have hcv:Valid (insE e f pol).1:=hgd.valid;have hcl:(insE e f pol).1.length≤64:=insR_small hl2;have hls2:=lenSum_le hcv;have hlc2:=lenSum_cells (insE e f pol).1;have htk:=takeF_len (l:=(insE e f pol).1) 0;have hw7:IntKind.i64.wrap (rb.conf + (insE e f pol).2.1) = rb.conf + (insE e f pol).2.1:=wrapId (by omega);have hwe:IntKind.i64.wrap (fOff f + ((fData f).length:Int)) = endG f:=wrapId (by omega)
      refine Tri.seq (Tri.reg hT ?_)
      refine Tri.seq (Tri.reg hT ?_)
      refine Tri.join (True) (⟨180,1,60,[(0,.loc 0 0),(1,.int .i64 (k:Int)),(7,.loc 2 0),(8,.loc 3 0),(10,.loc 4 0),(13,.list pT (insE e f pol).1)],[(2,.box (rC (ent1 e f pol))),(0,.box (rbC ⟨rb.timeout,rb.time,rb.conf + (insE e f pol).2.1,rb.xs⟩ 1)),(1,.arr rT rb.xs),(3,.box (fgC f)),(4,.box zDv)],[]⟩) ?_ fun hp3=>?_
      · refine Tri.seq (Tri.reg hT ?_)
        refine (Tri.cond ⟨fun h3=>?_,fun h3=>?_⟩)
        · refine (Tri.reg hT ?_)
          have h3':fTtl f < rTtl e:=of_decide_eq_true h3;exact ⟨trivial,Le.weak rfl rfl rfl rfl ⟨rfl,rfl,rfl,rfl,rfl,rfl,trivial⟩ ⟨congrArg (fun t=>some (Chunk.box (rC (rKey e,rBeg e,rGone e,(insE e f pol).1,t,rEnd e,())))) (show fTtl f = min (rTtl e) (fTtl f) by omega),(by show some (Chunk.box [.int .i64 rb.timeout,.int .i64 rb.time,.int .i64 (IntKind.i64.wrap (rb.conf + (insE e f pol).2.1)),.own 1 rb.xs.length]) = _;rw [hw7]),rfl,rfl,rfl,trivial⟩⟩
        · refine (Tri.skip ?_)
          have h3':¬ fTtl f < rTtl e:=of_decide_eq_false h3;exact ⟨trivial,Le.weak rfl rfl rfl rfl ⟨rfl,rfl,rfl,rfl,rfl,rfl,trivial⟩ ⟨congrArg (fun t=>some (Chunk.box (rC (rKey e,rBeg e,rGone e,(insE e f pol).1,t,rEnd e,())))) (show rTtl e = min (rTtl e) (fTtl f) by omega),(by show some (Chunk.box [.int .i64 rb.timeout,.int .i64 rb.time,.int .i64 (IntKind.i64.wrap (rb.conf + (insE e f pol).2.1)),.own 1 rb.xs.length]) = _;rw [hw7]),rfl,rfl,rfl,trivial⟩⟩
      · refine Tri.join (True) (⟨180,1,80,[(0,.loc 0 0),(1,.int .i64 (k:Int)),(7,.loc 2 0),(8,.loc 3 0),(10,.loc 4 0),(13,.list pT (insE e f pol).1)],[(2,.box (rC (entR e f pol))),(0,.box (rbC ⟨rb.timeout,rb.time,rb.conf + (insE e f pol).2.1,rb.xs⟩ 1)),(1,.arr rT rb.xs),(3,.box (fgC f)),(4,.box zDv)],[]⟩) ?_ fun hp4=>?_
        · refine Tri.seq (Tri.reg hT ?_)
          refine (Tri.cond ⟨fun h4=>?_,fun h4=>?_⟩)
          · refine (Tri.reg hT ?_)
            have h4':fMore f = false:=(by have h4'':(!fMore f) = true:=h4;simpa using h4'');exact ⟨trivial,Le.weak rfl rfl rfl rfl ⟨rfl,rfl,rfl,rfl,rfl,rfl,trivial⟩ ⟨congrArg (fun t=>some (Chunk.box (rC (rKey e,rBeg e,rGone e,(insE e f pol).1,min (rTtl e) (fTtl f),t,())))) (show IntKind.i64.wrap (fOff f + ((fData f).length:Int)) = if fMore f then rEnd e else endG f by rw [hwe,h4'];rfl),rfl,rfl,rfl,rfl,trivial⟩⟩
          · refine (Tri.skip ?_)
            have h4':fMore f = true:=(by have h4'':(!fMore f) = false:=h4;simpa using h4'');exact ⟨trivial,Le.weak rfl rfl rfl rfl ⟨rfl,rfl,rfl,rfl,rfl,rfl,trivial⟩ ⟨congrArg (fun t=>some (Chunk.box (rC (rKey e,rBeg e,rGone e,(insE e f pol).1,min (rTtl e) (fTtl f),t,())))) (show rEnd e = if fMore f then rEnd e else endG f by rw [h4'];rfl),rfl,rfl,rfl,rfl,trivial⟩⟩
        · refine Tri.seq ?_
          refine Tri.seq (Tri.reg hT ?_)
          refine (Tri.cond ⟨fun h5=>?_,fun h5=>?_⟩)
          · have h5':(k:Int) < 0:=of_decide_eq_true h5;exact absurd h5' (by omega)
          · refine (Tri.skip ?_)
            refine Tri.seq (Tri.drw hT hm 6 (by kernel_rfl) ?_)
            refine ⟨by kernel_rfl,?_⟩
            refine ⟨(by show 0≤(k:Int)∧(k:Int) < (rb.xs.length:Int);omega),?_⟩
            refine ⟨(by show k < rb.xs.length;exact hk),_,rfl,?_⟩
            have hx1:(rb.xs.set k (entR e f pol)).length≤1048577:=(by rw [List.length_set];omega);refine Tri.le (S:=⟨180,1,120,[(0,.loc 0 0),(1,.int .i64 (k:Int)),(7,.loc 2 0),(8,.loc 3 0),(10,.loc 4 0),(13,.list pT (insE e f pol).1)],[(2,.box (rC (entR e f pol))),(0,.box (rbC ⟨rb.timeout,rb.time,rb.conf + (insE e f pol).2.1,(rb.xs.set k (entR e f pol))⟩ 1)),(1,.arr rT (rb.xs.set k (entR e f pol))),(3,.box (fgC f)),(4,.box zDv)],[]⟩) (Le.weak rfl rfl rfl rfl ⟨rfl,rfl,rfl,rfl,rfl,rfl,trivial⟩ ⟨rfl,congrArg (fun n=>some (Chunk.box [.int .i64 rb.timeout,.int .i64 rb.time,.int .i64 (rb.conf + (insE e f pol).2.1),.own 1 n])) List.length_set.symm,rfl,rfl,rfl,trivial⟩) ?_
            refine Tri.seq (Tri.reg hT ?_)
            refine .inl (.inl ⟨_,fun _=>rfl,f51_spec (insE e f pol).1 0 hcv (by omega) (by omega) (by omega),?_⟩)
            refine Tri.seq ?_
            refine Tri.seq (Tri.reg hT ?_)
            refine ⟨_,[],trivial,rfl,rfl,fun h=>⟨rfl,rfl,rfl⟩,?_⟩
            refine ⟨_,[],trivial,rfl,rfl,fun h=>⟨h,rfl,rfl,rfl⟩,?_⟩
            refine ⟨_,[],trivial,rfl,rfl,fun h=>⟨rfl,rfl,rfl⟩,?_⟩
            refine ⟨_,[],trivial,rfl,rfl,fun h=>⟨h,rfl,rfl,rfl⟩,?_⟩
            refine ⟨_,[],trivial,rfl,rfl,fun h=>⟨h,h,rfl,rfl,rfl⟩,?_⟩
            refine ⟨⟨fun hc=>hc,fun _=>trivial⟩,?_⟩
            refine (Tri.cond ⟨fun h6=>?_,fun h6=>?_⟩)
            · refine Tri.seq (Tri.regM hT [2] ?_)
              refine ⟨_,Le.refl _,.inl (.inr (OpTri.hcall 1 rfl rfl rfl (f52_spec ⟨rb.timeout,rb.time,rb.conf + (insE e f pol).2.1,(rb.xs.set k (entR e f pol))⟩ k (by show (rb.xs.set k (entR e f pol)).length≤1048576;rw [List.length_set];exact hl)) trivial ⟨rfl,rfl,trivial⟩ rfl ?_))⟩
              refine Tri.seq (Tri.drw hT hm 13 (by kernel_rfl) ?_)
              refine ⟨(by obtain ⟨q1,q2⟩:=and_t h6;have q1:rEnd (entR e f pol) > 0:=of_decide_eq_true q1;have q2:((takeF (insE e f pol).1 0).1.length:Int)≥rEnd (entR e f pol):=of_decide_eq_true q2;show 0≤(0:Int)∧(0:Int)≤rEnd (entR e f pol)∧rEnd (entR e f pol)≤((takeF (insE e f pol).1 0).1.length:Int);omega),?_⟩
              refine ⟨by kernel_rfl,?_⟩
              refine Tri.ret ?_
              obtain ⟨q1,q2⟩:=and_t h6;have q1:rEnd (entR e f pol) > 0:=of_decide_eq_true q1;have q2:((takeF (insE e f pol).1 0).1.length:Int)≥rEnd (entR e f pol):=of_decide_eq_true q2;have eR:insK rb k e f pol = (okR (fSrc f) (fDst f) (fPro f) (rTtl (entR e f pol)) ((takeF (insE e f pol).1 0).1.take (rEnd (entR e f pol)).toNat),⟨rb.timeout,rb.time,rb.conf + (insE e f pol).2.1,(rb.xs.set k (entR e f pol)).eraseIdx k⟩):=(if_neg h17).trans ((if_neg (fun q=>q hE)).trans (if_pos ⟨q1,q2⟩));exact ⟨_,Le.refl _,by rw [eR];exact ⟨rfl,rfl,rfl,trivial⟩⟩
            · refine (Tri.skip ?_)
              refine Tri.join (True) (⟨180,1,200,[(0,.loc 0 0),(1,.int .i64 (k:Int)),(7,.loc 2 0),(8,.loc 3 0),(10,.loc 4 0),(13,.list pT (insE e f pol).1)],[(2,.box (rC (entR e f pol))),(0,.box (rbC ⟨rb.timeout,rb.time,rb.conf + (insE e f pol).2.1,(limX (rb.xs.set k (entR e f pol)))⟩ 1)),(1,.arr rT (limX (rb.xs.set k (entR e f pol)))),(3,.box (fgC f)),(4,.box zDv)],[]⟩) ?_ fun hp7=>?_
              · refine Tri.seq (Tri.regM hT [1] ?_)
                refine ⟨_,Le.refl _,.inl (.inr (OpTri.hcall 1 rfl rfl rfl (f16_spec ⟨rb.timeout,rb.time,rb.conf + (insE e f pol).2.1,(rb.xs.set k (entR e f pol))⟩ (by show (rb.xs.set k (entR e f pol)).length≤_;omega)) trivial ⟨rfl,rfl,trivial⟩ rfl ?_))⟩
                refine (Tri.cond ⟨fun h7=>?_,fun h7=>?_⟩)
                · refine Tri.seq (Tri.reg hT ?_)
                  refine (Tri.block ?_)
                  refine (Tri.loop (ι:=Nat) (fun i=>⟨180,1,150,[(0,.loc 0 0),(1,.int .i64 (k:Int)),(7,.loc 2 0),(8,.loc 3 0),(10,.loc 4 0),(13,.list pT (insE e f pol).1),(18,.int .i64 (i:Int))],[(2,.box (rC (entR e f pol))),(0,.box (rbC ⟨rb.timeout,rb.time,rb.conf + (insE e f pol).2.1,(rb.xs.set k (entR e f pol))⟩ 1)),(1,.arr rT (rb.xs.set k (entR e f pol))),(3,.box (fgC f)),(4,.box zDv)],[]⟩) (fun i=>i≤(rb.xs.set k (entR e f pol)).length∧∀ j,j < i→rGone ((rb.xs.set k (entR e f pol)).getD j rD) = true) (fun i=>(rb.xs.set k (entR e f pol)).length - i) (0) ?_ ?_ ?_)
                  · exact ⟨Nat.zero_le _,fun j hj=>absurd hj (by omega)⟩
                  · exact Le.weak rfl rfl rfl rfl ⟨rfl,rfl,rfl,rfl,rfl,rfl,rfl,trivial⟩ ⟨rfl,rfl,rfl,rfl,rfl,trivial⟩
                  · intro i hi
                    refine Tri.seq ?_
                    refine Tri.seq (Tri.reg hT ?_)
                    refine (Tri.cond ⟨fun h8=>?_,fun h8=>?_⟩)
                    · refine (Tri.skip ?_)
                      refine Tri.seq (Tri.block ?_)
                      have h8':(i:Int) < ((rb.xs.set k (entR e f pol)).length:Int):=of_decide_eq_true h8
                      refine Tri.seq (Tri.reg hT ?_)
                      refine ⟨(by show 0≤(i:Int)∧(i:Int) < ((rb.xs.set k (entR e f pol)).length:Int);omega),?_⟩
                      refine ⟨(by show i < (rb.xs.set k (entR e f pol)).length;omega),?_⟩
                      refine (Tri.cond ⟨fun h9=>?_,fun h9=>?_⟩)
                      · refine Tri.seq (Tri.drw hT hm 22 (by kernel_rfl) ?_)
                        refine ⟨(by show 0≤(i:Int)∧(i:Int) < ((rb.xs.set k (entR e f pol)).length:Int);omega),?_⟩
                        refine ⟨(by show i < (rb.xs.set k (entR e f pol)).length;omega),?_⟩
                        refine ⟨(by show 0≤(i:Int)∧(i:Int) < ((rb.xs.set k (entR e f pol)).length:Int);omega),?_⟩
                        refine ⟨(by show i < (rb.xs.set k (entR e f pol)).length;omega),?_⟩
                        refine ⟨by kernel_rfl,?_⟩
                        refine ⟨(by show 0≤(i:Int)∧(i:Int) < ((rb.xs.set k (entR e f pol)).length:Int);omega),?_⟩
                        refine ⟨(by show i < (rb.xs.set k (entR e f pol)).length;omega),_,rfl,?_⟩
                        refine Tri.exit ?_
                        have h9':(!rGone ((rb.xs.set k (entR e f pol)).getD i rD)) = true:=h9;have ex:limX (rb.xs.set k (entR e f pol)) = (rb.xs.set k (entR e f pol)).set i (goneR ((rb.xs.set k (entR e f pol)).getD i rD)):=(if_pos (show sumL vOpen (rb.xs.set k (entR e f pol)) > 32 from of_decide_eq_true h7)).trans (by rw [first_at (by omega) hi.2 (by simpa using h9')]);exact ⟨trivial,Le.weak rfl rfl rfl rfl ⟨rfl,rfl,rfl,rfl,rfl,rfl,trivial⟩ ⟨rfl,congrArg (fun n=>some (Chunk.box [.int .i64 rb.timeout,.int .i64 rb.time,.int .i64 (rb.conf + (insE e f pol).2.1),.own 1 n])) (by rw [ex];simp only [List.length_set]),congrArg (fun l=>some (Chunk.arr rT l)) ex.symm,rfl,rfl,trivial⟩⟩
                      · refine (Tri.skip ?_)
                        refine (Tri.reg hT ?_)
                        have h9':(!rGone ((rb.xs.set k (entR e f pol)).getD i rD)) = false:=h9;exact ⟨i + 1,⟨by omega,fun j hj=>by rcases Nat.lt_succ_iff_lt_or_eq.1 hj with q|q;exact hi.2 j q;rw [q];simpa using h9'⟩,by omega,Le.weak rfl rfl rfl rfl ⟨rfl,rfl,rfl,rfl,rfl,rfl,iv1 (by omega),trivial⟩ ⟨rfl,rfl,rfl,rfl,rfl,trivial⟩⟩
                    · refine Tri.exit ?_
                      have h8':¬ (i:Int) < ((rb.xs.set k (entR e f pol)).length:Int):=of_decide_eq_false h8;have ex:limX (rb.xs.set k (entR e f pol)) = (rb.xs.set k (entR e f pol)):=(if_pos (show sumL vOpen (rb.xs.set k (entR e f pol)) > 32 from of_decide_eq_true h7)).trans (by rw [first_no (fun j hj=>hi.2 j (by have:=hi.1;omega))]);exact ⟨trivial,Le.weak rfl rfl rfl rfl ⟨rfl,rfl,rfl,rfl,rfl,rfl,trivial⟩ ⟨rfl,congrArg (fun (l:List Re)=>some (Chunk.box [.int .i64 rb.timeout,.int .i64 rb.time,.int .i64 (rb.conf + (insE e f pol).2.1),.own 1 l.length])) ex.symm,congrArg (fun l=>some (Chunk.arr rT l)) ex.symm,rfl,rfl,trivial⟩⟩
                · refine (Tri.skip ?_)
                  have ex:limX (rb.xs.set k (entR e f pol)) = (rb.xs.set k (entR e f pol)):=if_neg (of_decide_eq_false h7);exact ⟨trivial,Le.weak rfl rfl rfl rfl ⟨rfl,rfl,rfl,rfl,rfl,rfl,trivial⟩ ⟨rfl,congrArg (fun (l:List Re)=>some (Chunk.box [.int .i64 rb.timeout,.int .i64 rb.time,.int .i64 (rb.conf + (insE e f pol).2.1),.own 1 l.length])) ex.symm,congrArg (fun l=>some (Chunk.arr rT l)) ex.symm,rfl,rfl,trivial⟩⟩
              · refine Tri.seq (Tri.reg hT ?_)
                refine Tri.ret ?_
                have eR:insK rb k e f pol = (failR 0,⟨rb.timeout,rb.time,rb.conf + (insE e f pol).2.1,limX (rb.xs.set k (entR e f pol))⟩):=(if_neg h17).trans ((if_neg (fun q=>q hE)).trans (if_neg (fun q=>by rcases and_f h6 with z|z;exact of_decide_eq_false z q.1;exact of_decide_eq_false z q.2)));exact ⟨_,Le.refl _,by rw [eR];exact ⟨rfl,rfl,rfl,trivial⟩⟩
theorem insN_spec (rb:Rb) (e:Re) (f:Fg) (pol:Int) (hl:rb.xs.length≤1048576) (hv:Valid (rPcs e)) (hl2:(rPcs e).length≤64) (ho1:0≤fOff f∧fOff f≤65535) (hd2:fOff f + (fData f).length≤65535) (hpo:1≤pol∧pol≤5) (hcf:0≤rb.conf∧rb.conf≤1099511627776) (h17:(insE e f pol).2.2≠17) (hx2:(rb.xs ++ [entR e f pol]).length≤1048576) :
    HSpec P [] 31 [.loc 0 0,.int .i64 (-1:Int),.agg (rC e),fv f,.int .i64 pol] (rbH rb) (resV (insN rb e f pol).1) (rbH (insN rb e f pol).2):=by
  have hls:=lenSum_le hv
  have hlc:=lenSum_cells (rPcs e)
  refine fspec_intro hT (rbH rb) (rbH (insN rb e f pol).2) 1 2 Try.func31 (by decide) rfl rfl (by kernel_rfl) rfl rfl (Tri.post ?_)
  refine Tri.seq (Tri.reg hT ?_)
  refine Tri.seq (Tri.reg hT ?_)
  refine .inl (.inl ⟨_,fun _=>rfl,f50_spec (rPcs e) (pcF f) pol hv (by omega) (by omega) (by show ((fData f).length:Int)≤_;omega),?_⟩)
  refine Tri.seq ?_
  refine Tri.seq (Tri.reg hT ?_)
  refine (Tri.cond ⟨fun h1=>?_,fun h1=>?_⟩)
  · exact absurd (of_decide_eq_true h1) h17
  · refine (Tri.skip ?_)
    refine Tri.seq ?_
    refine Tri.seq (Tri.reg hT ?_)
    refine (Tri.cond ⟨fun h2=>?_,fun h2=>?_⟩)
    · refine Tri.seq (Tri.reg hT ?_)
      refine Tri.ret ?_
      have h2':(insE e f pol).2.2≠0:=of_decide_eq_true h2;have eR:insN rb e f pol = (failR (insE e f pol).2.2,rb):=if_pos h2';exact ⟨_,Le.refl _,by rw [eR];exact ⟨rfl,rfl,rfl,trivial⟩⟩
    · refine (Tri.skip ?_)
      have hE:(insE e f pol).2.2 = 0:=Classical.byContradiction fun q=>of_decide_eq_false h2 q;have hgd:=insGood hv (p:=pcF f) (pol:=pol) (by show ((fData f).length:Int)≤_;omega) hE;have hn0:0≤(insE e f pol).2.1:=hgd.n0;have hn1:(insE e f pol).2.1≤65535:=(by have:(insE e f pol).2.1≤((fData f).length:Int):=hgd.n1;omega);have hcv:Valid (insE e f pol).1:=hgd.valid;have hcl:(insE e f pol).1.length≤64:=insR_small hl2;have hls2:=lenSum_le hcv;have hlc2:=lenSum_cells (insE e f pol).1;have htk:=takeF_len (l:=(insE e f pol).1) 0;have hw7:IntKind.i64.wrap (rb.conf + (insE e f pol).2.1) = rb.conf + (insE e f pol).2.1:=wrapId (by omega);have hwe:IntKind.i64.wrap (fOff f + ((fData f).length:Int)) = endG f:=wrapId (by omega)
      refine Tri.seq (Tri.reg hT ?_)
      refine Tri.seq (Tri.reg hT ?_)
      refine Tri.join (True) (⟨180,1,60,[(0,.loc 0 0),(1,.int .i64 (-1:Int)),(7,.loc 2 0),(8,.loc 3 0),(10,.loc 4 0),(13,.list pT (insE e f pol).1)],[(2,.box (rC (ent1 e f pol))),(0,.box (rbC ⟨rb.timeout,rb.time,rb.conf + (insE e f pol).2.1,rb.xs⟩ 1)),(1,.arr rT rb.xs),(3,.box (fgC f)),(4,.box zDv)],[]⟩) ?_ fun hp3=>?_
      · refine Tri.seq (Tri.reg hT ?_)
        refine (Tri.cond ⟨fun h3=>?_,fun h3=>?_⟩)
        · refine (Tri.reg hT ?_)
          have h3':fTtl f < rTtl e:=of_decide_eq_true h3;exact ⟨trivial,Le.weak rfl rfl rfl rfl ⟨rfl,rfl,rfl,rfl,rfl,rfl,trivial⟩ ⟨congrArg (fun t=>some (Chunk.box (rC (rKey e,rBeg e,rGone e,(insE e f pol).1,t,rEnd e,())))) (show fTtl f = min (rTtl e) (fTtl f) by omega),(by show some (Chunk.box [.int .i64 rb.timeout,.int .i64 rb.time,.int .i64 (IntKind.i64.wrap (rb.conf + (insE e f pol).2.1)),.own 1 rb.xs.length]) = _;rw [hw7]),rfl,rfl,rfl,trivial⟩⟩
        · refine (Tri.skip ?_)
          have h3':¬ fTtl f < rTtl e:=of_decide_eq_false h3;exact ⟨trivial,Le.weak rfl rfl rfl rfl ⟨rfl,rfl,rfl,rfl,rfl,rfl,trivial⟩ ⟨congrArg (fun t=>some (Chunk.box (rC (rKey e,rBeg e,rGone e,(insE e f pol).1,t,rEnd e,())))) (show rTtl e = min (rTtl e) (fTtl f) by omega),(by show some (Chunk.box [.int .i64 rb.timeout,.int .i64 rb.time,.int .i64 (IntKind.i64.wrap (rb.conf + (insE e f pol).2.1)),.own 1 rb.xs.length]) = _;rw [hw7]),rfl,rfl,rfl,trivial⟩⟩
      · refine Tri.join (True) (⟨180,1,80,[(0,.loc 0 0),(1,.int .i64 (-1:Int)),(7,.loc 2 0),(8,.loc 3 0),(10,.loc 4 0),(13,.list pT (insE e f pol).1)],[(2,.box (rC (entR e f pol))),(0,.box (rbC ⟨rb.timeout,rb.time,rb.conf + (insE e f pol).2.1,rb.xs⟩ 1)),(1,.arr rT rb.xs),(3,.box (fgC f)),(4,.box zDv)],[]⟩) ?_ fun hp4=>?_
        · refine Tri.seq (Tri.reg hT ?_)
          refine (Tri.cond ⟨fun h4=>?_,fun h4=>?_⟩)
          · refine (Tri.reg hT ?_)
            have h4':fMore f = false:=(by have h4'':(!fMore f) = true:=h4;simpa using h4'');exact ⟨trivial,Le.weak rfl rfl rfl rfl ⟨rfl,rfl,rfl,rfl,rfl,rfl,trivial⟩ ⟨congrArg (fun t=>some (Chunk.box (rC (rKey e,rBeg e,rGone e,(insE e f pol).1,min (rTtl e) (fTtl f),t,())))) (show IntKind.i64.wrap (fOff f + ((fData f).length:Int)) = if fMore f then rEnd e else endG f by rw [hwe,h4'];rfl),rfl,rfl,rfl,rfl,trivial⟩⟩
          · refine (Tri.skip ?_)
            have h4':fMore f = true:=(by have h4'':(!fMore f) = false:=h4;simpa using h4'');exact ⟨trivial,Le.weak rfl rfl rfl rfl ⟨rfl,rfl,rfl,rfl,rfl,rfl,trivial⟩ ⟨congrArg (fun t=>some (Chunk.box (rC (rKey e,rBeg e,rGone e,(insE e f pol).1,min (rTtl e) (fTtl f),t,())))) (show rEnd e = if fMore f then rEnd e else endG f by rw [h4'];rfl),rfl,rfl,rfl,rfl,trivial⟩⟩
        · refine Tri.seq ?_
          refine Tri.seq (Tri.reg hT ?_)
          refine (Tri.cond ⟨fun h5=>?_,fun h5=>?_⟩)
          · refine Tri.seq (Tri.reg hT ?_)
            refine (Tri.drwF hT hm 7 7 (by kernel_rfl) (by kernel_rfl) ?_)
            refine ⟨by kernel_rfl,?_⟩
            refine ⟨(Nat.le_refl _),by show rb.xs.length≤rb.xs.length∧(rb.xs.length + 1) * 160≤_∧rb.xs.length + 1≤_;omega,?_⟩
            refine Tri.seq (Tri.drw hT hm 6 (by kernel_rfl) ?_)
            refine ⟨by kernel_rfl,?_⟩
            refine ⟨(by show 0≤(rb.xs.length:Int)∧(rb.xs.length:Int) < ((rb.xs.length + 1:Nat):Int);omega),?_⟩
            refine ⟨(by show rb.xs.length < (rb.xs.take rb.xs.length ++ [entR e f pol]).length;rw [List.length_append,List.take_length];simp),_,rfl,?_⟩
            have hx1:(rb.xs ++ [entR e f pol]).length≤1048577:=(by rw [List.length_append];simp only [List.length_cons,List.length_nil];omega);refine Tri.le (S:=⟨180,1,120,[(0,.loc 0 0),(1,.int .i64 (rb.xs.length:Int)),(7,.loc 2 0),(8,.loc 3 0),(10,.loc 4 0),(13,.list pT (insE e f pol).1)],[(2,.box (rC (entR e f pol))),(0,.box (rbC ⟨rb.timeout,rb.time,rb.conf + (insE e f pol).2.1,(rb.xs ++ [entR e f pol])⟩ 1)),(1,.arr rT (rb.xs ++ [entR e f pol])),(3,.box (fgC f)),(4,.box zDv)],[]⟩) (Le.weak rfl rfl rfl rfl ⟨rfl,rfl,rfl,rfl,rfl,rfl,trivial⟩ ⟨rfl,congrArg (fun n=>some (Chunk.box [.int .i64 rb.timeout,.int .i64 rb.time,.int .i64 (rb.conf + (insE e f pol).2.1),.own 1 n])) (by rw [List.length_append];rfl),congrArg (fun l=>some (Chunk.arr rT l)) (by show (rb.xs.take rb.xs.length ++ [entR e f pol]).set rb.xs.length (entR e f pol) = _;rw [List.take_length];simp),rfl,rfl,trivial⟩) ?_
            refine Tri.seq (Tri.reg hT ?_)
            refine .inl (.inl ⟨_,fun _=>rfl,f51_spec (insE e f pol).1 0 hcv (by omega) (by omega) (by omega),?_⟩)
            refine Tri.seq ?_
            refine Tri.seq (Tri.reg hT ?_)
            refine ⟨_,[],trivial,rfl,rfl,fun h=>⟨rfl,rfl,rfl⟩,?_⟩
            refine ⟨_,[],trivial,rfl,rfl,fun h=>⟨h,rfl,rfl,rfl⟩,?_⟩
            refine ⟨_,[],trivial,rfl,rfl,fun h=>⟨rfl,rfl,rfl⟩,?_⟩
            refine ⟨_,[],trivial,rfl,rfl,fun h=>⟨h,rfl,rfl,rfl⟩,?_⟩
            refine ⟨_,[],trivial,rfl,rfl,fun h=>⟨h,h,rfl,rfl,rfl⟩,?_⟩
            refine ⟨⟨fun hc=>hc,fun _=>trivial⟩,?_⟩
            refine (Tri.cond ⟨fun h6=>?_,fun h6=>?_⟩)
            · refine Tri.seq (Tri.regM hT [2] ?_)
              refine ⟨_,Le.refl _,.inl (.inr (OpTri.hcall 1 rfl rfl rfl (f52_spec ⟨rb.timeout,rb.time,rb.conf + (insE e f pol).2.1,(rb.xs ++ [entR e f pol])⟩ rb.xs.length hx2) trivial ⟨rfl,rfl,trivial⟩ rfl ?_))⟩
              refine Tri.seq (Tri.drw hT hm 13 (by kernel_rfl) ?_)
              refine ⟨(by obtain ⟨q1,q2⟩:=and_t h6;have q1:rEnd (entR e f pol) > 0:=of_decide_eq_true q1;have q2:((takeF (insE e f pol).1 0).1.length:Int)≥rEnd (entR e f pol):=of_decide_eq_true q2;show 0≤(0:Int)∧(0:Int)≤rEnd (entR e f pol)∧rEnd (entR e f pol)≤((takeF (insE e f pol).1 0).1.length:Int);omega),?_⟩
              refine ⟨by kernel_rfl,?_⟩
              refine Tri.ret ?_
              obtain ⟨q1,q2⟩:=and_t h6;have q1:rEnd (entR e f pol) > 0:=of_decide_eq_true q1;have q2:((takeF (insE e f pol).1 0).1.length:Int)≥rEnd (entR e f pol):=of_decide_eq_true q2;have eR:insN rb e f pol = (okR (fSrc f) (fDst f) (fPro f) (rTtl (entR e f pol)) ((takeF (insE e f pol).1 0).1.take (rEnd (entR e f pol)).toNat),⟨rb.timeout,rb.time,rb.conf + (insE e f pol).2.1,(rb.xs ++ [entR e f pol]).eraseIdx rb.xs.length⟩):=(if_neg (fun q=>q hE)).trans (if_pos ⟨q1,q2⟩);exact ⟨_,Le.refl _,by rw [eR];exact ⟨rfl,rfl,rfl,trivial⟩⟩
            · refine (Tri.skip ?_)
              refine Tri.join (True) (⟨180,1,200,[(0,.loc 0 0),(1,.int .i64 (rb.xs.length:Int)),(7,.loc 2 0),(8,.loc 3 0),(10,.loc 4 0),(13,.list pT (insE e f pol).1)],[(2,.box (rC (entR e f pol))),(0,.box (rbC ⟨rb.timeout,rb.time,rb.conf + (insE e f pol).2.1,(limX (rb.xs ++ [entR e f pol]))⟩ 1)),(1,.arr rT (limX (rb.xs ++ [entR e f pol]))),(3,.box (fgC f)),(4,.box zDv)],[]⟩) ?_ fun hp7=>?_
              · refine Tri.seq (Tri.regM hT [1] ?_)
                refine ⟨_,Le.refl _,.inl (.inr (OpTri.hcall 1 rfl rfl rfl (f16_spec ⟨rb.timeout,rb.time,rb.conf + (insE e f pol).2.1,(rb.xs ++ [entR e f pol])⟩ (by show (rb.xs ++ [entR e f pol]).length≤_;omega)) trivial ⟨rfl,rfl,trivial⟩ rfl ?_))⟩
                refine (Tri.cond ⟨fun h7=>?_,fun h7=>?_⟩)
                · refine Tri.seq (Tri.reg hT ?_)
                  refine (Tri.block ?_)
                  refine (Tri.loop (ι:=Nat) (fun i=>⟨180,1,150,[(0,.loc 0 0),(1,.int .i64 (rb.xs.length:Int)),(7,.loc 2 0),(8,.loc 3 0),(10,.loc 4 0),(13,.list pT (insE e f pol).1),(18,.int .i64 (i:Int))],[(2,.box (rC (entR e f pol))),(0,.box (rbC ⟨rb.timeout,rb.time,rb.conf + (insE e f pol).2.1,(rb.xs ++ [entR e f pol])⟩ 1)),(1,.arr rT (rb.xs ++ [entR e f pol])),(3,.box (fgC f)),(4,.box zDv)],[]⟩) (fun i=>i≤(rb.xs ++ [entR e f pol]).length∧∀ j,j < i→rGone ((rb.xs ++ [entR e f pol]).getD j rD) = true) (fun i=>(rb.xs ++ [entR e f pol]).length - i) (0) ?_ ?_ ?_)
                  · exact ⟨Nat.zero_le _,fun j hj=>absurd hj (by omega)⟩
                  · exact Le.weak rfl rfl rfl rfl ⟨rfl,rfl,rfl,rfl,rfl,rfl,rfl,trivial⟩ ⟨rfl,rfl,rfl,rfl,rfl,trivial⟩
                  · intro i hi
                    refine Tri.seq ?_
                    refine Tri.seq (Tri.reg hT ?_)
                    refine (Tri.cond ⟨fun h8=>?_,fun h8=>?_⟩)
                    · refine (Tri.skip ?_)
                      refine Tri.seq (Tri.block ?_)
                      have h8':(i:Int) < ((rb.xs ++ [entR e f pol]).length:Int):=of_decide_eq_true h8
                      refine Tri.seq (Tri.reg hT ?_)
                      refine ⟨(by show 0≤(i:Int)∧(i:Int) < ((rb.xs ++ [entR e f pol]).length:Int);omega),?_⟩
                      refine ⟨(by show i < (rb.xs ++ [entR e f pol]).length;omega),?_⟩
                      refine (Tri.cond ⟨fun h9=>?_,fun h9=>?_⟩)
                      · refine Tri.seq (Tri.drw hT hm 22 (by kernel_rfl) ?_)
                        refine ⟨(by show 0≤(i:Int)∧(i:Int) < ((rb.xs ++ [entR e f pol]).length:Int);omega),?_⟩
                        refine ⟨(by show i < (rb.xs ++ [entR e f pol]).length;omega),?_⟩
                        refine ⟨(by show 0≤(i:Int)∧(i:Int) < ((rb.xs ++ [entR e f pol]).length:Int);omega),?_⟩
                        refine ⟨(by show i < (rb.xs ++ [entR e f pol]).length;omega),?_⟩
                        refine ⟨by kernel_rfl,?_⟩
                        refine ⟨(by show 0≤(i:Int)∧(i:Int) < ((rb.xs ++ [entR e f pol]).length:Int);omega),?_⟩
                        refine ⟨(by show i < (rb.xs ++ [entR e f pol]).length;omega),_,rfl,?_⟩
                        refine Tri.exit ?_
                        have h9':(!rGone ((rb.xs ++ [entR e f pol]).getD i rD)) = true:=h9;have ex:limX (rb.xs ++ [entR e f pol]) = (rb.xs ++ [entR e f pol]).set i (goneR ((rb.xs ++ [entR e f pol]).getD i rD)):=(if_pos (show sumL vOpen (rb.xs ++ [entR e f pol]) > 32 from of_decide_eq_true h7)).trans (by rw [first_at (by omega) hi.2 (by simpa using h9')]);exact ⟨trivial,Le.weak rfl rfl rfl rfl ⟨rfl,rfl,rfl,rfl,rfl,rfl,trivial⟩ ⟨rfl,congrArg (fun n=>some (Chunk.box [.int .i64 rb.timeout,.int .i64 rb.time,.int .i64 (rb.conf + (insE e f pol).2.1),.own 1 n])) (by rw [ex];simp only [List.length_set]),congrArg (fun l=>some (Chunk.arr rT l)) ex.symm,rfl,rfl,trivial⟩⟩
                      · refine (Tri.skip ?_)
                        refine (Tri.reg hT ?_)
                        have h9':(!rGone ((rb.xs ++ [entR e f pol]).getD i rD)) = false:=h9;exact ⟨i + 1,⟨by omega,fun j hj=>by rcases Nat.lt_succ_iff_lt_or_eq.1 hj with q|q;exact hi.2 j q;rw [q];simpa using h9'⟩,by omega,Le.weak rfl rfl rfl rfl ⟨rfl,rfl,rfl,rfl,rfl,rfl,iv1 (by omega),trivial⟩ ⟨rfl,rfl,rfl,rfl,rfl,trivial⟩⟩
                    · refine Tri.exit ?_
                      have h8':¬ (i:Int) < ((rb.xs ++ [entR e f pol]).length:Int):=of_decide_eq_false h8;have ex:limX (rb.xs ++ [entR e f pol]) = (rb.xs ++ [entR e f pol]):=(if_pos (show sumL vOpen (rb.xs ++ [entR e f pol]) > 32 from of_decide_eq_true h7)).trans (by rw [first_no (fun j hj=>hi.2 j (by have:=hi.1;omega))]);exact ⟨trivial,Le.weak rfl rfl rfl rfl ⟨rfl,rfl,rfl,rfl,rfl,rfl,trivial⟩ ⟨rfl,congrArg (fun (l:List Re)=>some (Chunk.box [.int .i64 rb.timeout,.int .i64 rb.time,.int .i64 (rb.conf + (insE e f pol).2.1),.own 1 l.length])) ex.symm,congrArg (fun l=>some (Chunk.arr rT l)) ex.symm,rfl,rfl,trivial⟩⟩
                · refine (Tri.skip ?_)
                  have ex:limX (rb.xs ++ [entR e f pol]) = (rb.xs ++ [entR e f pol]):=if_neg (of_decide_eq_false h7);exact ⟨trivial,Le.weak rfl rfl rfl rfl ⟨rfl,rfl,rfl,rfl,rfl,rfl,trivial⟩ ⟨rfl,congrArg (fun (l:List Re)=>some (Chunk.box [.int .i64 rb.timeout,.int .i64 rb.time,.int .i64 (rb.conf + (insE e f pol).2.1),.own 1 l.length])) ex.symm,congrArg (fun l=>some (Chunk.arr rT l)) ex.symm,rfl,rfl,trivial⟩⟩
              · refine Tri.seq (Tri.reg hT ?_)
                refine Tri.ret ?_
                have eR:insN rb e f pol = (failR 0,⟨rb.timeout,rb.time,rb.conf + (insE e f pol).2.1,limX (rb.xs ++ [entR e f pol])⟩):=(if_neg (fun q=>q hE)).trans (if_neg (fun q=>by rcases and_f h6 with z|z;exact of_decide_eq_false z q.1;exact of_decide_eq_false z q.2));exact ⟨_,Le.refl _,by rw [eR];exact ⟨rfl,rfl,rfl,trivial⟩⟩
          · exact absurd (show decide ((-1:Int) < 0) = false from h5) (by decide)
end Go.Proofs.Ytfaplilocljknaa.Fx
