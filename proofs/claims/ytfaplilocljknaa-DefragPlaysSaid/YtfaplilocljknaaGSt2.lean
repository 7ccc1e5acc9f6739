import Derived.Test.YtfaplilocljknaaGSt1
import Derived.Test.YtfaplilocljknaaGOv3
set_option linter.all false
namespace Go.Ov
open Go Go.Fw
abbrev wA0:SS:=⟨[],0,101,50,1,-1⟩
abbrev wA1:SS:=⟨[(2,[99],2,3,())],0,101,50,1,-1⟩
abbrev wA2:SS:=⟨[],3,101,50,1,-1⟩
abbrev wA3:SS:=⟨[],3,101,50,1,3⟩
abbrev wB1:SS:=⟨[(2,[99,100],2,4,())],0,101,50,1,-1⟩
abbrev wB2:SS:=⟨[],4,101,50,1,-1⟩
abbrev wU0:SS:=⟨[],0,1,100,2,-1⟩
abbrev wU1:SS:=⟨[(1,[98,88],1,3,())],0,1,100,2,-1⟩
abbrev wU2:SS:=⟨[(1,[98],1,3,()),(2,[99],2,3,())],0,1,100,2,-1⟩
abbrev wU3:SS:=⟨[],3,1,100,2,-1⟩
end Go.Ov
namespace Go.Ov
open Go Go.Fw
def shS (by_:Int) (s:SS):SS:={ s with first:=IntKind.u32.wrap (s.first + by_) }
abbrev Stt:=Int × Int × Int × Unit
abbrev stv (x:Stt):AV:=.agg [.int .u32 x.1,.int .i64 x.2.1,.int .i64 x.2.2.1]
abbrev atS (x:Stt) (l:List Ca) (i:Nat):SS:=runS (newS x.1 x.2.1 x.2.2.1) x.1 (l.take i)
end Go.Ov
namespace Go.Ov
open Go Go.Fw
structure ProgOk (s:SS) (c:Ca) (r:Rs × SS):Prop where
  sum:(r.1.1.length:Int) + (if c.1 = 2 then r.1.2.1 else 0) = r.2.pos - s.pos
  a0:0≤r.1.2.1
  b0:0≤r.1.2.2.1
  cut:c.1≠1→c.1≠2→r.1.2.1≤(c.2.2.1.length:Int)
  win:r.2.win = s.win
  first:r.2.first = s.first
end Go.Ov
namespace Go.Ov
open Go Go.Fw
theorem take_exact {x:List Pc} (hv:Valid x) {a:Int} {s:List UInt8} (h:∀ k:Nat,k < s.length→∃ o,atC (cells x) (a + (k:Int)) = some o∧o.2.1 = ((s.getD k 0).toNat:Int))
    (hn:atC (cells x) (a + (s.length:Int)) = none):takeF x a = (s,a + s.length):=by
  obtain ⟨h1,h2⟩:=take_prefix hv h
  have tk:=takeOk hv a
  have hlen:(takeF x a).1.length = s.length:=by
    rcases Nat.lt_or_ge s.length (takeF x a).1.length with h3|h3
    · obtain ⟨o,ho,_⟩:=tk.some_ _ h3
      rw [hn] at ho;cases ho
    · omega
  have e:(takeF x a).1 = s:=by rw [← hlen,List.take_length] at h2;exact h2
  exact Prod.ext e (by rw [tk.end_,e])
structure Few (l:List Pc) (n:Nat) (R:Int):Prop where
  v:Valid l
  rng:∀ c∈cells l,c.1 < R
  brk:cnt (brkB (cells l)) 0 (R + 1)≤n
structure InsFew (l:List Pc) (p:Pc) (pol:Int) (n:Nat) (R:Int):Prop where
  eq:insR l p pol = (J (insM (cells l) pol p),((conS (cells l) p:Nat):Int),0)
  few:Few (J (insM (cells l) pol p)) (n + 2) R
  cells:cells (J (insM (cells l) pol p)) = insM (cells l) pol p
theorem ins_few {l:List Pc} {n:Nat} {R:Int} (h:Few l n R) (hn:n + 2≤64) {pol:Int} (h1:1≤pol) (h4:pol≤4) {p:Pc} (hne:pd p≠[]) (p0:0≤pa p) (p1:endP p≤R) (hR:R≤2147483648):InsFew l p pol n R:=by
  have hs:=sorted_cells h.v
  have hend:endP p = pa p + (pd p).length:=rfl
  have hpos:0 < (pd p).length:=List.length_pos_iff.2 hne
  have hsM:Sorted (insM (cells l) pol p):=sorted_mrg hs pol (newP p) _
  have hok:∀ c∈insM (cells l) pol p,CellOk c:=mrg_ok h.v pol p0 (by omega)
  have hcJ:Go.Ov.cells (J (insM (Go.Ov.cells l) pol p)) = insM (Go.Ov.cells l) pol p:=cells_J _ (fun x hx=>(hok x hx).2.2.2.2)
  have hrng:∀ c∈insM (cells l) pol p,0≤c.1∧c.1 < R:=fun c hc=>by
    have h0:=hok c hc
    refine ⟨Int.le_trans h0.1 h0.2.1,?_⟩
    rcases mem_insM hs hc with ⟨_,h2,_⟩|h2
    · omega
    · exact h.rng c h2
  have hb:cnt (brkB (insM (cells l) pol p)) 0 (R + 1)≤n + 2:=by
    obtain ⟨N,hN⟩:∃ N:Nat,R + 1 = (0:Int) + (N:Int):=⟨(R + 1).toNat,by omega⟩
    have h5:=cnt_two (pa p) (endP p) (brk_insM hs pol p) 0 N
    have h6:=h.brk
    rw [hN] at h6 ⊢
    have h7:(if (0:Int)≤pa p∧pa p < 0 + (N:Int) then 1 else 0)≤1:=by split <;> omega
    have h8:(if (0:Int)≤endP p∧endP p < 0 + (N:Int) then 1 else 0)≤1:=by split <;> omega
    omega
  have hlen:(J (insM (cells l) pol p)).length≤n + 2:=Nat.le_trans (J_cnt _ _ rfl hsM 0 (R + 1) (fun x hx=>by have:=hrng x hx;omega)) hb
  have hr:rangeB p.1 pol = false:=by
    have e0:pa p = p.1:=rfl
    simp only [rangeB,Bool.if_true_left,Bool.decide_eq_true,Bool.or_eq_false_iff,decide_eq_false_iff_not]
    omega
  refine ⟨?_,⟨valid_J hsM hok,fun c hc=>(hrng c (hcJ ▸ hc)).2,by rw [hcJ];exact hb⟩,hcJ⟩
  rw [insR_end h.v (decide_eq_false hne) hr,if_neg (by omega),if_neg (by show ¬ (J (insM (Go.Ov.cells l) pol p)).length > 64;omega)]
  refine Prod.ext rfl (Prod.ext ?_ rfl)
  rfl
theorem Few.nil (R:Int):Few [] 0 R:=⟨fun j hj=>absurd hj (Nat.not_lt_zero _),fun c hc=>by simp [cells] at hc,by rw [cnt_false (f:=brkB (cells [])) (fun x _ _=>rfl)];exact Nat.le_refl _⟩
theorem Few.len {l:List Pc} {n:Nat} {R:Int} (h:Few l n R) (hJ:l = J (cells l)):l.length≤n:=by
  have hs:=sorted_cells h.v
  rw [hJ]
  refine Nat.le_trans (J_cnt _ _ rfl hs 0 (R + 1) (fun x hx=>?_)) h.brk
  have h1:=h.rng x hx
  have h2:=cells_ok h.v x hx
  exact ⟨Int.le_trans h2.1 h2.2.1,by omega⟩
end Go.Ov
namespace Go.Ov
open Go Go.Fw
theorem addS_few {s:SS} {n:Nat} {R:Int} (h:Few s.l n R) (hn:n + 2≤64) (h1:1≤s.pol) (h4:s.pol≤4) (p0:0≤s.pos) {seq:Int} {d:List UInt8}
    (hlt:¬ max (offS s seq) s.pos≥hiS s (offS s seq) d.length) (hR:hiS s (offS s seq) d.length≤R) (hR2:R≤2147483648) :
    InsFew s.l (segP (offS s seq) (max (offS s seq) s.pos) (hiS s (offS s seq) d.length) d) s.pol n R∧
    addS s seq d = (((takeF (J (insM (cells s.l) s.pol (segP (offS s seq) (max (offS s seq) s.pos) (hiS s (offS s seq) d.length) d))) s.pos).1,d.length - (hiS s (offS s seq) d.length - max (offS s seq) s.pos),((conS (cells s.l) (segP (offS s seq) (max (offS s seq) s.pos) (hiS s (offS s seq) d.length) d):Nat):Int)),
      takeN { s with l:=J (insM (cells s.l) s.pol (segP (offS s seq) (max (offS s seq) s.pos) (hiS s (offS s seq) d.length) d)) }):=by
  have o:=hi_ok hlt
  have hl:=segP_len (d:=d) o.alo (by have:=o.lohi;omega) o.hin
  have olo:=o.lohi
  have opl:=o.plo
  have e1:pa (segP (offS s seq) (max (offS s seq) s.pos) (hiS s (offS s seq) d.length) d) = max (offS s seq) s.pos:=rfl
  have e2:endP (segP (offS s seq) (max (offS s seq) s.pos) (hiS s (offS s seq) d.length) d) = max (offS s seq) s.pos + ((pd (segP (offS s seq) (max (offS s seq) s.pos) (hiS s (offS s seq) d.length) d)).length:Int):=rfl
  have k:=ins_few h hn h1 h4 (p:=segP (offS s seq) (max (offS s seq) s.pos) (hiS s (offS s seq) d.length) d) (fun hh=>by rw [hh] at hl;simp only [List.length_nil] at hl;omega) (by omega) (by omega) hR2
  refine ⟨k,?_⟩
  have e:insS s seq d = (J (insM (cells s.l) s.pol (segP (offS s seq) (max (offS s seq) s.pos) (hiS s (offS s seq) d.length) d)),((conS (cells s.l) (segP (offS s seq) (max (offS s seq) s.pos) (hiS s (offS s seq) d.length) d):Nat):Int),0):=k.eq
  unfold addS
  rw [if_neg hlt,e,if_neg (by simp)]
theorem cutL_zero {l:List Pc} (hv:Valid l):cutL l 0 = l:=by
  have key:∀ (l:List Pc),(∀ o∈l,OkP o)→cutL l 0 = l:=by
    intro l
    induction l with
    | nil=>intro _;rfl
    | cons o l ih=>
      intro h
      rw [cutL_cons,ih (fun x hx=>h x (by simp [hx]))]
      obtain ⟨a1,a2,a3,a4,a5,a6⟩:=h o (by simp)
      have hp:0 < (pd o).length:=List.length_pos_iff.2 a1
      have e:endP o = pa o + (pd o).length:=rfl
      have:cut1 0 o = some o:=by rw [cut1,if_neg (by omega),if_neg (by omega)]
      rw [this];rfl
  exact key l (valid_pw.1 hv).1
abbrev pp (c:Ca):Pc:=(c.2.1 - 1,c.2.2.1,0,0,())
abbrev polX (x:Stt):Int:=min (max x.2.2.1 1) 4
theorem polX_rng (x:Stt):1≤polX x∧polX x≤4:=by unfold polX;omega
def mS (pol:Int) (l:List Pc) (c:Ca):List Pc:=if c.2.1 < 2∨c.2.1 > 600 then l else (insR l (pp c) pol).1
def sP (x:Stt) (l:List Pc):SS:=⟨l,0,IntKind.u32.wrap (x.1 + 1),1000,polX x,-1⟩
structure PInv (l:List Pc) (i:Nat):Prop where
  few:Few l (2 * i) 1000
  one:∀ c∈cells l,1≤c.1
  len:l.length≤64
theorem PInv.s {x:Stt} {l:List Pc} {i:Nat} (h:PInv l i):SInv (sP x l) 0:=by
  refine ⟨Int.le_refl _,Int.le_refl _,by show (1:Int)≤1000∧(1000:Int)≤8192;omega,polX_rng x,h.few.v,fun c hc=>?_,h.len,.inl rfl,?_⟩
  · have:=h.one c hc
    have:=h.few.rng c hc
    show (0:Int)≤c.1∧c.1 < 0 + 1000
    omega
  · show 0≤IntKind.u32.wrap _∧IntKind.u32.wrap _ < _
    rw [wrap_u32];omega
theorem offP (x:Stt) (l:List Pc) (c:Ca) (h:¬ (c.2.1 < 2∨c.2.1 > 600)):offS (sP x l) (seqS x.1 c) = c.2.1 - 1:=by
  unfold offS seqS
  show (0:Int) + sdiff _ (IntKind.u32.wrap (IntKind.u32.wrap (x.1 + 1) + IntKind.u32.wrap 0)) = _
  simp only [sdiff_eq,wrap_u32]
  omega
theorem PInv.next {x:Stt} {l:List Pc} {i:Nat} (h:PInv l i) (hi:i < 12) {c:Ca} (hc:¬ (c.2.1 < 2∨c.2.1 > 600)) (hl:c.2.2.1.length≤300) :
    addS (sP x l) (seqS x.1 c) c.2.2.1 = (([],0,(insR l (pp c) (polX x)).2.1),sP x (mS (polX x) l c))∧(insR l (pp c) (polX x)).2.2 = 0∧PInv (mS (polX x) l c) (i + 1):=by
  have eo:=offP x l c hc
  have em:mS (polX x) l c = (insR l (pp c) (polX x)).1:=if_neg hc
  have eh:hiS (sP x l) (c.2.1 - 1) c.2.2.1.length = c.2.1 - 1 + c.2.2.1.length:=by
    show min (c.2.1 - 1 + (c.2.2.1.length:Int)) (0 + 1000) = _
    omega
  have ep:(sP x l).pos = 0:=rfl
  by_cases hd:c.2.2.1 = []
  · have e1:insR l (pp c) (polX x) = (l,0,0):=if_pos hd
    rw [em,e1]
    refine ⟨?_,rfl,⟨⟨h.few.v,h.few.rng,Nat.le_trans h.few.brk (by omega)⟩,h.one,h.len⟩⟩
    unfold addS
    rw [eo,eh,ep,if_pos (by rw [hd];simp only [List.length_nil];omega),hd]
    rfl
  · have hp:0 < c.2.2.1.length:=List.length_pos_iff.2 hd
    have elo:max (c.2.1 - 1) (sP x l).pos = c.2.1 - 1:=by rw [ep];omega
    have hlt:¬ max (offS (sP x l) (seqS x.1 c)) (sP x l).pos≥hiS (sP x l) (offS (sP x l) (seqS x.1 c)) c.2.2.1.length:=by rw [eo,eh,elo];omega
    have hR:hiS (sP x l) (offS (sP x l) (seqS x.1 c)) c.2.2.1.length≤1000:=by rw [eo,eh];omega
    obtain ⟨k,ek⟩:=addS_few (s:=sP x l) h.few (by omega) (polX_rng x).1 (polX_rng x).2 (Int.le_refl _) hlt hR (by decide)
    have ese:segP (offS (sP x l) (seqS x.1 c)) (max (offS (sP x l) (seqS x.1 c)) (sP x l).pos) (hiS (sP x l) (offS (sP x l) (seqS x.1 c)) c.2.2.1.length) c.2.2.1 = pp c:=by
      rw [eo,eh,elo]
      unfold segP pp
      rw [show (c.2.1 - 1 + (c.2.2.1.length:Int) - (c.2.1 - 1)).toNat = c.2.2.1.length by omega,show (c.2.1 - 1 - (c.2.1 - 1)).toNat = 0 by omega,List.take_length,List.drop_zero]
    rw [ese] at k ek
    rw [eo,eh,elo] at ek
    have ei:insR l (pp c) (polX x) = (J (insM (cells l) (polX x) (pp c)),((conS (cells l) (pp c):Nat):Int),0):=k.eq
    have hs:=sorted_cells h.few.v
    have h1:∀ z∈cells (J (insM (cells l) (polX x) (pp c))),1≤z.1:=fun z hz=>by
      have hcl:cells (J (insM (cells l) (polX x) (pp c))) = insM (cells l) (polX x) (pp c):=k.cells
      rw [hcl] at hz
      rcases mem_insM hs hz with ⟨q1,_,_⟩|q
      · have:pa (pp c) = c.2.1 - 1:=rfl
        omega
      · exact h.one z q
    have hkv:Valid (J (insM (cells l) (polX x) (pp c))):=k.few.v
    have hn:atC (cells (J (insM (cells l) (polX x) (pp c)))) 0 = none:=atC_none (fun z hz=>by have:=h1 z hz;omega)
    have ht:takeF (J (insM (cells l) (polX x) (pp c))) 0 = ([],0):=take_exact hkv (s:=[]) (fun j hj=>by simp at hj) (by simpa using hn)
    rw [em,ei]
    refine ⟨?_,rfl,⟨⟨k.few.v,k.few.rng,k.few.brk⟩,h1,?_⟩⟩
    · rw [ek]
      have e5:takeF (J (insM (cells (sP x l).l) (sP x l).pol (pp c))) (sP x l).pos = ([],0):=ht
      have e6:takeN { sP x l with l:=J (insM (cells (sP x l).l) (sP x l).pol (pp c)) } = sP x (J (insM (cells l) (polX x) (pp c))):=by
        unfold takeN
        simp only
        rw [e5]
        have e7:cutL (J (insM (cells (sP x l).l) (sP x l).pol (pp c))) 0 = J (insM (cells l) (polX x) (pp c)):=cutL_zero hkv
        simp only [e7]
        rfl
      rw [e5,e6]
      refine Prod.ext (Prod.ext rfl (Prod.ext ?_ rfl)) rfl
      show (c.2.2.1.length:Int) - (c.2.1 - 1 + c.2.2.1.length - (c.2.1 - 1)) = 0
      omega
    · have:=insR_small (p:=pp c) (pol:=polX x) h.len
      rw [ei] at this
      exact this
def pcsS (x:Stt) (l:List Ca):List Pc:=l.foldl (mS (polX x)) []
theorem PInv.last {x:Stt} {l:List Pc} {i:Nat} (h:PInv l i) (hi:i≤12):(addS (sP x l) (IntKind.u32.wrap (x.1 + 1)) [122]).1.1 = 122 :: (takeF l 1).1:=by
  have eo:offS (sP x l) (IntKind.u32.wrap (x.1 + 1)) = 0:=by
    unfold offS
    show (0:Int) + sdiff _ (IntKind.u32.wrap (IntKind.u32.wrap (x.1 + 1) + IntKind.u32.wrap 0)) = _
    simp only [sdiff_eq,wrap_u32]
    omega
  have eh:hiS (sP x l) 0 ([122]:List UInt8).length = 1:=rfl
  have ep:(sP x l).pos = 0:=rfl
  obtain ⟨k,ek⟩:=addS_few (s:=sP x l) (seq:=IntKind.u32.wrap (x.1 + 1)) (d:=[122]) h.few (by omega) (polX_rng x).1 (polX_rng x).2 (Int.le_refl _) (by rw [eo,eh,ep];decide) (by rw [eo,eh];decide) (by decide)
  have ese:segP (offS (sP x l) (IntKind.u32.wrap (x.1 + 1))) (max (offS (sP x l) (IntKind.u32.wrap (x.1 + 1))) (sP x l).pos) (hiS (sP x l) (offS (sP x l) (IntKind.u32.wrap (x.1 + 1))) ([122]:List UInt8).length) [122] = (0,[122],0,0,()):=by
    rw [eo,eh,ep];rfl
  rw [ese] at k ek
  rw [ek]
  show (takeF (J (insM (cells l) (polX x) (0,[122],0,0,()))) 0).1 = _
  have hs:=sorted_cells h.few.v
  have hcl:cells (J (insM (cells l) (polX x) (0,[122],0,0,()))) = insM (cells l) (polX x) (0,[122],0,0,()):=k.cells
  have hkv:Valid (J (insM (cells l) (polX x) (0,[122],0,0,()))):=k.few.v
  have hat:=atC_insM hs (polX x) ((0,[122],0,0,()):Pc)
  have tk:=takeOk h.few.v 1
  have e0:pa ((0,[122],0,0,()):Pc) = 0:=rfl
  have e1:endP ((0,[122],0,0,()):Pc) = 1:=rfl
  have hn0:atC (cells l) 0 = none:=atC_none (fun z hz=>by have:=h.one z hz;omega)
  have hge:∀ a:Int,1≤a→atC (cells (J (insM (cells l) (polX x) (0,[122],0,0,())))) a = atC (cells l) a:=fun a ha=>by
    rw [hcl,hat,if_neg (by omega)]
  have hfin:takeF (J (insM (cells l) (polX x) (0,[122],0,0,()))) 0 = (122 :: (takeF l 1).1,0 + ((122 :: (takeF l 1).1).length:Int)):=by
   refine take_exact hkv (fun j hj=>?_) ?_
   · cases j with
     | zero=>
       refine ⟨pick (cells l) (polX x) (newP (0,[122],0,0,())) 0,?_,?_⟩
       · rw [hcl,hat];rfl
       · unfold pick
         rw [hn0];rfl
     | succ j=>
       simp only [List.length_cons] at hj
       obtain ⟨o,q1,q2⟩:=tk.some_ j (by omega)
       refine ⟨o,?_,by simpa using q2⟩
       rw [hge _ (by omega),← q1]
       congr 1
       omega
   · rw [hge _ (by simp only [List.length_cons];omega),← tk.none_]
     congr 1
     simp only [List.length_cons]
     omega
  rw [hfin]
end Go.Ov
