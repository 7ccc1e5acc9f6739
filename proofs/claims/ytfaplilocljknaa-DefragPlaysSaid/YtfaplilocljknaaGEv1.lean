import Derived.Test.YtfaplilocljknaaGSt3
set_option linter.all false
namespace Go.Ov
open Go Go.Fw
def stepE (pol:Int) (out:List Pc) (p:Pc):List Pc:=if (insR out p pol).2.2 = 0 then (insR out p pol).1 else out
def bufE (l:List Pc) (pol:Int):List Pc:=(l.take 64).foldl (stepE pol) []
def varE (l:List Pc) (pol:Int):List UInt8:=if pol < 1∨pol > 4 then [] else (takeF (bufE l pol) 0).1
structure BufOk (out:List Pc):Prop where
  v:Valid out
  len:out.length≤64
def sT (x:Stt) (l:List Pc):SS:=⟨l,0,IntKind.u32.wrap (x.1 + 1),8192,polX x,-1⟩
structure TInv (l:List Pc) (i:Nat):Prop where
  few:Few l (2 * i) 8192
  one:∀ c∈cells l,1≤c.1
  len:l.length≤64
theorem TInv.nil:TInv [] 0:=⟨Few.nil 8192,fun c hc=>by simp [cells] at hc,by simp⟩
theorem TInv.s {x:Stt} {l:List Pc} {i:Nat} (h:TInv l i):SInv (sT x l) 0:=by
  refine ⟨Int.le_refl _,Int.le_refl _,by show (1:Int)≤8192∧(8192:Int)≤8192;omega,polX_rng x,h.few.v,fun c hc=>?_,h.len,.inl rfl,?_⟩
  · have:=h.one c hc
    have:=h.few.rng c hc
    show (0:Int)≤c.1∧c.1 < 0 + 8192
    omega
  · show 0≤IntKind.u32.wrap _∧IntKind.u32.wrap _ < _
    rw [wrap_u32];omega
theorem offT (x:Stt) (l:List Pc) (a:Int) (h:0≤a∧a≤1000):offS (sT x l) (seqO x a) = a:=by
  unfold offS seqO
  show (0:Int) + sdiff _ (IntKind.u32.wrap (IntKind.u32.wrap (x.1 + 1) + IntKind.u32.wrap 0)) = _
  simp only [sdiff_eq,wrap_u32]
  omega
theorem insR_same (l:List Pc) {p q:Pc} (pol:Int) (h1:pa p = pa q) (h2:pd p = pd q):insR l p pol = insR l q pol:=by
  have e:newP p = newP q:=by unfold newP endP;rw [h1,h2]
  unfold insR
  rw [h1,h2,e]
theorem TInv.add {x:Stt} {l:List Pc} {i:Nat} (h:TInv l i) (hi:i < 30) {o:Pc} (ho:0≤pa o∧pa o≤1000) (hl:pd o≠[]∧(pd o).length≤100) :
    addS (sT x l) (seqO x (pa o)) (pd o) = (((takeF (insR l o (polX x)).1 0).1,0,(insR l o (polX x)).2.1),takeN (sT x (insR l o (polX x)).1))∧(insR l o (polX x)).2.2 = 0∧InsFew l o (polX x) (2 * i) 8192:=by
  have eo:=offT x l (pa o) ho
  have hp:0 < (pd o).length:=List.length_pos_iff.2 hl.1
  have hl2:=hl.2
  have eh:hiS (sT x l) (pa o) (pd o).length = pa o + (pd o).length:=by
    show min (pa o + ((pd o).length:Int)) (0 + 8192) = _
    omega
  have ep:(sT x l).pos = 0:=rfl
  have elo:max (pa o) (sT x l).pos = pa o:=by rw [ep];omega
  have hlt:¬ max (offS (sT x l) (seqO x (pa o))) (sT x l).pos≥hiS (sT x l) (offS (sT x l) (seqO x (pa o))) (pd o).length:=by rw [eo,eh,elo];omega
  have hR:hiS (sT x l) (offS (sT x l) (seqO x (pa o))) (pd o).length≤8192:=by rw [eo,eh];omega
  obtain ⟨k,ek⟩:=addS_few (s:=sT x l) h.few (by omega) (polX_rng x).1 (polX_rng x).2 (Int.le_refl _) hlt hR (by decide)
  have ese:segP (offS (sT x l) (seqO x (pa o))) (max (offS (sT x l) (seqO x (pa o))) (sT x l).pos) (hiS (sT x l) (offS (sT x l) (seqO x (pa o))) (pd o).length) (pd o) = (pa o,pd o,0,0,()):=by
    rw [eo,eh,elo]
    unfold segP
    rw [show (pa o + ((pd o).length:Int) - pa o).toNat = (pd o).length by omega,show (pa o - pa o).toNat = 0 by omega,List.take_length,List.drop_zero]
  have k2:=ins_few h.few (by omega) (polX_rng x).1 (polX_rng x).2 (p:=o) hl.1 ho.1 (by show pa o + ((pd o).length:Int)≤8192;omega) (by decide)
  have es:insR l o (polX x) = insR l (pa o,pd o,0,0,()) (polX x):=insR_same l (polX x) rfl rfl
  rw [ese] at k ek
  rw [eo,eh,elo] at ek
  have e1:insR l (pa o,pd o,0,0,()) (polX x) = (J (insM (cells l) (polX x) (pa o,pd o,0,0,())),((conS (cells l) (pa o,pd o,0,0,()):Nat):Int),0):=k.eq
  refine ⟨?_,by rw [k2.eq],k2⟩
  rw [ek,es,e1]
  refine Prod.ext (Prod.ext rfl (Prod.ext ?_ rfl)) rfl
  show ((pd o).length:Int) - (pa o + (pd o).length - pa o) = 0
  omega
theorem TInv.next {x:Stt} {l:List Pc} {i:Nat} (h:TInv l i) (hi:i < 30) {o:Pc} (ho:1≤pa o∧pa o≤1000) (hl:pd o≠[]∧(pd o).length≤100) :
    addS (sT x l) (seqO x (pa o)) (pd o) = (([],0,(insR l o (polX x)).2.1),sT x (stepE (polX x) l o))∧TInv (stepE (polX x) l o) (i + 1):=by
  obtain ⟨h1,h2,k⟩:=h.add (x:=x) hi (o:=o) ⟨by omega,ho.2⟩ hl
  have est:stepE (polX x) l o = (insR l o (polX x)).1:=if_pos h2
  have hs:=sorted_cells h.few.v
  have hv:Valid (insR l o (polX x)).1:=by rw [k.eq];exact k.few.v
  have hone:∀ z∈cells (insR l o (polX x)).1,1≤z.1:=fun z hz=>by
    rw [k.eq] at hz
    have hz':z∈cells (J (insM (cells l) (polX x) o)):=hz
    rw [k.cells] at hz'
    rcases mem_insM hs hz' with ⟨q1,_,_⟩|q
    · omega
    · exact h.one z q
  have ht:takeF (insR l o (polX x)).1 0 = ([],0):=take_exact hv (s:=[]) (fun j hj=>by simp at hj) (by
    have:atC (cells (insR l o (polX x)).1) 0 = none:=atC_none (fun z hz=>by have:=hone z hz;omega)
    simpa using this)
  have et:takeN (sT x (insR l o (polX x)).1) = sT x (insR l o (polX x)).1:=by
    unfold takeN
    have e5:takeF (sT x (insR l o (polX x)).1).l (sT x (insR l o (polX x)).1).pos = ([],0):=ht
    rw [e5]
    have e7:cutL (sT x (insR l o (polX x)).1).l 0 = (insR l o (polX x)).1:=cutL_zero hv
    simp only [e7]
    rfl
  refine ⟨by rw [h1,et,est,ht],?_⟩
  rw [est]
  refine ⟨?_,hone,insR_small h.len⟩
  rw [k.eq]
  exact ⟨k.few.v,k.few.rng,k.few.brk⟩
structure TopOk (l:List Pc):Prop where
  n:l.length≤20
  ok:∀ i,i < l.length→pd (l.getD i (Ty.dflt pT))≠[]∧(pd (l.getD i (Ty.dflt pT))).length≤100∧0≤pa (l.getD i (Ty.dflt pT))∧pa (l.getD i (Ty.dflt pT))≤1000∧(i = l.length - 1 ↔ pa (l.getD i (Ty.dflt pT)) = 0)
def runTop (x:Stt) (l:List Pc):List UInt8 × SS:=l.foldl (fun a o=>(a.1 ++ (addS a.2 (seqO x (pa o)) (pd o)).1.1,(addS a.2 (seqO x (pa o)) (pd o)).2)) ([],sT x [])
structure TopStep (x:Stt) (l:List Pc) (i:Nat):Prop where
  inv:SInv (runTop x (l.take i)).2 0
  cut:(addS (runTop x (l.take i)).2 (seqO x (pa (l.getD i (Ty.dflt pT)))) (pd (l.getD i (Ty.dflt pT)))).1.2.1 = 0
  out:i < l.length - 1→(addS (runTop x (l.take i)).2 (seqO x (pa (l.getD i (Ty.dflt pT)))) (pd (l.getD i (Ty.dflt pT)))).1.1 = []
  len:(runTop x (l.take i)).1 = []
  dlen:(addS (runTop x (l.take i)).2 (seqO x (pa (l.getD i (Ty.dflt pT)))) (pd (l.getD i (Ty.dflt pT)))).1.1.length≤100000
end Go.Ov
namespace Go.Ov
open Go Go.Fw
def OkT (l:List Pc) (i:Nat):Prop:=pd (l.getD i (Ty.dflt pT))≠[]∧(pd (l.getD i (Ty.dflt pT))).length≤100∧0≤pa (l.getD i (Ty.dflt pT))∧pa (l.getD i (Ty.dflt pT))≤1000∧(i = l.length - 1 ↔ pa (l.getD i (Ty.dflt pT)) = 0)
theorem lenSum_le {l:List Pc} (hv:Valid l):lenSum l≤4294967296:=by
  have h1:=cells_len l
  have h2:=cells_within (sorted_cells hv) 4294967296 0 (fun c hc=>by have:=cells_rng hv c hc;omega)
  omega
abbrev xT (isn:Int):Stt:=(isn,8192,2,())
abbrev bT:Pc:=(2,[98,98,98,98],0,0,())
abbrev aT:Pc:=(0,[97,97,97,97],0,0,())
abbrev lT1:List Pc:=[(2,[98,98,98,98],2,6,())]
end Go.Ov
