import Derived.Test.YtfaplilocljknaaGOv3
set_option linter.all false
namespace Go.Ov
open Go Go.Fw
structure SS where
  l:List Pc
  pos:Int
  first:Int
  win:Int
  pol:Int
  end_:Int
def sdiff (a b:Int):Int:=IntKind.i64.wrap (IntKind.i32.wrap (IntKind.u32.wrap (a - b)))
theorem wrap_i32 (x:Int):IntKind.i32.wrap x = (x + 2147483648) % 4294967296 - 2147483648:=by
  have e:(2:Int)^32 = 4294967296:=by decide
  have e2:(2:Int)^31 = 2147483648:=by decide
  unfold IntKind.wrap
  simp only [IntKind.signed,IntKind.bits]
  first
    | (simp only [e,e2];split <;> omega)
    | (simp [e,e2];omega)
theorem wrap_u32 (x:Int):IntKind.u32.wrap x = x % 4294967296:=by
  have e:(2:Int)^32 = 4294967296:=by decide
  unfold IntKind.wrap
  simp [IntKind.signed,IntKind.bits,e]
theorem sdiff_eq (a b:Int):sdiff a b = (a - b + 2147483648) % 4294967296 - 2147483648:=by
  unfold sdiff
  rw [wrap_u32,wrap_i32,wrapId (by omega)]
  omega
def offS (s:SS) (seq:Int):Int:=s.pos + sdiff seq (IntKind.u32.wrap (s.first + IntKind.u32.wrap s.pos))
def takeN (s:SS):SS:={ s with l:=cutL s.l (takeF s.l s.pos).2,pos:=s.pos + (takeF s.l s.pos).1.length }
def hiS (s:SS) (a n:Int):Int:=if s.end_≠-1 then min (min (a + n) (s.pos + s.win)) s.end_ else min (a + n) (s.pos + s.win)
def segP (a lo hi:Int) (d:List UInt8):Pc:=(lo,(d.take (hi - a).toNat).drop (lo - a).toNat,0,0,())
def insS (s:SS) (seq:Int) (d:List UInt8):List Pc × Int × Int:=insR s.l (segP (offS s seq) (max (offS s seq) s.pos) (hiS s (offS s seq) d.length) d) s.pol
def addS (s:SS) (seq:Int) (d:List UInt8):(List UInt8 × Int × Int) × SS:=
  if max (offS s seq) s.pos≥hiS s (offS s seq) d.length then (([],(d.length:Int),0),s)
  else if (insS s seq d).2.2≠0 then (([],(d.length:Int),0),s)
  else (((takeF (insS s seq d).1 s.pos).1,d.length - (hiS s (offS s seq) d.length - max (offS s seq) s.pos),(insS s seq d).2.1),takeN { s with l:=(insS s seq d).1 })
def keptL (l:List Pc) (a:Int):List Pc:=(l.takeWhile (fun o=>decide (pa o < a))).map fun o=>(pa o,(pd o).take (min ((pd o).length:Int) (a - pa o)).toNat,pf o,pt o,())
def endS (s:SS) (seq:Int):Bool × SS:=
  if s.end_≠-1 then (false,s) else if offS s seq < s.pos∨offS s seq > s.pos + s.win then (false,s) else (true,{ s with end_:=offS s seq,l:=keptL s.l (offS s seq) })
def lostTo (s:SS) (lim:Int):Int:=match s.l with|[]=>lim|o :: _=>min lim (pa o)
def lostStep (lim:Int) (x:SS × Int × List UInt8):SS × Int × List UInt8:=
  (takeN { x.1 with pos:=lostTo x.1 lim },x.2.1 + (lostTo x.1 lim - x.1.pos),x.2.2 ++ (takeF x.1.l (lostTo x.1 lim)).1)
def lostL:Nat→Int→SS × Int × List UInt8→SS × Int × List UInt8
  | 0,_,x=>x
  | n + 1,lim,x=>if x.1.pos < lim then lostL n lim (lostStep lim x) else x
def limS (s:SS) (seq:Int):Int:=if s.end_≠-1 then min (min (offS s seq) (s.pos + s.win)) s.end_ else min (offS s seq) (s.pos + s.win)
def lostS (s:SS) (seq:Int):(Int × List UInt8) × SS:=
  let r:=lostL (limS s seq - s.pos).toNat (limS s seq) (s,0,[])
  ((r.2.1,r.2.2),r.1)
def endedS (s:SS):Bool:=decide (s.end_ = s.pos)
def nextS (s:SS):Int:=if endedS s then IntKind.u32.wrap (IntKind.u32.wrap (s.first + IntKind.u32.wrap s.pos) + 1) else IntKind.u32.wrap (s.first + IntKind.u32.wrap s.pos)
def newS (isn win pol:Int):SS:=⟨[],0,IntKind.u32.wrap (isn + 1),min (max win 1) 8192,min (max pol 1) 4,-1⟩
structure SInv (s:SS) (B:Int):Prop where
  pos0:0≤s.pos
  posB:s.pos≤B
  win:1≤s.win∧s.win≤8192
  pol:1≤s.pol∧s.pol≤4
  v:Valid s.l
  rng:∀ c∈cells s.l,s.pos≤c.1∧c.1 < s.pos + s.win
  len:s.l.length≤64
  end_:s.end_ = -1∨(s.pos≤s.end_∧s.end_≤B + 8192∧∀ c∈cells s.l,c.1 < s.end_)
  first:0≤s.first∧s.first < 4294967296
theorem cells_within {m:List Cl} (hs:Sorted m):∀ (n:Nat) (a:Int),(∀ c∈m,a≤c.1∧c.1 < a + n)→m.length≤n:=by
  intro n a h
  have key:∀ (m:List Cl) (a:Int) (n:Nat),Sorted m→(∀ c∈m,a≤c.1∧c.1 < a + n)→m.length≤n:=by
    intro m
    induction m with
    | nil=>intro a n _ _;simp
    | cons x m ih=>
      intro a n hs h
      obtain ⟨h1,h2⟩:=List.pairwise_cons.1 hs
      have hx:=h x (by simp)
      have:=ih (x.1 + 1) (a + n - (x.1 + 1)).toNat h2 (fun c hc=>by
        have e1:=h1 c hc
        have e2:=h c (by simp [hc])
        omega)
      simp only [List.length_cons]
      omega
  exact key m a n hs h
theorem SInv.size {s:SS} {B:Int} (h:SInv s B):0≤lenSum s.l∧lenSum s.l≤s.win:=by
  refine ⟨lenSum_nonneg _,?_⟩
  rw [lenSum_cells]
  have hw:=h.win
  have:=cells_within (sorted_cells h.v) s.win.toNat s.pos (fun c hc=>by have:=h.rng c hc;omega)
  omega
end Go.Ov
namespace Go.Ov
open Go Go.Fw
theorem insR_cells {l:List Pc} {p:Pc} {pol:Int} (hv:Valid l) (hp:((pd p).length:Int)≤2147483648) (h:(insR l p pol).2.2 = 0):∀ c∈cells (insR l p pol).1,c∈cells l∨(pa p≤c.1∧c.1 < endP p):=by
  by_cases h1:pd p = []
  · have e:insR l p pol = (l,0,0):=if_pos h1
    rw [e];exact fun c hc=>.inl hc
  by_cases h2:rangeB p.1 pol = true
  · rw [insR_range (decide_eq_false h1) h2] at h;cases h
  have h2':rangeB p.1 pol = false:=by simpa using h2
  have hr:=rangeB_f h2'
  have hs:=sorted_cells hv
  have e:=insR_end hv (decide_eq_false h1) h2'
  rw [e] at h ⊢
  by_cases h3:pol = 5∧((covN l p (pd p).length:Nat):Int) > 0
  · rw [if_pos h3] at h ⊢
    by_cases h4:((covN l p (pd p).length:Nat):Int) = (pd p).length∧((conN l p (pd p).length:Nat):Int) = 0
    · rw [if_pos h4];exact fun c hc=>.inl hc
    · rw [if_neg h4] at h;cases h
  · rw [if_neg h3] at h ⊢
    split at h
    · cases h
    rename_i h5
    rw [if_neg h5]
    have hend:endP p≤4294967296:=by show p.1 + ((pd p).length:Int)≤_;omega
    have hok:=mrg_ok hv pol (by show 0≤p.1;omega) hend
    intro c hc
    have hc':c∈insM (cells l) pol p:=by
      have:cells (J (mrg (cells l) pol (newP p) (pd p).length)) = mrg (cells l) pol (newP p) (pd p).length:=cells_J _ (fun x hx=>(hok x hx).2.2.2.2)
      have hc2:c∈cells (J (mrg (cells l) pol (newP p) (pd p).length)):=hc
      rw [this] at hc2
      exact hc2
    rcases mem_insM hs hc' with ⟨q1,q2,_⟩|q
    · exact .inr ⟨q1,q2⟩
    · exact .inl q
theorem segP_len {a lo hi:Int} {d:List UInt8} (h0:a≤lo) (h1:lo≤hi) (h2:hi - a≤d.length):((pd (segP a lo hi d)).length:Int) = hi - lo:=by
  show (((d.take (hi - a).toNat).drop (lo - a).toNat).length:Int) = _
  rw [List.length_drop,List.length_take]
  omega
structure HiOk (s:SS) (a n lo hi:Int):Prop where
  alo:a≤lo
  plo:s.pos≤lo
  lohi:lo < hi
  hin:hi - a≤n
  hiw:hi≤s.pos + s.win
  hie:s.end_≠-1→hi≤s.end_
theorem hi_ok {s:SS} {a n:Int} (h:¬ max a s.pos≥hiS s a n):HiOk s a n (max a s.pos) (hiS s a n):=by
  have e:hiS s a n≤min (a + n) (s.pos + s.win)∧(s.end_≠-1→hiS s a n≤s.end_):=by
    unfold hiS
    split
    · exact ⟨by omega,fun _=>by omega⟩
    · rename_i h1;exact ⟨by omega,fun h2=>absurd h2 h1⟩
  exact ⟨by omega,by omega,by omega,by omega,by omega,e.2⟩
structure InsOk (s:SS) (seq:Int) (d:List UInt8):Prop where
  good:InsGood s.l (segP (offS s seq) (max (offS s seq) s.pos) (hiS s (offS s seq) d.length) d) s.pol (insS s seq d).1 (insS s seq d).2.1
  len:(insS s seq d).1.length≤64
  rng:∀ c∈cells (insS s seq d).1,c∈cells s.l∨(max (offS s seq) s.pos≤c.1∧c.1 < hiS s (offS s seq) d.length)
theorem ins_ok {s:SS} {B:Int} (h:SInv s B) {seq:Int} {d:List UInt8} (hlt:¬ max (offS s seq) s.pos≥hiS s (offS s seq) d.length) (he:¬ (insS s seq d).2.2≠0):InsOk s seq d:=by
  have ho:=hi_ok hlt
  have hl:=segP_len ho.alo (by have:=ho.lohi;omega) ho.hin
  have hw:=h.win
  have h1:=ho.plo
  have h2:=ho.hiw
  have he':(insS s seq d).2.2 = 0:=Classical.byContradiction he
  refine ⟨insGood h.v (by omega) he',insR_small h.len,fun c hc=>?_⟩
  rcases insR_cells h.v (by omega) he' c hc with q|⟨q1,q2⟩
  · exact .inl q
  · right
    have e:endP (segP (offS s seq) (max (offS s seq) s.pos) (hiS s (offS s seq) d.length) d) = max (offS s seq) s.pos + ((pd (segP (offS s seq) (max (offS s seq) s.pos) (hiS s (offS s seq) d.length) d)).length:Int):=rfl
    have e2:pa (segP (offS s seq) (max (offS s seq) s.pos) (hiS s (offS s seq) d.length) d) = max (offS s seq) s.pos:=rfl
    omega
structure TakeN (s:SS) (hi:Int):Prop where
  v:Valid (takeN s).l
  le:(takeN s).pos≤hi
  ge:s.pos≤(takeN s).pos
  rng:∀ c∈cells (takeN s).l,(takeN s).pos≤c.1∧c∈cells s.l
  none_:atC (cells s.l) (takeN s).pos = none
  gt:∀ c∈cells (takeN s).l,(takeN s).pos < c.1
theorem SInv.mono {s:SS} {B B':Int} (h:SInv s B) (hB:B≤B'):SInv s B':=
  ⟨h.pos0,by have:=h.posB;omega,h.win,h.pol,h.v,h.rng,h.len,h.end_.imp id (fun ⟨a,b,c⟩=>⟨a,by omega,c⟩),h.first⟩
def truncP (a:Int) (o:Pc):Pc:=(pa o,(pd o).take (min ((pd o).length:Int) (a - pa o)).toNat,pf o,pt o,())
end Go.Ov
namespace Go.Ov
open Go Go.Fw
structure LInv (s0:SS) (B:Int) (x:SS × Int × List UInt8):Prop where
  inv:SInv x.1 (B + 8192)
  top:x.1.pos≤s0.pos + s0.win∧∀ c∈cells x.1.l,c.1 < s0.pos + s0.win
  sum:x.2.1 + (x.2.2.length:Int) = x.1.pos - s0.pos∧0≤x.2.1
  end_:x.1.end_ = s0.end_
  win:x.1.win = s0.win
end Go.Ov
namespace Go.Ov
open Go Go.Fw
abbrev kT:Ty:=.cons (.int .i64) (.cons (.int .i64) (.cons .str .nil))
abbrev Ca:=Int × Int × List UInt8 × Unit
abbrev kv (x:Ca):AV:=.agg [.int .i64 x.1,.int .i64 x.2.1,.str x.2.2.1]
abbrev Rs:=List UInt8 × Int × Int × Bool
abbrev rsv (x:Rs):AV:=.agg [.str x.1,.int .i64 x.2.1,.int .i64 x.2.2.1,.bool x.2.2.2]
def seqS (isn:Int) (c:Ca):Int:=IntKind.u32.wrap (isn + IntKind.u32.wrap c.2.1)
def progS (s:SS) (isn:Int) (c:Ca):Rs × SS:=
  if c.1 = 1 then (([],0,0,(endS s (seqS isn c)).1),(endS s (seqS isn c)).2)
  else if c.1 = 2 then (((lostS s (seqS isn c)).1.2,(lostS s (seqS isn c)).1.1,0,false),(lostS s (seqS isn c)).2)
  else (((addS s (seqS isn c) c.2.2.1).1.1,(addS s (seqS isn c) c.2.2.1).1.2.1,(addS s (seqS isn c) c.2.2.1).1.2.2,false),(addS s (seqS isn c) c.2.2.1).2)
def runS (s:SS) (isn:Int) (l:List Ca):SS:=l.foldl (fun s c=>(progS s isn c).2) s
def longC (l:List Ca):Bool:=(l.take 60).any (fun c=>decide ((c.2.2.1.length:Int) > 300)) || decide ((l.length:Int) > 60)
end Go.Ov
