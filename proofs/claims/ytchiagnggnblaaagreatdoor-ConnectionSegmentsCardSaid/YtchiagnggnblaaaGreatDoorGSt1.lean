import Derived.Test.YtchiagnggnblaaaGreatDoorGOv3
set_option linter.all false
namespace Go.Ov
open Go Go.Fw
structure SS where
  l:List Pc
  pos:Int
  first:Int
  win:Int
  pol:Int
  end_:Int
def sdiff (a b:Int):Int:=IntKind.i64.wrap (IntKind.i32.wrap (IntKind.u32.wrap (a - b)))
theorem wrap_i32 (x:Int):IntKind.i32.wrap x = (x + 2147483648) % 4294967296 - 2147483648:=by
  have e:(2:Int)^32 = 4294967296:=by decide
  have e2:(2:Int)^31 = 2147483648:=by decide
  unfold IntKind.wrap
  simp only [IntKind.signed,IntKind.bits]
  first
    | (simp only [e,e2];split <;> omega)
    | (simp [e,e2];omega)
theorem wrap_u32 (x:Int):IntKind.u32.wrap x = x % 4294967296:=by
  have e:(2:Int)^32 = 4294967296:=by decide
  unfold IntKind.wrap
  simp [IntKind.signed,IntKind.bits,e]
theorem sdiff_eq (a b:Int):sdiff a b = (a - b + 2147483648) % 4294967296 - 2147483648:=by
  unfold sdiff
  rw [wrap_u32,wrap_i32,wrapId (by omega)]
  omega
theorem sdiff_rng (a b:Int):-2147483648≤sdiff a b∧sdiff a b < 2147483648:=by rw [sdiff_eq];omega
def offS (s:SS) (seq:Int):Int:=s.pos + sdiff seq (IntKind.u32.wrap (s.first + IntKind.u32.wrap s.pos))
def takeN (s:SS):SS:={ s with l:=cutL s.l (takeF s.l s.pos).2,pos:=s.pos + (takeF s.l s.pos).1.length }
def hiS (s:SS) (a n:Int):Int:=if s.end_≠-1 then min (min (a + n) (s.pos + s.win)) s.end_ else min (a + n) (s.pos + s.win)
def segP (a lo hi:Int) (d:List UInt8):Pc:=(lo,(d.take (hi - a).toNat).drop (lo - a).toNat,0,0,())
def insS (s:SS) (seq:Int) (d:List UInt8):List Pc × Int × Int:=insR s.l (segP (offS s seq) (max (offS s seq) s.pos) (hiS s (offS s seq) d.length) d) s.pol
def addS (s:SS) (seq:Int) (d:List UInt8):(List UInt8 × Int × Int) × SS:=
  if max (offS s seq) s.pos≥hiS s (offS s seq) d.length then (([],(d.length:Int),0),s)
  else if (insS s seq d).2.2≠0 then (([],(d.length:Int),0),s)
  else (((takeF (insS s seq d).1 s.pos).1,d.length - (hiS s (offS s seq) d.length - max (offS s seq) s.pos),(insS s seq d).2.1),takeN { s with l:=(insS s seq d).1 })
def keptL (l:List Pc) (a:Int):List Pc:=(l.takeWhile (fun o=>decide (pa o < a))).map fun o=>(pa o,(pd o).take (min ((pd o).length:Int) (a - pa o)).toNat,pf o,pt o,())
def endS (s:SS) (seq:Int):Bool × SS:=
  if s.end_≠-1 then (false,s) else if offS s seq < s.pos∨offS s seq > s.pos + s.win then (false,s) else (true,{ s with end_:=offS s seq,l:=keptL s.l (offS s seq) })
def lostTo (s:SS) (lim:Int):Int:=match s.l with|[]=>lim|o :: _=>min lim (pa o)
def lostStep (lim:Int) (x:SS × Int × List UInt8):SS × Int × List UInt8:=
  (takeN { x.1 with pos:=lostTo x.1 lim },x.2.1 + (lostTo x.1 lim - x.1.pos),x.2.2 ++ (takeF x.1.l (lostTo x.1 lim)).1)
def lostL:Nat→Int→SS × Int × List UInt8→SS × Int × List UInt8
  | 0,_,x=>x
  | n + 1,lim,x=>if x.1.pos < lim then lostL n lim (lostStep lim x) else x
def limS (s:SS) (seq:Int):Int:=if s.end_≠-1 then min (min (offS s seq) (s.pos + s.win)) s.end_ else min (offS s seq) (s.pos + s.win)
def lostS (s:SS) (seq:Int):(Int × List UInt8) × SS:=
  let r:=lostL (limS s seq - s.pos).toNat (limS s seq) (s,0,[])
  ((r.2.1,r.2.2),r.1)
def endedS (s:SS):Bool:=decide (s.end_ = s.pos)
def nextS (s:SS):Int:=if endedS s then IntKind.u32.wrap (IntKind.u32.wrap (s.first + IntKind.u32.wrap s.pos) + 1) else IntKind.u32.wrap (s.first + IntKind.u32.wrap s.pos)
def newS (isn win pol:Int):SS:=⟨[],0,IntKind.u32.wrap (isn + 1),min (max win 1) 8192,min (max pol 1) 4,-1⟩
structure SInv (s:SS) (B:Int):Prop where
  pos0:0≤s.pos
  posB:s.pos≤B
  win:1≤s.win∧s.win≤8192
  pol:1≤s.pol∧s.pol≤4
  v:Valid s.l
  rng:∀ c∈cells s.l,s.pos≤c.1∧c.1 < s.pos + s.win
  len:s.l.length≤64
  end_:s.end_ = -1∨(s.pos≤s.end_∧s.end_≤B + 8192∧∀ c∈cells s.l,c.1 < s.end_)
  first:0≤s.first∧s.first < 4294967296
theorem cells_within {m:List Cl} (hs:Sorted m):∀ (n:Nat) (a:Int),(∀ c∈m,a≤c.1∧c.1 < a + n)→m.length≤n:=by
  intro n a h
  have key:∀ (m:List Cl) (a:Int) (n:Nat),Sorted m→(∀ c∈m,a≤c.1∧c.1 < a + n)→m.length≤n:=by
    intro m
    induction m with
    | nil=>intro a n _ _;simp
    | cons x m ih=>
      intro a n hs h
      obtain ⟨h1,h2⟩:=List.pairwise_cons.1 hs
      have hx:=h x (by simp)
      have:=ih (x.1 + 1) (a + n - (x.1 + 1)).toNat h2 (fun c hc=>by
        have e1:=h1 c hc
        have e2:=h c (by simp [hc])
        omega)
      simp only [List.length_cons]
      omega
  exact key m a n hs h
theorem SInv.size {s:SS} {B:Int} (h:SInv s B):0≤lenSum s.l∧lenSum s.l≤s.win:=by
  refine ⟨lenSum_nonneg _,?_⟩
  rw [lenSum_cells]
  have hw:=h.win
  have:=cells_within (sorted_cells h.v) s.win.toNat s.pos (fun c hc=>by have:=h.rng c hc;omega)
  omega
end Go.Ov
namespace Go.Ov
open Go Go.Fw
theorem insR_cells {l:List Pc} {p:Pc} {pol:Int} (hv:Valid l) (hp:((pd p).length:Int)≤2147483648) (h:(insR l p pol).2.2 = 0):∀ c∈cells (insR l p pol).1,c∈cells l∨(pa p≤c.1∧c.1 < endP p):=by
  by_cases h1:pd p = []
  · have e:insR l p pol = (l,0,0):=if_pos h1
    rw [e];exact fun c hc=>.inl hc
  by_cases h2:rangeB p.1 pol = true
  · rw [insR_range (decide_eq_false h1) h2] at h;cases h
  have h2':rangeB p.1 pol = false:=by simpa using h2
  have hr:=rangeB_f h2'
  have hs:=sorted_cells hv
  have e:=insR_end hv (decide_eq_false h1) h2'
  rw [e] at h ⊢
  by_cases h3:pol = 5∧((covN l p (pd p).length:Nat):Int) > 0
  · rw [if_pos h3] at h ⊢
    by_cases h4:((covN l p (pd p).length:Nat):Int) = (pd p).length∧((conN l p (pd p).length:Nat):Int) = 0
    · rw [if_pos h4];exact fun c hc=>.inl hc
    · rw [if_neg h4] at h;cases h
  · rw [if_neg h3] at h ⊢
    split at h
    · cases h
    rename_i h5
    rw [if_neg h5]
    have hend:endP p≤4294967296:=by show p.1 + ((pd p).length:Int)≤_;omega
    have hok:=mrg_ok hv pol (by show 0≤p.1;omega) hend
    intro c hc
    have hc':c∈insM (cells l) pol p:=by
      have:cells (J (mrg (cells l) pol (newP p) (pd p).length)) = mrg (cells l) pol (newP p) (pd p).length:=cells_J _ (fun x hx=>(hok x hx).2.2.2.2)
      have hc2:c∈cells (J (mrg (cells l) pol (newP p) (pd p).length)):=hc
      rw [this] at hc2
      exact hc2
    rcases mem_insM hs hc' with ⟨q1,q2,_⟩|q
    · exact .inr ⟨q1,q2⟩
    · exact .inl q
theorem segP_len {a lo hi:Int} {d:List UInt8} (h0:a≤lo) (h1:lo≤hi) (h2:hi - a≤d.length):((pd (segP a lo hi d)).length:Int) = hi - lo:=by
  show (((d.take (hi - a).toNat).drop (lo - a).toNat).length:Int) = _
  rw [List.length_drop,List.length_take]
  omega
structure HiOk (s:SS) (a n lo hi:Int):Prop where
  alo:a≤lo
  plo:s.pos≤lo
  lohi:lo < hi
  hin:hi - a≤n
  hiw:hi≤s.pos + s.win
  hie:s.end_≠-1→hi≤s.end_
theorem hi_ok {s:SS} {a n:Int} (h:¬ max a s.pos≥hiS s a n):HiOk s a n (max a s.pos) (hiS s a n):=by
  have e:hiS s a n≤min (a + n) (s.pos + s.win)∧(s.end_≠-1→hiS s a n≤s.end_):=by
    unfold hiS
    split
    · exact ⟨by omega,fun _=>by omega⟩
    · rename_i h1;exact ⟨by omega,fun h2=>absurd h2 h1⟩
  exact ⟨by omega,by omega,by omega,by omega,by omega,e.2⟩
structure InsOk (s:SS) (seq:Int) (d:List UInt8):Prop where
  good:InsGood s.l (segP (offS s seq) (max (offS s seq) s.pos) (hiS s (offS s seq) d.length) d) s.pol (insS s seq d).1 (insS s seq d).2.1
  len:(insS s seq d).1.length≤64
  rng:∀ c∈cells (insS s seq d).1,c∈cells s.l∨(max (offS s seq) s.pos≤c.1∧c.1 < hiS s (offS s seq) d.length)
theorem ins_ok {s:SS} {B:Int} (h:SInv s B) {seq:Int} {d:List UInt8} (hlt:¬ max (offS s seq) s.pos≥hiS s (offS s seq) d.length) (he:¬ (insS s seq d).2.2≠0):InsOk s seq d:=by
  have ho:=hi_ok hlt
  have hl:=segP_len ho.alo (by have:=ho.lohi;omega) ho.hin
  have hw:=h.win
  have h1:=ho.plo
  have h2:=ho.hiw
  have he':(insS s seq d).2.2 = 0:=Classical.byContradiction he
  refine ⟨insGood h.v (by omega) he',insR_small h.len,fun c hc=>?_⟩
  rcases insR_cells h.v (by omega) he' c hc with q|⟨q1,q2⟩
  · exact .inl q
  · right
    have e:endP (segP (offS s seq) (max (offS s seq) s.pos) (hiS s (offS s seq) d.length) d) = max (offS s seq) s.pos + ((pd (segP (offS s seq) (max (offS s seq) s.pos) (hiS s (offS s seq) d.length) d)).length:Int):=rfl
    have e2:pa (segP (offS s seq) (max (offS s seq) s.pos) (hiS s (offS s seq) d.length) d) = max (offS s seq) s.pos:=rfl
    omega
theorem ins_inv {s:SS} {B:Int} (h:SInv s B) {seq:Int} {d:List UInt8} (hlt:¬ max (offS s seq) s.pos≥hiS s (offS s seq) d.length) (he:¬ (insS s seq d).2.2≠0):SInv { s with l:=(insS s seq d).1 } B:=by
  have k:=ins_ok h hlt he
  have ho:=hi_ok hlt
  refine ⟨h.pos0,h.posB,h.win,h.pol,k.good.valid,fun c hc=>?_,k.len,?_,h.first⟩
  · rcases k.rng c hc with q|q
    · exact h.rng c q
    · have h1:=ho.plo
      have h2:=ho.hiw
      show s.pos≤c.1∧c.1 < s.pos + s.win
      omega
  · rcases h.end_ with q|⟨q1,q2,q3⟩
    · exact .inl q
    · refine .inr ⟨q1,q2,fun c hc=>?_⟩
      rcases k.rng c hc with q|q
      · exact q3 c q
      · have h3:s.end_≠-1:=by have:=h.pos0;omega
        have:=ho.hie h3
        show c.1 < s.end_
        omega
structure TakeN (s:SS) (hi:Int):Prop where
  v:Valid (takeN s).l
  le:(takeN s).pos≤hi
  ge:s.pos≤(takeN s).pos
  rng:∀ c∈cells (takeN s).l,(takeN s).pos≤c.1∧c∈cells s.l
  none_:atC (cells s.l) (takeN s).pos = none
  gt:∀ c∈cells (takeN s).l,(takeN s).pos < c.1
theorem takeN_ok {s:SS} {hi:Int} (hv:Valid s.l) (hp:s.pos≤hi) (hr:∀ c∈cells s.l,c.1 < hi):TakeN s hi:=by
  have tk:=takeOk hv s.pos
  have e:(takeF s.l s.pos).2 = (takeN s).pos:=tk.end_
  have hle:(takeN s).pos≤hi:=by
    show s.pos + ((takeF s.l s.pos).1.length:Int)≤hi
    rcases Nat.eq_zero_or_pos (takeF s.l s.pos).1.length with h0|h0
    · omega
    · obtain ⟨o,ho,_⟩:=tk.some_ ((takeF s.l s.pos).1.length - 1) (by omega)
      have h1:=atC_some ho
      have:=hr o h1.1
      omega
  have hrng:∀ c∈cells (takeN s).l,(takeN s).pos≤c.1∧c∈cells s.l:=fun c hc=>by
    have hc':c∈cells (cutL s.l (takeF s.l s.pos).2):=hc
    rw [cells_cutL hv] at hc'
    obtain ⟨h1,h2⟩:=List.mem_filter.1 hc'
    simp only [decide_eq_true_eq] at h2
    exact ⟨by omega,h1⟩
  have hnone:atC (cells s.l) (takeN s).pos = none:=tk.none_
  refine ⟨valid_cutL hv _,hle,by show s.pos≤s.pos + ((takeF s.l s.pos).1.length:Int);omega,hrng,hnone,fun c hc=>?_⟩
  obtain ⟨h1,h2⟩:=hrng c hc
  have h3:=atC_mem (sorted_cells hv) h2
  rcases Int.lt_or_eq_of_le h1 with h4|h4
  · exact h4
  · rw [← h4,hnone] at h3;cases h3
theorem takeN_inv {s:SS} {B B':Int} (h:SInv s B) (hB:s.pos + s.win≤B') (hBB:B≤B'):SInv (takeN s) B':=by
  have t:=takeN_ok h.v (hi:=s.pos + s.win) (by have:=h.win;omega) (fun c hc=>(h.rng c hc).2)
  refine ⟨Int.le_trans h.pos0 t.ge,Int.le_trans t.le hB,h.win,h.pol,t.v,fun c hc=>?_,?_,?_,h.first⟩
  · obtain ⟨h1,h2⟩:=t.rng c hc
    have h3:=h.rng c h2
    have h4:=t.ge
    exact ⟨h1,by show c.1 < (takeN s).pos + s.win;omega⟩
  · have:=cutL_len s.l (takeF s.l s.pos).2
    have h2:=h.len
    show (cutL s.l (takeF s.l s.pos).2).length≤64
    omega
  · rcases h.end_ with q|⟨q1,q2,q3⟩
    · exact .inl q
    · have t2:=takeN_ok h.v (hi:=s.end_) q1 q3
      exact .inr ⟨t2.le,by show s.end_≤B' + 8192;omega,fun c hc=>q3 c (t.rng c hc).2⟩
theorem SInv.mono {s:SS} {B B':Int} (h:SInv s B) (hB:B≤B'):SInv s B':=
  ⟨h.pos0,by have:=h.posB;omega,h.win,h.pol,h.v,h.rng,h.len,h.end_.imp id (fun ⟨a,b,c⟩=>⟨a,by omega,c⟩),h.first⟩
theorem addS_inv {s:SS} {B:Int} (h:SInv s B) (seq:Int) (d:List UInt8):SInv (addS s seq d).2 (B + 8192):=by
  unfold addS
  split
  · exact h.mono (by omega)
  · split
    · exact h.mono (by omega)
    · rename_i h1 h2
      have hp:=h.posB
      have hw:=h.win
      exact takeN_inv (ins_inv h h1 h2) (by show s.pos + s.win≤B + 8192;omega) (by omega)
def truncP (a:Int) (o:Pc):Pc:=(pa o,(pd o).take (min ((pd o).length:Int) (a - pa o)).toNat,pf o,pt o,())
theorem takeWhile_at {α:Type} (p:α→Bool) (d:α):∀ (l:List α) (i:Nat),i≤l.length→(∀ j,j < i→p (l.getD j d) = true)→(i = l.length∨p (l.getD i d) = false)→l.takeWhile p = l.take i
  | [],i,h,_,_=>by simp at h;simp [h]
  | x :: l,0,_,_,he=>by
    rcases he with h|h
    · simp at h
    · have:p x = false:=h
      simp [List.takeWhile_cons,this]
  | x :: l,i + 1,h,hb,he=>by
    have hx:p x = true:=hb 0 (by omega)
    rw [List.takeWhile_cons,hx]
    simp only [if_true,List.take_succ_cons]
    rw [takeWhile_at p d l i (by simpa using h) (fun j hj=>by simpa using hb (j + 1) (by omega)) (by simpa using he)]
theorem keptL_eq {l:List Pc} {a:Int} {i:Nat} (hi:i≤l.length) (h:∀ j,j < i→pa (l.getD j (Ty.dflt pT)) < a) (he:i = l.length∨¬ pa (l.getD i (Ty.dflt pT)) < a):keptL l a = (l.take i).map (truncP a):=by
  unfold keptL
  rw [takeWhile_at _ (Ty.dflt pT) l i hi (fun j hj=>decide_eq_true (h j hj)) (he.imp id (fun h=>decide_eq_false h))]
  rfl
theorem map_next {α β:Type} (f:α→β) (d:α) {l:List α} {i:Nat} (h:i < l.length):(l.take (i + 1)).map f = (l.take i).map f ++ [f (l.getD i d)]:=by
  rw [take_getD d h,List.map_append];rfl
end Go.Ov
namespace Go.Ov
open Go Go.Fw
structure LInv (s0:SS) (B:Int) (x:SS × Int × List UInt8):Prop where
  inv:SInv x.1 (B + 8192)
  top:x.1.pos≤s0.pos + s0.win∧∀ c∈cells x.1.l,c.1 < s0.pos + s0.win
  sum:x.2.1 + (x.2.2.length:Int) = x.1.pos - s0.pos∧0≤x.2.1
  end_:x.1.end_ = s0.end_
  win:x.1.win = s0.win
theorem linv_start {s:SS} {B:Int} (h:SInv s B):LInv s B (s,0,[]):=
  ⟨h.mono (by omega),⟨by have:=h.win;show s.pos≤s.pos + s.win;omega,fun c hc=>(h.rng c hc).2⟩,⟨by simp,Int.le_refl _⟩,rfl,rfl⟩
theorem valid_first {l:List Pc} (hv:Valid l) {o:Pc} {r:List Pc} (h:l = o :: r):∀ c∈cells l,pa o≤c.1:=by
  subst h
  have hb:VB (pa o) (o :: r):=valid_VB hv (fun q hq=>by simp at hq;subst hq;exact Int.le_refl _)
  exact fun c hc=>((VB_cells hb).2 c hc).1
theorem lostTo_rng {s:SS} {B lim:Int} (h:SInv s B) (hlt:s.pos < lim):s.pos≤lostTo s lim∧lostTo s lim≤lim∧(∀ c∈cells s.l,lostTo s lim≤c.1)∧(lostTo s lim = s.pos→∃ o,atC (cells s.l) s.pos = some o):=by
  unfold lostTo
  cases hl:s.l with
  | nil=>exact ⟨by show s.pos≤lim;omega,Int.le_refl _,fun c hc=>by simp [cells] at hc,fun he=>by have he':lim = s.pos:=he;omega⟩
  | cons o r=>
    have h1:=valid_first h.v hl
    have hok:=((valid_pw.1 h.v).1 o (by rw [hl];simp)).1
    obtain ⟨b,hb⟩:=first_cell hok
    have hmem:(o.1,b,o.2.2.1,o.2.2.2.1,())∈cells s.l:=by rw [hl,cells_cons];exact List.mem_append_left _ hb
    have h2:=h.rng _ hmem
    simp only at h2
    have e:pa o = o.1:=rfl
    refine ⟨by show s.pos≤min lim (pa o);omega,by show min lim (pa o)≤lim;omega,fun c hc=>?_,fun he=>?_⟩
    · have:=h1 c (by rw [hl];exact hc)
      show min lim (pa o)≤c.1
      omega
    · have he':min lim (pa o) = s.pos:=he
      have e2:o.1 = s.pos:=by omega
      have:=atC_mem (sorted_cells h.v) hmem
      rw [show ((o.1,b,o.2.2.1,o.2.2.2.1,()):Cl).1 = s.pos from e2] at this
      rw [hl] at this
      exact ⟨_,this⟩
theorem lost_inv {s:SS} {B lim:Int} (h:SInv s B) (hlt:s.pos < lim) (hB:lim≤B) (he:s.end_≠-1→lim≤s.end_):SInv { s with pos:=lostTo s lim } B:=by
  obtain ⟨h1,h2,h3,_⟩:=lostTo_rng h hlt
  refine ⟨by have:=h.pos0;show 0≤lostTo s lim;omega,by show lostTo s lim≤B;omega,h.win,h.pol,h.v,fun c hc=>?_,h.len,?_,h.first⟩
  · have:=h3 c hc
    have h4:=h.rng c hc
    show lostTo s lim≤c.1∧c.1 < lostTo s lim + s.win
    omega
  · rcases h.end_ with q|⟨q1,q2,q3⟩
    · exact .inl q
    · have:=he (by have:=h.pos0;omega)
      exact .inr ⟨by show lostTo s lim≤s.end_;omega,q2,q3⟩
theorem lost_next {s0:SS} {B lim:Int} (hB0:s0.pos≤B) (hw0:s0.win≤8192) {x:SS × Int × List UInt8} (h:LInv s0 B x) (hlt:x.1.pos < lim) (hl:lim≤s0.pos + s0.win) (he:s0.end_≠-1→lim≤s0.end_):LInv s0 B (lostStep lim x)∧x.1.pos < (lostStep lim x).1.pos:=by
  obtain ⟨h1,h2,h3,h4⟩:=lostTo_rng h.inv hlt
  have hi:=lost_inv h.inv hlt (B:=B + 8192) (by omega) (fun hh=>by rw [h.end_] at hh ⊢;exact he hh)
  have ht:=h.top
  have t:=takeN_ok hi.v (hi:=s0.pos + s0.win) (by show lostTo x.1 lim≤_;omega) ht.2
  have hpos:(takeN { x.1 with pos:=lostTo x.1 lim }).pos = lostTo x.1 lim + ((takeF x.1.l (lostTo x.1 lim)).1.length:Int):=rfl
  have hwe:=h.win
  have hinv:SInv (takeN { x.1 with pos:=lostTo x.1 lim }) (B + 8192):=by
    have tle:(takeN { x.1 with pos:=lostTo x.1 lim }).pos≤s0.pos + s0.win:=t.le
    have tge:lostTo x.1 lim≤(takeN { x.1 with pos:=lostTo x.1 lim }).pos:=t.ge
    have hp0:=h.inv.pos0
    refine ⟨by omega,by omega,h.inv.win,h.inv.pol,t.v,fun c hc=>?_,?_,?_,h.inv.first⟩
    · obtain ⟨q1,q2⟩:=t.rng c hc
      have q3:=h.inv.rng c q2
      refine ⟨q1,?_⟩
      show c.1 < (takeN { x.1 with pos:=lostTo x.1 lim }).pos + x.1.win
      omega
    · have:=cutL_len x.1.l (takeF x.1.l (lostTo x.1 lim)).2
      have h5:=h.inv.len
      show (cutL x.1.l (takeF x.1.l (lostTo x.1 lim)).2).length≤64
      omega
    · rcases hi.end_ with q|⟨q1,q2,q3⟩
      · exact .inl q
      · have t2:=takeN_ok hi.v (hi:=x.1.end_) q1 q3
        exact .inr ⟨t2.le,q2,fun c hc=>q3 c (t.rng c hc).2⟩
  refine ⟨⟨hinv,⟨t.le,fun c hc=>ht.2 c (t.rng c hc).2⟩,⟨?_,?_⟩,h.end_,h.win⟩,?_⟩
  · have hs:=h.sum.1
    show x.2.1 + (lostTo x.1 lim - x.1.pos) + ((x.2.2 ++ (takeF x.1.l (lostTo x.1 lim)).1).length:Int) = (takeN { x.1 with pos:=lostTo x.1 lim }).pos - s0.pos
    rw [hpos,List.length_append]
    omega
  · have hs:=h.sum.2
    show 0≤x.2.1 + (lostTo x.1 lim - x.1.pos)
    omega
  · show x.1.pos < (takeN { x.1 with pos:=lostTo x.1 lim }).pos
    rw [hpos]
    by_cases hq:lostTo x.1 lim = x.1.pos
    · obtain ⟨o,ho⟩:=h4 hq
      have:=take_many h.inv.v (a:=x.1.pos) (n:=1) (fun k hk=>by
        have:k = 0:=by omega
        subst this
        have e:x.1.pos + ((0:Nat):Int) = x.1.pos:=by omega
        rw [e,ho];rfl)
      rw [hq]
      omega
    · omega
theorem lostL_fuel {s0:SS} {B lim:Int} (hB0:s0.pos≤B) (hw0:s0.win≤8192) (hl:lim≤s0.pos + s0.win) (he:s0.end_≠-1→lim≤s0.end_):∀ (n m:Nat) (x:SS × Int × List UInt8),LInv s0 B x→(lim - x.1.pos).toNat≤n→(lim - x.1.pos).toNat≤m→lostL n lim x = lostL m lim x
  | 0,0,x,_,_,_=>rfl
  | 0,m + 1,x,h,h1,h2=>by
    simp only [lostL]
    rw [if_neg (by omega)]
  | n + 1,0,x,h,h1,h2=>by
    simp only [lostL]
    rw [if_neg (by omega)]
  | n + 1,m + 1,x,h,h1,h2=>by
    simp only [lostL]
    split
    · rename_i hlt
      obtain ⟨k,hk⟩:=lost_next hB0 hw0 h hlt hl he
      exact lostL_fuel hB0 hw0 hl he n m _ k (by omega) (by omega)
    · rfl
theorem lostL_next {s0:SS} {B lim:Int} (hB0:s0.pos≤B) (hw0:s0.win≤8192) (hl:lim≤s0.pos + s0.win) (he:s0.end_≠-1→lim≤s0.end_) {x:SS × Int × List UInt8} (h:LInv s0 B x) (hlt:x.1.pos < lim) :
    lostL (lim - x.1.pos).toNat lim x = lostL (lim - (lostStep lim x).1.pos).toNat lim (lostStep lim x):=by
  obtain ⟨k,hk⟩:=lost_next hB0 hw0 h hlt hl he
  obtain ⟨n,hn⟩:∃ n,(lim - x.1.pos).toNat = n + 1:=⟨(lim - x.1.pos).toNat - 1,by omega⟩
  rw [hn]
  simp only [lostL]
  rw [if_pos hlt]
  exact lostL_fuel hB0 hw0 hl he n _ _ k (by omega) (Nat.le_refl _)
theorem lostL_end {lim:Int} {x:SS × Int × List UInt8} (h:¬ x.1.pos < lim):lostL (lim - x.1.pos).toNat lim x = x:=by
  have:(lim - x.1.pos).toNat = 0:=by omega
  rw [this];rfl
theorem lostTo_nil {s:SS} {lim:Int} (h:¬ (s.l.length:Int) > 0):lostTo s lim = lim:=by
  unfold lostTo
  cases hl:s.l with
  | nil=>rfl
  | cons o r=>rw [hl] at h;simp at h
theorem lostTo_ne {s:SS} {lim:Int} (h:(s.l.length:Int) > 0):lostTo s lim = min lim (s.l.getD (Int.toNat 0) (Ty.dflt pT)).1:=by
  unfold lostTo
  cases hl:s.l with
  | nil=>rw [hl] at h;simp at h
  | cons o r=>rfl
theorem limS_ok (s:SS) (seq:Int):limS s seq≤s.pos + s.win∧(s.end_≠-1→limS s seq≤s.end_):=by
  unfold limS
  split
  · exact ⟨by omega,fun _=>by omega⟩
  · rename_i h1;exact ⟨by omega,fun h2=>absurd h2 h1⟩
theorem lostS_inv {s:SS} {B:Int} (h:SInv s B) (seq:Int):LInv s B ((lostS s seq).2,(lostS s seq).1.1,(lostS s seq).1.2):=by
  have hl:=limS_ok s seq
  have hw:=h.win
  have key:∀ (n:Nat) (x:SS × Int × List UInt8),LInv s B x→LInv s B (lostL n (limS s seq) x):=by
    intro n
    induction n with
    | zero=>intro x hx;exact hx
    | succ n ih=>
      intro x hx
      simp only [lostL]
      split
      · rename_i hlt
        exact ih _ (lost_next h.posB hw.2 hx hlt hl.1 hl.2).1
      · exact hx
  exact key _ _ (linv_start h)
end Go.Ov
namespace Go.Ov
open Go Go.Fw
theorem takeWhile_true {α:Type} {p:α→Bool}:∀ {l:List α} {x:α},x∈l.takeWhile p→p x = true
  | [],x,h=>by simp at h
  | y :: l,x,h=>by
    rw [List.takeWhile_cons] at h
    split at h
    · rename_i hy
      rcases List.mem_cons.1 h with rfl|h
      · exact hy
      · exact takeWhile_true h
    · simp at h
theorem truncP_cells {a:Int} {o:Pc} {c:Cl} (h:c∈cellsOf (truncP a o)):c∈cellsOf o∧(pa o < a→c.1 < a):=by
  obtain ⟨h1,h2,_⟩:=mem_cellsOf h
  have e:(pd o).take (min ((pd o).length:Int) (a - pa o)).toNat ++ (pd o).drop (min ((pd o).length:Int) (a - pa o)).toNat = pd o:=List.take_append_drop ..
  constructor
  · have e2:cellsOf o = cellsOf (truncP a o) ++ mkC o.2.2.1 o.2.2.2.1 (o.1 + ((bytesOf ((pd o).take (min ((pd o).length:Int) (a - pa o)).toNat)).length:Int)) (bytesOf ((pd o).drop (min ((pd o).length:Int) (a - pa o)).toNat)):=by
      show mkC _ _ _ (bytesOf (pd o)) = mkC _ _ _ (bytesOf _) ++ _
      rw [show mkC o.2.2.1 o.2.2.2.1 o.1 (bytesOf (pd o)) = mkC o.2.2.1 o.2.2.2.1 o.1 (bytesOf ((pd o).take (min ((pd o).length:Int) (a - pa o)).toNat ++ (pd o).drop (min ((pd o).length:Int) (a - pa o)).toNat)) by rw [e]]
      rw [show bytesOf ((pd o).take (min ((pd o).length:Int) (a - pa o)).toNat ++ (pd o).drop (min ((pd o).length:Int) (a - pa o)).toNat) = bytesOf ((pd o).take (min ((pd o).length:Int) (a - pa o)).toNat) ++ bytesOf ((pd o).drop (min ((pd o).length:Int) (a - pa o)).toNat) by simp [intsOf],mkC_append]
      rfl
    rw [e2]
    exact List.mem_append_left _ h
  · intro hlt
    have e3:(truncP a o).2.1.length = min (min ((pd o).length:Int) (a - pa o)).toNat (pd o).length:=List.length_take ..
    have e4:(truncP a o).1 = pa o:=rfl
    omega
theorem mem_keptL {l:List Pc} {a:Int} {q:Pc} (h:q∈keptL l a):∃ o∈l,pa o < a∧q = truncP a o:=by
  obtain ⟨o,ho,rfl⟩:=List.mem_map.1 h
  exact ⟨o,(List.takeWhile_sublist _).subset ho,of_decide_eq_true (takeWhile_true (p:=fun o=>decide (pa o < a)) ho),rfl⟩
theorem okP_trunc {a:Int} {o:Pc} (h:OkP o) (hl:pa o < a):OkP (truncP a o)∧endP (truncP a o)≤endP o:=by
  obtain ⟨a1,a2,a3,a4,a5,a6⟩:=h
  have e3:(pd (truncP a o)).length = min (min ((pd o).length:Int) (a - pa o)).toNat (pd o).length:=List.length_take ..
  have e5:0 < (pd o).length:=List.length_pos_iff.2 a1
  refine ⟨⟨fun hn=>?_,a2,a3,a4,a5,?_⟩,?_⟩
  · rw [hn] at e3
    simp only [List.length_nil] at e3
    omega
  · show ((pd (truncP a o)).length:Int)≤pt o - pa o
    omega
  · show pa o + ((pd (truncP a o)).length:Int)≤pa o + ((pd o).length:Int)
    omega
theorem valid_keptL {l:List Pc} (hv:Valid l) (a:Int):Valid (keptL l a):=by
  obtain ⟨h1,h2⟩:=valid_pw.1 hv
  refine valid_pw.2 ⟨fun q hq=>?_,?_⟩
  · obtain ⟨o,ho,hl,rfl⟩:=mem_keptL hq
    exact (okP_trunc (h1 o ho) hl).1
  · show ((l.takeWhile _).map (truncP a)).Pairwise _
    rw [List.pairwise_map]
    refine (h2.sublist (List.takeWhile_sublist _)).imp_of_mem (fun {x y} hx hy h=>?_)
    have k1:=okP_trunc (h1 x ((List.takeWhile_sublist _).subset hx)) (of_decide_eq_true (takeWhile_true (p:=fun o=>decide (pa o < a)) hx))
    exact Int.le_trans k1.2 h
theorem keptL_cells {l:List Pc} {a:Int} {c:Cl} (h:c∈cells (keptL l a)):c∈cells l∧c.1 < a:=by
  simp only [cells,List.mem_flatMap] at h ⊢
  obtain ⟨q,hq,hc⟩:=h
  obtain ⟨o,ho,hl,rfl⟩:=mem_keptL hq
  have k:=truncP_cells hc
  exact ⟨⟨o,ho,k.1⟩,k.2 hl⟩
theorem keptL_len (l:List Pc) (a:Int):(keptL l a).length≤l.length:=by
  show ((l.takeWhile _).map _).length≤_
  rw [List.length_map]
  exact (List.takeWhile_sublist _).length_le
theorem endS_inv {s:SS} {B:Int} (h:SInv s B) (seq:Int):SInv (endS s seq).2 B:=by
  unfold endS
  split
  · exact h
  · split
    · exact h
    · rename_i h1 h2
      have hp:=h.posB
      have hw:=h.win
      refine ⟨h.pos0,h.posB,h.win,h.pol,valid_keptL h.v _,fun c hc=>h.rng c (keptL_cells hc).1,Nat.le_trans (keptL_len _ _) h.len,.inr ⟨?_,?_,fun c hc=>(keptL_cells hc).2⟩,h.first⟩
      · show s.pos≤offS s seq;omega
      · show offS s seq≤B + 8192;omega
theorem newS_inv (isn win pol:Int):SInv (newS isn win pol) 0:=by
  refine ⟨Int.le_refl _,Int.le_refl _,?_,?_,fun j hj=>by exact absurd hj (Nat.not_lt_zero _),fun c hc=>by simp [newS,cells] at hc,Nat.zero_le _,.inl rfl,?_⟩
  · show 1≤min (max win 1) 8192∧min (max win 1) 8192≤8192;omega
  · show 1≤min (max pol 1) 4∧min (max pol 1) 4≤4;omega
  · show 0≤IntKind.u32.wrap (isn + 1)∧IntKind.u32.wrap (isn + 1) < 4294967296
    rw [wrap_u32];omega
abbrev kT:Ty:=.cons (.int .i64) (.cons (.int .i64) (.cons .str .nil))
abbrev Ca:=Int × Int × List UInt8 × Unit
abbrev kv (x:Ca):AV:=.agg [.int .i64 x.1,.int .i64 x.2.1,.str x.2.2.1]
abbrev Rs:=List UInt8 × Int × Int × Bool
abbrev rsv (x:Rs):AV:=.agg [.str x.1,.int .i64 x.2.1,.int .i64 x.2.2.1,.bool x.2.2.2]
def seqS (isn:Int) (c:Ca):Int:=IntKind.u32.wrap (isn + IntKind.u32.wrap c.2.1)
def progS (s:SS) (isn:Int) (c:Ca):Rs × SS:=
  if c.1 = 1 then (([],0,0,(endS s (seqS isn c)).1),(endS s (seqS isn c)).2)
  else if c.1 = 2 then (((lostS s (seqS isn c)).1.2,(lostS s (seqS isn c)).1.1,0,false),(lostS s (seqS isn c)).2)
  else (((addS s (seqS isn c) c.2.2.1).1.1,(addS s (seqS isn c) c.2.2.1).1.2.1,(addS s (seqS isn c) c.2.2.1).1.2.2,false),(addS s (seqS isn c) c.2.2.1).2)
def runS (s:SS) (isn:Int) (l:List Ca):SS:=l.foldl (fun s c=>(progS s isn c).2) s
def longC (l:List Ca):Bool:=(l.take 60).any (fun c=>decide ((c.2.2.1.length:Int) > 300)) || decide ((l.length:Int) > 60)
theorem getD_take {α:Type} {l:List α} {n i:Nat} {d:α} (h:i < n):(l.take n).getD i d = l.getD i d:=by
  rw [List.getD_eq_getElem?_getD,List.getD_eq_getElem?_getD,List.getElem?_take,if_pos h]
end Go.Ov
