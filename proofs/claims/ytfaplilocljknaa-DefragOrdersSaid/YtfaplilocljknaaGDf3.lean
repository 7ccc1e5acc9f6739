import Derived.Test.YtfaplilocljknaaGDf2
set_option linter.all false
namespace Go.Df
open Go Go.Fw Go.Ov
abbrev aS:A:=(false,0,1,())
abbrev aD:A:=(false,0,2,())
abbrev kO:Ky:=(aS,aD,17,9,())
abbrev nO (D:List UInt8):Nat:=(D.length + 7) / 8
abbrev endO (D:List UInt8) (a:Nat):Nat:=min (8 * a + 8) D.length
abbrev oF (D:List UInt8) (a:Nat):Fg:=(aS,aD,17,9,5,8 * (a:Int),decide (a < nO D - 1),(D.take (endO D a)).drop (8 * a),())
structure SI (D:List UInt8) (m:List Bool) (d:En):Prop where
  g:Gr (ePcs d) D.length
  gone:eGone d = false
  beg:eBeg d = 0
  ttl:eTtl d = 5
  fin:eEnd d = if m.getD (nO D - 1) false then (D.length:Int) else -1
  cov:∀ k:Nat,k < D.length→(atC (cells (ePcs d)) (k:Int)).map (·.2.1) = if m.getD (k / 8) false then some (((D.getD k 0).toNat:Nat):Int) else none
structure Sz (D:List UInt8):Prop where
  lo:9≤D.length
  hi:D.length≤160
theorem chunk_len {D:List UInt8} (hD:Sz D) {a:Nat} (ha:a < nO D):(fData (oF D a)).length = endO D a - 8 * a∧8 * a < endO D a∧endO D a≤D.length:=by
  have:=hD.lo
  have:=hD.hi
  have h1:(fData (oF D a)).length = min (endO D a) D.length - 8 * a:=by
    show ((D.take (endO D a)).drop (8 * a)).length = _
    rw [List.length_drop,List.length_take]
  unfold nO at ha
  unfold endO at *
  omega
theorem chunk_end {D:List UInt8} (hD:Sz D) {a:Nat} (ha:a < nO D):endP (pcF (oF D a)) = endO D a:=by
  have h:=chunk_len hD ha
  show 8 * (a:Int) + ((fData (oF D a)).length:Int) = _
  omega
theorem chunk_grid {D:List UInt8} (hD:Sz D) {a:Nat} (ha:a < nO D):OnGrid (pcF (oF D a)) D.length:=by
  have h:=chunk_len hD ha
  refine ⟨by show 0≤8 * (a:Int);omega,by show decide (8 * (a:Int) % 8 = 0) = true;simp,?_,by rw [chunk_end hD ha];omega,?_⟩
  · rw [chunk_end hD ha]
    unfold m8
    rw [decide_eq_true_eq]
    unfold endO
    by_cases q:8 * a + 8≤D.length
    · left;omega
    · right;omega
  · intro q
    have q:fData (oF D a) = []:=q
    rw [q] at h
    simp at h
    omega
theorem chunk_in {D:List UInt8} (hD:Sz D) {a k:Nat} (ha:a < nO D) (hk:k < D.length):(pa (pcF (oF D a))≤(k:Int)∧(k:Int) < endP (pcF (oF D a))) ↔ k / 8 = a:=by
  rw [chunk_end hD ha]
  show (8 * (a:Int)≤(k:Int)∧(k:Int) < (endO D a:Int)) ↔ _
  unfold endO
  omega
theorem chunk_bt {D:List UInt8} (hD:Sz D) {a:Nat} (ha:a < nO D) {k:Nat} (h:k / 8 = a) (hk:k < D.length):bt (pd (pcF (oF D a))) ((k:Int) - pa (pcF (oF D a))) = (((D.getD k 0).toNat:Nat):Int):=by
  have e1:=bt_extract D (8 * a) (endO D a) ((k:Int) - 8 * (a:Int)) (by omega) (by unfold endO;omega)
  show bt ((D.take (endO D a)).drop (8 * a)) ((k:Int) - 8 * (a:Int)) = _
  rw [e1]
  unfold bt
  have:((k:Int) - 8 * (a:Int) + ((8 * a:Nat):Int)).toNat = k:=by omega
  rw [this]
theorem met_set {m:List Bool} {a k:Nat} (h:a < m.length):(m.set a true).getD k false = if k = a then true else m.getD k false:=getD_set false m a k true h
theorem ins_si {D:List UInt8} (hD:Sz D) {m:List Bool} {d:En} (h:SI D m d) {a:Nat} (ha:a < nO D) (hm:a < m.length) {pol:Int} (h1:1≤pol) (h4:pol≤4) :
    (insR (ePcs d) (pcF (oF D a)) pol).2.1 = 0∧(insR (ePcs d) (pcF (oF D a)) pol).2.2 = 0∧SI D (m.set a true) (entD d (oF D a) pol):=by
  have hlen:=chunk_len hD ha
  have hend:=chunk_end hD ha
  have hs:=sorted_cells h.g.v
  have hHi:=hD.hi
  have hLo:=hD.lo
  rcases insR_grid h.g (by omega) (chunk_grid hD ha) h1 (by omega:pol≤5) with ⟨q,_⟩|⟨q,_⟩|⟨e,hc,hg⟩
  · omega
  · omega
  have hold:∀ k:Nat,k < D.length→∀ o,atC (cells (ePcs d)) (k:Int) = some o→o.2.1 = (((D.getD k 0).toNat:Nat):Int):=fun k hk o ho=>by
    have:=h.cov k hk
    rw [ho] at this
    simp only [Option.map_some] at this
    split at this
    · simpa using this
    · cases this
  have hcon:conN (ePcs d) (pcF (oF D a)) (pd (pcF (oF D a))).length = 0:=by
    unfold conN
    refine cnt_false (fun x hx1 hx2=>?_)
    have hx1:8 * (a:Int)≤x:=hx1
    have hx2:x < endP (pcF (oF D a)):=hx2
    rw [hend] at hx2
    obtain ⟨k,rfl⟩:∃ k:Nat,x = (k:Int):=⟨x.toNat,by omega⟩
    have hk:k < D.length:=by omega
    have hka:k / 8 = a:=by unfold endO at hx2;omega
    have hbt:=chunk_bt hD ha hka hk
    unfold cfB
    cases ho:atC (cells (ePcs d)) (k:Int) with
    | none=>rfl
    | some o=>
      have:=hold k hk o ho
      have hbt2:bt (newP (pcF (oF D a))).2.1 ((k:Int) - (newP (pcF (oF D a))).1) = (((D.getD k 0).toNat:Nat):Int):=hbt
      simp only [this,hbt2]
      simp
  refine ⟨by rw [e];show ((conN _ _ _:Nat):Int) = 0;rw [hcon];rfl,by rw [e],?_⟩
  have ep:ePcs (entD d (oF D a) pol) = J (insM (cells (ePcs d)) pol (pcF (oF D a))):=by
    show (insR (ePcs d) (pcF (oF D a)) pol).1 = _
    rw [e]
  refine ⟨by rw [ep];exact hg,rfl,h.beg,?_,?_,?_⟩
  · show min (eTtl d) 5 = 5
    rw [h.ttl];rfl
  · show (if fMore (oF D a) then eEnd d else fOff (oF D a) + (fData (oF D a)).length) = _
    rw [met_set hm]
    by_cases q:a < nO D - 1
    · rw [if_pos (by show decide (a < nO D - 1) = true;exact decide_eq_true q),if_neg (show ¬ nO D - 1 = a by omega)]
      exact h.fin
    · rw [if_neg (by show ¬ decide (a < nO D - 1) = true;simpa using q),if_pos (by omega:nO D - 1 = a)]
      show 8 * (a:Int) + ((fData (oF D a)).length:Int) = if true = true then _ else _
      rw [if_pos rfl]
      unfold nO at q ha
      unfold endO at hlen
      omega
  · intro k hk
    rw [ep,hc,met_set hm]
    rw [atC_insM hs]
    have hin:=chunk_in hD ha hk
    by_cases q:k / 8 = a
    · rw [if_pos (hin.2 q),if_pos q]
      have hbt:=chunk_bt hD ha q hk
      have hn:(newC (newP (pcF (oF D a))) (k:Int)).2.1 = (((D.getD k 0).toNat:Nat):Int):=hbt
      rw [if_pos rfl]
      show some (pick (cells (ePcs d)) pol (newP (pcF (oF D a))) (k:Int)).2.1 = _
      congr 1
      unfold pick
      cases ho:atC (cells (ePcs d)) (k:Int) with
      | none=>exact hn
      | some o=>
        have:=hold k hk o ho
        simp only
        split
        · exact hn
        · exact this
    · rw [if_neg (fun z=>q (hin.1 z)),if_neg q]
      exact h.cov k hk
end Go.Df
namespace Go.Df
open Go Go.Fw Go.Ov
def AllO (D:List UInt8) (m:List Bool):Prop:=∀ k,k < nO D→m.getD k false = true
theorem si_last {D:List UInt8} (hD:Sz D) {m:List Bool} {d:En} (h:SI D m d):lastE (ePcs d)≤D.length:=by
  unfold lastE
  split
  · have:=hD.lo;omega
  · rename_i hne
    have hl:(ePcs d).length - 1 < (ePcs d).length:=by
      have:(ePcs d).length≠0:=fun q=>hne (List.length_eq_zero_iff.1 q)
      omega
    have hm:(ePcs d).getD ((ePcs d).length - 1) (Ty.dflt pT)∈ePcs d:=getD_mem hl
    generalize (ePcs d).getD ((ePcs d).length - 1) (Ty.dflt pT) = q at hm
    have hq:=((valid_pw.1 h.g.v).1 q hm).1
    obtain ⟨b,hb⟩:=last_cell hq
    have hc:(q.1 + (q.2.1.length:Int) - 1,b,q.2.2.1,q.2.2.2.1,())∈cells (ePcs d):=List.mem_flatMap.2 ⟨q,hm,hb⟩
    have:=h.g.rng _ hc
    show q.1 + (q.2.1.length:Int)≤_
    have this:q.1 + (q.2.1.length:Int) - 1 < (D.length:Int):=this
    omega
theorem si_fits {D:List UInt8} (hD:Sz D) {m:List Bool} {d:En} (h:SI D m d) {a:Nat} (ha:a < nO D):fitsB d (oF D a) = true:=by
  have hlen:=chunk_len hD ha
  have hoff:fOff (oF D a) + ((fData (oF D a)).length:Int) = (endO D a:Int):=chunk_end hD ha
  have hfull:¬ a < nO D - 1→endO D a = D.length:=fun q=>by unfold nO at q ha;unfold endO;omega
  unfold fitsB
  rw [hoff]
  rw [if_neg]
  · by_cases q:a < nO D - 1
    · have:fMore (oF D a) = true:=decide_eq_true q
      rw [this];rfl
    · have:=si_last hD h
      rw [decide_eq_true (by rw [hfull q];exact this),Bool.or_true]
  · rintro ⟨q1,q2⟩
    have he:eEnd d = D.length:=by
      have:=h.fin
      split at this <;> omega
    rw [he] at q2
    rcases q2 with q2|⟨q2,q3⟩
    · omega
    · have q2:decide (a < nO D - 1) = false:=q2
      have:=hfull (of_decide_eq_false q2)
      omega
theorem si_take {D:List UInt8} (hD:Sz D) {m:List Bool} {d:En} (h:SI D m d):(AllO D m→eEnd d = D.length∧(takeF (ePcs d) 0).1 = D)∧((eEnd d≥0∧((takeF (ePcs d) 0).1.length:Int) = eEnd d)→AllO D m):=by
  have hlo:=hD.lo
  have ht:=takeOk h.g.v 0
  have hcell:∀ k:Nat,k < D.length→(∃ o,atC (cells (ePcs d)) (0 + (k:Int)) = some o)→m.getD (k / 8) false = true:=fun k hk ⟨o,ho⟩=>by
    have:=h.cov k hk
    rw [Int.zero_add] at ho
    rw [ho] at this
    cases hmk:m.getD (k / 8) false with
    | true=>rfl
    | false=>rw [hmk] at this;cases this
  have hle:(takeF (ePcs d) 0).1.length≤D.length:=by
    refine Nat.le_of_not_lt (fun q=>?_)
    obtain ⟨o,ho,_⟩:=ht.some_ D.length q
    have h1:=atC_some ho
    have h2:=h.g.rng o h1.1
    omega
  constructor
  · intro hall
    have hn:nO D - 1 < nO D:=by unfold nO;omega
    refine ⟨by have:=h.fin;rw [hall _ hn] at this;simpa using this,?_⟩
    have hp:=take_prefix h.g.v (a:=0) (s:=D) (fun k hk=>by
      have hc:=h.cov k hk
      rw [hall (k / 8) (by unfold nO;omega)] at hc
      simp only [if_true] at hc
      obtain ⟨o,ho,hb⟩:=Option.map_eq_some_iff.1 hc
      exact ⟨o,by rw [Int.zero_add];exact ho,hb⟩)
    have hL:(takeF (ePcs d) 0).1.length = D.length:=by omega
    have:=hp.2
    rw [← hL,List.take_length] at this
    exact this
  · rintro ⟨q1,q2⟩ k hk
    have he:eEnd d = D.length:=by
      have:=h.fin
      split at this <;> omega
    have hL:(takeF (ePcs d) 0).1.length = D.length:=by omega
    have hkD:8 * k < D.length:=by unfold nO at hk;omega
    obtain ⟨o,ho,_⟩:=ht.some_ (8 * k) (by omega)
    have:=hcell (8 * k) hkD ⟨o,ho⟩
    rwa [Nat.mul_div_cancel_left k (by omega:0 < 8)] at this
structure OI (D:List UInt8) (m:List Bool) (tb:Tb) (i:Nat):Prop where
  tmo:tb.timeout = 100
  conf:tb.conf = 0
  tim:tb.time≤i
  ent:(tb.l = []∧i = 0∧∀ k,m.getD k false = false)∨∃ e,tb.l = [(kO,e)]∧SI D m e
structure OStep (D:List UInt8) (m':List Bool) (r:Df.Rs × Tb) (i:Nat):Prop where
  all:AllO D m'→r.1 = okR aS aD 17 5 D∧r.2.l = []∧r.2.conf = 0
  some:¬ AllO D m'→r.1 = failR 0∧OI D m' r.2 (i + 1)
theorem core_o {D:List UInt8} (hD:Sz D) {m:List Bool} {d:En} (h:SI D m d) {a:Nat} (ha:a < nO D) (hm:a < m.length) {pol:Int} (h1:1≤pol) (h4:pol≤4) {tb:Tb} {i:Nat} (ht:tb.timeout = 100) (hc:tb.conf = 0) (hi:tb.time≤i) (known:Bool)
    (hl:if known then ∃ e,tb.l = [(kO,e)] else tb.l = []):OStep D (m.set a true) (coreT tb (oF D a) pol d known) i:=by
  obtain ⟨e1,e2,hs⟩:=ins_si hD h ha hm h1 h4
  have htk:=si_take hD hs
  have hset:(if known = true then setT tb.l (keyF (oF D a)) (entD d (oF D a) pol) else tb.l ++ [(keyF (oF D a),entD d (oF D a) pol)]) = [(kO,entD d (oF D a) pol)]:=by
    cases known with
    | true=>
      obtain ⟨e,he⟩:=hl
      rw [if_pos rfl,he]
      show [if kO = kO then (kO,entD d (oF D a) pol) else (kO,e)] = _
      rw [if_pos rfl]
    | false=>
      have hl:tb.l = []:=hl
      rw [if_neg (by decide),hl]
      rfl
  have her:eraseT tb.l (keyF (oF D a)) = []:=by
    cases known with
    | true=>
      obtain ⟨e,he⟩:=hl
      rw [he]
      show [(kO,e)].filter (fun x=>decide (x.1≠kO)) = []
      simp
    | false=>
      have hl:tb.l = []:=hl
      rw [hl];rfl
  have hlim:limitT [(kO,entD d (oF D a) pol)] = [(kO,entD d (oF D a) pol)]:=by
    unfold limitT
    have:openN [(kO,entD d (oF D a) pol)] = 1:=rfl
    rw [if_pos (by rw [this];decide)]
  have hcore:coreT tb (oF D a) pol d known = if eEnd (entD d (oF D a) pol)≥0∧((takeF (ePcs (entD d (oF D a) pol)) 0).1.length:Int) = eEnd (entD d (oF D a) pol) then
      (okR aS aD 17 5 (takeF (ePcs (entD d (oF D a) pol)) 0).1,{ tb with conf:=0,ord:=if known then tb.ord else tb.ord + 1,l:=[] })
    else (failR 0,{ tb with conf:=0,ord:=if known then tb.ord else tb.ord + 1,l:=[(kO,entD d (oF D a) pol)] }):=by
    unfold coreT
    rw [if_neg (by rw [h.gone];decide),if_neg (by rw [si_fits hD h ha];decide),if_neg (by rw [e2];decide),hset,her,hlim,e1,hc,show eTtl (entD d (oF D a) pol) = 5 from hs.ttl]
    rfl
  rw [hcore]
  constructor
  · intro hall
    obtain ⟨q1,q2⟩:=htk.1 hall
    rw [if_pos ⟨by rw [q1];omega,by rw [q1,q2]⟩,q2]
    exact ⟨rfl,rfl,rfl⟩
  · intro hn
    rw [if_neg (fun q=>hn (htk.2 q))]
    exact ⟨rfl,ht,rfl,by show tb.time≤((i + 1:Nat):Int);omega,.inr ⟨_,rfl,hs⟩⟩
theorem fresh_si {D:List UInt8} {m:List Bool} (hm:∀ k,m.getD k false = false) {tb:Tb} (ht:tb.time = 0) (a:Nat):SI D m (newD tb (oF D a)):=by
  refine ⟨gr_nil _,rfl,ht,rfl,by rw [hm];rfl,fun k hk=>?_⟩
  rw [hm];rfl
theorem orders_step {D:List UInt8} (hD:Sz D) {m:List Bool} {tb:Tb} {i:Nat} (h:OI D m tb i) (hi:i≤90) {a:Nat} (ha:a < nO D) (hm:a < m.length) {pol:Int} (h1:1≤pol) (h4:pol≤4) :
    OStep D (m.set a true) (addT tb i (oF D a) pol) i:=by
  have hlo:=hD.lo
  have hhi:=hD.hi
  have hlen:=chunk_len hD ha
  have hoff:fOff (oF D a) + ((fData (oF D a)).length:Int) = (endO D a:Int):=chunk_end hD ha
  have hnn:2≤nO D:=by unfold nO;omega
  have ha20:nO D≤20:=by unfold nO;omega
  have hfo:fOff (oF D a) = 8 * (a:Int):=rfl
  have hck:chkE (oF D a) pol = 0:=by
    unfold chkE
    rw [if_neg (by rw [hoff,hfo];omega),if_neg]
    rintro (q|q|⟨q,q2⟩)
    · rw [q] at hlen;simp at hlen;omega
    · exact q (by rw [hfo,Int.mul_comm];exact Int.mul_tmod_left _ _)
    · have q:decide (a < nO D - 1) = true:=q
      have q:=of_decide_eq_true q
      refine q2 ?_
      have:(fData (oF D a)).length = 8:=by unfold endO at hlen;unfold nO at q;omega
      rw [this];rfl
  have htim:=h.tim
  unfold addT
  rw [if_neg (by omega),if_neg (fun q=>by
    have q1:=q.1
    have q2:decide (a < nO D - 1) = false:=q.2
    have q2:=of_decide_eq_false q2
    rw [hfo] at q1
    omega),if_neg (fun q=>q hck)]
  rcases h.ent with ⟨hl,hi0,hm0⟩|⟨e,hl,hs⟩
  · have hml:(moveT tb i).l = []:=by show tb.l.filter _ = [];rw [hl];rfl
    have hf:findT (moveT tb i).l (keyF (oF D a)) = none:=by rw [hml];rfl
    rw [hf]
    exact core_o hD (fresh_si hm0 (by show (i:Int) = 0;omega) a) ha hm h1 h4 (tb:=moveT tb i) h.tmo h.conf (Int.le_refl _) false hml
  · have hml:(moveT tb i).l = [(kO,e)]:=by
      show tb.l.filter (fun x=>!expB tb i x.2) = _
      rw [hl]
      have:expB tb i e = false:=by
        unfold expB
        rw [h.tmo,hs.beg,decide_eq_false_iff_not]
        omega
      simp [this]
    have hf:findT (moveT tb i).l (keyF (oF D a)) = some e:=by
      rw [hml]
      show (([(kO,e)].find? fun x=>decide (x.1 = kO)).map (·.2)) = some e
      simp
    rw [hf]
    exact core_o hD hs ha hm h1 h4 (tb:=moveT tb i) h.tmo h.conf (Int.le_refl _) true ⟨e,hml⟩
end Go.Df
namespace Go.Df
open Go Go.Fw Go.Ov
def atO (D:List UInt8) (o:List Int) (i:Nat):Nat:=if i < o.length then (o.getD i 0).toNat % nO D else i - o.length
def oMt (D:List UInt8) (o:List Int):Nat→List Bool
  | 0=>List.replicate 32 false
  | i + 1=>(oMt D o i).set (atO D o i) true
def oTb (D:List UInt8) (o:List Int) (pol:Int):Nat→Tb
  | 0=>⟨min (max 100 1) 1099511627776,0,0,0,[]⟩
  | i + 1=>(addT (oTb D o pol i) i (oF D (atO D o i)) pol).2
def leftO (D:List UInt8) (m:List Bool):Nat:=(List.range (nO D)).countP fun k=>!(m.getD k false)
theorem left_zero {D:List UInt8} {m:List Bool}:leftO D m = 0 ↔ AllO D m:=by
  unfold leftO AllO
  rw [List.countP_eq_zero]
  constructor
  · intro h k hk
    have:=h k (List.mem_range.2 hk)
    simpa using this
  · intro h k hk
    have:=h k (List.mem_range.1 hk)
    simp only [this]
    decide
theorem left_le (D:List UInt8) (m:List Bool):leftO D m≤nO D:=by
  have:=List.countP_le_length (p:=fun k=>!(m.getD k false)) (l:=List.range (nO D))
  rw [List.length_range] at this
  exact this
theorem count_set {m:List Bool} {a:Nat} (ha:a < m.length):∀ n:Nat,(List.range n).countP (fun k=>!((m.set a true).getD k false)) + (if a < n∧m.getD a false = false then 1 else 0) = (List.range n).countP (fun k=>!(m.getD k false))
  | 0=>by simp
  | n + 1=>by
    have ih:=count_set ha n
    rw [List.range_succ,List.countP_append,List.countP_append,List.countP_singleton,List.countP_singleton,met_set ha]
    by_cases e:n = a
    · subst e
      have h0:(if n < n∧m.getD n false = false then 1 else 0) = 0:=if_neg (fun q=>absurd q.1 (Nat.lt_irrefl n))
      rw [h0] at ih
      rw [if_pos rfl]
      cases hm:m.getD n false with
      | true=>simp only [Bool.not_true,Bool.false_eq_true,if_false,Nat.add_zero,Bool.true_eq_false,and_false] at ih ⊢;omega
      | false=>
        have h3:(if n < n + 1∧false = false then 1 else 0) = 1:=if_pos ⟨Nat.lt_succ_self n,rfl⟩
        rw [h3]
        simp only [Bool.not_true,Bool.not_false,Bool.false_eq_true,if_false,if_true,Nat.add_zero] at ih ⊢;omega
    · have h2:(if a < n + 1∧m.getD a false = false then 1 else 0) = (if a < n∧m.getD a false = false then 1 else 0):=by
        by_cases h1:a < n∧m.getD a false = false
        · rw [if_pos h1,if_pos ⟨by omega,h1.2⟩]
        · rw [if_neg h1,if_neg (fun q=>h1 ⟨by omega,q.2⟩)]
      rw [h2,if_neg e]
      omega
theorem left_set {D:List UInt8} {m:List Bool} {a:Nat} (ha:a < nO D) (hm:a < m.length):leftO D (m.set a true) + (if m.getD a false = false then 1 else 0) = leftO D m:=by
  have:=count_set hm (nO D)
  unfold leftO
  by_cases h:m.getD a false = false
  · rw [if_pos h];rw [if_pos ⟨ha,h⟩] at this;exact this
  · rw [if_neg h];rw [if_neg (fun q=>h q.2)] at this;exact this
theorem oM_len (D:List UInt8) (o:List Int):∀ i,(oMt D o i).length = 32
  | 0=>by simp [oMt]
  | i + 1=>by unfold oMt;rw [List.length_set];exact oM_len D o i
theorem at_lt {D:List UInt8} (hD:Sz D) {o:List Int} {i:Nat} (h:i < o.length + nO D):atO D o i < nO D:=by
  have hlo:=hD.lo
  have hn:0 < nO D:=by unfold nO;omega
  unfold atO
  split
  · exact Nat.mod_lt _ hn
  · omega
theorem n_le {D:List UInt8} (hD:Sz D):2≤nO D∧nO D≤20:=by
  have:=hD.lo
  have:=hD.hi
  unfold nO;omega
theorem oT_ti {D:List UInt8} {o:List Int} {pol:Int}:∀ i:Nat,i≤90→TI (oTb D o pol i) i
  | 0,_=>ti_new (by decide) (by decide)
  | i + 1,h=>by
    have h4:=(oT_ti (D:=D) (o:=o) (pol:=pol) i (by omega)).add (by omega) (i:Int) (oF D (atO D o i)) pol
    have e:((i + 1:Nat):Int) = (i:Int) + 1:=by omega
    rw [← e] at h4
    exact h4
theorem all_up {D:List UInt8} {m:List Bool} {a:Nat} (hm:a < m.length) (h:AllO D m):AllO D (m.set a true):=fun k hk=>by
  rw [met_set hm]
  split
  · rfl
  · exact h k hk
theorem oT_oi {D:List UInt8} (hD:Sz D) {o:List Int} (ho:o.length≤60) {pol:Int} (h1:1≤pol) (h4:pol≤4):∀ i:Nat,i≤o.length + nO D→¬ AllO D (oMt D o i)→OI D (oMt D o i) (oTb D o pol i) i
  | 0,_,_=>⟨rfl,rfl,by show (0:Int)≤_;omega,.inl ⟨rfl,rfl,fun k=>by
      show (List.replicate 32 false).getD k false = false
      rw [List.getD_eq_getElem?_getD,List.getElem?_replicate]
      split <;> rfl⟩⟩
  | i + 1,h,hn=>by
    have hn20:=n_le hD
    have ha:=at_lt hD (o:=o) (i:=i) (by omega)
    have hm:atO D o i < (oMt D o i).length:=by rw [oM_len];omega
    have hn':¬ AllO D (oMt D o i):=fun q=>hn (all_up hm q)
    have hs:=orders_step hD (oT_oi hD ho h1 h4 i (by omega) hn') (by omega) ha hm h1 h4
    exact (hs.some hn).2
theorem oT_step {D:List UInt8} (hD:Sz D) {o:List Int} (ho:o.length≤60) {pol:Int} (h1:1≤pol) (h4:pol≤4) {i:Nat} (h:i < o.length + nO D) (hn:¬ AllO D (oMt D o i)) :
    OStep D (oMt D o (i + 1)) (addT (oTb D o pol i) i (oF D (atO D o i)) pol) i:=by
  have hn20:=n_le hD
  have ha:=at_lt hD (o:=o) (i:=i) (by omega)
  have hm:atO D o i < (oMt D o i).length:=by rw [oM_len];omega
  exact orders_step hD (oT_oi hD ho h1 h4 i (by omega) hn) (by omega) ha hm h1 h4
theorem oM_met {D:List UInt8} (hD:Sz D) {o:List Int} {k:Nat} (hk:k < nO D):∀ i,o.length + k < i→i≤o.length + nO D→(oMt D o i).getD k false = true
  | 0,h,_=>by omega
  | i + 1,h,hi=>by
    have hn20:=n_le hD
    have ha:=at_lt hD (o:=o) (i:=i) (by omega)
    have hm:atO D o i < (oMt D o i).length:=by rw [oM_len];omega
    show ((oMt D o i).set (atO D o i) true).getD k false = true
    rw [met_set hm]
    by_cases e:o.length + k = i
    · have:atO D o i = k:=by unfold atO;rw [if_neg (by omega)];omega
      rw [if_pos this.symm]
    · split
      · rfl
      · exact oM_met hD hk i (by omega) (by omega)
theorem oM_all {D:List UInt8} (hD:Sz D) (o:List Int):AllO D (oMt D o (o.length + nO D)):=fun k hk=>oM_met hD hk _ (by omega) (Nat.le_refl _)
theorem left_first {D:List UInt8} (hD:Sz D) (o:List Int):leftO D (oMt D o 0) = nO D:=by
  unfold leftO
  have:(List.range (nO D)).countP (fun k=>!((oMt D o 0).getD k false)) = (List.range (nO D)).length:=by
    rw [List.countP_eq_length]
    intro k _
    show (!((List.replicate 32 false).getD k false)) = true
    rw [List.getD_eq_getElem?_getD,List.getElem?_replicate]
    split <;> rfl
  rw [this,List.length_range]
end Go.Df
