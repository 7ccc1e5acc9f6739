import Derived.Below
import Derived.Orders
import Derived.KernelRfl
import Derived.Laws.Cells
import Derived.Laws.Sem
import Derived.Laws.Entries
import Derived.Laws.Strings
import Derived.Laws.StructEq
import Derived.Laws.BytesString
import Derived.Laws.BytesArg
import Derived.ChangeKeysEq
set_option linter.all false
namespace Go.Fw
inductive Ty where
  | bool | int (k:IntKind) | str | nil | cons (a b:Ty) | list (t:Ty)
  deriving DecidableEq,Inhabited
@[reducible] def Ty.D:Ty→Type
  | .bool=>Bool
  | .int _=>Int
  | .str=>List UInt8
  | .nil=>Unit
  | .cons a b=>a.D × b.D
  | .list t=>List t.D
def Ty.size:Ty→Nat
  | .nil=>0
  | .cons a b=>a.size + b.size
  | _=>1
def Ty.dflt:(t:Ty)→t.D
  | .bool=>false
  | .int _=>(0:Int)
  | .str=>[]
  | .nil=>()
  | .cons a b=>(a.dflt,b.dflt)
  | .list _=>[]
def bs (l:List UInt8):ByteArray:=⟨l.toArray⟩
abbrev Prot:=Nat→Nat→Prop
def CellsAt (w:World) (R:Prot) (b o:Nat) (us:List Value):Prop:=
  ∀ i v,us[i]? = some v→R b (o + i)∧w.cell? ⟨b,o + i,none⟩ = some v
def Rep (w:World) (R:Prot):(t:Ty)→t.D→List Value→Prop
  | .bool,b,vs=>vs = [.bool b]
  | .int k,n,vs=>vs = [.int k n]
  | .str,s,vs=>vs = [.string (bs s)]
  | .nil,_,vs=>vs = []
  | .cons a b,x,vs=>∃ us ws,vs = us ++ ws∧Rep w R a x.1 us∧Rep w R b x.2 ws
  | .list t,xs,vs=>∃ p cap,vs = [.slice p xs.length cap]∧xs.length≤cap∧((xs = []∧cap = 0)∨∃ b o,p = some ⟨b,o,none⟩∧
      ∀ (i:Nat) (h:i < xs.length),∃ us,us.length = t.size∧CellsAt w R b (o + i * t.size) us∧Rep w R t xs[i] us)
theorem Rep.length {w:World} {R:Prot}:∀ {t:Ty} {x:t.D} {vs:List Value},Rep w R t x vs→vs.length = t.size
  | .bool,_,_,h=>by simp only [Rep] at h;simp [h,Ty.size]
  | .int _,_,_,h=>by simp only [Rep] at h;simp [h,Ty.size]
  | .str,_,_,h=>by simp only [Rep] at h;simp [h,Ty.size]
  | .nil,_,_,h=>by simp only [Rep] at h;simp [h,Ty.size]
  | .cons a b,x,_,h=>by
    simp only [Rep] at h
    obtain ⟨us,ws,rfl,h1,h2⟩:=h
    simp [Ty.size,Rep.length h1,Rep.length h2]
  | .list t,_,_,h=>by
    simp only [Rep] at h
    obtain ⟨p,cap,rfl,_⟩:=h
    simp [Ty.size]
theorem Rep.mono {w w':World} {R R':Prot} (hR:∀ b o,R b o→R' b o) (hw:∀ b o,R b o→w'.cell? ⟨b,o,none⟩ = w.cell? ⟨b,o,none⟩) :
    ∀ {t:Ty} {x:t.D} {vs:List Value},Rep w R t x vs→Rep w' R' t x vs
  | .bool,_,_,h=>h
  | .int _,_,_,h=>h
  | .str,_,_,h=>h
  | .nil,_,_,h=>h
  | .cons a b,x,_,h=>by
    simp only [Rep] at h ⊢
    obtain ⟨us,ws,rfl,h1,h2⟩:=h
    exact ⟨us,ws,rfl,Rep.mono hR hw h1,Rep.mono hR hw h2⟩
  | .list t,xs,_,h=>by
    simp only [Rep] at h ⊢
    obtain ⟨p,cap,rfl,hc,h⟩:=h
    refine ⟨p,cap,rfl,hc,?_⟩
    rcases h with h|⟨b,o,rfl,h⟩
    · exact .inl h
    · refine .inr ⟨b,o,rfl,fun i hi=>?_⟩
      obtain ⟨us,hl,hc,hr⟩:=h i hi
      exact ⟨us,hl,fun j v hj=>⟨hR _ _ (hc j v hj).1,by rw [hw _ _ (hc j v hj).1];exact (hc j v hj).2⟩,Rep.mono hR hw hr⟩
theorem Rep.oneCell {w:World} {R:Prot}:∀ {t:Ty} {x:t.D} {vs:List Value},Rep w R t x vs→∀ v∈vs,v.oneCell' = true
  | .bool,_,_,h=>by simp only [Rep] at h;simp [h,Value.oneCell']
  | .int _,_,_,h=>by simp only [Rep] at h;simp [h,Value.oneCell']
  | .str,_,_,h=>by simp only [Rep] at h;simp [h,Value.oneCell']
  | .nil,_,_,h=>by simp only [Rep] at h;simp [h]
  | .cons a b,x,_,h=>by
    simp only [Rep] at h
    obtain ⟨us,ws,rfl,h1,h2⟩:=h
    intro v hv
    rcases List.mem_append.1 hv with hv|hv
    · exact Rep.oneCell h1 v hv
    · exact Rep.oneCell h2 v hv
  | .list t,_,_,h=>by
    simp only [Rep] at h
    obtain ⟨p,cap,rfl,_⟩:=h
    simp [Value.oneCell']
abbrev Place:=Nat→Option (Nat × Nat)
structure XV where
  ids:List Nat
  rel:Place→Prot→World→Value→Prop
  mono:∀ {φ φ':Place} {R R':Prot} {w w':World} {v:Value},(∀ b o,R b o→R' b o)→(∀ b o,R b o→w'.cell? ⟨b,o,none⟩ = w.cell? ⟨b,o,none⟩)→
    (∀ id,ids.contains id = true→φ' id = φ id)→rel φ R w v→rel φ' R' w' v
  one:∀ {φ:Place} {R:Prot} {w:World} {v:Value},rel φ R w v→v.oneCell' = true
inductive AV where
  | any
  | bool (b:Bool)
  | int (k:IntKind) (n:Int)
  | str (s:List UInt8)
  | list (t:Ty) (xs:List t.D)
  | agg (cs:List AV)
  | tup (vs:List AV)
  | rop (cs:List AV) (off:Nat)
  | loc (id off:Nat)
  | own (id n:Nat)
  | eloc (id sz i off:Nat)
  | nilp
  | nils
  | nilf
  | fn (f:FuncId) (caps:List AV)
  | maybe (g:Bool) (v:AV)
  | ub (p q:Prop)
  | ex (X:XV)
mutual
def RepV (φ:Place) (R:Prot) (w:World):AV→Value→Prop
  | .any,_=>True
  | .bool b,v=>v = .bool b
  | .int k n,v=>v = .int k n
  | .str s,v=>v = .string (bs s)
  | .list t xs,v=>Rep w R (.list t) xs [v]
  | .agg cs,v=>∃ vs:Array Value,v = .agg vs∧RepVs φ R w cs vs.toList
  | .tup cs,v=>∃ vs:Array Value,v = .tuple vs∧RepVs φ R w cs vs.toList
  | .rop cs off,v=>∃ b base us,v = .pointer (some ⟨b,base + off,none⟩)∧CellsAt w R b base us∧RepVs φ R w cs us
  | .loc id off,v=>∃ b cap,φ id = some (b,cap)∧v = .pointer (some ⟨b,off,none⟩)
  | .own id n,v=>(φ id = none∧n = 0∧v = .slice none 0 0)∨∃ b cap,φ id = some (b,cap)∧n≤cap∧v = .slice (some ⟨b,0,none⟩) n cap
  | .eloc id sz i off,v=>∃ b cap,φ id = some (b,cap)∧v = .pointer (some ⟨b,i * sz + off,none⟩)
  | .nilp,v=>v = .pointer none
  | .nils,v=>v = .slice none 0 0
  | .nilf,v=>v = .nilFunc
  | .fn f cs,v=>∃ vs:Array Value,v = .func (.func f) #[] vs∧RepVs φ R w cs vs.toList
  | .maybe g a,v=>(g = true→RepV φ R w a v)∧(g = false→v = undef)
  | .ub p q,v=>∃ b,v = .bool b∧(b = true→p)∧(b = false→q)
  | .ex X,v=>X.rel φ R w v
def RepVs (φ:Place) (R:Prot) (w:World):List AV→List Value→Prop
  | [],vs=>vs = []
  | a :: as,vs=>∃ u us,vs = u :: us∧RepV φ R w a u∧RepVs φ R w as us
end
mutual
def AV.has (n:Nat):AV→Bool
  | .loc id _=>id == n
  | .own id _=>id == n
  | .eloc id _ _ _=>id == n
  | .agg cs=>AV.hasAny n cs
  | .tup cs=>AV.hasAny n cs
  | .rop cs _=>AV.hasAny n cs
  | .fn _ cs=>AV.hasAny n cs
  | .maybe g a=>g && AV.has n a
  | .ex X=>X.ids.contains n
  | _=>false
def AV.hasAny (n:Nat):List AV→Bool
  | []=>false
  | a :: as=>AV.has n a || AV.hasAny n as
end
mutual
theorem RepV.mono {φ φ':Place} {R R':Prot} {w w':World} (hR:∀ b o,R b o→R' b o) (hw:∀ b o,R b o→w'.cell? ⟨b,o,none⟩ = w.cell? ⟨b,o,none⟩) :
    ∀ {a:AV} {v:Value},(∀ id,a.has id = true→φ' id = φ id)→RepV φ R w a v→RepV φ' R' w' a v
  | .any,_,_,_=>by simp [RepV]
  | .bool b,_,_,h=>by simpa [RepV] using h
  | .int k n,_,_,h=>by simpa [RepV] using h
  | .str s,_,_,h=>by simpa [RepV] using h
  | .list t xs,_,_,h=>by simp only [RepV] at h ⊢;exact Rep.mono hR hw h
  | .agg cs,_,hφ,h=>by
    simp only [RepV] at h ⊢
    obtain ⟨vs,e,h⟩:=h
    exact ⟨vs,e,RepVs.mono hR hw (fun id hi=>hφ id (by simpa [AV.has] using hi)) h⟩
  | .tup cs,_,hφ,h=>by
    simp only [RepV] at h ⊢
    obtain ⟨vs,e,h⟩:=h
    exact ⟨vs,e,RepVs.mono hR hw (fun id hi=>hφ id (by simpa [AV.has] using hi)) h⟩
  | .rop cs off,_,hφ,h=>by
    simp only [RepV] at h ⊢
    obtain ⟨b,base,us,e,hc,h⟩:=h
    exact ⟨b,base,us,e,fun j v hj=>⟨hR _ _ (hc j v hj).1,by rw [hw _ _ (hc j v hj).1];exact (hc j v hj).2⟩,RepVs.mono hR hw (fun id hi=>hφ id (by simpa [AV.has] using hi)) h⟩
  | .loc id off,_,hφ,h=>by
    simp only [RepV] at h ⊢
    rw [hφ id (by simp [AV.has])];exact h
  | .own id n,_,hφ,h=>by
    simp only [RepV] at h ⊢
    rw [hφ id (by simp [AV.has])];exact h
  | .eloc id sz i off,_,hφ,h=>by
    simp only [RepV] at h ⊢
    rw [hφ id (by simp [AV.has])];exact h
  | .nilp,_,_,h=>by simpa [RepV] using h
  | .nils,_,_,h=>by simpa [RepV] using h
  | .nilf,_,_,h=>by simpa [RepV] using h
  | .fn f cs,_,hφ,h=>by
    simp only [RepV] at h ⊢
    obtain ⟨vs,e,h⟩:=h
    exact ⟨vs,e,RepVs.mono hR hw (fun id hi=>hφ id (by simpa [AV.has] using hi)) h⟩
  | .maybe g a,_,hφ,h=>by
    simp only [RepV] at h ⊢
    exact ⟨fun hg=>RepV.mono hR hw (fun id hi=>hφ id (by simpa [AV.has,hg] using hi)) (h.1 hg),h.2⟩
  | .ub p q,_,_,h=>by simpa [RepV] using h
  | .ex X,_,hφ,h=>by
    simp only [RepV] at h ⊢
    exact X.mono hR hw (fun id hi=>hφ id (by simpa only [AV.has] using hi)) h
theorem RepVs.mono {φ φ':Place} {R R':Prot} {w w':World} (hR:∀ b o,R b o→R' b o) (hw:∀ b o,R b o→w'.cell? ⟨b,o,none⟩ = w.cell? ⟨b,o,none⟩) :
    ∀ {as:List AV} {vs:List Value},(∀ id,AV.hasAny id as = true→φ' id = φ id)→RepVs φ R w as vs→RepVs φ' R' w' as vs
  | [],_,_,h=>by simpa [RepVs] using h
  | a :: as,_,hφ,h=>by
    simp only [RepVs] at h ⊢
    obtain ⟨u,us,e,h1,h2⟩:=h
    exact ⟨u,us,e,RepV.mono hR hw (fun id hi=>hφ id (by simp [AV.hasAny,hi])) h1,RepVs.mono hR hw (fun id hi=>hφ id (by simp [AV.hasAny,hi])) h2⟩
end
theorem RepVs.of_get {φ:Place} {R:Prot} {w:World}:∀ {as:List AV} {vs:List Value},as.length = vs.length→(∀ i v,vs[i]? = some v→RepV φ R w (as.getD i .any) v)→RepVs φ R w as vs
  | [],[],_,_=>by simp [RepVs]
  | [],_ :: _,h,_=>by simp at h
  | _ :: _,[],h,_=>by simp at h
  | a :: as,v :: vs,h,hg=>⟨v,vs,rfl,by simpa using hg 0 v rfl,RepVs.of_get (by simpa using h) fun i u hu=>by simpa using hg (i + 1) u (by simpa using hu)⟩
theorem RepVs.length {φ:Place} {R:Prot} {w:World}:∀ {as:List AV} {vs:List Value},RepVs φ R w as vs→vs.length = as.length
  | [],_,h=>by simp only [RepVs] at h;simp [h]
  | a :: as,_,h=>by
    simp only [RepVs] at h
    obtain ⟨u,us,rfl,_,h⟩:=h
    simp [RepVs.length h]
theorem RepVs.get {φ:Place} {R:Prot} {w:World}:∀ {as:List AV} {vs:List Value},RepVs φ R w as vs→∀ i v,vs[i]? = some v→RepV φ R w (as.getD i .any) v
  | [],_,h,i,v,hv=>by simp only [RepVs] at h;simp [h] at hv
  | a :: as,_,h,i,v,hv=>by
    simp only [RepVs] at h
    obtain ⟨u,us,rfl,h1,h⟩:=h
    cases i with
    | zero=>simp at hv;subst hv;simpa using h1
    | succ i=>simp at hv;simpa using RepVs.get h i v hv
theorem RepVs.take {φ:Place} {R:Prot} {w:World}:∀ (n:Nat) {as:List AV} {vs:List Value},RepVs φ R w as vs→RepVs φ R w (as.take n) (vs.take n)
  | 0,_,_,_=>by simp [RepVs]
  | n + 1,[],_,h=>by simp only [RepVs] at h;simp [RepVs,h]
  | n + 1,a :: as,_,h=>by
    simp only [RepVs] at h
    obtain ⟨u,us,rfl,h1,h⟩:=h
    exact ⟨u,us.take n,by simp,h1,RepVs.take n h⟩
theorem RepVs.drop {φ:Place} {R:Prot} {w:World}:∀ (n:Nat) {as:List AV} {vs:List Value},RepVs φ R w as vs→RepVs φ R w (as.drop n) (vs.drop n)
  | 0,_,_,h=>h
  | n + 1,[],_,h=>by simp only [RepVs] at h;simp [RepVs,h]
  | n + 1,a :: as,_,h=>by
    simp only [RepVs] at h
    obtain ⟨u,us,rfl,h1,h⟩:=h
    exact RepVs.drop n h
theorem RepVs.append {φ:Place} {R:Prot} {w:World}:∀ {as bs:List AV} {vs us:List Value},RepVs φ R w as vs→RepVs φ R w bs us→RepVs φ R w (as ++ bs) (vs ++ us)
  | [],_,_,_,h,h'=>by simp only [RepVs] at h;simpa [h] using h'
  | a :: as,_,_,_,h,h'=>by
    simp only [RepVs] at h
    obtain ⟨u,us,rfl,h1,h⟩:=h
    exact ⟨u,_,rfl,h1,RepVs.append h h'⟩
def explode:(t:Ty)→t.D→List AV
  | .bool,b=>[.bool b]
  | .int k,n=>[.int k n]
  | .str,s=>[.str s]
  | .nil,_=>[]
  | .cons a b,x=>explode a x.1 ++ explode b x.2
  | .list t,xs=>[.list t xs]
theorem Rep.explode {φ:Place} {R:Prot} {w:World}:∀ {t:Ty} {x:t.D} {vs:List Value},Rep w R t x vs→RepVs φ R w (explode t x) vs
  | .bool,_,_,h=>by simp only [Rep] at h;simp [h,Fw.explode,RepVs,RepV]
  | .int _,_,_,h=>by simp only [Rep] at h;simp [h,Fw.explode,RepVs,RepV]
  | .str,_,_,h=>by simp only [Rep] at h;simp [h,Fw.explode,RepVs,RepV]
  | .nil,_,_,h=>by simp only [Rep] at h;simp [h,Fw.explode,RepVs]
  | .cons a b,x,_,h=>by
    simp only [Rep] at h
    obtain ⟨us,ws,rfl,h1,h2⟩:=h
    exact RepVs.append (Rep.explode h1) (Rep.explode h2)
  | .list t,_,vs,h=>by
    obtain ⟨p,cap,rfl,h'⟩:=h
    simp only [Fw.explode,RepVs]
    exact ⟨_,[],rfl,by simp only [RepV,Rep];exact ⟨p,cap,rfl,h'⟩,rfl⟩
def takeBool:List AV→Option (Bool × List AV)
  | .bool b :: r=>some (b,r)
  | _=>none
def takeInt (k:IntKind):List AV→Option (Int × List AV)
  | .int k' n :: r=>if k' = k then some (n,r) else none
  | _=>none
def takeStr:List AV→Option (List UInt8 × List AV)
  | .str s :: r=>some (s,r)
  | _=>none
def takeList (t:Ty):List AV→Option (List t.D × List AV)
  | .nils :: r=>some ([],r)
  | .list t' xs :: r=>if h:t' = t then some (h ▸ xs,r) else none
  | _=>none
def assemble:(t:Ty)→List AV→Option (t.D × List AV)
  | .bool,r=>takeBool r
  | .int k,r=>takeInt k r
  | .str,r=>takeStr r
  | .nil,r=>some ((),r)
  | .cons a b,r=>
    match assemble a r with
    | some (x,r')=>match assemble b r' with
      | some (y,r'')=>some ((x,y),r'')
      | none=>none
    | none=>none
  | .list t,r=>takeList t r
theorem assemble_rep {φ:Place} {R:Prot} {w:World}:∀ {t:Ty} {as:List AV} {x:t.D} {r:List AV} {vs:List Value},assemble t as = some (x,r)→RepVs φ R w as vs→
    ∃ us ws,vs = us ++ ws∧Rep w R t x us∧RepVs φ R w r ws:=by
  intro t
  induction t with
  | bool=>
    intro as x r vs h hr
    simp only [assemble] at h
    unfold takeBool at h
    split at h <;> simp_all
    obtain ⟨rfl,rfl⟩:=h
    simp only [RepVs,RepV] at hr
    obtain ⟨u,us,rfl,rfl,hr⟩:=hr
    exact ⟨[_],us,rfl,by simp [Rep],hr⟩
  | int k=>
    intro as x r vs h hr
    simp only [assemble] at h
    unfold takeInt at h
    split at h <;> simp_all
    obtain ⟨rfl,rfl,rfl⟩:=h
    simp only [RepVs,RepV] at hr
    obtain ⟨u,us,rfl,rfl,hr⟩:=hr
    exact ⟨[_],us,rfl,by simp [Rep],hr⟩
  | str=>
    intro as x r vs h hr
    simp only [assemble] at h
    unfold takeStr at h
    split at h <;> simp_all
    obtain ⟨rfl,rfl⟩:=h
    simp only [RepVs,RepV] at hr
    obtain ⟨u,us,rfl,rfl,hr⟩:=hr
    exact ⟨[_],us,rfl,by simp [Rep],hr⟩
  | nil=>
    intro as x r vs h hr
    simp only [assemble,Option.some.injEq,Prod.mk.injEq] at h
    obtain ⟨_,rfl⟩:=h
    exact ⟨[],vs,rfl,by simp [Rep],hr⟩
  | cons a b iha ihb=>
    intro as x r vs h hr
    simp only [assemble] at h
    cases ha:assemble a as with
    | none=>simp [ha] at h
    | some p=>
      obtain ⟨x1,r1⟩:=p
      simp only [ha] at h
      cases hb:assemble b r1 with
      | none=>simp [hb] at h
      | some q=>
        obtain ⟨x2,r2⟩:=q
        simp only [hb,Option.some.injEq,Prod.mk.injEq] at h
        obtain ⟨rfl,rfl⟩:=h
        obtain ⟨us,ws,rfl,h1,hr1⟩:=iha ha hr
        obtain ⟨us2,ws2,rfl,h2,hr2⟩:=ihb hb hr1
        exact ⟨us ++ us2,ws2,by simp,by simp only [Rep];exact ⟨us,us2,rfl,h1,h2⟩,hr2⟩
  | list t iht=>
    intro as x r vs h hr
    simp only [assemble] at h
    unfold takeList at h
    split at h
    · simp only [Option.some.injEq,Prod.mk.injEq] at h
      obtain ⟨rfl,rfl⟩:=h
      simp only [RepVs,RepV] at hr
      obtain ⟨u,us,rfl,rfl,hr⟩:=hr
      exact ⟨[_],us,rfl,by simp only [Rep];exact ⟨none,0,rfl,Nat.le_refl _,.inl (by simp)⟩,hr⟩
    · rename_i t' xs r'
      split at h
      · rename_i e
        subst e
        simp only [Option.some.injEq,Prod.mk.injEq] at h
        obtain ⟨rfl,rfl⟩:=h
        simp only [RepVs,RepV] at hr
        obtain ⟨u,us,rfl,h3,hr⟩:=hr
        exact ⟨[u],us,rfl,h3,hr⟩
      · simp at h
    · simp at h
def AV.one:AV→Bool
  | .any | .agg _ | .tup _ | .maybe _ _=>false
  | _=>true
theorem AV.one_rep {φ:Place} {R:Prot} {w:World} {a:AV} {v:Value} (h:a.one = true) (hr:RepV φ R w a v):v.oneCell' = true:=by
  cases a <;> simp only [AV.one,reduceCtorEq] at h <;> simp only [RepV] at hr
  · simp [hr,Value.oneCell']
  · simp [hr,Value.oneCell']
  · simp [hr,Value.oneCell']
  · exact Rep.oneCell hr v (by simp)
  · obtain ⟨b,base,us,rfl,_⟩:=hr;rfl
  · obtain ⟨b,cap,_,rfl⟩:=hr;rfl
  · rcases hr with ⟨_,_,rfl⟩|⟨b,cap,_,_,rfl⟩ <;> rfl
  · obtain ⟨b,cap,_,rfl⟩:=hr;rfl
  · simp [hr,Value.oneCell']
  · simp [hr,Value.oneCell']
  · simp [hr,Value.oneCell']
  · obtain ⟨vs,rfl,_⟩:=hr;rfl
  · obtain ⟨b,rfl,_⟩:=hr;rfl
  · rename_i X;exact X.one hr
theorem RepVs.one {φ:Place} {R:Prot} {w:World}:∀ {as:List AV} {vs:List Value},as.all AV.one = true→RepVs φ R w as vs→∀ v∈vs,v.oneCell' = true
  | [],_,_,h=>by simp only [RepVs] at h;simp [h]
  | a :: as,_,ha,h=>by
    simp only [RepVs] at h
    obtain ⟨u,us,rfl,h1,h⟩:=h
    simp only [List.all_cons,Bool.and_eq_true] at ha
    intro v hv
    rcases List.mem_cons.1 hv with rfl|hv
    · exact AV.one_rep ha.1 h1
    · exact RepVs.one ha.2 h v hv
end Go.Fw
namespace Go.Fw
structure XCh where
  ids:List Nat
  fixed:Bool
  nil:Prop
  rel:Place→Prot→World→Nat→Obj→Nat→Prop
  more:Nat→Nat→Prop:=fun _ _=>False
  mono:∀ {φ φ':Place} {R R':Prot} {w w':World} {b:Nat} {o:Obj} {cap:Nat},(∀ b o,R b o→R' b o)→(∀ b o,R b o→w'.cell? ⟨b,o,none⟩ = w.cell? ⟨b,o,none⟩)→
    (∀ id,ids.contains id = true→φ' id = φ id)→(∀ x,more cap x→x < w.heap.size→w'.heap[x]? = w.heap[x]?∧∀ o,R' x o→R x o)→rel φ R w b o cap→rel φ' R' w' b o cap
  apart:∀ {φ:Place} {R:Prot} {w:World} {b:Nat} {o:Obj} {cap:Nat},rel φ R w b o cap→∀ x,more cap x→x < w.heap.size∧∀ o,¬ R x o:=by intros;contradiction
def XCh.top (f:Bool):XCh:={ ids:=[],fixed:=f,nil:=True,rel:=fun _ _ _ _ _ _=>True,mono:=fun _ _ _ _ h=>h }
inductive Chunk where
  | box (cells:List AV)
  | arr (t:Ty) (xs:List t.D)
  | ext (X:XCh)
def Chunk.has (n:Nat):Chunk→Bool
  | .box cs=>AV.hasAny n cs
  | .arr _ _=>false
  | .ext X=>X.ids.contains n
def Chunk.fixed:Chunk→Bool
  | .box _=>true
  | .arr _ _=>false
  | .ext X=>X.fixed
def NoFr (fr:Nat × Nat) (n:Nat):Prop:=∀ o,o < n→¬ (fr.1≤o∧o < fr.2)
def ChunkRel (φ:Place) (R:Prot) (w:World) (id:Nat):Chunk→Prop
  | .box cs=>∃ b cap vs e fr,φ id = some (b,cap)∧w.heap[b]? = some (.cells vs e fr)∧RepVs φ R w cs vs.toList∧(∀ o,¬ R b o)∧NoFr fr vs.size
  | .arr t xs=>(φ id = none∧xs = [])∨∃ b cap vs e fr,φ id = some (b,cap)∧w.heap[b]? = some (.cells vs e fr)∧vs.size = cap * t.size∧xs.length≤cap∧
      (∀ (i:Nat) (h:i < xs.length),Rep w R t xs[i] ((vs.toList.drop (i * t.size)).take t.size))∧(∀ o,¬ R b o)∧NoFr fr vs.size
  | .ext X=>(φ id = none∧X.nil)∨∃ b cap o,φ id = some (b,cap)∧w.heap[b]? = some o∧X.rel φ R w b o cap∧∀ o,¬ R b o
abbrev Heap:=Nat→Option Chunk
def Chunk.at:Chunk→Nat→Nat→Nat→Prop
  | .box _,b,_,x=>x = b
  | .arr _ _,b,_,x=>x = b
  | .ext X,b,cap,x=>x = b∨X.more cap x
theorem Chunk.at_self (c:Chunk) (b cap:Nat):c.at b cap b:=by
  cases c with
  | ext X=>exact .inl rfl
  | _=>rfl
def Chunk.single (c:Chunk):Prop:=∀ b cap x,c.at b cap x→x = b
theorem Chunk.single_ext {X:XCh} (h:∀ cap x,¬ X.more cap x):(Chunk.ext X).single:=fun _ _ _ hx=>hx.elim id (fun q=>(h _ _ q).elim)
def Owns (φ:Place) (h:Heap) (x:Nat):Prop:=∃ id c b cap,h id = some c∧φ id = some (b,cap)∧c.at b cap x
theorem Owns.main {φ:Place} {h:Heap} {id b cap:Nat} {c:Chunk} (h1:h id = some c) (h2:φ id = some (b,cap)):Owns φ h b:=⟨id,c,b,cap,h1,h2,c.at_self b cap⟩
structure HRel (φ:Place) (R:Prot) (w:World) (h:Heap):Prop where
  rel:∀ id c,h id = some c→ChunkRel φ R w id c
  inj:∀ id id' c c' b b' cap cap' x,h id = some c→h id' = some c'→φ id = some (b,cap)→φ id' = some (b',cap')→c.at b cap x→c'.at b' cap' x→id = id'
theorem HRel.inj0 {φ:Place} {R:Prot} {w:World} {h:Heap} (k:HRel φ R w h) (id id':Nat) (c c':Chunk) (b cap cap':Nat) (h1:h id = some c) (h2:h id' = some c') (h3:φ id = some (b,cap)) (h4:φ id' = some (b,cap')):id = id':=
  k.inj id id' c c' b b cap cap' b h1 h2 h3 h4 (c.at_self b cap) (c'.at_self b cap')
structure Evo (R:Prot) (O:Nat→Prop) (w:World) (R':Prot) (O':Nat→Prop) (w':World):Prop where
  os:w'.os = w.os
  tape:w'.tape = w.tape
  output:w'.output = w.output
  size:w.heap.size≤w'.heap.size
  keep:∀ b,b < w.heap.size→¬ O b→w'.heap[b]? = w.heap[b]?
  rmono:∀ b o,R b o→R' b o
  rkeep:∀ b o,R b o→w'.cell? ⟨b,o,none⟩ = w.cell? ⟨b,o,none⟩
  rnew:∀ b o,R' b o→R b o∨w.heap.size≤b∨O b
  onew:∀ b,O' b→w.heap.size≤b∨O b
theorem Evo.refl (R:Prot) (O:Nat→Prop) (w:World):Evo R O w R O w:=
  ⟨rfl,rfl,rfl,Nat.le_refl _,fun _ _ _=>rfl,fun _ _ h=>h,fun _ _ _=>rfl,fun _ _ h=>.inl h,fun _ h=>.inr h⟩
theorem Evo.trans {R R1 R2:Prot} {O O1 O2:Nat→Prop} {w w1 w2:World} (h:Evo R O w R1 O1 w1) (k:Evo R1 O1 w1 R2 O2 w2):Evo R O w R2 O2 w2 where
  os:=k.os.trans h.os
  tape:=k.tape.trans h.tape
  output:=k.output.trans h.output
  size:=Nat.le_trans h.size k.size
  keep b hb ho:=by
    rw [k.keep b (Nat.lt_of_lt_of_le hb h.size) (fun ho1=>?_),h.keep b hb ho]
    rcases h.onew b ho1 with h1|h1
    · omega
    · exact ho h1
  rmono b o hr:=k.rmono b o (h.rmono b o hr)
  rkeep b o hr:=by rw [k.rkeep b o (h.rmono b o hr),h.rkeep b o hr]
  rnew b o hr:=by
    rcases k.rnew b o hr with h1|h1|h1
    · exact h.rnew b o h1
    · exact .inr (.inl (Nat.le_trans h.size h1))
    · rcases h.onew b h1 with h2|h2
      · exact .inr (.inl h2)
      · exact .inr (.inr h2)
  onew b hb:=by
    rcases k.onew b hb with h1|h1
    · exact .inl (Nat.le_trans h.size h1)
    · exact h.onew b h1
theorem Evo.drew (R:Prot) (O:Nat→Prop) (w:World) (n:Nat):Evo R O w R O { w with drawn:=n }:=
  ⟨rfl,rfl,rfl,Nat.le_refl _,fun _ _ _=>rfl,fun _ _ h=>h,fun _ _ _=>rfl,fun _ _ h=>.inl h,fun _ h=>.inr h⟩
def lookup {α:Type} (k:Nat):List (Nat × α)→Option α
  | []=>none
  | (j,a) :: r=>match Nat.beq j k with
    | true=>some a
    | false=>lookup k r
structure St where
  n:Nat
  fix:Nat
  next:Nat
  env:List (Nat × AV)
  heap:List (Nat × Chunk)
  gl:List (Nat × List AV)
def St.get (st:St) (t:Nat):AV:=match lookup t st.env with|some a=>a|none=>.any
def St.put (st:St) (dst:Option Nat) (v:AV):St:=match dst with|some d=>{ st with env:=(d,v) :: st.env }|none=>st
abbrev St.lk (st:St):Heap:=fun id=>lookup id st.heap
def constAV:Value→AV
  | .bool b=>.bool b
  | .int k n=>.int k n
  | .string s=>.str s.data.toList
  | .slice none 0 0=>.nils
  | .pointer none=>.nilp
  | .nilFunc=>.nilf
  | .func (.func f) ⟨[]⟩ ⟨[]⟩=>.fn f []
  | _=>.any
abbrev Gl:=List (Nat × List AV)
def evF (E:Nat→AV) (gl:Gl):Operand→AV
  | .tmp t=>E t
  | .const v=>constAV v
  | .global g=>match lookup g gl with | some cs=>.rop cs 0 | none=>.any
  | .func f=>.fn f []
def St.ev (st:St):Operand→AV:=evF st.get st.gl
def GlOK (gl:Gl) (φ:Place) (R:Prot) (w:World):Prop:=
  ∀ g cs,lookup g gl = some cs→RepV φ R w (.rop cs 0) (.pointer (some ⟨g,0,none⟩))∧∀ id,AV.hasAny id cs = false
structure SatF (R:Prot) (φ:Place) (n next:Nat) (E:Nat→AV) (H:Heap) (gl:Gl) (a:Act) (w:World):Prop where
  env:∀ t,RepV φ R w (E t) (a.tmps.getD t undef)
  named:∀ t id,(E t).has id = true→∃ c,H id = some c
  hnamed:∀ j c id,H j = some c→c.has id = true→∃ c,H id = some c
  hnext:∀ id c,H id = some c→id < next
  sz:a.tmps.size = n
  heap:HRel φ R w H
  rlt:∀ b o,R b o→b < w.heap.size
  defers:a.defers = []
  gl:∀ g cs,lookup g gl = some cs→RepV φ R w (.rop cs 0) (.pointer (some ⟨g,0,none⟩))∧∀ id,AV.hasAny id cs = false
structure Sat (R:Prot) (φ:Place) (st:St) (a:Act) (w:World):Prop where
  s:SatF R φ st.n st.next st.get st.lk st.gl a w
  fx:st.fix≤st.next
structure Ext (st:St) (R:Prot) (φ:Place) (w:World) (st':St) (R':Prot) (φ':Place) (w':World):Prop where
  evo:Evo R (Owns φ st.lk) w R' (Owns φ' st'.lk) w'
  place:∀ id,id < st.fix→φ' id = φ id
  fix:st'.fix = st.fix
  n:st'.n = st.n
theorem Ext.refl (st:St) (R:Prot) (φ:Place) (w:World):Ext st R φ w st R φ w:=⟨Evo.refl _ _ _,fun _ _=>rfl,rfl,rfl⟩
theorem Ext.trans {st st1 st2:St} {R R1 R2:Prot} {φ φ1 φ2:Place} {w w1 w2:World} (h:Ext st R φ w st1 R1 φ1 w1) (k:Ext st1 R1 φ1 w1 st2 R2 φ2 w2):Ext st R φ w st2 R2 φ2 w2:=
  ⟨h.evo.trans k.evo,fun id hid=>(k.place id (by rw [h.fix];exact hid)).trans (h.place id hid),k.fix.trans h.fix,k.n.trans h.n⟩
theorem constAV_rep (φ:Place) (R:Prot) (w:World) (v:Value):RepV φ R w (constAV v) v:=by
  unfold constAV
  split <;> simp [RepV,RepVs,bs]
theorem constAV_has (v:Value) (id:Nat):(constAV v).has id = false:=by
  unfold constAV
  split <;> simp [AV.has,AV.hasAny]
theorem SatF.ev {R:Prot} {φ:Place} {n next:Nat} {E:Nat→AV} {H:Heap} {gl:Gl} {a:Act} {w:World} (h:SatF R φ n next E H gl a w) (x:Operand):RepV φ R w (evF E gl x) (a.eval x):=by
  cases x with
  | tmp t=>exact h.env t
  | const v=>exact constAV_rep φ R w v
  | global g=>
    simp only [evF,Act.eval]
    cases hg:lookup g gl with
    | none=>simp [RepV]
    | some cs=>exact (h.gl g cs hg).1
  | func f=>simp [evF,Act.eval,RepV,RepVs]
theorem SatF.ev_named {R:Prot} {φ:Place} {n next:Nat} {E:Nat→AV} {H:Heap} {gl:Gl} {a:Act} {w:World} (h:SatF R φ n next E H gl a w) (x:Operand) (id:Nat)
    (hx:(evF E gl x).has id = true):∃ c,H id = some c:=by
  cases x with
  | tmp t=>exact h.named t id hx
  | const v=>simp [evF,constAV_has] at hx
  | global g=>
    simp only [evF] at hx
    cases hg:lookup g gl with
    | none=>simp [hg,AV.has] at hx
    | some cs=>simp [hg,AV.has,(h.gl g cs hg).2 id] at hx
  | func f=>simp [evF,AV.has,AV.hasAny] at hx
theorem lookup_mem {α:Type} {k:Nat} {a:α}:∀ {l:List (Nat × α)},lookup k l = some a→(k,a)∈l
  | [],h=>by simp [lookup] at h
  | (j,b) :: r,h=>by
    unfold lookup at h
    split at h
    · rename_i hj
      have:j = k:=Nat.eq_of_beq_eq_true hj
      simp at h;subst h;subst this;exact List.mem_cons_self ..
    · exact List.mem_cons_of_mem _ (lookup_mem h)
theorem lookup_cons {α:Type} (k j:Nat) (a:α) (r:List (Nat × α)):lookup k ((j,a) :: r) = if j = k then some a else lookup k r:=by
  simp only [lookup]
  by_cases h:j = k
  · subst h;rw [Nat.beq_refl];simp
  · have:Nat.beq j k = false:=by
      cases hb:Nat.beq j k with
      | false=>rfl
      | true=>exact absurd (Nat.eq_of_beq_eq_true hb) h
    rw [this];simp [h]
theorem getD_put (a:Act) (dst:Option Nat) (u:Value) (t:Nat) (hd:∀ d,dst = some d→d < a.tmps.size) :
    (a.put dst u).tmps.getD t undef = if dst = some t then u else a.tmps.getD t undef:=by
  cases dst with
  | none=>simp [Act.put]
  | some d=>
    simp only [Act.put]
    by_cases e:d = t
    · subst e
      have:=hd d rfl
      simp [Array.getD,this]
    · have h2:(a.tmps.setIfInBounds d u).getD t undef = a.tmps.getD t undef:=by
        simp only [Array.getD_eq_getD_getElem?]
        rw [Array.getElem?_setIfInBounds_ne e]
      rw [h2]
      simp [e]
end Go.Fw
namespace Go.Fw
inductive TK where
  | bool | int (k:IntKind) | str | ptr | slice (e:TypeId) | arr (n:Nat) (e:TypeId) | struct (fs:List (Nat × TypeId)) | func | other
structure TE where
  size:Nat
  bytes:Nat
  agg:Bool
  k:TK
  zero:List AV
  eq:Bool:=false
abbrev Tab:=List (TypeId × TE)
def TK.ok:TK→TypeDesc→Bool
  | .bool,.bool=>true
  | .int k,.int k'=>decide (k = k')
  | .str,.string=>true
  | .ptr,.pointer _=>true
  | .slice e,.slice e'=>e == e'
  | .arr n e,.array m e'=>n == m && e == e'
  | .struct fs, .struct fields => fields.toList.map (fun f => (f.offset, f.type)) == fs && fields.all (fun f => f.name != "_")
  | .func,.func ..=>true
  | .other,d=>match d with | .struct _ | .array ..=>false | _=>true
  | _,_=>false
def TypeDesc.isAgg:TypeDesc→Bool
  | .struct _ | .array ..=>true
  | _=>false
def zeroChk:List AV→List Value→Bool
  | [],[]=>true
  | .bool b :: as,.bool b' :: vs=>(b == b') && zeroChk as vs
  | .int k n :: as,.int k' n' :: vs=>decide (k = k') && (n == n') && zeroChk as vs
  | .str [] :: as,.string s :: vs=>(s.size == 0) && zeroChk as vs
  | .nils :: as,.slice none 0 0 :: vs=>zeroChk as vs
  | .nilp :: as,.pointer none :: vs=>zeroChk as vs
  | .nilf :: as,.nilFunc :: vs=>zeroChk as vs
  | .any :: as,v :: vs=>v.oneCell' && zeroChk as vs
  | _,_=>false
def TE.ok (P:Program) (t:TypeId) (e:TE):Bool:=
  match P.info? t,P.underlying t with
  | some i,some d=>(i.size == e.size) && (i.bytes == e.bytes) && e.k.ok d && (e.agg == TypeDesc.isAgg d) && (!e.eq || (!P.stoodInHeld t && !P.eqGuardType P.depth t)) &&
    match i.zero with
    | some (.agg vs)=>e.agg && zeroChk e.zero vs.toList && (vs.size == e.size)
    | some v=>!e.agg && zeroChk e.zero [v] && (e.size == 1)
    | none=>false
  | _,_=>false
def tabOK (P:Program) (T:Tab):Bool:=T.all fun x=>x.2.ok P x.1
abbrev tget (T:Tab) (t:TypeId):Option TE:=lookup t T
def tyOf (T:Tab):Nat→TypeId→Option Ty
  | 0,_=>none
  | d + 1,t=>
    match tget T t with
    | some e=>match e.k with
      | .bool=>some .bool
      | .int k=>some (.int k)
      | .str=>some .str
      | .slice e=>match tyOf T d e with | some x=>some (.list x) | none=>none
      | .struct fs=>fs.foldr (fun f acc=>match tyOf T d f.2,acc with | some a,some b=>some (.cons a b) | _,_=>none) (some .nil)
      | .arr n e=>match tyOf T d e with | some x=>some ((List.replicate n x).foldr .cons .nil) | none=>none
      | _=>none
    | none=>none
def AV.un:AV→AV
  | .maybe _ v=>v
  | v=>v
def needs (v:AV) (p:Prop):Prop:=
  match v with
  | .maybe g _=>g = true∧p
  | _=>p
def needsAll:List AV→Prop→Prop
  | [],p=>p
  | v :: vs,p=>needs v (needsAll vs p)
def AV.pick (c:Bool):AV→AV→AV
  | .bool a,.bool b=>.bool (if c then a else b)
  | .int k a,.int k' b=>if k = k' then .int k (if c then a else b) else .any
  | .str a,.str b=>.str (if c then a else b)
  | _,_=>.any
def bitop (k:IntKind) (op:BinOp) (x y:Int):Int:=
  let a:=BitVec.ofInt k.bits x
  let b:=BitVec.ofInt k.bits y
  match op with
  | .and=>k.wrap (a &&& b).toNat
  | .or=>k.wrap (a ||| b).toNat
  | .xor=>k.wrap (a ^^^ b).toNat
  | .andNot=>k.wrap (a &&& ~~~b).toNat
  | _=>0
def subCells (T:Tab) (ft:TypeId) (cs:List AV) (off:Nat) (K:AV→Prop):Prop:=
  match tget T ft with
  | some fe=>match Nat.ble (off + fe.size) cs.length with
    | true=>match fe.agg with
      | true=>K (.agg ((cs.drop off).take fe.size))
      | false=>match Nat.beq fe.size 1 with | true=>K (cs.getD off .any) | false=>False
    | false=>False
  | none=>False
def eqFs (f:TypeId→List AV→List AV→Option Bool) (T:Tab):List (Nat × TypeId)→List AV→List AV→Option Bool
  | [],_,_=>some true
  | (off,ft) :: r,xs,ys=>
    match tget T ft with
    | some fe=>match Nat.ble (off + fe.size) xs.length,Nat.ble (off + fe.size) ys.length with
      | true,true=>match f ft ((xs.drop off).take fe.size) ((ys.drop off).take fe.size),eqFs f T r xs ys with
        | some a,some b=>some (a && b)
        | _,_=>none
      | _,_=>none
    | none=>none
def eqAr (f:List AV→List AV→Option Bool) (s:Nat):Nat→Nat→List AV→List AV→Option Bool
  | 0,_,_,_=>some true
  | n + 1,i,xs,ys=>
    match Nat.ble (i * s + s) xs.length,Nat.ble (i * s + s) ys.length with
    | true,true=>match f ((xs.drop (i * s)).take s) ((ys.drop (i * s)).take s),eqAr f s n (i + 1) xs ys with
      | some a,some b=>some (a && b)
      | _,_=>none
    | _,_=>none
def eqT (T:Tab):Nat→TypeId→List AV→List AV→Option Bool
  | 0,_,_,_=>none
  | d + 1,t,xs,ys=>
    match tget T t with
    | some e=>match e.k with
      | .int _=>match xs,ys with
        | [.int k x],[.int k' y]=>if k = k' then some (decide (x = y)) else none
        | _,_=>none
      | .bool=>match xs,ys with
        | [.bool x],[.bool y]=>some (decide (x = y))
        | _,_=>none
      | .str=>match xs,ys with
        | [.str x],[.str y]=>some (decide (x = y))
        | _,_=>none
      | .struct fs=>match e.eq with
        | true=>eqFs (eqT T d) T fs xs ys
        | false=>none
      | .arr n et=>match e.eq,tget T et with
        | true,some ee=>eqAr (eqT T d et) ee.size n 0 xs ys
        | _,_=>none
      | _=>none
    | none=>none
def binI (k:IntKind) (op:BinOp) (x y:Int) (K:AV→Prop):Prop:=
  match op with
  | .add=>K (.int k (k.wrap (x + y)))
  | .sub=>K (.int k (k.wrap (x - y)))
  | .mul=>K (.int k (k.wrap (x * y)))
  | .quo=>y≠0∧K (.int k (k.wrap (x.tdiv y)))
  | .rem=>y≠0∧K (.int k (x.tmod y))
  | .and=>K (.int k (bitop k .and x y))
  | .or=>K (.int k (bitop k .or x y))
  | .xor=>K (.int k (bitop k .xor x y))
  | .andNot=>K (.int k (bitop k .andNot x y))
  | .eql=>K (.bool (decide (x = y)))
  | .neq=>K (.bool (decide (x≠y)))
  | .lss=>K (.bool (decide (x < y)))
  | .leq=>K (.bool (decide (x≤y)))
  | .gtr=>K (.bool (decide (x > y)))
  | .geq=>K (.bool (decide (x≥y)))
  | _=>False
def binS (op:BinOp) (x y:List UInt8) (K:AV→Prop):Prop:=
  match op with
  | .add=>x.length + y.length≤9223372036854775807∧K (.str (x ++ y))
  | .eql=>K (.bool (decide (x = y)))
  | .neq=>K (.bool (decide (x≠y)))
  | _=>False
def isNilP:AV→AV→Option Bool
  | .nilp,.nilp=>some true
  | .nilp,.loc ..=>some false
  | .loc ..,.nilp=>some false
  | .nilp,.rop ..=>some false
  | .rop ..,.nilp=>some false
  | _,_=>none
def isNilS:AV→AV→Option Bool
  | .nils,.nils=>some true
  | _,_=>none
def isNilL:AV→AV→Option Prop
  | .list _ xs,.nils=>some (xs = [])
  | _,_=>none
def binV (T:Tab) (t:TypeId) (op:BinOp) (x y:AV) (K:AV→Prop):Prop:=
  match x,y with
  | .int k a,.int k' b=>
    match op with
    | .shl=>0≤b∧K (.int k (k.wrap (a * 2 ^ (min b.toNat k.bits))))
    | .shr=>0≤b∧K (.int k (a.fdiv (2 ^ (min b.toNat k.bits))))
    | _=>if k = k' then binI k op a b K else False
  | .str a,.str b=>binS op a b K
  | .bool a,.bool b=>match tget T t with
    | some e=>match e.k,op with
      | .bool,.eql=>K (.bool (decide (a = b)))
      | .bool,.neq=>K (.bool (decide (a≠b)))
      | _,_=>False
    | none=>False
  | .agg as,.agg bs=>match tget T t with
    | some e=>match Nat.beq as.length e.size,Nat.beq bs.length e.size,e.agg,e.eq with
      | true,true,true,true=>match eqT T 50 t as bs,op with
        | some r,.eql=>K (.bool r)
        | some r,.neq=>K (.bool (!r))
        | _,_=>False
      | _,_,_,_=>False
    | none=>False
  | _,_=>match tget T t with
    | some e=>match e.k,isNilP x y,isNilS x y,isNilL x y,op with
      | .ptr,some r,_,_,.eql=>K (.bool r)
      | .ptr,some r,_,_,.neq=>K (.bool (!r))
      | .slice _,_,some r,_,.eql=>K (.bool r)
      | .slice _,_,some r,_,.neq=>K (.bool (!r))
      | .slice _,_,_,some p,.eql=>K (.ub p True)
      | .slice _,_,_,some p,.neq=>K (.ub True p)
      | _,_,_,_,_=>False
    | none=>False
def AV.cells:AV→Option (List AV)
  | .agg cs=>some cs
  | .any=>none
  | .tup _=>none
  | .maybe _ _=>none
  | v=>some [v]
def fillCells (place:Nat→Option (Nat × Nat)):List (Nat × AV)→List AV→Option (List AV)
  | [],cs=>some cs
  | (i,v) :: r,cs=>match place i,v.cells with
    | some (off,size),some us=>match Nat.beq us.length size,Nat.ble (off + size) cs.length with
      | true,true=>fillCells place r (cs.take off ++ us ++ cs.drop (off + size))
      | _,_=>none
    | _,_=>none
def sizesOf (T:Tab) (fs:List (Nat × TypeId)) (i:Nat):Option (Nat × Nat):=
  match fs[i]? with
  | some (off,ft)=>match tget T ft with | some e=>some (off,e.size) | none=>none
  | none=>none
def byteOf (x:Int):UInt8:=UInt8.ofNat x.toNat
def loadV (T:Tab) (h:Heap) (t:TypeId) (a:AV) (K:AV→Prop):Prop:=
  match a with
  | .rop cs off=>subCells T t cs off K
  | .loc id off=>match h id with
    | some (.box cs)=>subCells T t cs off K
    | _=>False
  | .eloc id sz i off=>match h id with
    | some (.arr ty xs)=>match Nat.beq sz ty.size with
      | true=>i < xs.length∧subCells T t (explode ty (xs.getD i ty.dflt)) off K
      | false=>False
    | _=>False
  | _=>False
def convV (T:Tab) (h:Heap) (src dst:TypeId) (x:AV) (K:AV→Prop):Prop:=
  match tget T src,tget T dst with
  | some s,some d=>match s.k,d.k,x with
    | _,.int k,.int _ n=>K (.int k (k.wrap n))
    | _,.str,.str s=>K (.str s)
    | .slice e,.str,v=>match tget T e with
      | some ee=>match ee.k with
        | .int .u8=>match v with
          | .list (.int .u8) xs=>K (.str (xs.map byteOf))
          | .nils=>K (.str [])
          | .own id n=>match h id with
            | some (.arr (.int .u8) xs)=>n≤xs.length∧K (.str ((xs.take n).map byteOf))
            | _=>False
          | _=>False
        | _=>False
      | none=>False
    | _,_,_=>False
  | _,_=>False
def boundI (d:Int) (x:Option AV) (K:Int→Prop):Prop:=
  match x with
  | none=>K d
  | some (.int _ n)=>K n
  | _=>False
def sliceV (T:Tab) (t:TypeId) (x:AV) (lo hi:Option AV) (K:AV→Prop):Prop:=
  match tget T t with
  | some e=>match e.k,x with
    | .str,.str s=>boundI 0 lo fun l=>boundI s.length hi fun r=>(0≤l∧l≤r∧r≤s.length)∧K (.str ((s.take r.toNat).drop l.toNat))
    | .slice et,.list ty xs=>match tget T et with
      | some ee=>match Nat.beq ee.size ty.size with
        | true=>boundI 0 lo fun l=>boundI xs.length hi fun r=>(0≤l∧l≤r∧r≤xs.length)∧K (.list ty ((xs.take r.toNat).drop l.toNat))
        | false=>False
      | none=>False
    | .slice et,.own id n=>match lo,tget T et with
      | none,some _=>boundI n hi fun r=>(0≤r∧r≤n)∧K (.own id r.toNat)
      | _,_=>False
    | .slice et,.nils=>match tget T et with
      | some _=>boundI 0 lo fun l=>boundI 0 hi fun r=>(l = 0∧r = 0)∧K .nils
      | none=>False
    | _,_=>False
  | none=>False
def slice3V (T:Tab) (t:TypeId) (x:AV) (lo:Option AV) (hi mx:AV) (K:AV→Prop):Prop:=
  match tget T t with
  | some e=>match e.k,x with
    | .slice et,.list ty xs=>match tget T et with
      | some ee=>match Nat.beq ee.size ty.size with
        | true=>boundI 0 lo fun l=>boundI 0 (some hi) fun r=>boundI 0 (some mx) fun c=>(0≤l∧l≤r∧r≤c∧c≤xs.length)∧K (.list ty ((xs.take r.toNat).drop l.toNat))
        | false=>False
      | none=>False
    | _,_=>False
  | none=>False
def indexV (T:Tab) (t:TypeId) (x:AV) (i:AV) (K:AV→Prop):Prop:=
  match i with
  | .int _ i=>match tget T t with
    | some e=>match e.k,x with
      | .str,.str s=>(0≤i∧i < s.length)∧K (.int .u8 (s.getD i.toNat 0).toNat)
      | .arr n et,.agg cs=>match tget T et with
        | some ee=>(0≤i∧i < n)∧subCells T et cs (i.toNat * ee.size) K
        | none=>False
      | _,_=>False
    | none=>False
  | _=>False
def indexAddrV (T:Tab) (h:Heap) (t:TypeId) (x:AV) (i:AV) (K:AV→Prop):Prop:=
  match i with
  | .int _ i=>match tget T t with
    | some e=>match e.k,x with
      | .slice et,.list ty xs=>match tget T et with
        | some ee=>match Nat.beq ee.size ty.size with
          | true=>(0≤i∧i < xs.length)∧K (.rop (explode ty (xs.getD i.toNat ty.dflt)) 0)
          | false=>False
        | none=>False
      | .slice et,.own id n=>match tget T et,h id with
        | some ee,some (.arr ty _)=>match Nat.beq ee.size ty.size with
          | true=>(0≤i∧i < n)∧K (.eloc id ty.size i.toNat 0)
          | false=>False
        | _,_=>False
      | .arr n et,.loc id off=>match tget T et with
        | some ee=>(0≤i∧i < n)∧K (.loc id (off + i.toNat * ee.size))
        | none=>False
      | .arr n et,.rop cs off=>match tget T et with
        | some ee=>(0≤i∧i < n)∧K (.rop cs (off + i.toNat * ee.size))
        | none=>False
      | _,_=>False
    | none=>False
  | _=>False
def lenV (T:Tab) (t:TypeId) (x:AV) (K:AV→Prop):Prop:=
  match tget T t with
  | some e=>match e.k,x with
    | .str,.str s=>K (.int .i64 s.length)
    | .slice _,.list _ xs=>K (.int .i64 xs.length)
    | .slice _,.own _ n=>K (.int .i64 n)
    | .slice _,.nils=>K (.int .i64 0)
    | .arr n _,_=>K (.int .i64 n)
    | _,_=>False
  | none=>False
def foldInts (f:Int→Int→Int) (k:IntKind):Int→List AV→Option Int
  | x,[]=>some x
  | x,.int k' y :: r=>if k = k' then foldInts f k (f x y) r else none
  | _,_=>none
def pureV (T:Tab) (h:Heap) (ev:Operand→AV) (op:Op) (K:AV→Prop):Prop:=
  match op with
  | .move x | .assign x=>K (ev x)
  | .field xt x f=>match tget T xt,ev x with
    | some e,.agg cs=>match e.k with
      | .struct fs=>match fs[f]? with
        | some (off,ft)=>subCells T ft cs off K
        | none=>False
      | _=>False
    | _,_=>False
  | .extract x i=>match ev x with
    | .tup vs=>match Nat.blt i vs.length with | true=>K (vs.getD i .any) | false=>False
    | _=>False
  | .binOp op t x y _=>binV T t op (ev x) (ev y) K
  | .unOp .not _ x=>match ev x with | .bool b=>K (.bool (!b)) | _=>False
  | .unOp .neg _ x=>match ev x with | .int k n=>K (.int k (k.wrap (0 - n))) | _=>False
  | .convert s d x=>convV T h s d (ev x) K
  | .nilCheck x=>match ev x with
    | .loc id off=>K (.loc id off)
    | .rop cs off=>K (.rop cs off)
    | .eloc id sz i off=>K (.eloc id sz i off)
    | .fn f cs=>K (.fn f cs)
    | _=>False
  | .fieldAddr t x f=>match tget T t with
    | some e=>match e.k with
      | .struct fs=>match fs[f]? with
        | some (off,ft)=>match tget T ft with
          | some fe=>match Nat.beq fe.size 0 with
            | true=>False
            | false=>match ev x with
              | .loc id o=>K (.loc id (o + off))
              | .rop cs o=>K (.rop cs (o + off))
              | .eloc id sz i o=>K (.eloc id sz i (o + off))
              | _=>False
          | none=>False
        | none=>False
      | _=>False
    | none=>False
  | .indexAddr t x i=>indexAddrV T h t (ev x) (ev i) K
  | .index t x i=>indexV T t (ev x) (ev i) K
  | .load t a=>loadV T h t (ev a) K
  | .slice t x lo hi none=>sliceV T t (ev x) (lo.map ev) (hi.map ev) K
  | .slice t x lo (some hi) (some m)=>slice3V T t (ev x) (lo.map ev) (ev hi) (ev m) K
  | .build t parts=>match tget T t with
    | some e=>match e.k with
      | .struct fs=>match fs.all (fun f=>(tget T f.2).isSome),fillCells (sizesOf T fs) (parts.toList.map fun p=>(p.1,ev p.2)) e.zero with
        | true,some cs=>K (.agg cs)
        | _,_=>False
      | .arr _ et=>match tget T et with
        | some ee=>match fillCells (fun i=>some (i * ee.size,ee.size)) (parts.toList.map fun p=>(p.1,ev p.2)) e.zero with
          | some cs=>K (.agg cs)
          | none=>False
        | none=>False
      | _=>False
    | none=>False
  | .makeFunc (.func f) ⟨[]⟩ captured=>K (.fn f (captured.toList.map ev))
  | .call ⟨.builtin .len,⟨[x]⟩,⟨[t]⟩⟩=>lenV T t (ev x) K
  | .call ⟨.builtin .min,⟨x :: xs⟩,_⟩=>match ev x with
    | .int k n=>match foldInts min k n (xs.map ev) with | some r=>K (.int k r) | none=>False
    | _=>False
  | .call ⟨.builtin .max,⟨x :: xs⟩,_⟩=>match ev x with
    | .int k n=>match foldInts max k n (xs.map ev) with | some r=>K (.int k r) | none=>False
    | _=>False
  | _=>False
end Go.Fw
namespace Go.Fw
theorem bs_size (l:List UInt8):(bs l).size = l.length:=by simp [bs,ByteArray.size]
theorem bs_toList (l:List UInt8):(bs l).toList = l:=by rw [ByteArray.toList_eq];simp [bs]
theorem bs_append (l m:List UInt8):bs l ++ bs m = bs (l ++ m):=by
  apply ByteArray.ext
  simp [bs,ByteArray.data_append]
theorem bs_extract (l:List UInt8) (i j:Nat):(bs l).extract i j = bs ((l.take j).drop i):=by
  apply ByteArray.ext
  simp [bs,ByteArray.data_extract,List.drop_take]
structure TInfo (P:Program) (t:TypeId) (e:TE):Prop where
  ex:∃ i d,P.info? t = some i∧P.underlying t = some d∧i.size = e.size∧i.bytes = e.bytes∧e.k.ok d = true∧e.agg = TypeDesc.isAgg d∧(e.eq = true→P.stoodInHeld t = false∧P.eqGuardType P.depth t = false)∧
    ((∃ vs:Array Value,i.zero = some (.agg vs)∧e.agg = true∧zeroChk e.zero vs.toList = true∧vs.size = e.size)∨
     (∃ v,i.zero = some v∧v.oneCell' = true∧v.cells = #[v]∧e.agg = false∧zeroChk e.zero [v] = true∧e.size = 1))
theorem zeroChk_one:∀ {as:List AV} {vs:List Value},zeroChk as vs = true→∀ v∈vs,v.oneCell' = true:=by
  intro as vs h
  fun_induction zeroChk as vs <;> simp_all [Value.oneCell']
theorem TE.ok_info {P:Program} {t:TypeId} {e:TE} (h:e.ok P t = true):TInfo P t e:=by
  unfold TE.ok at h
  split at h
  · rename_i i d hi hd
    simp only [Bool.and_eq_true,beq_iff_eq] at h
    obtain ⟨⟨⟨⟨⟨h1,h2⟩,h3⟩,h4⟩,h6⟩,h5⟩:=h
    refine ⟨i,d,hi,hd,h1,h2,h3,h4,fun he=>by simpa [he] using h6,?_⟩
    split at h5
    · rename_i vs hz
      simp only [Bool.and_eq_true,beq_iff_eq] at h5
      exact .inl ⟨vs,hz,h5.1.1,h5.1.2,h5.2⟩
    · rename_i v hv hz
      simp only [Bool.and_eq_true,beq_iff_eq,Bool.not_eq_true'] at h5
      have hone:=zeroChk_one h5.1.2 v (by simp)
      refine .inr ⟨v,hz,hone,?_,h5.1.1,h5.1.2,h5.2⟩
      cases v <;> simp_all [Value.cells]
    · simp at h5
  · simp at h
theorem tab_ok {P:Program} {T:Tab} (hT:tabOK P T = true) {t:TypeId} {e:TE} (h:tget T t = some e):TInfo P t e:=by
  have:=lookup_mem h
  unfold tabOK at hT
  rw [List.all_eq_true] at hT
  exact TE.ok_info (hT _ this)
theorem hasAny_getD {id:Nat}:∀ (cs:List AV) (i:Nat),(cs.getD i .any).has id = true→AV.hasAny id cs = true
  | [],_,h=>by simp [AV.has] at h
  | a :: cs,0,h=>by simp at h;simp [AV.hasAny,h]
  | a :: cs,i + 1,h=>by simp at h;simp [AV.hasAny,hasAny_getD cs i (by simpa using h)]
theorem hasAny_take {id:Nat}:∀ (n:Nat) (cs:List AV),AV.hasAny id (cs.take n) = true→AV.hasAny id cs = true
  | 0,_,h=>by simp [AV.hasAny] at h
  | n + 1,[],h=>by simp [AV.hasAny] at h
  | n + 1,a :: cs,h=>by
    simp only [List.take_succ_cons,AV.hasAny,Bool.or_eq_true] at h ⊢
    exact h.imp (fun h=>h) (hasAny_take n cs)
theorem hasAny_drop {id:Nat}:∀ (n:Nat) (cs:List AV),AV.hasAny id (cs.drop n) = true→AV.hasAny id cs = true
  | 0,_,h=>h
  | n + 1,[],h=>by simp [AV.hasAny] at h
  | n + 1,a :: cs,h=>by
    simp only [List.drop_succ_cons] at h
    simp [AV.hasAny,hasAny_drop n cs h]
theorem hasAny_append {id:Nat}:∀ (as bs:List AV),AV.hasAny id (as ++ bs) = (AV.hasAny id as || AV.hasAny id bs)
  | [],bs=>by simp [AV.hasAny]
  | a :: as,bs=>by simp [AV.hasAny,hasAny_append as bs,Bool.or_assoc]
theorem hasAny_explode {id:Nat}:∀ (t:Ty) (x:t.D),AV.hasAny id (explode t x) = false
  | .bool,_=>by simp [explode,AV.hasAny,AV.has]
  | .int _,_=>by simp [explode,AV.hasAny,AV.has]
  | .str,_=>by simp [explode,AV.hasAny,AV.has]
  | .nil,_=>by simp [explode,AV.hasAny]
  | .cons a b,x=>by simp [explode,hasAny_append,hasAny_explode a,hasAny_explode b]
  | .list _,_=>by simp [explode,AV.hasAny,AV.has]
section
variable {P:Program} {T:Tab} (hT:tabOK P T = true)
include hT
theorem run_sizeOf_tab {t:TypeId} {e:TE} (h:tget T t = some e) (w:World):(sizeOf t).run P w = .ok e.size w:=by
  obtain ⟨i,d,hi,_,hs,_⟩:=(tab_ok hT h).ex
  simp [sizeOf,typeInfo,hi,hs]
theorem run_isAgg_tab {t:TypeId} {e:TE} (h:tget T t = some e) (w:World):(isAgg t).run P w = .ok e.agg w:=by
  obtain ⟨i,d,_,hd,_,_,_,ha,_⟩:=(tab_ok hT h).ex
  unfold isAgg
  rw [Sem.run_bind,run_underlying hd]
  cases d <;> simp_all [TypeDesc.isAgg]
omit hT in
theorem subCells_sound {ft:TypeId} {cs:List AV} {off:Nat} {K:AV→Prop} (h:subCells T ft cs off K) :
    ∃ v e,K v∧(∀ id,v.has id = true→AV.hasAny id cs = true)∧tget T ft = some e∧∀ φ R w vs,RepVs φ R w cs vs→
      ∃ u,RepV φ R w v u∧off + e.size≤vs.length∧((e.agg = true∧u = .agg ((vs.drop off).take e.size).toArray)∨(e.agg = false∧e.size = 1∧vs[off]? = some u)):=by
  unfold subCells at h
  split at h
  · rename_i fe hfe
    split at h
    · rename_i hle
      have hle:=Nat.le_of_ble_eq_true hle
      split at h
      · rename_i ha
        refine ⟨_,fe,h,fun id hid=>?_,hfe,fun φ R w vs hr=>⟨_,?_,by have:=hr.length;omega,.inl ⟨ha,rfl⟩⟩⟩
        · simp only [AV.has] at hid
          exact hasAny_drop _ _ (hasAny_take _ _ hid)
        · simp only [RepV]
          exact ⟨_,rfl,by simpa using RepVs.take _ (RepVs.drop _ hr)⟩
      · rename_i ha
        split at h
        · rename_i h1
          have h1:=Nat.eq_of_beq_eq_true h1
          refine ⟨_,fe,h,fun id hid=>hasAny_getD _ _ hid,hfe,fun φ R w vs hr=>?_⟩
          have hl:=hr.length
          have hlt:off < vs.length:=by omega
          exact ⟨vs[off],hr.get off vs[off] (by simp [hlt]),by omega,.inr ⟨ha,h1,by simp [hlt]⟩⟩
        · exact h.elim
    · exact h.elim
  · exact h.elim
theorem part_sound {ft:TypeId} {cs:List AV} {off:Nat} {K:AV→Prop} (h:subCells T ft cs off K) :
    ∃ v,K v∧(∀ id,v.has id = true→AV.hasAny id cs = true)∧∀ φ R w (vs:Array Value),RepVs φ R w cs vs.toList→∃ u,RepV φ R w v u∧(part ft vs off).run P w = .ok u w:=by
  obtain ⟨v,e,hk,hn,he,hs⟩:=subCells_sound h
  refine ⟨v,hk,hn,fun φ R w vs hr=>?_⟩
  obtain ⟨u,hv,hle,hu⟩:=hs φ R w _ hr
  refine ⟨u,hv,?_⟩
  unfold part
  rw [Sem.run_bind,run_isAgg_tab hT he]
  rcases hu with ⟨ha,rfl⟩|⟨ha,h1,hu⟩
  · simp only [ha,Result.andThen_ok,if_true,Sem.run_bind,run_sizeOf_tab hT he,Sem.run_pure]
    congr 2
    apply Array.ext'
    simp [Array.toList_extract,List.extract_eq_take_drop]
  · have:vs[off]? = some u:=by simpa using hu
    simp [ha,this]
theorem load_sound {t:TypeId} {cs:List AV} {off:Nat} {K:AV→Prop} (h:subCells T t cs off K) :
    ∃ v,K v∧(∀ id,v.has id = true→AV.hasAny id cs = true)∧∀ φ R w vs b base,RepVs φ R w cs vs→(∀ i v,vs[i]? = some v→w.cell? ⟨b,base + i,none⟩ = some v)→
      ∃ u,RepV φ R w v u∧(Instr.loadAt t (.pointer (some ⟨b,base + off,none⟩))).run P w = .ok u w:=by
  obtain ⟨v,e,hk,hn,he,hs⟩:=subCells_sound h
  refine ⟨v,hk,hn,fun φ R w vs b base hr hc=>?_⟩
  obtain ⟨u,hv,hle,hu⟩:=hs φ R w _ hr
  refine ⟨u,hv,?_⟩
  simp only [Instr.loadAt,Instr.sureAddr,loadVar,Sem.run_bind,Sem.run_pure,Result.andThen_ok,run_isAgg_tab hT he]
  rcases hu with ⟨ha,rfl⟩|⟨ha,h1,hu⟩
  · simp only [ha,if_true,Sem.run_bind,run_sizeOf_tab hT he,Result.andThen_ok]
    have hl:((vs.drop off).take e.size).length = e.size:=by simp;omega
    have:=run_loadCells_list (P:=P) w ⟨b,base + off,none⟩ ((vs.drop off).take e.size) (fun j v hj=>by
      rw [Addr.add_lit]
      have hjl:j < e.size:=by
        have:=(List.getElem?_eq_some_iff.1 hj).1
        omega
      have:vs[off + j]? = some v:=by
        rw [List.getElem?_take,if_pos hjl,List.getElem?_drop] at hj
        exact hj
      have:=hc _ _ this
      rw [← Nat.add_assoc] at this
      exact this)
    rw [hl] at this
    simp [this]
  · simp only [ha,Bool.false_eq_true,if_false]
    rw [run_load,hc off u hu]
theorem tab_k {t:TypeId} {e:TE} (h:tget T t = some e):∃ d,P.underlying t = some d∧e.k.ok d = true:=by
  obtain ⟨i,d,_,hd,_,_,hok,_⟩:=(tab_ok hT h).ex
  exact ⟨d,hd,hok⟩
theorem tk_struct {t:TypeId} {e:TE} {fs:List (Nat × TypeId)} (h:tget T t = some e) (hk:e.k = .struct fs) :
    ∃ fields : Array Field, P.underlying t = some (.struct fields) ∧ fields.toList.map (fun f => (f.offset, f.type)) = fs ∧ ∀ f ∈ fields.toList, f.name ≠ "_" := by
  obtain ⟨d,hd,hok⟩:=tab_k hT h
  rw [hk] at hok
  cases d <;> simp [TK.ok] at hok
  rename_i fields
  exact ⟨fields,hd,by simpa using hok.1,fun f hf=>by
    have:=hok.2
    obtain ⟨i,hi,rfl⟩:=List.getElem_of_mem hf
    simpa using this i (by simpa using hi)⟩
theorem tk_arr {t:TypeId} {e:TE} {n:Nat} {et:TypeId} (h:tget T t = some e) (hk:e.k = .arr n et):P.underlying t = some (.array n et):=by
  obtain ⟨d,hd,hok⟩:=tab_k hT h
  rw [hk] at hok
  cases d <;> simp [TK.ok] at hok
  rw [hd,hok.1,hok.2]
theorem tk_slice {t:TypeId} {e:TE} {et:TypeId} (h:tget T t = some e) (hk:e.k = .slice et):P.underlying t = some (.slice et):=by
  obtain ⟨d,hd,hok⟩:=tab_k hT h
  rw [hk] at hok
  cases d <;> simp [TK.ok] at hok
  rw [hd,hok]
theorem tk_str {t:TypeId} {e:TE} (h:tget T t = some e) (hk:e.k = .str):P.underlying t = some .string:=by
  obtain ⟨d,hd,hok⟩:=tab_k hT h
  rw [hk] at hok
  cases d <;> simp [TK.ok] at hok
  exact hd
theorem tk_bool {t:TypeId} {e:TE} (h:tget T t = some e) (hk:e.k = .bool):P.underlying t = some .bool:=by
  obtain ⟨d,hd,hok⟩:=tab_k hT h
  rw [hk] at hok
  cases d <;> simp [TK.ok] at hok
  exact hd
theorem tk_int {t:TypeId} {e:TE} {k:IntKind} (h:tget T t = some e) (hk:e.k = .int k):P.underlying t = some (.int k):=by
  obtain ⟨d,hd,hok⟩:=tab_k hT h
  rw [hk] at hok
  cases d <;> simp [TK.ok] at hok
  rw [hd,hok]
theorem tk_ptr {t:TypeId} {e:TE} (h:tget T t = some e) (hk:e.k = .ptr):∃ x,P.underlying t = some (.pointer x):=by
  obtain ⟨d,hd,hok⟩:=tab_k hT h
  rw [hk] at hok
  cases d <;> simp [TK.ok] at hok
  exact ⟨_,hd⟩
theorem field_sound {t ft:TypeId} {e:TE} {fs:List (Nat × TypeId)} {f off:Nat} {cs:List AV} {K:AV→Prop}
    (he:tget T t = some e) (hk:e.k = .struct fs) (hf:fs[f]? = some (off,ft)) (h:subCells T ft cs off K) :
    ∃ v,K v∧(∀ id,v.has id = true→AV.hasAny id cs = true)∧∀ φ R w (vs:Array Value),RepVs φ R w cs vs.toList→∃ u,RepV φ R w v u∧(Instr.field t (.agg vs) f).run P w = .ok u w:=by
  obtain ⟨fields,hd,hfs,_⟩:=tk_struct hT he hk
  subst hfs
  obtain ⟨v,hk,hn,hs⟩:=part_sound hT h
  refine ⟨v,hk,hn,fun φ R w vs hr=>?_⟩
  obtain ⟨u,hv,hp⟩:=hs φ R w vs hr
  refine ⟨u,hv,?_⟩
  simp only [List.getElem?_map,Option.map_eq_some_iff] at hf
  obtain ⟨fld,hfl,hfe⟩:=hf
  simp only [Prod.mk.injEq] at hfe
  obtain ⟨rfl,rfl⟩:=hfe
  have hfl':fields[f]? = some fld:=by simpa using hfl
  simp [Instr.field,run_underlying hd,hfl',asAgg,hp]
end
end Go.Fw
namespace Go.Fw
def valOf (e:TE) (us:List Value):Value:=if e.agg then .agg us.toArray else us.headD undef
section
variable {P:Program} {T:Tab} (hT:tabOK P T = true)
include hT
theorem tab_one {t:TypeId} {e:TE} (h:tget T t = some e) (ha:e.agg = false):e.size = 1:=by
  obtain ⟨i,d,_,_,_,_,_,_,_,h⟩:=(tab_ok hT h).ex
  rcases h with ⟨_,_,h,_⟩|⟨_,_,_,_,_,_,h⟩
  · simp [ha] at h
  · exact h
theorem tab_agg {t:TypeId} {e:TE} (h:tget T t = some e) {d:TypeDesc} (hd:P.underlying t = some d):e.agg = TypeDesc.isAgg d:=by
  obtain ⟨i,d',_,hd',_,_,_,ha,_⟩:=(tab_ok hT h).ex
  rw [hd] at hd'
  simp only [Option.some.injEq] at hd'
  rw [ha,hd']
theorem tab_eq {t:TypeId} {e:TE} (h:tget T t = some e) (he:e.eq = true):P.stoodInHeld t = false∧P.eqGuardType P.depth t = false:=by
  obtain ⟨i,d',_,hd',_,_,_,ha,h,_⟩:=(tab_ok hT h).ex
  exact h he
theorem part_run {w:World} {ft:TypeId} {fe:TE} {off:Nat} {vs:List Value} (h:tget T ft = some fe) (hl:off + fe.size≤vs.length) :
    (part ft vs.toArray off).run P w = .ok (valOf fe ((vs.drop off).take fe.size)) w:=by
  unfold part valOf
  rw [Sem.run_bind,run_isAgg_tab hT h]
  cases ha:fe.agg with
  | true=>
    simp only [Result.andThen_ok,if_true,Sem.run_bind,run_sizeOf_tab hT h,Sem.run_pure]
    congr 2
    apply Array.ext'
    simp [Array.toList_extract,List.extract_eq_take_drop]
  | false=>
    have h1:=tab_one hT h ha
    have hlt:off < vs.length:=by omega
    rw [h1]
    have:(vs.drop off).take 1 = [vs[off]]:=by rw [List.drop_eq_getElem_cons hlt,List.take_succ_cons,List.take_zero]
    simp [this,hlt]
theorem eqT_sound {φ:Place} {R:Prot} {w:World}:∀ (d:Nat) (t:TypeId) (e:TE) (xs ys:List AV) (r:Bool) (us ws:List Value),eqT T d t xs ys = some r→tget T t = some e→
    RepVs φ R w xs us→RepVs φ R w ys ws→us.length = e.size→ws.length = e.size→∀ d',d≤d'→(Op.equalIn d' t (valOf e us) (valOf e ws)).run P w = .ok r w:=by
  intro d
  induction d with
  | zero=>intro t e xs ys r us ws h;simp [eqT] at h
  | succ d ih=>
    intro t e xs ys r us ws h he hx hy hlx hly d' hd'
    obtain ⟨d',rfl⟩:∃ m,d' = m + 1:=⟨d' - 1,by omega⟩
    unfold eqT at h
    simp only [he] at h
    split at h
    · rename_i k hk
      have hd:=tk_int hT he hk
      have ha:e.agg = false:=tab_agg hT he hd
      split at h
      · rename_i k1 x k2 y
        split at h
        · rename_i hkk
          subst hkk
          simp only [Option.some.injEq] at h
          subst h
          simp only [RepVs,RepV] at hx hy
          obtain ⟨_,_,rfl,rfl,rfl⟩:=hx
          obtain ⟨_,_,rfl,rfl,rfl⟩:=hy
          simp only [valOf,ha,Bool.false_eq_true,if_false,List.headD_cons]
          rw [run_equalIn_int w d' t k1 k x y hd]
          congr 1
        · simp at h
      · simp at h
    · rename_i hk
      have hd:=tk_bool hT he hk
      have ha:e.agg = false:=tab_agg hT he hd
      split at h
      · simp only [Option.some.injEq] at h
        subst h
        simp only [RepVs,RepV] at hx hy
        obtain ⟨_,_,rfl,rfl,rfl⟩:=hx
        obtain ⟨_,_,rfl,rfl,rfl⟩:=hy
        simp only [valOf,ha,Bool.false_eq_true,if_false,List.headD_cons]
        rw [run_equalIn_bool w d' t _ _ hd]
        congr 1
      · simp at h
    · rename_i hk
      have hd:=tk_str hT he hk
      have ha:e.agg = false:=tab_agg hT he hd
      split at h
      · rename_i x y
        simp only [Option.some.injEq] at h
        subst h
        simp only [RepVs,RepV] at hx hy
        obtain ⟨_,_,rfl,rfl,rfl⟩:=hx
        obtain ⟨_,_,rfl,rfl,rfl⟩:=hy
        simp only [valOf,ha,Bool.false_eq_true,if_false,List.headD_cons]
        rw [run_equalIn_string w d' t _ _ hd,bs_toList,bs_toList]
        congr 1
        by_cases hxy:x = y <;> simp [hxy]
      · simp at h
    · rename_i fs hk
      split at h
      · rename_i heq
        obtain ⟨fields,hd,hfs,hn⟩:=tk_struct hT he hk
        have ha:e.agg = true:=tab_agg hT he hd
        have hfo:P.fieldsOf t = fields:=by simp [Program.fieldsOf,hd]
        simp only [valOf,ha,if_true]
        rw [run_equalIn_struct w d' t us.toArray ws.toArray (by rw [hfo];exact hd) (tab_eq hT he heq).1,hfo]
        subst hfs
        clear hd hk hfo
        generalize fields.toList = fl at h hn
        clear fields
        induction fl generalizing r with
        | nil=>simp [eqFs] at h;simp [Op.eqFields,h]
        | cons f fl ihf=>
          simp only [List.map_cons,eqFs] at h
          split at h
          · rename_i fe hfe
            split at h
            · rename_i h1 h2
              split at h
              · rename_i a b hfa hfb
                simp only [Option.some.injEq] at h
                subst h
                have h1:=Nat.le_of_ble_eq_true h1
                have h2:=Nat.le_of_ble_eq_true h2
                have hll:=hx.length
                have hll':=hy.length
                have hnf:=hn f (List.mem_cons_self ..)
                have ih1:=ih f.type fe _ _ a _ _ hfa hfe (RepVs.take _ (RepVs.drop _ hx)) (RepVs.take _ (RepVs.drop _ hy)) (by simp;omega) (by simp;omega) d' (by omega)
                simp only [Op.eqFields,if_pos hnf,Sem.run_bind]
                rw [part_run hT hfe (by omega)]
                simp only [Result.andThen_ok,Sem.run_bind]
                rw [part_run hT hfe (by omega)]
                simp only [Result.andThen_ok,Sem.run_bind]
                rw [ih1]
                simp only [Result.andThen_ok]
                cases a with
                | false=>simp
                | true=>simp;exact ihf b hfb (fun f hf=>hn f (List.mem_cons_of_mem _ hf))
              · simp at h
            · simp at h
          · simp at h
      · simp at h
    · rename_i n et hk
      split at h
      · rename_i ee heq hee
        have hd:=tk_arr hT he hk
        have ha:e.agg = true:=tab_agg hT he hd
        simp only [valOf,ha,if_true]
        have key:∀ (n i:Nat) (r:Bool),eqAr (eqT T d et) ee.size n i xs ys = some r→
            (forIn (m:=Sem) (List.range' i n) ((none,()):Option Bool × Unit) (fun i _=>do
              if !(← Op.equalIn d' et (← part et us.toArray (i * ee.size)) (← part et ws.toArray (i * ee.size))) then pure (ForInStep.done (some false,()))
              else pure (ForInStep.yield (none,())))).run P w = .ok (if r then (none,()) else (some false,())) w:=by
          intro n
          induction n with
          | zero=>intro i r h;simp [eqAr] at h;simp [← h]
          | succ n ihn=>
            intro i r h
            simp only [eqAr] at h
            split at h
            · rename_i h1 h2
              split at h
              · rename_i a b hfa hfb
                simp only [Option.some.injEq] at h
                subst h
                have h1:=Nat.le_of_ble_eq_true h1
                have h2:=Nat.le_of_ble_eq_true h2
                have hll:=hx.length
                have hll':=hy.length
                have ih1:=ih et ee _ _ a _ _ hfa hee (RepVs.take _ (RepVs.drop _ hx)) (RepVs.take _ (RepVs.drop _ hy)) (by simp;omega) (by simp;omega) d' (by omega)
                simp only [List.range'_succ,List.forIn_cons,Sem.run_bind]
                rw [part_run hT hee (by omega)]
                simp only [Result.andThen_ok,Sem.run_bind]
                rw [part_run hT hee (by omega)]
                simp only [Result.andThen_ok,Sem.run_bind]
                rw [ih1]
                simp only [Result.andThen_ok]
                cases a with
                | false=>simp
                | true=>simpa using ihn (i + 1) b hfb
              · simp at h
            · simp at h
        simp only [Op.equalIn,Sem.run_bind,run_underlying hd,Result.andThen_ok,run_sizeOf_tab hT hee,Std.Legacy.Range.forIn_eq_forIn_range',Std.Legacy.Range.size]
        rw [show (n - 0 + 1 - 1) / 1 = n by simp,key n 0 r h]
        cases r <;> simp
      · simp at h
    · simp at h
abbrev NamesIn (v:AV) (p:Nat→Prop):Prop:=∀ id,v.has id = true→p id
omit hT in
theorem binI_sound {k:IntKind} {op:BinOp} {x y:Int} {K:AV→Prop} (h:binI k op x y K) :
    ∃ v,K v∧(∀ id,v.has id = false)∧∀ φ R (w:World) t,∃ u,RepV φ R w v u∧(binOp op t (.int k x) (.int k y)).run P w = .ok u w:=by
  unfold binI at h
  split at h
  · exact ⟨_,h,by simp [AV.has],fun φ R w t=>⟨_,rfl,by simp [binOp_add,Op.intArith]⟩⟩
  · exact ⟨_,h,by simp [AV.has],fun φ R w t=>⟨_,rfl,by simp [binOp_sub,Op.intArith]⟩⟩
  · exact ⟨_,h,by simp [AV.has],fun φ R w t=>⟨_,rfl,by simp [binOp_mul,Op.intArith]⟩⟩
  · exact ⟨_,h.2,by simp [AV.has],fun φ R w t=>⟨_,rfl,by simp [binOp_quo,Op.intDiv,h.1]⟩⟩
  · exact ⟨_,h.2,by simp [AV.has],fun φ R w t=>⟨_,rfl,by simp [binOp_rem,Op.intDiv,h.1]⟩⟩
  · exact ⟨_,h,by simp [AV.has],fun φ R w t=>⟨_,rfl,by simp [binOp_and,Op.intBits,bitop]⟩⟩
  · exact ⟨_,h,by simp [AV.has],fun φ R w t=>⟨_,rfl,by simp [binOp_or,Op.intBits,bitop]⟩⟩
  · exact ⟨_,h,by simp [AV.has],fun φ R w t=>⟨_,rfl,by simp [binOp_xor,Op.intBits,bitop]⟩⟩
  · exact ⟨_,h,by simp [AV.has],fun φ R w t=>⟨_,rfl,by simp [binOp_andNot,Op.intBits,bitop]⟩⟩
  · exact ⟨_,h,by simp [AV.has],fun φ R w t=>⟨_,rfl,by simp [binOp_eql];rfl⟩⟩
  · exact ⟨_,h,by simp [AV.has],fun φ R w t=>⟨_,rfl,by by_cases hxy:x = y <;> simp [binOp_neq,hxy]⟩⟩
  · exact ⟨_,h,by simp [AV.has],fun φ R w t=>⟨_,rfl,by simp [binOp_lss]⟩⟩
  · exact ⟨_,h,by simp [AV.has],fun φ R w t=>⟨_,rfl,by simp [binOp_leq]⟩⟩
  · exact ⟨_,h,by simp [AV.has],fun φ R w t=>⟨_,rfl,by simp [binOp_gtr]⟩⟩
  · exact ⟨_,h,by simp [AV.has],fun φ R w t=>⟨_,rfl,by simp [binOp_geq]⟩⟩
  · exact h.elim
omit hT in
theorem binS_sound {op:BinOp} {x y:List UInt8} {K:AV→Prop} (h:binS op x y K) :
    ∃ v,K v∧(∀ id,v.has id = false)∧∀ φ R (w:World) t,∃ u,RepV φ R w v u∧(binOp op t (.string (bs x)) (.string (bs y))).run P w = .ok u w:=by
  unfold binS at h
  split at h
  · refine ⟨_,h.2,by simp [AV.has],fun φ R w t=>⟨_,rfl,?_⟩⟩
    have:=h.1
    simp only [binOp,Op.stringOp,bs_size,IntKind.max_i64,bs_append]
    rw [if_neg (by omega)]
    rfl
  · exact ⟨_,h,by simp [AV.has],fun φ R w t=>⟨_,rfl,by
      simp only [binOp,Op.stringOp,bs_toList]
      by_cases hxy:x = y <;> simp [hxy]⟩⟩
  · exact ⟨_,h,by simp [AV.has],fun φ R w t=>⟨_,rfl,by
      simp only [binOp,Op.stringOp,bs_toList]
      by_cases hxy:x = y <;> simp [hxy]⟩⟩
  · exact h.elim
omit hT in
theorem run_equalIn_nilL (w:World) (d:Nat) (t z:TypeId) (ht:P.underlying t = some (.pointer z)) (b:Option Addr):(Op.equalIn (d + 1) t (.pointer none) (.pointer b)).run P w = .ok b.isNone w:=by
  simp only [Op.equalIn,Sem.run_bind,run_underlying ht,Result.andThen_ok,Sem.run_pure]
omit hT in
theorem run_equalIn_nilR (w:World) (d:Nat) (t z:TypeId) (ht:P.underlying t = some (.pointer z)) (b:Addr):(Op.equalIn (d + 1) t (.pointer (some b)) (.pointer none)).run P w = .ok false w:=by
  simp only [Op.equalIn,Sem.run_bind,run_underlying ht,Result.andThen_ok,Sem.run_pure]
omit hT in
theorem run_equalIn_nilS (w:World) (d:Nat) (t z:TypeId) (ht:P.underlying t = some (.slice z)) (b:Option Addr) (n c:Nat):(Op.equalIn (d + 1) t (.slice none 0 0) (.slice b n c)).run P w = .ok b.isNone w:=by
  simp only [Op.equalIn,Sem.run_bind,run_underlying ht,Result.andThen_ok,Sem.run_pure]
omit hT in
theorem run_eq_of (w:World) (t:TypeId) (u v:Value) (r:Bool) (he:∀ d,(Op.equalIn (d + 1) t u v).run P w = .ok r w)
    (h1:binOp .eql t u v = (Op.equalIn (9999 + 1) t u v >>= fun b=>pure (.bool b))) (h2:binOp .neq t u v = (Op.equalIn (9999 + 1) t u v >>= fun b=>pure (.bool (!b)))) :
    (binOp .eql t u v).run P w = .ok (.bool r) w∧(binOp .neq t u v).run P w = .ok (.bool (!r)) w:=by
  rw [h1,h2,Sem.run_bind,Sem.run_bind,he]
  exact ⟨rfl,rfl⟩
omit hT in
theorem isNilP_sound {x y:AV} {r:Bool} (h:isNilP x y = some r) {φ:Place} {R:Prot} {w:World} {u v:Value} (hu:RepV φ R w x u) (hv:RepV φ R w y v) :
    (∀ op t a b,eqGuard op t a b u v = pure ())∧∀ t z,P.underlying t = some (.pointer z)→(binOp .eql t u v).run P w = .ok (.bool r) w∧(binOp .neq t u v).run P w = .ok (.bool (!r)) w:=by
  unfold isNilP at h
  split at h <;> simp only [Option.some.injEq,reduceCtorEq] at h <;> subst h <;> simp only [RepV] at hu hv
  · subst hu;subst hv
    exact ⟨fun op t a b=>eqGuard_at_pointer ..,fun t z ht=>run_eq_of w t _ _ _ (fun d=>run_equalIn_nilL w d t z ht _) rfl rfl⟩
  · obtain ⟨_,_,_,rfl⟩:=hv;subst hu
    exact ⟨fun op t a b=>eqGuard_at_pointer ..,fun t z ht=>run_eq_of w t _ _ _ (fun d=>run_equalIn_nilL w d t z ht _) rfl rfl⟩
  · obtain ⟨_,_,_,rfl⟩:=hu;subst hv
    exact ⟨fun op t a b=>eqGuard_at_pointer ..,fun t z ht=>run_eq_of w t _ _ _ (fun d=>run_equalIn_nilR w d t z ht _) rfl rfl⟩
  · obtain ⟨_,_,_,rfl,_⟩:=hv;subst hu
    exact ⟨fun op t a b=>eqGuard_at_pointer ..,fun t z ht=>run_eq_of w t _ _ _ (fun d=>run_equalIn_nilL w d t z ht _) rfl rfl⟩
  · obtain ⟨_,_,_,rfl,_⟩:=hu;subst hv
    exact ⟨fun op t a b=>eqGuard_at_pointer ..,fun t z ht=>run_eq_of w t _ _ _ (fun d=>run_equalIn_nilR w d t z ht _) rfl rfl⟩
omit hT in
theorem isNilS_sound {x y:AV} {r:Bool} (h:isNilS x y = some r) {φ:Place} {R:Prot} {w:World} {u v:Value} (hu:RepV φ R w x u) (hv:RepV φ R w y v) :
    (∀ op t a b,eqGuard op t a b u v = pure ())∧∀ t z,P.underlying t = some (.slice z)→(binOp .eql t u v).run P w = .ok (.bool r) w∧(binOp .neq t u v).run P w = .ok (.bool (!r)) w:=by
  unfold isNilS at h
  split at h <;> simp only [Option.some.injEq,reduceCtorEq] at h
  subst h;simp only [RepV] at hu hv
  subst hu;subst hv
  exact ⟨fun op t a b=>eqGuard_at_slice ..,fun t z ht=>run_eq_of w t _ _ _ (fun d=>run_equalIn_nilS w d t z ht _ _ _) rfl rfl⟩
omit hT in
theorem run_equalIn_nilSR (w:World) (d:Nat) (t z:TypeId) (ht:P.underlying t = some (.slice z)) (b:Option Addr) (n c:Nat):(Op.equalIn (d + 1) t (.slice b n c) (.slice none 0 0)).run P w = .ok b.isNone w:=by
  cases b <;> simp only [Op.equalIn,Sem.run_bind,run_underlying ht,Result.andThen_ok,Sem.run_pure] <;> rfl
omit hT in
theorem isNilL_sound {x y:AV} {p:Prop} (h:isNilL x y = some p) {φ:Place} {R:Prot} {w:World} {u v:Value} (hu:RepV φ R w x u) (hv:RepV φ R w y v) :
    (∀ op t a b,eqGuard op t a b u v = pure ())∧∃ r:Bool,(r = true→p)∧∀ t z,P.underlying t = some (.slice z)→(binOp .eql t u v).run P w = .ok (.bool r) w∧(binOp .neq t u v).run P w = .ok (.bool (!r)) w:=by
  unfold isNilL at h
  split at h <;> simp only [Option.some.injEq,reduceCtorEq] at h
  subst h;simp only [RepV,Rep] at hu hv
  obtain ⟨a,cap,he,_,hx⟩:=hu
  simp only [List.cons.injEq,and_true] at he
  subst he;subst hv
  refine ⟨fun op t a b=>eqGuard_at_slice ..,a.isNone,fun hr=>?_,fun t z ht=>run_eq_of w t _ _ _ (fun d=>run_equalIn_nilSR w d t z ht _ _ _) rfl rfl⟩
  rcases hx with ⟨hx,_⟩|⟨b,o,rfl,_⟩
  · exact hx
  · simp at hr
theorem binV_sound {t:TypeId} {op:BinOp} {x y:AV} {K:AV→Prop} (h:binV T t op x y K) :
    ∃ v,K v∧(∀ id,v.has id = false)∧∀ φ R w u1 u2 (ox oy:Operand),RepV φ R w x u1→RepV φ R w y u2→
      ∃ u,RepV φ R w v u∧((do eqGuard op t ox oy u1 u2;binOp op t u1 u2):Sem Value).run P w = .ok u w:=by
  unfold binV at h
  split at h
  · rename_i k a k' b
    split at h
    · refine ⟨_,h.2,by simp [AV.has],fun φ R w u1 u2 ox oy h1 h2=>?_⟩
      simp only [RepV] at h1 h2;subst h1;subst h2
      refine ⟨_,rfl,?_⟩
      have:=h.1
      simp only [eqGuard_at_int,binOp_shl,Op.shift,Sem.run_bind,Sem.run_pure,Result.andThen_ok]
      rw [if_neg (by omega)];rfl
    · refine ⟨_,h.2,by simp [AV.has],fun φ R w u1 u2 ox oy h1 h2=>?_⟩
      simp only [RepV] at h1 h2;subst h1;subst h2
      refine ⟨_,rfl,?_⟩
      have:=h.1
      simp only [eqGuard_at_int,binOp_shr,Op.shift,Sem.run_bind,Sem.run_pure,Result.andThen_ok]
      rw [if_neg (by omega)];rfl
    · split at h
      · rename_i hk;subst hk
        obtain ⟨v,hv,hn,hs⟩:=binI_sound (P:=P) h
        refine ⟨v,hv,hn,fun φ R w u1 u2 ox oy h1 h2=>?_⟩
        simp only [RepV] at h1 h2;subst h1;subst h2
        obtain ⟨u,hu,hr⟩:=hs φ R w t
        exact ⟨u,hu,by simp only [eqGuard_at_int,Sem.run_bind,Sem.run_pure,Result.andThen_ok,hr]⟩
      · exact h.elim
  · obtain ⟨v,hv,hn,hs⟩:=binS_sound (P:=P) h
    refine ⟨v,hv,hn,fun φ R w u1 u2 ox oy h1 h2=>?_⟩
    simp only [RepV] at h1 h2;subst h1;subst h2
    obtain ⟨u,hu,hr⟩:=hs φ R w t
    exact ⟨u,hu,by simp only [eqGuard_at_string,Sem.run_bind,Sem.run_pure,Result.andThen_ok,hr]⟩
  · rename_i a b
    split at h
    · rename_i e he
      split at h
      · rename_i hk
        refine ⟨_,h,by simp [AV.has],fun φ R w u1 u2 ox oy h1 h2=>?_⟩
        simp only [RepV] at h1 h2;subst h1;subst h2
        exact ⟨_,rfl,by simp only [eqGuard_at_bool,Sem.run_bind,Sem.run_pure,Result.andThen_ok,run_eql_bool w t a b (tk_bool hT he hk)];congr 1⟩
      · rename_i hk
        refine ⟨_,h,by simp [AV.has],fun φ R w u1 u2 ox oy h1 h2=>?_⟩
        simp only [RepV] at h1 h2;subst h1;subst h2
        exact ⟨_,rfl,by simp only [eqGuard_at_bool,Sem.run_bind,Sem.run_pure,Result.andThen_ok,run_neq_bool w t a b (tk_bool hT he hk)];cases a <;> cases b <;> rfl⟩
      · exact h.elim
    · exact h.elim
  · rename_i as bs'
    split at h
    · rename_i e he
      split at h
      · rename_i hl1 hl2 ha heq
        have hl1:=Nat.eq_of_beq_eq_true hl1
        have hl2:=Nat.eq_of_beq_eq_true hl2
        have hok:=tab_eq hT he heq
        have key:∀ r,eqT T 50 t as bs' = some r→∀ φ R w u1 u2 (ox oy:Operand),RepV φ R w (.agg as) u1→RepV φ R w (.agg bs') u2→
            ∃ vs ws,u1 = .agg vs∧u2 = .agg ws∧(∀ op,(eqGuard op t ox oy u1 u2).run P w = .ok () w)∧(Op.equalIn 10000 t (.agg vs) (.agg ws)).run P w = .ok r w:=by
          intro r hr φ R w u1 u2 ox oy h1 h2
          simp only [RepV] at h1 h2
          obtain ⟨vs,rfl,h1⟩:=h1
          obtain ⟨ws,rfl,h2⟩:=h2
          refine ⟨vs,ws,rfl,rfl,fun op=>run_eqGuard_agg w op t ox oy vs ws hok.2,?_⟩
          have:=eqT_sound hT 50 t e as bs' r vs.toList ws.toList hr he h1 h2 (by rw [h1.length,hl1]) (by rw [h2.length,hl2]) 10000 (by omega)
          simpa [valOf,ha] using this
        split at h
        · rename_i r hr
          refine ⟨_,h,by simp [AV.has],fun φ R w u1 u2 ox oy h1 h2=>?_⟩
          obtain ⟨vs,ws,rfl,rfl,hg,hq⟩:=key _ hr φ R w u1 u2 ox oy h1 h2
          exact ⟨_,rfl,by simp only [Sem.run_bind,hg,Result.andThen_ok,run_eql_struct,hq]⟩
        · rename_i r hr
          refine ⟨_,h,by simp [AV.has],fun φ R w u1 u2 ox oy h1 h2=>?_⟩
          obtain ⟨vs,ws,rfl,rfl,hg,hq⟩:=key _ hr φ R w u1 u2 ox oy h1 h2
          exact ⟨_,rfl,by simp only [Sem.run_bind,hg,Result.andThen_ok,run_neq_struct,hq]⟩
        · exact h.elim
      · exact h.elim
    · exact h.elim
  · split at h
    · rename_i e he
      split at h
      · rename_i r _ hk hr
        obtain ⟨z,hz⟩:=tk_ptr hT he hk
        refine ⟨_,h,by simp [AV.has],fun φ R w u1 u2 ox oy h1 h2=>?_⟩
        have:=isNilP_sound (P:=P) hr h1 h2
        exact ⟨_,rfl,by simp only [this.1,Sem.run_bind,Sem.run_pure,Result.andThen_ok,(this.2 t z hz).1]⟩
      · rename_i r _ hk hr
        obtain ⟨z,hz⟩:=tk_ptr hT he hk
        refine ⟨_,h,by simp [AV.has],fun φ R w u1 u2 ox oy h1 h2=>?_⟩
        have:=isNilP_sound (P:=P) hr h1 h2
        exact ⟨_,rfl,by simp only [this.1,Sem.run_bind,Sem.run_pure,Result.andThen_ok,(this.2 t z hz).2]⟩
      · rename_i hk hr
        have hz:=tk_slice hT he hk
        refine ⟨_,h,by simp [AV.has],fun φ R w u1 u2 ox oy h1 h2=>?_⟩
        have:=isNilS_sound (P:=P) hr h1 h2
        exact ⟨_,rfl,by simp only [this.1,Sem.run_bind,Sem.run_pure,Result.andThen_ok,(this.2 t _ hz).1]⟩
      · rename_i hk hr
        have hz:=tk_slice hT he hk
        refine ⟨_,h,by simp [AV.has],fun φ R w u1 u2 ox oy h1 h2=>?_⟩
        have:=isNilS_sound (P:=P) hr h1 h2
        exact ⟨_,rfl,by simp only [this.1,Sem.run_bind,Sem.run_pure,Result.andThen_ok,(this.2 t _ hz).2]⟩
      · rename_i p hk hr _
        have hz:=tk_slice hT he hk
        refine ⟨_,h,by simp [AV.has],fun φ R w u1 u2 ox oy h1 h2=>?_⟩
        obtain ⟨hg,r,hp,hq⟩:=isNilL_sound (P:=P) hr h1 h2
        exact ⟨.bool r,by simp only [RepV];exact ⟨r,rfl,hp,fun _=>trivial⟩,by simp only [hg,Sem.run_bind,Sem.run_pure,Result.andThen_ok,(hq t _ hz).1]⟩
      · rename_i p hk hr _
        have hz:=tk_slice hT he hk
        refine ⟨_,h,by simp [AV.has],fun φ R w u1 u2 ox oy h1 h2=>?_⟩
        obtain ⟨hg,r,hp,hq⟩:=isNilL_sound (P:=P) hr h1 h2
        exact ⟨.bool (!r),by simp only [RepV];exact ⟨!r,rfl,fun _=>trivial,fun hh=>hp (by simpa using hh)⟩,by simp only [hg,Sem.run_bind,Sem.run_pure,Result.andThen_ok,(hq t _ hz).2]⟩
      · exact h.elim
    · exact h.elim
end
end Go.Fw
