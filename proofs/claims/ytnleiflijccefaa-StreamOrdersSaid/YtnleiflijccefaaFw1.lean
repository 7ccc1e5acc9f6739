/- The framework, part 1: types, plain data, how data lies in memory, abstract values. -/
import Derived.Below
import Derived.Orders
import Derived.KernelRfl
import Derived.Laws.Cells
import Derived.Laws.Sem
set_option linter.all false
namespace Go.Fw

/-- The kinds of data that lists hold. -/
inductive Ty where
  | bool | int (k : IntKind) | str | nil | cons (a b : Ty) | list (t : Ty)
  deriving DecidableEq, Inhabited

/-- The plain data of a kind. -/
@[reducible] def Ty.D : Ty → Type
  | .bool => Bool
  | .int _ => Int
  | .str => List UInt8
  | .nil => Unit
  | .cons a b => a.D × b.D
  | .list t => List t.D

/-- How many cells. -/
def Ty.size : Ty → Nat
  | .nil => 0
  | .cons a b => a.size + b.size
  | _ => 1

def Ty.dflt : (t : Ty) → t.D
  | .bool => false
  | .int _ => (0 : Int)
  | .str => []
  | .nil => ()
  | .cons a b => (a.dflt, b.dflt)
  | .list _ => []

/-- Bytes of a string. -/
def bs (l : List UInt8) : ByteArray := ⟨l.toArray⟩

abbrev Prot := Nat → Nat → Prop

/-- Protected cells from (b, o) on hold us. -/
def CellsAt (w : World) (R : Prot) (b o : Nat) (us : List Value) : Prop :=
  ∀ i v, us[i]? = some v → R b (o + i) ∧ w.cell? ⟨b, o + i, none⟩ = some v

/-- The cells vs hold the datum. -/
def Rep (w : World) (R : Prot) : (t : Ty) → t.D → List Value → Prop
  | .bool, b, vs => vs = [.bool b]
  | .int k, n, vs => vs = [.int k n]
  | .str, s, vs => vs = [.string (bs s)]
  | .nil, _, vs => vs = []
  | .cons a b, x, vs => ∃ us ws, vs = us ++ ws ∧ Rep w R a x.1 us ∧ Rep w R b x.2 ws
  | .list t, xs, vs => ∃ p cap, vs = [.slice p xs.length cap] ∧ xs.length ≤ cap ∧ ((xs = [] ∧ cap = 0) ∨ ∃ b o, p = some ⟨b, o, none⟩ ∧
      ∀ (i : Nat) (h : i < xs.length), ∃ us, us.length = t.size ∧ CellsAt w R b (o + i * t.size) us ∧ Rep w R t xs[i] us)

theorem Rep.length {w : World} {R : Prot} : ∀ {t : Ty} {x : t.D} {vs : List Value}, Rep w R t x vs → vs.length = t.size
  | .bool, _, _, h => by simp only [Rep] at h; simp [h, Ty.size]
  | .int _, _, _, h => by simp only [Rep] at h; simp [h, Ty.size]
  | .str, _, _, h => by simp only [Rep] at h; simp [h, Ty.size]
  | .nil, _, _, h => by simp only [Rep] at h; simp [h, Ty.size]
  | .cons a b, x, _, h => by
    simp only [Rep] at h
    obtain ⟨us, ws, rfl, h1, h2⟩ := h
    simp [Ty.size, Rep.length h1, Rep.length h2]
  | .list t, _, _, h => by
    simp only [Rep] at h
    obtain ⟨p, cap, rfl, _⟩ := h
    simp [Ty.size]

theorem Rep.mono {w w' : World} {R R' : Prot} (hR : ∀ b o, R b o → R' b o) (hw : ∀ b o, R b o → w'.cell? ⟨b, o, none⟩ = w.cell? ⟨b, o, none⟩) :
    ∀ {t : Ty} {x : t.D} {vs : List Value}, Rep w R t x vs → Rep w' R' t x vs
  | .bool, _, _, h => h
  | .int _, _, _, h => h
  | .str, _, _, h => h
  | .nil, _, _, h => h
  | .cons a b, x, _, h => by
    simp only [Rep] at h ⊢
    obtain ⟨us, ws, rfl, h1, h2⟩ := h
    exact ⟨us, ws, rfl, Rep.mono hR hw h1, Rep.mono hR hw h2⟩
  | .list t, xs, _, h => by
    simp only [Rep] at h ⊢
    obtain ⟨p, cap, rfl, hc, h⟩ := h
    refine ⟨p, cap, rfl, hc, ?_⟩
    rcases h with h | ⟨b, o, rfl, h⟩
    · exact .inl h
    · refine .inr ⟨b, o, rfl, fun i hi => ?_⟩
      obtain ⟨us, hl, hc, hr⟩ := h i hi
      exact ⟨us, hl, fun j v hj => ⟨hR _ _ (hc j v hj).1, by rw [hw _ _ (hc j v hj).1]; exact (hc j v hj).2⟩, Rep.mono hR hw hr⟩

theorem Rep.oneCell {w : World} {R : Prot} : ∀ {t : Ty} {x : t.D} {vs : List Value}, Rep w R t x vs → ∀ v ∈ vs, v.oneCell' = true
  | .bool, _, _, h => by simp only [Rep] at h; simp [h, Value.oneCell']
  | .int _, _, _, h => by simp only [Rep] at h; simp [h, Value.oneCell']
  | .str, _, _, h => by simp only [Rep] at h; simp [h, Value.oneCell']
  | .nil, _, _, h => by simp only [Rep] at h; simp [h]
  | .cons a b, x, _, h => by
    simp only [Rep] at h
    obtain ⟨us, ws, rfl, h1, h2⟩ := h
    intro v hv
    rcases List.mem_append.1 hv with hv | hv
    · exact Rep.oneCell h1 v hv
    · exact Rep.oneCell h2 v hv
  | .list t, _, _, h => by
    simp only [Rep] at h
    obtain ⟨p, cap, rfl, _⟩ := h
    simp [Value.oneCell']

/-- Abstract values. -/
inductive AV where
  | any
  | bool (b : Bool)
  | int (k : IntKind) (n : Int)
  | str (s : List UInt8)
  | list (t : Ty) (xs : List t.D)
  | agg (cs : List AV)
  | tup (vs : List AV)
  | rop (cs : List AV) (off : Nat)
  | loc (id off : Nat)
  | own (id n : Nat)
  | eloc (id sz i off : Nat)
  | nilp
  | nils
  | nilf
  | fn (f : FuncId) (caps : List AV)
  | maybe (g : Bool) (v : AV)
  | ub (p q : Prop)

/-- Where a chunk lies: its block, and a slice's capacity. -/
abbrev Place := Nat → Option (Nat × Nat)

mutual
def RepV (φ : Place) (R : Prot) (w : World) : AV → Value → Prop
  | .any, _ => True
  | .bool b, v => v = .bool b
  | .int k n, v => v = .int k n
  | .str s, v => v = .string (bs s)
  | .list t xs, v => Rep w R (.list t) xs [v]
  | .agg cs, v => ∃ vs : Array Value, v = .agg vs ∧ RepVs φ R w cs vs.toList
  | .tup cs, v => ∃ vs : Array Value, v = .tuple vs ∧ RepVs φ R w cs vs.toList
  | .rop cs off, v => ∃ b base us, v = .pointer (some ⟨b, base + off, none⟩) ∧ CellsAt w R b base us ∧ RepVs φ R w cs us
  | .loc id off, v => ∃ b cap, φ id = some (b, cap) ∧ v = .pointer (some ⟨b, off, none⟩)
  | .own id n, v => (φ id = none ∧ n = 0 ∧ v = .slice none 0 0) ∨ ∃ b cap, φ id = some (b, cap) ∧ n ≤ cap ∧ v = .slice (some ⟨b, 0, none⟩) n cap
  | .eloc id sz i off, v => ∃ b cap, φ id = some (b, cap) ∧ v = .pointer (some ⟨b, i * sz + off, none⟩)
  | .nilp, v => v = .pointer none
  | .nils, v => v = .slice none 0 0
  | .nilf, v => v = .nilFunc
  | .fn f cs, v => ∃ vs : Array Value, v = .func (.func f) #[] vs ∧ RepVs φ R w cs vs.toList
  | .maybe g a, v => (g = true → RepV φ R w a v) ∧ (g = false → v = undef)
  | .ub p q, v => ∃ b, v = .bool b ∧ (b = true → p) ∧ (b = false → q)
def RepVs (φ : Place) (R : Prot) (w : World) : List AV → List Value → Prop
  | [], vs => vs = []
  | a :: as, vs => ∃ u us, vs = u :: us ∧ RepV φ R w a u ∧ RepVs φ R w as us
end

mutual
/-- Does the value name the chunk? -/
def AV.has (n : Nat) : AV → Bool
  | .loc id _ => id == n
  | .own id _ => id == n
  | .eloc id _ _ _ => id == n
  | .agg cs => AV.hasAny n cs
  | .tup cs => AV.hasAny n cs
  | .rop cs _ => AV.hasAny n cs
  | .fn _ cs => AV.hasAny n cs
  | .maybe g a => g && AV.has n a
  | _ => false
def AV.hasAny (n : Nat) : List AV → Bool
  | [] => false
  | a :: as => AV.has n a || AV.hasAny n as
end

mutual
/-- What is known over one placing holds over another: the chunks that are named stay. -/
theorem RepV.mono {φ φ' : Place} {R R' : Prot} {w w' : World} (hR : ∀ b o, R b o → R' b o) (hw : ∀ b o, R b o → w'.cell? ⟨b, o, none⟩ = w.cell? ⟨b, o, none⟩) :
    ∀ {a : AV} {v : Value}, (∀ id, a.has id = true → φ' id = φ id) → RepV φ R w a v → RepV φ' R' w' a v
  | .any, _, _, _ => by simp [RepV]
  | .bool b, _, _, h => by simpa [RepV] using h
  | .int k n, _, _, h => by simpa [RepV] using h
  | .str s, _, _, h => by simpa [RepV] using h
  | .list t xs, _, _, h => by simp only [RepV] at h ⊢; exact Rep.mono hR hw h
  | .agg cs, _, hφ, h => by
    simp only [RepV] at h ⊢
    obtain ⟨vs, e, h⟩ := h
    exact ⟨vs, e, RepVs.mono hR hw (fun id hi => hφ id (by simpa [AV.has] using hi)) h⟩
  | .tup cs, _, hφ, h => by
    simp only [RepV] at h ⊢
    obtain ⟨vs, e, h⟩ := h
    exact ⟨vs, e, RepVs.mono hR hw (fun id hi => hφ id (by simpa [AV.has] using hi)) h⟩
  | .rop cs off, _, hφ, h => by
    simp only [RepV] at h ⊢
    obtain ⟨b, base, us, e, hc, h⟩ := h
    exact ⟨b, base, us, e, fun j v hj => ⟨hR _ _ (hc j v hj).1, by rw [hw _ _ (hc j v hj).1]; exact (hc j v hj).2⟩, RepVs.mono hR hw (fun id hi => hφ id (by simpa [AV.has] using hi)) h⟩
  | .loc id off, _, hφ, h => by
    simp only [RepV] at h ⊢
    rw [hφ id (by simp [AV.has])]; exact h
  | .own id n, _, hφ, h => by
    simp only [RepV] at h ⊢
    rw [hφ id (by simp [AV.has])]; exact h
  | .eloc id sz i off, _, hφ, h => by
    simp only [RepV] at h ⊢
    rw [hφ id (by simp [AV.has])]; exact h
  | .nilp, _, _, h => by simpa [RepV] using h
  | .nils, _, _, h => by simpa [RepV] using h
  | .nilf, _, _, h => by simpa [RepV] using h
  | .fn f cs, _, hφ, h => by
    simp only [RepV] at h ⊢
    obtain ⟨vs, e, h⟩ := h
    exact ⟨vs, e, RepVs.mono hR hw (fun id hi => hφ id (by simpa [AV.has] using hi)) h⟩
  | .maybe g a, _, hφ, h => by
    simp only [RepV] at h ⊢
    exact ⟨fun hg => RepV.mono hR hw (fun id hi => hφ id (by simpa [AV.has, hg] using hi)) (h.1 hg), h.2⟩
  | .ub p q, _, _, h => by simpa [RepV] using h
theorem RepVs.mono {φ φ' : Place} {R R' : Prot} {w w' : World} (hR : ∀ b o, R b o → R' b o) (hw : ∀ b o, R b o → w'.cell? ⟨b, o, none⟩ = w.cell? ⟨b, o, none⟩) :
    ∀ {as : List AV} {vs : List Value}, (∀ id, AV.hasAny id as = true → φ' id = φ id) → RepVs φ R w as vs → RepVs φ' R' w' as vs
  | [], _, _, h => by simpa [RepVs] using h
  | a :: as, _, hφ, h => by
    simp only [RepVs] at h ⊢
    obtain ⟨u, us, e, h1, h2⟩ := h
    exact ⟨u, us, e, RepV.mono hR hw (fun id hi => hφ id (by simp [AV.hasAny, hi])) h1, RepVs.mono hR hw (fun id hi => hφ id (by simp [AV.hasAny, hi])) h2⟩
end
theorem RepVs.of_get {φ : Place} {R : Prot} {w : World} : ∀ {as : List AV} {vs : List Value}, as.length = vs.length → (∀ i v, vs[i]? = some v → RepV φ R w (as.getD i .any) v) → RepVs φ R w as vs
  | [], [], _, _ => by simp [RepVs]
  | [], _ :: _, h, _ => by simp at h
  | _ :: _, [], h, _ => by simp at h
  | a :: as, v :: vs, h, hg => ⟨v, vs, rfl, by simpa using hg 0 v rfl, RepVs.of_get (by simpa using h) fun i u hu => by simpa using hg (i + 1) u (by simpa using hu)⟩
theorem RepVs.length {φ : Place} {R : Prot} {w : World} : ∀ {as : List AV} {vs : List Value}, RepVs φ R w as vs → vs.length = as.length
  | [], _, h => by simp only [RepVs] at h; simp [h]
  | a :: as, _, h => by
    simp only [RepVs] at h
    obtain ⟨u, us, rfl, _, h⟩ := h
    simp [RepVs.length h]
theorem RepVs.get {φ : Place} {R : Prot} {w : World} : ∀ {as : List AV} {vs : List Value}, RepVs φ R w as vs → ∀ i v, vs[i]? = some v → RepV φ R w (as.getD i .any) v
  | [], _, h, i, v, hv => by simp only [RepVs] at h; simp [h] at hv
  | a :: as, _, h, i, v, hv => by
    simp only [RepVs] at h
    obtain ⟨u, us, rfl, h1, h⟩ := h
    cases i with
    | zero => simp at hv; subst hv; simpa using h1
    | succ i => simp at hv; simpa using RepVs.get h i v hv
theorem RepVs.take {φ : Place} {R : Prot} {w : World} : ∀ (n : Nat) {as : List AV} {vs : List Value}, RepVs φ R w as vs → RepVs φ R w (as.take n) (vs.take n)
  | 0, _, _, _ => by simp [RepVs]
  | n + 1, [], _, h => by simp only [RepVs] at h; simp [RepVs, h]
  | n + 1, a :: as, _, h => by
    simp only [RepVs] at h
    obtain ⟨u, us, rfl, h1, h⟩ := h
    exact ⟨u, us.take n, by simp, h1, RepVs.take n h⟩
theorem RepVs.drop {φ : Place} {R : Prot} {w : World} : ∀ (n : Nat) {as : List AV} {vs : List Value}, RepVs φ R w as vs → RepVs φ R w (as.drop n) (vs.drop n)
  | 0, _, _, h => h
  | n + 1, [], _, h => by simp only [RepVs] at h; simp [RepVs, h]
  | n + 1, a :: as, _, h => by
    simp only [RepVs] at h
    obtain ⟨u, us, rfl, h1, h⟩ := h
    exact RepVs.drop n h
theorem RepVs.append {φ : Place} {R : Prot} {w : World} : ∀ {as bs : List AV} {vs us : List Value}, RepVs φ R w as vs → RepVs φ R w bs us → RepVs φ R w (as ++ bs) (vs ++ us)
  | [], _, _, _, h, h' => by simp only [RepVs] at h; simpa [h] using h'
  | a :: as, _, _, _, h, h' => by
    simp only [RepVs] at h
    obtain ⟨u, us, rfl, h1, h⟩ := h
    exact ⟨u, _, rfl, h1, RepVs.append h h'⟩

/-- A datum taken apart into cells. -/
def explode : (t : Ty) → t.D → List AV
  | .bool, b => [.bool b]
  | .int k, n => [.int k n]
  | .str, s => [.str s]
  | .nil, _ => []
  | .cons a b, x => explode a x.1 ++ explode b x.2
  | .list t, xs => [.list t xs]
theorem Rep.explode {φ : Place} {R : Prot} {w : World} : ∀ {t : Ty} {x : t.D} {vs : List Value}, Rep w R t x vs → RepVs φ R w (explode t x) vs
  | .bool, _, _, h => by simp only [Rep] at h; simp [h, Fw.explode, RepVs, RepV]
  | .int _, _, _, h => by simp only [Rep] at h; simp [h, Fw.explode, RepVs, RepV]
  | .str, _, _, h => by simp only [Rep] at h; simp [h, Fw.explode, RepVs, RepV]
  | .nil, _, _, h => by simp only [Rep] at h; simp [h, Fw.explode, RepVs]
  | .cons a b, x, _, h => by
    simp only [Rep] at h
    obtain ⟨us, ws, rfl, h1, h2⟩ := h
    exact RepVs.append (Rep.explode h1) (Rep.explode h2)
  | .list t, _, vs, h => by
    obtain ⟨p, cap, rfl, h'⟩ := h
    simp only [Fw.explode, RepVs]
    exact ⟨_, [], rfl, by simp only [RepV, Rep]; exact ⟨p, cap, rfl, h'⟩, rfl⟩

/-- Cells put together into a datum. -/
def takeBool : List AV → Option (Bool × List AV)
  | .bool b :: r => some (b, r)
  | _ => none
def takeInt (k : IntKind) : List AV → Option (Int × List AV)
  | .int k' n :: r => if k' = k then some (n, r) else none
  | _ => none
def takeStr : List AV → Option (List UInt8 × List AV)
  | .str s :: r => some (s, r)
  | _ => none
def takeList (t : Ty) : List AV → Option (List t.D × List AV)
  | .nils :: r => some ([], r)
  | .list t' xs :: r => if h : t' = t then some (h ▸ xs, r) else none
  | _ => none
def assemble : (t : Ty) → List AV → Option (t.D × List AV)
  | .bool, r => takeBool r
  | .int k, r => takeInt k r
  | .str, r => takeStr r
  | .nil, r => some ((), r)
  | .cons a b, r =>
    match assemble a r with
    | some (x, r') => match assemble b r' with
      | some (y, r'') => some ((x, y), r'')
      | none => none
    | none => none
  | .list t, r => takeList t r
theorem assemble_rep {φ : Place} {R : Prot} {w : World} : ∀ {t : Ty} {as : List AV} {x : t.D} {r : List AV} {vs : List Value}, assemble t as = some (x, r) → RepVs φ R w as vs →
    ∃ us ws, vs = us ++ ws ∧ Rep w R t x us ∧ RepVs φ R w r ws := by
  intro t
  induction t with
  | bool =>
    intro as x r vs h hr
    simp only [assemble] at h
    unfold takeBool at h
    split at h <;> simp_all
    obtain ⟨rfl, rfl⟩ := h
    simp only [RepVs, RepV] at hr
    obtain ⟨u, us, rfl, rfl, hr⟩ := hr
    exact ⟨[_], us, rfl, by simp [Rep], hr⟩
  | int k =>
    intro as x r vs h hr
    simp only [assemble] at h
    unfold takeInt at h
    split at h <;> simp_all
    obtain ⟨rfl, rfl, rfl⟩ := h
    simp only [RepVs, RepV] at hr
    obtain ⟨u, us, rfl, rfl, hr⟩ := hr
    exact ⟨[_], us, rfl, by simp [Rep], hr⟩
  | str =>
    intro as x r vs h hr
    simp only [assemble] at h
    unfold takeStr at h
    split at h <;> simp_all
    obtain ⟨rfl, rfl⟩ := h
    simp only [RepVs, RepV] at hr
    obtain ⟨u, us, rfl, rfl, hr⟩ := hr
    exact ⟨[_], us, rfl, by simp [Rep], hr⟩
  | nil =>
    intro as x r vs h hr
    simp only [assemble, Option.some.injEq, Prod.mk.injEq] at h
    obtain ⟨_, rfl⟩ := h
    exact ⟨[], vs, rfl, by simp [Rep], hr⟩
  | cons a b iha ihb =>
    intro as x r vs h hr
    simp only [assemble] at h
    cases ha : assemble a as with
    | none => simp [ha] at h
    | some p =>
      obtain ⟨x1, r1⟩ := p
      simp only [ha] at h
      cases hb : assemble b r1 with
      | none => simp [hb] at h
      | some q =>
        obtain ⟨x2, r2⟩ := q
        simp only [hb, Option.some.injEq, Prod.mk.injEq] at h
        obtain ⟨rfl, rfl⟩ := h
        obtain ⟨us, ws, rfl, h1, hr1⟩ := iha ha hr
        obtain ⟨us2, ws2, rfl, h2, hr2⟩ := ihb hb hr1
        exact ⟨us ++ us2, ws2, by simp, by simp only [Rep]; exact ⟨us, us2, rfl, h1, h2⟩, hr2⟩
  | list t iht =>
    intro as x r vs h hr
    simp only [assemble] at h
    unfold takeList at h
    split at h
    · simp only [Option.some.injEq, Prod.mk.injEq] at h
      obtain ⟨rfl, rfl⟩ := h
      simp only [RepVs, RepV] at hr
      obtain ⟨u, us, rfl, rfl, hr⟩ := hr
      exact ⟨[_], us, rfl, by simp only [Rep]; exact ⟨none, 0, rfl, Nat.le_refl _, .inl (by simp)⟩, hr⟩
    · rename_i t' xs r'
      split at h
      · rename_i e
        subst e
        simp only [Option.some.injEq, Prod.mk.injEq] at h
        obtain ⟨rfl, rfl⟩ := h
        simp only [RepVs, RepV] at hr
        obtain ⟨u, us, rfl, h3, hr⟩ := hr
        exact ⟨[u], us, rfl, h3, hr⟩
      · simp at h
    · simp at h

/-- Values of one cell. -/
def AV.one : AV → Bool
  | .any | .agg _ | .tup _ | .maybe _ _ => false
  | _ => true
theorem AV.one_rep {φ : Place} {R : Prot} {w : World} {a : AV} {v : Value} (h : a.one = true) (hr : RepV φ R w a v) : v.oneCell' = true := by
  cases a <;> simp only [AV.one, reduceCtorEq] at h <;> simp only [RepV] at hr
  · simp [hr, Value.oneCell']
  · simp [hr, Value.oneCell']
  · simp [hr, Value.oneCell']
  · exact Rep.oneCell hr v (by simp)
  · obtain ⟨b, base, us, rfl, _⟩ := hr; rfl
  · obtain ⟨b, cap, _, rfl⟩ := hr; rfl
  · rcases hr with ⟨_, _, rfl⟩ | ⟨b, cap, _, _, rfl⟩ <;> rfl
  · obtain ⟨b, cap, _, rfl⟩ := hr; rfl
  · simp [hr, Value.oneCell']
  · simp [hr, Value.oneCell']
  · simp [hr, Value.oneCell']
  · obtain ⟨vs, rfl, _⟩ := hr; rfl
  · obtain ⟨b, rfl, _⟩ := hr; rfl
theorem RepVs.one {φ : Place} {R : Prot} {w : World} : ∀ {as : List AV} {vs : List Value}, as.all AV.one = true → RepVs φ R w as vs → ∀ v ∈ vs, v.oneCell' = true
  | [], _, _, h => by simp only [RepVs] at h; simp [h]
  | a :: as, _, ha, h => by
    simp only [RepVs] at h
    obtain ⟨u, us, rfl, h1, h⟩ := h
    simp only [List.all_cons, Bool.and_eq_true] at ha
    intro v hv
    rcases List.mem_cons.1 hv with rfl | hv
    · exact AV.one_rep ha.1 h1
    · exact RepVs.one ha.2 h v hv
end Go.Fw
