/- The framework, part 2: chunks of memory that a call owns, states, and how a world goes on. -/
import Derived.Test.YtnleiflijccefaaFw1
set_option linter.all false
namespace Go.Fw

/-- Memory that the call owns: cells one by one (a variable, a struct), or a slice's array of data. -/
inductive Chunk where
  | box (cells : List AV)
  | arr (t : Ty) (xs : List t.D)

def NoFr (fr : Nat × Nat) (n : Nat) : Prop := ∀ o, o < n → ¬ (fr.1 ≤ o ∧ o < fr.2)

def ChunkRel (φ : Place) (R : Prot) (w : World) (id : Nat) : Chunk → Prop
  | .box cs => ∃ b cap vs e fr, φ id = some (b, cap) ∧ w.heap[b]? = some (.cells vs e fr) ∧ RepVs φ R w cs vs.toList ∧ (∀ o, ¬ R b o) ∧ NoFr fr vs.size
  | .arr t xs => (φ id = none ∧ xs = []) ∨ ∃ b cap vs e fr, φ id = some (b, cap) ∧ w.heap[b]? = some (.cells vs e fr) ∧ vs.size = cap * t.size ∧ xs.length ≤ cap ∧
      (∀ (i : Nat) (h : i < xs.length), Rep w R t xs[i] ((vs.toList.drop (i * t.size)).take t.size)) ∧ (∀ o, ¬ R b o) ∧ NoFr fr vs.size

abbrev Heap := Nat → Option Chunk

/-- The blocks that the chunks lie in. -/
def Owns (φ : Place) (h : Heap) (b : Nat) : Prop := ∃ id c cap, h id = some c ∧ φ id = some (b, cap)

structure HRel (φ : Place) (R : Prot) (w : World) (h : Heap) : Prop where
  rel : ∀ id c, h id = some c → ChunkRel φ R w id c
  inj : ∀ id id' c c' b cap cap', h id = some c → h id' = some c' → φ id = some (b, cap) → φ id' = some (b, cap') → id = id'

/-- How a world goes on: what is not owned stays, what is protected stays. -/
structure Evo (R : Prot) (O : Nat → Prop) (w : World) (R' : Prot) (O' : Nat → Prop) (w' : World) : Prop where
  os : w'.os = w.os
  tape : w'.tape = w.tape
  output : w'.output = w.output
  size : w.heap.size ≤ w'.heap.size
  keep : ∀ b, b < w.heap.size → ¬ O b → w'.heap[b]? = w.heap[b]?
  rmono : ∀ b o, R b o → R' b o
  rkeep : ∀ b o, R b o → w'.cell? ⟨b, o, none⟩ = w.cell? ⟨b, o, none⟩
  rnew : ∀ b o, R' b o → R b o ∨ w.heap.size ≤ b ∨ O b
  onew : ∀ b, O' b → w.heap.size ≤ b ∨ O b

theorem Evo.refl (R : Prot) (O : Nat → Prop) (w : World) : Evo R O w R O w :=
  ⟨rfl, rfl, rfl, Nat.le_refl _, fun _ _ _ => rfl, fun _ _ h => h, fun _ _ _ => rfl, fun _ _ h => .inl h, fun _ h => .inr h⟩

theorem Evo.trans {R R1 R2 : Prot} {O O1 O2 : Nat → Prop} {w w1 w2 : World} (h : Evo R O w R1 O1 w1) (k : Evo R1 O1 w1 R2 O2 w2) : Evo R O w R2 O2 w2 where
  os := k.os.trans h.os
  tape := k.tape.trans h.tape
  output := k.output.trans h.output
  size := Nat.le_trans h.size k.size
  keep b hb ho := by
    rw [k.keep b (Nat.lt_of_lt_of_le hb h.size) (fun ho1 => ?_), h.keep b hb ho]
    rcases h.onew b ho1 with h1 | h1
    · omega
    · exact ho h1
  rmono b o hr := k.rmono b o (h.rmono b o hr)
  rkeep b o hr := by rw [k.rkeep b o (h.rmono b o hr), h.rkeep b o hr]
  rnew b o hr := by
    rcases k.rnew b o hr with h1 | h1 | h1
    · exact h.rnew b o h1
    · exact .inr (.inl (Nat.le_trans h.size h1))
    · rcases h.onew b h1 with h2 | h2
      · exact .inr (.inl h2)
      · exact .inr (.inr h2)
  onew b hb := by
    rcases k.onew b hb with h1 | h1
    · exact .inl (Nat.le_trans h.size h1)
    · exact h.onew b h1

/-- A draw, too, is a way on. -/
theorem Evo.drew (R : Prot) (O : Nat → Prop) (w : World) (n : Nat) : Evo R O w R O { w with drawn := n } :=
  ⟨rfl, rfl, rfl, Nat.le_refl _, fun _ _ _ => rfl, fun _ _ h => h, fun _ _ _ => rfl, fun _ _ h => .inl h, fun _ h => .inr h⟩

def lookup {α : Type} (k : Nat) : List (Nat × α) → Option α
  | [] => none
  | (j, a) :: r => match Nat.beq j k with
    | true => some a
    | false => lookup k r

structure St where
  n : Nat
  fix : Nat
  next : Nat
  env : List (Nat × AV)
  heap : List (Nat × Chunk)
  gl : List (Nat × List AV)

def St.get (st : St) (t : Nat) : AV := match lookup t st.env with | some a => a | none => .any
def St.put (st : St) (dst : Option Nat) (v : AV) : St := match dst with | some d => { st with env := (d, v) :: st.env } | none => st
abbrev St.lk (st : St) : Heap := fun id => lookup id st.heap

def constAV : Value → AV
  | .bool b => .bool b
  | .int k n => .int k n
  | .string s => .str s.data.toList
  | .slice none 0 0 => .nils
  | .pointer none => .nilp
  | .nilFunc => .nilf
  | .func (.func f) ⟨[]⟩ ⟨[]⟩ => .fn f []
  | _ => .any

abbrev Gl := List (Nat × List AV)
def evF (E : Nat → AV) (gl : Gl) : Operand → AV
  | .tmp t => E t
  | .const v => constAV v
  | .global g => match lookup g gl with | some cs => .rop cs 0 | none => .any
  | .func f => .fn f []
def St.ev (st : St) : Operand → AV := evF st.get st.gl

/-- The package-level variables that are listed hold what is listed. -/
def GlOK (gl : Gl) (φ : Place) (R : Prot) (w : World) : Prop :=
  ∀ g cs, lookup g gl = some cs → RepV φ R w (.rop cs 0) (.pointer (some ⟨g, 0, none⟩)) ∧ ∀ id, AV.hasAny id cs = false

/-- A state fits tmps and a world. -/
structure SatF (R : Prot) (φ : Place) (n next : Nat) (E : Nat → AV) (H : Heap) (gl : Gl) (a : Act) (w : World) : Prop where
  env : ∀ t, RepV φ R w (E t) (a.tmps.getD t undef)
  named : ∀ t id, (E t).has id = true → ∃ c, H id = some c
  hnamed : ∀ j cs id, H j = some (.box cs) → AV.hasAny id cs = true → ∃ c, H id = some c
  hnext : ∀ id c, H id = some c → id < next
  sz : a.tmps.size = n
  heap : HRel φ R w H
  rlt : ∀ b o, R b o → b < w.heap.size
  defers : a.defers = []
  gl : ∀ g cs, lookup g gl = some cs → RepV φ R w (.rop cs 0) (.pointer (some ⟨g, 0, none⟩)) ∧ ∀ id, AV.hasAny id cs = false

structure Sat (R : Prot) (φ : Place) (st : St) (a : Act) (w : World) : Prop where
  s : SatF R φ st.n st.next st.get st.lk st.gl a w
  fx : st.fix ≤ st.next

/-- How a state and its world go on. -/
structure Ext (st : St) (R : Prot) (φ : Place) (w : World) (st' : St) (R' : Prot) (φ' : Place) (w' : World) : Prop where
  evo : Evo R (Owns φ st.lk) w R' (Owns φ' st'.lk) w'
  place : ∀ id, id < st.fix → φ' id = φ id
  fix : st'.fix = st.fix
  n : st'.n = st.n
theorem Ext.refl (st : St) (R : Prot) (φ : Place) (w : World) : Ext st R φ w st R φ w := ⟨Evo.refl _ _ _, fun _ _ => rfl, rfl, rfl⟩
theorem Ext.trans {st st1 st2 : St} {R R1 R2 : Prot} {φ φ1 φ2 : Place} {w w1 w2 : World} (h : Ext st R φ w st1 R1 φ1 w1) (k : Ext st1 R1 φ1 w1 st2 R2 φ2 w2) : Ext st R φ w st2 R2 φ2 w2 :=
  ⟨h.evo.trans k.evo, fun id hid => (k.place id (by rw [h.fix]; exact hid)).trans (h.place id hid), k.fix.trans h.fix, k.n.trans h.n⟩

theorem constAV_rep (φ : Place) (R : Prot) (w : World) (v : Value) : RepV φ R w (constAV v) v := by
  unfold constAV
  split <;> simp [RepV, RepVs, bs]
theorem constAV_has (v : Value) (id : Nat) : (constAV v).has id = false := by
  unfold constAV
  split <;> simp [AV.has, AV.hasAny]

theorem SatF.ev {R : Prot} {φ : Place} {n next : Nat} {E : Nat → AV} {H : Heap} {gl : Gl} {a : Act} {w : World} (h : SatF R φ n next E H gl a w) (x : Operand) : RepV φ R w (evF E gl x) (a.eval x) := by
  cases x with
  | tmp t => exact h.env t
  | const v => exact constAV_rep φ R w v
  | global g =>
    simp only [evF, Act.eval]
    cases hg : lookup g gl with
    | none => simp [RepV]
    | some cs => exact (h.gl g cs hg).1
  | func f => simp [evF, Act.eval, RepV, RepVs]
theorem SatF.ev_named {R : Prot} {φ : Place} {n next : Nat} {E : Nat → AV} {H : Heap} {gl : Gl} {a : Act} {w : World} (h : SatF R φ n next E H gl a w) (x : Operand) (id : Nat)
    (hx : (evF E gl x).has id = true) : ∃ c, H id = some c := by
  cases x with
  | tmp t => exact h.named t id hx
  | const v => simp [evF, constAV_has] at hx
  | global g =>
    simp only [evF] at hx
    cases hg : lookup g gl with
    | none => simp [hg, AV.has] at hx
    | some cs => simp [hg, AV.has, (h.gl g cs hg).2 id] at hx
  | func f => simp [evF, AV.has, AV.hasAny] at hx

theorem lookup_mem {α : Type} {k : Nat} {a : α} : ∀ {l : List (Nat × α)}, lookup k l = some a → (k, a) ∈ l
  | [], h => by simp [lookup] at h
  | (j, b) :: r, h => by
    unfold lookup at h
    split at h
    · rename_i hj
      have : j = k := Nat.eq_of_beq_eq_true hj
      simp at h; subst h; subst this; exact List.mem_cons_self ..
    · exact List.mem_cons_of_mem _ (lookup_mem h)
theorem lookup_cons {α : Type} (k j : Nat) (a : α) (r : List (Nat × α)) : lookup k ((j, a) :: r) = if j = k then some a else lookup k r := by
  simp only [lookup]
  by_cases h : j = k
  · subst h; rw [Nat.beq_refl]; simp
  · have : Nat.beq j k = false := by
      cases hb : Nat.beq j k with
      | false => rfl
      | true => exact absurd (Nat.eq_of_beq_eq_true hb) h
    rw [this]; simp [h]
theorem St.get_cons (st : St) (d t : Nat) (v : AV) : ({ st with env := (d, v) :: st.env } : St).get t = if d = t then v else st.get t := by
  simp only [St.get, lookup_cons]
  by_cases h : d = t <;> simp [h]
theorem St.get_put (st : St) (dst : Option Nat) (t : Nat) (v : AV) : (st.put dst v).get t = if dst = some t then v else st.get t := by
  cases dst with
  | none => simp [St.put]
  | some d =>
    have := St.get_cons st d t v
    simp only [St.put]
    rw [this]
    simp

theorem getD_put (a : Act) (dst : Option Nat) (u : Value) (t : Nat) (hd : ∀ d, dst = some d → d < a.tmps.size) :
    (a.put dst u).tmps.getD t undef = if dst = some t then u else a.tmps.getD t undef := by
  cases dst with
  | none => simp [Act.put]
  | some d =>
    simp only [Act.put]
    by_cases e : d = t
    · subst e
      have := hd d rfl
      simp [Array.getD, this]
    · have h2 : (a.tmps.setIfInBounds d u).getD t undef = a.tmps.getD t undef := by
        simp only [Array.getD_eq_getD_getElem?]
        rw [Array.getElem?_setIfInBounds_ne e]
      rw [h2]
      simp [e]
end Go.Fw
