/- The framework, part 3: what the operations do with abstract values (definitions). -/
import Derived.Test.YtnleiflijccefaaFw2
set_option linter.all false
namespace Go.Fw

/-- A type, as far as the operations look at it. -/
inductive TK where
  | bool | int (k : IntKind) | str | ptr | slice (e : TypeId) | arr (n : Nat) (e : TypeId) | struct (fs : List (Nat × TypeId)) | func | other

structure TE where
  size : Nat
  bytes : Nat
  agg : Bool
  k : TK
  zero : List AV
  eq : Bool := false

abbrev Tab := List (TypeId × TE)

def TK.ok : TK → TypeDesc → Bool
  | .bool, .bool => true
  | .int k, .int k' => decide (k = k')
  | .str, .string => true
  | .ptr, .pointer _ => true
  | .slice e, .slice e' => e == e'
  | .arr n e, .array m e' => n == m && e == e'
  | .struct fs, .struct fields => fields.toList.map (fun f => (f.offset, f.type)) == fs && fields.all (fun f => f.name != "_")
  | .func, .func .. => true
  | .other, d => match d with | .struct _ | .array .. => false | _ => true
  | _, _ => false

def TypeDesc.isAgg : TypeDesc → Bool
  | .struct _ | .array .. => true
  | _ => false

def zeroChk : List AV → List Value → Bool
  | [], [] => true
  | .bool b :: as, .bool b' :: vs => (b == b') && zeroChk as vs
  | .int k n :: as, .int k' n' :: vs => decide (k = k') && (n == n') && zeroChk as vs
  | .str [] :: as, .string s :: vs => (s.size == 0) && zeroChk as vs
  | .nils :: as, .slice none 0 0 :: vs => zeroChk as vs
  | .nilp :: as, .pointer none :: vs => zeroChk as vs
  | .nilf :: as, .nilFunc :: vs => zeroChk as vs
  | .any :: as, v :: vs => v.oneCell' && zeroChk as vs
  | _, _ => false

def TE.ok (P : Program) (t : TypeId) (e : TE) : Bool :=
  match P.info? t, P.underlying t with
  | some i, some d => (i.size == e.size) && (i.bytes == e.bytes) && e.k.ok d && (e.agg == TypeDesc.isAgg d) && (!e.eq || (!P.stoodInHeld t && !P.eqGuardType P.depth t)) &&
    match i.zero with
    | some (.agg vs) => e.agg && zeroChk e.zero vs.toList && (vs.size == e.size)
    | some v => !e.agg && zeroChk e.zero [v] && (e.size == 1)
    | none => false
  | _, _ => false

def tabOK (P : Program) (T : Tab) : Bool := T.all fun x => x.2.ok P x.1

abbrev tget (T : Tab) (t : TypeId) : Option TE := lookup t T

/-- The kind of data of a type. -/
def tyOf (T : Tab) : Nat → TypeId → Option Ty
  | 0, _ => none
  | d + 1, t =>
    match tget T t with
    | some e => match e.k with
      | .bool => some .bool
      | .int k => some (.int k)
      | .str => some .str
      | .slice e => match tyOf T d e with | some x => some (.list x) | none => none
      | .struct fs => fs.foldr (fun f acc => match tyOf T d f.2, acc with | some a, some b => some (.cons a b) | _, _ => none) (some .nil)
      | .arr n e => match tyOf T d e with | some x => some ((List.replicate n x).foldr .cons .nil) | none => none
      | _ => none
    | none => none

def AV.un : AV → AV
  | .maybe _ v => v
  | v => v

/-- A value may be used: it was computed. -/
def needs (v : AV) (p : Prop) : Prop :=
  match v with
  | .maybe g _ => g = true ∧ p
  | _ => p

def needsAll : List AV → Prop → Prop
  | [], p => p
  | v :: vs, p => needs v (needsAll vs p)

/-- One of two values. -/
def AV.pick (c : Bool) : AV → AV → AV
  | .bool a, .bool b => .bool (if c then a else b)
  | .int k a, .int k' b => if k = k' then .int k (if c then a else b) else .any
  | .str a, .str b => .str (if c then a else b)
  | _, _ => .any

def bitop (k : IntKind) (op : BinOp) (x y : Int) : Int :=
  let a := BitVec.ofInt k.bits x
  let b := BitVec.ofInt k.bits y
  match op with
  | .and => k.wrap (a &&& b).toNat
  | .or => k.wrap (a ||| b).toNat
  | .xor => k.wrap (a ^^^ b).toNat
  | .andNot => k.wrap (a &&& ~~~b).toNat
  | _ => 0

/-- Part of an aggregate. -/
def subCells (T : Tab) (ft : TypeId) (cs : List AV) (off : Nat) (K : AV → Prop) : Prop :=
  match tget T ft with
  | some fe => match Nat.ble (off + fe.size) cs.length with
    | true => match fe.agg with
      | true => K (.agg ((cs.drop off).take fe.size))
      | false => match Nat.beq fe.size 1 with | true => K (cs.getD off .any) | false => False
    | false => False
  | none => False

/-- Equality by the type. -/
def eqFs (f : TypeId → List AV → List AV → Option Bool) (T : Tab) : List (Nat × TypeId) → List AV → List AV → Option Bool
  | [], _, _ => some true
  | (off, ft) :: r, xs, ys =>
    match tget T ft with
    | some fe => match Nat.ble (off + fe.size) xs.length, Nat.ble (off + fe.size) ys.length with
      | true, true => match f ft ((xs.drop off).take fe.size) ((ys.drop off).take fe.size), eqFs f T r xs ys with
        | some a, some b => some (a && b)
        | _, _ => none
      | _, _ => none
    | none => none
def eqAr (f : List AV → List AV → Option Bool) (s : Nat) : Nat → Nat → List AV → List AV → Option Bool
  | 0, _, _, _ => some true
  | n + 1, i, xs, ys =>
    match Nat.ble (i * s + s) xs.length, Nat.ble (i * s + s) ys.length with
    | true, true => match f ((xs.drop (i * s)).take s) ((ys.drop (i * s)).take s), eqAr f s n (i + 1) xs ys with
      | some a, some b => some (a && b)
      | _, _ => none
    | _, _ => none
def eqT (T : Tab) : Nat → TypeId → List AV → List AV → Option Bool
  | 0, _, _, _ => none
  | d + 1, t, xs, ys =>
    match tget T t with
    | some e => match e.k with
      | .int _ => match xs, ys with
        | [.int k x], [.int k' y] => if k = k' then some (decide (x = y)) else none
        | _, _ => none
      | .bool => match xs, ys with
        | [.bool x], [.bool y] => some (decide (x = y))
        | _, _ => none
      | .str => match xs, ys with
        | [.str x], [.str y] => some (decide (x = y))
        | _, _ => none
      | .struct fs => match e.eq with
        | true => eqFs (eqT T d) T fs xs ys
        | false => none
      | .arr n et => match e.eq, tget T et with
        | true, some ee => eqAr (eqT T d et) ee.size n 0 xs ys
        | _, _ => none
      | _ => none
    | none => none

def binI (k : IntKind) (op : BinOp) (x y : Int) (K : AV → Prop) : Prop :=
  match op with
  | .add => K (.int k (k.wrap (x + y)))
  | .sub => K (.int k (k.wrap (x - y)))
  | .mul => K (.int k (k.wrap (x * y)))
  | .quo => y ≠ 0 ∧ K (.int k (k.wrap (x.tdiv y)))
  | .rem => y ≠ 0 ∧ K (.int k (x.tmod y))
  | .and => K (.int k (bitop k .and x y))
  | .or => K (.int k (bitop k .or x y))
  | .xor => K (.int k (bitop k .xor x y))
  | .andNot => K (.int k (bitop k .andNot x y))
  | .eql => K (.bool (decide (x = y)))
  | .neq => K (.bool (decide (x ≠ y)))
  | .lss => K (.bool (decide (x < y)))
  | .leq => K (.bool (decide (x ≤ y)))
  | .gtr => K (.bool (decide (x > y)))
  | .geq => K (.bool (decide (x ≥ y)))
  | _ => False

def binS (op : BinOp) (x y : List UInt8) (K : AV → Prop) : Prop :=
  match op with
  | .add => x.length + y.length ≤ 9223372036854775807 ∧ K (.str (x ++ y))
  | .eql => K (.bool (decide (x = y)))
  | .neq => K (.bool (decide (x ≠ y)))
  | _ => False

def isNilP : AV → AV → Option Bool
  | .nilp, .nilp => some true
  | .nilp, .loc .. => some false
  | .loc .., .nilp => some false
  | .nilp, .rop .. => some false
  | .rop .., .nilp => some false
  | _, _ => none
def isNilS : AV → AV → Option Bool
  | .nils, .nils => some true
  | _, _ => none

def isNilL : AV → AV → Option Prop
  | .list _ xs, .nils => some (xs = [])
  | _, _ => none

def binV (T : Tab) (t : TypeId) (op : BinOp) (x y : AV) (K : AV → Prop) : Prop :=
  match x, y with
  | .int k a, .int k' b =>
    match op with
    | .shl => 0 ≤ b ∧ K (.int k (k.wrap (a * 2 ^ (min b.toNat k.bits))))
    | .shr => 0 ≤ b ∧ K (.int k (a.fdiv (2 ^ (min b.toNat k.bits))))
    | _ => if k = k' then binI k op a b K else False
  | .str a, .str b => binS op a b K
  | .bool a, .bool b => match tget T t with
    | some e => match e.k, op with
      | .bool, .eql => K (.bool (decide (a = b)))
      | .bool, .neq => K (.bool (decide (a ≠ b)))
      | _, _ => False
    | none => False
  | .agg as, .agg bs => match tget T t with
    | some e => match Nat.beq as.length e.size, Nat.beq bs.length e.size, e.agg, e.eq with
      | true, true, true, true => match eqT T 50 t as bs, op with
        | some r, .eql => K (.bool r)
        | some r, .neq => K (.bool (!r))
        | _, _ => False
      | _, _, _, _ => False
    | none => False
  | _, _ => match tget T t with
    | some e => match e.k, isNilP x y, isNilS x y, isNilL x y, op with
      | .ptr, some r, _, _, .eql => K (.bool r)
      | .ptr, some r, _, _, .neq => K (.bool (!r))
      | .slice _, _, some r, _, .eql => K (.bool r)
      | .slice _, _, some r, _, .neq => K (.bool (!r))
      | .slice _, _, _, some p, .eql => K (.ub p True)
      | .slice _, _, _, some p, .neq => K (.ub True p)
      | _, _, _, _, _ => False
    | none => False

/-- The cells of a value. -/
def AV.cells : AV → Option (List AV)
  | .agg cs => some cs
  | .any => none
  | .tup _ => none
  | .maybe _ _ => none
  | v => some [v]

def fillCells (place : Nat → Option (Nat × Nat)) : List (Nat × AV) → List AV → Option (List AV)
  | [], cs => some cs
  | (i, v) :: r, cs => match place i, v.cells with
    | some (off, size), some us => match Nat.beq us.length size, Nat.ble (off + size) cs.length with
      | true, true => fillCells place r (cs.take off ++ us ++ cs.drop (off + size))
      | _, _ => none
    | _, _ => none

def sizesOf (T : Tab) (fs : List (Nat × TypeId)) (i : Nat) : Option (Nat × Nat) :=
  match fs[i]? with
  | some (off, ft) => match tget T ft with | some e => some (off, e.size) | none => none
  | none => none

def byteOf (x : Int) : UInt8 := UInt8.ofNat x.toNat

/-- Reading at an address. -/
def loadV (T : Tab) (h : Heap) (t : TypeId) (a : AV) (K : AV → Prop) : Prop :=
  match a with
  | .rop cs off => subCells T t cs off K
  | .loc id off => match h id with
    | some (.box cs) => subCells T t cs off K
    | _ => False
  | .eloc id sz i off => match h id with
    | some (.arr ty xs) => match Nat.beq sz ty.size with
      | true => i < xs.length ∧ subCells T t (explode ty (xs.getD i ty.dflt)) off K
      | false => False
    | _ => False
  | _ => False

def convV (T : Tab) (h : Heap) (src dst : TypeId) (x : AV) (K : AV → Prop) : Prop :=
  match tget T src, tget T dst with
  | some s, some d => match s.k, d.k, x with
    | _, .int k, .int _ n => K (.int k (k.wrap n))
    | _, .str, .str s => K (.str s)
    | .slice e, .str, v => match tget T e with
      | some ee => match ee.k with
        | .int .u8 => match v with
          | .list (.int .u8) xs => K (.str (xs.map byteOf))
          | .nils => K (.str [])
          | .own id n => match h id with
            | some (.arr (.int .u8) xs) => n ≤ xs.length ∧ K (.str ((xs.take n).map byteOf))
            | _ => False
          | _ => False
        | _ => False
      | none => False
    | _, _, _ => False
  | _, _ => False

def boundI (d : Int) (x : Option AV) (K : Int → Prop) : Prop :=
  match x with
  | none => K d
  | some (.int _ n) => K n
  | _ => False

/-- Slicing. -/
def sliceV (T : Tab) (t : TypeId) (x : AV) (lo hi : Option AV) (K : AV → Prop) : Prop :=
  match tget T t with
  | some e => match e.k, x with
    | .str, .str s => boundI 0 lo fun l => boundI s.length hi fun r => (0 ≤ l ∧ l ≤ r ∧ r ≤ s.length) ∧ K (.str ((s.take r.toNat).drop l.toNat))
    | .slice et, .list ty xs => match tget T et with
      | some ee => match Nat.beq ee.size ty.size with
        | true => boundI 0 lo fun l => boundI xs.length hi fun r => (0 ≤ l ∧ l ≤ r ∧ r ≤ xs.length) ∧ K (.list ty ((xs.take r.toNat).drop l.toNat))
        | false => False
      | none => False
    | .slice et, .own id n => match lo, tget T et with
      | none, some _ => boundI n hi fun r => (0 ≤ r ∧ r ≤ n) ∧ K (.own id r.toNat)
      | _, _ => False
    | .slice et, .nils => match tget T et with
      | some _ => boundI 0 lo fun l => boundI 0 hi fun r => (l = 0 ∧ r = 0) ∧ K .nils
      | none => False
    | _, _ => False
  | none => False

/-- Slicing with a bound on the capacity. -/
def slice3V (T : Tab) (t : TypeId) (x : AV) (lo : Option AV) (hi mx : AV) (K : AV → Prop) : Prop :=
  match tget T t with
  | some e => match e.k, x with
    | .slice et, .list ty xs => match tget T et with
      | some ee => match Nat.beq ee.size ty.size with
        | true => boundI 0 lo fun l => boundI 0 (some hi) fun r => boundI 0 (some mx) fun c => (0 ≤ l ∧ l ≤ r ∧ r ≤ c ∧ c ≤ xs.length) ∧ K (.list ty ((xs.take r.toNat).drop l.toNat))
        | false => False
      | none => False
    | _, _ => False
  | none => False

def indexV (T : Tab) (t : TypeId) (x : AV) (i : AV) (K : AV → Prop) : Prop :=
  match i with
  | .int _ i => match tget T t with
    | some e => match e.k, x with
      | .str, .str s => (0 ≤ i ∧ i < s.length) ∧ K (.int .u8 (s.getD i.toNat 0).toNat)
      | .arr n et, .agg cs => match tget T et with
        | some ee => (0 ≤ i ∧ i < n) ∧ subCells T et cs (i.toNat * ee.size) K
        | none => False
      | _, _ => False
    | none => False
  | _ => False

def indexAddrV (T : Tab) (h : Heap) (t : TypeId) (x : AV) (i : AV) (K : AV → Prop) : Prop :=
  match i with
  | .int _ i => match tget T t with
    | some e => match e.k, x with
      | .slice et, .list ty xs => match tget T et with
        | some ee => match Nat.beq ee.size ty.size with
          | true => (0 ≤ i ∧ i < xs.length) ∧ K (.rop (explode ty (xs.getD i.toNat ty.dflt)) 0)
          | false => False
        | none => False
      | .slice et, .own id n => match tget T et, h id with
        | some ee, some (.arr ty _) => match Nat.beq ee.size ty.size with
          | true => (0 ≤ i ∧ i < n) ∧ K (.eloc id ty.size i.toNat 0)
          | false => False
        | _, _ => False
      | .arr n et, .loc id off => match tget T et with
        | some ee => (0 ≤ i ∧ i < n) ∧ K (.loc id (off + i.toNat * ee.size))
        | none => False
      | .arr n et, .rop cs off => match tget T et with
        | some ee => (0 ≤ i ∧ i < n) ∧ K (.rop cs (off + i.toNat * ee.size))
        | none => False
      | _, _ => False
    | none => False
  | _ => False

def lenV (T : Tab) (t : TypeId) (x : AV) (K : AV → Prop) : Prop :=
  match tget T t with
  | some e => match e.k, x with
    | .str, .str s => K (.int .i64 s.length)
    | .slice _, .list _ xs => K (.int .i64 xs.length)
    | .slice _, .own _ n => K (.int .i64 n)
    | .slice _, .nils => K (.int .i64 0)
    | .arr n _, _ => K (.int .i64 n)
    | _, _ => False
  | none => False

def foldInts (f : Int → Int → Int) (k : IntKind) : Int → List AV → Option Int
  | x, [] => some x
  | x, .int k' y :: r => if k = k' then foldInts f k (f x y) r else none
  | _, _ => none

/-- Operations that make and change no memory. -/
def pureV (T : Tab) (h : Heap) (ev : Operand → AV) (op : Op) (K : AV → Prop) : Prop :=
  match op with
  | .move x | .assign x => K (ev x)
  | .field xt x f => match tget T xt, ev x with
    | some e, .agg cs => match e.k with
      | .struct fs => match fs[f]? with
        | some (off, ft) => subCells T ft cs off K
        | none => False
      | _ => False
    | _, _ => False
  | .extract x i => match ev x with
    | .tup vs => match Nat.blt i vs.length with | true => K (vs.getD i .any) | false => False
    | _ => False
  | .binOp op t x y _ => binV T t op (ev x) (ev y) K
  | .unOp .not _ x => match ev x with | .bool b => K (.bool (!b)) | _ => False
  | .unOp .neg _ x => match ev x with | .int k n => K (.int k (k.wrap (0 - n))) | _ => False
  | .convert s d x => convV T h s d (ev x) K
  | .nilCheck x => match ev x with
    | .loc id off => K (.loc id off)
    | .rop cs off => K (.rop cs off)
    | .eloc id sz i off => K (.eloc id sz i off)
    | .fn f cs => K (.fn f cs)
    | _ => False
  | .fieldAddr t x f => match tget T t with
    | some e => match e.k with
      | .struct fs => match fs[f]? with
        | some (off, ft) => match tget T ft with
          | some fe => match Nat.beq fe.size 0 with
            | true => False
            | false => match ev x with
              | .loc id o => K (.loc id (o + off))
              | .rop cs o => K (.rop cs (o + off))
              | .eloc id sz i o => K (.eloc id sz i (o + off))
              | _ => False
          | none => False
        | none => False
      | _ => False
    | none => False
  | .indexAddr t x i => indexAddrV T h t (ev x) (ev i) K
  | .index t x i => indexV T t (ev x) (ev i) K
  | .load t a => loadV T h t (ev a) K
  | .slice t x lo hi none => sliceV T t (ev x) (lo.map ev) (hi.map ev) K
  | .slice t x lo (some hi) (some m) => slice3V T t (ev x) (lo.map ev) (ev hi) (ev m) K
  | .build t parts => match tget T t with
    | some e => match e.k with
      | .struct fs => match fs.all (fun f => (tget T f.2).isSome), fillCells (sizesOf T fs) (parts.toList.map fun p => (p.1, ev p.2)) e.zero with
        | true, some cs => K (.agg cs)
        | _, _ => False
      | .arr _ et => match tget T et with
        | some ee => match fillCells (fun i => some (i * ee.size, ee.size)) (parts.toList.map fun p => (p.1, ev p.2)) e.zero with
          | some cs => K (.agg cs)
          | none => False
        | none => False
      | _ => False
    | none => False
  | .makeFunc (.func f) ⟨[]⟩ captured => K (.fn f (captured.toList.map ev))
  | .call ⟨.builtin .len, ⟨[x]⟩, ⟨[t]⟩⟩ => lenV T t (ev x) K
  | .call ⟨.builtin .min, ⟨x :: xs⟩, _⟩ => match ev x with
    | .int k n => match foldInts min k n (xs.map ev) with | some r => K (.int k r) | none => False
    | _ => False
  | .call ⟨.builtin .max, ⟨x :: xs⟩, _⟩ => match ev x with
    | .int k n => match foldInts max k n (xs.map ev) with | some r => K (.int k r) | none => False
    | _ => False
  | _ => False
end Go.Fw
