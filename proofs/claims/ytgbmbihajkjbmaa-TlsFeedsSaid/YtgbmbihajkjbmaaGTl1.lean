import Derived.Test.YtgbmbihajkjbmaaGOv1
import Derived.Lib.Repeat
set_option linter.all false
/- Plain words of chapter 32: the reader. -/
namespace Go.Tl
open Go Go.Fw Go.Ov
theorem ifb (a b : Bool) : (if a = true then b else false) = (a && b) := by cases a <;> rfl
theorem ifo (a b : Bool) : (if a = true then true else b) = (a || b) := by cases a <;> rfl
/-- A reader: what is left, and whether something was missing. -/
abbrev Rd := List UInt8 × Bool
def takeM (n : Nat) (r : Rd) : List UInt8 × Rd := if n > r.1.length then ([], ([], true)) else (r.1.take n, (r.1.drop n, r.2))
def numB (l : List UInt8) : Nat := l.foldl (fun n b => n * 256 + b.toNat) 0
def numM (k : Nat) (r : Rd) : Nat × Rd := (numB (takeM k r).1, (takeM k r).2)
def listM (k : Nat) (r : Rd) : List UInt8 × Rd := takeM (numM k r).1 (numM k r).2
def allM (k : Nat) (r : Rd) : Rd × Rd := (((listM k r).1, false), ((listM k r).2.1, (listM k r).2.2 || decide ((listM k r).2.1 ≠ [])))
theorem takeM_len (n : Nat) (r : Rd) : (takeM n r).1.length ≤ n ∧ (takeM n r).1.length + (takeM n r).2.1.length ≤ r.1.length ∧ (takeM n r).2.1.length ≤ r.1.length := by
  unfold takeM
  split
  · simp
  · simp; omega
theorem foldB : ∀ (l : List UInt8) (n : Nat), l.foldl (fun n b => n * 256 + b.toNat) n = n * 256 ^ l.length + numB l
  | [], n => by simp [numB]
  | b :: l, n => by
    rw [List.foldl_cons, foldB l]
    conv => rhs; unfold numB
    rw [List.foldl_cons, foldB l, List.length_cons, Nat.pow_succ]
    simp only [Nat.zero_mul, Nat.zero_add, Nat.add_mul, Nat.mul_assoc]
    rw [Nat.mul_comm 256]; omega
theorem numB_lt : ∀ (l : List UInt8), numB l < 256 ^ l.length
  | [] => by simp [numB]
  | b :: l => by
    have h := numB_lt l
    have hb := b.toNat_lt
    unfold numB
    rw [List.foldl_cons, foldB l, List.length_cons, Nat.pow_succ]
    have : b.toNat * 256 ^ l.length ≤ 255 * 256 ^ l.length := Nat.mul_le_mul_right _ (by omega)
    simp only [Nat.zero_mul, Nat.zero_add]
    omega
theorem pow_le3 {n : Nat} (h : n ≤ 3) : 256 ^ n ≤ 16777216 := Nat.le_trans (Nat.pow_le_pow_right (by decide) h) (by decide)
theorem numB3 {l : List UInt8} (h : l.length ≤ 3) : numB l < 16777216 := Nat.lt_of_lt_of_le (numB_lt l) (pow_le3 h)
def numP (l : List UInt8) (i : Nat) : Nat := numB (l.take i)
theorem numP_next {l : List UInt8} {i : Nat} (h : i < l.length) : numP l (i + 1) = numP l i * 256 + (l.getD i 0).toNat := by
  unfold numP numB
  rw [List.take_succ, List.foldl_append, List.getD_eq_getElem?_getD]
  simp [h]
theorem numP3 {l : List UInt8} (h : l.length ≤ 3) (i : Nat) : numP l i < 16777216 := numB3 (by rw [List.length_take]; omega)
theorem or_byte {n : Nat} (hn : n < 16777216) (c : UInt8) : bitop IntKind.i64 BinOp.or (IntKind.i64.wrap ((n : Int) * 2 ^ min (Int.toNat 8) IntKind.i64.bits)) (IntKind.i64.wrap ((c.toNat : Nat) : Int)) = ((n * 256 + c.toNat : Nat) : Int) := by
  have hc := c.toNat_lt
  have e1 : IntKind.i64.wrap ((n : Int) * 2 ^ min (Int.toNat 8) IntKind.i64.bits) = ((n * 256 : Nat) : Int) := by
    have : (2 ^ min (Int.toNat 8) IntKind.i64.bits : Int) = 256 := by decide
    rw [this, wrapId (by omega)]; omega
  have e2 : IntKind.i64.wrap ((c.toNat : Nat) : Int) = ((c.toNat : Nat) : Int) := wrapId (by omega)
  rw [e1, e2]
  unfold bitop
  simp only
  have b1 : BitVec.ofInt IntKind.i64.bits ((n * 256 : Nat) : Int) = BitVec.ofNat 64 (n * 256) := by
    show BitVec.ofInt 64 _ = _
    rw [BitVec.ofInt_natCast]
  have b2 : BitVec.ofInt IntKind.i64.bits ((c.toNat : Nat) : Int) = BitVec.ofNat 64 c.toNat := by
    show BitVec.ofInt 64 _ = _
    rw [BitVec.ofInt_natCast]
  rw [b1, b2]
  have e3 : (BitVec.ofNat 64 (n * 256) ||| BitVec.ofNat 64 c.toNat).toNat = n * 256 + c.toNat := by
    rw [BitVec.toNat_or, BitVec.toNat_ofNat, BitVec.toNat_ofNat, Nat.mod_eq_of_lt (by omega), Nat.mod_eq_of_lt (by omega)]
    have := Nat.two_pow_add_eq_or_of_lt (i := 8) (b := c.toNat) (by omega) n
    rw [Nat.mul_comm n 256]
    simpa using this.symm
  show IntKind.i64.wrap (((BitVec.ofNat 64 (n * 256) ||| BitVec.ofNat 64 c.toNat).toNat : Nat) : Int) = _
  rw [e3]
  exact wrapId (by omega)
theorem numM_lt {k : Nat} (h : k ≤ 3) (r : Rd) : (numM k r).1 < 16777216 := numB3 (Nat.le_trans (takeM_len k r).1 h)
theorem numM_len (k : Nat) (r : Rd) : (numM k r).2.1.length ≤ r.1.length := (takeM_len k r).2.2
theorem listM_len (k : Nat) (r : Rd) : (listM k r).1.length ≤ r.1.length ∧ (listM k r).2.1.length ≤ r.1.length := by
  have h1 := takeM_len (numM k r).1 (numM k r).2
  have h2 := numM_len k r
  unfold listM
  omega
end Go.Tl

/- Plain words of chapter 32: loops, extensions, hellos. -/
namespace Go.Tl
open Go Go.Fw Go.Ov
def iterN {σ : Type} (go : σ → Bool) (step : σ → σ) : Nat → σ → σ
  | 0, s => s
  | n + 1, s => if go s = true then iterN go step n (step s) else s
/-- A loop that ends because a length grows less. -/
def iter {σ : Type} (len : σ → Nat) (go : σ → Bool) (step : σ → σ) (s : σ) : σ := iterN go step (len s + 1) s
theorem iterN_fuel {σ : Type} {len : σ → Nat} {go : σ → Bool} {step : σ → σ} (hd : ∀ s, go s = true → len (step s) < len s) : ∀ (n m : Nat) (s : σ), len s < n → len s < m → iterN go step n s = iterN go step m s
  | 0, _, _, h, _ => by omega
  | _ + 1, 0, _, _, h => by omega
  | n + 1, m + 1, s, h1, h2 => by
    unfold iterN
    split
    · rename_i hg
      have := hd s hg
      exact iterN_fuel hd n m _ (by omega) (by omega)
    · rfl
theorem iter_eq {σ : Type} {len : σ → Nat} {go : σ → Bool} {step : σ → σ} (hd : ∀ s, go s = true → len (step s) < len s) (s : σ) : iter len go step s = if go s = true then iter len go step (step s) else s := by
  unfold iter
  conv => lhs; unfold iterN
  split
  · rename_i hg
    have := hd s hg
    exact iterN_fuel hd _ _ _ (by omega) (by omega)
  · rfl
theorem iter_go {σ : Type} {len : σ → Nat} {go : σ → Bool} {step : σ → σ} (hd : ∀ s, go s = true → len (step s) < len s) {s : σ} (h : go s = true) : iter len go step (step s) = iter len go step s := by rw [iter_eq hd s, if_pos h]
theorem iter_stop {σ : Type} {len : σ → Nat} {go : σ → Bool} {step : σ → σ} (hd : ∀ s, go s = true → len (step s) < len s) {s : σ} (h : go s = false) : iter len go step s = s := by rw [iter_eq hd s, if_neg (by rw [h]; decide)]
theorem takeM_dec {k : Nat} {r : Rd} (hk : 0 < k) (hr : r.1 ≠ []) : (takeM k r).2.1.length < r.1.length := by
  have := List.length_pos_iff.2 hr
  unfold takeM
  split
  · simpa using this
  · simp; omega
theorem numM_dec {k : Nat} {r : Rd} (hk : 0 < k) (hr : r.1 ≠ []) : (numM k r).2.1.length < r.1.length := takeM_dec hk hr
theorem listM_dec {k : Nat} {r : Rd} (hk : 0 < k) (hr : r.1 ≠ []) : (listM k r).2.1.length < r.1.length := by
  have h1 := numM_dec hk hr
  have h2 := (takeM_len (numM k r).1 (numM k r).2).2.2
  unfold listM
  omega
/-- There is more, and nothing was missing. -/
def more (r : Rd) : Bool := decide (r.1 ≠ []) && !r.2
/-! ### names -/
abbrev NSt := Rd × Bool × List UInt8
def nameStep (s : NSt) : NSt :=
  if (decide ((numM 1 s.1).1 = 0) && !s.2.1 && !(listM 2 (numM 1 s.1).2).2.2) = true then ((listM 2 (numM 1 s.1).2).2, true, (listM 2 (numM 1 s.1).2).1)
  else ((listM 2 (numM 1 s.1).2).2, s.2.1, s.2.2)
abbrev nameI (s : NSt) : NSt := iter (fun s : NSt => s.1.1.length) (fun s : NSt => more s.1) nameStep s
theorem more_ne {r : Rd} (h : more r = true) : r.1 ≠ [] := by unfold more at h; simp at h; exact h.1
theorem name_dec (s : NSt) (h : more s.1 = true) : (nameStep s).1.1.length < s.1.1.length := by
  have h1 := numM_dec (k := 1) (by decide) (more_ne h)
  have h2 := (listM_len 2 (numM 1 s.1).2).2
  unfold nameStep
  split <;> (dsimp only; omega)
theorem name_go {s : NSt} (h : more s.1 = true) : nameI (nameStep s) = nameI s := iter_go (go := fun s : NSt => more s.1) name_dec h
theorem name_stop {s : NSt} (h : more s.1 = false) : nameI s = s := iter_stop (go := fun s : NSt => more s.1) name_dec h
abbrev Ev := Int × Int × List UInt8
/-- The extension with the name: whether its form is right, the event, the reader. -/
def nameM (x : Rd) (e : Ev) : Bool × Ev × Rd :=
  (!(allM 2 x).2.2 && !(nameI ((allM 2 x).1, false, e.2.2)).1.2, (e.1, e.2.1, (nameI ((allM 2 x).1, false, e.2.2)).2.2), (allM 2 x).2)
/-! ### versions -/
abbrev VSt := Rd × Nat
def versStep (s : VSt) : VSt := ((numM 2 s.1).2, if 768 ≤ (numM 2 s.1).1 ∧ (numM 2 s.1).1 ≤ 772 then max s.2 (numM 2 s.1).1 else s.2)
abbrev versI (s : VSt) : VSt := iter (fun s : VSt => s.1.1.length) (fun s : VSt => decide (2 ≤ s.1.1.length)) versStep s
theorem vers_dec (s : VSt) (h : decide (2 ≤ s.1.1.length) = true) : (versStep s).1.1.length < s.1.1.length :=
  numM_dec (by decide) (fun e => by rw [e] at h; simp at h)
theorem vers_go {s : VSt} (h : decide (2 ≤ s.1.1.length) = true) : versI (versStep s) = versI s := iter_go (go := fun s : VSt => decide (2 ≤ s.1.1.length)) vers_dec h
theorem vers_stop {s : VSt} (h : decide (2 ≤ s.1.1.length) = false) : versI s = s := iter_stop (go := fun s : VSt => decide (2 ≤ s.1.1.length)) vers_dec h
def versM (x : Rd) (e : Ev) : Bool × Ev × Rd :=
  (!(allM 1 x).2.2 && decide ((versI ((allM 1 x).1, 0)).1.1 = []), (e.1, if (versI ((allM 1 x).1, 0)).2 > 0 then ((versI ((allM 1 x).1, 0)).2 : Int) else e.2.1, e.2.2), (allM 1 x).2)
/-! ### extensions -/
abbrev EF := Nat → Rd → Ev → Bool × Ev × Rd
abbrev XSt := Rd × List Int × Ev × Bool
/-- What is left behind one extension. -/
abbrev extD (l : Rd) : List UInt8 × Rd := listM 2 (numM 2 l).2
def extStep (F : EF) (s : XSt) : XSt :=
  if (!(extD s.1).2.2 && !(s.2.1.contains ((numM 2 s.1).1 : Int))) = true then
    ((extD s.1).2, s.2.1 ++ [((numM 2 s.1).1 : Int)], (F (numM 2 s.1).1 ((extD s.1).1, false) s.2.2.1).2.1, !(F (numM 2 s.1).1 ((extD s.1).1, false) s.2.2.1).1 || s.2.2.2)
  else ((extD s.1).2, s.2.1, s.2.2.1, s.2.2.2)
abbrev extI (F : EF) (s : XSt) : XSt := iter (fun s : XSt => s.1.1.length) (fun s : XSt => more s.1) (extStep F) s
theorem ext_dec (F : EF) (s : XSt) (h : more s.1 = true) : (extStep F s).1.1.length < s.1.1.length := by
  have h1 := numM_dec (k := 2) (by decide) (more_ne h)
  have h2 := (listM_len 2 (numM 2 s.1).2).2
  unfold extStep extD
  split <;> (dsimp only; omega)
theorem ext_go {F : EF} {s : XSt} (h : more s.1 = true) : extI F (extStep F s) = extI F s := iter_go (go := fun s : XSt => more s.1) (ext_dec F) h
theorem ext_stop {F : EF} {s : XSt} (h : more s.1 = false) : extI F s = s := iter_stop (go := fun s : XSt => more s.1) (ext_dec F) h
def extE (F : EF) (r : Rd) (e : Ev) : XSt := extI F ((allM 2 r).1, [], e, (allM 2 r).2.2)
/-- The extensions: the reader and the event behind them. -/
def extM (F : EF) (r : Rd) (e : Ev) : Rd × Ev :=
  if r.1 = [] then (r, e) else (((allM 2 r).2.1, (extE F r e).2.2.2 || (extE F r e).1.2), (extE F r e).2.2.1)
def cliF : EF := fun k x e => if k = 0 then nameM x e else if k = 43 then versM x e else (true, e, x)
def srvF : EF := fun k x e => if k ≠ 43 then (true, e, x) else (!(numM 2 x).2.2 && decide ((numM 2 x).2.1 = []), (e.1, ((numM 2 x).1 : Int), e.2.2), (numM 2 x).2)
def helloR (r : Rd) : Rd := (listM 1 (takeM 32 (numM 2 r).2).2).2
def cliM (r : Rd) : Rd × Ev := extM cliF (listM 1 (listM 2 (helloR r)).2).2 (1, ((numM 2 r).1 : Int), [])
def srvM (r : Rd) : Rd × Ev := extM srvF (takeM 3 (helloR r)).2 (2, ((numM 2 r).1 : Int), [])
/-! ### chains -/
abbrev CSt := Rd × List (List UInt8)
def chnStep (s : CSt) : CSt := ((listM 3 s.1).2, s.2 ++ [(listM 3 s.1).1])
abbrev chnI (s : CSt) : CSt := iter (fun s : CSt => s.1.1.length) (fun s : CSt => more s.1) chnStep s
theorem chn_dec (s : CSt) (h : more s.1 = true) : (chnStep s).1.1.length < s.1.1.length := listM_dec (by decide) (more_ne h)
theorem chn_go {s : CSt} (h : more s.1 = true) : chnI (chnStep s) = chnI s := iter_go (go := fun s : CSt => more s.1) chn_dec h
theorem chn_stop {s : CSt} (h : more s.1 = false) : chnI s = s := iter_stop (go := fun s : CSt => more s.1) chn_dec h
def chnM (r : Rd) : Rd × List (List UInt8) :=
  (((allM 3 r).2.1, (allM 3 r).2.2 || (chnI ((allM 3 r).1, [])).1.2 || decide ((chnI ((allM 3 r).1, [])).2.length > 6)), (chnI ((allM 3 r).1, [])).2)
end Go.Tl

/- Plain words of chapter 32: handshake messages, records. -/
namespace Go.Tl
open Go Go.Fw Go.Ov
abbrev eT : Ty := .cons (.int .i64) (.cons (.int .i64) (.cons .str (.cons (.list .str) .nil)))
abbrev EvD := Int × Int × List UInt8 × List (List UInt8) × Unit
def toD (e : Ev) : EvD := (e.1, e.2.1, e.2.2, [], ())
def errD : EvD := (6, 0, [], [], ())
/-- What the body of a message of a kind says: whether it is malformed, and its event. -/
def bodyM (kind : Nat) (b : List UInt8) : Option (Bool × EvD) :=
  if kind = 1 then some ((cliM (b, false)).1.2, toD (cliM (b, false)).2)
  else if kind = 2 then some ((srvM (b, false)).1.2, toD (srvM (b, false)).2)
  else if kind = 11 then some ((chnM (b, false)).1.2, (3, 0, [], (chnM (b, false)).2, ()))
  else none
def msgL (h : List UInt8) : Nat := ((h.getD 1 0).toNat * 256 + (h.getD 2 0).toNat) * 256 + (h.getD 3 0).toNat
def msgB (h : List UInt8) : List UInt8 := (h.take (4 + msgL h)).drop 4
def msgR (h : List UInt8) : List UInt8 := h.drop (4 + msgL h)
abbrev MSt := List UInt8 × List EvD × Bool
def msgN : Nat → List UInt8 → List EvD → MSt
  | 0, h, out => (h, out, false)
  | n + 1, h, out =>
    if h.length < 4 then (h, out, false)
    else if msgL h > 8188 then (h, out ++ [errD], true)
    else if h.length < 4 + msgL h then (h, out, false)
    else match bodyM (h.getD 0 0).toNat (msgB h) with
      | none => msgN n (msgR h) out
      | some (true, _) => (msgR h, out ++ [errD], true)
      | some (false, e) => msgN n (msgR h) (out ++ [e])
/-- The messages that are complete: what is left, the events, whether there was an error. -/
def msgA (h : List UInt8) (out : List EvD) : MSt := msgN (h.length + 1) h out
theorem msgR_len {h : List UInt8} (h4 : ¬ h.length < 4) : (msgR h).length < h.length := by unfold msgR; rw [List.length_drop]; omega
theorem msgN_fuel : ∀ (n m : Nat) (h : List UInt8) (out : List EvD), h.length < n → h.length < m → msgN n h out = msgN m h out
  | 0, _, _, _, h1, _ => by omega
  | _ + 1, 0, _, _, _, h2 => by omega
  | n + 1, m + 1, h, out, h1, h2 => by
    unfold msgN
    split
    · rfl
    · rename_i h4
      have := msgR_len h4
      split
      · rfl
      · split
        · rfl
        · split
          · exact msgN_fuel n m _ _ (by omega) (by omega)
          · rfl
          · exact msgN_fuel n m _ _ (by omega) (by omega)
theorem msgA_eq (h : List UInt8) (out : List EvD) : msgA h out =
    if h.length < 4 then (h, out, false)
    else if msgL h > 8188 then (h, out ++ [errD], true)
    else if h.length < 4 + msgL h then (h, out, false)
    else match bodyM (h.getD 0 0).toNat (msgB h) with
      | none => msgA (msgR h) out
      | some (true, _) => (msgR h, out ++ [errD], true)
      | some (false, e) => msgA (msgR h) (out ++ [e]) := by
  unfold msgA
  conv => lhs; unfold msgN
  split
  · rfl
  · rename_i h4
    have := msgR_len h4
    split
    · rfl
    · split
      · rfl
      · split
        · exact msgN_fuel _ _ _ _ (by omega) (by omega)
        · rfl
        · exact msgN_fuel _ _ _ _ (by omega) (by omega)
theorem or_nat {x y i : Nat} (hy : y < 2 ^ i) (hb : 2 ^ i * x + y < 9223372036854775808) : bitop IntKind.i64 BinOp.or ((2 ^ i * x : Nat) : Int) ((y : Nat) : Int) = ((2 ^ i * x + y : Nat) : Int) := by
  unfold bitop
  simp only
  have b1 : BitVec.ofInt IntKind.i64.bits ((2 ^ i * x : Nat) : Int) = BitVec.ofNat 64 (2 ^ i * x) := by show BitVec.ofInt 64 _ = _; rw [BitVec.ofInt_natCast]
  have b2 : BitVec.ofInt IntKind.i64.bits ((y : Nat) : Int) = BitVec.ofNat 64 y := by show BitVec.ofInt 64 _ = _; rw [BitVec.ofInt_natCast]
  rw [b1, b2]
  have e3 : (BitVec.ofNat 64 (2 ^ i * x) ||| BitVec.ofNat 64 y).toNat = 2 ^ i * x + y := by
    rw [BitVec.toNat_or, BitVec.toNat_ofNat, BitVec.toNat_ofNat, Nat.mod_eq_of_lt (by omega), Nat.mod_eq_of_lt (by omega)]
    exact (Nat.two_pow_add_eq_or_of_lt hy x).symm
  show IntKind.i64.wrap (((BitVec.ofNat 64 (2 ^ i * x) ||| BitVec.ofNat 64 y).toNat : Nat) : Int) = _
  rw [e3]
  exact wrapId (by omega)
theorem shl_nat {x : Nat} (k : Int) (i : Nat) (hk : min (Int.toNat k) IntKind.i64.bits = i) (hx : 2 ^ i * x < 9223372036854775808) : IntKind.i64.wrap ((x : Int) * 2 ^ min (Int.toNat k) IntKind.i64.bits) = ((2 ^ i * x : Nat) : Int) := by
  rw [hk]
  have : ((x : Int) * 2 ^ i) = ((2 ^ i * x : Nat) : Int) := by push_cast; exact Int.mul_comm _ _
  rw [this]
  exact wrapId (by omega)
theorem wrapB (c : UInt8) : IntKind.i64.wrap ((c.toNat : Nat) : Int) = ((c.toNat : Nat) : Int) := by have := c.toNat_lt; exact wrapId (by omega)
theorem or3 (a b c : UInt8) : bitop IntKind.i64 BinOp.or (bitop IntKind.i64 BinOp.or (IntKind.i64.wrap (IntKind.i64.wrap ((a.toNat : Nat) : Int) * 2 ^ min (Int.toNat 16) IntKind.i64.bits)) (IntKind.i64.wrap (IntKind.i64.wrap ((b.toNat : Nat) : Int) * 2 ^ min (Int.toNat 8) IntKind.i64.bits))) (IntKind.i64.wrap ((c.toNat : Nat) : Int)) =
    (((a.toNat * 256 + b.toNat) * 256 + c.toNat : Nat) : Int) := by
  have ha := a.toNat_lt
  have hb := b.toNat_lt
  have hc := c.toNat_lt
  rw [wrapB, wrapB, wrapB, shl_nat 16 16 (by decide) (by omega), shl_nat 8 8 (by decide) (by omega)]
  rw [or_nat (i := 16) (x := a.toNat) (y := 2 ^ 8 * b.toNat) (by omega) (by omega)]
  rw [show 2 ^ 16 * a.toNat + 2 ^ 8 * b.toNat = 2 ^ 8 * (a.toNat * 256 + b.toNat) by omega]
  rw [or_nat (i := 8) (by omega) (by omega)]
  congr 1; omega
theorem or2 (a b : UInt8) : bitop IntKind.i64 BinOp.or (IntKind.i64.wrap (IntKind.i64.wrap ((a.toNat : Nat) : Int) * 2 ^ min (Int.toNat 8) IntKind.i64.bits)) (IntKind.i64.wrap ((b.toNat : Nat) : Int)) = ((a.toNat * 256 + b.toNat : Nat) : Int) := by
  have ha := a.toNat_lt
  have hb := b.toNat_lt
  rw [wrapB, wrapB, shl_nat 8 8 (by decide) (by omega), or_nat (i := 8) (by omega) (by omega)]
  congr 1; omega
end Go.Tl
namespace Go.Tl
open Go Go.Fw Go.Ov
section
variable {h : List UInt8} {out : List EvD}
theorem msg_end (h1 : h.length < 4) : msgA h out = (h, out, false) := by rw [msgA_eq, if_pos h1]
theorem msg_err (h1 : ¬ h.length < 4) (h2 : msgL h > 8188) : msgA h out = (h, out ++ [errD], true) := by rw [msgA_eq, if_neg h1, if_pos h2]
theorem msg_wait (h1 : ¬ h.length < 4) (h2 : ¬ msgL h > 8188) (h3 : h.length < 4 + msgL h) : msgA h out = (h, out, false) := by rw [msgA_eq, if_neg h1, if_neg h2, if_pos h3]
theorem msg_none (h1 : ¬ h.length < 4) (h2 : ¬ msgL h > 8188) (h3 : ¬ h.length < 4 + msgL h) (hb : bodyM (h.getD 0 0).toNat (msgB h) = none) : msgA h out = msgA (msgR h) out := by rw [msgA_eq, if_neg h1, if_neg h2, if_neg h3, hb]
theorem msg_bad {e : EvD} (h1 : ¬ h.length < 4) (h2 : ¬ msgL h > 8188) (h3 : ¬ h.length < 4 + msgL h) (hb : bodyM (h.getD 0 0).toNat (msgB h) = some (true, e)) : msgA h out = (msgR h, out ++ [errD], true) := by rw [msgA_eq, if_neg h1, if_neg h2, if_neg h3, hb]
theorem msg_ok {e : EvD} (h1 : ¬ h.length < 4) (h2 : ¬ msgL h > 8188) (h3 : ¬ h.length < 4 + msgL h) (hb : bodyM (h.getD 0 0).toNat (msgB h) = some (false, e)) : msgA h out = msgA (msgR h) (out ++ [e]) := by rw [msgA_eq, if_neg h1, if_neg h2, if_neg h3, hb]
end
theorem body1 {k : Nat} {b : List UInt8} (h : k = 1) : bodyM k b = some ((cliM (b, false)).1.2, toD (cliM (b, false)).2) := if_pos h
theorem body2 {k : Nat} {b : List UInt8} (h1 : ¬ k = 1) (h : k = 2) : bodyM k b = some ((srvM (b, false)).1.2, toD (srvM (b, false)).2) := (if_neg h1).trans (if_pos h)
theorem body11 {k : Nat} {b : List UInt8} (h1 : ¬ k = 1) (h2 : ¬ k = 2) (h : k = 11) : bodyM k b = some ((chnM (b, false)).1.2, (3, 0, [], (chnM (b, false)).2, ())) := (if_neg h1).trans ((if_neg h2).trans (if_pos h))
theorem body0 {k : Nat} {b : List UInt8} (h1 : ¬ k = 1) (h2 : ¬ k = 2) (h : ¬ k = 11) : bodyM k b = none := (if_neg h1).trans ((if_neg h2).trans (if_neg h))
end Go.Tl

/- Plain words of chapter 32: feeding. -/
namespace Go.Tl
open Go Go.Fw Go.Ov
theorem msgN_cnt : ∀ (n : Nat) (h : List UInt8) (out : List EvD), (msgN n h out).2.1.length + (msgN n h out).1.length ≤ out.length + h.length + (if (msgN n h out).2.2 = true then 1 else 0) ∧ (msgN n h out).1.length ≤ h.length
  | 0, h, out => by simp [msgN]
  | n + 1, h, out => by
    unfold msgN
    split
    · simp
    · rename_i h4
      have hr := msgR_len h4
      split
      · simp; omega
      · split
        · simp
        · split
          · have := msgN_cnt n (msgR h) out
            refine ⟨?_, by omega⟩
            split <;> rename_i q <;> simp only [q, if_true, if_false, Bool.false_eq_true] at this <;> omega
          · simp; omega
          · rename_i e _
            have := msgN_cnt n (msgR h) (out ++ [e])
            rw [List.length_append, List.length_singleton] at this
            refine ⟨?_, by omega⟩
            split <;> rename_i q <;> simp only [q, if_true, if_false, Bool.false_eq_true] at this <;> omega
theorem msgA_cnt (h : List UInt8) (out : List EvD) : (msgA h out).2.1.length + (msgA h out).1.length ≤ out.length + h.length + 1 ∧ (msgA h out).1.length ≤ h.length ∧ ((msgA h out).2.2 = false → (msgA h out).2.1.length + (msgA h out).1.length ≤ out.length + h.length) := by
  have := msgN_cnt (h.length + 1) h out
  unfold msgA
  refine ⟨?_, this.2, fun q => ?_⟩
  · have h1 := this.1
    split at h1 <;> omega
  · have h1 := this.1
    rw [q] at h1
    simpa using h1
def recK (r : List UInt8) : Nat := (r.getD 0 0).toNat
def recL (r : List UInt8) : Nat := (r.getD 3 0).toNat * 256 + (r.getD 4 0).toNat
def recC (r : List UInt8) : List UInt8 := (r.take (5 + recL r)).drop 5
def recR (r : List UInt8) : List UInt8 := r.drop (5 + recL r)
def recBad (r : List UInt8) : Bool := decide ((recK r : Int) < 20) || decide ((recK r : Int) > 23) || decide (((r.getD 1 0).toNat : Int) ≠ 3) || decide (((r.getD 2 0).toNat : Int) > 4) || decide ((recL r : Int) < 1) || decide ((recL r : Int) > 16640)
/-- A parser: bytes of records, bytes of messages, whether handshakes are encrypted, whether there was an error. -/
abbrev PSt := List UInt8 × List UInt8 × Bool × Bool
def alrD (c : List UInt8) : EvD := (4, ((c.getD 1 0).toNat : Int), [], [], ())
def datD (n : Nat) : EvD := (5, (n : Int), [], [], ())
def recN : Nat → List UInt8 → List UInt8 → Bool → List EvD → PSt × List EvD
  | 0, r, h, s, out => ((r, h, s, false), out)
  | n + 1, r, h, s, out =>
    if r.length < 5 then ((r, h, s, false), out)
    else if recBad r = true then ((r, h, s, true), out ++ [errD])
    else if r.length < 5 + recL r then ((r, h, s, false), out)
    else if recK r = 20 then recN n (recR r) [] true out
    else if recK r = 21 then recN n (recR r) h s (if recL r = 2 then out ++ [alrD (recC r)] else out)
    else if recK r = 23 then recN n (recR r) h s (out ++ [datD (recL r)])
    else if s = true then recN n (recR r) h s out
    else if (msgA (h ++ recC r) []).2.2 = true then ((recR r, (msgA (h ++ recC r) []).1, s, true), out ++ (msgA (h ++ recC r) []).2.1)
    else recN n (recR r) (msgA (h ++ recC r) []).1 s (out ++ (msgA (h ++ recC r) []).2.1)
def recA (r h : List UInt8) (s : Bool) (out : List EvD) : PSt × List EvD := recN (r.length + 1) r h s out
theorem recR_len {r : List UInt8} (h : ¬ r.length < 5) : (recR r).length < r.length := by unfold recR; rw [List.length_drop]; omega
theorem recN_fuel : ∀ (n m : Nat) (r h : List UInt8) (s : Bool) (out : List EvD), r.length < n → r.length < m → recN n r h s out = recN m r h s out
  | 0, _, _, _, _, _, h1, _ => by omega
  | _ + 1, 0, _, _, _, _, _, h2 => by omega
  | n + 1, m + 1, r, h, s, out, h1, h2 => by
    unfold recN
    by_cases q : r.length < 5
    · rw [if_pos q, if_pos q]
    · have := recR_len q
      have ih := fun h s out => recN_fuel n m (recR r) h s out (by omega) (by omega)
      simp only [ih]
theorem recA_eq (r h : List UInt8) (s : Bool) (out : List EvD) : recA r h s out =
    if r.length < 5 then ((r, h, s, false), out)
    else if recBad r = true then ((r, h, s, true), out ++ [errD])
    else if r.length < 5 + recL r then ((r, h, s, false), out)
    else if recK r = 20 then recA (recR r) [] true out
    else if recK r = 21 then recA (recR r) h s (if recL r = 2 then out ++ [alrD (recC r)] else out)
    else if recK r = 23 then recA (recR r) h s (out ++ [datD (recL r)])
    else if s = true then recA (recR r) h s out
    else if (msgA (h ++ recC r) []).2.2 = true then ((recR r, (msgA (h ++ recC r) []).1, s, true), out ++ (msgA (h ++ recC r) []).2.1)
    else recA (recR r) (msgA (h ++ recC r) []).1 s (out ++ (msgA (h ++ recC r) []).2.1) := by
  unfold recA
  conv => lhs; unfold recN
  by_cases q : r.length < 5
  · rw [if_pos q, if_pos q]
  · have := recR_len q
    have ih := fun h s out => recN_fuel r.length ((recR r).length + 1) (recR r) h s out (by omega) (by omega)
    simp only [ih]
def feedM (p : PSt) (s : List UInt8) : PSt × List EvD := if p.2.2.2 = true then (p, []) else recA (p.1 ++ s) p.2.1 p.2.2.1 []
section
variable {r h : List UInt8} {s : Bool} {out : List EvD}
theorem rec_end (q : r.length < 5) : recA r h s out = ((r, h, s, false), out) := by rw [recA_eq, if_pos q]
theorem rec_bad (q : ¬ r.length < 5) (b : recBad r = true) : recA r h s out = ((r, h, s, true), out ++ [errD]) := by rw [recA_eq, if_neg q, if_pos b]
theorem rec_wait (q : ¬ r.length < 5) (b : ¬ recBad r = true) (w : r.length < 5 + recL r) : recA r h s out = ((r, h, s, false), out) := by rw [recA_eq, if_neg q, if_neg b, if_pos w]
variable (q : ¬ r.length < 5) (b : ¬ recBad r = true) (w : ¬ r.length < 5 + recL r)
include q b w
theorem rec_20 (k : recK r = 20) : recA r h s out = recA (recR r) [] true out := by rw [recA_eq, if_neg q, if_neg b, if_neg w, if_pos k]
theorem rec_21 (k : recK r = 21) : recA r h s out = recA (recR r) h s (if recL r = 2 then out ++ [alrD (recC r)] else out) := by rw [recA_eq, if_neg q, if_neg b, if_neg w, if_neg (by omega), if_pos k]
theorem rec_23 (k : recK r = 23) : recA r h s out = recA (recR r) h s (out ++ [datD (recL r)]) := by rw [recA_eq, if_neg q, if_neg b, if_neg w, if_neg (by omega), if_neg (by omega), if_pos k]
theorem rec_22s (k : recK r = 22) (hs : s = true) : recA r h s out = recA (recR r) h s out := by rw [recA_eq, if_neg q, if_neg b, if_neg w, if_neg (by omega), if_neg (by omega), if_neg (by omega), if_pos hs]
theorem rec_22d (k : recK r = 22) (hs : ¬ s = true) (hd : (msgA (h ++ recC r) []).2.2 = true) : recA r h s out = ((recR r, (msgA (h ++ recC r) []).1, s, true), out ++ (msgA (h ++ recC r) []).2.1) := by rw [recA_eq, if_neg q, if_neg b, if_neg w, if_neg (by omega), if_neg (by omega), if_neg (by omega), if_neg hs, if_pos hd]
theorem rec_22 (k : recK r = 22) (hs : ¬ s = true) (hd : ¬ (msgA (h ++ recC r) []).2.2 = true) : recA r h s out = recA (recR r) (msgA (h ++ recC r) []).1 s (out ++ (msgA (h ++ recC r) []).2.1) := by rw [recA_eq, if_neg q, if_neg b, if_neg w, if_neg (by omega), if_neg (by omega), if_neg (by omega), if_neg hs, if_neg hd]
end
theorem rec_kind {r : List UInt8} (b : ¬ recBad r = true) : 20 ≤ recK r ∧ recK r ≤ 23 ∧ 1 ≤ recL r ∧ recL r ≤ 16640 := by
  unfold recBad at b
  simp only [Bool.or_eq_true, decide_eq_true_eq, not_or] at b
  obtain ⟨⟨⟨⟨⟨b1, b2⟩, _⟩, _⟩, b3⟩, b4⟩ := b
  omega
end Go.Tl

/- Plain words of chapter 32: numbers in bytes, what is built. -/
namespace Go.Tl
open Go Go.Fw Go.Ov
def putC (n k j : Nat) : Nat := n / 256 ^ (k - 1 - j) % 256
/-- The cells after i of k stores. -/
def putP (n k i : Nat) : List Int := (List.range k).map fun j => if k ≤ j + i then ((putC n k j : Nat) : Int) else 0
def putB (n k : Nat) : List UInt8 := (List.range k).map fun j => UInt8.ofNat (putC n k j)
def putM (n k : Nat) : List UInt8 := if n < 256 ^ k then putB n k else []
theorem putP_len (n k i : Nat) : (putP n k i).length = k := by simp [putP]
theorem putP_zero (n k : Nat) : putP n k 0 = List.replicate k 0 := by
  apply List.ext_getElem
  · simp [putP]
  · intro j h1 h2
    simp only [putP, List.getElem_map, List.getElem_range, List.getElem_replicate]
    rw [if_neg (by simp [putP] at h1; omega)]
theorem putP_next {n k i : Nat} (h : i < k) : (putP n k i).set (k - 1 - i) ((n / 256 ^ i % 256 : Nat) : Int) = putP n k (i + 1) := by
  apply List.ext_getElem
  · simp [putP]
  · intro j h1 h2
    have hj : j < k := by simpa [putP] using h2
    rw [List.getElem_set]
    simp only [putP, List.getElem_map, List.getElem_range]
    by_cases e : k - 1 - i = j
    · rw [if_pos e, if_pos (by omega)]
      unfold putC
      rw [show k - 1 - j = i by omega]
    · rw [if_neg e]
      by_cases q : k ≤ j + i
      · rw [if_pos q, if_pos (by omega)]
      · rw [if_neg q, if_neg (by omega)]
theorem putP_all (n k : Nat) : (putP n k k).map Fw.byteOf = putB n k := by
  unfold putP putB
  rw [List.map_map]
  apply List.map_congr_left
  intro j hj
  show Fw.byteOf (if k ≤ j + k then _ else _) = _
  rw [if_pos (by omega)]
  unfold Fw.byteOf
  rw [Int.toNat_natCast]
theorem putB_len (n k : Nat) : (putB n k).length = k := by simp [putB]
theorem putM_len (n k : Nat) : (putM n k).length ≤ k := by unfold putM; split <;> simp [putB_len]
theorem shr_nat {n i : Nat} (h : i ≤ 7) : ((n : Nat) : Int).fdiv (2 ^ min (IntKind.i64.wrap (8 * (i : Int))).toNat IntKind.i64.bits) = ((n / 256 ^ i : Nat) : Int) := by
  have e1 : IntKind.i64.wrap (8 * (i : Int)) = ((8 * i : Nat) : Int) := by rw [wrapId (by omega)]; omega
  rw [e1, Int.toNat_natCast, Nat.min_eq_left (by show 8 * i ≤ 64; omega)]
  have key : ∀ j : Nat, j < 8 → (2 : Int) ^ (8 * j) = ((256 ^ j : Nat) : Int) := by decide
  rw [key i (by omega), Int.fdiv_eq_ediv_of_nonneg _ (Int.natCast_nonneg _)]
  rfl
theorem wrap8 (n : Nat) : IntKind.u8.wrap ((n : Nat) : Int) = ((n % 256 : Nat) : Int) := by
  unfold IntKind.wrap
  simp only [IntKind.bits, IntKind.signed]
  simp
theorem putM_ok (n k : Nat) : (decide (((n / 256 ^ k : Nat) : Int) ≠ 0) = true) ↔ ¬ n < 256 ^ k := by
  rw [decide_eq_true_eq]
  have hp : 0 < 256 ^ k := Nat.pow_pos (by decide)
  constructor
  · intro h h2
    rw [Nat.div_eq_of_lt h2] at h
    exact h rfl
  · intro h h2
    have : n / 256 ^ k = 0 := by omega
    rw [Nat.div_eq_zero_iff] at this
    omega
end Go.Tl
namespace Go.Tl
open Go Go.Fw Go.Ov
theorem repZ_eq : ∀ c, Go.Lib.repeatL [0] c = List.replicate c (0 : UInt8)
  | 0 => rfl
  | c + 1 => by rw [Go.Lib.repeatL, repZ_eq c, List.replicate_succ]; rfl
/-- A text after its length; whether all went well. -/
def cntM (s : List UInt8) (k : Nat) (ok : Bool) : List UInt8 × Bool := if s.length ≥ 256 ^ k then ([], false) else (putM s.length k ++ s, ok)
def extB (kind : Nat) (s : List UInt8) (ok : Bool) : List UInt8 × Bool := (putM kind 2 ++ (cntM s 2 ok).1, (cntM s 2 ok).2)
/-- Records of a kind, of at most size bytes of content. -/
def cutN (kind size : Nat) : Nat → List UInt8 → List UInt8
  | 0, _ => []
  | n + 1, s => if s = [] then [] else [UInt8.ofNat kind, 3, 3] ++ putM (min s.length size) 2 ++ s.take (min s.length size) ++ cutN kind size n (s.drop (min s.length size))
def cutM (kind size : Nat) (s : List UInt8) : List UInt8 := cutN kind size s.length s
theorem cutN_fuel (kind size : Nat) (hs : 0 < size) : ∀ (n m : Nat) (s : List UInt8), s.length ≤ n → s.length ≤ m → cutN kind size n s = cutN kind size m s
  | 0, 0, _, _, _ => rfl
  | 0, m + 1, s, h, _ => by
    have e : s = [] := List.eq_nil_of_length_eq_zero (by omega)
    unfold cutN; rw [if_pos e]
  | n + 1, 0, s, _, h => by
    have e : s = [] := List.eq_nil_of_length_eq_zero (by omega)
    unfold cutN; rw [if_pos e]
  | n + 1, m + 1, s, h1, h2 => by
    unfold cutN
    split
    · rfl
    · rename_i hne
      have := List.length_pos_iff.2 hne
      rw [cutN_fuel kind size hs n m _ (by rw [List.length_drop]; omega) (by rw [List.length_drop]; omega)]
theorem cutM_eq (kind size : Nat) (hs : 0 < size) (s : List UInt8) : cutM kind size s = if s = [] then [] else [UInt8.ofNat kind, 3, 3] ++ putM (min s.length size) 2 ++ s.take (min s.length size) ++ cutM kind size (s.drop (min s.length size)) := by
  unfold cutM
  by_cases h : s = []
  · rw [if_pos h, h]; rfl
  · rw [if_neg h]
    have hp := List.length_pos_iff.2 h
    obtain ⟨n, hn⟩ : ∃ n, s.length = n + 1 := ⟨s.length - 1, by omega⟩
    conv => lhs; rw [hn]; unfold cutN
    rw [if_neg h, cutN_fuel kind size hs n _ _ (by rw [List.length_drop]; omega) (Nat.le_refl _)]
theorem cutM_len (kind size : Nat) (hs : 0 < size) : ∀ (n : Nat) (s : List UInt8), s.length ≤ n → (cutM kind size s).length ≤ 6 * s.length
  | 0, s, h => by
    have e : s = [] := List.eq_nil_of_length_eq_zero (by omega)
    subst e; rw [cutM_eq kind size hs]; simp
  | n + 1, s, h => by
    rw [cutM_eq kind size hs]
    split
    · simp
    · rename_i hne
      have hp := List.length_pos_iff.2 hne
      have ih := cutM_len kind size hs n (s.drop (min s.length size)) (by rw [List.length_drop]; omega)
      rw [List.length_drop] at ih
      have := putM_len (min s.length size) 2
      simp only [List.length_append, List.length_take, List.length_cons, List.length_nil]
      omega
def msgBl (kind : Nat) (body : List UInt8) (ok : Bool) : List UInt8 := if (cntM body 3 ok).2 = true then cutM 22 16384 (putM kind 1 ++ (cntM body 3 ok).1) else []
def verB (v : Nat) : List UInt8 := putM (if v = 772 then 771 else v) 2 ++ List.replicate 33 0
def clampV (v : Int) : Nat := (min (max v 768) 772).toNat
end Go.Tl
namespace Go.Tl
open Go Go.Fw Go.Ov
theorem clampV_eq (v : Int) : ((clampV v : Nat) : Int) = min (max v 768) 772 := by unfold clampV; omega
theorem clampV_rng (v : Int) : 768 ≤ clampV v ∧ clampV v ≤ 772 := by unfold clampV; omega
def srv0 (v : Nat) : List UInt8 := verB v ++ [19, 1, 0]
def srv1 (v : Nat) : List UInt8 × Bool := if v = 772 then (srv0 v ++ (cntM (extB 43 (putM v 2) true).1 2 (extB 43 (putM v 2) true).2).1, (cntM (extB 43 (putM v 2) true).1 2 (extB 43 (putM v 2) true).2).2) else (srv0 v, true)
def serverB (version : Int) : List UInt8 := msgBl 2 (srv1 (clampV version)).1 (srv1 (clampV version)).2
def cl0 (name : List UInt8) : List UInt8 × Bool := cntM ([0] ++ (cntM name 2 true).1) 2 (cntM name 2 true).2
def cl1 (name : List UInt8) : List UInt8 × Bool := if name ≠ [] then extB 0 (cl0 name).1 (cl0 name).2 else ([], true)
def clv (v : Nat) (x : List UInt8 × Bool) : List UInt8 × Bool := extB 43 (cntM (putM v 2) 1 x.2).1 (cntM (putM v 2) 1 x.2).2
def cl2 (v : Nat) (x : List UInt8 × Bool) : List UInt8 × Bool := if v = 772 then (x.1 ++ (clv v x).1, (clv v x).2) else x
def cl3 (v : Nat) : List UInt8 := verB v ++ [0, 2, 19, 1] ++ [1, 0]
def cl4 (v : Nat) (x : List UInt8 × Bool) : List UInt8 × Bool := if x.1 ≠ [] then (cl3 v ++ (cntM x.1 2 x.2).1, (cntM x.1 2 x.2).2) else (cl3 v, x.2)
def clientB (version : Int) (name : List UInt8) : List UInt8 := msgBl 1 (cl4 (clampV version) (cl2 (clampV version) (cl1 name))).1 (cl4 (clampV version) (cl2 (clampV version) (cl1 name))).2
def chStep (x : List UInt8 × Bool) (s : List UInt8) : List UInt8 × Bool := (x.1 ++ (cntM s 3 x.2).1, (cntM s 3 x.2).2)
def chN (l : List (List UInt8)) (i : Nat) : List UInt8 × Bool := (l.take i).foldl chStep ([], true)
def chainB (l : List (List UInt8)) : List UInt8 := msgBl 11 (cntM (chN (l.take 6) (l.take 6).length).1 3 (chN (l.take 6) (l.take 6).length).2).1 (cntM (chN (l.take 6) (l.take 6).length).1 3 (chN (l.take 6) (l.take 6).length).2).2
theorem chN_next {l : List (List UInt8)} {i : Nat} (h : i < l.length) : chN l (i + 1) = chStep (chN l i) (l.getD i []) := by
  unfold chN
  rw [List.take_succ, List.foldl_append, List.getD_eq_getElem?_getD]
  simp [h]
end Go.Tl

/- Plain words of chapter 32: pieces. -/
namespace Go.Tl
open Go Go.Fw Go.Ov
/-- One record: the parser behind it, the events, whether to go on. -/
def recStep (r h : List UInt8) (s : Bool) : PSt × List EvD × Bool :=
  if r.length < 5 then ((r, h, s, false), [], false)
  else if recBad r = true then ((r, h, s, true), [errD], false)
  else if r.length < 5 + recL r then ((r, h, s, false), [], false)
  else if recK r = 20 then ((recR r, [], true, false), [], true)
  else if recK r = 21 then ((recR r, h, s, false), (if recL r = 2 then [alrD (recC r)] else []), true)
  else if recK r = 23 then ((recR r, h, s, false), [datD (recL r)], true)
  else if s = true then ((recR r, h, s, false), [], true)
  else if (msgA (h ++ recC r) []).2.2 = true then ((recR r, (msgA (h ++ recC r) []).1, s, true), (msgA (h ++ recC r) []).2.1, false)
  else ((recR r, (msgA (h ++ recC r) []).1, s, false), (msgA (h ++ recC r) []).2.1, true)
theorem recA_step (r h : List UInt8) (s : Bool) (out : List EvD) : recA r h s out =
    if (recStep r h s).2.2 = true then recA (recStep r h s).1.1 (recStep r h s).1.2.1 (recStep r h s).1.2.2.1 (out ++ (recStep r h s).2.1) else ((recStep r h s).1, out ++ (recStep r h s).2.1) := by
  rw [recA_eq]
  unfold recStep
  by_cases h5 : r.length < 5
  · simp only [if_pos h5, Bool.false_eq_true, if_false, List.append_nil]
  · simp only [if_neg h5]
    by_cases hb : recBad r = true
    · simp only [if_pos hb, Bool.false_eq_true, if_false]
    · simp only [if_neg hb]
      by_cases hw : r.length < 5 + recL r
      · simp only [if_pos hw, Bool.false_eq_true, if_false, List.append_nil]
      · simp only [if_neg hw]
        by_cases k20 : recK r = 20
        · simp only [if_pos k20, if_true, List.append_nil]
        · simp only [if_neg k20]
          by_cases k21 : recK r = 21
          · simp only [if_pos k21, if_true]
            by_cases k2 : recL r = 2
            · simp only [if_pos k2]
            · simp only [if_neg k2, List.append_nil]
          · simp only [if_neg k21]
            by_cases k23 : recK r = 23
            · simp only [if_pos k23, if_true]
            · simp only [if_neg k23]
              by_cases hs : s = true
              · simp only [if_pos hs, if_true, List.append_nil]
              · simp only [if_neg hs]
                by_cases hd : (msgA (h ++ recC r) []).2.2 = true
                · simp only [if_pos hd, Bool.false_eq_true, if_false]
                · simp only [if_neg hd, if_true]
theorem recStep_len {r h : List UInt8} {s : Bool} (hc : (recStep r h s).2.2 = true) : (recStep r h s).1.1.length < r.length := by
  unfold recStep at hc ⊢
  by_cases h5 : r.length < 5
  · rw [if_pos h5] at hc; cases hc
  · rw [if_neg h5] at hc ⊢
    have := recR_len h5
    by_cases hb : recBad r = true
    · rw [if_pos hb] at hc; cases hc
    · rw [if_neg hb] at hc ⊢
      by_cases hw : r.length < 5 + recL r
      · rw [if_pos hw] at hc; cases hc
      · rw [if_neg hw] at hc ⊢
        by_cases k20 : recK r = 20
        · rw [if_pos k20]; exact this
        · rw [if_neg k20] at hc ⊢
          by_cases k21 : recK r = 21
          · rw [if_pos k21]; exact this
          · rw [if_neg k21] at hc ⊢
            by_cases k23 : recK r = 23
            · rw [if_pos k23]; exact this
            · rw [if_neg k23] at hc ⊢
              by_cases hs : s = true
              · rw [if_pos hs]; exact this
              · rw [if_neg hs] at hc ⊢
                by_cases hd : (msgA (h ++ recC r) []).2.2 = true
                · rw [if_pos hd] at hc; cases hc
                · rw [if_neg hd]; exact this
theorem recA_out : ∀ (n : Nat) (r : List UInt8), r.length ≤ n → ∀ (h : List UInt8) (s : Bool) (out : List EvD), recA r h s out = ((recA r h s []).1, out ++ (recA r h s []).2)
  | n, r, hn, h, s, out => by
    rw [recA_step r h s out, recA_step r h s []]
    by_cases hc : (recStep r h s).2.2 = true
    · rw [if_pos hc, if_pos hc]
      have hl := recStep_len hc
      match n with
      | 0 => omega
      | n + 1 =>
        rw [recA_out n _ (by omega) _ _ (out ++ (recStep r h s).2.1), recA_out n _ (by omega) _ _ ([] ++ (recStep r h s).2.1)]
        simp
    · rw [if_neg hc, if_neg hc]; simp
theorem getD_app {r b : List UInt8} {i : Nat} (h : i < r.length) : (r ++ b).getD i 0 = r.getD i 0 := by
  rw [List.getD_eq_getElem?_getD, List.getD_eq_getElem?_getD, List.getElem?_append_left h]
theorem rec_app {r b : List UInt8} (h5 : ¬ r.length < 5) : recBad (r ++ b) = recBad r ∧ recL (r ++ b) = recL r ∧ recK (r ++ b) = recK r := by
  unfold recBad recL recK
  rw [getD_app (by omega), getD_app (by omega), getD_app (by omega), getD_app (by omega), getD_app (by omega)]
  exact ⟨rfl, rfl, rfl⟩
theorem recC_app {r b : List UInt8} (h5 : ¬ r.length < 5) (hw : ¬ r.length < 5 + recL r) : recC (r ++ b) = recC r ∧ recR (r ++ b) = recR r ++ b := by
  unfold recC recR
  rw [(rec_app (b := b) h5).2.1]
  exact ⟨by rw [List.take_append_of_le_length (by omega)], by rw [List.drop_append_of_le_length (by omega)]⟩
/-- More bytes behind: a record that goes on goes on alike; an error is the same error. -/
theorem recStep_app (r b h : List UInt8) (s : Bool) :
    ((recStep r h s).2.2 = false ∧ (recStep r h s).1.2.2.2 = false ∧ recStep r h s = ((r, h, s, false), [], false)) ∨
    ((recStep r h s).2.2 = false ∧ (recStep r h s).1.2.2.2 = true ∧ (recStep (r ++ b) h s).2.2 = false ∧ (recStep (r ++ b) h s).1.2.2.2 = true ∧ (recStep (r ++ b) h s).2.1 = (recStep r h s).2.1) ∨
    ((recStep r h s).2.2 = true ∧ (recStep (r ++ b) h s).2.2 = true ∧ (recStep (r ++ b) h s).2.1 = (recStep r h s).2.1 ∧ (recStep (r ++ b) h s).1 = ((recStep r h s).1.1 ++ b, (recStep r h s).1.2)) := by
  unfold recStep
  by_cases h5 : r.length < 5
  · simp only [if_pos h5]; left; simp
  · obtain ⟨e1, e2, e3⟩ := rec_app (b := b) h5
    have h5' : ¬ (r ++ b).length < 5 := by rw [List.length_append]; omega
    simp only [if_neg h5, if_neg h5', e1, e2, e3]
    by_cases hb : recBad r = true
    · simp only [if_pos hb]; right; left; simp
    · simp only [if_neg hb]
      by_cases hw : r.length < 5 + recL r
      · simp only [if_pos hw]; left; simp
      · have hw' : ¬ (r ++ b).length < 5 + recL r := by rw [List.length_append]; omega
        obtain ⟨c1, c2⟩ := recC_app (b := b) h5 hw
        simp only [if_neg hw, if_neg hw', c1, c2]
        by_cases k20 : recK r = 20
        · simp only [if_pos k20]; right; right; simp
        · simp only [if_neg k20]
          by_cases k21 : recK r = 21
          · simp only [if_pos k21]; right; right; simp
          · simp only [if_neg k21]
            by_cases k23 : recK r = 23
            · simp only [if_pos k23]; right; right; simp
            · simp only [if_neg k23]
              by_cases hs : s = true
              · simp only [if_pos hs]; right; right; simp
              · simp only [if_neg hs]
                by_cases hd : (msgA (h ++ recC r) []).2.2 = true
                · simp only [if_pos hd]; right; left; simp
                · simp only [if_neg hd]; right; right; simp
/-- Bytes that come later. -/
theorem rec_split (b : List UInt8) : ∀ (n : Nat) (r : List UInt8), r.length ≤ n → ∀ (h : List UInt8) (s : Bool) (out : List EvD),
    ((recA r h s out).1.2.2.2 = true → (recA (r ++ b) h s out).2 = (recA r h s out).2 ∧ (recA (r ++ b) h s out).1.2.2.2 = true) ∧
    ((recA r h s out).1.2.2.2 = false → recA (r ++ b) h s out = recA ((recA r h s out).1.1 ++ b) (recA r h s out).1.2.1 (recA r h s out).1.2.2.1 (recA r h s out).2)
  | n, r, hn, h, s, out => by
    rcases recStep_app r b h s with ⟨c1, d1, e1⟩ | ⟨c1, d1, c2, d2, e2⟩ | ⟨c1, c2, e2, st⟩
    · have hr : recA r h s out = ((r, h, s, false), out) := by rw [recA_step r h s out, if_neg (by rw [c1]; decide), e1]; simp
      rw [hr]
      exact ⟨(fun k => nomatch k), fun _ => rfl⟩
    · have hr : recA r h s out = ((recStep r h s).1, out ++ (recStep r h s).2.1) := by rw [recA_step r h s out, if_neg (by rw [c1]; decide)]
      have hr2 : recA (r ++ b) h s out = ((recStep (r ++ b) h s).1, out ++ (recStep (r ++ b) h s).2.1) := by rw [recA_step (r ++ b) h s out, if_neg (by rw [c2]; decide)]
      rw [hr, hr2]
      exact ⟨fun _ => ⟨by rw [e2], d2⟩, fun k => by rw [d1] at k; cases k⟩
    · have hl := recStep_len c1
      have hr : recA r h s out = recA (recStep r h s).1.1 (recStep r h s).1.2.1 (recStep r h s).1.2.2.1 (out ++ (recStep r h s).2.1) := by rw [recA_step r h s out, if_pos c1]
      have hr2 : recA (r ++ b) h s out = recA ((recStep r h s).1.1 ++ b) (recStep r h s).1.2.1 (recStep r h s).1.2.2.1 (out ++ (recStep r h s).2.1) := by rw [recA_step (r ++ b) h s out, if_pos c2, e2, st]
      rw [hr, hr2]
      match n with
      | 0 => omega
      | n + 1 => exact rec_split b n _ (by omega) _ _ _
theorem feed_split (p : PSt) (a b : List UInt8) : (feedM p (a ++ b)).2 = (feedM p a).2 ++ (feedM (feedM p a).1 b).2 ∧ ((feedM p (a ++ b)).1 = (feedM (feedM p a).1 b).1 ∨ ((feedM p (a ++ b)).1.2.2.2 = true ∧ (feedM (feedM p a).1 b).1.2.2.2 = true)) := by
  unfold feedM
  by_cases hd : p.2.2.2 = true
  · simp [hd]
  · simp only [if_neg hd]
    obtain ⟨h1, h2⟩ := rec_split b _ (p.1 ++ a) (Nat.le_refl _) p.2.1 p.2.2.1 []
    rw [← List.append_assoc]
    by_cases hq : (recA (p.1 ++ a) p.2.1 p.2.2.1 []).1.2.2.2 = true
    · obtain ⟨k1, k2⟩ := h1 hq
      simp only [if_pos hq]
      exact ⟨by rw [k1]; simp, .inr ⟨k2, hq⟩⟩
    · have hq' : (recA (p.1 ++ a) p.2.1 p.2.2.1 []).1.2.2.2 = false := by simpa using hq
      simp only [if_neg hq]
      rw [h2 hq']
      have ho := recA_out _ ((recA (p.1 ++ a) p.2.1 p.2.2.1 []).1.1 ++ b) (Nat.le_refl _) (recA (p.1 ++ a) p.2.1 p.2.2.1 []).1.2.1 (recA (p.1 ++ a) p.2.1 p.2.2.1 []).1.2.2.1 (recA (p.1 ++ a) p.2.1 p.2.2.1 []).2
      rw [ho]
      exact ⟨rfl, .inl rfl⟩
/-- Parsers that cannot be told apart. -/
def Like (p q : PSt) : Prop := p = q ∨ (p.2.2.2 = true ∧ q.2.2.2 = true)
theorem Like.feed {p q : PSt} (h : Like p q) (x : List UInt8) : (feedM p x).2 = (feedM q x).2 ∧ Like (feedM p x).1 (feedM q x).1 := by
  rcases h with rfl | ⟨h1, h2⟩
  · exact ⟨rfl, .inl rfl⟩
  · unfold feedM
    rw [if_pos h1, if_pos h2]
    exact ⟨rfl, .inr ⟨h1, h2⟩⟩
end Go.Tl

/- Plain words of chapter 32: small events; lists of pieces. -/
namespace Go.Tl
open Go Go.Fw Go.Ov
abbrev Sm (l : List EvD) : Prop := ∀ e ∈ l, e.2.2.2.1.length ≤ 6
theorem Sm.nil : Sm [] := fun e h => by cases h
theorem Sm.app {a b : List EvD} (ha : Sm a) (hb : Sm b) : Sm (a ++ b) := fun e h => (List.mem_append.1 h).elim (ha e) (hb e)
theorem Sm.one {e : EvD} (h : e.2.2.2.1.length ≤ 6) : Sm [e] := fun x hx => by rw [List.mem_singleton] at hx; rw [hx]; exact h
theorem body_sm {k : Nat} {b : List UInt8} {e : EvD} (h : bodyM k b = some (false, e)) : e.2.2.2.1.length ≤ 6 := by
  unfold bodyM at h
  split at h
  · injection h with h; injection h with h1 h2; rw [← h2]; exact Nat.zero_le _
  · split at h
    · injection h with h; injection h with h1 h2; rw [← h2]; exact Nat.zero_le _
    · split at h
      · injection h with h; injection h with h1 h2
        rw [← h2]
        show (chnM (b, false)).2.length ≤ 6
        unfold chnM at h1 ⊢
        have h3 := (Bool.or_eq_false_iff.1 h1).2
        have := of_decide_eq_false h3
        show (chnI ((allM 3 (b, false)).1, [])).2.length ≤ 6
        omega
      · cases h
theorem err_sm : Sm [errD] := Sm.one (Nat.zero_le 6)
theorem msgN_sm : ∀ (n : Nat) (h : List UInt8) (out : List EvD), Sm out → Sm (msgN n h out).2.1
  | 0, _, _, ho => ho
  | n + 1, h, out, ho => by
    unfold msgN
    split
    · exact ho
    · split
      · exact ho.app err_sm
      · split
        · exact ho
        · split
          · exact msgN_sm n _ _ ho
          · exact ho.app err_sm
          · rename_i e hb
            exact msgN_sm n _ _ (ho.app (Sm.one (body_sm hb)))
theorem msgA_sm (h : List UInt8) : Sm (msgA h []).2.1 := msgN_sm _ _ _ Sm.nil
theorem recStep_sm (r h : List UInt8) (s : Bool) : Sm (recStep r h s).2.1 ∧ (recStep r h s).1.1.length + (recStep r h s).1.2.1.length ≤ r.length + h.length := by
  unfold recStep
  by_cases h5 : r.length < 5
  · rw [if_pos h5]; exact ⟨Sm.nil, Nat.le_refl _⟩
  · rw [if_neg h5]
    by_cases hb : recBad r = true
    · rw [if_pos hb]; exact ⟨err_sm, Nat.le_refl _⟩
    · rw [if_neg hb]
      by_cases hw : r.length < 5 + recL r
      · rw [if_pos hw]; exact ⟨Sm.nil, Nat.le_refl _⟩
      · rw [if_neg hw]
        have hr : (recR r).length + 5 + recL r = r.length := by unfold recR; rw [List.length_drop]; omega
        have hc : (recC r).length = recL r := by unfold recC; rw [List.length_drop, List.length_take]; omega
        by_cases k20 : recK r = 20
        · rw [if_pos k20]; exact ⟨Sm.nil, by show (recR r).length + 0 ≤ _; omega⟩
        · rw [if_neg k20]
          by_cases k21 : recK r = 21
          · rw [if_pos k21]; exact ⟨by show Sm (if recL r = 2 then [alrD (recC r)] else []); split; exact Sm.one (Nat.zero_le 6); exact Sm.nil, by show (recR r).length + h.length ≤ _; omega⟩
          · rw [if_neg k21]
            by_cases k23 : recK r = 23
            · rw [if_pos k23]; exact ⟨Sm.one (Nat.zero_le 6), by show (recR r).length + h.length ≤ _; omega⟩
            · rw [if_neg k23]
              by_cases hs : s = true
              · rw [if_pos hs]; exact ⟨Sm.nil, by show (recR r).length + h.length ≤ _; omega⟩
              · rw [if_neg hs]
                have hm := (msgA_cnt (h ++ recC r) []).2.1
                rw [List.length_append, hc] at hm
                by_cases hd : (msgA (h ++ recC r) []).2.2 = true
                · rw [if_pos hd]; exact ⟨msgA_sm _, by show (recR r).length + (msgA (h ++ recC r) []).1.length ≤ _; omega⟩
                · rw [if_neg hd]; exact ⟨msgA_sm _, by show (recR r).length + (msgA (h ++ recC r) []).1.length ≤ _; omega⟩
theorem recA_sm : ∀ (n : Nat) (r : List UInt8), r.length ≤ n → ∀ (h : List UInt8) (s : Bool) (out : List EvD), Sm out → Sm (recA r h s out).2 ∧ (recA r h s out).1.1.length + (recA r h s out).1.2.1.length ≤ r.length + h.length
  | n, r, hn, h, s, out, ho => by
    rw [recA_step r h s out]
    obtain ⟨k1, k2⟩ := recStep_sm r h s
    by_cases hc : (recStep r h s).2.2 = true
    · rw [if_pos hc]
      have hl := recStep_len hc
      match n with
      | 0 => omega
      | n + 1 =>
        obtain ⟨q1, q2⟩ := recA_sm n (recStep r h s).1.1 (by omega) (recStep r h s).1.2.1 (recStep r h s).1.2.2.1 _ (ho.app k1)
        exact ⟨q1, by omega⟩
    · rw [if_neg hc]; exact ⟨ho.app k1, k2⟩
theorem feedM_sm (p : PSt) (x : List UInt8) : Sm (feedM p x).2 ∧ (feedM p x).1.1.length + (feedM p x).1.2.1.length ≤ p.1.length + x.length + p.2.1.length := by
  unfold feedM
  by_cases hd : p.2.2.2 = true
  · rw [if_pos hd]; exact ⟨Sm.nil, by show p.1.length + p.2.1.length ≤ _; omega⟩
  · rw [if_neg hd]
    obtain ⟨h1, h2⟩ := recA_sm _ (p.1 ++ x) (Nat.le_refl _) p.2.1 p.2.2.1 [] Sm.nil
    rw [List.length_append] at h2
    exact ⟨h1, h2⟩
theorem recStep_cnt (r h : List UInt8) (s : Bool) : (recStep r h s).2.1.length + (recStep r h s).1.2.1.length + (recStep r h s).1.1.length ≤ h.length + r.length + 1 ∧ ((recStep r h s).2.2 = true → (recStep r h s).2.1.length + (recStep r h s).1.2.1.length + (recStep r h s).1.1.length ≤ h.length + r.length) := by
  unfold recStep
  by_cases h5 : r.length < 5
  · rw [if_pos h5]; exact ⟨by show 0 + h.length + r.length ≤ _; omega, fun q => by cases q⟩
  · rw [if_neg h5]
    by_cases hb : recBad r = true
    · rw [if_pos hb]; exact ⟨by show 1 + h.length + r.length ≤ _; omega, fun q => by cases q⟩
    · rw [if_neg hb]
      by_cases hw : r.length < 5 + recL r
      · rw [if_pos hw]; exact ⟨by show 0 + h.length + r.length ≤ _; omega, fun q => by cases q⟩
      · rw [if_neg hw]
        have hr : (recR r).length + 5 + recL r = r.length := by unfold recR; rw [List.length_drop]; omega
        have hc : (recC r).length = recL r := by unfold recC; rw [List.length_drop, List.length_take]; omega
        by_cases k20 : recK r = 20
        · rw [if_pos k20]; exact ⟨by show 0 + 0 + (recR r).length ≤ _; omega, fun _ => by show 0 + 0 + (recR r).length ≤ _; omega⟩
        · rw [if_neg k20]
          by_cases k21 : recK r = 21
          · rw [if_pos k21]
            have : (if recL r = 2 then [alrD (recC r)] else []).length ≤ 1 := by split <;> simp
            exact ⟨by show (if recL r = 2 then [alrD (recC r)] else []).length + h.length + (recR r).length ≤ _; omega, fun _ => by show (if recL r = 2 then [alrD (recC r)] else []).length + h.length + (recR r).length ≤ _; omega⟩
          · rw [if_neg k21]
            by_cases k23 : recK r = 23
            · rw [if_pos k23]; exact ⟨by show 1 + h.length + (recR r).length ≤ _; omega, fun _ => by show 1 + h.length + (recR r).length ≤ _; omega⟩
            · rw [if_neg k23]
              by_cases hs : s = true
              · rw [if_pos hs]; exact ⟨by show 0 + h.length + (recR r).length ≤ _; omega, fun _ => by show 0 + h.length + (recR r).length ≤ _; omega⟩
              · rw [if_neg hs]
                have hm := msgA_cnt (h ++ recC r) []
                rw [List.length_append, hc] at hm
                simp only [List.length_nil, Nat.zero_add] at hm
                by_cases hd : (msgA (h ++ recC r) []).2.2 = true
                · rw [if_pos hd]; exact ⟨by show (msgA (h ++ recC r) []).2.1.length + (msgA (h ++ recC r) []).1.length + (recR r).length ≤ _; omega, fun q => by cases q⟩
                · rw [if_neg hd]
                  have hm3 := hm.2.2 (by simpa using hd)
                  exact ⟨by show (msgA (h ++ recC r) []).2.1.length + (msgA (h ++ recC r) []).1.length + (recR r).length ≤ _; omega, fun _ => by show (msgA (h ++ recC r) []).2.1.length + (msgA (h ++ recC r) []).1.length + (recR r).length ≤ _; omega⟩
theorem recA_cnt : ∀ (n : Nat) (r : List UInt8), r.length ≤ n → ∀ (h : List UInt8) (s : Bool) (out : List EvD), (recA r h s out).2.length ≤ out.length + h.length + r.length + 1
  | n, r, hn, h, s, out => by
    rw [recA_step r h s out]
    obtain ⟨k1, k2⟩ := recStep_cnt r h s
    by_cases hc : (recStep r h s).2.2 = true
    · rw [if_pos hc]
      have hl := recStep_len hc
      have := k2 hc
      match n with
      | 0 => omega
      | n + 1 =>
        have q := recA_cnt n (recStep r h s).1.1 (by omega) (recStep r h s).1.2.1 (recStep r h s).1.2.2.1 (out ++ (recStep r h s).2.1)
        rw [List.length_append] at q
        omega
    · rw [if_neg hc]; show (out ++ (recStep r h s).2.1).length ≤ _; rw [List.length_append]; omega
theorem feedM_cnt (p : PSt) (x : List UInt8) : (feedM p x).2.length ≤ p.1.length + x.length + p.2.1.length + 1 := by
  unfold feedM
  by_cases hd : p.2.2.2 = true
  · rw [if_pos hd]; exact Nat.zero_le _
  · rw [if_neg hd]
    have := recA_cnt _ (p.1 ++ x) (Nat.le_refl _) p.2.1 p.2.2.1 []
    rw [List.length_append] at this
    simp only [List.length_nil, Nat.zero_add] at this
    omega
theorem Sm.hla {l : List EvD} (h : Sm l) : ∀ i, i < l.length → (l.getD i (Ty.dflt eT)).2.2.2.1.length ≤ 140737488355328 := fun i hi => Nat.le_trans (h _ (getD_mem hi)) (by decide)
/-- A text fed in pieces: the parser, the events. -/
structure Cut (p0 p : PSt) (x : List UInt8) (out : List EvD) : Prop where
  like : Like p (feedM p0 x).1
  out : out = (feedM p0 x).2
  len : p.1.length + p.2.1.length ≤ p0.1.length + x.length + p0.2.1.length
theorem recA_short {r h : List UInt8} {s : Bool} (q : r.length < 5) : recA r h s [] = ((r, h, s, false), []) := by rw [recA_step, recStep, if_pos q]; rfl
theorem Cut.zero : Cut ([], [], false, false) ([], [], false, false) [] [] := by
  have h : feedM ([], [], false, false) [] = (([], [], false, false), []) := by
    unfold feedM; rw [if_neg (by decide)]; exact recA_short (by decide)
  exact ⟨.inl (by rw [h]), by rw [h], Nat.le_refl _⟩
theorem Cut.next {p0 p : PSt} {x : List UInt8} {out : List EvD} (h : Cut p0 p x out) (y : List UInt8) : Cut p0 (feedM p y).1 (x ++ y) (out ++ (feedM p y).2) := by
  obtain ⟨k1, k2⟩ := feed_split p0 x y
  obtain ⟨l1, l2⟩ := h.like.feed y
  refine ⟨?_, ?_, ?_⟩
  · rcases k2 with e | ⟨e1, e2⟩
    · rw [e]; exact l2
    · rcases l2 with e | ⟨e3, e4⟩
      · exact .inr ⟨by rw [e]; exact e2, e1⟩
      · exact .inr ⟨e3, e1⟩
  · rw [k1, h.out, l1]
  · have := (feedM_sm p y).2
    have := h.len
    rw [List.length_append]
    omega
end Go.Tl

