/- Plain words of chapter 15: pieces, parts, joining, cutting, buffers, taking, inserting. -/
import Derived.Test.YtnleiflijccefaaOv1
set_option linter.all false
set_option linter.unusedVariables false
set_option linter.unusedSimpArgs false
namespace Go.Ov
open Go Go.Fw
def InB (x : Pc) : Prop := 0 ≤ pa x ∧ endP x ≤ 4611686018427387904
theorem InB.len {x : Pc} (h : InB x) : (pd x).length ≤ 4611686018427387904 := by have h1 := h.1; have h2 := h.2; unfold endP at h2; omega
theorem wrapEnd {x : Pc} (h : InB x) : IntKind.i64.wrap (pa x + (pd x).length) = endP x := wrapId (by have := h.1; have := h.2; unfold endP at *; omega)
def partP (x : Pc) (a b : Int) : Pc := (a, ((pd x).take (b - pa x).toNat).drop (a - pa x).toNat, pf x, pt x, ())
def differN (s t : List UInt8) (n : Nat) : Nat := (List.range n).countP fun k => decide (((s.getD k 0).toNat : Int) ≠ ((t.getD k 0).toNat : Int))
theorem differ_succ (s t : List UInt8) (i : Nat) : differN s t (i + 1) = differN s t i + (if decide (((s.getD i 0).toNat : Int) ≠ ((t.getD i 0).toNat : Int)) = true then 1 else 0) := by
  simp only [differN, List.range_succ, List.countP_append, List.countP_cons, List.countP_nil, Nat.zero_add]
abbrev lastP (xs : List Pc) : Pc := xs.getD (xs.length - 1) (Ty.dflt pT)
def joins (xs : List Pc) (p : Pc) : Bool := decide (0 < xs.length) && (decide (endP (lastP xs) = pa p) && (decide (pf (lastP xs) = pf p) && decide (pt (lastP xs) = pt p)))
def joinL (xs : List Pc) (p : Pc) : List Pc :=
  if joins xs p = true then xs.take (xs.length - 1) ++ [(pa (lastP xs), pd (lastP xs) ++ pd p, pf p, pt p, ())] else xs ++ [p]
theorem joinLen {xs : List Pc} {p : Pc} (hx : ∀ x ∈ xs, InB x) (hp : InB p) (h : xs.length - 1 < xs.length) (he : endP (lastP xs) = p.1) : (pd (lastP xs)).length + (pd p).length ≤ 9223372036854775807 := by
  have h1 := hx _ (getD_mem (d := Ty.dflt pT) h)
  have h2 : 0 ≤ pa (lastP xs) := h1.1
  have h3 : pa p + (pd p).length ≤ 4611686018427387904 := hp.2
  have h4 : pa (lastP xs) + (pd (lastP xs)).length = pa p := he
  omega
theorem join_t {xs : List Pc} {p : Pc} (hj : joins xs p = true) {k : Nat} (hk : k = xs.length - 1) :
    xs.take k ++ [((xs.getD k (Ty.dflt pT)).1, (xs.getD k (Ty.dflt pT)).2.1 ++ p.2.1, p.2.2.1, p.2.2.2.1, ())] = joinL xs p := by
  subst hk
  rw [joinL, if_pos hj]
theorem join_f {xs : List Pc} {p : Pc} (hj : joins xs p = false) : xs ++ [(p.1, p.2.1, p.2.2.1, p.2.2.2.1, ())] = joinL xs p := by
  rw [joinL, if_neg (by rw [hj]; simp)]
theorem joins_eq {xs : List Pc} {p : Pc} (hw : decide ((xs.length : Int) > 0) = true → IntKind.i64.wrap ((xs.length : Int) - 1) = ((xs.length - 1 : Nat) : Int)) :
    (if (if decide ((xs.length : Int) > 0) = true then decide (endP (xs.getD (IntKind.i64.wrap ((xs.length : Int) - 1)).toNat (Ty.dflt pT)) = p.1) else false) = true then
      decide ((xs.getD (IntKind.i64.wrap ((xs.length : Int) - 1)).toNat (Ty.dflt pT)).2.2.1 = p.2.2.1) && (decide ((xs.getD (IntKind.i64.wrap ((xs.length : Int) - 1)).toNat (Ty.dflt pT)).2.2.2.1 = p.2.2.2.1) && true) else false) = joins xs p := by
  by_cases h : (xs.length : Int) > 0
  · rw [hw (decide_eq_true h), toNat_cast]
    have h' : 0 < xs.length := by omega
    simp [joins, h, h', lastP, pa, pf, pt]
  · have h' : ¬ 0 < xs.length := by omega
    simp [joins, h, h']
def lenSum : List Pc → Int
  | [] => 0
  | x :: r => (pd x).length + lenSum r
theorem lenSum_take (xs : List Pc) (i : Nat) (h : i < xs.length) : lenSum (xs.take (i + 1)) = lenSum (xs.take i) + (pd (xs.getD i (Ty.dflt pT))).length := by
  rw [take_getD (Ty.dflt pT) h]
  generalize xs.take i = l
  induction l with
  | nil => simp [lenSum]
  | cons x r ih => simp only [List.cons_append, lenSum, ih]; omega
theorem lenSum_nonneg : ∀ xs : List Pc, 0 ≤ lenSum xs
  | [] => by simp [lenSum]
  | x :: r => by have := lenSum_nonneg r; simp only [lenSum]; omega
theorem lenSum_mono (xs : List Pc) (i : Nat) : lenSum (xs.take i) ≤ lenSum xs := by
  induction xs generalizing i with
  | nil => simp
  | cons x r ih =>
    cases i with
    | zero => simp only [List.take_zero, lenSum]; have := lenSum_nonneg r; omega
    | succ i => simp only [List.take_succ_cons, lenSum]; have := ih i; omega
def cut1 (a : Int) (x : Pc) : Option Pc := if endP x ≤ a then none else if pa x < a then some (partP x a (endP x)) else some x
def cutL (xs : List Pc) (a : Int) : List Pc := xs.filterMap (cut1 a)
theorem filterMap_one {α β : Type} (f : α → Option β) (l : List α) (y : α) : (l ++ [y]).filterMap f = l.filterMap f ++ (f y).toList := by
  rw [List.filterMap_append]
  cases h : f y <;> simp [h]
theorem cut_next (xs : List Pc) (a : Int) (i : Nat) (h : i < xs.length) : cutL (xs.take (i + 1)) a = cutL (xs.take i) a ++ (cut1 a (xs.getD i (Ty.dflt pT))).toList := by
  rw [take_getD (Ty.dflt pT) h, cutL, filterMap_one]
  rfl
theorem cut_len (xs : List Pc) (a : Int) (i : Nat) : (cutL (xs.take i) a).length ≤ i := by
  have h1 := List.length_filterMap_le (cut1 a) (xs.take i)
  have h2 : (xs.take i).length ≤ i := by simp; omega
  exact Nat.le_trans h1 h2
theorem part_end {x : Pc} {a : Int} (h : InB x) (h1 : pa x < a) (h2 : ¬ endP x ≤ a) :
    partP x a (endP x) = (a, (x.2.1.take ((x.2.1.length : Nat) : Int).toNat).drop (IntKind.i64.wrap (a - x.1)).toNat, x.2.2.1, x.2.2.2.1, ()) := by
  have hb := h.1
  have hb2 := h.2
  unfold endP at hb2 h2
  have w1 : IntKind.i64.wrap (a - pa x) = a - pa x := wrapId (by omega)
  have e : (endP x - pa x).toNat = (pd x).length := by unfold endP; omega
  show (a, ((pd x).take (endP x - pa x).toNat).drop (a - pa x).toNat, pf x, pt x, ()) = (a, ((pd x).take (pd x).length).drop (IntKind.i64.wrap (a - pa x)).toNat, pf x, pt x, ())
  rw [w1, e]
def winsB (pol : Int) (o n : Pc) : Bool :=
  if pol = 2 then true else if pol = 3 then decide (pf n < pf o) else if pol = 4 then decide (pf n < pf o) || (decide (pf n = pf o) && decide (pt n > pt o)) else false
theorem peq (x y : Pc) : (decide (x.1 = y.1) && (decide (x.2.1 = y.2.1) && (decide (x.2.2.1 = y.2.2.1) && (decide (x.2.2.2.1 = y.2.2.2.1) && true)))) = decide (x = y) := by
  obtain ⟨a, b, c, d, ⟨⟩⟩ := x
  obtain ⟨a', b', c', d', ⟨⟩⟩ := y
  rw [Bool.eq_iff_iff]
  simp
theorem lenSum_ge (xs : List Pc) (i : Nat) (h : i < xs.length) : ((pd (xs.getD i (Ty.dflt pT))).length : Int) ≤ lenSum xs := by
  have e := lenSum_take xs i h
  have m := lenSum_mono xs (i + 1)
  have z := lenSum_nonneg (xs.take i)
  omega
def fewR (xs : List Pc) (many most : Int) : Bool := decide ((xs.length : Int) ≤ many) && decide (lenSum xs ≤ most)
def OkP (x : Pc) : Prop := pd x ≠ [] ∧ 0 ≤ pf x ∧ pf x ≤ pa x ∧ pt x ≤ 4294967296 ∧ pa x ≤ pt x ∧ ((pd x).length : Int) ≤ pt x - pa x
instance (x : Pc) : Decidable (OkP x) := by unfold OkP; exact inferInstance
def OkAt (xs : List Pc) (j : Nat) : Prop := OkP (xs.getD j (Ty.dflt pT)) ∧ (0 < j → endP (xs.getD (j - 1) (Ty.dflt pT)) ≤ pa (xs.getD j (Ty.dflt pT)))
instance (xs : List Pc) (j : Nat) : Decidable (OkAt xs j) := by unfold OkAt; exact inferInstance
def Valid (xs : List Pc) : Prop := ∀ j, j < xs.length → OkAt xs j
instance (xs : List Pc) : Decidable (Valid xs) := by unfold Valid; exact inferInstance
theorem OkP.inB {x : Pc} (h : OkP x) : InB x := by
  obtain ⟨_, h1, h2, h3, h4, h5⟩ := h
  unfold InB endP
  omega
def badB' (a : Int) (d : List UInt8) (f t : Int) : Bool :=
  if (if (if (if (if decide (d = []) = true then true else decide (f < 0)) = true then true else decide (f > a)) = true then true else decide (t > 4294967296)) = true then true else decide (a > t)) = true then true
  else decide (((d.length : Nat) : Int) > IntKind.i64.wrap (t - a))
theorem bad_iff' (a : Int) (d : List UInt8) (f t : Int) : badB' a d f t = true ↔ ¬ (d ≠ [] ∧ 0 ≤ f ∧ f ≤ a ∧ t ≤ 4294967296 ∧ a ≤ t ∧ (d.length : Int) ≤ t - a) := by
  unfold badB'
  by_cases h1 : d = []
  · simp [h1]
  by_cases h2 : f < 0
  · simp [h1, h2]; omega
  by_cases h3 : f > a
  · simp [h1, h2, h3]; omega
  by_cases h4 : t > 4294967296
  · simp [h1, h2, h3, h4]; omega
  by_cases h5 : a > t
  · simp [h1, h2, h3, h4, h5]; omega
  have w : IntKind.i64.wrap (t - a) = t - a := wrapId (by omega)
  simp [h1, h2, h3, h4, h5, w]
  omega
def badB (x : Pc) : Bool := badB' (pa x) (pd x) (pf x) (pt x)
theorem bad_iff (x : Pc) : badB x = true ↔ ¬ OkP x := bad_iff' (pa x) (pd x) (pf x) (pt x)
theorem bad_f {x : Pc} (h : badB x = false) : OkP x := Classical.byContradiction fun hn => by rw [(bad_iff x).2 hn] at h; cases h
theorem prevW {i n : Nat} (h : decide ((i : Int) > 0) = true) (hi : i < n) (hn : n ≤ 1099511627776) : IntKind.i64.wrap ((i : Int) - 1) = ((i - 1 : Nat) : Int) := by
  have := of_decide_eq_true h
  rw [wrapId (by omega)]; omega
theorem gR {c b : Bool} (h : (c && b) = true) : b = true := by cases c <;> simp_all
def badR' (a : Int) (d : List UInt8) (f t : Int) : Bool :=
  if (if (if (if (if (if decide (d = []) = true then true else decide (f < 0)) = true then true else decide (t < 0)) = true then true else decide (t > 4294967296)) = true then true else decide (a < f)) = true then true else decide (a > t)) = true then true
  else decide (((d.length : Nat) : Int) > IntKind.i64.wrap (t - a))
theorem badR_iff' (a : Int) (d : List UInt8) (f t : Int) : badR' a d f t = true ↔ ¬ (d ≠ [] ∧ 0 ≤ f ∧ f ≤ a ∧ t ≤ 4294967296 ∧ a ≤ t ∧ (d.length : Int) ≤ t - a) := by
  unfold badR'
  by_cases h1 : d = []
  · simp [h1]
  by_cases h2 : f < 0
  · simp [h1, h2]; omega
  by_cases h6 : t < 0
  · simp [h1, h2, h6]; omega
  by_cases h4 : t > 4294967296
  · simp [h1, h2, h6, h4]; omega
  by_cases h3 : a < f
  · simp [h1, h2, h6, h3, h4]; omega
  by_cases h5 : a > t
  · simp [h1, h2, h6, h3, h4, h5]; omega
  have w : IntKind.i64.wrap (t - a) = t - a := wrapId (by omega)
  simp [h1, h2, h6, h3, h4, h5, w]
  omega
def badR (x : Pc) : Bool := badR' (pa x) (pd x) (pf x) (pt x)
theorem badR_iff (x : Pc) : badR x = true ↔ ¬ OkP x := badR_iff' (pa x) (pd x) (pf x) (pt x)
/-- What the reference's test says at one place. -/
theorem okAt_iff (xs : List Pc) (i : Nat) (hi : i < xs.length) (hl : xs.length ≤ 1099511627776) (hb : ∀ j, j < i → OkAt xs j) :
    (if badR (xs.getD i (Ty.dflt pT)) = true then true else (if decide ((i : Int) > 0) = true then decide (pa (xs.getD i (Ty.dflt pT)) < IntKind.i64.wrap (pa (xs.getD (IntKind.i64.wrap ((i : Int) - 1)).toNat (Ty.dflt pT)) + (pd (xs.getD (IntKind.i64.wrap ((i : Int) - 1)).toNat (Ty.dflt pT))).length)) else false)) = true ↔ ¬ OkAt xs i := by
  unfold OkAt
  by_cases h1 : OkP (xs.getD i (Ty.dflt pT))
  · have hbad : badR (xs.getD i (Ty.dflt pT)) = false := by
      cases hc : badR (xs.getD i (Ty.dflt pT)) with
      | false => rfl
      | true => exact absurd h1 ((badR_iff _).1 hc)
    rw [hbad]
    by_cases h0 : (i : Int) > 0
    · have hp := (hb (i - 1) (by omega)).1.inB
      rw [decide_eq_true h0, prevW (decide_eq_true h0) hi hl, toNat_cast, wrapEnd hp]
      simp only [Bool.false_eq_true, if_false, if_true, decide_eq_true_eq]
      constructor
      · intro h hn
        have := hn.2 (by omega)
        omega
      · intro h
        refine Classical.byContradiction fun hn => h ⟨h1, fun _ => by omega⟩
    · rw [decide_eq_false h0]
      simp only [Bool.false_eq_true, if_false, false_iff, Classical.not_not]
      exact ⟨h1, fun h => by omega⟩
  · rw [(badR_iff _).2 h1]
    simp only [if_true, true_iff]
    exact fun h => h1 h.1
def takeS (s : List UInt8 × Int) (x : Pc) : List UInt8 × Int := if pa x ≤ s.2 ∧ endP x > s.2 then (s.1 ++ (pd x).drop (s.2 - pa x).toNat, endP x) else s
def takeF (xs : List Pc) (a : Int) : List UInt8 × Int := xs.foldl takeS ([], a)
theorem take_next (xs : List Pc) (a : Int) (i : Nat) (h : i < xs.length) : takeF (xs.take (i + 1)) a = takeS (takeF (xs.take i) a) (xs.getD i (Ty.dflt pT)) := by
  rw [take_getD (Ty.dflt pT) h, takeF, List.foldl_append]
  rfl
theorem take_len (a : Int) : ∀ (xs : List Pc) (s : List UInt8 × Int), ((xs.foldl takeS s).1.length : Int) ≤ s.1.length + lenSum xs
  | [], s => by simp [lenSum]
  | x :: r, s => by
    have ih := take_len a r (takeS s x)
    have : ((takeS s x).1.length : Int) ≤ s.1.length + (pd x).length := by
      unfold takeS
      split
      · simp only [List.length_append, List.length_drop]; omega
      · omega
    simp only [List.foldl_cons, lenSum]
    omega
theorem intsOf_app (a b : List UInt8) : intsOf (a ++ b) = intsOf a ++ intsOf b := by simp [intsOf]
theorem intsOf_len (a : List UInt8) : (intsOf a).length = a.length := by simp [intsOf]
theorem bytes_back (a : List UInt8) : (intsOf a).map Fw.byteOf = a := by
  induction a with
  | nil => rfl
  | cons x r ih =>
    have : Fw.byteOf (x.toNat : Int) = x := by simp [Fw.byteOf]
    simp only [intsOf, List.map_cons, this, List.map_map] at ih ⊢
    rw [ih]
theorem take_piece {x : Pc} {t : Int} (hb : InB x) (q1 : pa x ≤ t) (q2 : endP x > t) : IntKind.i64.wrap (t - pa x) = t - pa x ∧ 0 ≤ t - pa x ∧ t - pa x ≤ ((pd x).length : Int) ∧
    ((pd x).take (((pd x).length : Nat) : Int).toNat).drop (IntKind.i64.wrap (t - pa x)).toNat = (pd x).drop (t - pa x).toNat := by
  have h1 := hb.1
  have h2 := hb.2
  unfold endP at h2 q2
  have w : IntKind.i64.wrap (t - pa x) = t - pa x := wrapId (by omega)
  refine ⟨w, by omega, by omega, ?_⟩
  rw [w, toNat_cast, List.take_length]
/-- What a round of Insert keeps: the buffer so far, the conflicts, the covered bytes, the first offset that was not looked at. -/
structure Ins where
  out : List Pc
  conf : Int
  cov : Int
  at_ : Int
def frP (q o : Pc) : Int := max (pa o) (pa q)
def toP (q o : Pc) : Int := min (endP o) (pt q)
def ins1 (q o : Pc) (out : List Pc) : List Pc := if pa o < frP q o then joinL out (partP o (pa o) (frP q o)) else out
def ins2 (q o : Pc) (a : Int) (out : List Pc) : List Pc := if a < frP q o then joinL out (partP q a (frP q o)) else out
def ins3 (pol : Int) (q o : Pc) (out : List Pc) : List Pc := joinL out (if winsB pol o q = true then partP q (frP q o) (toP q o) else partP o (frP q o) (toP q o))
def ins4 (q o : Pc) (out : List Pc) : List Pc := if toP q o < endP o then joinL out (partP o (toP q o) (endP o)) else out
def insCut (q o : Pc) : Int := differN (pd (partP o (frP q o) (toP q o))) (pd (partP q (frP q o) (toP q o))) (pd (partP o (frP q o) (toP q o))).length
def insMid (pol : Int) (q o : Pc) (s : Ins) : Ins :=
  ⟨ins4 q o (ins3 pol q o (ins2 q o s.at_ (ins1 q o s.out))), s.conf + insCut q o, s.cov + (toP q o - frP q o), toP q o⟩
def insFill (q : Pc) (s : Ins) : Ins := if s.at_ < pt q then ⟨joinL s.out (partP q s.at_ (pt q)), s.conf, s.cov, pt q⟩ else s
def insLoop (pol : Int) (q : Pc) : List Pc → Ins → Ins
  | [], s => s
  | o :: r, s =>
    if endP o ≤ pa q then insLoop pol q r ⟨joinL s.out o, s.conf, s.cov, s.at_⟩
    else if pa o ≥ pt q then ⟨(o :: r).foldl joinL (insFill q s).out, s.conf, s.cov, (insFill q s).at_⟩
    else insLoop pol q r (insMid pol q o s)
def insAll (pol : Int) (q : Pc) (l : List Pc) : Ins := insFill q (insLoop pol q l ⟨[], 0, 0, pa q⟩)
def newP (p : Pc) : Pc := (pa p, pd p, pa p, endP p, ())
/-- What Insert returns: the buffer, the conflicts, the error's number. -/
def insR (l : List Pc) (p : Pc) (pol : Int) : List Pc × Int × Int :=
  if pd p = [] then (l, 0, 0)
  else if pa p < 0 ∨ pa p > 2147483648 ∨ pol < 1 ∨ pol > 5 then ([], 0, 4)
  else
    let r := insAll pol (newP p) l
    if pol = 5 ∧ r.cov > 0 then (if r.cov = (pd p).length ∧ r.conf = 0 then (l, 0, 0) else ([], 0, 17))
    else if r.out.length > 64 then ([], 0, 11) else (r.out, r.conf, 0)
theorem joinL_inB {xs : List Pc} {p : Pc} (hx : ∀ x ∈ xs, InB x) (hp : InB p) : ∀ x ∈ joinL xs p, InB x := by
  intro x hm
  unfold joinL at hm
  split at hm
  · rename_i hj
    rcases List.mem_append.1 hm with h | h
    · exact hx x (List.mem_of_mem_take h)
    · simp only [List.mem_singleton] at h
      subst h
      simp only [joins, Bool.and_eq_true, decide_eq_true_eq] at hj
      have hl := hx _ (getD_mem (d := Ty.dflt pT) (show xs.length - 1 < xs.length by omega))
      have h1 : 0 ≤ pa (lastP xs) := hl.1
      have h2 : pa p + (pd p).length ≤ 4611686018427387904 := hp.2
      have h3 : pa (lastP xs) + (pd (lastP xs)).length = pa p := hj.2.1
      refine ⟨h1, ?_⟩
      show pa (lastP xs) + ((pd (lastP xs) ++ pd p).length : Int) ≤ 4611686018427387904
      rw [List.length_append]
      omega
  · rcases List.mem_append.1 hm with h | h
    · exact hx x h
    · simp only [List.mem_singleton] at h
      subst h; exact hp
theorem joinL_len (xs : List Pc) (p : Pc) : (joinL xs p).length ≤ xs.length + 1 := by
  unfold joinL
  split <;> simp <;> omega
theorem partP_inB {x : Pc} {a b : Int} (h : InB x) (h1 : pa x ≤ a) (h2 : a ≤ b) (h3 : b ≤ endP x) : InB (partP x a b) ∧ endP (partP x a b) = b := by
  have hb := h.1
  have hb2 := h.2
  unfold endP at hb2 h3
  have e : ((((pd x).take (b - pa x).toNat).drop (a - pa x).toNat).length : Int) = b - a := by
    rw [List.length_drop, List.length_take]; omega
  have he : endP (partP x a b) = b := by
    show a + ((((pd x).take (b - pa x).toNat).drop (a - pa x).toNat).length : Int) = b
    rw [e]; omega
  exact ⟨⟨by show 0 ≤ a; omega, by rw [he]; omega⟩, he⟩
theorem inB_p {p : Pc} {pol : Int} (h : (if (if (if decide (p.1 < 0) = true then true else decide (p.1 > 2147483648)) = true then true else decide (pol < 1)) = true then true else decide (pol > 5)) = false) (hp : ((pd p).length : Int) ≤ 1099511627776) : InB p := by
  simp only [Bool.if_true_left, Bool.decide_eq_true, Bool.or_eq_false_iff, decide_eq_false_iff_not] at h
  have h1 : ¬ pa p < 0 := h.1.1.1
  have h2 : ¬ pa p > 2147483648 := h.1.1.2
  exact ⟨by omega, by unfold endP; omega⟩
structure InvI (l : List Pc) (pol : Int) (q : Pc) (i : Nat) (s : Ins) : Prop where
  le : i ≤ l.length
  loop : insLoop pol q (l.drop i) s = insLoop pol q l ⟨[], 0, 0, pa q⟩
  inb : ∀ x ∈ s.out, InB x
  len : s.out.length ≤ 5 * i
  lo : pa q ≤ s.at_
  hi : s.at_ ≤ pt q
  conf0 : 0 ≤ s.conf
  conf : s.conf ≤ s.cov
  cov : s.cov ≤ s.at_ - pa q
  seen : s.at_ = pa q ∨ ∃ j, j < i ∧ s.at_ ≤ endP (l.getD j (Ty.dflt pT))
/-- What holds behind the loop. -/
structure InvR (q : Pc) (s : Ins) : Prop where
  inb : ∀ x ∈ s.out, InB x
  len : s.out.length ≤ 8589934592
  lo : pa q ≤ s.at_
  hi : s.at_ ≤ pt q
abbrev restOut (l : List Pc) (q : Pc) (s : Ins) (i j : Nat) : List Pc := ((l.drop i).take j).foldl joinL (insFill q s).out
theorem vInB {l : List Pc} (hv : Valid l) {i : Nat} (h : i < l.length) : InB (l.getD i (Ty.dflt pT)) := (hv i h).1.inB
/-- What is known of the new piece. -/
structure NewOk (p : Pc) : Prop where
  inb : InB (newP p)
  pte : pt (newP p) = endP (newP p)
  lt : pa (newP p) < endP (newP p)
  len : ((pd (newP p)).length : Int) ≤ 1099511627776
theorem newOk {p : Pc} {pol : Int} (h1 : decide (p.2.1 = []) = false) (h : (if (if (if decide (p.1 < 0) = true then true else decide (p.1 > 2147483648)) = true then true else decide (pol < 1)) = true then true else decide (pol > 5)) = false) (hp : ((pd p).length : Int) ≤ 1099511627776) : NewOk p := by
  have hb := inB_p h hp
  have hne : pd p ≠ [] := of_decide_eq_false h1
  have hpos : 0 < (pd p).length := List.length_pos_iff.2 hne
  exact ⟨hb, rfl, by show pa p < pa p + (pd p).length; omega, hp⟩
/-- Where an old piece and the new one meet. -/
structure Meet (o q : Pc) (a : Int) : Prop where
  oin : InB o
  qin : InB q
  ofr : pa o ≤ frP q o
  qfr : pa q ≤ frP q o
  frto : frP q o < toP q o
  too : toP q o ≤ endP o
  toq : toP q o ≤ endP q
  afr : a ≤ frP q o
  qpt : pt q = endP q
theorem meet_of {l : List Pc} {p : Pc} {pol : Int} {i : Nat} {s : Ins} (hv : Valid l) (hn : NewOk p) (hi : InvI l pol (newP p) i s) (h3 : i < l.length) (h4 : ¬ endP (l.getD i (Ty.dflt pT)) ≤ pa (newP p)) (h5 : ¬ pa (l.getD i (Ty.dflt pT)) ≥ pt (newP p)) :
    Meet (l.getD i (Ty.dflt pT)) (newP p) s.at_ := by
  have ho := vInB hv h3
  have hok := (hv i h3).1
  have hpos : 0 < (pd (l.getD i (Ty.dflt pT))).length := List.length_pos_iff.2 hok.1
  have hlt : pa (l.getD i (Ty.dflt pT)) < endP (l.getD i (Ty.dflt pT)) := by unfold endP; omega
  have hl := hn.lt
  have hpt := hn.pte
  have hsort : ∀ k j, j + k < i → endP (l.getD j (Ty.dflt pT)) ≤ pa (l.getD (j + k + 1) (Ty.dflt pT)) := by
    intro k
    induction k with
    | zero => intro j hj; have := (hv (j + 1) (by omega)).2 (by omega); simpa using this
    | succ k ih =>
      intro j hj
      have h1 := ih j (by omega)
      have h2 := (hv (j + k + 1 + 1) (by omega)).2 (by omega)
      have h3' := (hv (j + k + 1) (by omega)).1
      have h4' : pa (l.getD (j + k + 1) (Ty.dflt pT)) ≤ endP (l.getD (j + k + 1) (Ty.dflt pT)) := by unfold endP; omega
      simp only [Nat.add_sub_cancel] at h2
      have e : j + (k + 1) + 1 = j + k + 1 + 1 := by omega
      rw [e]
      omega
  have hafr : s.at_ ≤ max (pa (l.getD i (Ty.dflt pT))) (pa (newP p)) := by
    rcases hi.seen with h | ⟨j, hj, h⟩
    · omega
    · have := hsort (i - j - 1) j (by omega)
      rw [show j + (i - j - 1) + 1 = i by omega] at this
      omega
  refine ⟨ho, hn.inb, ?_, ?_, ?_, ?_, ?_, hafr, hpt⟩ <;> (try unfold frP) <;> (try unfold toP) <;> omega
theorem cut_le (s t : List UInt8) (n : Nat) : differN s t n ≤ n := by
  have := List.countP_le_length (p := fun k => decide (((s.getD k 0).toNat : Int) ≠ ((t.getD k 0).toNat : Int))) (l := List.range n)
  simpa [differN] using this
theorem part_len {x : Pc} {a b : Int} (h : InB x) (h1 : pa x ≤ a) (h2 : a ≤ b) (h3 : b ≤ endP x) : ((pd (partP x a b)).length : Int) = b - a := by
  have := (partP_inB h h1 h2 h3).2
  have e : endP (partP x a b) = a + ((pd (partP x a b)).length : Int) := rfl
  omega
structure Small (o q : Pc) (s : Ins) : Prop where
  conf : IntKind.i64.wrap (s.conf + insCut q o) = s.conf + insCut q o
  cov : IntKind.i64.wrap (s.cov + IntKind.i64.wrap (toP q o - frP q o)) = s.cov + (toP q o - frP q o)
  cut0 : 0 ≤ insCut q o
  cut : insCut q o ≤ toP q o - frP q o
theorem small_of {l : List Pc} {p : Pc} {pol : Int} {i : Nat} {s : Ins} {o : Pc} (hn : NewOk p) (hi : InvI l pol (newP p) i s) (m : Meet o (newP p) s.at_) : Small o (newP p) s := by
  have hl := part_len m.oin m.ofr (Int.le_of_lt m.frto) m.too
  have hc : insCut (newP p) o ≤ (pd (partP o (frP (newP p) o) (toP (newP p) o))).length := by
    have := cut_le (pd (partP o (frP (newP p) o) (toP (newP p) o))) (pd (partP (newP p) (frP (newP p) o) (toP (newP p) o))) (pd (partP o (frP (newP p) o) (toP (newP p) o))).length
    unfold insCut; omega
  have hc0 : 0 ≤ insCut (newP p) o := by unfold insCut; omega
  have h1 := hn.len
  have h2 : endP (newP p) = pa (newP p) + (pd (newP p)).length := rfl
  have h3 := m.toq
  have h4 := m.qfr
  have h5 := m.frto
  have h6 := hi.conf
  have h7 := hi.cov
  have h8 := hi.hi
  have h9 := hn.pte
  have h10 := hi.conf0
  have w : IntKind.i64.wrap (toP (newP p) o - frP (newP p) o) = toP (newP p) o - frP (newP p) o := wrapId (by omega)
  exact ⟨wrapId (by omega), by rw [w]; exact wrapId (by omega), hc0, by omega⟩
theorem i_lt {i n : Nat} (h : decide ((i : Int) < (n : Int)) = true) : i < n := by have := of_decide_eq_true h; omega
theorem inv_skip {l : List Pc} {p : Pc} {pol : Int} {i : Nat} {s : Ins} (hv : Valid l) (hi : InvI l pol (newP p) i s) (h3 : i < l.length) (h4 : endP (l.getD i (Ty.dflt pT)) ≤ pa (newP p)) :
    InvI l pol (newP p) (i + 1) ⟨joinL s.out (l.getD i (Ty.dflt pT)), s.conf, s.cov, s.at_⟩ := by
  refine ⟨h3, ?_, joinL_inB hi.inb (vInB hv h3), ?_, hi.lo, hi.hi, hi.conf0, hi.conf, hi.cov, ?_⟩
  · rw [← hi.loop, drop_getD (Ty.dflt pT) h3, insLoop, if_pos h4]
  · have := joinL_len s.out (l.getD i (Ty.dflt pT)); have := hi.len; show (joinL _ _).length ≤ _; omega
  · rcases hi.seen with h | ⟨j, hj, h⟩
    · exact .inl h
    · exact .inr ⟨j, by omega, h⟩
theorem inv_mid {l : List Pc} {p : Pc} {pol : Int} {i : Nat} {s : Ins} (hi : InvI l pol (newP p) i s) (h3 : i < l.length) (h4 : ¬ endP (l.getD i (Ty.dflt pT)) ≤ pa (newP p)) (h5 : ¬ pa (l.getD i (Ty.dflt pT)) ≥ pt (newP p))
    (m : Meet (l.getD i (Ty.dflt pT)) (newP p) s.at_) (sm : Small (l.getD i (Ty.dflt pT)) (newP p) s) (h9 : (∀ x ∈ (insMid pol (newP p) (l.getD i (Ty.dflt pT)) s).out, InB x) ∧ (insMid pol (newP p) (l.getD i (Ty.dflt pT)) s).out.length ≤ 5 * i + 4) :
    InvI l pol (newP p) (i + 1) (insMid pol (newP p) (l.getD i (Ty.dflt pT)) s) := by
  have a1 := m.frto
  have a2 := m.qfr
  have a3 := m.afr
  have a4 := m.qpt
  have a5 := m.toq
  have a6 := m.too
  have b1 := sm.cut0
  have b2 := sm.cut
  have c1 := hi.conf0
  have c2 := hi.conf
  have c3 := hi.cov
  refine ⟨h3, ?_, h9.1, by have := h9.2; omega, ?_, ?_, ?_, ?_, ?_, .inr ⟨i, by omega, a6⟩⟩
  · rw [← hi.loop, drop_getD (Ty.dflt pT) h3, insLoop, if_neg h4, if_neg h5]
  · show pa (newP p) ≤ toP _ _; omega
  · show toP _ _ ≤ pt (newP p); omega
  · show 0 ≤ s.conf + insCut _ _; omega
  · show s.conf + insCut _ _ ≤ s.cov + (toP _ _ - frP _ _); omega
  · show s.cov + (toP _ _ - frP _ _) ≤ toP _ _ - pa (newP p); omega
/-- What is known behind the filling. -/
structure FillR (q : Pc) (s : Ins) (n : Nat) : Prop where
  inb : ∀ x ∈ (insFill q s).out, InB x
  len : (insFill q s).out.length ≤ n + 1
  at_ : (insFill q s).at_ = pt q
theorem fill_of {q : Pc} {s : Ins} {n : Nat} (hq : InB q) (he : pt q = endP q) (hb : ∀ x ∈ s.out, InB x) (hn : s.out.length ≤ n) (lo : pa q ≤ s.at_) (hi : s.at_ ≤ pt q) : FillR q s n := by
  by_cases h : s.at_ < pt q
  · have hp := (partP_inB hq lo (Int.le_of_lt h) (by omega)).1
    refine ⟨?_, ?_, ?_⟩ <;> unfold insFill <;> rw [if_pos h]
    · exact joinL_inB hb hp
    · have := joinL_len s.out (partP q s.at_ (pt q)); show (joinL _ _).length ≤ _; omega
  · refine ⟨?_, ?_, ?_⟩ <;> unfold insFill <;> rw [if_neg h]
    · exact hb
    · omega
    · omega
theorem drop_inB {l : List Pc} (hv : Valid l) {i j : Nat} (h : j < (l.drop i).length) : InB ((l.drop i).getD j (Ty.dflt pT)) := by
  have hj : i + j < l.length := by simp at h; omega
  have e : (l.drop i).getD j (Ty.dflt pT) = l.getD (i + j) (Ty.dflt pT) := by simp [List.getD]
  rw [e]; exact vInB hv hj
theorem rest_next (l : List Pc) (q : Pc) (s : Ins) (i j : Nat) (h : j < (l.drop i).length) : restOut l q s i (j + 1) = joinL (restOut l q s i j) ((l.drop i).getD j (Ty.dflt pT)) := by
  show ((l.drop i).take (j + 1)).foldl joinL _ = _
  rw [take_getD (Ty.dflt pT) h, List.foldl_append]
  rfl
theorem inv_R {l : List Pc} {p : Pc} {pol : Int} {i : Nat} {s : Ins} (hl : l.length ≤ 1073741824) (hi : InvI l pol (newP p) i s) (h3 : ¬ i < l.length) : insLoop pol (newP p) l ⟨[], 0, 0, pa (newP p)⟩ = s ∧ InvR (newP p) s := by
  have hle := hi.le
  have hlen := hi.len
  refine ⟨?_, hi.inb, by omega, hi.lo, hi.hi⟩
  rw [← hi.loop, List.drop_of_length_le (by omega)]
  rfl
theorem inv_B {l : List Pc} {p : Pc} {pol : Int} {i j : Nat} {s : Ins} (hl : l.length ≤ 1073741824) (hn : NewOk p) (hi : InvI l pol (newP p) i s) (h3 : i < l.length) (h4 : ¬ endP (l.getD i (Ty.dflt pT)) ≤ pa (newP p)) (h5 : pa (l.getD i (Ty.dflt pT)) ≥ pt (newP p))
    (hj : ¬ j < (l.drop i).length) (hb : ∀ x ∈ restOut l (newP p) s i j, InB x) (hlen : (restOut l (newP p) s i j).length ≤ 5 * i + 1 + j) (hjl : j ≤ (l.drop i).length) :
    insLoop pol (newP p) l ⟨[], 0, 0, pa (newP p)⟩ = ⟨restOut l (newP p) s i j, s.conf, s.cov, (insFill (newP p) s).at_⟩ ∧ InvR (newP p) ⟨restOut l (newP p) s i j, s.conf, s.cov, (insFill (newP p) s).at_⟩ := by
  have fr := fill_of hn.inb hn.pte hi.inb hi.len hi.lo hi.hi
  have hd : (l.drop i).length = l.length - i := by simp
  have a1 := hn.pte
  have a2 := hn.lt
  refine ⟨?_, hb, by show (restOut _ _ _ _ _).length ≤ _; omega, by show pa _ ≤ (insFill _ _).at_; rw [fr.at_]; omega, by show (insFill _ _).at_ ≤ _; rw [fr.at_]; exact Int.le_refl _⟩
  rw [← hi.loop]
  have e : (l.drop i).take j = l.drop i := List.take_of_length_le (by omega)
  have e2 : restOut l (newP p) s i j = (l.drop i).foldl joinL (insFill (newP p) s).out := by show ((l.drop i).take j).foldl joinL _ = _; rw [e]
  rw [e2, drop_getD (Ty.dflt pT) h3, insLoop, if_neg h4, if_pos h5]
abbrev rangeB (a pol : Int) : Bool := if (if (if decide (a < 0) = true then true else decide (a > 2147483648)) = true then true else decide (pol < 1)) = true then true else decide (pol > 5)
theorem rangeB_t {a pol : Int} (h : rangeB a pol = true) : a < 0 ∨ a > 2147483648 ∨ pol < 1 ∨ pol > 5 := by
  simp only [rangeB, Bool.if_true_left, Bool.decide_eq_true, Bool.or_eq_true, decide_eq_true_eq] at h
  omega
theorem rangeB_f {a pol : Int} (h : rangeB a pol = false) : ¬ (a < 0 ∨ a > 2147483648 ∨ pol < 1 ∨ pol > 5) := by
  simp only [rangeB, Bool.if_true_left, Bool.decide_eq_true, Bool.or_eq_false_iff, decide_eq_false_iff_not] at h
  omega
theorem insR_nil {l : List Pc} {p : Pc} {pol : Int} (h : decide (p.2.1 = []) = true) : insR l p pol = (l, 0, 0) := if_pos (of_decide_eq_true h)
theorem insR_range {l : List Pc} {p : Pc} {pol : Int} (h : decide (p.2.1 = []) = false) (h2 : rangeB p.1 pol = true) : insR l p pol = ([], 0, 4) := (if_neg (of_decide_eq_false h)).trans (if_pos (rangeB_t h2))
theorem insR_go {l : List Pc} {p : Pc} {pol : Int} (h : decide (p.2.1 = []) = false) (h2 : rangeB p.1 pol = false) : insR l p pol =
    (if pol = 5 ∧ (insAll pol (newP p) l).cov > 0 then (if (insAll pol (newP p) l).cov = (pd p).length ∧ (insAll pol (newP p) l).conf = 0 then (l, 0, 0) else ([], 0, 17))
    else if (insAll pol (newP p) l).out.length > 64 then ([], 0, 11) else ((insAll pol (newP p) l).out, (insAll pol (newP p) l).conf, 0)) := (if_neg (of_decide_eq_false h)).trans (if_neg (rangeB_f h2))
theorem gand_t {c d : Prop} [Decidable c] [Decidable d] (h : (if decide c = true then decide d else false) = true) : c ∧ d := by
  by_cases hc : c
  · simp [hc] at h; exact ⟨hc, h⟩
  · simp [hc] at h
theorem gand_f {c d : Prop} [Decidable c] [Decidable d] (h : (if decide c = true then decide d else false) = false) : ¬ (c ∧ d) := by
  by_cases hc : c
  · simp [hc] at h; exact fun k => h k.2
  · exact fun k => hc k.1
abbrev insAV (r : List Pc × Int × Int) : AV := .tup [.list pT r.1, .int .i64 r.2.1, .int .i64 r.2.2]
end Go.Ov
