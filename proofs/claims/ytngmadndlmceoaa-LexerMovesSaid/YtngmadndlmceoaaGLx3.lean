import Derived.Test.YtngmadndlmceoaaGLx2
set_option linter.all false
/- Plain words of chapter 04: what is printed is read back. -/
namespace Go.Lx
open Go Go.Fw Go.Ov
variable {T : List UInt8}
theorem drop1 {a : Nat} {x : UInt8} {y : List UInt8} (h : T.drop a = x :: y) : a < T.length ∧ T.getD a 0 = x ∧ T.drop (a + 1) = y ∧ ch T a = ((x.toNat : Nat) : Int) := by
  have h1 : a < T.length := by
    apply Classical.byContradiction
    intro n
    rw [List.drop_of_length_le (by omega)] at h
    cases h
  have h2 := drop_cons h1
  rw [h] at h2
  simp only [List.cons.injEq] at h2
  exact ⟨h1, h2.1.symm, h2.2.symm, by unfold ch; rw [← h2.1]⟩
def qR : Bool → List UInt8 → List UInt8
  | false, [] => [34]
  | true, [] => [124, 34]
  | op, c :: r => if pB c = true then (if op = true then [124] else []) ++ c :: qR false r else (if op = true then 32 else 124) :: hexD (c.toNat / 16) :: hexD (c.toNat % 16) :: qR true r
theorem qR_p {c : UInt8} (h : pB c = true) (op : Bool) (r : List UInt8) : qR op (c :: r) = (if op = true then [124] else []) ++ c :: qR false r := by cases op <;> exact if_pos h
theorem qR_n {c : UInt8} (h : ¬ pB c = true) (op : Bool) (r : List UInt8) : qR op (c :: r) = (if op = true then 32 else 124) :: hexD (c.toNat / 16) :: hexD (c.toNat % 16) :: qR true r := by cases op <;> exact if_neg h
theorem q_fold : ∀ (r : List UInt8) (x : List UInt8 × Bool), (r.foldl qStep x).1 ++ ((if (r.foldl qStep x).2 = true then [124] else []) ++ [34]) = x.1 ++ qR x.2 r
  | [], (acc, op) => by cases op <;> simp [qR]
  | c :: r, (acc, op) => by
    rw [List.foldl_cons, q_fold r]
    unfold qStep
    by_cases hp : pB c = true
    · simp only [if_pos hp, qR]; simp
    · simp only [if_neg hp, qR]; simp
theorem quoteS_eq (s : List UInt8) : quoteS s = 34 :: qR false s := by
  unfold quoteS qN
  rw [List.take_length, q_fold]; rfl
theorem hexD_ok {n : Nat} (h : n < 16) : hexC ((hexD n).toNat : Int) = n := by
  revert n; decide +kernel
theorem hex_back (c : UInt8) : Fw.byteOf (((c.toNat / 16 : Nat) : Int) * 16 + ((c.toNat % 16 : Nat) : Int)) = c := by
  unfold Fw.byteOf
  have : (((c.toNat / 16 : Nat) : Int) * 16 + ((c.toNat % 16 : Nat) : Int)).toNat = c.toNat := by omega
  rw [this]
  exact UInt8.ofNat_toNat
/-- A group of bytes behind its first byte. -/
theorem grp_read (rest : List UInt8) : ∀ (r : List UInt8) (c : UInt8) (g : List UInt8) (a : Nat), T.drop a = hexD (c.toNat / 16) :: hexD (c.toNat % 16) :: (qR true r ++ rest) →
    ∃ run r' e, r = run ++ r' ∧ grpS T g a = (g ++ c :: run, e, true) ∧ T.drop e = qR false r' ++ rest
  | r, c, g, a, h => by
    have hc := c.toNat_lt
    obtain ⟨a1, b1, c1, d1⟩ := drop1 h
    obtain ⟨a2, b2, c2, d2⟩ := drop1 c1
    have x1 := hexD_ok (show c.toNat / 16 < 16 by omega)
    have x2 := hexD_ok (show c.toNat % 16 < 16 by omega)
    have n1 : noHex T a = false := by unfold noHex; rw [d1, x1, decide_eq_false (by omega), decide_eq_false (by omega)]; rfl
    have n2 : noHex T (a + 1) = false := by unfold noHex; rw [d2, x2, decide_eq_false (by omega), decide_eq_false (by omega)]; rfl
    have e2 : twoHex T a = c := by unfold twoHex; rw [d1, d2, x1, x2]; exact hex_back c
    have hg := grpS_eq (s := T) (acc := g) (a := a) (by omega)
    rw [if_neg (by rw [n1]; decide), if_neg (by rw [n2]; decide), e2] at hg
    cases r with
    | nil =>
      obtain ⟨a3, b3, c3, d3⟩ := drop1 (x := 124) (y := 34 :: rest) (by rw [c2]; rfl)
      rw [if_pos ⟨a3, d3⟩] at hg
      exact ⟨[], [], a + 3, rfl, hg, c3⟩
    | cons c' r =>
      by_cases hp : pB c' = true
      · obtain ⟨a3, b3, c3, d3⟩ := drop1 (x := 124) (y := c' :: qR false r ++ rest) (by rw [c2, qR_p hp]; rfl)
        rw [if_pos ⟨a3, d3⟩] at hg
        exact ⟨[], c' :: r, a + 3, rfl, hg, by rw [c3, qR_p hp]; rfl⟩
      · obtain ⟨a3, b3, c3, d3⟩ := drop1 (x := 32) (y := hexD (c'.toNat / 16) :: hexD (c'.toNat % 16) :: (qR true r ++ rest)) (by rw [c2, qR_n hp]; rfl)
        have d3' : ch T (a + 2) = 32 := d3
        rw [if_neg (fun k => by rw [d3'] at k; exact absurd k.2 (by decide)), if_neg (fun k => by rcases k with k | k; exact absurd a3 (by omega); exact k d3')] at hg
        obtain ⟨run, r', e, k1, k2, k3⟩ := grp_read rest r c' (g ++ [c]) (a + 3) c3
        exact ⟨c' :: run, r', e, by rw [k1]; rfl, by rw [hg, k2, List.append_assoc]; rfl, k3⟩
theorem end_of {a : Nat} {x : UInt8} {rest : List UInt8} (h : T.drop a = x :: rest) : a + 1 = T.length - rest.length := by
  have h1 := congrArg List.length h
  have h2 := (drop1 h).1
  simp only [List.length_drop, List.length_cons] at h1
  omega
/-- The content of a quoted string. -/
theorem lit_read (rest : List UInt8) : ∀ (n : Nat) (r acc : List UInt8) (a : Nat), r.length ≤ n → T.drop a = qR false r ++ rest → litS T acc a = (acc ++ r, T.length - rest.length, true)
  | n, [], acc, a, hn, h => by
    have h' : T.drop a = 34 :: rest := h
    obtain ⟨a1, b1, c1, d1⟩ := drop1 h'
    have d1' : ch T a = 34 := d1
    rw [litS_eq (by omega), if_neg (by omega), if_pos d1', List.append_nil, end_of h']
  | 0, c :: r, acc, a, hn, h => by simp at hn
  | n + 1, c :: r, acc, a, hn, h => by
    simp only [List.length_cons] at hn
    by_cases hp : pB c = true
    · have h' : T.drop a = c :: (qR false r ++ rest) := by rw [h, qR_p hp]; rfl
      obtain ⟨a1, b1, c1, d1⟩ := drop1 h'
      have hp' : 32 ≤ ((c.toNat : Nat) : Int) ∧ ((c.toNat : Nat) : Int) ≤ 126 ∧ ((c.toNat : Nat) : Int) ≠ 34 ∧ ((c.toNat : Nat) : Int) ≠ 92 ∧ ((c.toNat : Nat) : Int) ≠ 124 := of_decide_eq_true hp
      rw [litS_eq (by omega), d1, if_neg (by omega), if_neg (by omega), if_neg (by omega), if_neg (by omega), if_neg (by omega), b1, lit_read rest n r _ _ (by omega) c1, List.append_assoc]; rfl
    · have h' : T.drop a = 124 :: hexD (c.toNat / 16) :: hexD (c.toNat % 16) :: (qR true r ++ rest) := by rw [h, qR_n hp]; rfl
      obtain ⟨a1, b1, c1, d1⟩ := drop1 h'
      have d1' : ch T a = 124 := d1
      obtain ⟨run, r', e, k1, k2, k3⟩ := grp_read rest r c [] (a + 1) c1
      rw [litS_eq (by omega), d1', if_neg (by omega), if_neg (by decide), if_neg (by decide), if_pos rfl, if_neg (fun k => by rw [k2] at k; cases k), k2, lit_read rest n r' _ e (by rw [k1, List.length_append] at hn; omega) k3, k1]
      simp
theorem lit_quote {s rest : List UInt8} {a : Nat} (h : T.drop a = quoteS s ++ rest) : litR T a = if s.length > 256 then ([], a, 3) else (s, T.length - rest.length, 0) := by
  rw [quoteS_eq] at h
  obtain ⟨a1, b1, c1, d1⟩ := drop1 (y := qR false s ++ rest) h
  have := lit_read rest _ s [] (a + 1) (Nat.le_refl _) c1
  exact litR_yes this
theorem while_run (p : Int → Bool) : ∀ (w rest : List UInt8) (a : Nat), T.drop a = w ++ rest → (∀ c ∈ w, p ((c.toNat : Nat) : Int) = true) → (rest = [] ∨ ∃ x y, rest = x :: y ∧ p ((x.toNat : Nat) : Int) = false) → a ≤ T.length → whileS p T a = a + w.length
  | [], rest, a, h, hp, hr, ha => by
    rcases hr with rfl | ⟨x, y, rfl, hx⟩
    · have : a = T.length := by have := congrArg List.length h; simp at this; omega
      exact whileS_end (by omega)
    · obtain ⟨a1, b1, c1, d1⟩ := drop1 (y := y) h
      exact whileS_end (by rw [d1, hx]; simp)
  | c :: w, rest, a, h, hp, hr, ha => by
    obtain ⟨a1, b1, c1, d1⟩ := drop1 (y := w ++ rest) h
    rw [whileS_next a1 (by rw [d1]; exact hp c (by simp)), while_run p w rest (a + 1) c1 (fun x hx => hp x (by simp [hx])) hr (by omega)]
    simp; omega
theorem take_run {w rest : List UInt8} {a : Nat} (h : T.drop a = w ++ rest) : (T.take (a + w.length)).drop a = w := by
  rw [take_drop, h]; simp
/-- Behind a printed token stands nothing, or a space. -/
def Gap (rest : List UInt8) : Prop := rest = [] ∨ ∃ y, rest = 32 :: y
theorem Gap.stop {rest : List UInt8} (h : Gap rest) {p : Int → Bool} (hp : p 32 = false) : rest = [] ∨ ∃ x y, rest = x :: y ∧ p ((x.toNat : Nat) : Int) = false := by
  rcases h with rfl | ⟨y, rfl⟩
  · exact .inl rfl
  · exact .inr ⟨32, y, rfl, hp⟩
theorem all_of_while {p : Int → Bool} {s : List UInt8} (h : whileS p s 0 = s.length) : ∀ c ∈ s, p ((c.toNat : Nat) : Int) = true := by
  intro c hc
  obtain ⟨i, hi, rfl⟩ := List.getElem_of_mem hc
  apply Classical.byContradiction
  intro hn
  have := whileS_stop (p := p) (s := s) i 0 i rfl (Nat.zero_le _) hi (by unfold ch; rw [List.getD_eq_getElem?_getD]; simpa [hi] using hn)
  omega
end Go.Lx

/- Plain words of chapter 04: printed tokens are read back. -/
namespace Go.Lx
open Go Go.Fw Go.Ov
variable {T : List UInt8}
theorem mark_mem {s : List UInt8} (h : markR s ≠ []) : markR s ∈ mkL := by
  unfold markR at h ⊢
  split at h
  · rename_i m hm; exact List.mem_of_find?_eq_some hm
  · exact absurd rfl h
theorem mark_head : ∀ m ∈ mkL, m ≠ [] ∧ inWordB ((m.headD 0).toNat : Int) = false ∧ ((m.headD 0).toNat : Int) ≠ 36 ∧ ((m.headD 0).toNat : Int) ≠ 34 ∧ isSpace ((m.headD 0).toNat : Int) = false ∧ ((m.headD 0).toNat : Int) ≠ 35 := by decide +kernel
theorem mark_read {m rest : List UInt8} (hm : m ∈ mkL) (hr : Gap rest) : markR (m ++ rest) = m := by
  simp only [mkL, List.mem_cons, List.mem_nil_iff, or_false] at hm
  rcases hr with rfl | ⟨y, rfl⟩
  · rw [List.append_nil]
    rcases hm with rfl | rfl | rfl | rfl | rfl | rfl | rfl | rfl | rfl | rfl | rfl | rfl | rfl | rfl | rfl | rfl | rfl <;> decide +kernel
  · rcases hm with rfl | rfl | rfl | rfl | rfl | rfl | rfl | rfl | rfl | rfl | rfl | rfl | rfl | rfl | rfl | rfl | rfl <;> (rw [List.cons_append, markR_cons]; simp [two, oneM])
theorem inWord_first {c : Int} (h : inWordB c = true) : isSpace c = false ∧ c ≠ 35 := by
  constructor
  · cases hs : isSpace c with
    | false => rfl
    | true => unfold inWordB classC at h; rw [if_pos hs] at h; exact absurd h (by decide)
  · rintro rfl; exact absurd h (by decide)
def First (w : List UInt8) : Prop := ∃ c y, w = c :: y ∧ isSpace ((c.toNat : Nat) : Int) = false ∧ ((c.toNat : Nat) : Int) ≠ 35
theorem tok_read {t : Tk} {rest : List UInt8} {a : Nat} (hok : okT t = true) (h : T.drop a = (writtenS t).1 ++ rest) (hr : Gap rest) :
    tokM T a = (((t.1, t.2.1, (a : Int), ()), a + (writtenS t).1.length), (0, 0)) ∧ First (writtenS t).1 := by
  have hlen : a ≤ T.length := by
    apply Classical.byContradiction
    intro n
    rw [List.drop_of_length_le (by omega)] at h
    have := written_ne hok
    rw [eq_comm, List.append_eq_nil_iff] at h
    exact this h.1
  obtain ⟨k, s, at_, ⟨⟩⟩ := t
  unfold okT at hok
  unfold writtenS at hok h ⊢
  dsimp only at hok h ⊢
  by_cases h1 : k = 1
  · rw [if_pos h1] at hok h ⊢
    simp only [Bool.and_eq_true, decide_eq_true_eq] at hok
    obtain ⟨⟨hne, h80⟩, hw⟩ := hok
    have hall := all_of_while hw
    have hwr := while_run inWordB s rest a h hall (hr.stop (by decide)) hlen
    cases s with
    | nil => exact absurd rfl hne
    | cons c y =>
      obtain ⟨a1, b1, c1, d1⟩ := drop1 (y := y ++ rest) h
      have hc := hall c (by simp)
      refine ⟨?_, c, y, rfl, (inWord_first hc).1, (inWord_first hc).2⟩
      unfold tokM
      rw [if_pos (by rw [d1]; exact hc), hwr, if_neg (by omega), take_run h, h1]
  · rw [if_neg h1] at hok h ⊢
    by_cases h3 : k = 3
    · rw [if_pos h3] at hok h ⊢
      obtain ⟨a1, b1, c1, d1⟩ := drop1 (y := s ++ rest) h
      have d1' : ch T a = 36 := d1
      have hok' : nameB s = true := hok
      unfold nameB at hok
      simp only [Bool.and_eq_true, decide_eq_true_eq] at hok
      have hall := all_of_while hok.2
      have hwr := while_run inNameB s rest (a + 1) c1 hall (hr.stop (by decide)) (by omega)
      refine ⟨?_, 36, s, rfl, by decide, by decide⟩
      unfold tokM
      rw [d1', if_neg (by decide), if_pos rfl, hwr, take_run c1, if_pos hok', h3]
      simp only [List.length_cons, Prod.mk.injEq, true_and, and_true]
      omega
    · rw [if_neg h3] at hok h ⊢
      by_cases h2 : k = 2
      · rw [if_pos h2] at hok h ⊢
        simp only [decide_eq_true_eq] at hok
        have hq := h
        rw [quoteS_eq] at hq
        obtain ⟨a1, b1, c1, d1⟩ := drop1 (y := qR false s ++ rest) hq
        have d1' : ch T a = 34 := d1
        have hl := lit_quote h
        rw [if_neg (by omega)] at hl
        refine ⟨?_, 34, qR false s, quoteS_eq s, by decide, by decide⟩
        unfold tokM
        rw [d1', if_neg (by decide), if_neg (by decide), if_pos rfl, hl, if_pos rfl, h2]
        have := congrArg List.length h
        simp only [List.length_drop, List.length_append] at this
        simp only [Prod.mk.injEq, true_and, and_true]
        omega
      · rw [if_neg h2] at hok h ⊢
        by_cases h4 : k = 4
        · rw [if_pos h4] at hok h ⊢
          simp only [Bool.and_eq_true, decide_eq_true_eq] at hok
          have hm : s ∈ mkL := by have := mark_mem (s := s) (by rw [hok.2]; exact hok.1); rwa [hok.2] at this
          obtain ⟨hne, k1, k2, k3, k4, k5⟩ := mark_head s hm
          have hmr := mark_read hm hr
          cases s with
          | nil => exact absurd rfl hne
          | cons c y =>
            obtain ⟨a1, b1, c1, d1⟩ := drop1 (y := y ++ rest) h
            refine ⟨?_, c, y, rfl, k4, k5⟩
            unfold tokM
            have k1' : inWordB ((c.toNat : Nat) : Int) = false := k1
            have k2' : ((c.toNat : Nat) : Int) ≠ 36 := k2
            have k3' : ((c.toNat : Nat) : Int) ≠ 34 := k3
            have h' : T.drop a = c :: y ++ rest := h
            rw [d1, if_neg (by rw [k1']; decide), if_neg k2', if_neg k3', h', hmr, if_neg hne, h4]
        · rw [if_neg h4] at hok
          cases hok
def toksA : Nat → List Tk → List Tk
  | _, [] => []
  | a, t :: v => (t.1, t.2.1, (a : Int), ()) :: toksA (a + (writtenS t).1.length + 1) v
theorem skip_first {w rest : List UInt8} {a : Nat} (h : T.drop a = w ++ rest) (hf : First w) : skipS T a = a := by
  obtain ⟨c, y, rfl, h1, h2⟩ := hf
  obtain ⟨a1, b1, c1, d1⟩ := drop1 (y := y ++ rest) h
  rw [skipS_eq a1, d1, h1, if_neg (by decide), if_neg h2]
theorem okL {t : Tk} {v : List Tk} (h : ∀ x ∈ t :: v, okT x = true) : okT t = true ∧ ∀ x ∈ v, okT x = true := ⟨h t (by simp), fun x hx => h x (by simp [hx])⟩
/-- Printed tokens are read back. -/
theorem scan_read : ∀ (v : List Tk) (t : Tk) (acc : List Tk) (a : Nat), (∀ x ∈ t :: v, okT x = true) → T.drop a = Go.Lib.join ((t :: v).map fun t => (writtenS t).1) [32] →
    scanA T acc a = (acc ++ toksA a (t :: v) ++ [(0, [], (T.length : Int), ())], 0, 0) ∧ First (writtenS t).1
  | [], t, acc, a, hv, h => by
    rw [List.map_cons, List.map_nil, Go.Lib.join_one] at h
    obtain ⟨k1, k2⟩ := tok_read (rest := []) (okL hv).1 (by rw [h, List.append_nil]) (.inl rfl)
    refine ⟨?_, k2⟩
    have hl := congrArg List.length h
    simp only [List.length_drop] at hl
    have hp : 0 < (writtenS t).1.length := List.length_pos_iff.2 (written_ne (okL hv).1)
    have he : a + (writtenS t).1.length = T.length := by omega
    rw [scanA_eq (by omega), if_pos (by omega), if_pos (by rw [k1]), k1]
    dsimp only
    rw [he, skipS_end (by omega), scanA_eq (by omega), if_neg (by omega)]
    simp [toksA]
  | t' :: v, t, acc, a, hv, h => by
    rw [List.map_cons, Go.Lib.join_cons] at h
    have hj : Go.Lib.joinTail [32] ((t' :: v).map fun t => (writtenS t).1) = 32 :: Go.Lib.join ((t' :: v).map fun t => (writtenS t).1) [32] := by
      rw [List.map_cons, Go.Lib.join_cons]; simp [Go.Lib.joinTail]
    rw [hj] at h
    obtain ⟨k1, k2⟩ := tok_read (okL hv).1 h (.inr ⟨_, rfl⟩)
    refine ⟨?_, k2⟩
    have hp : 0 < (writtenS t).1.length := List.length_pos_iff.2 (written_ne (okL hv).1)
    have hd : T.drop (a + (writtenS t).1.length) = 32 :: Go.Lib.join ((t' :: v).map fun t => (writtenS t).1) [32] := by
      rw [← List.drop_drop, h]; simp
    obtain ⟨a1, b1, c1, d1⟩ := drop1 hd
    obtain ⟨m1, m2⟩ := scan_read v t' (acc ++ [(t.1, t.2.1, (a : Int), ())]) _ (okL hv).2 c1
    obtain ⟨rest, hrest⟩ : ∃ rest, T.drop (a + (writtenS t).1.length + 1) = (writtenS t').1 ++ rest := ⟨_, by rw [c1, List.map_cons, Go.Lib.join_cons]⟩
    rw [scanA_eq (by omega), if_pos (by omega), if_pos (by rw [k1]), k1]
    dsimp only
    have d1' : ch T (a + (writtenS t).1.length) = 32 := d1
    rw [skipS_eq a1, d1', if_pos (by decide), skip_first hrest m2, m1]
    simp [toksA]
theorem print_read (l : List Tk) (h : (printS l).length ≤ 16000) : scanS (printS l) = (toksA 0 (l.filter okT) ++ [(0, [], ((printS l).length : Int), ())], 0, 0) := by
  have hp : printS l = Go.Lib.join ((l.filter okT).map fun t => (writtenS t).1) [32] := by rw [print_join]; unfold partsN; rw [List.take_length]
  unfold scanS
  rw [if_neg (by omega)]
  generalize printS l = T at h hp ⊢
  have hok : ∀ x ∈ l.filter okT, okT x = true := fun x hx => (List.mem_filter.1 hx).2
  revert hp hok
  generalize l.filter okT = v
  intro hp hok
  cases v with
  | nil =>
    have e : T = [] := by rw [hp]; rfl
    subst e
    rw [skipS_end (by simp), scanA_eq (by simp), if_neg (by simp)]; rfl
  | cons t v =>
    obtain ⟨m1, m2⟩ := scan_read (T := T) v t [] 0 hok (by rw [← hp]; rfl)
    rw [skip_first (T := T) (w := (writtenS t).1) (rest := Go.Lib.joinTail [32] (v.map fun t => (writtenS t).1)) (by rw [hp, List.map_cons, Go.Lib.join_cons]; rfl) m2, m1]; rfl
/-- A quoted string is read back. -/
theorem quote_read (s : List UInt8) (h : s.length ≤ 300) : scanS (quoteS s) = if s.length > 256 then ([], 3, 0) else ([(2, s, 0, ()), (0, [], ((quoteS s).length : Int), ())], 0, 0) := by
  have hl := quote_len s
  have hd : (quoteS s).drop 0 = quoteS s ++ [] := by simp
  have hf : First (quoteS s) := ⟨34, qR false s, quoteS_eq s, by decide, by decide⟩
  have hq := hd
  rw [quoteS_eq] at hq
  obtain ⟨a1, b1, c1, d1⟩ := drop1 (y := qR false s ++ []) hq
  rw [← quoteS_eq] at a1 d1
  have d1' : ch (quoteS s) 0 = 34 := d1
  have hr := lit_quote hd
  have hk : tokM (quoteS s) 0 = if s.length > 256 then (((0, [], 0, ()), 0), (3, 0)) else (((2, s, 0, ()), (quoteS s).length), (0, 0)) := by
    unfold tokM
    rw [d1', if_neg (by decide), if_neg (by decide), if_pos rfl, hr]
    by_cases h2 : s.length > 256
    · rw [if_pos h2, if_pos h2]; rfl
    · rw [if_neg h2, if_neg h2]; rfl
  unfold scanS
  rw [if_neg (by omega), skip_first hd hf, scanA_eq (by omega), if_pos a1, hk]
  by_cases h2 : s.length > 256
  · rw [if_pos h2, if_pos h2]; rfl
  · rw [if_neg h2, if_neg h2, if_pos rfl]
    dsimp only
    rw [skipS_end (by omega), scanA_eq (by omega), if_neg (by omega)]
    rfl
end Go.Lx

/- Plain words of chapter 04: the round trip, token by token; the lengths of tokens. -/
namespace Go.Lx
open Go Go.Fw Go.Ov
theorem toksA_len : ∀ (v : List Tk) (a : Nat), (toksA a v).length = v.length
  | [], _ => rfl
  | t :: v, a => by rw [toksA, List.length_cons, List.length_cons, toksA_len v]
theorem toksA_get (d : Tk) : ∀ (v : List Tk) (a k : Nat), k < v.length → ((toksA a v).getD k d).1 = (v.getD k d).1 ∧ ((toksA a v).getD k d).2.1 = (v.getD k d).2.1 ∧ (a : Int) ≤ ((toksA a v).getD k d).2.2.1 ∧
    (k + 1 < v.length → ((toksA a v).getD k d).2.2.1 < ((toksA a v).getD (k + 1) d).2.2.1)
  | [], a, k, h => by simp at h
  | t :: v, a, 0, h => by
    refine ⟨rfl, rfl, Int.le_refl _, fun h2 => ?_⟩
    have := (toksA_get d v (a + (writtenS t).1.length + 1) 0 (by simpa using h2)).2.2.1
    show (a : Int) < ((toksA (a + (writtenS t).1.length + 1) v).getD 0 d).2.2.1
    omega
  | t :: v, a, k + 1, h => by
    have := toksA_get d v (a + (writtenS t).1.length + 1) k (by simpa using h)
    refine ⟨this.1, this.2.1, ?_, fun h2 => this.2.2.2 (by simpa using h2)⟩
    have h3 := this.2.2.1
    show (a : Int) ≤ ((toksA (a + (writtenS t).1.length + 1) v).getD k d).2.2.1
    omega
def kOf (l : List Tk) (i : Nat) : Nat := ((l.take i).filter okT).length
theorem kOf_next {l : List Tk} {i : Nat} (h : i < l.length) : kOf l (i + 1) = kOf l i + (if okT (l.getD i (Ty.dflt tT)) = true then 1 else 0) := by
  unfold kOf
  rw [List.take_succ, List.filter_append, List.length_append, List.getD_eq_getElem?_getD]
  simp [h]
  split <;> simp_all
theorem kOf_end (l : List Tk) : kOf l l.length = (l.filter okT).length := by unfold kOf; rw [List.take_length]
theorem kOf_le (l : List Tk) (i : Nat) : kOf l i ≤ i := by
  unfold kOf
  exact Nat.le_trans (List.length_filter_le _ _) (by simp; omega)
theorem kOf_get {l : List Tk} {i : Nat} (h : i < l.length) (ho : okT (l.getD i (Ty.dflt tT)) = true) : kOf l i < (l.filter okT).length ∧ (l.filter okT).getD (kOf l i) (Ty.dflt tT) = l.getD i (Ty.dflt tT) := by
  have e : l = l.take i ++ l.getD i (Ty.dflt tT) :: l.drop (i + 1) := by
    have := List.take_append_drop i l
    rw [drop_getD (Ty.dflt tT : Tk) h] at this
    exact this.symm
  have e2 : l.filter okT = (l.take i).filter okT ++ l.getD i (Ty.dflt tT) :: (l.drop (i + 1)).filter okT := by
    conv => lhs; rw [e]
    rw [List.filter_append, List.filter_cons, if_pos ho]
  rw [e2]
  unfold kOf
  constructor
  · rw [List.length_append, List.length_cons]; omega
  · rw [List.getD_eq_getElem?_getD, List.getElem?_append_right (Nat.le_refl _), Nat.sub_self]; rfl
structure RT (l : List Tk) (R : List Tk) (n : Nat) : Prop where
  len : R.length = (l.filter okT).length + 1
  at_ : ∀ i, i < l.length → okT (l.getD i (Ty.dflt tT)) = true → kOf l i < (l.filter okT).length ∧ (R.getD (kOf l i) (Ty.dflt tT)).1 = (l.getD i (Ty.dflt tT)).1 ∧ (R.getD (kOf l i) (Ty.dflt tT)).2.1 = (l.getD i (Ty.dflt tT)).2.1 ∧
    (0 < kOf l i → (R.getD (kOf l i - 1) (Ty.dflt tT)).2.2.1 < (R.getD (kOf l i) (Ty.dflt tT)).2.2.1)
  last : R.getD (l.filter okT).length (Ty.dflt tT) = (0, [], (n : Int), ())
theorem RT.mk' (l : List Tk) (n : Nat) : RT l (toksA 0 (l.filter okT) ++ [(0, [], (n : Int), ())]) n := by
  have hl := toksA_len (l.filter okT) 0
  refine ⟨by rw [List.length_append, hl]; rfl, fun i hi ho => ?_, ?_⟩
  · obtain ⟨h1, h2⟩ := kOf_get hi ho
    have g := toksA_get (Ty.dflt tT) (l.filter okT) 0 (kOf l i) h1
    have q : ∀ k, k < (l.filter okT).length → (toksA 0 (l.filter okT) ++ [(0, [], (n : Int), ())]).getD k (Ty.dflt tT) = (toksA 0 (l.filter okT)).getD k (Ty.dflt tT) := fun k hk => by
      rw [List.getD_eq_getElem?_getD, List.getElem?_append_left (by rw [hl]; exact hk), ← List.getD_eq_getElem?_getD]
    rw [q _ h1, h2.symm]
    refine ⟨h1, g.1, g.2.1, fun h0 => ?_⟩
    rw [q _ (by omega)]
    have := (toksA_get (Ty.dflt tT) (l.filter okT) 0 (kOf l i - 1) (by omega)).2.2.2 (by omega)
    rwa [show kOf l i - 1 + 1 = kOf l i by omega] at this
  · rw [List.getD_eq_getElem?_getD, List.getElem?_append_right (by omega), hl, Nat.sub_self]; rfl
/-! ### the lengths of tokens -/
theorem mkL_len : ∀ m ∈ mkL, m.length ≤ 300 := by decide +kernel
theorem tok_len {s : List UInt8} {a : Nat} (h : (tokM s a).2.1 = 0) : (tokM s a).1.1.2.1.length ≤ 300 := by
  unfold tokM at h ⊢
  split at h
  · rename_i h1; rw [if_pos h1]
    split at h
    · cases h
    · rename_i h2; rw [if_neg h2]
      show ((s.take (whileS inWordB s a)).drop a).length ≤ 300
      rw [List.length_drop, List.length_take]; omega
  · rename_i h1; rw [if_neg h1]
    split at h
    · rename_i h2; rw [if_pos h2]
      split at h
      · rename_i h3; rw [if_pos h3]
        unfold nameB at h3
        simp only [Bool.and_eq_true, decide_eq_true_eq] at h3
        have := h3.1.1.2
        show ((s.take (whileS inNameB s (a + 1))).drop (a + 1)).length ≤ 300
        omega
      · cases h
    · rename_i h2; rw [if_neg h2]
      split at h
      · rename_i h3; rw [if_pos h3]
        split at h
        · rename_i h4; rw [if_pos h4]
          show (litR s a).1.length ≤ 300
          unfold litR at h4 ⊢
          split at h4
          · rename_i h5; rw [if_pos h5]
            split at h4
            · cases h4
            · rename_i h6; rw [if_neg h6]; dsimp only; omega
          · cases h4
        · rename_i h4; exact absurd h h4
      · rename_i h3; rw [if_neg h3]
        split at h
        · cases h
        · rename_i h4; rw [if_neg h4]; exact mkL_len _ (mark_mem h4)
theorem scanN_short {s : List UInt8} : ∀ (n : Nat) (acc : List Tk) (a : Nat), (∀ t ∈ acc, t.2.1.length ≤ 300) → ∀ t ∈ (scanN s n acc a).1, t.2.1.length ≤ 300
  | 0, acc, a, h => h
  | n + 1, acc, a, h => by
    unfold scanN
    split
    · split
      · rename_i h4
        exact scanN_short n _ _ (fun t ht => by
          rcases List.mem_append.1 ht with q | q
          · exact h t q
          · rw [List.mem_singleton.1 q]; exact tok_len h4)
      · intro t ht; simp at ht
    · intro t ht
      rcases List.mem_append.1 ht with q | q
      · exact h t q
      · rw [List.mem_singleton.1 q]; simp
theorem scanS_short (s : List UInt8) : ∀ t ∈ (scanS s).1, t.2.1.length ≤ 300 := by
  unfold scanS
  split
  · intro t ht; simp at ht
  · exact scanN_short _ _ _ (fun t ht => by simp at ht)
theorem scanN_pos {s : List UInt8} : ∀ (n : Nat) (acc : List Tk) (a : Nat), s.length < a + n → a ≤ s.length → (scanN s n acc a).2.1 = 0 → 0 < (scanN s n acc a).1.length
  | 0, acc, a, h, h2, _ => by omega
  | n + 1, acc, a, h, h2, h3 => by
    unfold scanN at h3 ⊢
    split at h3
    · rename_i h4; rw [if_pos h4]
      split at h3
      · rename_i h5; rw [if_pos h5]
        have h6 := tokM_ok h4 h5
        have h7 := skipS_le s (tokM s a).1.2
        exact scanN_pos n _ _ (by omega) (h7.2 h6.2) h3
      · rename_i h5; exact absurd h3 h5
    · rename_i h4; rw [if_neg h4]; simp
theorem scanS_pos {s : List UInt8} (h : (scanS s).2.1 = 0) : 0 < (scanS s).1.length := by
  unfold scanS at h ⊢
  split at h
  · cases h
  · rename_i h1; rw [if_neg h1]
    have := skipS_le s 0
    exact scanN_pos _ _ _ (by omega) (this.2 (by omega)) h
end Go.Lx

