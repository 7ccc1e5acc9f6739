import Derived.Test.YtgbmbihajkjbmaaGTl1
set_option linter.all false
/- Plain words of chapter 32: how the reference reads. -/
namespace Go.Tl
open Go Go.Fw Go.Ov
/-- Whoever missed something has nothing left. -/
def Ok (r : Rd) : Prop := r.2 = true → r.1 = []
theorem ok_false (l : List UInt8) : Ok (l, false) := fun h => by cases h
theorem take_ok (n : Nat) {r : Rd} (h : Ok r) : Ok (takeM n r).2 := by
  unfold takeM Ok
  split
  · intro _; rfl
  · intro q; show r.1.drop n = []; rw [h q, List.drop_nil]
theorem take_bad (n : Nat) {r : Rd} (h : r.2 = true) : (takeM n r).2.2 = true := by unfold takeM; split <;> simp [h]
theorem take_good {n : Nat} {r : Rd} (h : (takeM n r).2.2 = false) : (takeM n r).1.length = n := by
  unfold takeM at h ⊢
  split
  · rename_i q; rw [if_pos q] at h; cases h
  · rename_i q; rw [List.length_take]; omega
theorem list_ok (k : Nat) {r : Rd} (h : Ok r) : Ok (listM k r).2 := take_ok _ (take_ok k h)
theorem list_bad (k : Nat) {r : Rd} (h : r.2 = true) : (listM k r).2.2 = true := take_bad _ (take_bad k h)
/-- Where the length is missing, nothing is read. -/
theorem list_miss {k : Nat} {r : Rd} (hk : 0 < k) (h : Ok r) (hb : (takeM k r).2.2 = true) : listM k r = ([], (takeM k r).2) := by
  have e : takeM k r = ([], ([], true)) := by
    unfold takeM at hb ⊢
    split
    · rfl
    · rename_i q
      rw [if_neg q] at hb
      have := h hb
      rw [this] at q; simp at q; omega
  unfold listM numM
  rw [e]
  rfl
theorem iter_sim {σ τ : Type} {len : σ → Nat} {go : σ → Bool} {step : σ → σ} {len' : τ → Nat} {go' : τ → Bool} {step' : τ → τ} (R : σ → τ → Prop) (hl : ∀ s t, R s t → len s = len' t) (hg : ∀ s t, R s t → go s = go' t) (hs : ∀ s t, R s t → go s = true → R (step s) (step' t)) {s : σ} {t : τ} (h : R s t) : R (iter len go step s) (iter len' go' step' t) := by
  unfold iter
  rw [hl s t h]
  generalize len' t + 1 = n
  induction n generalizing s t with
  | zero => exact h
  | succ n ih =>
    unfold iterN
    by_cases q : go s = true
    · rw [if_pos q, if_pos ((hg s t h).symm.trans q)]; exact ih (hs s t h q)
    · rw [if_neg q, if_neg (by rw [← hg s t h]; exact q)]; exact h
theorem iter_inv {σ : Type} {len : σ → Nat} {go : σ → Bool} {step : σ → σ} (R : σ → Prop) (hs : ∀ s, R s → go s = true → R (step s)) {s : σ} (h : R s) : R (iter len go step s) := by
  unfold iter
  generalize len s + 1 = n
  induction n generalizing s with
  | zero => exact h
  | succ n ih =>
    unfold iterN
    by_cases q : go s = true
    · rw [if_pos q]; exact ih (hs s h q)
    · rw [if_neg q]; exact h
/-! ### the reference's extensions -/
/-- The first extensions 0 and 43, and whether they are there. -/
abbrev Nv := List UInt8 × List UInt8 × Bool × Bool
abbrev XN := Rd × Nv × Bool
def nvAdd (k : Nat) (d : List UInt8) (z : Nv) : Nv :=
  if k = 0 then (if z.2.2.1 = true then z.1 else d, z.2.1, true, z.2.2.2)
  else if k = 43 then (z.1, if z.2.2.2 = true then z.2.1 else d, z.2.2.1, true) else z
def xrStep (s : XN) : XN :=
  if (extD s.1).2.2 = true then ((extD s.1).2, s.2.1, true) else ((extD s.1).2, nvAdd (numM 2 s.1).1 (extD s.1).1 s.2.1, s.2.2)
def xrGo (s : XN) : Bool := decide (s.1.1 ≠ []) && !s.2.2
abbrev xrI (s : XN) : XN := iter (fun s : XN => s.1.1.length) xrGo xrStep s
theorem xr_dec (s : XN) (h : xrGo s = true) : (xrStep s).1.1.length < s.1.1.length := by
  have hne : s.1.1 ≠ [] := by unfold xrGo at h; simp at h; exact h.1
  have h1 := numM_dec (k := 2) (by decide) hne
  have h2 := (listM_len 2 (numM 2 s.1).2).2
  unfold xrStep extD
  split <;> (dsimp only; omega)
theorem xr_go {s : XN} (h : xrGo s = true) : xrI (xrStep s) = xrI s := iter_go (go := xrGo) xr_dec h
theorem xr_stop {s : XN} (h : xrGo s = false) : xrI s = s := iter_stop (go := xrGo) xr_dec h
section
variable {k : Nat} {d : List UInt8} {z : Nv}
theorem nv_a (h : k = 0) (hz : z.2.2.1 = false) : nvAdd k d z = (d, z.2.1, true, z.2.2.2) := by unfold nvAdd; rw [if_pos h, if_neg (by rw [hz]; decide)]
theorem nv_b (h : k = 0) (hz : z.2.2.1 = true) : nvAdd k d z = z := by
  obtain ⟨a, b, c, e⟩ := z
  dsimp only at hz; subst hz
  unfold nvAdd; rw [if_pos h]; rfl
theorem nv_c (h : ¬ k = 0) (h1 : k = 43) (hz : z.2.2.2 = false) : nvAdd k d z = (z.1, d, z.2.2.1, true) := by unfold nvAdd; rw [if_neg h, if_pos h1, if_neg (by rw [hz]; decide)]
theorem nv_d (h : ¬ k = 0) (h1 : k = 43) (hz : z.2.2.2 = true) : nvAdd k d z = z := by
  obtain ⟨a, b, c, e⟩ := z
  dsimp only at hz; subst hz
  unfold nvAdd; rw [if_neg h, if_pos h1]; rfl
theorem nv_e (h : ¬ k = 0) (h1 : ¬ k = 43) : nvAdd k d z = z := by unfold nvAdd; rw [if_neg h, if_neg h1]
end
def nv0 : Nv := ([], [], false, false)
def xrE (r : Rd) : XN := xrI ((allM 2 r).1, nv0, (allM 2 r).2.2)
def xrM (r : Rd) : Rd × Nv := if r.1 = [] ∨ r.2 = true then (r, nv0) else (((allM 2 r).2.1, (xrE r).2.2), (xrE r).2.1)
theorem xr_bad {r : Rd} (h : r.2 = true) : (xrM r).1.2 = true := by unfold xrM; rw [if_pos (.inr h)]; exact h
theorem nvAdd_len {k : Nat} {d : List UInt8} {z : Nv} {N : Nat} (hd : d.length ≤ N) (h1 : z.1.length ≤ N) (h2 : z.2.1.length ≤ N) : (nvAdd k d z).1.length ≤ N ∧ (nvAdd k d z).2.1.length ≤ N := by
  unfold nvAdd
  split
  · refine ⟨?_, h2⟩
    show (if _ then _ else _ : List UInt8).length ≤ N
    split
    · exact h1
    · exact hd
  · split
    · refine ⟨h1, ?_⟩
      show (if _ then _ else _ : List UInt8).length ≤ N
      split
      · exact h2
      · exact hd
    · exact ⟨h1, h2⟩
theorem xr_len (r : Rd) : (xrM r).2.1.length ≤ r.1.length ∧ (xrM r).2.2.1.length ≤ r.1.length := by
  unfold xrM
  split
  · exact ⟨Nat.zero_le _, Nat.zero_le _⟩
  · have : (xrE r).1.1.length ≤ r.1.length ∧ (xrE r).2.1.1.length ≤ r.1.length ∧ (xrE r).2.1.2.1.length ≤ r.1.length := by
      refine iter_inv (R := fun s : XN => s.1.1.length ≤ r.1.length ∧ s.2.1.1.length ≤ r.1.length ∧ s.2.1.2.1.length ≤ r.1.length) (fun s hs _ => ?_) ⟨(listM_len 2 r).1, Nat.zero_le _, Nat.zero_le _⟩
      have h1 := numM_len 2 s.1
      have h2 := listM_len 2 (numM 2 s.1).2
      have h3 := hs.1
      unfold xrStep
      split
      · exact ⟨by show (listM 2 (numM 2 s.1).2).2.1.length ≤ _; omega, hs.2⟩
      · exact ⟨by show (listM 2 (numM 2 s.1).2).2.1.length ≤ _; omega, nvAdd_len (by show (listM 2 (numM 2 s.1).2).1.length ≤ _; omega) hs.2.1 hs.2.2⟩
    exact ⟨this.2.1, this.2.2⟩
/-! ### what the program makes of them -/
def nameN (n : List UInt8) : NSt := nameI ((allM 2 (n, false)).1, false, [])
def nameOk (n : List UInt8) : Bool := !(allM 2 (n, false)).2.2 && !(nameN n).1.2
def nameV (n : List UInt8) : List UInt8 := (nameN n).2.2
def versN (v : List UInt8) : VSt := versI ((allM 1 (v, false)).1, 0)
def versOk (v : List UInt8) : Bool := !(allM 1 (v, false)).2.2 && decide ((versN v).1.1 = [])
def versV (v : List UInt8) (w : Int) : Int := if (versN v).2 > 0 then ((versN v).2 : Int) else w
/-- What the extensions make of a hello, and whether they are malformed. -/
def cliN (z : Nv) (w : Int) : Ev := (1, if z.2.2.2 = true then versV z.2.1 w else w, if z.2.2.1 = true then nameV z.1 else [])
def cliB (z : Nv) : Bool := (z.2.2.1 && !nameOk z.1) || (z.2.2.2 && !versOk z.2.1)
structure XRel (N : Nv → Ev) (B : Nv → Bool) (s : XSt) (t : XN) : Prop where
  rd : s.1 = t.1
  rb : t.2.2 = t.1.2
  m0 : s.2.1.contains 0 = t.2.1.2.2.1
  m43 : s.2.1.contains 43 = t.2.1.2.2.2
  ev : s.2.2.1 = N t.2.1
  bad : s.2.2.2 = B t.2.1
theorem contains_app (l : List Int) (a b : Int) : (l ++ [a]).contains b = (l.contains b || decide (b = a)) := by
  rw [List.contains_eq_mem, List.contains_eq_mem]
  simp only [List.mem_append, List.mem_singleton]
  by_cases h1 : b ∈ l <;> by_cases h2 : b = a <;> simp [h1, h2]
theorem ext_sim (F : EF) (N : Nv → Ev) (B : Nv → Bool)
    (hF : ∀ (k : Nat) (d : List UInt8) (z : Nv), (k = 0 → z.2.2.1 = false) → (k = 43 → z.2.2.2 = false) → (F k (d, false) (N z)).2.1 = N (nvAdd k d z) ∧ (!(F k (d, false) (N z)).1 || B z) = B (nvAdd k d z))
    (s : XSt) (t : XN) (h : XRel N B s t) (hm : more s.1 = true) : XRel N B (extStep F s) (xrStep t) := by
  obtain ⟨l, met, e, rb⟩ := s
  obtain ⟨l', z, rb'⟩ := t
  obtain ⟨h1, h2, h3, h4, h5, h6⟩ := h
  change l = l' at h1
  subst h1
  change rb' = l.2 at h2
  change met.contains 0 = z.2.2.1 at h3
  change met.contains 43 = z.2.2.2 at h4
  change e = N z at h5
  change rb = B z at h6
  have hl2 : l.2 = false := by unfold more at hm; simp at hm; exact hm.2
  have hr : rb' = false := h2.trans hl2
  subst hr h5 h6
  unfold extStep xrStep
  dsimp only
  by_cases hb : (extD l).2.2 = true
  · rw [if_neg (by rw [hb]; simp), if_pos hb]
    exact ⟨rfl, hb.symm, h3, h4, rfl, rfl⟩
  · have hb' : (extD l).2.2 = false := by simpa using hb
    rw [if_neg hb]
    by_cases hc : met.contains ((numM 2 l).1 : Int) = true
    · rw [if_neg (by rw [hc]; simp)]
      have hz : nvAdd (numM 2 l).1 (extD l).1 z = z := by
        unfold nvAdd
        by_cases k0 : (numM 2 l).1 = 0
        · rw [if_pos k0]
          rw [k0] at hc
          have hz := h3.symm.trans hc
          obtain ⟨a, b, c, d⟩ := z
          dsimp only at hz ⊢; subst hz; rfl
        · rw [if_neg k0]
          by_cases k1 : (numM 2 l).1 = 43
          · rw [if_pos k1]
            rw [k1] at hc
            have hz := h4.symm.trans hc
            obtain ⟨a, b, c, d⟩ := z
            dsimp only at hz ⊢; subst hz; rfl
          · rw [if_neg k1]
      rw [hz]
      exact ⟨rfl, hb'.symm, h3, h4, rfl, rfl⟩
    · have hc' : met.contains ((numM 2 l).1 : Int) = false := by simpa using hc
      rw [if_pos (by rw [hb', hc']; rfl)]
      have hf := hF (numM 2 l).1 (extD l).1 z (fun k => by rw [k] at hc'; exact h3.symm.trans hc') (fun k => by rw [k] at hc'; exact h4.symm.trans hc')
      refine ⟨rfl, hb'.symm, ?_, ?_, hf.1, hf.2⟩
      · show (met ++ [((numM 2 l).1 : Int)]).contains 0 = (nvAdd _ _ z).2.2.1
        rw [contains_app, h3]
        unfold nvAdd
        by_cases k0 : (numM 2 l).1 = 0
        · rw [if_pos k0]; simp [k0]
        · rw [if_neg k0, decide_eq_false (by omega)]
          split <;> simp
      · show (met ++ [((numM 2 l).1 : Int)]).contains 43 = (nvAdd _ _ z).2.2.2
        rw [contains_app, h4]
        unfold nvAdd
        by_cases k0 : (numM 2 l).1 = 0
        · rw [if_pos k0, decide_eq_false (by omega)]; simp
        · rw [if_neg k0]
          by_cases k1 : (numM 2 l).1 = 43
          · rw [if_pos k1]; simp [k1]
          · rw [if_neg k1, decide_eq_false (by omega)]; simp
/-- A reader of extensions reads as the reference does. -/
theorem ext_same {F : EF} {N : Nv → Ev} {B : Nv → Bool} (hB : B nv0 = false)
    (hF : ∀ (k : Nat) (d : List UInt8) (z : Nv), (k = 0 → z.2.2.1 = false) → (k = 43 → z.2.2.2 = false) → (F k (d, false) (N z)).2.1 = N (nvAdd k d z) ∧ (!(F k (d, false) (N z)).1 || B z) = B (nvAdd k d z))
    {r : Rd} (hr : Ok r) : ((xrM r).1.2 = true → (extM F r (N nv0)).1.2 = true) ∧ ((xrM r).1.2 = false → (extM F r (N nv0)).1.2 = B (xrM r).2 ∧ (extM F r (N nv0)).2 = N (xrM r).2) := by
  unfold xrM extM
  by_cases h0 : r.1 = []
  · rw [if_pos (.inl h0), if_pos h0]
    exact ⟨fun h => h, fun h => ⟨h.trans hB.symm, rfl⟩⟩
  · have h1 : ¬ r.2 = true := fun q => h0 (hr q)
    rw [if_neg (by rintro (q | q); exact h0 q; exact h1 q), if_neg h0]
    by_cases hb : (allM 2 r).2.2 = true
    · have e1 : xrE r = ((allM 2 r).1, nv0, (allM 2 r).2.2) := xr_stop (by unfold xrGo; rw [hb]; simp)
      have e2 : (extE F r (N nv0)).2.2.2 = true := iter_inv (R := fun s : XSt => s.2.2.2 = true) (fun s hs _ => by unfold extStep; split <;> simp [hs]) hb
      rw [e1]
      dsimp only
      rw [hb, e2]
      exact ⟨fun _ => rfl, fun h => (Bool.noConfusion h)⟩
    · have hb' : (allM 2 r).2.2 = false := by simpa using hb
      have key : XRel N B (extE F r (N nv0)) (xrE r) := iter_sim (len := fun s : XSt => s.1.1.length) (len' := fun s : XN => s.1.1.length) (go := fun s : XSt => more s.1) (go' := xrGo) (step := extStep F) (step' := xrStep) (XRel N B) (fun s t h => by rw [h.rd]) (fun s t h => by unfold more xrGo; rw [h.rd, h.rb]) (ext_sim F N B hF)
        ⟨rfl, hb', rfl, rfl, rfl, hb'.trans hB.symm⟩
      dsimp only
      rw [key.rd, key.ev, key.bad, key.rb]
      refine ⟨fun h => by rw [h, Bool.or_true], fun h => ⟨by rw [h, Bool.or_false], rfl⟩⟩
/-! ### the hellos -/
theorem cli_F (w : Int) (k : Nat) (d : List UInt8) (z : Nv) (h0 : k = 0 → z.2.2.1 = false) (h1 : k = 43 → z.2.2.2 = false) : (cliF k (d, false) (cliN z w)).2.1 = cliN (nvAdd k d z) w ∧ (!(cliF k (d, false) (cliN z w)).1 || cliB z) = cliB (nvAdd k d z) := by
  obtain ⟨n, v, bn, bv⟩ := z
  dsimp only at h0 h1
  unfold cliF nvAdd
  by_cases k0 : k = 0
  · have hn := h0 k0
    subst hn
    rw [if_pos k0, if_pos k0]
    refine ⟨rfl, ?_⟩
    show (!(nameOk d) || (false && _ || (bv && !versOk v))) = (true && !nameOk d || (bv && !versOk v))
    simp
  · rw [if_neg k0, if_neg k0]
    by_cases k1 : k = 43
    · have hv := h1 k1
      subst hv
      rw [if_pos k1, if_pos k1]
      refine ⟨rfl, ?_⟩
      show (!(versOk d) || (bn && !nameOk n || (false && _))) = (bn && !nameOk n || (true && !versOk d))
      simp [Bool.or_comm]
    · rw [if_neg k1, if_neg k1]
      exact ⟨rfl, rfl⟩
theorem cliN0 (w : Int) : cliN nv0 w = (1, w, []) := rfl
def verM (b : List UInt8) : Int := ((numM 2 (b, false)).1 : Int)
def cliR (b : List UInt8) : Rd := (listM 1 (listM 2 (helloR (b, false))).2).2
theorem hello_ok (b : List UInt8) : Ok (helloR (b, false)) := list_ok 1 (take_ok 32 (take_ok 2 (ok_false b)))
theorem cliR_ok (b : List UInt8) : Ok (cliR b) := list_ok 1 (list_ok 2 (hello_ok b))
theorem cliR_same (b : List UInt8) : ((xrM (cliR b)).1.2 = true → (cliM (b, false)).1.2 = true) ∧ ((xrM (cliR b)).1.2 = false → (cliM (b, false)).1.2 = cliB (xrM (cliR b)).2 ∧ (cliM (b, false)).2 = cliN (xrM (cliR b)).2 (verM b)) := by
  have h := ext_same (F := cliF) (N := fun z => cliN z (verM b)) (B := cliB) (by rfl) (fun k d z => cli_F (verM b) k d z) (cliR_ok b)
  have e : cliM (b, false) = extM cliF (cliR b) (cliN nv0 (verM b)) := by rw [cliN0]; unfold cliM cliR verM; exact Eq.refl _
  rw [e]; exact h
theorem hello_len {b : List UInt8} (h : (helloR (b, false)).2 = false) : (takeM 2 (b, false)).1.length = 2 := by
  apply take_good
  cases q : (takeM 2 (b, false)).2.2 with
  | false => rfl
  | true => exact absurd (list_bad 1 (take_bad 32 q)) (by show ¬ (helloR (b, false)).2 = true; rw [h]; decide)
theorem cliR_bad {b : List UInt8} (q : (helloR (b, false)).2 = true) : (cliR b).2 = true := by unfold cliR; exact list_bad 1 (list_bad 2 q)
theorem cli_len {b : List UInt8} (h : (xrM (cliR b)).1.2 = false) : (takeM 2 (b, false)).1.length = 2 := by
  apply hello_len
  cases q : (helloR (b, false)).2 with
  | false => rfl
  | true => exact absurd (h.symm.trans (xr_bad (cliR_bad q))) Bool.false_ne_true
/-- The result of the reference's client: the event, and whether the hello is well-formed. -/
def cliZ (b : List UInt8) : Ev × Bool := if (cliM (b, false)).1.2 = true then ((0, 0, []), false) else ((cliM (b, false)).2, true)
theorem cli_z1 {b : List UInt8} (h : (xrM (cliR b)).1.2 = true) : cliZ b = ((0, 0, []), false) := if_pos ((cliR_same b).1 h)
theorem cli_z2 {b : List UInt8} (h : (xrM (cliR b)).1.2 = false) (hb : cliB (xrM (cliR b)).2 = true) : cliZ b = ((0, 0, []), false) := if_pos (((cliR_same b).2 h).1.trans hb)
theorem cli_z3 {b : List UInt8} (h : (xrM (cliR b)).1.2 = false) (hb : cliB (xrM (cliR b)).2 = false) : cliZ b = (cliN (xrM (cliR b)).2 (verM b), true) := by
  have := (cliR_same b).2 h
  unfold cliZ
  rw [if_neg (by rw [this.1, hb]; decide), this.2]
/-! ### servers -/
def srvOk (v : List UInt8) : Bool := decide (v.length = 2)
def srvN (w : Int) (z : Nv) : Ev := (2, if z.2.2.2 = true then (numB (z.2.1.take 2) : Int) else w, [])
def srvN' (w : Int) (z : Nv) : Ev := (2, if z.2.2.2 = true then ((numM 2 (z.2.1, false)).1 : Int) else w, [])
theorem srvN0 (w : Int) : srvN' w nv0 = (2, w, []) := rfl
def srvB (z : Nv) : Bool := z.2.2.2 && !srvOk z.2.1
theorem num2_ok (d : List UInt8) : (!(numM 2 (d, false)).2.2 && decide ((numM 2 (d, false)).2.1 = [])) = srvOk d := by
  unfold numM takeM srvOk
  split
  · rename_i q
    change 2 > d.length at q
    rw [show decide (d.length = 2) = false from decide_eq_false (by omega)]
    rfl
  · rename_i q
    change ¬ 2 > d.length at q
    simp only [Bool.not_false, Bool.true_and]
    rw [decide_eq_decide]
    rw [List.drop_eq_nil_iff]
    omega
theorem srv_F (w : Int) (k : Nat) (d : List UInt8) (z : Nv) (h0 : k = 0 → z.2.2.1 = false) (h1 : k = 43 → z.2.2.2 = false) : (srvF k (d, false) (srvN' w z)).2.1 = srvN' w (nvAdd k d z) ∧ (!(srvF k (d, false) (srvN' w z)).1 || srvB z) = srvB (nvAdd k d z) := by
  obtain ⟨n, v, bn, bv⟩ := z
  dsimp only at h0 h1
  unfold srvF nvAdd
  by_cases k1 : k = 43
  · have hv := h1 k1
    subst hv
    have e0 : ¬ k = 0 := by omega
    rw [if_neg (fun q => q k1), if_neg e0, if_pos k1, num2_ok]
    refine ⟨rfl, ?_⟩
    show (!(srvOk d) || (false && _)) = (true && !srvOk d)
    simp
  · rw [if_pos k1]
    by_cases k0 : k = 0
    · rw [if_pos k0]; exact ⟨rfl, rfl⟩
    · rw [if_neg k0, if_neg k1]; exact ⟨rfl, rfl⟩
def srvR (b : List UInt8) : Rd := (takeM 3 (helloR (b, false))).2
theorem srvR_ok (b : List UInt8) : Ok (srvR b) := take_ok 3 (hello_ok b)
theorem srvR_same (b : List UInt8) : ((xrM (srvR b)).1.2 = true → (srvM (b, false)).1.2 = true) ∧ ((xrM (srvR b)).1.2 = false → (srvM (b, false)).1.2 = srvB (xrM (srvR b)).2 ∧ (srvM (b, false)).2 = srvN' (verM b) (xrM (srvR b)).2) := by
  have h := ext_same (F := srvF) (N := srvN' (verM b)) (B := srvB) (by rfl) (fun k d z => srv_F (verM b) k d z) (srvR_ok b)
  have e : srvM (b, false) = extM srvF (srvR b) (srvN' (verM b) nv0) := by rw [srvN0]; unfold srvM srvR verM; exact Eq.refl _
  rw [e]; exact h
theorem srvR_bad {b : List UInt8} (q : (helloR (b, false)).2 = true) : (srvR b).2 = true := by unfold srvR; exact take_bad 3 q
theorem srv_len {b : List UInt8} (h : (xrM (srvR b)).1.2 = false) : (takeM 2 (b, false)).1.length = 2 := by
  apply hello_len
  cases q : (helloR (b, false)).2 with
  | false => rfl
  | true => exact absurd (h.symm.trans (xr_bad (srvR_bad q))) Bool.false_ne_true
def srvZ (b : List UInt8) : Ev × Bool := if (srvM (b, false)).1.2 = true then ((0, 0, []), false) else ((srvM (b, false)).2, true)
theorem srv_z1 {b : List UInt8} (h : (xrM (srvR b)).1.2 = true) : srvZ b = ((0, 0, []), false) := if_pos ((srvR_same b).1 h)
theorem srv_z2 {b : List UInt8} (h : (xrM (srvR b)).1.2 = false) (hb : srvB (xrM (srvR b)).2 = true) : srvZ b = ((0, 0, []), false) := if_pos (((srvR_same b).2 h).1.trans hb)
/-- The bytes of the version. -/
def srvF1 (b : List UInt8) : List UInt8 := if (xrM (srvR b)).2.2.2.2 = true then (xrM (srvR b)).2.2.1 else (takeM 2 (b, false)).1
theorem srv_z3 {b : List UInt8} (h : (xrM (srvR b)).1.2 = false) (hb : srvB (xrM (srvR b)).2 = false) : srvZ b = ((2, (numB ((srvF1 b).take 2) : Int), []), true) ∧ (srvF1 b).length = 2 := by
  have h1 := (srvR_same b).2 h
  have h2 := srv_len h
  unfold srvZ
  rw [if_neg (by rw [h1.1, hb]; decide), h1.2]
  unfold srvN' srvF1
  cases q : (xrM (srvR b)).2.2.2.2 with
  | false =>
    rw [if_neg (by decide), if_neg (by decide)]
    refine ⟨?_, h2⟩
    rw [List.take_of_length_le (by omega)]
    rfl
  | true =>
    rw [if_pos rfl, if_pos rfl]
    have hl : (xrM (srvR b)).2.2.1.length = 2 := by unfold srvB srvOk at hb; rw [q] at hb; simpa using hb
    refine ⟨?_, hl⟩
    unfold numM takeM
    rw [if_neg (by show ¬ 2 > (xrM (srvR b)).2.2.1.length; omega)]
/-! ### chains -/
/-- The result of the reference's chain: kind and list. -/
def chnE (b : List UInt8) : Int × List (List UInt8) := if (chnM (b, false)).1.2 = true then (0, []) else (3, (chnM (b, false)).2)
theorem chn_mono (s : CSt) : s.2.length ≤ (chnI s).2.length := iter_inv (R := fun t : CSt => s.2.length ≤ t.2.length) (fun t h _ => by show _ ≤ (t.2 ++ [(listM 3 t.1).1]).length; rw [List.length_append]; omega) (Nat.le_refl _)
/-! ### names in an extension -/
theorem take1 {l : Rd} (h : l.1 ≠ []) : (takeM 1 l).1.length = 1 := by
  have := List.length_pos_iff.2 h
  unfold takeM
  rw [if_neg (by omega)]
  show (l.1.take 1).length = 1
  rw [List.length_take]; omega
theorem zero_byte {l : List UInt8} (h : l.length = 1) : decide (l = [0]) = decide (numB l = 0) := by
  match l, h with
  | [c], _ =>
    rw [decide_eq_decide]
    show [c] = [0] ↔ 0 * 256 + c.toNat = 0
    constructor
    · intro q; simp only [List.cons.injEq, and_true] at q; rw [q]; rfl
    · intro q
      have : c.toNat = (0 : UInt8).toNat := by show c.toNat = 0; omega
      rw [UInt8.toNat_inj.1 this]
theorem name_good {l : Rd} {found : Bool} {nm : List UInt8} (hb : (listM 2 (numM 1 l).2).2.2 = false) : nameStep (l, found, nm) = if (decide ((numM 1 l).1 = 0) && !found) = true then ((listM 2 (numM 1 l).2).2, true, (listM 2 (numM 1 l).2).1) else ((listM 2 (numM 1 l).2).2, found, nm) := by
  unfold nameStep
  dsimp only
  rw [hb, Bool.not_false, Bool.and_true]
theorem name_bad {l : Rd} {found : Bool} {nm : List UInt8} (hb : (listM 2 (numM 1 l).2).2.2 = true) : (nameI (nameStep (l, found, nm))).1.2 = true := by
  have e : nameStep (l, found, nm) = ((listM 2 (numM 1 l).2).2, found, nm) := by
    unfold nameStep
    dsimp only
    rw [hb, Bool.not_true, Bool.and_false]
    rfl
  rw [e, name_stop (by show more (listM 2 (numM 1 l).2).2 = false; unfold more; rw [hb]; simp)]
  exact hb
/-! ### versions -/
theorem vers_par (s : VSt) : (versI s).1.1.length % 2 = s.1.1.length % 2 := iter_inv (R := fun t : VSt => t.1.1.length % 2 = s.1.1.length % 2) (fun t h g => by
  have g2 : 2 ≤ t.1.1.length := of_decide_eq_true g
  show ((takeM 2 t.1).2.1).length % 2 = _
  unfold takeM
  rw [if_neg (by omega)]
  show (t.1.1.drop 2).length % 2 = _
  rw [List.length_drop]; omega) rfl
theorem vers_odd {v : List UInt8} (h : (allM 1 (v, false)).1.1.length % 2 = 1) : versOk v = false := by
  have := vers_par ((allM 1 (v, false)).1, 0)
  change (versN v).1.1.length % 2 = (allM 1 (v, false)).1.1.length % 2 at this
  unfold versOk
  rw [decide_eq_false (fun q => by rw [q] at this; change 0 % 2 = _ at this; omega)]
  simp
theorem vers_at {l : List UInt8} {i : Nat} {g : Nat} (h : i + 2 ≤ l.length) : versStep ((l.drop i, false), g) = ((l.drop (i + 2), false), if 768 ≤ numB ((l.drop i).take 2) ∧ numB ((l.drop i).take 2) ≤ 772 then max g (numB ((l.drop i).take 2)) else g) := by
  unfold versStep numM takeM
  rw [if_neg (by show ¬ 2 > (l.drop i).length; rw [List.length_drop]; omega)]
  dsimp only
  rw [List.drop_drop]
theorem vers_more {l : List UInt8} {i : Nat} {g : Nat} (h : i + 2 ≤ l.length) : versI (versStep ((l.drop i, false), g)) = versI ((l.drop i, false), g) := vers_go (decide_eq_true (by show 2 ≤ (l.drop i).length; rw [List.length_drop]; omega))
theorem vers_end {l : List UInt8} {i : Nat} {g : Nat} (h : l.length ≤ i) : versI ((l.drop i, false), g) = (([], false), g) := by
  rw [List.drop_of_length_le h]
  exact vers_stop rfl
end Go.Tl
namespace Go.Tl
open Go Go.Fw Go.Ov
theorem chn_bad {l : Rd} {L : List (List UInt8)} {b : List UInt8} (hgo : chnI (chnStep (l, L)) = chnI (l, L)) (hi : chnI (l, L) = chnI ((allM 3 (b, false)).1, [])) (h : (listM 3 l).2.2 = true ∨ 6 ≤ L.length) : (chnM (b, false)).1.2 = true := by
  unfold chnM
  rw [← hi, ← hgo]
  rcases h with h | h
  · have e : chnI (chnStep (l, L)) = chnStep (l, L) := chn_stop (by show more (listM 3 l).2 = false; unfold more; rw [h]; simp)
    rw [e]
    show or (or _ (listM 3 l).2.2) _ = true
    rw [h]; simp
  · have := chn_mono (chnStep (l, L))
    have e : (chnStep (l, L)).2.length = L.length + 1 := by show (L ++ [_]).length = _; simp
    rw [decide_eq_true (by omega)]
    simp
theorem vers_good {v : List UInt8} {g : Nat} (hN : versN v = (([], false), g)) (ha : (allM 1 (v, false)).2.2 = false) : versOk v = true := by unfold versOk; rw [hN, ha]; rfl
end Go.Tl
namespace Go.Tl
open Go Go.Fw Go.Ov
/-! ### messages and records as the reference goes through them -/
theorem num3 {h : List UInt8} (h4 : 4 ≤ h.length) : numB ((h.drop 1).take 3) = msgL h := by
  match h, h4 with
  | a :: b :: c :: d :: t, _ => simp [numB, msgL]
theorem num35 {r : List UInt8} (h5 : 5 ≤ r.length) : numB ((r.drop 3).take 2) = recL r := by
  match r, h5 with
  | a :: b :: c :: d :: e :: t, _ => simp [numB, recL]
/-- What a message says: whether it is well-formed, and its event (of kind 0: none). -/
def bodyF (k : Nat) (b : List UInt8) : Bool × EvD := match bodyM k b with
  | none => (true, (0, 0, [], [], ()))
  | some (true, _) => (false, (0, 0, [], [], ()))
  | some (false, e) => (true, e)
theorem bodyF1 {k : Nat} {b : List UInt8} (h : k = 1) : bodyF k b = ((cliZ b).2, toD (cliZ b).1) := by
  unfold bodyF cliZ
  rw [body1 h]
  generalize cliM (b, false) = z
  obtain ⟨⟨_, q⟩, e⟩ := z
  cases q <;> rfl
theorem bodyF2 {k : Nat} {b : List UInt8} (h1 : ¬ k = 1) (h : k = 2) : bodyF k b = ((srvZ b).2, toD (srvZ b).1) := by
  unfold bodyF srvZ
  rw [body2 h1 h]
  generalize srvM (b, false) = z
  obtain ⟨⟨_, q⟩, e⟩ := z
  cases q <;> rfl
theorem bodyF11 {k : Nat} {b : List UInt8} (h1 : ¬ k = 1) (h2 : ¬ k = 2) (h : k = 11) : bodyF k b = (!(chnM (b, false)).1.2, ((chnE b).1, 0, [], (chnE b).2, ())) := by
  unfold bodyF chnE
  rw [body11 h1 h2 h]
  generalize chnM (b, false) = z
  obtain ⟨⟨_, q⟩, e⟩ := z
  cases q <;> rfl
theorem bodyF0 {k : Nat} {b : List UInt8} (h1 : ¬ k = 1) (h2 : ¬ k = 2) (h : ¬ k = 11) : bodyF k b = (true, (0, 0, [], [], ())) := by
  unfold bodyF
  rw [body0 h1 h2 h]
theorem body_kind {k : Nat} {b : List UInt8} {e : EvD} (h : bodyM k b = some (false, e)) : e.1 ≠ 0 := by
  by_cases h1 : k = 1
  · rw [body1 h1] at h
    simp only [Option.some.injEq, Prod.mk.injEq] at h
    have hx : (xrM (cliR b)).1.2 = false := by
      cases q : (xrM (cliR b)).1.2 with
      | false => rfl
      | true => exact absurd (((cliR_same b).1 q).symm.trans h.1) (by decide)
    rw [← h.2, ((cliR_same b).2 hx).2]
    show (1 : Int) ≠ 0
    decide
  · by_cases h2 : k = 2
    · rw [body2 h1 h2] at h
      simp only [Option.some.injEq, Prod.mk.injEq] at h
      have hx : (xrM (srvR b)).1.2 = false := by
        cases q : (xrM (srvR b)).1.2 with
        | false => rfl
        | true => exact absurd (((srvR_same b).1 q).symm.trans h.1) (by decide)
      rw [← h.2, ((srvR_same b).2 hx).2]
      show (2 : Int) ≠ 0
      decide
    · by_cases h3 : k = 11
      · rw [body11 h1 h2 h3] at h
        simp only [Option.some.injEq, Prod.mk.injEq] at h
        rw [← h.2]
        show (3 : Int) ≠ 0
        decide
      · rw [body0 h1 h2 h3] at h; cases h
theorem bodyF_bad {k : Nat} {b : List UInt8} (h : (bodyF k b).1 = false) : ∃ e, bodyM k b = some (true, e) := by
  unfold bodyF at h
  split at h
  · cases h
  · exact ⟨_, by assumption⟩
  · cases h
theorem bodyF_ok {k : Nat} {b : List UInt8} (h : (bodyF k b).1 = true) (h0 : (bodyF k b).2.1 ≠ 0) : bodyM k b = some (false, (bodyF k b).2) := by
  unfold bodyF at h h0 ⊢
  split at h
  · rename_i q; rw [q] at h0; exact absurd rfl h0
  · cases h
  · rename_i q; rw [q]
theorem bodyF_none {k : Nat} {b : List UInt8} (h : (bodyF k b).1 = true) (h0 : (bodyF k b).2.1 = 0) : bodyM k b = none := by
  unfold bodyF at h h0
  split at h
  · assumption
  · cases h
  · rename_i q
    rw [q] at h0
    exact absurd h0 (body_kind q)
/-- One record: the messages that wait, whether they are hidden, whether there was an error, the events. -/
def recF (k : Nat) (c h : List UInt8) (s : Bool) : List UInt8 × Bool × Bool × List EvD :=
  if k = 20 then ([], true, false, [])
  else if k = 21 ∧ c.length = 2 then (h, s, false, [alrD c])
  else if k = 22 ∧ s = false then ((msgA (h ++ c) []).1, s, (msgA (h ++ c) []).2.2, (msgA (h ++ c) []).2.1)
  else if k = 23 then (h, s, false, [datD c.length])
  else (h, s, false, [])
theorem recF20 {k : Nat} {c h : List UInt8} {s : Bool} (q : k = 20) : recF k c h s = ([], true, false, []) := if_pos q
theorem recF21 {k : Nat} {c h : List UInt8} {s : Bool} (q0 : ¬ k = 20) (q : k = 21 ∧ c.length = 2) : recF k c h s = (h, s, false, [alrD c]) := (if_neg q0).trans (if_pos q)
theorem recF22 {k : Nat} {c h : List UInt8} {s : Bool} (q0 : ¬ k = 20) (q1 : ¬ (k = 21 ∧ c.length = 2)) (q : k = 22 ∧ s = false) : recF k c h s = ((msgA (h ++ c) []).1, s, (msgA (h ++ c) []).2.2, (msgA (h ++ c) []).2.1) := (if_neg q0).trans ((if_neg q1).trans (if_pos q))
theorem recF23 {k : Nat} {c h : List UInt8} {s : Bool} (q0 : ¬ k = 20) (q1 : ¬ (k = 21 ∧ c.length = 2)) (q2 : ¬ (k = 22 ∧ s = false)) (q : k = 23) : recF k c h s = (h, s, false, [datD c.length]) := (if_neg q0).trans ((if_neg q1).trans ((if_neg q2).trans (if_pos q)))
theorem recF0 {k : Nat} {c h : List UInt8} {s : Bool} (q0 : ¬ k = 20) (q1 : ¬ (k = 21 ∧ c.length = 2)) (q2 : ¬ (k = 22 ∧ s = false)) (q : ¬ k = 23) : recF k c h s = (h, s, false, []) := (if_neg q0).trans ((if_neg q1).trans ((if_neg q2).trans (if_neg q)))
theorem rec_step {r h : List UInt8} {s : Bool} {out : List EvD} (q : ¬ r.length < 5) (b : ¬ recBad r = true) (w : ¬ r.length < 5 + recL r) :
    recA r h s out = if (recF (recK r) (recC r) h s).2.2.1 = true then ((recR r, (recF (recK r) (recC r) h s).1, (recF (recK r) (recC r) h s).2.1, true), out ++ (recF (recK r) (recC r) h s).2.2.2)
      else recA (recR r) (recF (recK r) (recC r) h s).1 (recF (recK r) (recC r) h s).2.1 (out ++ (recF (recK r) (recC r) h s).2.2.2) := by
  have hk := rec_kind b
  have hl : (recC r).length = recL r := by unfold recC; rw [List.length_drop, List.length_take]; omega
  by_cases k20 : recK r = 20
  · rw [recF20 k20]; dsimp only; rw [if_neg Bool.false_ne_true, List.append_nil]; exact rec_20 q b w k20
  · by_cases k21 : recK r = 21
    · by_cases l2 : recL r = 2
      · rw [recF21 k20 ⟨k21, hl.trans l2⟩]; dsimp only; rw [if_neg Bool.false_ne_true, rec_21 q b w k21, if_pos l2]
      · rw [recF0 k20 (fun p => l2 (hl.symm.trans p.2)) (fun p => by omega) (by omega)]; dsimp only; rw [if_neg Bool.false_ne_true, rec_21 q b w k21, if_neg l2, List.append_nil]
    · have n21 : ¬ (recK r = 21 ∧ (recC r).length = 2) := fun p => k21 p.1
      by_cases k22 : recK r = 22
      · cases s with
        | true => rw [recF0 k20 n21 (fun p => by cases p.2) (by omega)]; dsimp only; rw [if_neg Bool.false_ne_true, List.append_nil]; exact rec_22s q b w k22 rfl
        | false =>
          rw [recF22 k20 n21 ⟨k22, rfl⟩]; dsimp only
          by_cases hd : (msgA (h ++ recC r) []).2.2 = true
          · rw [if_pos hd]; exact rec_22d q b w k22 (by decide) hd
          · rw [if_neg hd]; exact rec_22 q b w k22 (by decide) hd
      · have k23 : recK r = 23 := by omega
        rw [recF23 k20 n21 (fun p => k22 p.1) k23]; dsimp only; rw [if_neg Bool.false_ne_true, hl]; exact rec_23 q b w k23
theorem recF_cnt (k : Nat) (c h : List UInt8) (s : Bool) : (recF k c h s).2.2.2.length + (recF k c h s).1.length ≤ h.length + c.length + 1 := by
  have := (msgA_cnt (h ++ c) []).1
  rw [List.length_append, List.length_nil, Nat.zero_add] at this
  unfold recF
  split
  · simp
  · split
    · simp; omega
    · split
      · dsimp only; omega
      · split
        · simp; omega
        · simp; omega
theorem recF_dead {k : Nat} {c h : List UInt8} {s : Bool} (hc : 1 ≤ c.length) (hd : (recF k c h s).2.2.1 = false) : (recF k c h s).2.2.2.length + (recF k c h s).1.length ≤ h.length + c.length := by
  have := (msgA_cnt (h ++ c) []).2.2
  rw [List.length_append, List.length_nil, Nat.zero_add] at this
  unfold recF at hd ⊢
  split
  · simp
  · rename_i q1
    rw [if_neg q1] at hd
    split
    · simp; omega
    · rename_i q2
      rw [if_neg q2] at hd
      split
      · rename_i q3
        rw [if_pos q3] at hd
        exact this hd
      · split
        · simp; omega
        · simp
/-- What a parser has come to: it goes on, or it has stopped with an error. -/
def recT (r h : List UInt8) (s d : Bool) (out : List EvD) : PSt × List EvD := if d = true then ((r, h, s, true), out) else recA r h s out
theorem recT_step {r h : List UInt8} {s : Bool} {out : List EvD} (q : ¬ r.length < 5) (b : ¬ recBad r = true) (w : ¬ r.length < 5 + recL r) :
    recT (recR r) (recF (recK r) (recC r) h s).1 (recF (recK r) (recC r) h s).2.1 (recF (recK r) (recC r) h s).2.2.1 (out ++ (recF (recK r) (recC r) h s).2.2.2) = recA r h s out := by
  rw [rec_step q b w]; rfl
end Go.Tl

