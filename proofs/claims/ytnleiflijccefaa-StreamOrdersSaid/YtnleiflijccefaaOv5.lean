/- Plain words of chapter 15: Insert's loop joins the merged cells. -/
import Derived.Test.YtnleiflijccefaaOv4
set_option linter.all false
set_option linter.unusedVariables false
set_option linter.unusedSimpArgs false
namespace Go.Ov
open Go Go.Fw

theorem joinL_eq (l : List Pc) (p : Pc) : joinL l p = joinP l p := by
  rcases List.eq_nil_or_concat l with rfl | ⟨l', q, hl'⟩
  · simp [joinL, joins, joinP]
  · rw [List.concat_eq_append] at hl'
    subst hl'
    rw [joinP_snoc]
    have e1 : lastP (l' ++ [q]) = q := by simp [lastP, List.getD_eq_getElem?_getD]
    have e2 : (l' ++ [q]).take ((l' ++ [q]).length - 1) = l' := by simp
    by_cases h : q.1 + (q.2.1.length : Int) = p.1 ∧ q.2.2.1 = p.2.2.1 ∧ q.2.2.2.1 = p.2.2.2.1
    · have hj : joins (l' ++ [q]) p = true := by
        unfold joins
        rw [e1]
        simp [endP, pa, pd, pf, pt, h.1, h.2.1, h.2.2]
      rw [joinL, if_pos hj, if_pos h, e1, e2]
    · have hj : ¬ joins (l' ++ [q]) p = true := by
        unfold joins
        rw [e1]
        simp only [endP, pa, pd, pf, pt, Bool.and_eq_true, decide_eq_true_eq]
        exact fun hh => h ⟨of_decide_eq_true hh.2.1, hh.2.2⟩
      rw [joinL, if_neg hj, if_neg h]
      simp
theorem push {m : List Cl} (hm : Sorted m) {E F' : Int} (q : Pc) (hq0 : q.2.1.length ≠ 0) (hin : E ≤ q.1 ∧ q.1 + (q.2.1.length : Int) ≤ F') (h : ∀ a, E ≤ a → a < F' → atC m a = atC (cellsOf q) a) :
    joinL (J (upto m E)) q = J (upto m F') := by
  rw [joinL_eq, upto_step hm (sorted_cellsOf q) (by omega) (fun x hx => by have := mem_cellsOf hx; omega) h, J_append, fold_piece _ _ hq0]
theorem push_part {m : List Cl} (hm : Sorted m) {E F' : Int} (o : Pc) (x y : Int) (h0 : o.1 ≤ x) (h1 : x < y) (h2 : y ≤ o.1 + o.2.1.length) (hin : E ≤ x ∧ y ≤ F') (h : ∀ a, E ≤ a → a < F' → atC m a = if x ≤ a ∧ a < y then some (a, bt o.2.1 (a - o.1), o.2.2.1, o.2.2.2.1, ()) else none) :
    joinL (J (upto m E)) (partP o x y) = J (upto m F') := by
  have hsz := partP_size o x y h0 (by omega) h2
  exact push hm (partP o x y) (by omega) ⟨hin.1, by rw [hsz]; show x + (y - x) ≤ F'; omega⟩ (fun a ha hb => by rw [h a ha hb, atC_partP o x y h0 (by omega) h2])
/-- What Insert's loop leans on: m is the buffer l with the new piece P put in. -/
structure IOk (m : List Cl) (l : List Pc) (pol : Int) (P : Pc) : Prop where
  hm : Sorted m
  hPs : P.2.1.length ≠ 0
  hPf : P.2.2.2.1 = P.1 + P.2.1.length
  hlook : ∀ a, atC m a = look (cells l) pol P a
theorem gap_part {m : List Cl} {l : List Pc} {pol : Int} {P : Pc} (I : IOk m l pol P) {E x y : Int} (hx : P.1 ≤ x) (hxy : x < y) (hy : y ≤ P.2.2.2.1) (hEx : E ≤ x) (hE : ∀ a, E ≤ a → a < x → a < P.1) (hc : ∀ a, E ≤ a → a < y → atC (cells l) a = none) :
    joinL (J (upto m E)) (partP P x y) = J (upto m y) := by
  obtain ⟨hm, hPs, hPf, hlook⟩ := id I
  refine push_part hm P x y hx hxy (by omega) ⟨hEx, Int.le_refl _⟩ (fun a ha hb => ?_)
  rw [hlook, look, pick, hc a ha hb]
  by_cases h : P.1 ≤ a
  · have : x ≤ a := by
      by_cases h2 : a < x
      · have := hE a ha h2
        omega
      · omega
    rw [if_pos (by omega), if_pos (by omega)]
    rfl
  · rw [if_neg (by omega), if_neg (by omega)]
theorem m_beyond {m : List Cl} {l : List Pc} {pol : Int} {P : Pc} (I : IOk m l pol P) {E : Int} (hE : ∀ a, E ≤ a → atC (cells l) a = none) (F : Int) (h1 : E ≤ F) (h2 : P.2.2.2.1 ≤ F) : upto m F = m := upto_all (fun x hx => by
  have h1 := atC_mem I.hm hx
  have hPf := I.hPf
  rw [I.hlook, look] at h1
  by_cases h2 : P.1 ≤ x.1 ∧ x.1 < P.1 + P.2.1.length
  · omega
  · rw [if_neg h2] at h1
    by_cases h3 : E ≤ x.1
    · rw [hE _ h3] at h1
      cases h1
    · omega)
abbrev XE (P : Pc) (E : Int) : Int := max P.1 (min E P.2.2.2.1)
theorem fill_eq {m : List Cl} {l : List Pc} {pol : Int} {P : Pc} (I : IOk m l pol P) (E : Int) (hE : ∀ a, E ≤ a → atC (cells l) a = none) (conf cov : Int) : (insFill P ⟨J (upto m E), conf, cov, XE P E⟩).out = J m := by
  obtain ⟨hm, hPs, hPf, hlook⟩ := id I
  have hxe : XE P E = max P.1 (min E P.2.2.2.1) := rfl
  by_cases h : XE P E < P.2.2.2.1
  · have hall : upto m P.2.2.2.1 = m := m_beyond I hE P.2.2.2.1 (by omega) (Int.le_refl _)
    have hg := gap_part I (E := E) (x := XE P E) (y := P.2.2.2.1) (by omega) h (Int.le_refl _) (by omega) (fun a h1 h2 => by omega) (fun a h1 h2 => hE a h1)
    have e : insFill P ⟨J (upto m E), conf, cov, XE P E⟩ = ⟨joinL (J (upto m E)) (partP P (XE P E) (pt P)), conf, cov, pt P⟩ := if_pos h
    rw [e]
    show joinL (J (upto m E)) (partP P (XE P E) P.2.2.2.1) = J m
    rw [hg, hall]
  · have e : insFill P ⟨J (upto m E), conf, cov, XE P E⟩ = ⟨J (upto m E), conf, cov, XE P E⟩ := if_neg h
    rw [e]
    show J (upto m E) = J m
    rw [m_beyond I hE E (Int.le_refl _) (by omega)]
/-- Behind the new piece: what is left of the buffer, piece by piece. -/
theorem rest_eq {m : List Cl} {l : List Pc} {pol : Int} {P : Pc} (I : IOk m l pol P) : ∀ (l2 : List Pc) (E : Int), VB E l2 → P.2.2.2.1 ≤ E → (∀ a, E ≤ a → atC (cells l) a = atC (cells l2) a) →
    l2.foldl joinL (J (upto m E)) = J m
  | [], E, hv, hE, hc => by
    rw [List.foldl_nil, m_beyond I (fun a ha => by rw [hc a ha]; rfl) E (Int.le_refl _) hE]
  | o :: l2, E, hv, hE, hc => by
    obtain ⟨hm, hPs, hPf, hlook⟩ := id I
    obtain ⟨hv0, hv1, hv2, hv3⟩ := hv
    have ih := rest_eq I l2 (o.1 + o.2.1.length) hv3 (by omega) (fun a ha => by
      rw [hc a (by omega), cells_cons, atC_append, atC_cellsOf, if_neg (by omega)]
      simp)
    have hpush := push hm (E := E) (F' := o.1 + o.2.1.length) o hv0 ⟨hv1, Int.le_refl _⟩ (fun a ha hb => by
      rw [hlook, look, if_neg (by omega), hc a ha, cells_cons, atC_append]
      rw [atC_none (c := cells l2) (fun x hx => by have := ((VB_cells hv3).2 x hx).1; omega)]
      simp)
    rw [List.foldl_cons, hpush, ih]
theorem atC_head {c : List Cl} {o : Pc} {l2 : List Pc} {E : Int} (hv : VB E (o :: l2)) (hc : ∀ a, E ≤ a → atC c a = atC (cells (o :: l2)) a) :
    (∀ a, E ≤ a → a < o.1 → atC c a = none) ∧ (∀ a, o.1 ≤ a → a < o.1 + o.2.1.length → atC c a = some (a, bt o.2.1 (a - o.1), o.2.2.1, o.2.2.2.1, ())) ∧ (∀ a, o.1 + (o.2.1.length : Int) ≤ a → atC c a = atC (cells l2) a) := by
  obtain ⟨hv0, hv1, hv2, hv3⟩ := hv
  have hn : ∀ a, a < o.1 + o.2.1.length → atC (cells l2) a = none := fun a ha => atC_none (fun x hx => by have := ((VB_cells hv3).2 x hx).1; omega)
  refine ⟨fun a h1 h2 => ?_, fun a h1 h2 => ?_, fun a h1 => ?_⟩
  · rw [hc a h1, cells_cons, atC_append, atC_cellsOf, if_neg (by omega), hn a (by omega)]
    rfl
  · rw [hc a (by omega), cells_cons, atC_append, atC_cellsOf, if_pos ⟨h1, h2⟩]
    rfl
  · rw [hc a (by omega), cells_cons, atC_append, atC_cellsOf, if_neg (by omega)]
    rfl
theorem cnt_gap {f : Int → Bool} {P : Pc} {E F : Int} (h1 : P.1 ≤ XE P E) (h2 : XE P E ≤ F) (h : ∀ x, XE P E ≤ x → x < F → f x = false) : cnt f P.1 F = cnt f P.1 (XE P E) := by
  rw [cnt_add _ (a := P.1) (b := XE P E) (c := F) h1 h2, cnt_false (a := XE P E) (b := F) h]
  omega
theorem differN_cnt (s t : List UInt8) (n : Nat) : (differN s t n : Int) = (cnt (fun x => !(bt s x == bt t x)) 0 n : Nat) := by
  unfold differN cnt
  rw [List.countP_eq_length_filter]
  have e : ((n : Int) - 0).toNat = n := by omega
  rw [e]
  congr 2
  refine List.filter_congr (fun i _ => ?_)
  simp only [Int.zero_add, bt, toNat_cast]
  generalize ((s.getD i 0).toNat : Int) = u
  generalize ((t.getD i 0).toNat : Int) = v
  by_cases h : u = v <;> simp [h]
theorem winsB_F (pol : Int) (o n : Pc) : winsB pol o n = winF pol o.2.2.1 o.2.2.2.1 n.2.2.1 n.2.2.2.1 := rfl
/-- The conflicts where an old piece and the new one meet. -/
theorem insCut_eq {l : List Pc} {P o : Pc} {f t : Int} (h1 : o.1 ≤ f) (h2 : P.1 ≤ f) (h3 : f ≤ t) (h4 : t ≤ o.1 + o.2.1.length) (h5 : t ≤ P.1 + P.2.1.length)
    (hin : ∀ a, o.1 ≤ a → a < o.1 + o.2.1.length → atC (cells l) a = some (a, bt o.2.1 (a - o.1), o.2.2.1, o.2.2.2.1, ())) :
    (differN (pd (partP o f t)) (pd (partP P f t)) (pd (partP o f t)).length : Int) = (cnt (cfB (cells l) P) f t : Nat) := by
  have hs := partP_size o f t h1 h3 h4
  rw [differN_cnt]
  have e0 : (((pd (partP o f t)).length : Nat) : Int) = t - f := hs
  rw [e0]
  have e2 : cnt (cfB (cells l) P) f t = cnt (fun x => cfB (cells l) P (x + f)) 0 (t - f) := by
    rw [cnt_shift]
    congr 1 <;> omega
  rw [e2]
  congr 1
  refine cnt_congr (fun x q1 q2 => ?_)
  simp only [cfB]
  rw [hin (x + f) (by omega) (by omega)]
  show (!(bt ((o.2.1.take (t - o.1).toNat).drop (f - o.1).toNat) x == bt ((P.2.1.take (t - P.1).toNat).drop (f - P.1).toNat) x)) = !(bt o.2.1 (x + f - o.1) == bt P.2.1 (x + f - P.1))
  rw [bt_extract _ _ _ _ q1 (by omega), bt_extract _ _ _ _ q1 (by omega)]
  have e3 : x + f - o.1 = x + ((f - o.1).toNat : Int) := by omega
  have e4 : x + f - P.1 = x + ((f - P.1).toNat : Int) := by omega
  rw [e3, e4]

theorem loop_eq {m : List Cl} {l : List Pc} {pol : Int} {P : Pc} (I : IOk m l pol P) : ∀ (l2 : List Pc) (E : Int), VB E l2 → (∀ a, E ≤ a → atC (cells l) a = atC (cells l2) a) →
    (insFill P (insLoop pol P l2 ⟨J (upto m E), (cnt (cfB (cells l) P) P.1 (XE P E) : Nat), (cnt (covB (cells l)) P.1 (XE P E) : Nat), XE P E⟩)).out = J m ∧
    (insLoop pol P l2 ⟨J (upto m E), (cnt (cfB (cells l) P) P.1 (XE P E) : Nat), (cnt (covB (cells l)) P.1 (XE P E) : Nat), XE P E⟩).conf = (cnt (cfB (cells l) P) P.1 P.2.2.2.1 : Nat) ∧
    (insLoop pol P l2 ⟨J (upto m E), (cnt (cfB (cells l) P) P.1 (XE P E) : Nat), (cnt (covB (cells l)) P.1 (XE P E) : Nat), XE P E⟩).cov = (cnt (covB (cells l)) P.1 P.2.2.2.1 : Nat)
  | [], E, hv, hc => by
    have hPf := I.hPf
    have hxe : XE P E = max P.1 (min E P.2.2.2.1) := rfl
    have hnone : ∀ a, E ≤ a → atC (cells l) a = none := fun a ha => by rw [hc a ha]; rfl
    refine ⟨fill_eq I E hnone _ _, ?_, ?_⟩
    · show ((cnt (cfB (cells l) P) P.1 (XE P E) : Nat) : Int) = _
      rw [cnt_gap (E := E) (F := P.2.2.2.1) (by omega) (by omega) (fun x h1 h2 => by simp only [cfB]; rw [hnone x (by omega)])]
    · show ((cnt (covB (cells l)) P.1 (XE P E) : Nat) : Int) = _
      rw [cnt_gap (E := E) (F := P.2.2.2.1) (by omega) (by omega) (fun x h1 h2 => by simp only [covB]; rw [hnone x (by omega)]; rfl)]
  | o :: l2, E, hv, hc => by
    obtain ⟨hm, hPs, hPf, hlook⟩ := id I
    obtain ⟨hgap, hin, hbeh⟩ := atC_head hv hc
    obtain ⟨hv0, hv1, hv2, hv3⟩ := id hv
    have ih := loop_eq I l2 (o.1 + o.2.1.length) hv3 hbeh
    have hxe : XE P E = max P.1 (min E P.2.2.2.1) := rfl
    by_cases h1 : o.1 + (o.2.1.length : Int) ≤ P.1
    · have hpush := push hm (E := E) (F' := o.1 + o.2.1.length) o hv0 ⟨hv1, Int.le_refl _⟩ (fun a ha hb => by
        rw [hlook, look, if_neg (by omega)]
        by_cases h : o.1 ≤ a
        · rw [hin a h hb, atC_cellsOf, if_pos ⟨h, hb⟩]
        · rw [hgap a ha (by omega), atC_cellsOf, if_neg (by omega)])
      have ea : XE P (o.1 + (o.2.1.length : Int)) = XE P E := by simp only [XE]; omega
      rw [ea, ← hpush] at ih
      rw [insLoop, if_pos (show endP o ≤ pa P from h1)]
      exact ih
    by_cases h2 : P.2.2.2.1 ≤ o.1
    · have e1 : cnt (cfB (cells l) P) P.1 P.2.2.2.1 = cnt (cfB (cells l) P) P.1 (XE P E) := cnt_gap (by omega) (by omega) (fun x h1 h2 => by simp only [cfB]; rw [hgap x (by omega) (by omega)])
      have e2 : cnt (covB (cells l)) P.1 P.2.2.2.1 = cnt (covB (cells l)) P.1 (XE P E) := cnt_gap (by omega) (by omega) (fun x h1 h2 => by simp only [covB]; rw [hgap x (by omega) (by omega)]; rfl)
      rw [e1, e2, insLoop, if_neg (show ¬ endP o ≤ pa P from h1), if_pos (show pa o ≥ pt P from h2)]
      refine ⟨?_, rfl, rfl⟩
      have fin : ∀ s : Ins, s.at_ ≥ P.2.2.2.1 → insFill P s = s := fun s hs => if_neg (by show ¬ s.at_ < P.2.2.2.1; omega)
      by_cases h3 : XE P E < P.2.2.2.1
      · have hg := gap_part I (E := E) (x := XE P E) (y := P.2.2.2.1) (by omega) h3 (Int.le_refl _) (by omega) (fun a h1 h2 => by omega) (fun a h1 h2 => hgap a h1 (by omega))
        have e : insFill P ⟨J (upto m E), (cnt (cfB (cells l) P) P.1 (XE P E) : Nat), (cnt (covB (cells l)) P.1 (XE P E) : Nat), XE P E⟩ = ⟨joinL (J (upto m E)) (partP P (XE P E) (pt P)), (cnt (cfB (cells l) P) P.1 (XE P E) : Nat), (cnt (covB (cells l)) P.1 (XE P E) : Nat), pt P⟩ := if_pos h3
        rw [e, fin _ (Int.le_refl _)]
        show (o :: l2).foldl joinL (joinL (J (upto m E)) (partP P (XE P E) P.2.2.2.1)) = J m
        rw [hg]
        exact rest_eq I (o :: l2) P.2.2.2.1 ⟨hv0, h2, hv2, hv3⟩ (Int.le_refl _) (fun a ha => hc a (by omega))
      · have e : insFill P ⟨J (upto m E), (cnt (cfB (cells l) P) P.1 (XE P E) : Nat), (cnt (covB (cells l)) P.1 (XE P E) : Nat), XE P E⟩ = ⟨J (upto m E), (cnt (cfB (cells l) P) P.1 (XE P E) : Nat), (cnt (covB (cells l)) P.1 (XE P E) : Nat), XE P E⟩ := if_neg h3
        rw [e, fin _ (by show XE P E ≥ _; omega)]
        exact rest_eq I (o :: l2) E hv (by omega) hc

    rw [insLoop, if_neg (show ¬ endP o ≤ pa P from h1), if_neg (show ¬ pa o ≥ pt P by show ¬ o.1 ≥ P.2.2.2.1; omega)]
    have hfr : frP P o = max o.1 P.1 := rfl
    have hto : toP P o = min (o.1 + (o.2.1.length : Int)) P.2.2.2.1 := rfl
    have hxo : XE P (o.1 + (o.2.1.length : Int)) = toP P o := by rw [hto]; simp only [XE]; omega

    have s1 : ins1 P o (J (upto m E)) = J (upto m (if o.1 < P.1 then frP P o else E)) := by
      by_cases h6 : o.1 < P.1
      · rw [if_pos h6, ins1, if_pos (show pa o < frP P o by show o.1 < frP P o; omega)]
        refine push_part hm o o.1 (frP P o) (Int.le_refl _) (by omega) (by omega) ⟨hv1, Int.le_refl _⟩ (fun a ha hb => ?_)
        rw [hlook, look, if_neg (by omega)]
        by_cases h : o.1 ≤ a
        · rw [hin a h (by omega), if_pos ⟨h, hb⟩]
        · rw [hgap a ha (by omega), if_neg (by omega)]
      · rw [if_neg h6, ins1, if_neg (show ¬ pa o < frP P o by show ¬ o.1 < frP P o; omega)]

    have s2 : ins2 P o (XE P E) (J (upto m (if o.1 < P.1 then frP P o else E))) = J (upto m (frP P o)) := by
      by_cases h5 : XE P E < frP P o
      · have h6 : ¬ o.1 < P.1 := by omega
        rw [if_neg h6, ins2, if_pos h5]
        exact gap_part I (E := E) (x := XE P E) (y := frP P o) (by omega) h5 (by omega) (by omega) (fun a h1 h2 => by omega) (fun a h1 h2 => hgap a h1 (by omega))
      · rw [ins2, if_neg h5]
        by_cases h6 : o.1 < P.1
        · rw [if_pos h6]
        · rw [if_neg h6]
          exact congrArg J (upto_same hm (by omega) (fun a h1 h2 => by rw [hlook, look, if_neg (by omega), hgap a h1 (by omega)])).symm

    have s3 : ins3 pol P o (J (upto m (frP P o))) = J (upto m (toP P o)) := by
      unfold ins3
      by_cases hw : winsB pol o P = true
      · rw [if_pos hw]
        refine push_part hm P (frP P o) (toP P o) (by omega) (by omega) (by omega) ⟨Int.le_refl _, Int.le_refl _⟩ (fun a ha hb => ?_)
        rw [hlook, look, if_pos (by omega), if_pos ⟨ha, hb⟩, pick, hin a (by omega) (by omega)]
        simp only
        rw [if_pos (show winF pol o.2.2.1 o.2.2.2.1 P.2.2.1 P.2.2.2.1 = true from hw)]
        rfl
      · rw [if_neg hw]
        refine push_part hm o (frP P o) (toP P o) (by omega) (by omega) (by omega) ⟨Int.le_refl _, Int.le_refl _⟩ (fun a ha hb => ?_)
        rw [hlook, look, if_pos (by omega), if_pos ⟨ha, hb⟩, pick, hin a (by omega) (by omega)]
        simp only
        rw [if_neg (show ¬ winF pol o.2.2.1 o.2.2.2.1 P.2.2.1 P.2.2.2.1 = true from hw)]
    have s4 : ins4 P o (J (upto m (toP P o))) = J (upto m (o.1 + o.2.1.length)) := by
      by_cases h4 : toP P o < o.1 + o.2.1.length
      · rw [ins4, if_pos (show toP P o < endP o from h4)]
        refine push_part hm o (toP P o) (endP o) (by omega) (show toP P o < o.1 + o.2.1.length by omega) (Int.le_refl _) ⟨Int.le_refl _, Int.le_refl _⟩ (fun a ha hb => ?_)
        have hb' : a < o.1 + o.2.1.length := hb
        rw [hlook, look, if_neg (by omega), hin a (by omega) hb', if_pos ⟨ha, hb⟩]
      · rw [ins4, if_neg (show ¬ toP P o < endP o from h4)]
        have : toP P o = o.1 + o.2.1.length := by omega
        rw [this]
    have ecf : ((cnt (cfB (cells l) P) P.1 (XE P E) : Nat) : Int) + insCut P o = (cnt (cfB (cells l) P) P.1 (toP P o) : Nat) := by
      unfold insCut
      rw [insCut_eq (l := l) (P := P) (o := o) (f := frP P o) (t := toP P o) (by omega) (by omega) (by omega) (by omega) (by omega) hin]
      have e1 := cnt_add (cfB (cells l) P) (a := P.1) (b := frP P o) (c := toP P o) (by omega) (by omega)
      have e2 : cnt (cfB (cells l) P) P.1 (frP P o) = cnt (cfB (cells l) P) P.1 (XE P E) := cnt_gap (by omega) (by omega) (fun x h1 h2 => by simp only [cfB]; rw [hgap x (by omega) (by omega)])
      omega
    have ecv : ((cnt (covB (cells l)) P.1 (XE P E) : Nat) : Int) + (toP P o - frP P o) = (cnt (covB (cells l)) P.1 (toP P o) : Nat) := by
      have e1 := cnt_add (covB (cells l)) (a := P.1) (b := frP P o) (c := toP P o) (by omega) (by omega)
      have e2 : cnt (covB (cells l)) P.1 (frP P o) = cnt (covB (cells l)) P.1 (XE P E) := cnt_gap (by omega) (by omega) (fun x h1 h2 => by simp only [covB]; rw [hgap x (by omega) (by omega)]; rfl)
      have e3 := cnt_true (f := covB (cells l)) (a := frP P o) (b := toP P o) (fun x h1 h2 => by simp only [covB]; rw [hin x (by omega) (by omega)]; rfl)
      omega
    have emid : insMid pol P o ⟨J (upto m E), (cnt (cfB (cells l) P) P.1 (XE P E) : Nat), (cnt (covB (cells l)) P.1 (XE P E) : Nat), XE P E⟩ = ⟨J (upto m (o.1 + o.2.1.length)), (cnt (cfB (cells l) P) P.1 (XE P (o.1 + (o.2.1.length : Int))) : Nat), (cnt (covB (cells l)) P.1 (XE P (o.1 + (o.2.1.length : Int))) : Nat), XE P (o.1 + (o.2.1.length : Int))⟩ := by
      unfold insMid
      rw [hxo]
      show (⟨ins4 P o (ins3 pol P o (ins2 P o (XE P E) (ins1 P o (J (upto m E))))), _ + insCut P o, _ + (toP P o - frP P o), toP P o⟩ : Ins) = _
      rw [s1, s2, s3, s4]
      show (⟨_, ((cnt (cfB (cells l) P) P.1 (XE P E) : Nat) : Int) + insCut P o, ((cnt (covB (cells l)) P.1 (XE P E) : Nat) : Int) + (toP P o - frP P o), _⟩ : Ins) = _
      rw [ecf, ecv]
    rw [emid]
    exact ih
/-- All of Insert's loop. -/
theorem insAll_eq {m : List Cl} {l : List Pc} {pol : Int} {P : Pc} (I : IOk m l pol P) (hv : VB 0 l) (h0 : 0 ≤ P.1) :
    (insAll pol P l).out = J m ∧ (insAll pol P l).conf = (cnt (cfB (cells l) P) P.1 P.2.2.2.1 : Nat) ∧ (insAll pol P l).cov = (cnt (covB (cells l)) P.1 P.2.2.2.1 : Nat) := by
  have h := loop_eq I l 0 hv (fun a _ => rfl)
  have hPf := I.hPf
  have e1 : XE P 0 = P.1 := by simp only [XE]; omega
  have e2 : upto m 0 = [] := upto_zero (fun x hx => by
    have h1 := atC_mem I.hm hx
    rw [I.hlook, look] at h1
    by_cases h2 : P.1 ≤ x.1 ∧ x.1 < P.1 + P.2.1.length
    · omega
    · rw [if_neg h2] at h1
      have := atC_some h1
      exact ((VB_cells hv).2 x this.1).1)
  rw [e1, e2, cnt_self, cnt_self] at h
  have e3 : ∀ s : Ins, (insFill P s).conf = s.conf ∧ (insFill P s).cov = s.cov := by
    intro s; unfold insFill; split <;> exact ⟨rfl, rfl⟩
  refine ⟨h.1, ?_, ?_⟩
  · exact (e3 _).1.trans h.2.1
  · exact (e3 _).2.trans h.2.2
end Go.Ov
