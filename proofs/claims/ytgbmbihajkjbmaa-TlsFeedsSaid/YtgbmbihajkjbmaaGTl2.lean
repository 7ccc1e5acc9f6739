import Derived.Test.YtgbmbihajkjbmaaGTl1
set_option linter.all false
/- Plain words of chapter 32: messages cut into records. -/
namespace Go.Tl
open Go Go.Fw Go.Ov
theorem msgA_out : ∀ (n : Nat) (h : List UInt8), h.length ≤ n → ∀ (out : List EvD), msgA h out = ((msgA h []).1, out ++ (msgA h []).2.1, (msgA h []).2.2)
  | n, h, hn, out => by
    by_cases h4 : h.length < 4
    · rw [msg_end h4, msg_end h4]; simp
    · have hl := msgR_len h4
      by_cases hL : msgL h > 8188
      · rw [msg_err h4 hL, msg_err h4 hL]; simp
      · by_cases hw : h.length < 4 + msgL h
        · rw [msg_wait h4 hL hw, msg_wait h4 hL hw]; simp
        · match n with
          | 0 => omega
          | n + 1 =>
            cases hb : bodyM (h.getD 0 0).toNat (msgB h) with
            | none => rw [msg_none h4 hL hw hb, msg_none h4 hL hw hb]; exact msgA_out n _ (by omega) out
            | some x =>
              obtain ⟨f, e⟩ := x
              cases f with
              | true => rw [msg_bad h4 hL hw hb, msg_bad h4 hL hw hb]; simp
              | false =>
                rw [msg_ok h4 hL hw hb, msg_ok h4 hL hw hb, msgA_out n _ (by omega) (out ++ [e]), msgA_out n _ (by omega) ([] ++ [e])]
                simp
theorem msgA_idem : ∀ (n : Nat) (h : List UInt8), h.length ≤ n → ∀ (out : List EvD), (msgA h out).2.2 = false → msgA (msgA h out).1 [] = ((msgA h out).1, [], false)
  | n, h, hn, out, hf => by
    by_cases h4 : h.length < 4
    · rw [msg_end (out := out) h4]; exact msg_end h4
    · have hl := msgR_len h4
      by_cases hL : msgL h > 8188
      · rw [msg_err h4 hL] at hf; cases hf
      · by_cases hw : h.length < 4 + msgL h
        · rw [msg_wait (out := out) h4 hL hw]; exact msg_wait h4 hL hw
        · match n with
          | 0 => omega
          | n + 1 =>
            cases hb : bodyM (h.getD 0 0).toNat (msgB h) with
            | none => rw [msg_none (out := out) h4 hL hw hb] at hf ⊢; exact msgA_idem n _ (by omega) out hf
            | some x =>
              obtain ⟨f, e⟩ := x
              cases f with
              | true => rw [msg_bad h4 hL hw hb] at hf; cases hf
              | false => rw [msg_ok (out := out) h4 hL hw hb] at hf ⊢; exact msgA_idem n _ (by omega) _ hf
theorem msg_app {h b : List UInt8} (h4 : ¬ h.length < 4) : msgL (h ++ b) = msgL h ∧ (h ++ b).getD 0 0 = h.getD 0 0 := by
  unfold msgL
  rw [getD_app (by omega), getD_app (by omega), getD_app (by omega), getD_app (by omega)]
  exact ⟨rfl, rfl⟩
theorem msgB_app {h b : List UInt8} (h4 : ¬ h.length < 4) (hw : ¬ h.length < 4 + msgL h) : msgB (h ++ b) = msgB h ∧ msgR (h ++ b) = msgR h ++ b := by
  unfold msgB msgR
  rw [(msg_app (b := b) h4).1]
  exact ⟨by rw [List.take_append_of_le_length (by omega)], by rw [List.drop_append_of_le_length (by omega)]⟩
theorem msg_split (b : List UInt8) : ∀ (n : Nat) (h : List UInt8), h.length ≤ n → ∀ (out : List EvD),
    ((msgA h out).2.2 = true → (msgA (h ++ b) out).2.1 = (msgA h out).2.1 ∧ (msgA (h ++ b) out).2.2 = true) ∧
    ((msgA h out).2.2 = false → msgA (h ++ b) out = msgA ((msgA h out).1 ++ b) (msgA h out).2.1)
  | n, h, hn, out => by
    by_cases h4 : h.length < 4
    · rw [msg_end (out := out) h4]; exact ⟨(fun k => nomatch k), fun _ => rfl⟩
    · have hl := msgR_len h4
      obtain ⟨e1, e2⟩ := msg_app (b := b) h4
      have h4' : ¬ (h ++ b).length < 4 := by rw [List.length_append]; omega
      by_cases hL : msgL h > 8188
      · rw [msg_err (out := out) h4 hL, msg_err (out := out) h4' (by rw [e1]; exact hL)]; exact ⟨fun _ => ⟨rfl, rfl⟩, (fun k => nomatch k)⟩
      · by_cases hw : h.length < 4 + msgL h
        · rw [msg_wait (out := out) h4 hL hw]; exact ⟨(fun k => nomatch k), fun _ => rfl⟩
        · have hL' : ¬ msgL (h ++ b) > 8188 := by rw [e1]; exact hL
          have hw' : ¬ (h ++ b).length < 4 + msgL (h ++ b) := by rw [e1, List.length_append]; omega
          obtain ⟨b1, b2⟩ := msgB_app (b := b) h4 hw
          match n with
          | 0 => omega
          | n + 1 =>
            cases hb : bodyM (h.getD 0 0).toNat (msgB h) with
            | none => rw [msg_none (out := out) h4 hL hw hb, msg_none (out := out) h4' hL' hw' (by rw [e2, b1]; exact hb), b2]; exact msg_split b n _ (by omega) out
            | some x =>
              obtain ⟨f, e⟩ := x
              cases f with
              | true => rw [msg_bad (out := out) h4 hL hw hb, msg_bad (out := out) h4' hL' hw' (by rw [e2, b1]; exact hb)]; exact ⟨fun _ => ⟨rfl, rfl⟩, (fun k => nomatch k)⟩
              | false => rw [msg_ok (out := out) h4 hL hw hb, msg_ok (out := out) h4' hL' hw' (by rw [e2, b1]; exact hb), b2]; exact msg_split b n _ (by omega) _
theorem putM2 {k : Nat} (h : k < 65536) : putM k 2 = [UInt8.ofNat (k / 256), UInt8.ofNat (k % 256)] := by
  unfold putM
  rw [if_pos h]
  show [UInt8.ofNat (putC k 2 0), UInt8.ofNat (putC k 2 1)] = _
  unfold putC
  rw [show k / 256 ^ (2 - 1 - 0) % 256 = k / 256 from by rw [show 256 ^ (2 - 1 - 0) = 256 from rfl]; omega, show k / 256 ^ (2 - 1 - 1) % 256 = k % 256 from by rw [show 256 ^ (2 - 1 - 1) = 1 from rfl, Nat.div_one]]
theorem ofNat_b {n : Nat} (h : n < 256) : (UInt8.ofNat n).toNat = n := by rw [UInt8.toNat_ofNat']; exact Nat.mod_eq_of_lt h
/-- One record with its head. -/
theorem rec_head {kd k : Nat} {c t : List UInt8} (hk : k ≤ 16384) (h1 : 1 ≤ k) (hc : c.length = k) (hkd : 20 ≤ kd ∧ kd ≤ 23) (r : List UInt8) (hr : r = [UInt8.ofNat kd, 3, 3] ++ putM k 2 ++ c ++ t) :
    ¬ r.length < 5 ∧ ¬ recBad r = true ∧ recL r = k ∧ recK r = kd ∧ ¬ r.length < 5 + recL r ∧ recC r = c ∧ recR r = t := by
  rw [putM2 (by omega)] at hr
  have e : r = UInt8.ofNat kd :: 3 :: 3 :: UInt8.ofNat (k / 256) :: UInt8.ofNat (k % 256) :: (c ++ t) := by rw [hr]; simp
  have hlen : r.length = 5 + k + t.length := by rw [e]; simp only [List.length_cons, List.length_append, hc]; omega
  have hK : recK r = kd := by rw [e]; exact ofNat_b (by omega)
  have hL : recL r = k := by
    rw [e]
    show (UInt8.ofNat (k / 256)).toNat * 256 + (UInt8.ofNat (k % 256)).toNat = k
    rw [ofNat_b (by omega), ofNat_b (by omega)]; omega
  refine ⟨by omega, ?_, hL, hK, by omega, ?_, ?_⟩
  · unfold recBad
    rw [hK, hL, e]
    show ¬ (decide ((kd : Int) < 20) || decide ((kd : Int) > 23) || decide (((3 : UInt8).toNat : Int) ≠ 3) || decide (((3 : UInt8).toNat : Int) > 4) || decide ((k : Int) < 1) || decide ((k : Int) > 16640)) = true
    rw [decide_eq_false (by omega), decide_eq_false (by omega), decide_eq_false (by decide), decide_eq_false (by decide), decide_eq_false (by omega), decide_eq_false (by omega)]
    decide
  · unfold recC; rw [hL, e, ← hc]
    rw [show 5 + c.length = c.length + 1 + 1 + 1 + 1 + 1 from by omega]
    simp
  · unfold recR; rw [hL, e, ← hc]
    rw [show 5 + c.length = c.length + 1 + 1 + 1 + 1 + 1 from by omega]
    simp
/-- Handshake records: the events are those of the messages. -/
theorem rec_cut {size : Nat} (hs : 0 < size) (hs2 : size ≤ 16384) : ∀ (n : Nat) (s : List UInt8), s.length ≤ n → ∀ (h : List UInt8), msgA h [] = (h, [], false) →
    (recA (cutM 22 size s) h false []).2 = (msgA (h ++ s) []).2.1
  | n, s, hn, h, hh => by
    rw [cutM_eq 22 size hs s]
    by_cases hz : s = []
    · rw [if_pos hz, hz, List.append_nil, hh, rec_end (by decide)]
    · rw [if_neg hz]
      have hp : 0 < s.length := List.length_pos_iff.2 hz
      obtain ⟨q1, q2, q3, q4, q5, q6, q7⟩ := rec_head (kd := 22) (k := min s.length size) (c := s.take (min s.length size)) (t := cutM 22 size (s.drop (min s.length size))) (by omega) (by omega) (by rw [List.length_take]; omega) (by omega) _ rfl
      obtain ⟨m1, m2⟩ := msg_split (s.drop (min s.length size)) _ (h ++ s.take (min s.length size)) (Nat.le_refl _) []
      rw [List.append_assoc, List.take_append_drop] at m1 m2
      by_cases hd : (msgA (h ++ s.take (min s.length size)) []).2.2 = true
      · rw [rec_22d q1 q2 q5 q4 (by decide) (by rw [q6]; exact hd), q6, (m1 hd).1]; rfl
      · rw [rec_22 q1 q2 q5 q4 (by decide) (by rw [q6]; exact hd), q6, q7]
        have hd' : (msgA (h ++ s.take (min s.length size)) []).2.2 = false := by simpa using hd
        rw [m2 hd', recA_out _ _ (Nat.le_refl _), msgA_out _ _ (Nat.le_refl _) (msgA (h ++ s.take (min s.length size)) []).2.1]
        match n with
        | 0 => omega
        | n + 1 =>
          show ([] ++ (msgA (h ++ s.take (min s.length size)) []).2.1) ++ _ = _
          rw [rec_cut hs hs2 n _ (by rw [List.length_drop]; omega) _ (msgA_idem _ _ (Nat.le_refl _) _ hd')]
          rfl
theorem feed_cut {size : Nat} (hs : 0 < size) (hs2 : size ≤ 16384) (s : List UInt8) : (feedM ([], [], false, false) (cutM 22 size s)).2 = (msgA s []).2.1 := by
  unfold feedM
  rw [if_neg (by decide)]
  exact rec_cut hs hs2 _ s (Nat.le_refl _) [] (msg_end (by decide))
end Go.Tl

/- Plain words of chapter 32: errors come last; data is counted. -/
namespace Go.Tl
open Go Go.Fw Go.Ov
abbrev NoE (l : List EvD) : Prop := ∀ e ∈ l, e.1 ≠ 6
def EL (l : List EvD) : Prop := NoE l ∨ ∃ a, NoE a ∧ l = a ++ [errD]
theorem NoE.nil : NoE [] := fun e h => by cases h
theorem NoE.app {a b : List EvD} (ha : NoE a) (hb : NoE b) : NoE (a ++ b) := fun e h => (List.mem_append.1 h).elim (ha e) (hb e)
theorem NoE.one {e : EvD} (h : e.1 ≠ 6) : NoE [e] := fun x hx => by rw [List.mem_singleton] at hx; rw [hx]; exact h
theorem EL.app {a b : List EvD} (ha : NoE a) (hb : EL b) : EL (a ++ b) := by
  rcases hb with h | ⟨c, h, rfl⟩
  · exact .inl (ha.app h)
  · exact .inr ⟨a ++ c, ha.app h, (List.append_assoc ..).symm⟩
theorem EL.at {l : List EvD} (h : EL l) {i : Nat} (hi : i < l.length) (h6 : (l.getD i (Ty.dflt eT)).1 = 6) : i = l.length - 1 := by
  rcases h with h | ⟨a, h, rfl⟩
  · exact absurd h6 (h _ (getD_mem hi))
  · rw [List.length_append] at hi ⊢
    simp only [List.length_singleton] at hi ⊢
    by_cases q : i < a.length
    · rw [List.getD_eq_getElem?_getD, List.getElem?_append_left q, ← List.getD_eq_getElem?_getD] at h6
      exact absurd h6 (h _ (getD_mem q))
    · omega
theorem extI_kind (F : EF) (hF : ∀ k x e, (F k x e).2.1.1 = e.1) (s : XSt) : (extI F s).2.2.1.1 = s.2.2.1.1 := by
  have : ∀ (n : Nat) (s : XSt), (iterN (fun s : XSt => more s.1) (extStep F) n s).2.2.1.1 = s.2.2.1.1 := by
    intro n
    induction n with
    | zero => intro s; rfl
    | succ n ih =>
      intro s
      unfold iterN
      split
      · rw [ih]
        unfold extStep
        (repeat' split) <;> first | rfl | exact hF _ _ _
      · rfl
  exact this _ s
theorem nameM_kind (x : Rd) (e : Ev) : (nameM x e).2.1.1 = e.1 := by unfold nameM; (repeat' split) <;> rfl
theorem versM_kind (x : Rd) (e : Ev) : (versM x e).2.1.1 = e.1 := by unfold versM; (repeat' split) <;> rfl
theorem cliF_kind (k : Nat) (x : Rd) (e : Ev) : (cliF k x e).2.1.1 = e.1 := by
  unfold cliF
  split
  · exact nameM_kind x e
  · split
    · exact versM_kind x e
    · rfl
theorem srvF_kind (k : Nat) (x : Rd) (e : Ev) : (srvF k x e).2.1.1 = e.1 := by unfold srvF; split <;> rfl
theorem extM_kind (F : EF) (hF : ∀ k x e, (F k x e).2.1.1 = e.1) (r : Rd) (e : Ev) : (extM F r e).2.1 = e.1 := by
  unfold extM
  split
  · rfl
  · exact extI_kind F hF _
theorem toD_1 (x : Ev) : (toD x).1 = x.1 := rfl
theorem one_6 (a : Int) (l : List UInt8) : ((1, a, l) : Ev).1 ≠ 6 := by show (1 : Int) ≠ 6; decide
theorem two_6 (a : Int) (l : List UInt8) : ((2, a, l) : Ev).1 ≠ 6 := by show (2 : Int) ≠ 6; decide
theorem three_6 (l : List (List UInt8)) : ((3, 0, [], l, ()) : EvD).1 ≠ 6 := by show (3 : Int) ≠ 6; decide
theorem cli_kind (b : List UInt8) : (toD (cliM (b, false)).2).1 ≠ 6 := by
  rw [toD_1]; unfold cliM; rw [extM_kind cliF cliF_kind]; exact one_6 _ _
theorem srv_kind (b : List UInt8) : (toD (srvM (b, false)).2).1 ≠ 6 := by
  rw [toD_1]; unfold srvM; rw [extM_kind srvF srvF_kind]; exact two_6 _ _
theorem some_snd {f g : Bool} {e d : EvD} (h : some (f, e) = some (g, d)) : d = e := by injection h with h; injection h with _ h; exact h.symm
theorem body_noe {k : Nat} {b : List UInt8} {e : EvD} {f : Bool} (h : bodyM k b = some (f, e)) : e.1 ≠ 6 := by
  by_cases h1 : k = 1
  · rw [body1 h1] at h; rw [some_snd h]; exact cli_kind b
  · by_cases h2 : k = 2
    · rw [body2 h1 h2] at h; rw [some_snd h]; exact srv_kind b
    · by_cases h3 : k = 11
      · rw [body11 h1 h2 h3] at h; rw [some_snd h]; exact three_6 _
      · rw [body0 h1 h2 h3] at h; cases h
theorem msgN_el : ∀ (n : Nat) (h : List UInt8) (out : List EvD), NoE out → EL (msgN n h out).2.1 ∧ ((msgN n h out).2.2 = false → NoE (msgN n h out).2.1)
  | 0, _, _, ho => ⟨.inl ho, fun _ => ho⟩
  | n + 1, h, out, ho => by
    unfold msgN
    split
    · exact ⟨.inl ho, fun _ => ho⟩
    · split
      · exact ⟨.inr ⟨out, ho, rfl⟩, (fun k => nomatch k)⟩
      · split
        · exact ⟨.inl ho, fun _ => ho⟩
        · split
          · exact msgN_el n _ _ ho
          · exact ⟨.inr ⟨out, ho, rfl⟩, (fun k => nomatch k)⟩
          · rename_i e hb
            exact msgN_el n _ _ (ho.app (NoE.one (body_noe hb)))
theorem recStep_el (r h : List UInt8) (s : Bool) : EL (recStep r h s).2.1 ∧ ((recStep r h s).2.2 = true → NoE (recStep r h s).2.1) := by
  unfold recStep
  by_cases h5 : r.length < 5
  · rw [if_pos h5]; exact ⟨.inl NoE.nil, (fun k => nomatch k)⟩
  · rw [if_neg h5]
    by_cases hb : recBad r = true
    · rw [if_pos hb]; exact ⟨.inr ⟨[], NoE.nil, rfl⟩, (fun k => nomatch k)⟩
    · rw [if_neg hb]
      by_cases hw : r.length < 5 + recL r
      · rw [if_pos hw]; exact ⟨.inl NoE.nil, (fun k => nomatch k)⟩
      · rw [if_neg hw]
        by_cases k20 : recK r = 20
        · rw [if_pos k20]; exact ⟨.inl NoE.nil, fun _ => NoE.nil⟩
        · rw [if_neg k20]
          by_cases k21 : recK r = 21
          · rw [if_pos k21]
            have : NoE (if recL r = 2 then [alrD (recC r)] else []) := by split; exact NoE.one (by show (4 : Int) ≠ 6; decide); exact NoE.nil
            exact ⟨.inl this, fun _ => this⟩
          · rw [if_neg k21]
            by_cases k23 : recK r = 23
            · rw [if_pos k23]
              have : NoE [datD (recL r)] := NoE.one (by show (5 : Int) ≠ 6; decide)
              exact ⟨.inl this, fun _ => this⟩
            · rw [if_neg k23]
              by_cases hs : s = true
              · rw [if_pos hs]; exact ⟨.inl NoE.nil, fun _ => NoE.nil⟩
              · rw [if_neg hs]
                have hm := msgN_el ((h ++ recC r).length + 1) (h ++ recC r) [] NoE.nil
                by_cases hd : (msgA (h ++ recC r) []).2.2 = true
                · rw [if_pos hd]; exact ⟨hm.1, (fun k => nomatch k)⟩
                · rw [if_neg hd]; exact ⟨hm.1, fun _ => hm.2 (Bool.eq_false_iff.2 hd)⟩
theorem recA_el : ∀ (n : Nat) (r : List UInt8), r.length ≤ n → ∀ (h : List UInt8) (s : Bool) (out : List EvD), NoE out → EL (recA r h s out).2
  | n, r, hn, h, s, out, ho => by
    rw [recA_step r h s out]
    obtain ⟨k1, k2⟩ := recStep_el r h s
    by_cases hc : (recStep r h s).2.2 = true
    · rw [if_pos hc]
      have hl := recStep_len hc
      match n with
      | 0 => omega
      | n + 1 => exact recA_el n (recStep r h s).1.1 (by omega) _ _ _ (ho.app (k2 hc))
    · rw [if_neg hc]; exact EL.app ho k1
theorem feed_el (x : List UInt8) : EL (feedM ([], [], false, false) x).2 := by
  unfold feedM
  rw [if_neg (by decide)]
  exact recA_el _ _ (Nat.le_refl _) _ _ _ NoE.nil
/-- Handshake records after a record of type 20 are passed over. -/
theorem rec_skip {size : Nat} (hs : 0 < size) (hs2 : size ≤ 16384) (t h : List UInt8) (out : List EvD) : ∀ (n : Nat) (s : List UInt8), s.length ≤ n → recA (cutM 22 size s ++ t) h true out = recA t h true out
  | n, s, hn => by
    rw [cutM_eq 22 size hs s]
    by_cases hz : s = []
    · rw [if_pos hz]; rfl
    · rw [if_neg hz]
      have hp : 0 < s.length := List.length_pos_iff.2 hz
      rw [List.append_assoc]
      obtain ⟨q1, q2, q3, q4, q5, q6, q7⟩ := rec_head (kd := 22) (k := min s.length size) (c := s.take (min s.length size)) (t := cutM 22 size (s.drop (min s.length size)) ++ t) (by omega) (by omega) (by rw [List.length_take]; omega) (by omega) _ rfl
      rw [rec_22s q1 q2 q5 q4 rfl, q7]
      match n with
      | 0 => omega
      | n + 1 => exact rec_skip hs hs2 t h out n _ (by rw [List.length_drop]; omega)
/-- Data records: the sizes. -/
theorem rec_data {size : Nat} (hs : 0 < size) (hs2 : size ≤ 16384) (h : List UInt8) (b : Bool) : ∀ (n : Nat) (s : List UInt8), s.length ≤ n → ∀ (out : List EvD), ∃ ks : List Nat, (recA (cutM 23 size s) h b out).2 = out ++ ks.map datD ∧ ks.sum = s.length
  | n, s, hn, out => by
    rw [cutM_eq 23 size hs s]
    by_cases hz : s = []
    · rw [if_pos hz, hz]; exact ⟨[], by rw [rec_end (by decide)]; simp, rfl⟩
    · rw [if_neg hz]
      have hp : 0 < s.length := List.length_pos_iff.2 hz
      obtain ⟨q1, q2, q3, q4, q5, q6, q7⟩ := rec_head (kd := 23) (k := min s.length size) (c := s.take (min s.length size)) (t := cutM 23 size (s.drop (min s.length size))) (by omega) (by omega) (by rw [List.length_take]; omega) (by omega) _ rfl
      rw [rec_23 q1 q2 q5 q4, q7, q3]
      match n with
      | 0 => omega
      | n + 1 =>
        obtain ⟨ks, k1, k2⟩ := rec_data hs hs2 h b n (s.drop (min s.length size)) (by rw [List.length_drop]; omega) (out ++ [datD (min s.length size)])
        refine ⟨min s.length size :: ks, by rw [k1]; simp, ?_⟩
        rw [List.sum_cons, k2, List.length_drop]; omega
theorem feed_data (m z : List UInt8) : ∃ ks : List Nat, (feedM ([], [], false, false) ([20, 3, 3, 0, 1, 1] ++ cutM 22 16384 m ++ cutM 23 16384 z)).2 = ks.map datD ∧ ks.sum = z.length := by
  have e : feedM ([], [], false, false) ([20, 3, 3, 0, 1, 1] ++ cutM 22 16384 m ++ cutM 23 16384 z) = recA ([] ++ ([20, 3, 3, 0, 1, 1] ++ cutM 22 16384 m ++ cutM 23 16384 z)) [] false [] := if_neg (by decide)
  rw [e, List.nil_append, List.append_assoc]
  clear e
  obtain ⟨q1, q2, q3, q4, q5, q6, q7⟩ := rec_head (kd := 20) (k := 1) (c := [1]) (t := cutM 22 16384 m ++ cutM 23 16384 z) (by omega) (by omega) rfl (by omega) ([20, 3, 3, 0, 1, 1] ++ (cutM 22 16384 m ++ cutM 23 16384 z)) (by rw [putM2 (by decide)]; rfl)
  rw [rec_20 q1 q2 q5 q4, q7, rec_skip (by decide) (by decide) _ _ _ _ m (Nat.le_refl _)]
  obtain ⟨ks, k1, k2⟩ := rec_data (size := 16384) (by decide) (by decide) [] true _ z (Nat.le_refl _) []
  exact ⟨ks, by rw [k1]; rfl, k2⟩
theorem client_cut (v : Int) (name : List UInt8) : ∃ m, clientB v name = cutM 22 16384 m := by
  unfold clientB msgBl
  split
  · exact ⟨_, rfl⟩
  · exact ⟨[], by rw [cutM_eq 22 16384 (by decide), if_pos rfl]⟩
theorem sum_take_le (ks : List Nat) (i : Nat) : (ks.take i).sum ≤ ks.sum := by
  have := congrArg List.sum (List.take_append_drop i ks)
  rw [List.sum_append] at this; omega
theorem sum_take_next {ks : List Nat} {i : Nat} (h : i < ks.length) : (ks.take (i + 1)).sum = (ks.take i).sum + ks.getD i 0 := by
  rw [List.take_succ, List.sum_append, List.getD_eq_getElem?_getD]
  simp [h]
theorem map_datD {ks : List Nat} {i : Nat} (h : i < ks.length) : (ks.map datD).getD i (Ty.dflt eT) = datD (ks.getD i 0) := by
  rw [List.getD_eq_getElem?_getD, List.getD_eq_getElem?_getD]; simp [h]
end Go.Tl

/- Plain words of chapter 32: the reference's Put. -/
namespace Go.Tl
open Go Go.Fw Go.Ov
theorem pw_step {i k : Nat} (h : i < k) (hk : k ≤ 7) : IntKind.i64.wrap (((256 ^ i : Nat) : Int) * 256) = ((256 ^ (i + 1) : Nat) : Int) := by
  have h1 : 256 ^ i ≤ 281474976710656 := Nat.le_trans (Nat.pow_le_pow_right (by decide) (show i ≤ 6 by omega)) (by decide)
  rw [Nat.pow_succ]
  generalize 256 ^ i = q at *
  rw [wrapId (by omega)]; omega
theorem put_1 {n : Nat} (h : n < 256 ^ 1) : putM n 1 = [UInt8.ofNat n] := by
  unfold putM
  rw [if_pos h]
  show [UInt8.ofNat (putC n 1 0)] = _
  unfold putC
  rw [show n / 256 ^ (1 - 1 - 0) % 256 = n from by rw [show 256 ^ (1 - 1 - 0) = 1 from rfl]; omega]
theorem put_s {n m : Nat} (h : n < 256 ^ (m + 1)) : putM n (m + 1) = putM (n / 256) m ++ [UInt8.ofNat (n % 256)] := by
  have h2 : n / 256 < 256 ^ m := by rw [Nat.pow_succ] at h; exact Nat.div_lt_of_lt_mul (by rw [Nat.mul_comm]; exact h)
  unfold putM
  rw [if_pos h, if_pos h2]
  unfold putB
  rw [List.range_succ, List.map_append]
  congr 1
  · apply List.map_congr_left
    intro j hj
    have hj := List.mem_range.1 hj
    congr 1
    unfold putC
    rw [show m + 1 - 1 - j = (m - 1 - j) + 1 from by omega, Nat.pow_succ, Nat.mul_comm, ← Nat.div_div_eq_div_mul]
  · show [UInt8.ofNat (putC n (m + 1) m)] = _
    unfold putC
    rw [show m + 1 - 1 - m = 0 from by omega, Nat.pow_zero, Nat.div_one]
end Go.Tl

/- Plain words of chapter 32: the reference's builders. -/
namespace Go.Tl
open Go Go.Fw Go.Ov
def szM (s : List UInt8) (k : Nat) : List UInt8 × Bool := (putM s.length k ++ s, decide (putM s.length k ≠ []))
theorem sz_ok {s : List UInt8} {k : Nat} (hk : 1 ≤ k) (h : s.length < 256 ^ k) : szM s k = (putM s.length k ++ s, true) := by
  unfold szM
  congr 1
  refine decide_eq_true (fun e => ?_)
  have := congrArg List.length e
  unfold putM at this
  rw [if_pos h, putB_len] at this
  simp at this; omega
theorem sz_bad {s : List UInt8} {k : Nat} (h : ¬ s.length < 256 ^ k) : szM s k = (s, false) := by
  unfold szM putM
  rw [if_neg h]; rfl
theorem cnt_ok {s : List UInt8} {k : Nat} (b : Bool) (h : s.length < 256 ^ k) : cntM s k b = (putM s.length k ++ s, b) := by
  unfold cntM; rw [if_neg (by omega)]
def msgRf (kind : Nat) (body : List UInt8) : List UInt8 := if (szM body 3).2 = true then cutM 22 16384 ([UInt8.ofNat kind] ++ (szM body 3).1) else []
theorem msg_same {kind : Nat} (hk : kind < 256) (body : List UInt8) : msgBl kind body true = msgRf kind body := by
  unfold msgBl msgRf
  by_cases h : body.length < 256 ^ 3
  · rw [sz_ok (by decide) h, cnt_ok _ h, put_1 (by omega)]
  · have e : cntM body 3 true = ([], false) := if_pos (Nat.le_of_not_lt h)
    rw [sz_bad h, e]; rfl
def srvRf (v : Nat) : List UInt8 := putM (min v 771) 2 ++ List.replicate 32 0 ++ [0, 19, 1, 0] ++ (if v = 772 then [0, 6, 0, 43, 0, 2, 3, 4] else [])
theorem srv_same {v : Nat} (h : 768 ≤ v ∧ v ≤ 772) : srv1 v = (srvRf v, true) := by
  have : v = 768 ∨ v = 769 ∨ v = 770 ∨ v = 771 ∨ v = 772 := by omega
  rcases this with rfl | rfl | rfl | rfl | rfl <;> decide +kernel
theorem server_same (v : Int) : serverB v = msgRf 2 (srvRf (clampV v)) := by
  unfold serverB
  rw [srv_same (clampV_rng v)]
  exact msg_same (by decide) _
/-- The reference's extensions and hello of a client. -/
def clx (name : List UInt8) : List UInt8 := if name ≠ [] then [0, 0] ++ (szM (szM ([0] ++ (szM name 2).1) 2).1 2).1 else []
def cly (v : Nat) (name : List UInt8) : List UInt8 := if v = 772 then clx name ++ [0, 43, 0, 3, 2, 3, 4] else clx name
def clRf (v : Nat) (name : List UInt8) : List UInt8 := putM (min v 771) 2 ++ List.replicate 32 0 ++ [0, 0, 2, 19, 1, 1, 0] ++ (if cly v name ≠ [] then (szM (cly v name) 2).1 else [])
theorem sz_len (s : List UInt8) (k : Nat) : (szM s k).1.length ≤ k + s.length := by
  have := putM_len s.length k
  unfold szM; rw [List.length_append]; omega
theorem clx_len (name : List UInt8) : (clx name).length ≤ name.length + 9 := by
  unfold clx
  split
  · have h1 := sz_len name 2
    have h2 := sz_len ([0] ++ (szM name 2).1) 2
    have h3 := sz_len (szM ([0] ++ (szM name 2).1) 2).1 2
    rw [List.length_append] at h2
    rw [List.length_append]
    change _ ≤ 2 + (1 + _) at h2
    show 2 + _ ≤ _
    omega
  · simp
theorem cl1_same {name : List UInt8} (h : name.length ≤ 20000) : cl1 name = (clx name, true) := by
  have p16 : (256 : Nat) ^ 2 = 65536 := by decide
  unfold cl1 clx
  by_cases hn : name ≠ []
  · rw [if_pos hn, if_pos hn]
    have h1 : name.length < 256 ^ 2 := by omega
    have l1 := sz_len name 2
    have e1 : cntM name 2 true = ((szM name 2).1, true) := by rw [cnt_ok true h1]; rfl
    have h2 : ([0] ++ (szM name 2).1).length < 256 ^ 2 := by rw [List.length_append]; show 1 + _ < _; omega
    have e2 : cl0 name = ((szM ([0] ++ (szM name 2).1) 2).1, true) := by unfold cl0; rw [e1, cnt_ok true h2]; rfl
    have l2 := sz_len ([0] ++ (szM name 2).1) 2
    rw [List.length_append] at l2
    change _ ≤ 2 + (1 + _) at l2
    have h3 : (szM ([0] ++ (szM name 2).1) 2).1.length < 256 ^ 2 := by omega
    rw [e2]
    unfold extB
    rw [cnt_ok true h3]
    rfl
  · rw [if_neg hn, if_neg hn]
theorem cl3_same {v : Nat} (h : 768 ≤ v ∧ v ≤ 772) : cl3 v = putM (min v 771) 2 ++ List.replicate 32 0 ++ [0, 0, 2, 19, 1, 1, 0] := by
  have : v = 768 ∨ v = 769 ∨ v = 770 ∨ v = 771 ∨ v = 772 := by omega
  rcases this with rfl | rfl | rfl | rfl | rfl <;> decide +kernel
theorem clv_same {x : List UInt8} : clv 772 (x, true) = ([0, 43, 0, 3, 2, 3, 4], true) := by
  unfold clv; exact (by decide +kernel : extB 43 (cntM (putM 772 2) 1 true).1 (cntM (putM 772 2) 1 true).2 = ([0, 43, 0, 3, 2, 3, 4], true))
theorem client_same (v : Int) {name : List UInt8} (h : name.length ≤ 20000) : clientB v name = msgRf 1 (clRf (clampV v) name) := by
  have p16 : (256 : Nat) ^ 2 = 65536 := by decide
  have hv := clampV_rng v
  unfold clientB
  generalize clampV v = w at *
  have e2 : cl2 w (cl1 name) = (cly w name, true) := by
    rw [cl1_same h]
    unfold cl2 cly
    by_cases q : w = 772
    · rw [if_pos q, if_pos q, q, clv_same]
    · rw [if_neg q, if_neg q]
  have ly : (cly w name).length ≤ name.length + 16 := by
    have := clx_len name
    unfold cly; split
    · rw [List.length_append]; show _ + 7 ≤ _; omega
    · omega
  rw [e2]
  have e4 : cl4 w (cly w name, true) = (clRf w name, true) := by
    unfold cl4 clRf
    rw [cl3_same hv]
    by_cases q : cly w name ≠ []
    · rw [if_pos q, if_pos q]
      have h3 : (cly w name).length < 256 ^ 2 := by omega
      rw [cnt_ok true h3]; rfl
    · rw [if_neg q, if_neg q, List.append_nil]
  rw [e4]
  exact msg_same (by decide) _
/-- The reference's chain. -/
def chR (l : List (List UInt8)) (i : Nat) : List UInt8 := ((l.take i).map (fun s => (szM s 3).1)).flatten
theorem chR_next {l : List (List UInt8)} {i : Nat} (h : i < l.length) : chR l (i + 1) = chR l i ++ (szM (l.getD i []) 3).1 := by
  unfold chR
  rw [List.take_succ, List.map_append, List.flatten_append, List.getD_eq_getElem?_getD]
  simp [h]
theorem chR_len {l : List (List UInt8)} (hb : ∀ i, i < l.length → (l.getD i []).length ≤ 20000) : ∀ i, i ≤ l.length → (chR l i).length ≤ i * 20003
  | 0, _ => by simp [chR]
  | i + 1, h => by
    have ih := chR_len hb i (by omega)
    have h1 := hb i (by omega)
    have h2 := sz_len (l.getD i []) 3
    rw [chR_next (by omega), List.length_append]; omega
theorem chN_same {l : List (List UInt8)} (hb : ∀ i, i < l.length → (l.getD i []).length ≤ 20000) : ∀ i, i ≤ l.length → chN l i = (chR l i, true)
  | 0, _ => by simp [chN, chR]
  | i + 1, h => by
    have h1 := hb i (by omega)
    have p24 : (256 : Nat) ^ 3 = 16777216 := by decide
    rw [chN_next (by omega), chR_next (by omega), chN_same hb i (by omega)]
    unfold chStep
    rw [cnt_ok true (by omega)]
    rfl
theorem chain_same {l : List (List UInt8)} (hb : ∀ i, i < l.length → (l.getD i []).length ≤ 20000) : chainB l = msgRf 11 (szM (chR (l.take 6) (l.take 6).length) 3).1 := by
  have p24 : (256 : Nat) ^ 3 = 16777216 := by decide
  have e6 : (l.take 6).length ≤ 6 := List.length_take_le ..
  have hb6 : ∀ i, i < (l.take 6).length → ((l.take 6).getD i []).length ≤ 20000 := fun i hi => by
    have h1 : i < l.length := by rw [List.length_take] at hi; omega
    have h2 : (l.take 6).getD i [] = l.getD i [] := by
      rw [List.getD_eq_getElem?_getD, List.getD_eq_getElem?_getD, List.getElem?_take, if_pos (by omega)]
    rw [h2]; exact hb i h1
  have hl := chR_len hb6 _ (Nat.le_refl _)
  have hm : (l.take 6).length * 20003 ≤ 6 * 20003 := Nat.mul_le_mul_right _ e6
  unfold chainB
  rw [chN_same hb6 _ (Nat.le_refl _), cnt_ok true (by show (chR (l.take 6) (l.take 6).length).length < _; omega)]
  exact msg_same (by decide) _
end Go.Tl

