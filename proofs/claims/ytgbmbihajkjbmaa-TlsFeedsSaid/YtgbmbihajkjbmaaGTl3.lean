import Derived.Test.YtgbmbihajkjbmaaGTl2
set_option linter.all false
/- Plain words of chapter 32: what is built is read. -/
namespace Go.Tl
open Go Go.Fw Go.Ov
theorem takeM_app {a t : List UInt8} {f : Bool} {n : Nat} (h : a.length = n) : takeM n (a ++ t, f) = (a, (t, f)) := by
  unfold takeM
  rw [if_neg (by show ¬ n > (a ++ t).length; rw [List.length_append]; omega)]
  subst h
  simp
theorem numB_snoc (l : List UInt8) (b : UInt8) : numB (l ++ [b]) = numB l * 256 + b.toNat := by
  unfold numB; rw [List.foldl_append]; rfl
theorem numB_put : ∀ (k n : Nat), n < 256 ^ k → numB (putM n k) = n
  | 0, n, h => by
    have e : n = 0 := by simpa using h
    subst e; rfl
  | k + 1, n, h => by
    rw [put_s h, numB_snoc, numB_put k (n / 256) (by rw [Nat.pow_succ] at h; exact Nat.div_lt_of_lt_mul (by rw [Nat.mul_comm]; exact h)), ofNat_b (by omega)]
    omega
theorem putM_full {n k : Nat} (h : n < 256 ^ k) : (putM n k).length = k := by unfold putM; rw [if_pos h, putB_len]
theorem numM_put {n k : Nat} (h : n < 256 ^ k) (t : List UInt8) (f : Bool) : numM k (putM n k ++ t, f) = (n, (t, f)) := by
  unfold numM
  rw [takeM_app (putM_full h), numB_put k n h]
theorem listM_put {s : List UInt8} {k : Nat} (h : s.length < 256 ^ k) (t : List UInt8) (f : Bool) : listM k (putM s.length k ++ (s ++ t), f) = (s, (t, f)) := by
  unfold listM
  rw [numM_put h]
  exact takeM_app rfl
theorem allM_put {s : List UInt8} {k : Nat} (h : s.length < 256 ^ k) (f : Bool) : allM k (putM s.length k ++ s, f) = ((s, false), ([], f)) := by
  have e := listM_put h [] f
  rw [List.append_nil] at e
  unfold allM
  rw [e]; simp
/-- Pieces with their lengths. -/
def encL (l : List (List UInt8)) : List UInt8 := (l.map (fun s => putM s.length 3 ++ s)).flatten
theorem chn_read : ∀ (l : List (List UInt8)), (∀ s ∈ l, s.length < 256 ^ 3) → ∀ acc, chnI ((encL l, false), acc) = (([], false), acc ++ l)
  | [], _, acc => by rw [List.append_nil]; exact chn_stop (s := (([], false), acc)) rfl
  | s :: l, h, acc => by
    have hs := h s (List.mem_cons_self ..)
    have e : encL (s :: l) = putM s.length 3 ++ (s ++ encL l) := by unfold encL; simp
    have hm : more (encL (s :: l), false) = true := by
      unfold more
      rw [e]
      have hne : putM s.length 3 ++ (s ++ encL l) ≠ [] := fun q => by
        have := congrArg List.length q
        rw [List.length_append, putM_full hs] at this
        simp at this
      simp [hne]
    have hst : chnStep ((encL (s :: l), false), acc) = ((encL l, false), acc ++ [s]) := by
      unfold chnStep
      rw [e, listM_put hs]
    have g := chn_go (s := ((encL (s :: l), false), acc)) hm
    rw [← g, hst, chn_read l (fun x hx => h x (List.mem_cons_of_mem _ hx)) (acc ++ [s])]
    simp
theorem chnM_read {l : List (List UInt8)} (h6 : l.length ≤ 6) (h : ∀ s ∈ l, s.length < 256 ^ 3) (hl : (encL l).length < 256 ^ 3) : chnM (putM (encL l).length 3 ++ encL l, false) = (([], false), l) := by
  unfold chnM
  rw [allM_put hl, chn_read l h []]
  simp [h6]
theorem chR_enc (l : List (List UInt8)) : chR l l.length = encL l := by
  unfold chR encL szM
  rw [List.take_length]
theorem msg_head {kd : Nat} (hk : kd < 256) {body t : List UInt8} (hb : body.length < 256 ^ 3) (m : List UInt8) (hm : m = [UInt8.ofNat kd] ++ (putM body.length 3 ++ (body ++ t))) :
    ¬ m.length < 4 ∧ msgL m = body.length ∧ ¬ m.length < 4 + msgL m ∧ msgB m = body ∧ msgR m = t ∧ (m.getD 0 0).toNat = kd := by
  have hp := putM_full hb
  have hn := numB_put 3 body.length hb
  generalize putM body.length 3 = p at *
  match p, hp with
  | [x, y, z], _ =>
    have e : m = UInt8.ofNat kd :: x :: y :: z :: (body ++ t) := by rw [hm]; rfl
    have hl : msgL m = body.length := by
      rw [e]
      show ((x.toNat * 256 + y.toNat) * 256 + z.toNat) = _
      rw [← hn]
      show _ = ((0 * 256 + x.toNat) * 256 + y.toNat) * 256 + z.toNat
      omega
    have hlen : m.length = 4 + body.length + t.length := by rw [e]; simp only [List.length_cons, List.length_append]; omega
    refine ⟨by omega, hl, by omega, ?_, ?_, by rw [e]; exact ofNat_b hk⟩
    · unfold msgB; rw [hl, e, show 4 + body.length = body.length + 1 + 1 + 1 + 1 from by omega]; simp
    · unfold msgR; rw [hl, e, show 4 + body.length = body.length + 1 + 1 + 1 + 1 from by omega]; simp
/-- Handshake records in front of others. -/
theorem rec_cut_t {size : Nat} (hs : 0 < size) (hs2 : size ≤ 16384) (t : List UInt8) : ∀ (n : Nat) (s : List UInt8), s.length ≤ n → ∀ (h : List UInt8) (out : List EvD), msgA h [] = (h, [], false) → (msgA (h ++ s) []).2.2 = false →
    recA (cutM 22 size s ++ t) h false out = recA t (msgA (h ++ s) []).1 false (out ++ (msgA (h ++ s) []).2.1)
  | n, s, hn, h, out, hh, hf => by
    rw [cutM_eq 22 size hs s]
    by_cases hz : s = []
    · rw [if_pos hz, hz, List.append_nil, hh, List.append_nil]; rfl
    · rw [if_neg hz]
      have hp : 0 < s.length := List.length_pos_iff.2 hz
      rw [List.append_assoc]
      obtain ⟨q1, q2, q3, q4, q5, q6, q7⟩ := rec_head (kd := 22) (k := min s.length size) (c := s.take (min s.length size)) (t := cutM 22 size (s.drop (min s.length size)) ++ t) (by omega) (by omega) (by rw [List.length_take]; omega) (by omega) _ rfl
      obtain ⟨m1, m2⟩ := msg_split (s.drop (min s.length size)) _ (h ++ s.take (min s.length size)) (Nat.le_refl _) []
      rw [List.append_assoc, List.take_append_drop] at m1 m2
      by_cases hd : (msgA (h ++ s.take (min s.length size)) []).2.2 = true
      · rw [(m1 hd).2] at hf; cases hf
      · have hd' : (msgA (h ++ s.take (min s.length size)) []).2.2 = false := Bool.eq_false_iff.2 hd
        rw [rec_22 q1 q2 q5 q4 (by decide) (by rw [q6]; exact hd), q6, q7]
        have m3 := m2 hd'
        rw [msgA_out _ _ (Nat.le_refl _) (msgA (h ++ s.take (min s.length size)) []).2.1] at m3
        match n with
        | 0 => omega
        | n + 1 =>
          rw [rec_cut_t hs hs2 t n _ (by rw [List.length_drop]; omega) _ _ (msgA_idem _ _ (Nat.le_refl _) _ hd') (by rw [m3] at hf; exact hf), m3]
          simp
/-- One whole message in a reader of messages. -/
theorem msg_one {kd : Nat} (hk : kd < 256) {body t : List UInt8} (hb : body.length ≤ 8188) {e : EvD} (hbm : bodyM kd body = some (false, e)) (out : List EvD) :
    msgA ([UInt8.ofNat kd] ++ (putM body.length 3 ++ (body ++ t))) out = msgA t (out ++ [e]) := by
  obtain ⟨h1, h2, h3, h4, h5, h6⟩ := msg_head (kd := kd) hk (body := body) (t := t) (Nat.lt_of_le_of_lt hb (by decide)) _ rfl
  rw [msg_ok h1 (by rw [h2]; omega) h3 (by rw [h6, h4]; exact hbm), h5]
/-- The hello that a server sends is read. -/
theorem srv_read {v : Nat} (h : 768 ≤ v ∧ v ≤ 772) : srvM (srvRf v, false) = (([], false), (2, (v : Int), [])) := by
  have : v = 768 ∨ v = 769 ∨ v = 770 ∨ v = 771 ∨ v = 772 := by omega
  rcases this with rfl | rfl | rfl | rfl | rfl <;> decide +kernel
end Go.Tl

/- Plain words of chapter 32: a client's hello is read. -/
namespace Go.Tl
open Go Go.Fw Go.Ov
theorem listM_at {p s t : List UInt8} {k : Nat} (hp : p = putM s.length k) (h : s.length < 256 ^ k) : listM k (p ++ (s ++ t), false) = (s, (t, false)) := by rw [hp]; exact listM_put h t false
theorem numM_at {p t : List UInt8} {n k : Nat} (hp : p = putM n k) (h : n < 256 ^ k) : numM k (p ++ t, false) = (n, (t, false)) := by rw [hp]; exact numM_put h t false
def clX (v : Nat) (name : List UInt8) : List UInt8 := if cly v name ≠ [] then (szM (cly v name) 2).1 else []
theorem cli_hello {v : Nat} (h : v ≤ 772) (name : List UInt8) : cliM (clRf v name, false) = extM cliF (clX v name, false) (1, ((min v 771 : Nat) : Int), []) := by
  have e0 : clRf v name = putM (min v 771) 2 ++ (List.replicate 32 0 ++ ([0] ++ ([] ++ ([0, 2] ++ ([19, 1] ++ ([1] ++ ([0] ++ clX v name))))))) := by
    unfold clRf clX; simp only [List.append_assoc]; rfl
  have n1 : numM 2 (clRf v name, false) = (min v 771, (List.replicate 32 0 ++ ([0] ++ ([] ++ ([0, 2] ++ ([19, 1] ++ ([1] ++ ([0] ++ clX v name)))))), false)) := by
    rw [e0]; exact numM_at rfl (by have : (256 : Nat) ^ 2 = 65536 := by decide
                                   omega)
  unfold cliM helloR
  rw [n1]
  rw [takeM_app (a := List.replicate 32 0) (by decide)]
  rw [listM_at (p := [0]) (s := []) (k := 1) (by decide +kernel) (by decide)]
  rw [listM_at (p := [0, 2]) (s := [19, 1]) (k := 2) (by decide +kernel) (by decide)]
  rw [listM_at (p := [1]) (s := [0]) (k := 1) (by decide +kernel) (by decide)]
theorem name_read {name : List UInt8} (h : name.length ≤ 20000) (hn : name ≠ []) (e : Ev) (he : e.2.2 = []) : nameM ((szM ([0] ++ (szM name 2).1) 2).1, false) e = (true, (e.1, e.2.1, name), ([], false)) := by
  have p16 : (256 : Nat) ^ 2 = 65536 := by decide
  have l1 := sz_len name 2
  have l0 : ([0] ++ (szM name 2).1 : List UInt8).length = 1 + (szM name 2).1.length := by rw [List.length_append]; rfl
  have a1 : allM 2 ((szM ([0] ++ (szM name 2).1) 2).1, false) = ((([0] ++ (szM name 2).1 : List UInt8), false), ([], false)) := allM_put (s := [0] ++ (szM name 2).1) (by omega) false
  have n1 : numM 1 (([0] ++ (szM name 2).1 : List UInt8), false) = (0, ((szM name 2).1, false)) := numM_at (by decide +kernel) (by decide)
  have n2 : listM 2 ((szM name 2).1, false) = (name, ([], false)) := by
    have := listM_put (s := name) (k := 2) (by omega) [] false
    rw [List.append_nil] at this; exact this
  have st : nameStep ((([0] ++ (szM name 2).1 : List UInt8), false), false, []) = (([], false), true, name) := by
    unfold nameStep
    rw [n1, n2]; rfl
  have mo : more (([0] ++ (szM name 2).1 : List UInt8), false) = true := by unfold more; simp
  have g : nameI ((([0] ++ (szM name 2).1 : List UInt8), false), false, []) = (([], false), true, name) := by
    rw [← name_go (s := ((([0] ++ (szM name 2).1 : List UInt8), false), false, [])) mo, st]
    exact name_stop (s := (([], false), true, name)) rfl
  unfold nameM
  rw [a1, he, g]; rfl
theorem ext_name {name : List UInt8} (h : name.length ≤ 20000) (hn : name ≠ []) (t : List UInt8) (e : Ev) (he : e.2.2 = []) :
    extStep cliF (([0, 0] ++ ((szM (szM ([0] ++ (szM name 2).1) 2).1 2).1 ++ t), false), [], e, false) = ((t, false), [0], (e.1, e.2.1, name), false) := by
  have p16 : (256 : Nat) ^ 2 = 65536 := by decide
  have l1 := sz_len name 2
  have l0 : ([0] ++ (szM name 2).1 : List UInt8).length = 1 + (szM name 2).1.length := by rw [List.length_append]; rfl
  have l2 := sz_len ([0] ++ (szM name 2).1) 2
  have n1 : numM 2 ([0, 0] ++ ((szM (szM ([0] ++ (szM name 2).1) 2).1 2).1 ++ t), false) = (0, ((szM (szM ([0] ++ (szM name 2).1) 2).1 2).1 ++ t, false)) := numM_at (by decide +kernel) (by decide)
  have n2 : listM 2 ((szM (szM ([0] ++ (szM name 2).1) 2).1 2).1 ++ t, false) = ((szM ([0] ++ (szM name 2).1) 2).1, (t, false)) := by
    have := listM_put (s := (szM ([0] ++ (szM name 2).1) 2).1) (k := 2) (by omega) t false
    rw [← List.append_assoc] at this; exact this
  have nr := name_read h hn e he
  unfold extStep extD
  rw [n1, n2]
  have c : cliF 0 ((szM ([0] ++ (szM name 2).1) 2).1, false) e = (true, (e.1, e.2.1, name), ([], false)) := by unfold cliF; rw [if_pos rfl]; exact nr
  simp only [c]
  rfl
theorem vers_read (e : Ev) : versM ([2, 3, 4], false) e = (true, (e.1, 772, e.2.2), ([], false)) := by
  have a1 : allM 1 ([2, 3, 4], false) = (([3, 4], false), ([], false)) := by decide +kernel
  have v1 : versI (([3, 4], false), 0) = (([], false), 772) := by decide +kernel
  unfold versM
  rw [a1, v1]; rfl
theorem ext_ver (seen : List Int) (hs : seen.contains 43 = false) (e : Ev) : extI cliF (([0, 43, 0, 3, 2, 3, 4], false), seen, e, false) = (([], false), seen ++ [43], (e.1, 772, e.2.2), false) := by
  have n1 : numM 2 (([0, 43, 0, 3, 2, 3, 4] : List UInt8), false) = (43, ([0, 3, 2, 3, 4], false)) := by decide +kernel
  have n2 : listM 2 (([0, 3, 2, 3, 4] : List UInt8), false) = ([2, 3, 4], ([], false)) := by decide +kernel
  have c : cliF 43 ([2, 3, 4], false) e = (true, (e.1, 772, e.2.2), ([], false)) := by unfold cliF; rw [if_neg (by decide), if_pos rfl]; exact vers_read e
  have st : extStep cliF (([0, 43, 0, 3, 2, 3, 4], false), seen, e, false) = (([], false), seen ++ [43], (e.1, 772, e.2.2), false) := by
    unfold extStep extD
    rw [n1, n2]
    simp only [c]
    rw [if_pos (by show (!false && !seen.contains ((43 : Nat) : Int)) = true; rw [show ((43 : Nat) : Int) = 43 from rfl, hs]; rfl)]
    rfl
  rw [← ext_go (F := cliF) (s := (([0, 43, 0, 3, 2, 3, 4], false), seen, e, false)) (show more (([0, 43, 0, 3, 2, 3, 4] : List UInt8), false) = true from by decide +kernel), st]
  exact ext_stop rfl
/-- The hello that a client sends is read. -/
theorem cli_read {v : Nat} (hv : 768 ≤ v ∧ v ≤ 772) {name : List UInt8} (h : name.length ≤ 20000) : cliM (clRf v name, false) = (([], false), (1, (v : Int), name)) := by
  have p16 : (256 : Nat) ^ 2 = 65536 := by decide
  rw [cli_hello hv.2]
  have hx := clx_len name
  by_cases hc : cly v name = []
  · have hX : clX v name = [] := by unfold clX; rw [if_neg (fun k => k hc)]
    have hv2 : v ≠ 772 := fun k => by unfold cly at hc; rw [if_pos k] at hc; simp at hc
    have hn : name = [] := by
      unfold cly at hc; rw [if_neg hv2] at hc; unfold clx at hc
      by_cases q : name ≠ []
      · rw [if_pos q] at hc; simp at hc
      · exact Classical.not_not.1 q
    rw [hX, hn]
    unfold extM
    rw [if_pos rfl, show min v 771 = v from by omega]
  · have hX : clX v name = putM (cly v name).length 2 ++ cly v name := by unfold clX; rw [if_pos hc]; rfl
    have ly : (cly v name).length ≤ name.length + 16 := by
      unfold cly; split
      · rw [List.length_append]; show _ + 7 ≤ _; omega
      · omega
    have hne : clX v name ≠ [] := fun k => by
      rw [hX] at k
      exact hc (List.append_eq_nil_iff.1 k).2
    have ae : allM 2 (clX v name, false) = ((cly v name, false), ([], false)) := by rw [hX]; exact allM_put (by omega) false
    have key : ∃ seen, extI cliF ((cly v name, false), [], (1, ((min v 771 : Nat) : Int), []), false) = (([], false), seen, (1, (v : Int), name), false) := by
      by_cases hn : name = []
      · have hv2 : v = 772 := Classical.byContradiction (fun k => hc (by unfold cly; rw [if_neg k]; unfold clx; rw [if_neg (fun q => q hn)]))
        have e1 : cly v name = [0, 43, 0, 3, 2, 3, 4] := by unfold cly clx; rw [if_pos hv2, if_neg (fun q => q hn)]; rfl
        rw [e1, ext_ver [] rfl, hv2, hn]
        exact ⟨_, rfl⟩
      · by_cases hv2 : v = 772
        · have e1 : cly v name = [0, 0] ++ ((szM (szM ([0] ++ (szM name 2).1) 2).1 2).1 ++ [0, 43, 0, 3, 2, 3, 4]) := by unfold cly clx; rw [if_pos hv2, if_pos hn, List.append_assoc]
          have mo : more (cly v name, false) = true := by unfold more; simp [hc]
          rw [← ext_go (F := cliF) (s := ((cly v name, false), [], (1, ((min v 771 : Nat) : Int), []), false)) mo, e1, ext_name h hn _ _ rfl, ext_ver [0] (by decide), hv2]
          exact ⟨_, rfl⟩
        · have e1 : cly v name = [0, 0] ++ ((szM (szM ([0] ++ (szM name 2).1) 2).1 2).1 ++ []) := by unfold cly clx; rw [if_neg hv2, if_pos hn, List.append_nil]
          have mo : more (cly v name, false) = true := by unfold more; simp [hc]
          rw [← ext_go (F := cliF) (s := ((cly v name, false), [], (1, ((min v 771 : Nat) : Int), []), false)) mo, e1, ext_name h hn _ _ rfl, show min v 771 = v from by omega]
          exact ⟨_, ext_stop rfl⟩
    obtain ⟨seen, key⟩ := key
    unfold extM extE
    rw [if_neg hne, ae, key]
    rfl
end Go.Tl

/- Plain words of chapter 32: what is built is read, whole. -/
namespace Go.Tl
open Go Go.Fw Go.Ov
theorem rec_msg {kd : Nat} (hk : kd < 256) {body : List UInt8} (hb : body.length ≤ 8188) {e : EvD} (hbm : bodyM kd body = some (false, e)) (t : List UInt8) (out : List EvD) :
    recA (msgRf kd body ++ t) [] false out = recA t [] false (out ++ [e]) := by
  have hb3 : body.length < 256 ^ 3 := Nat.lt_of_le_of_lt hb (by decide)
  have em : msgRf kd body = cutM 22 16384 ([UInt8.ofNat kd] ++ (putM body.length 3 ++ (body ++ []))) := by
    unfold msgRf
    rw [sz_ok (by decide) hb3, if_pos rfl, List.append_nil]
  have hm : msgA ([] ++ ([UInt8.ofNat kd] ++ (putM body.length 3 ++ (body ++ [])))) [] = ([], [e], false) := by
    rw [List.nil_append, msg_one hk hb hbm]
    exact msg_end (by decide)
  rw [em, rec_cut_t (by decide) (by decide) t _ _ (Nat.le_refl _) [] out (msg_end (by decide)) (by rw [hm]), hm]
theorem clRf_short (v : Nat) (name : List UInt8) : (clRf v name).length ≤ name.length + 100 := by
  have := putM_len (min v 771) 2
  have h0 := clx_len name
  have h1 : (cly v name).length ≤ name.length + 16 := by
    unfold cly; split
    · rw [List.length_append]; show _ + 7 ≤ _; omega
    · omega
  have h2 := sz_len (cly v name) 2
  unfold clRf
  split <;> simp only [List.length_append, List.length_replicate, List.length_cons, List.length_nil] <;> omega
theorem srvRf_short (v : Nat) : (srvRf v).length ≤ 100 := by
  have := putM_len (min v 771) 2
  unfold srvRf
  split <;> simp only [List.length_append, List.length_replicate, List.length_cons, List.length_nil] <;> omega
theorem encL_len : ∀ (l : List (List UInt8)), (∀ s ∈ l, s.length ≤ 500) → (encL l).length ≤ l.length * 503
  | [], _ => Nat.le_refl _
  | s :: l, h => by
    have ih := encL_len l (fun x hx => h x (List.mem_cons_of_mem _ hx))
    have hs := h s (List.mem_cons_self ..)
    have e : encL (s :: l) = putM s.length 3 ++ (s ++ encL l) := by unfold encL; simp
    have := putM_len s.length 3
    rw [e, List.length_append, List.length_append, List.length_cons]; omega
theorem chain_body {l : List (List UInt8)} (h6 : l.length ≤ 6) (h : ∀ s ∈ l, s.length ≤ 500) :
    (putM (encL l).length 3 ++ encL l).length ≤ 8188 ∧ bodyM 11 (putM (encL l).length 3 ++ encL l) = some (false, (3, 0, [], l, ())) := by
  have hl := encL_len l h
  have hm : l.length * 503 ≤ 6 * 503 := Nat.mul_le_mul_right _ h6
  have p24 : (256 : Nat) ^ 3 = 16777216 := by decide
  have hp := putM_len (encL l).length 3
  have hr := chnM_read h6 (fun s hs => by have := h s hs; omega) (by omega : (encL l).length < 256 ^ 3)
  refine ⟨by rw [List.length_append]; omega, ?_⟩
  rw [body11 (by decide) (by decide) rfl, hr]
theorem feed_reads {v : Nat} (hv : 768 ≤ v ∧ v ≤ 772) {name : List UInt8} (hn : name.length ≤ 2000) {l : List (List UInt8)} (h6 : l.length ≤ 6) (h : ∀ s ∈ l, s.length ≤ 500) :
    (feedM ([], [], false, false) (clientB (v : Int) name ++ serverB (v : Int) ++ chainB l)).2 = [(1, (v : Int), name, [], ()), (2, (v : Int), [], [], ()), (3, 0, [], l, ())] := by
  have hc : clampV (v : Int) = v := by unfold clampV; omega
  have b1 : bodyM 1 (clRf v name) = some (false, (1, (v : Int), name, [], ())) := by rw [body1 rfl, cli_read hv (by omega)]; rfl
  have b2 : bodyM 2 (srvRf v) = some (false, (2, (v : Int), [], [], ())) := by rw [body2 (by decide) rfl, srv_read hv]; rfl
  obtain ⟨q1, q2⟩ := chain_body h6 h
  have ec : chainB l = msgRf 11 (putM (encL l).length 3 ++ encL l) := by
    rw [chain_same (fun i hi => Nat.le_trans (h _ (getD_mem hi)) (by decide)), List.take_of_length_le h6, chR_enc]; rfl
  have l1 := clRf_short v name
  have l2 := srvRf_short v
  have e : feedM ([], [], false, false) (clientB (v : Int) name ++ serverB (v : Int) ++ chainB l) = recA ([] ++ (clientB (v : Int) name ++ serverB (v : Int) ++ chainB l)) [] false [] := if_neg (by decide)
  rw [e, List.nil_append, client_same _ (by omega), server_same, hc, ec, List.append_assoc, rec_msg (by decide) (by omega) b1, rec_msg (by decide) (by omega) b2]
  have k := rec_msg (kd := 11) (by decide) q1 q2 [] ([] ++ [(1, (v : Int), name, [], ())] ++ [(2, (v : Int), [], [], ())])
  rw [List.append_nil] at k
  rw [k, rec_end (by decide)]
  rfl
/-- A chain's message, twice, with another between, in any records. -/
theorem feed_twice {size : Nat} (hs : 0 < size) (hs2 : size ≤ 16384) {l : List (List UInt8)} (h6 : l.length ≤ 6) (h : ∀ s ∈ l, s.length ≤ 500) (m : List UInt8)
    (hm : m = [11] ++ putM ((encL l).length + 3) 3 ++ putM (encL l).length 3 ++ encL l) :
    (feedM ([], [], false, false) (cutM 22 size (m ++ [14, 0, 0, 0] ++ m))).2 = [(3, 0, [], l, ()), (3, 0, [], l, ())] := by
  obtain ⟨q1, q2⟩ := chain_body h6 h
  have hl := encL_len l h
  have h6m : l.length * 503 ≤ 6 * 503 := Nat.mul_le_mul_right _ h6
  have p24 : (256 : Nat) ^ 3 = 16777216 := by decide
  have eb : (putM (encL l).length 3 ++ encL l).length = (encL l).length + 3 := by rw [List.length_append, putM_full (by omega)]; omega
  have em : ∀ t, m ++ t = [UInt8.ofNat 11] ++ (putM (putM (encL l).length 3 ++ encL l).length 3 ++ ((putM (encL l).length 3 ++ encL l) ++ t)) := fun t => by
    rw [eb, hm]; simp only [List.append_assoc]; rfl
  rw [feed_cut hs hs2, List.append_assoc, em, msg_one (by decide) q1 q2]
  have e14 : ([14, 0, 0, 0] ++ m : List UInt8) = [UInt8.ofNat 14] ++ (putM ([] : List UInt8).length 3 ++ ([] ++ m)) := by
    rw [show putM ([] : List UInt8).length 3 = [0, 0, 0] from by decide +kernel]; rfl
  obtain ⟨h1, h2, h3, h4, h5, h7⟩ := msg_head (kd := 14) (by decide) (body := []) (t := m) (by decide) _ e14
  rw [msg_none h1 (by rw [h2]; decide) h3 (by rw [h7]; exact body0 (by decide) (by decide) (by decide)), h5]
  have k := em []
  rw [List.append_nil] at k
  rw [k, msg_one (by decide) q1 q2, msg_end (by decide)]
  rfl
end Go.Tl

