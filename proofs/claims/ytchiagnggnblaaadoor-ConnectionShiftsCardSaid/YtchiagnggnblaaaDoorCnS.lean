import Derived.Test.YtchiagnggnblaaaDoorCnR
set_option linter.all false
/- Chapter 21, plain: the events of a segment. -/
namespace Go.Proofs.YtchiagnggnblaaaDoor.Ac
open Go Go.Fw Go.Ov Go.Proofs.YtchiagnggnblaaaDoor.Fx
theorem num_kind {c d pos n : Int} {x : Evt} (h : x ∈ numM c d pos n) : x = (c, d, pos, n, [], ()) ∧ n ≠ 0 := by
  unfold numM at h
  split at h
  · rename_i hn; exact ⟨by simpa using h, hn⟩
  · cases h
theorem rep_kind {d : Int} {s : SS} {b : Bool} {t : List UInt8} {x : Evt} (h : x ∈ repM d s t b) : (x = (2, d, s.pos - t.length, 0, t, ()) ∧ t ≠ []) ∨ (x = (4, d, s.pos, 0, [], ()) ∧ (!b && endedS s) = true) := by
  unfold repM rp1 rp2 at h
  rw [List.mem_append] at h
  rcases h with h | h
  · split at h
    · cases h
    · rename_i hn; exact .inl ⟨by simpa using h, hn⟩
  · split at h
    · rename_i hn; exact .inr ⟨by simpa using h, hn⟩
    · cases h
theorem tkE_kind {d e : Int} {s t : SS} {q k f : Int} {z : List UInt8} {x : Evt} (h : x ∈ tkE d e s t q k f z) : x.1 = 6 ∨ x.1 = 2 ∨ x.1 = 4 ∨ x.1 = 3 := by
  unfold tkE tkE3 tkE2 tkE1 at h
  simp only [List.mem_append] at h
  rcases h with ((h | h) | h) | h
  · rw [(num_kind h).1]; exact .inl rfl
  · rcases rep_kind h with ⟨h, _⟩ | ⟨h, _⟩ <;> rw [h]
    · exact .inr (.inl rfl)
    · exact .inr (.inr (.inl rfl))
  · rw [(num_kind h).1]; exact .inr (.inr (.inr rfl))
  · rcases rep_kind h with ⟨h, _⟩ | ⟨h, _⟩ <;> rw [h]
    · exact .inr (.inl rfl)
    · exact .inr (.inr (.inl rfl))
theorem segA_rng (s k f : Int) (o : List optT.D) (n : Int) (op : Bool) (nx sn w : Int) (st : Bool) (stamp : Int) (stamps : Bool) : 0 ≤ segA s k f o n op nx sn w st stamp stamps ∧ segA s k f o n op nx sn w st stamp stamps ≤ 7 := by
  unfold segA
  (repeat' split) <;> omega
theorem rsn_rng (p g : Hf) (s : SS) (q k f : Int) (o : List optT.D) (x : List UInt8) : 0 ≤ rsnM p g s q k f o x ∧ rsnM p g s q k f o x ≤ 7 := segA_rng ..
theorem esR_rng (p g : Hf) (q k f : Int) (o : List optT.D) (x : List UInt8) : 0 ≤ esR p g q k f o x ∧ esR p g q k f o x ≤ 7 := by
  unfold esR
  split
  · omega
  · exact rsn_rng ..
/-- A rejection stands alone, and changes nothing. -/
theorem rej_ok {c : Cnn} {d q k f : Int} {o : List optT.D} {z : List UInt8} {x : Evt} (hx : x ∈ (segC d c q k f o z).1) (h7 : x.1 = 7) :
    (segC d c q k f o z).2 = c ∧ x.2.1 = d ∧ (segC d c q k f o z).1 = [x] ∧ 1 ≤ x.2.2.2.1 ∧ x.2.2.2.1 ≤ 9 := by
  obtain ⟨st, p, g, ss⟩ := c
  have key : ∀ (d e : Int) (p g : Hf) (s t : SS), x ∈ (sgH d e st p g s t q k f o z).1 → (sgH d e st p g s t q k f o z).2 = (st, p, s, t) ∧ x.2.1 = d ∧ (sgH d e st p g s t q k f o z).1 = [x] ∧ 1 ≤ x.2.2.2.1 ∧ x.2.2.2.1 ≤ 9 := by
    intro d e p g s t hx
    unfold sgH at hx ⊢
    split
    · rename_i hf
      rw [if_pos hf] at hx
      simp only [List.mem_singleton] at hx
      subst hx
      exact ⟨rfl, rfl, rfl, by dsimp only; decide, by dsimp only; decide⟩
    · rename_i hf
      rw [if_neg hf] at hx
      unfold prM at hx ⊢
      split
      · rename_i hr
        rw [if_pos hr] at hx
        simp only [List.mem_singleton] at hx
        subst hx
        have := rsn_rng p g s q k f o z
        exact ⟨rfl, rfl, rfl, by show 1 ≤ rsnM p g s q k f o z; omega, by show rsnM p g s q k f o z ≤ 9; omega⟩
      · rename_i hr
        rw [if_neg hr] at hx
        split
        · rename_i h4
          rw [if_pos h4] at hx
          simp only [List.mem_singleton] at hx
          subst hx
          exact absurd h7 (by dsimp only; decide)
        · rename_i h4
          rw [if_neg h4] at hx
          have := tkE_kind hx
          omega
  unfold segC at hx ⊢
  split
  · rename_i h1
    rw [if_pos h1] at hx
    subst h1
    unfold seg1 at hx ⊢
    cases ss with
    | none =>
      dsimp only at hx ⊢
      split
      · rename_i ho
        rw [if_pos ho] at hx
        rcases List.mem_cons.1 hx with h | h
        · subst h; exact absurd h7 (by dsimp only; decide)
        · have := tkE_kind h
          omega
      · rename_i ho
        rw [if_neg ho] at hx
        unfold sgN1 at hx ⊢
        split
        · rename_i hf
          rw [if_pos hf] at hx
          simp only [List.mem_singleton] at hx
          subst hx
          exact ⟨rfl, rfl, rfl, by dsimp only; decide, by dsimp only; decide⟩
        · rename_i hf
          rw [if_neg hf] at hx
          split
          · rename_i hc
            rw [if_pos hc] at hx
            cases hx
          · rename_i hc
            rw [if_neg hc] at hx
            split
            · rename_i h3
              rw [if_pos h3] at hx
              simp only [List.mem_singleton] at hx
              subst hx
              have := esR_rng p g q k f o z
              have hne : esR p g q k f o z ≠ 0 := fun e0 => ho (by
                unfold opensB
                rw [h3, decide_eq_true e0, show flags f = true by simpa using hf]
                rfl)
              exact ⟨rfl, rfl, rfl, by show 1 ≤ esR p g q k f o z; omega, by show esR p g q k f o z ≤ 9; omega⟩
            · rename_i h3
              rw [if_neg h3] at hx
              simp only [List.mem_singleton] at hx
              subst hx
              exact ⟨rfl, rfl, rfl, by dsimp only; decide, by dsimp only; decide⟩
    | some y =>
      obtain ⟨s, t⟩ := y
      dsimp only at hx ⊢
      split
      · rename_i ho
        rw [if_pos ho] at hx
        obtain ⟨e1, e2, e3, e4⟩ := key 1 2 p g s t hx
        rw [e1]
        exact ⟨rfl, e2, e3, e4⟩
      · rename_i ho
        rw [if_neg ho] at hx
        split
        · rename_i hc
          rw [if_pos hc] at hx
          cases hx
        · rename_i hc
          rw [if_neg hc] at hx
          simp only [List.mem_singleton] at hx
          subst hx
          exact ⟨rfl, rfl, rfl, by show 1 ≤ (if flags f = true then (7 : Int) else 3); split <;> omega, by show (if flags f = true then (7 : Int) else 3) ≤ 9; split <;> omega⟩
  · rename_i h1
    rw [if_neg h1] at hx
    split
    · rename_i h2
      rw [if_pos h2] at hx
      subst h2
      unfold seg2 at hx ⊢
      cases ss with
      | none =>
        dsimp only at hx ⊢
        unfold sgN2 at hx ⊢
        split
        · rename_i hf
          rw [if_pos hf] at hx
          simp only [List.mem_singleton] at hx
          subst hx
          exact ⟨rfl, rfl, rfl, by dsimp only; decide, by dsimp only; decide⟩
        · rename_i hf
          rw [if_neg hf] at hx
          split
          · rename_i hc
            rw [if_pos hc] at hx
            split
            · rename_i h3
              rw [if_pos h3] at hx
              simp only [List.mem_singleton] at hx
              subst hx
              exact ⟨rfl, rfl, rfl, by dsimp only; decide, by dsimp only; decide⟩
            · rename_i h3
              rw [if_neg h3] at hx
              cases hx
          · rename_i hc
            rw [if_neg hc] at hx
            simp only [List.mem_singleton] at hx
            subst hx
            exact ⟨rfl, rfl, rfl, by dsimp only; decide, by dsimp only; decide⟩
      | some y =>
        obtain ⟨s, t⟩ := y
        dsimp only at hx ⊢
        split
        · rename_i ho
          rw [if_pos ho] at hx
          obtain ⟨e1, e2, e3, e4⟩ := key 2 1 g p t s hx
          rw [e1]
          exact ⟨rfl, e2, e3, e4⟩
        · rename_i ho
          rw [if_neg ho] at hx
          simp only [List.mem_singleton] at hx
          subst hx
          exact ⟨rfl, rfl, rfl, by show 1 ≤ (if flags f = true then (7 : Int) else 3); split <;> omega, by show (if flags f = true then (7 : Int) else 3) ≤ 9; split <;> omega⟩
    · rename_i h2
      rw [if_neg h2] at hx
      cases hx
end Go.Proofs.YtchiagnggnblaaaDoor.Ac
