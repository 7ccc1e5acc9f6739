import Derived.Test.YtchiagnggnblaaaDoorCnM
set_option linter.all false
/- Chapter 21: a connection as one object, whether it has streams or not. -/
namespace Go.Proofs.YtchiagnggnblaaaDoor.Ac
open Go Go.Fw Go.Ov Go.Proofs.YtchiagnggnblaaaDoor.Fx
structure Cnn where
  st : Int
  p : Hf
  g : Hf
  ss : Option (SS × SS)
abbrev Cnn.cells (c : Cnn) (j k : Nat) : List AV := match c.ss with
  | none => cnC c.st c.p c.g .nilp .nilp
  | some _ => cnC c.st c.p c.g (.loc j 0) (.loc k 0)
theorem cells_ids (c : Cnn) (j k id : Nat) (h : AV.hasAny id (c.cells j k) = true) : ([j, k] : List Nat).contains id = true := by
  unfold Cnn.cells at h
  split at h
  · exact absurd h (by simp [AV.hasAny, AV.has])
  · simp only [AV.hasAny, AV.has, Bool.or_false, Bool.false_or, Bool.or_eq_true, beq_iff_eq] at h
    simp only [List.contains_eq_mem, List.mem_cons, List.not_mem_nil, or_false, decide_eq_true_eq]
    rcases h with h | h
    · exact .inl h.symm
    · exact .inr h.symm
/-- The connection's own box. -/
def conX (c : Cnn) (j k : Nat) : XCh where
  ids := [j, k]
  fixed := true
  nil := False
  rel φ R w _ o _ := ∃ vs e fr, o = .cells vs e fr ∧ RepVs φ R w (c.cells j k) vs.toList ∧ NoFr fr vs.size
  mono hR hw hφ h := by
    obtain ⟨vs, e, fr, h2, h3, h4⟩ := h
    exact ⟨vs, e, fr, h2, RepVs.mono hR hw (fun id hi => hφ id (cells_ids c j k id hi)) h3, h4⟩
theorem bxS_has (s : SS) (id : Nat) : AV.hasAny id (bxS s) = false := rfl
/-- A stream's box, if there is one. -/
def strX (x : Option SS) : XCh where
  ids := []
  fixed := false
  nil := x = none
  rel φ R w _ o _ := ∃ s vs e fr, x = some s ∧ o = .cells vs e fr ∧ RepVs φ R w (bxS s) vs.toList ∧ NoFr fr vs.size
  mono hR hw hφ h := by
    obtain ⟨s, vs, e, fr, h1, h2, h3, h4⟩ := h
    exact ⟨s, vs, e, fr, h1, h2, RepVs.mono hR hw (fun id hi => by rw [bxS_has] at hi; cases hi) h3, h4⟩
theorem Conv.conB (c : Cnn) (j k : Nat) : Conv (.ext (conX c j k)) (.box (c.cells j k)) := fun φ R w id h => by
  rcases h with ⟨_, h⟩ | ⟨b, cap, o, h1, h2, ⟨vs, e, fr, rfl, h4, h5⟩, h6⟩
  · exact h.elim
  · exact ⟨b, cap, vs, e, fr, h1, h2, h4, h6, h5⟩
theorem Conv.conX (c : Cnn) (j k : Nat) : Conv (.box (c.cells j k)) (.ext (conX c j k)) := fun φ R w id h => by
  obtain ⟨b, cap, vs, e, fr, h1, h2, h3, h4, h5⟩ := h
  exact .inr ⟨b, cap, _, h1, h2, ⟨vs, e, fr, rfl, h3, h5⟩, h4⟩
theorem Conv.strB (s : SS) : Conv (.ext (strX (some s))) (.box (bxS s)) := fun φ R w id h => by
  rcases h with ⟨_, h⟩ | ⟨b, cap, o, h1, h2, ⟨s', vs, e, fr, h3, rfl, h4, h5⟩, h6⟩
  · cases h
  · simp only [Option.some.injEq] at h3
    subst h3
    exact ⟨b, cap, vs, e, fr, h1, h2, h4, h6, h5⟩
theorem Conv.strX (s : SS) : Conv (.box (bxS s)) (.ext (strX (some s))) := fun φ R w id h => by
  obtain ⟨b, cap, vs, e, fr, h1, h2, h3, h4, h5⟩ := h
  exact .inr ⟨b, cap, _, h1, h2, ⟨s, vs, e, fr, rfl, rfl, h3, h5⟩, h4⟩
abbrev Cnn.s1 (c : Cnn) : Option SS := c.ss.map (·.1)
abbrev Cnn.s2 (c : Cnn) : Option SS := c.ss.map (·.2)
/-- The chunks of a connection. -/
abbrev cnU (c : Cnn) (i j k : Nat) : List (Nat × Chunk) := [(i, .ext (conX c j k)), (j, .ext (strX c.s1)), (k, .ext (strX c.s2))]
theorem lk3 {a b c d : Chunk} {j : Nat} (h : lookup j [(0, a), (1, b), (2, c)] = some d) : (j = 0 ∧ d = a) ∨ (j = 1 ∧ d = b) ∨ (j = 2 ∧ d = c) := by
  rw [lookup_cons] at h
  split at h
  · rename_i e; exact .inl ⟨e.symm, (Option.some.inj h).symm⟩
  · rw [lookup_cons] at h
    split at h
    · rename_i e; exact .inr (.inl ⟨e.symm, (Option.some.inj h).symm⟩)
    · rw [lookup_cons] at h
      split at h
      · rename_i e; exact .inr (.inr ⟨e.symm, (Option.some.inj h).symm⟩)
      · cases h
theorem lk1 {a d : Chunk} {j : Nat} (h : lookup j [(0, a)] = some d) : j = 0 ∧ d = a := by
  rw [lookup_cons] at h
  split at h
  · rename_i e; exact ⟨e.symm, (Option.some.inj h).symm⟩
  · cases h
theorem ret_any {ret : AV} (hr : ∀ j, ret.has j = false) (φ φ' : Fw.Place) (R : Prot) (w : World) (v : Value) (h : RepV φ R w ret v) : RepV φ' R w ret v :=
  RepV.mono (fun _ _ h => h) (fun _ _ _ => rfl) (fun j hj => by rw [hr j] at hj; cases hj) h
def only0 (k : Nat) : Option Nat := if k = 0 then some 0 else none
theorem only0_inj (i j a : Nat) (h1 : only0 i = some a) (h2 : only0 j = some a) : i = j := by
  unfold only0 at h1 h2
  split at h1 <;> split at h2 <;> simp_all
theorem pre_n (st : Int) (p g : Hf) : ∀ j c, lookup j (cnN st p g) = some c → ∃ c', lookup j (cnU ⟨st, p, g, none⟩ 0 1 2) = some c' ∧ Conv c' c := fun j c hj => by
  obtain ⟨rfl, rfl⟩ := lk1 hj
  exact ⟨_, rfl, Conv.conB ⟨st, p, g, none⟩ 1 2⟩
theorem pre_h (st : Int) (p g : Hf) (s t : SS) : ∀ j c, lookup j (cnH st p g s t) = some c → ∃ c', lookup j (cnU ⟨st, p, g, some (s, t)⟩ 0 1 2) = some c' ∧ Conv c' c := fun j c hj => by
  rcases lk3 hj with ⟨rfl, rfl⟩ | ⟨rfl, rfl⟩ | ⟨rfl, rfl⟩
  · exact ⟨_, rfl, Conv.conB ⟨st, p, g, some (s, t)⟩ 1 2⟩
  · exact ⟨_, rfl, Conv.strB s⟩
  · exact ⟨_, rfl, Conv.strB t⟩
theorem fix_U {c c' : Cnn} {h : List (Nat × Chunk)} {ρ : Nat → Option Nat} (hρ : ρ 0 = some 0) (hh : ∃ cs, lookup 0 h = some (.box cs)) : ∀ j d, lookup j (cnU c 0 1 2) = some d → d.fixed = true → ρ j = some j ∧ (∃ d', lookup j h = some d' ∧ d'.fixed = true) ∧ ∃ d', lookup j (cnU c' 0 1 2) = some d' ∧ d'.fixed = true := fun j d hj hd => by
  rcases lk3 hj with ⟨rfl, rfl⟩ | ⟨rfl, rfl⟩ | ⟨rfl, rfl⟩
  · obtain ⟨cs, hcs⟩ := hh
    exact ⟨hρ, ⟨_, hcs, rfl⟩, ⟨_, rfl, rfl⟩⟩
  · cases hd
  · cases hd
theorem post_n {st : Int} {p g : Hf} {φ : Fw.Place} {R : Prot} {w : World} (h : ChunkRel φ R w 0 (.box (cnC st p g .nilp .nilp))) : ∀ j c, lookup j (cnU ⟨st, p, g, none⟩ 0 1 2) = some c → ChunkRel (fun k => (only0 k).bind φ) R w j c := fun j c hj => by
  rcases lk3 hj with ⟨rfl, rfl⟩ | ⟨rfl, rfl⟩ | ⟨rfl, rfl⟩
  · refine Conv.conX ⟨st, p, g, none⟩ 1 2 _ _ _ _ ?_
    exact ChunkRel.mono (c := .box (cnC st p g .nilp .nilp)) h rfl (fun k hk => absurd hk (by simp [Chunk.has, AV.hasAny, AV.has])) (fun _ _ h => h) (fun _ _ _ => rfl) (fun _ _ _ _ => ⟨rfl, fun _ h => h⟩)
  · exact .inl ⟨rfl, rfl⟩
  · exact .inl ⟨rfl, rfl⟩
theorem conv_nn {f : FuncId} {args : List AV} {ret : AV} {st st' : Int} {p g p' g' : Hf} (k : HSpec P G f args (cnN st p g) ret (cnN st' p' g')) (hr : ∀ j, ret.has j = false) :
    HSpec P G f args (cnU ⟨st, p, g, none⟩ 0 1 2) ret (cnU ⟨st', p', g', none⟩ 0 1 2) :=
  HSpec.conv k only0 (pre_n st p g) (fun φ R w hh => post_n (hh.rel 0 _ rfl)) (fun j a ha _ => by
    unfold only0 at ha
    split at ha
    · simp only [Option.some.injEq] at ha; subst ha; exact ⟨_, rfl⟩
    · cases ha) only0_inj (fun φ R w v h => ret_any hr _ _ _ _ _ h) (fix_U rfl ⟨_, rfl⟩)
theorem conv_hn {f : FuncId} {args : List AV} {ret : AV} {st st' : Int} {p g p' g' : Hf} {s t s' t' : SS} (k : HSpec P G f args (cnH st p g s t) ret [(0, .box (cnC st' p' g' .nilp .nilp)), (1, .box (bxS s')), (2, .box (bxS t'))]) (hr : ∀ j, ret.has j = false) :
    HSpec P G f args (cnU ⟨st, p, g, some (s, t)⟩ 0 1 2) ret (cnU ⟨st', p', g', none⟩ 0 1 2) :=
  HSpec.conv k only0 (pre_h st p g s t) (fun φ R w hh => post_n (hh.rel 0 _ rfl)) (fun j a ha _ => by
    unfold only0 at ha
    split at ha
    · simp only [Option.some.injEq] at ha; subst ha; exact ⟨_, rfl⟩
    · cases ha) only0_inj (fun φ R w v h => ret_any hr _ _ _ _ _ h) (fix_U rfl ⟨_, rfl⟩)
theorem conv_hh {f : FuncId} {args : List AV} {ret : AV} {st st' : Int} {p g p' g' : Hf} {s t s' t' : SS} (k : HSpec P G f args (cnH st p g s t) ret (cnH st' p' g' s' t')) :
    HSpec P G f args (cnU ⟨st, p, g, some (s, t)⟩ 0 1 2) ret (cnU ⟨st', p', g', some (s', t')⟩ 0 1 2) :=
  HSpec.conv k some (pre_h st p g s t) (fun φ R w hh j c hj => by
    rcases lk3 hj with ⟨rfl, rfl⟩ | ⟨rfl, rfl⟩ | ⟨rfl, rfl⟩
    · exact Conv.conX ⟨st', p', g', some (s', t')⟩ 1 2 _ _ _ _ (hh.rel 0 _ rfl)
    · exact Conv.strX s' _ _ _ _ (hh.rel 1 _ rfl)
    · exact Conv.strX t' _ _ _ _ (hh.rel 2 _ rfl)) (fun j a ha hc => by
    simp only [Option.some.injEq] at ha
    subst ha
    obtain ⟨c, hc⟩ := hc
    rcases lk3 hc with ⟨rfl, rfl⟩ | ⟨rfl, rfl⟩ | ⟨rfl, rfl⟩ <;> exact ⟨_, rfl⟩) (fun i j a h1 h2 => by rw [Option.some.inj h1, Option.some.inj h2]) (fun φ R w v h => h) (fix_U rfl ⟨_, rfl⟩)
def up300 (k : Nat) : Option Nat := if k = 0 then some 0 else if k = 1 then some 300 else if k = 2 then some 301 else none
theorem conv_nh {f : FuncId} {args : List AV} {ret : AV} {st st' : Int} {p g p' g' : Hf} {s' t' : SS} (k : HSpec P G f args (cnN st p g) ret [(0, .box (cnC st' p' g' (.loc 300 0) (.loc 301 0))), (300, .box (bxS s')), (301, .box (bxS t'))]) (hr : ∀ j, ret.has j = false) :
    HSpec P G f args (cnU ⟨st, p, g, none⟩ 0 1 2) ret (cnU ⟨st', p', g', some (s', t')⟩ 0 1 2) :=
  HSpec.conv k up300 (pre_n st p g) (fun φ R w hh j c hj => by
    rcases lk3 hj with ⟨rfl, rfl⟩ | ⟨rfl, rfl⟩ | ⟨rfl, rfl⟩
    · refine Conv.conX ⟨st', p', g', some (s', t')⟩ 1 2 _ _ _ _ ?_
      obtain ⟨b, cap, vs, e, fr, h1, h2, h3, h4, h5⟩ := hh.rel 0 _ rfl
      refine ⟨b, cap, vs, e, fr, h1, h2, ?_, h4, h5⟩
      have e2 : cnC st' p' g' (.loc 300 0) (.loc 301 0) = AV.renL (fun k => (up300 k).getD 0) (cnC st' p' g' (.loc 1 0) (.loc 2 0)) := rfl
      rw [e2, RepVs.ren] at h3
      refine RepVs.mono (fun _ _ h => h) (fun _ _ _ => rfl) (fun id hi => ?_) h3
      have := cells_ids ⟨st', p', g', some (s', t')⟩ 1 2 id hi
      simp only [List.contains_eq_mem, List.mem_cons, List.not_mem_nil, or_false, decide_eq_true_eq] at this
      rcases this with rfl | rfl <;> rfl
    · refine Conv.strX s' _ _ _ _ ?_
      obtain ⟨b, cap, vs, e, fr, h1, h2, h3, h4, h5⟩ := hh.rel 300 _ rfl
      exact ⟨b, cap, vs, e, fr, h1, h2, RepVs.mono (fun _ _ h => h) (fun _ _ _ => rfl) (fun id hi => by rw [bxS_has] at hi; cases hi) h3, h4, h5⟩
    · refine Conv.strX t' _ _ _ _ ?_
      obtain ⟨b, cap, vs, e, fr, h1, h2, h3, h4, h5⟩ := hh.rel 301 _ rfl
      exact ⟨b, cap, vs, e, fr, h1, h2, RepVs.mono (fun _ _ h => h) (fun _ _ _ => rfl) (fun id hi => by rw [bxS_has] at hi; cases hi) h3, h4, h5⟩) (fun j a ha hc => by
    obtain ⟨c, hc⟩ := hc
    rcases lk3 hc with ⟨rfl, rfl⟩ | ⟨rfl, rfl⟩ | ⟨rfl, rfl⟩ <;> · rw [← Option.some.inj ha]; exact ⟨_, rfl⟩) (fun i j a h1 h2 => by
    unfold up300 at h1 h2
    (repeat' split at h1) <;> (repeat' split at h2) <;> simp_all <;> omega) (fun φ R w v h => ret_any hr _ _ _ _ _ h) (fix_U rfl ⟨_, rfl⟩)
/-! ### under other numbers -/
theorem lk3' {a b c d : Chunk} {i j k n : Nat} (h : lookup n [(i, a), (j, b), (k, c)] = some d) : (n = i ∧ d = a) ∨ (n = j ∧ d = b) ∨ (n = k ∧ d = c) := by
  rw [lookup_cons] at h
  split at h
  · rename_i e; exact .inl ⟨e.symm, (Option.some.inj h).symm⟩
  · rw [lookup_cons] at h
    split at h
    · rename_i e; exact .inr (.inl ⟨e.symm, (Option.some.inj h).symm⟩)
    · rw [lookup_cons] at h
      split at h
      · rename_i e; exact .inr (.inr ⟨e.symm, (Option.some.inj h).symm⟩)
      · cases h
theorem cells_ren (c : Cnn) (i j k : Nat) : AV.renL (renOf [i, j, k]) (c.cells 1 2) = c.cells j k := by
  obtain ⟨st, p, g, ss⟩ := c
  cases ss <;> rfl
theorem con_ren (c : Cnn) (i j k : Nat) (φ : Fw.Place) (R : Prot) (w : World) (b : Nat) (o : Obj) (cap : Nat) : ((conX c 1 2).ren (renOf [i, j, k])).rel φ R w b o cap ↔ (conX c j k).rel φ R w b o cap := by
  constructor
  · rintro ⟨vs, e, fr, h1, h2, h3⟩
    refine ⟨vs, e, fr, h1, ?_, h3⟩
    rw [← cells_ren c i j k, RepVs.ren]
    exact h2
  · rintro ⟨vs, e, fr, h1, h2, h3⟩
    refine ⟨vs, e, fr, h1, ?_, h3⟩
    rw [← cells_ren c i j k, RepVs.ren] at h2
    exact h2
theorem str_ren (x : Option SS) (ρ : Nat → Nat) (φ : Fw.Place) (R : Prot) (w : World) (b : Nat) (o : Obj) (cap : Nat) : ((strX x).ren ρ).rel φ R w b o cap ↔ (strX x).rel φ R w b o cap := by
  constructor
  · rintro ⟨s, vs, e, fr, h0, h1, h2, h3⟩
    exact ⟨s, vs, e, fr, h0, h1, RepVs.mono (fun _ _ h => h) (fun _ _ _ => rfl) (fun id hi => by rw [bxS_has] at hi; cases hi) h2, h3⟩
  · rintro ⟨s, vs, e, fr, h0, h1, h2, h3⟩
    exact ⟨s, vs, e, fr, h0, h1, RepVs.mono (fun _ _ h => h) (fun _ _ _ => rfl) (fun id hi => by rw [bxS_has] at hi; cases hi) h2, h3⟩
theorem conv_ext {X Y : XCh} (hn : X.nil → Y.nil) (hr : ∀ φ R w b o cap, X.rel φ R w b o cap → Y.rel φ R w b o cap) : Conv (.ext X) (.ext Y) := fun φ R w id h => by
  rcases h with ⟨h1, h2⟩ | ⟨b, cap, o, h1, h2, h3, h4⟩
  · exact .inl ⟨h1, hn h2⟩
  · exact .inr ⟨b, cap, o, h1, h2, hr _ _ _ _ _ _ h3, h4⟩
theorem lkA (i j k : Nat) (a b c : Chunk) : lookup i [(i, a), (j, b), (k, c)] = some a := by rw [lookup_cons, if_pos rfl]
theorem lkB {i j : Nat} (h : i ≠ j) (k : Nat) (a b c : Chunk) : lookup j [(i, a), (j, b), (k, c)] = some b := by rw [lookup_cons, if_neg h, lookup_cons, if_pos rfl]
theorem lkC {i j k : Nat} (h : i ≠ k) (h2 : j ≠ k) (a b c : Chunk) : lookup k [(i, a), (j, b), (k, c)] = some c := by rw [lookup_cons, if_neg h, lookup_cons, if_neg h2, lookup_cons, if_pos rfl]
theorem at_U {f : FuncId} {rest : List AV} {ret : AV} {c c' : Cnn} (h : HSpec P G f (.loc 0 0 :: rest) (cnU c 0 1 2) ret (cnU c' 0 1 2)) (i j k : Nat) (hn : [i, j, k].Nodup)
    (hrest : AV.renL (renOf [i, j, k]) rest = rest) (hret : ret.ren (renOf [i, j, k]) = ret) : HSpec P G f (.loc i 0 :: rest) (cnU c i j k) ret (cnU c' i j k) := by
  have h2 := FSpec.ren h (renOf [i, j, k]) (renOf_inj hn)
  rw [show AV.renL (renOf [i, j, k]) (.loc 0 0 :: rest) = .loc i 0 :: AV.renL (renOf [i, j, k]) rest from rfl, hrest, hret] at h2
  have hd : i ≠ j ∧ i ≠ k ∧ j ≠ k := by simp at hn; omega
  have eR : ∀ c : Cnn, renH (renOf [i, j, k]) (cnU c 0 1 2) = [(i, .ext ((conX c 1 2).ren (renOf [i, j, k]))), (j, .ext ((strX c.s1).ren (renOf [i, j, k]))), (k, .ext ((strX c.s2).ren (renOf [i, j, k])))] := fun _ => rfl
  rw [eR, eR] at h2
  refine HSpec.conv h2 some (fun n d hd' => ?_) (fun φ R w hh n d hd' => ?_) (fun n a ha hc => ?_) (fun _ _ _ h1 h2 => by rw [Option.some.inj h1, Option.some.inj h2]) (fun _ _ _ _ h => h) (fun n d hd' hfx => ?_)
  · rcases lk3' hd' with ⟨e, e2⟩ | ⟨e, e2⟩ | ⟨e, e2⟩
    · rw [e, e2]
      exact ⟨.ext (conX c j k), lkA .., conv_ext (fun h => h) (fun φ R w b o cap h => (con_ren c i j k φ R w b o cap).2 h)⟩
    · rw [e, e2]
      exact ⟨.ext (strX c.s1), lkB hd.1 .., conv_ext (fun h => h) (fun φ R w b o cap h => (str_ren _ _ φ R w b o cap).2 h)⟩
    · rw [e, e2]
      exact ⟨.ext (strX c.s2), lkC hd.2.1 hd.2.2 .., conv_ext (fun h => h) (fun φ R w b o cap h => (str_ren _ _ φ R w b o cap).2 h)⟩
  · rcases lk3' hd' with ⟨e, e2⟩ | ⟨e, e2⟩ | ⟨e, e2⟩
    · rw [e, e2]
      exact conv_ext (X := (conX c' 1 2).ren (renOf [i, j, k])) (Y := conX c' j k) (fun h => h) (fun φ R w b o cap h => (con_ren c' i j k φ R w b o cap).1 h) _ _ _ _ (hh.rel i _ (lkA ..))
    · rw [e, e2]
      exact conv_ext (X := (strX c'.s1).ren (renOf [i, j, k])) (fun h => h) (fun φ R w b o cap h => (str_ren c'.s1 (renOf [i, j, k]) φ R w b o cap).1 h) _ _ _ _ (hh.rel j _ (lkB hd.1 ..))
    · rw [e, e2]
      exact conv_ext (X := (strX c'.s2).ren (renOf [i, j, k])) (fun h => h) (fun φ R w b o cap h => (str_ren c'.s2 (renOf [i, j, k]) φ R w b o cap).1 h) _ _ _ _ (hh.rel k _ (lkC hd.2.1 hd.2.2 ..))
  · simp only [Option.some.injEq] at ha
    subst ha
    obtain ⟨d, hd'⟩ := hc
    rcases lk3' hd' with ⟨e, e2⟩ | ⟨e, e2⟩ | ⟨e, e2⟩
    · rw [e]; exact ⟨_, lkA ..⟩
    · rw [e]; exact ⟨_, lkB hd.1 ..⟩
    · rw [e]; exact ⟨_, lkC hd.2.1 hd.2.2 ..⟩
  · rcases lk3' hd' with ⟨e, e2⟩ | ⟨e, e2⟩ | ⟨e, e2⟩
    · rw [e]
      exact ⟨rfl, ⟨_, lkA .., rfl⟩, ⟨_, lkA .., rfl⟩⟩
    · rw [e2] at hfx; cases hfx
    · rw [e2] at hfx; cases hfx
end Go.Proofs.YtchiagnggnblaaaDoor.Ac
