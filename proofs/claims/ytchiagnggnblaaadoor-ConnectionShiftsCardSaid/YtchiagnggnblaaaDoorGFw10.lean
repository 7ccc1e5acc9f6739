import Derived.Test.YtchiagnggnblaaaDoorGFw8
set_option linter.all false
/- The framework, part 32: own slices whose cells are own slices. -/
namespace Go.Fw
variable {P : Program}
theorem idsL_append : ∀ (xs ys : List AV), AV.idsL (xs ++ ys) = AV.idsL xs ++ AV.idsL ys
  | [], _ => rfl
  | a :: xs, ys => by simp only [List.cons_append, AV.idsL, idsL_append xs ys, List.append_assoc]
theorem idsL_mid {x : AV} {post : List AV} {pre : List AV} : AV.idsL (pre ++ x :: post) = AV.idsL pre ++ (AV.ids x ++ AV.idsL post) := by rw [idsL_append]; rfl
theorem idsL_set : ∀ (cs : List AV) (i : Nat) (y : AV) (j : Nat), j ∈ AV.idsL (cs.set i y) → j ∈ AV.ids y ∨ j ∈ AV.idsL cs
  | [], _, _, _, h => .inr h
  | c :: cs, 0, y, j, h => by
    simp only [List.set_cons_zero, AV.idsL, List.mem_append] at h ⊢
    exact h.elim .inl (fun h => .inr (.inr h))
  | c :: cs, i + 1, y, j, h => by
    simp only [List.set_cons_succ, AV.idsL, List.mem_append] at h ⊢
    rcases h with h | h
    · exact .inr (.inl h)
    · exact (idsL_set cs i y j h).elim .inl (fun h => .inr (.inr h))
theorem idsL_getD : ∀ (cs : List AV) (i j : Nat), j ∈ AV.ids (cs.getD i .any) → j ∈ AV.idsL cs
  | [], _, _, h => by simp [AV.ids] at h
  | c :: cs, 0, j, h => by simp only [AV.idsL, List.mem_append]; exact .inl (by simpa using h)
  | c :: cs, i + 1, j, h => by simp only [AV.idsL, List.mem_append]; exact .inr (idsL_getD cs i j (by simpa using h))
theorem RepVs.set {φ : Place} {R : Prot} {w : World} {y : AV} {u : Value} (hy : RepV φ R w y u) : ∀ {cs : List AV} {us : List Value} (i : Nat), RepVs φ R w cs us → RepVs φ R w (cs.set i y) (us.set i u)
  | [], us, i, h => by simp only [RepVs] at h; subst h; simp [RepVs]
  | c :: cs, us, i, h => by
    simp only [RepVs] at h
    obtain ⟨v, r, rfl, h1, h2⟩ := h
    cases i with
    | zero => exact ⟨u, r, rfl, hy, h2⟩
    | succ i => exact ⟨v, r.set i u, rfl, h1, RepVs.set hy i h2⟩
theorem RepVs.forget {φ : Place} {R : Prot} {w : World} : ∀ {cs : List AV} {us : List Value} (i : Nat), RepVs φ R w cs us → RepVs φ R w (cs.set i .any) us
  | [], us, i, h => by simpa using h
  | c :: cs, us, i, h => by
    simp only [RepVs] at h
    obtain ⟨v, r, rfl, h1, h2⟩ := h
    cases i with
    | zero => exact ⟨v, r, rfl, by simp [RepV], h2⟩
    | succ i => exact ⟨v, r, rfl, h1, RepVs.forget i h2⟩

/-- A slice's array whose elements are cells of any kind. -/
def boxS (cs : List AV) : XCh where
  ids := AV.idsL cs
  fixed := false
  nil := cs = []
  rel φ R w _ o cap := ∃ vs e fr us ws, o = .cells vs e fr ∧ vs.size = cap ∧ NoFr fr vs.size ∧ vs.toList = us ++ ws ∧ RepVs φ R w cs us
  mono hR hw hφ h := by
    obtain ⟨vs, e, fr, us, ws, h1, h2, h3, h4, h5⟩ := h
    exact ⟨vs, e, fr, us, ws, h1, h2, h3, h4, RepVs.mono hR hw (fun id hi => hφ id (by simpa using AV.hasAny_ids hi)) h5⟩

def St.setC (st : St) (id : Nat) (c : Chunk) : St := { n := st.n, fix := st.fix, next := st.next, env := st.env, heap := (id, c) :: st.heap, gl := st.gl }
/-- Less is known of one chunk. -/
theorem Le.chunk {st : St} (id : Nat) {X Y : XCh} (hid : st.lk id = some (.ext X)) (hnil : X.nil → Y.nil) (hrel : ∀ φ R w b o cap, X.rel φ R w b o cap → Y.rel φ R w b o cap) (hids : ∀ j ∈ Y.ids, j ∈ X.ids) :
    Le st (st.setC id (.ext Y)) := fun R φ a w hs => by
  have hlk : ∀ k, (st.setC id (.ext Y)).lk k = if id = k then some (.ext Y) else st.lk k := fun k => lookup_cons k id _ _
  have hinv : ∀ j c, (st.setC id (.ext Y)).lk j = some c → (j = id ∧ c = .ext Y) ∨ (j ≠ id ∧ st.lk j = some c) := fun j c hj => by
    rw [hlk] at hj
    split at hj
    · rename_i e; simp only [Option.some.injEq] at hj; exact .inl ⟨e.symm, hj.symm⟩
    · rename_i e; exact .inr ⟨fun h => e h.symm, hj⟩
  have hsome : ∀ j c, (st.setC id (.ext Y)).lk j = some c → ∃ c', st.lk j = some c' := fun j c hj => by
    rcases hinv j c hj with ⟨rfl, _⟩ | ⟨_, h⟩
    · exact ⟨_, hid⟩
    · exact ⟨c, h⟩
  have hex : ∀ j, (∃ c, st.lk j = some c) → ∃ c, (st.setC id (.ext Y)).lk j = some c := fun j ⟨c, hc⟩ => by
    rw [hlk]; split
    · exact ⟨_, rfl⟩
    · exact ⟨c, hc⟩
  refine ⟨R, φ, ⟨⟨fun t => hs.s.env t, fun t j hj => hex j (hs.s.named t j hj), fun j c k hj hk => ?_, fun j c hj => ?_, hs.s.sz, ⟨fun j c hj => ?_, fun j k c d b cap cap' hj hk hp hp' => ?_⟩, hs.s.rlt, hs.s.defers, hs.s.gl⟩, hs.fx⟩,
    ⟨⟨rfl, rfl, rfl, Nat.le_refl _, fun _ _ _ => rfl, fun _ _ h => h, fun _ _ _ => rfl, fun _ _ h => .inl h, fun b ⟨j, c, cap, hj, hp⟩ => ?_⟩, fun _ _ => rfl, rfl, rfl⟩⟩
  · rcases hinv j c hj with ⟨rfl, rfl⟩ | ⟨_, h⟩
    · exact hex k (hs.s.hnamed j _ k hid (by simp only [Chunk.has, List.contains_eq_mem, decide_eq_true_eq] at hk ⊢; exact hids k hk))
    · exact hex k (hs.s.hnamed j c k h hk)
  · obtain ⟨c', hc'⟩ := hsome j c hj
    exact hs.s.hnext j c' hc'
  · rcases hinv j c hj with ⟨rfl, rfl⟩ | ⟨_, h⟩
    · rcases hs.s.heap.rel j _ hid with ⟨h1, h2⟩ | ⟨b, cap, o, h1, h2, h3, h4⟩
      · exact .inl ⟨h1, hnil h2⟩
      · exact .inr ⟨b, cap, o, h1, h2, hrel _ _ _ _ _ _ h3, h4⟩
    · exact hs.s.heap.rel j c h
  · obtain ⟨c', hc'⟩ := hsome j c hj
    obtain ⟨d', hd'⟩ := hsome k d hk
    exact hs.s.heap.inj j k c' d' b cap cap' hc' hd' hp hp'
  · obtain ⟨c', hc'⟩ := hsome j c hj
    exact .inr ⟨j, c', cap, hc', hp⟩
/-- One element is forgotten. -/
theorem Le.forgetS {st : St} (id i : Nat) {cs : List AV} (hid : st.lk id = some (.ext (boxS cs))) : Le st (st.setC id (.ext (boxS (cs.set i .any)))) :=
  Le.chunk id hid (fun h => by have h : cs = [] := h; subst h; rfl) (fun φ R w b o cap ⟨vs, e, fr, us, ws, h1, h2, h3, h4, h5⟩ => ⟨vs, e, fr, us, ws, h1, h2, h3, h4, h5.forget i⟩)
    (fun j hj => (idsL_set cs i .any j hj).elim (fun h => by simp [AV.ids] at h) (fun h => h))

theorem app_satX {R : Prot} {φ : Place} {st : St} {a : Act} {w : World} (hs : Sat R φ st a w) {id : Nat} {c0 c1 : Chunk} (hid : st.lk id = some c0) (hc1 : ∀ j, c1.has j = true → ∃ c, st.lk j = some c) (hfix : st.fix ≤ id) {m : Nat}
    {φ' : Place} {w' : World} (hp : ∀ j, j ≠ id → φ' j = φ j) {R' : Prot} (hR : ∀ b o, R b o → R' b o) (hRn : ∀ b o, R' b o → R b o ∨ w.heap.size ≤ b ∨ ∃ cap, φ id = some (b, cap)) (hRB : RB R' w') (hos : w'.os = w.os) (htp : w'.tape = w.tape) (hout : w'.output = w.output) (hsz : w.heap.size ≤ w'.heap.size)
    (hcell : ∀ b o, R b o → w'.cell? ⟨b, o, none⟩ = w.cell? ⟨b, o, none⟩) (hblk : ∀ b, b < w.heap.size → (∀ cap, φ id ≠ some (b, cap)) → w'.heap[b]? = w.heap[b]?)
    (hch : ChunkRel φ' R' w' id c1) (hpl : ∀ b cap, φ' id = some (b, cap) → w.heap.size ≤ b ∨ ∃ cap', φ id = some (b, cap')) {u : Value} (hu : RepV φ' R' w' (.own id m) u)
    (dst : Option Nat) (hd : ∀ d, dst = some d → d < st.n) : Sat R' φ' (st.app dst id (.own id m) c1) (a.put dst u) w' ∧ Ext st R φ w (st.app dst id (.own id m) c1) R' φ' w' := by
  have hget : ∀ t, (st.app dst id (.own id m) c1).get t = if dst = some t then .own id m else (st.get t).scrub id := by
    intro t
    cases dst with
    | none =>
      simp only [St.app, St.get, scrubEnv, lookup_map]
      cases lookup t st.env <;> simp [AV.scrub, AV.may, AV.has]
    | some d =>
      simp only [St.app, St.get, lookup_cons, scrubEnv, lookup_map, Option.some.injEq]
      by_cases e : d = t
      · simp [e]
      · rw [if_neg e, if_neg e]
        cases lookup t st.env <;> simp [AV.scrub, AV.may, AV.has]
  have hlk : ∀ k, (st.app dst id (.own id m) c1).lk k = if k = id then some c1 else (st.lk k).map (Chunk.scrub id) := by
    intro k
    simp only [St.app, St.lk, lookup_cons, scrubHeap, lookup_map]
    by_cases e : id = k
    · rw [if_pos e, if_pos e.symm]
    · rw [if_neg e, if_neg (fun h => e h.symm)]
  have hsome : ∀ j, (∃ c, st.lk j = some c) → ∃ c, (st.app dst id (.own id m) c1).lk j = some c := fun j ⟨c, hc⟩ => by
    rw [hlk]
    split
    · exact ⟨_, rfl⟩
    · exact ⟨_, by rw [hc]; rfl⟩
  have hinv : ∀ j c, (st.app dst id (.own id m) c1).lk j = some c → (j = id ∧ c = c1) ∨ (j ≠ id ∧ ∃ c', st.lk j = some c' ∧ c = c'.scrub id) := fun j c hj => by
    rw [hlk] at hj
    split at hj
    · rename_i e; simp only [Option.some.injEq] at hj; exact .inl ⟨e, hj.symm⟩
    · rename_i e
      obtain ⟨c', h1, h2⟩ := Option.map_eq_some_iff.1 hj
      exact .inr ⟨e, c', h1, h2.symm⟩
  have hown : ∀ b j c cap, j ≠ id → st.lk j = some c → φ j = some (b, cap) → b < w.heap.size ∧ (∀ o, ¬ R b o) ∧ ∀ cap', φ id ≠ some (b, cap') := fun b j c cap hj hc hpj => by
    have := (hs.s.heap.rel j c hc).block hpj
    exact ⟨this.1, this.2, fun cap' h => hj (hs.s.heap.inj j id c _ b cap cap' hc hid hpj h)⟩
  refine ⟨⟨⟨fun t => ?_, fun t j hj => ?_, fun j cs k hj hk => ?_, fun j c hj => ?_, ?_, ⟨fun j c hj => ?_, fun j k c d b cap cap' hj hk hpj hpk => ?_⟩, hRB, ?_, fun g cs hg => ?_⟩, ?_⟩,
    ⟨⟨hos, htp, hout, hsz, fun b hb ho => hblk b hb (fun cap h => ho ⟨id, _, cap, hid, h⟩), hR, hcell, fun b o h => by
      rcases hRn b o h with h | h | ⟨cap, h⟩
      · exact .inl h
      · exact .inr (.inl h)
      · exact .inr (.inr ⟨id, _, cap, hid, h⟩), fun b hb => ?_⟩, fun j hj => hp j (by omega), rfl, rfl⟩⟩
  · rw [hget, getD_put a dst u t (fun d hd' => by rw [hs.s.sz]; exact hd d hd')]
    split
    · exact hu
    · exact scrub_rep (hs.s.env t) hp hR hcell
  · rw [hget] at hj
    split at hj
    · simp [AV.has] at hj
      subst hj
      exact hsome _ ⟨_, hid⟩
    · exact hsome j (hs.s.named t j (scrub_sub hj))
  · rcases hinv j _ hj with ⟨_, h⟩ | ⟨_, c', h1, h2⟩
    · subst h; exact hsome k (hc1 k hk)
    · subst h2
      exact hsome k (hs.s.hnamed j c' k h1 (Chunk.scrub_has hk).2)
  · show j < st.next + 1
    rcases hinv j _ hj with ⟨e, _⟩ | ⟨_, c', h1, _⟩
    · have := hs.s.hnext id _ hid; omega
    · have := hs.s.hnext j _ h1; omega
  · have := hs.s.sz
    cases dst <;> simp [Act.put, St.app, this]
  · rcases hinv j _ hj with ⟨rfl, rfl⟩ | ⟨hne, c', h1, rfl⟩
    · exact hch
    · exact Chunk.scrub_rel (hs.s.heap.rel j c' h1) (hp j hne) hp hR hcell (fun b cap hpj hlt => ⟨hblk b hlt (hown b j _ cap hne h1 hpj).2.2, fun o h => by
        rcases hRn b o h with h | h | ⟨c9, h⟩
        · exact h
        · omega
        · exact absurd h ((hown b j _ cap hne h1 hpj).2.2 c9)⟩)
  · rcases hinv j _ hj with ⟨e1, _⟩ | ⟨hne, c', h1, _⟩
    · rcases hinv k _ hk with ⟨e2, _⟩ | ⟨hne2, c2, h2, _⟩
      · rw [e1, e2]
      · rw [e1] at hpj
        rw [hp k hne2] at hpk
        obtain ⟨ob1, _, ob3⟩ := hown b k _ cap' hne2 h2 hpk
        rcases hpl b cap hpj with h | ⟨c3, h⟩
        · omega
        · exact absurd h (ob3 c3)
    · rw [hp j hne] at hpj
      rcases hinv k _ hk with ⟨e2, _⟩ | ⟨hne2, c2, h2, _⟩
      · rw [e2] at hpk
        obtain ⟨ob1, _, ob3⟩ := hown b j _ cap hne h1 hpj
        rcases hpl b cap' hpk with h | ⟨c3, h⟩
        · omega
        · exact absurd h (ob3 c3)
      · rw [hp k hne2] at hpk
        exact hs.s.heap.inj j k _ _ b cap cap' h1 h2 hpj hpk
  · have := hs.s.defers
    cases dst <;> simpa [Act.put] using this
  · have := hs.s.gl g cs hg
    refine ⟨RepV.mono hR hcell (fun j hj => ?_) this.1, this.2⟩
    simp only [AV.has] at hj
    rw [this.2 j] at hj
    simp at hj
  · have := hs.fx
    show st.fix ≤ st.next + 1
    omega
  · obtain ⟨j, c, cap, hj, hpj⟩ := hb
    rcases hinv j _ hj with ⟨e1, _⟩ | ⟨hne, c', h1, _⟩
    · rw [e1] at hpj
      rcases hpl b cap hpj with h | ⟨c3, h⟩
      · exact .inl h
      · exact .inr ⟨id, _, c3, hid, h⟩
    · rw [hp j hne] at hpj
      exact .inr ⟨j, c', cap, h1, hpj⟩

/-- The content of one chunk's block is turned. -/
theorem sat_turnX {R : Prot} {φ : Place} {st : St} {a : Act} {w : World} (hs : Sat R φ st a w) {id : Nat} {c0 c1 : Chunk} {b cap : Nat} (hid : st.lk id = some c0) (hφ : φ id = some (b, cap)) {o' : Obj}
    (hc1 : ∀ j, c1.has j = true → ∃ c, st.lk j = some c) (hch : ChunkRel φ R (setBlk w b o') id c1) :
    Sat R φ ⟨st.n, st.fix, st.next + 1, st.env, (id, c1) :: st.heap, st.gl⟩ a (setBlk w b o') ∧ Ext st R φ w ⟨st.n, st.fix, st.next + 1, st.env, (id, c1) :: st.heap, st.gl⟩ R φ (setBlk w b o') := by
  have hblk := (hs.s.heap.rel id c0 hid).block hφ
  have hcell : ∀ k o, R k o → (setBlk w b o').cell? ⟨k, o, none⟩ = w.cell? ⟨k, o, none⟩ := fun k o hr => setBlk_cell (fun e => by subst e; exact hblk.2 o hr)
  have hlk : ∀ k, lookup k ((id, c1) :: st.heap) = if id = k then some c1 else st.lk k := fun k => lookup_cons k id _ _
  have hex : ∀ j, (∃ c, st.lk j = some c) → ∃ c, lookup j ((id, c1) :: st.heap) = some c := fun j ⟨c, hc⟩ => by
    rw [hlk]; split
    · exact ⟨_, rfl⟩
    · exact ⟨c, hc⟩
  have hinv : ∀ j c, lookup j ((id, c1) :: st.heap) = some c → (j = id ∧ c = c1) ∨ (j ≠ id ∧ st.lk j = some c) := fun j c hj => by
    rw [hlk] at hj
    split at hj
    · rename_i e; simp only [Option.some.injEq] at hj; exact .inl ⟨e.symm, hj.symm⟩
    · rename_i e; exact .inr ⟨fun h => e h.symm, hj⟩
  have hsome : ∀ j c, lookup j ((id, c1) :: st.heap) = some c → ∃ c', st.lk j = some c' := fun j c hj => by
    rcases hinv j c hj with ⟨rfl, _⟩ | ⟨_, h⟩
    · exact ⟨_, hid⟩
    · exact ⟨c, h⟩
  refine ⟨⟨⟨fun t => ?_, fun t j hj => hex j (hs.s.named t j hj), fun j c k hj hk => ?_, fun j c hj => ?_, hs.s.sz, ⟨fun j c hj => ?_, fun j k c d b1 cap1 cap2 hj hk hp hp' => ?_⟩, ?_, hs.s.defers, fun g cs hg => ?_⟩, ?_⟩,
    ⟨⟨rfl, rfl, rfl, by simp [setBlk], fun k hk ho => setBlk_ne (fun e => ho (by subst e; exact ⟨id, c0, cap, hid, hφ⟩)), fun _ _ h => h, hcell, fun _ _ h => .inl h, fun k ⟨j, c, cap', hj, hp⟩ => ?_⟩, fun _ _ => rfl, rfl, rfl⟩⟩
  · exact RepV.mono (fun _ _ h => h) hcell (fun _ _ => rfl) (hs.s.env t)
  · rcases hinv j c hj with ⟨_, rfl⟩ | ⟨_, hj⟩
    · exact hex k (hc1 k hk)
    · exact hex k (hs.s.hnamed j c k hj hk)
  · show j < st.next + 1
    obtain ⟨c', hc'⟩ := hsome j c hj
    have := hs.s.hnext j c' hc'
    omega
  · rcases hinv j c hj with ⟨rfl, rfl⟩ | ⟨hne, hj⟩
    · exact hch
    · exact (hs.s.heap.rel j c hj).mono rfl (fun _ _ => rfl) (fun _ _ h => h) hcell (fun k cap' hp _ => ⟨setBlk_ne (fun e => by subst e; exact hne (hs.s.heap.inj j id c c0 b cap' cap hj hid hp hφ)), fun _ h => h⟩)
  · obtain ⟨c', hc'⟩ := hsome j c hj
    obtain ⟨d', hd'⟩ := hsome k d hk
    exact hs.s.heap.inj j k c' d' b1 cap1 cap2 hc' hd' hp hp'
  · intro k o h
    have := hs.s.rlt k o h
    simpa [setBlk] using this
  · have := hs.s.gl g cs hg
    exact ⟨RepV.mono (fun _ _ h => h) hcell (fun _ _ => rfl) this.1, this.2⟩
  · have := hs.fx
    show st.fix ≤ st.next + 1
    omega
  · obtain ⟨c', hc'⟩ := hsome j c hj
    exact .inr ⟨j, c', cap', hc', hp⟩

theorem val_step {ops : Array Oper} {o : Oper} {st : St} {R : Prot} {φ : Place} {a : Act} {w : World} (hs : Sat R φ st a w) (hd : dstB o st.n = true) {v : AV} {u : Value} (hv : RepV φ R w v u) (hn : ∀ j, v.has j = true → ∃ c, st.lk j = some c) :
    Sat R φ (st.step o.dst v [] none) (a.put o.dst u) w ∧ Ext st R φ w (st.step o.dst v [] none) R φ w := by
  have hfresh : st.lk st.next = none := by
    cases hh : st.lk st.next with
    | none => rfl
    | some c => have := hs.s.hnext _ _ hh; omega
  obtain ⟨h1, h2⟩ := SatF.step hs.s hfresh (next' := st.next + 1) (by omega) (Nat.le_succ _) (upd := []) trivial (StepTo.refl (id := st.next) hs.s.rlt).toU hv o.dst
    (fun d hd' => by simp only [dstB, hd', decide_eq_true_eq] at hd; exact hd) (fun j hj => .inl (hn j hj)) (fun ch j hc => by cases hc) (fun x hx => by simp at hx)
  rw [← step_get st o.dst v [] none] at h1
  have hlk := step_lk st o.dst v [] none rfl trivial
  rw [← hlk] at h1 h2
  exact ⟨⟨h1, Nat.le_succ_of_le hs.fx⟩, ⟨h2, fun _ _ => rfl, rfl, rfl⟩⟩

def St.toOwnS (st : St) (t : Nat) : St := { n := st.n, fix := st.fix, next := st.next + 1, env := (t, .own st.next 0) :: st.env, heap := (st.next, .ext (boxS [])) :: st.heap, gl := st.gl }

theorem Le.ownS {st : St} (t : Nat) (h : st.get t = .nils) : Le st (st.toOwnS t) := fun R φ a w hs => by
  have hfresh : st.lk st.next = none := by
    cases hh : st.lk st.next with
    | none => rfl
    | some c => have := hs.s.hnext _ _ hh; omega
  have hne : ∀ j c, st.lk j = some c → j ≠ st.next := fun j c hj e => by subst e; rw [hfresh] at hj; simp at hj
  have hget : ∀ u, (st.toOwnS t).get u = if t = u then .own st.next 0 else st.get u := fun u => by
    simp only [St.toOwnS, St.get, lookup_cons]
    by_cases e : t = u <;> simp [e]
  have hlk : ∀ k, (st.toOwnS t).lk k = if st.next = k then some (.ext (boxS [])) else st.lk k := fun k => by
    simp only [St.toOwnS, St.lk, lookup_cons]
  have hφ : ∀ j, j ≠ st.next → setPlace φ st.next none j = φ j := fun j hj => by simp [setPlace, hj]
  have hkeep : ∀ j, (∃ c, st.lk j = some c) → ∃ c, (st.toOwnS t).lk j = some c := fun j ⟨c, hc⟩ => by
    rw [hlk, if_neg (fun e => hne j c hc e.symm)]; exact ⟨c, hc⟩
  have hinv : ∀ j c, (st.toOwnS t).lk j = some c → (j = st.next ∧ c = .ext (boxS [])) ∨ (j ≠ st.next ∧ st.lk j = some c) := fun j c hj => by
    rw [hlk] at hj
    split at hj
    · rename_i e; simp only [Option.some.injEq] at hj; exact .inl ⟨e.symm, hj.symm⟩
    · rename_i e; exact .inr ⟨fun h => e h.symm, hj⟩
  refine ⟨R, setPlace φ st.next none, ⟨⟨fun u => ?_, fun u j hj => ?_, fun j cs k hj hk => ?_, fun j c hj => ?_, hs.s.sz, ⟨fun j c hj => ?_, fun j k c d b cap cap' hj hk hp hp' => ?_⟩, hs.s.rlt, hs.s.defers, fun g cs hg => ?_⟩, ?_⟩,
    ⟨⟨rfl, rfl, rfl, Nat.le_refl _, fun _ _ _ => rfl, fun _ _ h => h, fun _ _ _ => rfl, fun _ _ h => .inl h, fun b ⟨j, c, cap, hj, hp⟩ => ?_⟩, fun id hid => hφ id (by have := hs.fx; omega), rfl, rfl⟩⟩
  · rw [hget]
    split
    · rename_i e
      have := hs.s.env t
      rw [h] at this
      simp only [RepV] at this ⊢
      rw [← e]
      exact .inl ⟨by simp [setPlace], by simp, this⟩
    · exact RepV.mono (fun _ _ h => h) (fun _ _ _ => rfl) (fun j hj => by obtain ⟨c, hc⟩ := hs.s.named u j hj; exact hφ j (hne j c hc)) (hs.s.env u)
  · rw [hget] at hj
    split at hj
    · simp [AV.has] at hj
      subst hj
      exact ⟨_, by rw [hlk, if_pos rfl]⟩
    · exact hkeep j (hs.s.named u j hj)
  · rcases hinv j _ hj with ⟨_, h⟩ | ⟨_, hj⟩
    · subst h; simp [Chunk.has, boxS, AV.idsL] at hk
    · exact hkeep k (hs.s.hnamed j cs k hj hk)
  · show j < st.next + 1
    rcases hinv j _ hj with ⟨e, _⟩ | ⟨_, hj⟩
    · omega
    · have := hs.s.hnext j c hj; omega
  · rcases hinv j _ hj with ⟨rfl, rfl⟩ | ⟨hji, hj⟩
    · exact .inl ⟨by simp [setPlace], rfl⟩
    · exact (hs.s.heap.rel j c hj).mono (hφ j hji) (fun k hk => by
        obtain ⟨c', hc'⟩ := hs.s.hnamed j c k hj hk
        exact hφ k (hne k c' hc')) (fun _ _ h => h) (fun _ _ _ => rfl) (fun _ _ _ _ => ⟨rfl, fun _ h => h⟩)
  · rcases hinv j _ hj with ⟨rfl, _⟩ | ⟨hji, hj⟩
    · simp [setPlace] at hp
    · rcases hinv k _ hk with ⟨rfl, _⟩ | ⟨hki, hk⟩
      · simp [setPlace] at hp'
      · rw [hφ j hji] at hp; rw [hφ k hki] at hp'
        exact hs.s.heap.inj j k c d b cap cap' hj hk hp hp'
  · have := hs.s.gl g cs hg
    refine ⟨RepV.mono (fun _ _ h => h) (fun _ _ _ => rfl) (fun j hj => ?_) this.1, this.2⟩
    simp only [AV.has] at hj
    rw [this.2 j] at hj
    simp at hj
  · have := hs.fx
    show st.fix ≤ st.next + 1
    omega
  · rcases hinv j _ hj with ⟨rfl, _⟩ | ⟨hji, hj⟩
    · simp [setPlace] at hp
    · rw [hφ j hji] at hp
      exact .inr ⟨j, c, cap, hj, hp⟩

def St.freezeS (st : St) (b id : Nat) (cs : List AV) : St := { n := st.n, fix := st.fix, next := st.next, env := scrubEnv id st.env, heap := (b, .ext (boxS cs)) :: eraseH id st.heap, gl := st.gl }
/-- An own slice within a variable is given up: what is in it is plain data from then on. -/
theorem Le.freezeS {st : St} (bx id n : Nat) (pre post : List AV) {ty : Ty} {xs : List ty.D} (ht : st.lk bx = some (.ext (boxS (pre ++ .own id n :: post)))) (hid : st.lk id = some (.arr ty xs)) (hn : n ≤ xs.length) (hno : (AV.idsL (pre ++ post)).contains id = false) :
    Le st (st.freezeS bx id (pre ++ .list ty (xs.take n) :: post)) := fun R φ a w hs => by
  have hrel := hs.s.heap.rel id _ hid
  have hrb := hs.s.heap.rel bx _ ht
  have hbi : bx ≠ id := fun e => by subst e; rw [ht] at hid; cases hid
  let R' : Prot := fun b o => R b o ∨ ∃ cap, φ id = some (b, cap)
  have hR : ∀ b o, R b o → R' b o := fun b o h => .inl h
  generalize hcs : pre ++ AV.list ty (xs.take n) :: post = cs'
  have hget : ∀ u, (st.freezeS bx id cs').get u = (st.get u).scrub id := fun u => by
    simp only [St.freezeS, St.get, scrubEnv, lookup_map]
    cases lookup u st.env <;> simp [AV.scrub, AV.may, AV.has]
  have hlk : ∀ k, (st.freezeS bx id cs').lk k = if bx = k then some (.ext (boxS cs')) else if k = id then none else (st.lk k).map (Chunk.scrub id) := fun k => by
    simp only [St.freezeS, St.lk, lookup_cons, lookup_eraseH]
  have hinv : ∀ j c, (st.freezeS bx id cs').lk j = some c → (j = bx ∧ c = .ext (boxS cs')) ∨ (j ≠ bx ∧ j ≠ id ∧ ∃ c', st.lk j = some c' ∧ c = c'.scrub id) := fun j c hj => by
    rw [hlk] at hj
    split at hj
    · rename_i e; simp only [Option.some.injEq] at hj; exact .inl ⟨e.symm, hj.symm⟩
    · rename_i e0
      split at hj
      · simp at hj
      · rename_i e
        obtain ⟨c', h1, h2⟩ := Option.map_eq_some_iff.1 hj
        exact .inr ⟨fun h => e0 h.symm, e, c', h1, h2.symm⟩
  have hinv2 : ∀ j c, (st.freezeS bx id cs').lk j = some c → j ≠ id ∧ ∃ c', st.lk j = some c' := fun j c hj => by
    rcases hinv j c hj with ⟨rfl, _⟩ | ⟨_, h2, c', h3, _⟩
    · exact ⟨hbi, _, ht⟩
    · exact ⟨h2, c', h3⟩
  have hsome : ∀ j, j ≠ id → (∃ c, st.lk j = some c) → ∃ c, (st.freezeS bx id cs').lk j = some c := fun j hj ⟨c, hc⟩ => by
    rw [hlk, if_neg hj]
    split
    · exact ⟨_, rfl⟩
    · rw [hc]; exact ⟨_, rfl⟩
  have hown : ∀ b j c cap, j ≠ id → st.lk j = some c → φ j = some (b, cap) → ∀ cap', φ id ≠ some (b, cap') := fun b j c cap hj hc hpj cap' h =>
    hj (hs.s.heap.inj j id c _ b cap cap' hc hid hpj h)
  have hlist : ∀ v, RepV φ R w (.own id n) v → RepV φ R' w (.list ty (xs.take n)) v := fun v hv => by
    simp only [RepV] at hv
    simp only [RepV, Rep]
    have hlen : (xs.take n).length = n := by simp; omega
    rcases hv with ⟨hφ, rfl, hv⟩ | ⟨b, cap, hφ, hcap, hv⟩
    · exact ⟨none, 0, by rw [hv]; simp, by simp, .inl ⟨by simp, rfl⟩⟩
    · refine ⟨some ⟨b, 0, none⟩, cap, by rw [hv, hlen], by omega, .inr ⟨b, 0, rfl, fun i hi => ?_⟩⟩
      rcases hrel with ⟨h1, h2⟩ | ⟨b', cap', vs, e', fr, hφ', hh, hvs, hxc, hel, _, _⟩
      · rw [hφ] at h1; simp at h1
      · rw [hφ] at hφ'
        simp only [Option.some.injEq, Prod.mk.injEq] at hφ'
        obtain ⟨rfl, rfl⟩ := hφ'
        have hi' : i < xs.length := by rw [hlen] at hi; omega
        have hr := hel i hi'
        refine ⟨_, hr.length, fun k v hk => ⟨.inr ⟨cap, hφ⟩, ?_⟩, by rw [List.getElem_take]; exact Rep.mono hR (fun _ _ _ => rfl) hr⟩
        rw [List.getElem?_take] at hk
        split at hk
        · rw [List.getElem?_drop] at hk
          simp only [World.cell?, hh, Nat.zero_add]
          simpa using hk
        · simp at hk
  have hvs : ∀ {pre : List AV} {vs : List Value}, RepVs φ R w (pre ++ .own id n :: post) vs → RepVs φ R' w (pre ++ .list ty (xs.take n) :: post) vs := by
    intro pre
    induction pre with
    | nil =>
      intro vs h
      simp only [List.nil_append, RepVs] at h ⊢
      obtain ⟨v, r, e, h1, h2⟩ := h
      exact ⟨v, r, e, hlist v h1, RepVs.mono hR (fun _ _ _ => rfl) (fun _ _ => rfl) h2⟩
    | cons p pre ih =>
      intro vs h
      simp only [List.cons_append, RepVs] at h ⊢
      obtain ⟨v, r, e, h1, h2⟩ := h
      exact ⟨v, r, e, RepV.mono hR (fun _ _ _ => rfl) (fun _ _ => rfl) h1, ih h2⟩
  refine ⟨R', φ, ⟨⟨fun u => ?_, fun u j hj => ?_, fun j cs k hj hk => ?_, fun j c hj => ?_, hs.s.sz, ⟨fun j c hj => ?_, fun j k c d b cap cap' hj hk hp hp' => ?_⟩, fun b o h => ?_, hs.s.defers, fun g cs hg => ?_⟩, hs.fx⟩,
    ⟨⟨rfl, rfl, rfl, Nat.le_refl _, fun _ _ _ => rfl, hR, fun _ _ _ => rfl, fun b o h => ?_, fun b ⟨j, c, cap, hj, hp⟩ => ?_⟩, fun _ _ => rfl, rfl, rfl⟩⟩
  · rw [hget]
    exact scrub_rep (hs.s.env u) (fun _ _ => rfl) hR (fun _ _ _ => rfl)
  · rw [hget] at hj
    exact hsome j (scrub_ne hj) (hs.s.named u j (scrub_sub hj))
  · rcases hinv j _ hj with ⟨_, rfl⟩ | ⟨_, hne, c', h1, rfl⟩
    · simp only [Chunk.has, boxS] at hk
      rw [← hcs, idsL_mid] at hk
      have hk2 : (AV.idsL (pre ++ post)).contains k = true := by simpa [AV.ids, idsL_append] using hk
      exact hsome k (fun e => by subst e; rw [hno] at hk2; cases hk2) (hs.s.hnamed bx _ k ht (by
        simp only [Chunk.has, boxS]; rw [idsL_mid]
        have h9 : k ∈ AV.idsL (pre ++ post) := by simpa using hk2
        rw [idsL_append, List.mem_append] at h9
        simp only [List.contains_eq_mem, List.mem_append, decide_eq_true_eq]
        exact h9.elim (fun h => .inl h) (fun h => .inr (.inr h))))
    · exact hsome k (Chunk.scrub_has hk).1 (hs.s.hnamed j c' k h1 (Chunk.scrub_has hk).2)
  · obtain ⟨_, c', h1⟩ := hinv2 j _ hj
    exact hs.s.hnext j c' h1
  · rcases hinv j _ hj with ⟨rfl, rfl⟩ | ⟨_, hne, c', h1, rfl⟩
    · rcases hrb with ⟨_, h0⟩ | ⟨b1, cap, o1, q1, q2, ⟨vs, e, fr, us, ws, p1, p2, p3, p4, p5⟩, q4⟩
      · simp [boxS] at h0
      refine .inr ⟨b1, cap, o1, q1, q2, ⟨vs, e, fr, us, ws, p1, p2, p3, p4, by rw [← hcs]; exact hvs p5⟩, fun o h => ?_⟩
      rcases h with h | ⟨c9, h⟩
      · exact q4 o h
      · exact hown b1 j _ cap hbi ht q1 c9 h
    · exact Chunk.scrub_rel (hs.s.heap.rel j c' h1) rfl (fun _ _ => rfl) hR (fun _ _ _ => rfl) (fun b cap hpj _ => ⟨rfl, fun o h => by
        rcases h with h | ⟨c9, h⟩
        · exact h
        · exact absurd h (hown b j _ cap hne h1 hpj c9)⟩)
  · obtain ⟨_, c', h1⟩ := hinv2 j _ hj
    obtain ⟨_, d', h2⟩ := hinv2 k _ hk
    exact hs.s.heap.inj j k c' d' b cap cap' h1 h2 hp hp'
  · rcases h with h | ⟨cap, h⟩
    · exact hs.s.rlt b o h
    · exact ((hs.s.heap.rel id _ hid).block h).1
  · have := hs.s.gl g cs hg
    exact ⟨RepV.mono hR (fun _ _ _ => rfl) (fun _ _ => rfl) this.1, this.2⟩
  · rcases h with h | ⟨cap, h⟩
    · exact .inl h
    · exact .inr (.inr ⟨id, _, cap, hid, h⟩)
  · obtain ⟨_, c', h1⟩ := hinv2 j _ hj
    exact .inr ⟨j, c', cap, h1, hp⟩

def St.freezeL (st : St) (t id : Nat) (v : AV) : St := { n := st.n, fix := st.fix, next := st.next, env := (t, v) :: scrubEnv id st.env, heap := eraseH id st.heap, gl := st.gl }

/-- An own slice is given up: what is in it is plain data from then on. -/
theorem Le.listS {st : St} (t id n : Nat) {ty : Ty} {xss : List (List ty.D)} (ht : st.get t = .own id n) (hid : st.lk id = some (.ext (boxS (xss.map (.list ty))))) (hn : n = xss.length) : Le st (st.freezeL t id (.list (.list ty) xss)) := fun R φ a w hs => by
  have hrel := hs.s.heap.rel id _ hid
  have hv := hs.s.env t
  rw [ht] at hv
  let R' : Prot := fun b o => R b o ∨ ∃ cap, φ id = some (b, cap)
  have hR : ∀ b o, R b o → R' b o := fun b o h => .inl h
  have hget : ∀ u, (st.freezeL t id (.list (.list ty) xss)).get u = if t = u then .list (.list ty) xss else (st.get u).scrub id := fun u => by
    simp only [St.freezeL, St.get, lookup_cons, scrubEnv, lookup_map]
    by_cases e : t = u
    · simp [e]
    · rw [if_neg e, if_neg e]
      cases lookup u st.env <;> simp [AV.scrub, AV.may, AV.has]
  have hlk : ∀ k, (st.freezeL t id (.list (.list ty) xss)).lk k = if k = id then none else (st.lk k).map (Chunk.scrub id) := fun k => lookup_eraseH id k st.heap
  have hinv : ∀ j c, (st.freezeL t id (.list (.list ty) xss)).lk j = some c → j ≠ id ∧ ∃ c', st.lk j = some c' ∧ c = c'.scrub id := fun j c hj => by
    rw [hlk] at hj
    split at hj
    · simp at hj
    · rename_i e
      obtain ⟨c', h1, h2⟩ := Option.map_eq_some_iff.1 hj
      exact ⟨e, c', h1, h2.symm⟩
  have hsome : ∀ j, j ≠ id → (∃ c, st.lk j = some c) → ∃ c, (st.freezeL t id (.list (.list ty) xss)).lk j = some c := fun j hj ⟨c, hc⟩ => by
    rw [hlk, if_neg hj, hc]; exact ⟨_, rfl⟩
  have hown : ∀ b j c cap, j ≠ id → st.lk j = some c → φ j = some (b, cap) → ∀ cap', φ id ≠ some (b, cap') := fun b j c cap hj hc hpj cap' h =>
    hj (hs.s.heap.inj j id c _ b cap cap' hc hid hpj h)
  have hnR : ∀ b j c cap, j ≠ id → st.lk j = some c → φ j = some (b, cap) → ∀ o, ¬ R' b o := fun b j c cap hj hc hpj o h => by
    rcases h with h | ⟨c9, h⟩
    · exact ((hs.s.heap.rel j c hc).block hpj).2 o h
    · exact hown b j c cap hj hc hpj c9 h
  refine ⟨R', φ, ⟨⟨fun u => ?_, fun u j hj => ?_, fun j cs k hj hk => ?_, fun j c hj => ?_, hs.s.sz, ⟨fun j c hj => ?_, fun j k c d b cap cap' hj hk hp hp' => ?_⟩, fun b o h => ?_, hs.s.defers, fun g cs hg => ?_⟩, hs.fx⟩,
    ⟨⟨rfl, rfl, rfl, Nat.le_refl _, fun _ _ _ => rfl, hR, fun _ _ _ => rfl, fun b o h => ?_, fun b ⟨j, c, cap, hj, hp⟩ => ?_⟩, fun _ _ => rfl, rfl, rfl⟩⟩
  · rw [hget]
    split
    · rename_i e
      rw [← e]
      simp only [RepV] at hv
      simp only [RepV, Rep]
      rcases hv with ⟨hφ, rfl, hv⟩ | ⟨b, cap, hφ, hcap, hv⟩
      · exact ⟨none, 0, by rw [hv, hn], by omega, .inl ⟨List.eq_nil_of_length_eq_zero hn.symm, rfl⟩⟩
      · refine ⟨some ⟨b, 0, none⟩, cap, by rw [hv, hn], by omega, .inr ⟨b, 0, rfl, fun i hi => ?_⟩⟩
        rcases hrel with ⟨h1, h2⟩ | ⟨b', cap', o1, hφ', hh, ⟨vs, e', fr, us, ws, rfl, p2, p3, p4, p5⟩, _⟩
        · rw [hφ] at h1; simp at h1
        · rw [hφ] at hφ'
          simp only [Option.some.injEq, Prod.mk.injEq] at hφ'
          obtain ⟨rfl, rfl⟩ := hφ'
          have hul := p5.length
          rw [List.length_map] at hul
          obtain ⟨v, hv9⟩ : ∃ v, us[i]? = some v := ⟨us[i]'(by omega), List.getElem?_eq_getElem (by omega)⟩
          have hr := RepVs.get p5 i v hv9
          have e1 : (xss.map (AV.list ty)).getD i .any = .list ty xss[i] := by simp [List.getD, hi]
          rw [e1] at hr
          simp only [RepV] at hr
          refine ⟨[v], by simp [Ty.size], fun k v' hk => ⟨.inr ⟨cap, hφ⟩, ?_⟩, Rep.mono hR (fun _ _ _ => rfl) hr⟩
          cases k with
          | zero =>
            simp only [List.getElem?_cons_zero, Option.some.injEq] at hk
            subst hk
            simp only [World.cell?, hh, Ty.size, Nat.mul_one, Nat.zero_add, Nat.add_zero]
            have : vs.toList[i]? = some v := by rw [p4, List.getElem?_append_left (by omega)]; exact hv9
            simpa using this
          | succ k => simp at hk
    · exact scrub_rep (hs.s.env u) (fun _ _ => rfl) hR (fun _ _ _ => rfl)
  · rw [hget] at hj
    split at hj
    · simp [AV.has] at hj
    · exact hsome j (scrub_ne hj) (hs.s.named u j (scrub_sub hj))
  · obtain ⟨hne, c', h1, h2⟩ := hinv j _ hj
    subst h2
    exact hsome k (Chunk.scrub_has hk).1 (hs.s.hnamed j c' k h1 (Chunk.scrub_has hk).2)
  · obtain ⟨_, c', h1, _⟩ := hinv j _ hj
    exact hs.s.hnext j c' h1
  · obtain ⟨hne, c', h1, rfl⟩ := hinv j _ hj
    exact Chunk.scrub_rel (hs.s.heap.rel j c' h1) rfl (fun _ _ => rfl) hR (fun _ _ _ => rfl) (fun b cap hpj _ => ⟨rfl, fun o h => by
      rcases h with h | ⟨c9, h⟩
      · exact h
      · exact absurd h (hown b j _ cap hne h1 hpj c9)⟩)
  · obtain ⟨_, c', h1, _⟩ := hinv j _ hj
    obtain ⟨_, d', h2, _⟩ := hinv k _ hk
    exact hs.s.heap.inj j k c' d' b cap cap' h1 h2 hp hp'
  · rcases h with h | ⟨cap, h⟩
    · exact hs.s.rlt b o h
    · exact (hrel.block h).1
  · have := hs.s.gl g cs hg
    refine ⟨RepV.mono hR (fun _ _ _ => rfl) (fun j hj => ?_) this.1, this.2⟩
    simp only [AV.has] at hj
    rw [this.2 j] at hj
  · rcases h with h | ⟨cap, h⟩
    · exact .inl h
    · exact .inr (.inr ⟨id, _, cap, hid, h⟩)
  · obtain ⟨_, c', h1, _⟩ := hinv j _ hj
    exact .inr ⟨j, c', cap, h1, hp⟩

theorem boxS_has {cs : List AV} {j : Nat} (h : Chunk.has j (.ext (boxS cs)) = true) : j ∈ AV.idsL cs := by simpa [Chunk.has, boxS] using h

/-- The address of an element. -/
theorem OpTri.idxS {T : Tab} (hT : tabOK P T = true) {ops : Array Oper} {o : Oper} {n fix next : Nat} {env : List (Nat × AV)} {heap : List (Nat × Chunk)} {gl : Gl} {K : St → Prop} {t et : TypeId} {e ee : TE} {x i : Operand} {id m : Nat} {j : Int} {k : IntKind}
    (ho : o.op = .indexAddr t x i) (hg : o.guard = none) (he : tget T t = some e) (hk : e.k = .slice et) (hee : tget T et = some ee) (hsz : Nat.beq ee.size 1 = true)
    (hx : okP (St.ev ⟨n, fix, next, env, heap, gl⟩ x) ∧ (St.ev ⟨n, fix, next, env, heap, gl⟩ x).un = .own id m) (hi : okP (St.ev ⟨n, fix, next, env, heap, gl⟩ i) ∧ (St.ev ⟨n, fix, next, env, heap, gl⟩ i).un = .int k j)
    (hid : hasKey id heap = true) (hj : 0 ≤ j ∧ j < m) (hK : stepN n fix next env heap gl o.dst (.eloc id 1 j.toNat 0) [] none K) : OpTri P ops o ⟨n, fix, next, env, heap, gl⟩ K := by
  intro hd R φ a w hs next0 Q hnext
  rw [stepN_eq] at hK
  generalize hst : (⟨n, fix, next, env, heap, gl⟩ : St) = st at *
  have hhp : st.heap = heap := by rw [← hst]
  have hw : Region.wanted o (yielded ops a.tmps) = true := by simp [Region.wanted, hg]
  rw [if_pos hw]
  left
  have hrx := (hs.s.ev x).un hx.1
  have hri := (hs.s.ev i).un hi.1
  have hx2 : (evF st.get st.gl x).un = .own id m := hx.2
  have hi2 : (evF st.get st.gl i).un = .int k j := hi.2
  rw [hx2] at hrx
  rw [hi2] at hri
  obtain ⟨v, hv, _, hrun⟩ := indexAddrV_sound hT (lk := fun _ => some (.arr .bool [])) (t := t) (x := .own id m) (y := .int k j) (K := fun v => v = .eloc id 1 j.toNat 0) (by
    have h1 : Nat.beq ee.size (Ty.size .bool) = true := hsz
    unfold indexAddrV
    simp only [he, hk, hee, h1]
    exact ⟨hj, rfl⟩)
  subst hv
  obtain ⟨u, hu, hr⟩ := hrun φ R w _ _ hrx hri
  have hr2 : (execOp a.eval o).run P w = .ok (.value u) w := by simp [execOp, ho, hr]
  unfold Oper.wp
  rw [hr2]
  obtain ⟨h1, h2⟩ := val_step (ops := ops) (o := o) hs hd (v := .eloc id 1 j.toNat 0) (u := u) hu (fun l hl => by
    simp only [AV.has, beq_iff_eq] at hl
    subst hl
    obtain ⟨c, hc⟩ := hasKey_lk hid
    exact ⟨c, by rw [← hhp] at hc; exact hc⟩)
  exact hnext R φ _ w _ hK h1 h2

/-- An element is read. -/
theorem OpTri.loadS {T : Tab} (hT : tabOK P T = true) {ops : Array Oper} {o : Oper} {n fix next : Nat} {env : List (Nat × AV)} {heap : List (Nat × Chunk)} {gl : Gl} {K : St → Prop} {t : TypeId} {x : Operand} {id i : Nat} {cs : List AV}
    (ho : o.op = .load t x) (hg : o.guard = none) (hx : okP (St.ev ⟨n, fix, next, env, heap, gl⟩ x) ∧ (St.ev ⟨n, fix, next, env, heap, gl⟩ x).un = .eloc id 1 i 0)
    (hid : lookup id heap = some (.ext (boxS cs))) (hK : subCells T t cs i fun v => stepN n fix next env heap gl o.dst v [] none K) : OpTri P ops o ⟨n, fix, next, env, heap, gl⟩ K := by
  intro hd R φ a w hs next0 Q hnext
  simp only [stepN_eq] at hK
  generalize hst : (⟨n, fix, next, env, heap, gl⟩ : St) = st at *
  have hid' : st.lk id = some (.ext (boxS cs)) := by rw [← hst]; exact hid
  have hw : Region.wanted o (yielded ops a.tmps) = true := by simp [Region.wanted, hg]
  rw [if_pos hw]
  left
  have hrx := (hs.s.ev x).un hx.1
  have hx2 : (evF st.get st.gl x).un = .eloc id 1 i 0 := hx.2
  rw [hx2] at hrx
  simp only [RepV] at hrx
  obtain ⟨b, cap, hφ, hax⟩ := hrx
  obtain ⟨v, hv, hn, hload⟩ := load_sound hT hK
  rcases hs.s.heap.rel id _ hid' with ⟨h1, _⟩ | ⟨b', cap', ob, hφ', hb', ⟨vs, e, fr, us, ws, rfl, p2, p3, p4, p5⟩, hnR⟩
  · rw [hφ] at h1; cases h1
  rw [hφ] at hφ'
  simp only [Option.some.injEq, Prod.mk.injEq] at hφ'
  obtain ⟨rfl, rfl⟩ := hφ'
  obtain ⟨u, hu, hr⟩ := hload φ R w us b 0 p5 (fun j v hj => by
    simp only [World.cell?, hb', Nat.zero_add]
    have hjl : j < us.length := (List.getElem?_eq_some_iff.1 hj).1
    have : vs.toList[j]? = some v := by rw [p4, List.getElem?_append_left hjl]; exact hj
    simpa using this)
  have hr2 : (execOp a.eval o).run P w = .ok (.value u) w := by
    simp only [Nat.zero_add] at hr
    simp [execOp, ho, hax, hr]
  unfold Oper.wp
  rw [hr2]
  obtain ⟨h1, h2⟩ := val_step (ops := ops) (o := o) hs hd (v := v) (u := u) hu (fun l hl => hs.s.hnamed id _ l hid' (by
    simp only [Chunk.has, boxS, List.contains_eq_mem, decide_eq_true_eq]
    exact AV.hasAny_ids (hn l hl)))
  exact hnext R φ _ w _ hv h1 h2

/-- An element is written. -/
theorem OpTri.storeS {T : Tab} (hT : tabOK P T = true) {ops : Array Oper} {o : Oper} {n fix next : Nat} {env : List (Nat × AV)} {heap : List (Nat × Chunk)} {gl : Gl} {K : St → Prop} {t : TypeId} {e : TE} {x y : Operand} {id i : Nat} {cs : List AV} {c : AV}
    (ho : o.op = .store t x y) (hg : o.guard = none) (hdst : o.dst = none) (he : tget T t = some e) (hsz : Nat.beq e.size 1 = true) (hx : okP (St.ev ⟨n, fix, next, env, heap, gl⟩ x) ∧ (St.ev ⟨n, fix, next, env, heap, gl⟩ x).un = .eloc id 1 i 0)
    (hy : (St.ev ⟨n, fix, next, env, heap, gl⟩ y).cells = some [c]) (h1 : c.one = true) (hids : idsIn heap (AV.ids c) = true) (hid : lookup id heap = some (.ext (boxS cs))) (hi : Nat.blt i cs.length = true)
    (hK : K ⟨n, fix, next + 1, env, (id, .ext (boxS (cs.set i c))) :: heap, gl⟩) : OpTri P ops o ⟨n, fix, next, env, heap, gl⟩ K := by
  intro hd R φ a w hs next0 Q hnext
  have hid' : (St.lk ⟨n, fix, next, env, heap, gl⟩) id = some (.ext (boxS cs)) := hid
  have hsz := Nat.eq_of_beq_eq_true hsz
  have hi : i < cs.length := Nat.le_of_ble_eq_true hi
  have hw : Region.wanted o (yielded ops a.tmps) = true := by simp [Region.wanted, hg]
  rw [if_pos hw]
  left
  have hrx := (hs.s.ev x).un hx.1
  have hry := hs.s.ev y
  have hx2 := hx.2
  unfold St.ev at hx2 hy
  rw [hx2] at hrx
  simp only [RepV] at hrx
  obtain ⟨b, cap, hφ, hax⟩ := hrx
  rcases hs.s.heap.rel id _ hid' with ⟨h0, _⟩ | ⟨b', cap', ob, hφ', hb', ⟨vs, te, fr, us, ws, rfl, p2, p3, p4, p5⟩, hnR⟩
  · rw [hφ] at h0; cases h0
  rw [hφ] at hφ'
  simp only [Option.some.injEq, Prod.mk.injEq] at hφ'
  obtain ⟨rfl, rfl⟩ := hφ'
  have hyr : RepVs φ R w [c] (a.eval y).cells.toList := AV.cells_rep hy hry
  have hul := p5.length
  have hvl0 : us.length + ws.length = vs.size := by rw [← Array.length_toList, p4, List.length_append]
  have hone := hyr.one (by simp [h1])
  obtain ⟨yv, hyv⟩ : ∃ yv, (a.eval y).cells.toList = [yv] := by
    have := hyr.length
    match hh : (a.eval y).cells.toList with
    | [] => rw [hh] at this; simp at this
    | [v] => exact ⟨v, rfl⟩
    | _ :: _ :: _ => rw [hh] at this; simp at this
  rw [hyv] at hyr hone
  have hyr1 : RepV φ R w c yv := by
    simp only [RepVs] at hyr
    obtain ⟨_, _, hh, hr, _⟩ := hyr
    simp only [List.cons.injEq] at hh
    rw [hh.1]; exact hr
  have hlt : b < w.heap.size := (Array.getElem?_eq_some_iff.1 hb').1
  obtain ⟨vs', hv', hrun⟩ := run_storeCells_blk (P := P) (b := b) (off := i * 1 + 0) (e := te) (fr := fr) [yv] 0 vs w hb' (by simp only [List.length_singleton]; omega) p3 hone
  have hex : (execOp a.eval o).run P w = .ok .skip (setBlk w b (.cells vs' te fr)) := by
    have hl : (a.eval y).cells.size = 1 := by rw [← Array.length_toList, hyv]; rfl
    simp only [execOp, ho, hax, Instr.storeAt, Instr.sureAddr, storeVar, Sem.run_bind, Sem.run_pure, Result.andThen_ok, run_sizeOf_tab hT he]
    rw [if_neg (by omega)]
    rw [hyv, hrun]
    rfl
  unfold Oper.wp
  rw [hex]
  have hv2 : vs'.toList = us.set i yv ++ ws := by
    rw [hv', p4]
    simp only [Nat.mul_one, Nat.add_zero, List.length_singleton]
    rw [List.take_append_of_le_length (by omega), List.drop_append_of_le_length (by omega), List.set_eq_take_append_cons_drop, if_pos (by omega)]
    simp
  have hvl : vs'.size = vs.size := by
    rw [← Array.length_toList, hv2, List.length_append, List.length_set]; omega
  have hcell : ∀ k o', R k o' → (setBlk w b (.cells vs' te fr)).cell? ⟨k, o', none⟩ = w.cell? ⟨k, o', none⟩ := fun k o' hr => setBlk_cell (fun h => by subst h; exact hnR o' hr)
  obtain ⟨g1, g2⟩ := sat_turnX hs hid' hφ (o' := .cells vs' te fr) (c1 := .ext (boxS (cs.set i c))) (fun j hj => by
      rcases idsL_set cs i c j (boxS_has hj) with h | h
      · exact idsIn_mem hids h
      · exact hs.s.hnamed id _ j hid' (by simpa [Chunk.has, boxS] using h))
    (.inr ⟨b, cap, _, hφ, setBlk_get hlt, ⟨vs', te, fr, us.set i yv, ws, rfl, by rw [hvl, p2], by rw [hvl]; exact p3, hv2, RepVs.mono (fun _ _ h => h) hcell (fun _ _ => rfl) (RepVs.set hyr1 i p5)⟩, hnR⟩)
  show next0 (a.put o.dst undef) _
  rw [hdst]
  exact hnext R φ _ _ _ hK g1 g2

/-- A new slice of one element. -/
theorem OpTri.buildS {T : Tab} (hT : tabOK P T = true) {ops : Array Oper} {o : Oper} {n fix next : Nat} {env : List (Nat × AV)} {heap : List (Nat × Chunk)} {gl : Gl} {K : St → Prop} {t et : TypeId} {e ee : TE} {x : Operand} {y : AV}
    (ho : o.op = .buildSlice t 1 ⟨[(0, x)]⟩) (hg : o.guard = none) (he : tget T t = some e) (hk : e.k = .slice et) (hee : tget T et = some ee) (hsz : Nat.beq ee.size 1 = true)
    (hcs : fillCells (fun i => some (i * ee.size, ee.size)) [(0, St.ev ⟨n, fix, next, env, heap, gl⟩ x)] (zerosOf ee.zero 1) = some [y]) (hids : idsIn heap (AV.ids y) = true)
    (hK : stepN n fix next env heap gl o.dst (.own next 1) [] (some (.ext (boxS [y]))) K) : OpTri P ops o ⟨n, fix, next, env, heap, gl⟩ K := by
  intro hd R φ a w hs next0 Q hnext
  rw [stepN_eq] at hK
  generalize hst : (⟨n, fix, next, env, heap, gl⟩ : St) = st at *
  have hnx : st.next = next := by rw [← hst]
  have hhp : st.heap = heap := by rw [← hst]
  have hsz := Nat.eq_of_beq_eq_true hsz
  have hw : Region.wanted o (yielded ops a.tmps) = true := by simp [Region.wanted, hg]
  rw [if_pos hw]
  left
  obtain ⟨z, hz, hzc, hzs⟩ := zero_size hT hee
  have hzr : RepVs φ R w (zerosOf ee.zero 1) ((Array.range (1 * z.cells.size)).map (z.cells[· % z.cells.size]!)).toList := zeros_rep (zeroChk_rep hzc) 1
  obtain ⟨us', hf, hu⟩ := fill_sound (φ := φ) (R := R) (w := w) (ev := st.ev) (ρ := a.eval) [(0, x)] _ [y] _ hcs hzr (fun p hp => by
    simp only [List.mem_singleton] at hp
    subst hp
    exact hs.s.ev x)
  have hul : us'.size = 1 := by
    have h1 := hu.length
    rw [Array.length_toList] at h1
    exact h1
  have hd2 := tk_slice hT he hk
  have hrun : (execOp a.eval o).run P w = .ok (.value (.slice (some ⟨w.heap.size, 0, none⟩) 1 1)) (pushed w (.cells us' et (0, 0)) w.drawn) := by
    simp only [execOp, ho, Instr.buildSlice, Sem.run_bind, run_underlying hd2, Result.andThen_ok, run_sizeOf_tab hT hee]
    rw [if_neg (by omega)]
    have h0 : ¬ (1 * ee.size = 0) := by omega
    simp only [h0, if_false, Sem.run_bind, hz, Sem.run_pure, Result.andThen_ok]
    rw [hzs] at hf
    simp only [List.map_toArray, List.map_cons, List.map_nil] at hf ⊢
    rw [hzs, hf]
    rfl
  unfold Oper.wp
  rw [hrun]
  have hfresh : st.lk next = none := by
    cases hh : st.lk next with
    | none => rfl
    | some c => have := hs.s.hnext _ _ hh; omega
  have hR := hs.s.rlt
  have hyn : ∀ j, j ∈ AV.ids y → ∃ c, st.lk j = some c := fun j hj => by
    obtain ⟨c, hc⟩ := idsIn_mem hids hj
    exact ⟨c, by rw [← hhp] at hc; exact hc⟩
  have hcell : ∀ b k, R b k → (pushed w (.cells us' et (0, 0)) w.drawn).cell? ⟨b, k, none⟩ = w.cell? ⟨b, k, none⟩ := fun b k hb => pushed_cell (hR b k hb)
  have hstep := (stepTo_push (φ := φ) (id := next) hR us' et (0, 0) 1 (.ext (boxS [y])) w.drawn
    (.inr ⟨w.heap.size, 1, _, by simp [setPlace], pushed_get _ _ _, ⟨us', et, (0, 0), us'.toList, [], rfl, hul, noFr_zero _, by simp, RepVs.mono (fun _ _ h => h) hcell (fun j hj => by
      have hj2 := AV.hasAny_ids hj
      simp only [AV.idsL, List.append_nil] at hj2
      obtain ⟨c, hc⟩ := hyn j hj2
      simp only [setPlace]
      rw [if_neg (fun e => by subst e; rw [hfresh] at hc; cases hc)]) hu⟩, not_prot_new hR⟩)).toU
  obtain ⟨h1, h2⟩ := SatF.step hs.s hfresh (next' := st.next + 1) (by omega) (Nat.le_succ _) (upd := []) trivial hstep (v := .own next 1) (u := .slice (some ⟨w.heap.size, 0, none⟩) 1 1) (by simp only [RepV]; exact .inr ⟨w.heap.size, 1, by simp [setPlace], Nat.le_refl _, rfl⟩) o.dst
    (fun d hd' => by simp only [dstB, hd', decide_eq_true_eq] at hd; exact hd) (fun j hj => by simp [AV.has] at hj; exact .inr ⟨hj.symm, rfl⟩)
    (fun ch j hc hj => by
      obtain rfl := Option.some.inj hc
      have hj2 := boxS_has hj
      simp only [AV.idsL, List.append_nil] at hj2
      exact hyn j hj2) (fun x hx => by simp at hx)
  rw [← step_get st o.dst (.own next 1) [] (some (.ext (boxS [y])))] at h1
  have hlk := step_lk st o.dst (.own next 1) [] (some (.ext (boxS [y]))) rfl trivial
  rw [hnx] at hlk
  rw [← hlk] at h1 h2
  exact hnext R _ _ _ _ hK ⟨h1, Nat.le_succ_of_le hs.fx⟩ ⟨h2, fun id hid => by have := hs.fx; simp only [setPlace]; rw [if_neg (by omega)], rfl, rfl⟩

/-- The slice grows by one element. -/
theorem OpTri.appS {T : Tab} (hT : tabOK P T = true) {ops : Array Oper} {o : Oper} {n fix next : Nat} {env : List (Nat × AV)} {heap : List (Nat × Chunk)} {gl : Gl} {K : St → Prop} {ts tx et : TypeId} {e ee : TE} {s x : Operand} {id id' m : Nat} {cs : List AV} {y : AV}
    (ho : o.op = .call ⟨.builtin .append, ⟨[s, x]⟩, ⟨[ts, tx]⟩⟩) (hg : o.guard = none) (he : tget T ts = some e) (hk : e.k = .slice et) (hee : tget T et = some ee) (hsz : Nat.beq ee.size 1 = true) (hni : notInt T tx = true)
    (hsv : okP (St.ev ⟨n, fix, next, env, heap, gl⟩ s) ∧ (St.ev ⟨n, fix, next, env, heap, gl⟩ s).un = .own id m) (hxv : okP (St.ev ⟨n, fix, next, env, heap, gl⟩ x) ∧ (St.ev ⟨n, fix, next, env, heap, gl⟩ x).un = .own id' 1)
    (hid : lookup id heap = some (.ext (boxS cs))) (hid' : lookup id' heap = some (.ext (boxS [y]))) (hcm : Nat.beq cs.length m = true) (hno : (AV.idsL (cs ++ [y])).contains id = false) (hy : y.one = true) (hfix : Nat.ble fix id = true)
    (hb : (m + 1) * ee.bytes ≤ 140737488355328 ∧ m + 1 ≤ 140737488355328)
    (hK : appN n fix next env heap gl o.dst id (.own id (m + 1)) (.ext (boxS (cs ++ [y]))) K) : OpTri P ops o ⟨n, fix, next, env, heap, gl⟩ K := by
  intro hd R φ a w hs next0 Q hnext
  rw [appN_eq] at hK
  generalize hst : (⟨n, fix, next, env, heap, gl⟩ : St) = st at *
  have hlk : st.lk id = some (.ext (boxS cs)) := by rw [← hst]; exact hid
  have hlk' : st.lk id' = some (.ext (boxS [y])) := by rw [← hst]; exact hid'
  have hfix : st.fix ≤ id := by rw [← hst]; exact Nat.le_of_ble_eq_true hfix
  have hcm := Nat.eq_of_beq_eq_true hcm
  have hsz := Nat.eq_of_beq_eq_true hsz
  have hw : Region.wanted o (yielded ops a.tmps) = true := by simp [Region.wanted, hg]
  rw [if_pos hw]
  left
  have hrs := (hs.s.ev s).un hsv.1
  have hrx := (hs.s.ev x).un hxv.1
  have hs2 : (evF st.get st.gl s).un = .own id m := hsv.2
  have hx2 : (evF st.get st.gl x).un = .own id' 1 := hxv.2
  rw [hs2] at hrs
  rw [hx2] at hrx
  simp only [RepV] at hrs hrx
  have hds : ∀ d, o.dst = some d → d < st.n := fun d hd' => by simp only [dstB, hd', decide_eq_true_eq] at hd; exact hd
  have hR := hs.s.rlt

  obtain ⟨yv, hyr, hyl, hyc⟩ : ∃ yv, RepV φ R w y yv ∧ (∀ w' : World, (Builtin.lenOf (a.eval x)).run P w' = .ok 1 w') ∧ ∀ w' : World, (∀ b, w'.heap[b]? = w.heap[b]?) → (Builtin.firstCells ee.size 1 (a.eval x)).run P w' = .ok #[yv] w' := by
    rcases hrx with ⟨_, h9, _⟩ | ⟨b, cap, hφ, hcap, hxs⟩
    · omega
    rcases hs.s.heap.rel id' _ hlk' with ⟨h0, _⟩ | ⟨b', cap', ob, hφ', hb', ⟨vs, te, fr, us, ws, rfl, p2, p3, p4, p5⟩, hnR⟩
    · rw [hφ] at h0; cases h0
    rw [hφ] at hφ'
    simp only [Option.some.injEq, Prod.mk.injEq] at hφ'
    obtain ⟨rfl, rfl⟩ := hφ'
    simp only [RepVs] at p5
    obtain ⟨yv, r, rfl, hr, rfl⟩ := p5
    refine ⟨yv, hr, fun w' => by rw [hxs]; simp [Builtin.lenOf], fun w' hw' => ?_⟩
    have hb2 : w'.heap[b]? = some (.cells vs te fr) := (hw' b).trans hb'
    have hl := run_loadCells_list (P := P) w' ⟨b, 0, none⟩ [yv] (fun j v hj => by
      rw [Addr.add_lit]
      simp only [World.cell?, hb2, Nat.zero_add]
      have : vs.toList[j]? = some v := by
        rw [p4]
        have hjl : j < [yv].length := (List.getElem?_eq_some_iff.1 hj).1
        rw [List.getElem?_append_left hjl]; exact hj
      simpa using this)
    rw [hxs]
    simp only [Builtin.firstCells, hsz]
    simpa using hl
  have hyo : yv.oneCell' = true := AV.one_rep hy hyr
  obtain ⟨p, cap, hav, hncap⟩ : ∃ p cap, a.eval s = .slice p m cap ∧ m ≤ cap := by
    rcases hrs with ⟨_, rfl, h9⟩ | ⟨b, cap, _, hc, h9⟩
    · exact ⟨none, 0, h9, Nat.le_refl _⟩
    · exact ⟨_, cap, h9, hc⟩
  have hex : (execOp a.eval o).run P w = ((Builtin.append_ #[ts, tx] o.type #[.slice p m cap, a.eval x]).run P w).andThen fun v w' => .ok (.value v) w' := by
    simp [execOp, ho, resolve, invoke, builtin, hav]
  have hnamed : ∀ j, Chunk.has j (.ext (boxS (cs ++ [y]))) = true → j ≠ id ∧ ∃ c, st.lk j = some c := fun j hj => by
    have hj2 := boxS_has hj
    refine ⟨fun e => by subst e; rw [List.contains_eq_mem, decide_eq_false_iff_not] at hno; exact hno hj2, ?_⟩
    rw [idsL_append, List.mem_append] at hj2
    rcases hj2 with h | h
    · exact hs.s.hnamed id _ j hlk (by simpa [Chunk.has, boxS] using h)
    · exact hs.s.hnamed id' _ j hlk' (by simpa [Chunk.has, boxS] using h)
  unfold Oper.wp
  rw [hex]
  by_cases hroom : m + 1 ≤ cap
  · rw [append_room hT he hk hee hni (hyl w) (hyc w (fun _ => rfl)) hroom]
    rcases hrs with ⟨hφ, hn0, hsl⟩ | ⟨b, cap', hφ, hncap', hsl⟩
    · rw [hav] at hsl
      simp only [Value.slice.injEq] at hsl
      omega
    rw [hav] at hsl
    simp only [Value.slice.injEq] at hsl
    obtain ⟨rfl, _, rfl⟩ := hsl
    rcases hs.s.heap.rel id _ hlk with ⟨h0, _⟩ | ⟨b', cap', ob, hφ', hb', ⟨vs, te, fr, us, ws, rfl, p2, p3, p4, p5⟩, hnR⟩
    · rw [hφ] at h0; cases h0
    rw [hφ] at hφ'
    simp only [Option.some.injEq, Prod.mk.injEq] at hφ'
    obtain ⟨rfl, rfl⟩ := hφ'
    have hul := p5.length
    have hvl0 : us.length + ws.length = vs.size := by rw [← Array.length_toList, p4, List.length_append]
    obtain ⟨vs', hv', hrun⟩ := run_storeCells_blk (P := P) (b := b) (off := 0 + m * ee.size) (e := te) (fr := fr) [yv] 0 vs w hb' (by simp only [List.length_singleton, hsz]; omega) p3 (by simp [hyo])
    have hadd : (⟨b, 0, none⟩ : Addr).add (m * ee.size) = ⟨b, 0 + m * ee.size, none⟩ := Addr.add_lit _ _ _
    simp only [hadd]
    rw [hrun]
    simp only [Result.andThen_ok]
    have hlt : b < w.heap.size := (Array.getElem?_eq_some_iff.1 hb').1
    have hcell : ∀ k o', R k o' → (setBlk w b (.cells vs' te fr)).cell? ⟨k, o', none⟩ = w.cell? ⟨k, o', none⟩ := fun k o' hr => setBlk_cell (fun h => by subst h; exact hnR o' hr)
    have hv2 : vs'.toList = (us ++ [yv]) ++ ws.drop 1 := by
      rw [hv', p4]
      simp only [Nat.mul_one, Nat.add_zero, Nat.zero_add, hsz, List.length_singleton]
      have e1 : (us ++ ws).take m = us := by rw [← hcm, ← hul]; simp
      have e2 : (us ++ ws).drop (m + 1) = ws.drop 1 := by rw [← hcm, ← hul, ← List.drop_drop]; simp
      rw [e1, e2]
    have hvl : vs'.size = vs.size := by
      rw [← Array.length_toList, hv2]
      simp only [List.length_append, List.length_singleton, List.length_drop]
      omega
    obtain ⟨h1, h2⟩ := app_satX hs hlk (fun j hj => (hnamed j hj).2) hfix (m := m + 1) (φ' := φ) (w' := setBlk w b (.cells vs' te fr)) (c1 := .ext (boxS (cs ++ [y]))) (fun _ _ => rfl) (fun _ _ h => h) (fun _ _ h => .inl h) (fun k o' h => by have := hs.s.rlt k o' h; simpa [setBlk] using this) rfl rfl rfl (by simp [setBlk]) hcell
      (fun k hk hne => setBlk_ne (fun h => hne cap (h ▸ hφ))) (.inr ⟨b, cap, _, hφ, setBlk_get hlt, ⟨vs', te, fr, us ++ [yv], ws.drop 1, rfl, by rw [hvl, p2], by rw [hvl]; exact p3, hv2, RepVs.mono (fun _ _ h => h) hcell (fun _ _ => rfl) (RepVs.append p5 ⟨yv, [], rfl, hyr, rfl⟩)⟩, hnR⟩)
      (fun b2 c2 h => .inr ⟨c2, h⟩) (u := .slice (some ⟨b, 0, none⟩) (m + 1) cap) (by simp only [RepV]; exact .inr ⟨b, cap, hφ, hroom, rfl⟩) o.dst hds
    exact hnext R φ _ _ _ hK h1 h2
  · obtain ⟨oldc, hrow0, hold⟩ : ∃ oldc : List Value, RepVs φ R w cs oldc ∧ (Builtin.firstCells ee.size m (.slice p m cap)).run P { w with drawn := w.drawn + 1 } = .ok oldc.toArray { w with drawn := w.drawn + 1 } := by
      rcases hrs with ⟨hφ, hn0, hsl⟩ | ⟨b, cap', hφ, hncap', hsl⟩
      · rw [hav] at hsl
        simp only [Value.slice.injEq] at hsl
        obtain ⟨rfl, _, rfl⟩ := hsl
        rw [hn0] at hcm
        have hc0 := List.eq_nil_of_length_eq_zero hcm
        subst hc0; subst hn0
        exact ⟨[], by simp [RepVs], by simp [Builtin.firstCells]⟩
      · rw [hav] at hsl
        simp only [Value.slice.injEq] at hsl
        obtain ⟨rfl, _, rfl⟩ := hsl
        rcases hs.s.heap.rel id _ hlk with ⟨h0, _⟩ | ⟨b', cap', ob, hφ', hb', ⟨vs, te, fr, us, ws, rfl, p2, p3, p4, p5⟩, hnR⟩
        · rw [hφ] at h0; cases h0
        rw [hφ] at hφ'
        simp only [Option.some.injEq, Prod.mk.injEq] at hφ'
        obtain ⟨rfl, rfl⟩ := hφ'
        have hul := p5.length
        refine ⟨us, p5, ?_⟩
        have hl := run_loadCells_list (P := P) { w with drawn := w.drawn + 1 } ⟨b, 0, none⟩ us (fun j v hj => by
          rw [Addr.add_lit]
          simp only [World.cell?, hb', Nat.zero_add]
          have : vs.toList[j]? = some v := by
            rw [p4, List.getElem?_append_left (List.getElem?_eq_some_iff.1 hj).1]; exact hj
          simpa using this)
        have e0 : us.length = m * ee.size := by rw [hul, hcm, hsz, Nat.mul_one]
        rw [e0] at hl
        simp only [Builtin.firstCells]
        exact hl
    obtain ⟨newCap, zs, hcap, hzs, hrun⟩ := append_grow hT (rt := o.type) he hk hee hni (hyl w) (hyc { w with drawn := w.drawn + 1 } (fun _ => rfl)) hold hroom hb.1 hb.2
    rw [hrun]
    simp only [Result.andThen_ok]
    have hcell : ∀ k o', R k o' → (pushed w (.cells (oldc.toArray ++ #[yv] ++ zs) et) (w.drawn + 1)).cell? ⟨k, o', none⟩ = w.cell? ⟨k, o', none⟩ := fun k o' hr => pushed_cell (hR k o' hr)
    have hol := hrow0.length
    have hsize : (oldc.toArray ++ #[yv] ++ zs).size = newCap := by
      simp only [Array.size_append, List.size_toArray, hzs, hsz, List.length_singleton]
      omega
    obtain ⟨h1, h2⟩ := app_satX hs hlk (fun j hj => (hnamed j hj).2) hfix (m := m + 1) (φ' := setPlace φ id (some (w.heap.size, newCap))) (w' := pushed w (.cells (oldc.toArray ++ #[yv] ++ zs) et) (w.drawn + 1)) (c1 := .ext (boxS (cs ++ [y])))
      (fun j hj => by simp [setPlace, hj]) (fun _ _ h => h) (fun _ _ h => .inl h) (fun k o' h => by have := hR k o' h; show k < (w.heap.push _).size; rw [Array.size_push]; omega) rfl rfl rfl (by simp [pushed]) hcell (fun k hk _ => by show (w.heap.push _)[k]? = _; rw [Array.getElem?_push, if_neg (by omega)])
      (.inr ⟨w.heap.size, newCap, _, by simp [setPlace], pushed_get _ _ _, ⟨_, et, (0, 0), oldc ++ [yv], zs.toList, rfl, hsize, noFr_zero _, by simp, RepVs.mono (fun _ _ h => h) hcell (fun j hj => by
        have := (hnamed j (by
          simp only [Chunk.has, boxS, List.contains_eq_mem, decide_eq_true_eq]
          exact AV.hasAny_ids hj)).1
        simp [setPlace, this]) (RepVs.append hrow0 ⟨yv, [], rfl, hyr, rfl⟩)⟩, not_prot_new hR⟩)
      (fun b2 c2 h => by simp only [setPlace, if_true, Option.some.injEq, Prod.mk.injEq] at h; exact .inl (by omega)) (u := .slice (some ⟨w.heap.size, 0, none⟩) (m + 1) newCap)
      (by simp only [RepV]; exact .inr ⟨w.heap.size, newCap, by simp [setPlace], hcap, rfl⟩) o.dst hds
    exact hnext R _ _ _ _ hK h1 h2
/-! ### a loop unrolled -/
/-- The loop comes to its end within so many rounds. -/
def TriL (P : Program) (c : Code) (Q : Exit → St → Prop) : Nat → St → Prop
  | 0, _ => False
  | m + 1, st => Tri P c (thenQ (TriL P c Q m) Q) st
theorem TriL.go {c : Code} {Q : Exit → St → Prop} {m : Nat} {st : St} (h : Tri P c (thenQ (TriL P c Q m) Q) st) : TriL P c Q (m + 1) st := h
theorem Tri.loopN {c : Code} {Q : Exit → St → Prop} {st : St} (m : Nat) (h : TriL P c Q m st) : Tri P (.loop c) Q st :=
  Tri.loop (ι := Nat × St) (fun x => x.2) (fun x => TriL P c Q x.1 x.2) (fun x => x.1) (m, st) h (Le.refl _) (fun i hi => by
    obtain ⟨k, s⟩ := i
    cases k with
    | zero => exact hi.elim
    | succ k =>
      have hi : Tri P c (thenQ (TriL P c Q k) Q) s := hi
      exact hi.mono fun e s' hs => by
        cases e with
        | normal => exact ⟨(k, s'), hs, Nat.lt_succ_self k, Le.refl _⟩
        | _ => exact hs)
end Go.Fw

