import Derived.Test.YtopnempdeopjfaaGFw6
import Derived.RangeFuncRecord
set_option linter.all false
/- The framework, part 27: a range over a function: rounds, yields, marks. -/
namespace Go.Fw
/-- The widest fence, in a round or in none. -/
abbrev FW (ro : Option Nat) : Fence := { Fence.wide with round := ro }
section
variable {P : Program}
theorem rowsIn_of {ro : Option Nat} {n : Nat} {row : String} {args : Array Value} {w : World} {R : Value → World → Prop} (h : Rows P row args w R) : RowsIn (FW ro) n P row args w R :=
  fun c cs _ => let ⟨v, w', r, s⟩ := h c cs; ⟨v, w', r, stepsIn_wide.2 s⟩
theorem callsIn_ro {ro : Option Nat} {n : Nat} {f : FuncId} {args : Array Value} {w : World} {R : Ending → World → Prop} (h : Calls P f args w R) : CallsIn (FW ro) n P f args w R :=
  ⟨trivial, fun cs _ => let ⟨e, w', fr, r, s, x⟩ := h cs; ⟨e, w', fr, r, comesIn_wide.2 s, x⟩⟩
def noDefer (o : Oper) : Bool := match o.op with | .defer _ => false | _ => true
theorem op_in {ro : Option Nat} {n : Nat} {o : Oper} {a : Act} {w : World} {next next' : Act → World → Prop} {Q : Exit → Act → World → Prop} (hd : noDefer o = true) (h : o.wp P a w next Q) (hn : ∀ a w, next a w → next' a w) : o.wpIn (FW ro) n P a w next' Q := by
  refine ⟨fun _ _ => trivial, ?_⟩
  rw [Oper.semAt_eq _ _ _ (fun c hc => by rw [noDefer, hc] at hd; cases hd)]
  unfold Oper.wp at h
  generalize (execOp a.eval o).run P w = r at h
  match r, h with
  | .ok (.value v) w', h => exact hn _ _ h
  | .ok .skip w', h => exact hn _ _ h
  | .ok (.defer d) w', h => exact hn _ _ h
  | .ok (.enter f args) w', h =>
    refine ⟨fun h => (by cases h), (callsIn_ro h).mono ?_⟩
    rintro (v | c | _) w'' hR
    · exact hn _ _ hR
    · exact hR
    · exact hR
  | .ok (.row row args) w', h => exact ⟨fun h => (by cases h), (rowsIn_of h).mono fun v w'' hR => hn _ _ hR⟩
  | .halt (.panic v) w', h => exact h
theorem wpOps_in {ro : Option Nat} {n : Nat} {ops : Array Oper} {Q : Exit → Act → World → Prop} (hd : ops.all noDefer = true) (hQ : ∀ a w, ¬ Q .outgrown a w) : ∀ (l : List Nat) (a : Act) (w : World), wpOps P ops Q l a w → wpOpsIn (FW ro) n P ops Q l a w
  | [], a, w, h => h
  | i :: rest, a, w, h => by
    simp only [wpOps, wpOpsIn] at h ⊢
    cases ho : ops[i]? with
    | none => rw [ho] at h; exact wpOps_in hd hQ rest a w h
    | some o =>
      rw [ho] at h
      simp only at h ⊢
      have hdo : noDefer o = true := by
        rw [Array.all_eq_true] at hd
        obtain ⟨hi, rfl⟩ := Array.getElem?_eq_some_iff.1 ho
        exact hd i hi
      split
      · rename_i hw
        rw [if_pos hw] at h
        rcases h with h | ⟨_, a0, w0, h⟩
        · exact op_in hdo h (fun a w => wpOps_in hd hQ rest a w)
        · exact absurd h (hQ a0 w0)
      · rename_i hw
        rw [if_neg hw] at h
        exact ⟨fun _ _ => trivial, wpOps_in hd hQ rest _ _ h⟩
theorem wpOpsIn_append {F : Fence} {n : Nat} {ops : Array Oper} {Q : Exit → Act → World → Prop} : ∀ (l l2 : List Nat) (a : Act) (w : World), wpOpsIn F n P ops (Exit.then (wpOpsIn F n P ops Q l2) Q) l a w → wpOpsIn F n P ops Q (l ++ l2) a w
  | [], _, a, w, h => h
  | i :: rest, l2, a, w, h => by
    simp only [wpOpsIn, List.cons_append] at h ⊢
    cases ho : ops[i]? with
    | none => rw [ho] at h; exact wpOpsIn_append rest l2 a w h
    | some o =>
      rw [ho] at h
      simp only at h ⊢
      split
      · rename_i hw
        rw [if_pos hw] at h
        refine ⟨h.1, ?_⟩
        have h2 := h.2
        generalize (o.semAt F.round a.eval).run P w = r at h2
        match r, h2 with
        | .ok (.value v) w', h => exact wpOpsIn_append rest l2 _ _ h
        | .ok .skip w', h => exact wpOpsIn_append rest l2 _ _ h
        | .ok (.defer d) w', h => exact wpOpsIn_append rest l2 _ _ h
        | .ok (.enter f args) w', h =>
          refine ⟨h.1, h.2.mono ?_⟩
          rintro (v | c | _) w'' hR
          · exact wpOpsIn_append rest l2 _ _ hR
          · exact hR
          · exact hR
        | .ok (.row row args) w', h => exact ⟨h.1, h.2.mono fun v w'' hR => wpOpsIn_append rest l2 _ _ hR⟩
        | .ok (.round l f tmps assign body) w', h =>
          refine ⟨h.1, h.2.mono ?_⟩
          rintro (v | c | _) w'' hR
          · exact wpOpsIn_append rest l2 _ _ hR
          · exact hR
          · exact hR
        | .halt (.panic v) w', h => exact h
      · rename_i hw
        rw [if_neg hw] at h
        exact ⟨h.1, wpOpsIn_append rest l2 _ _ h.2⟩
theorem wpOpsIn_mono {F : Fence} {n : Nat} {ops : Array Oper} {Q Q' : Exit → Act → World → Prop} (hq : ∀ e a w, Q e a w → Q' e a w) : ∀ (l : List Nat) (a : Act) (w : World), wpOpsIn F n P ops Q l a w → wpOpsIn F n P ops Q' l a w
  | [], a, w, h => hq _ _ _ h
  | i :: rest, a, w, h => by
    simp only [wpOpsIn] at h ⊢
    cases ho : ops[i]? with
    | none => rw [ho] at h; exact wpOpsIn_mono hq rest a w h
    | some o =>
      rw [ho] at h
      simp only at h ⊢
      split
      · rename_i hw
        rw [if_pos hw] at h
        refine ⟨h.1, ?_⟩
        have h2 := h.2
        generalize (o.semAt F.round a.eval).run P w = r at h2
        match r, h2 with
        | .ok (.value v) w', h => exact wpOpsIn_mono hq rest _ _ h
        | .ok .skip w', h => exact wpOpsIn_mono hq rest _ _ h
        | .ok (.defer d) w', h => exact wpOpsIn_mono hq rest _ _ h
        | .ok (.enter f args) w', h =>
          refine ⟨h.1, h.2.mono ?_⟩
          rintro (v | c | _) w'' hR
          · exact wpOpsIn_mono hq rest _ _ hR
          · exact hq _ _ _ hR
          · obtain ⟨a0, w0, h0⟩ := hR; exact ⟨a0, w0, hq _ _ _ h0⟩
        | .ok (.row row args) w', h => exact ⟨h.1, h.2.mono fun v w'' hR => wpOpsIn_mono hq rest _ _ hR⟩
        | .ok (.round l f tmps assign body) w', h =>
          refine ⟨h.1, h.2.mono ?_⟩
          rintro (v | c | _) w'' hR
          · exact wpOpsIn_mono hq rest _ _ hR
          · exact hq _ _ _ hR
          · obtain ⟨a0, w0, h0⟩ := hR; exact ⟨a0, w0, hq _ _ _ h0⟩
        | .halt (.panic v) w', h => exact hq _ _ _ h
      · rename_i hw
        rw [if_neg hw] at h
        exact ⟨h.1, wpOpsIn_mono hq rest _ _ h.2⟩
/-! ### triples within a round -/
/-- The same as Tri, of code that runs in a round of a loop. -/
structure TriR (P : Program) (l : Nat) (c : Code) (Q : Exit → St → Prop) (st : St) : Prop where
  of : codeDst st.n c = true → ∀ (n : Nat) R φ a w, Sat R φ st a w → c.wpIn (FW (some l)) n P (Post st R φ w Q) a w
theorem TriR.seq {l : Nat} {x y : Code} {Q : Exit → St → Prop} {st : St} (h : TriR P l x (thenQ (fun s => TriR P l y Q s) Q) st) : TriR P l (.seq x y) Q st := ⟨fun hd n R φ a w hs => by
  simp only [codeDst, Bool.and_eq_true] at hd
  refine wpIn_seq (wpIn_mono (h.of hd.1 n R φ a w hs) ?_)
  rintro e a' w' ⟨p1, p2, R', φ', st', q, hs', he⟩
  cases e with
  | normal =>
    have hn : st'.n = st.n := he.n
    exact wpIn_mono (q.of (by rw [hn]; exact hd.2) n R' φ' a' w' hs') fun e2 a2 w2 ⟨r1, r2, R2, φ2, st2, q2, hs2, he2⟩ => ⟨r1, r2, R2, φ2, st2, q2, hs2, he.trans he2⟩
  | panic ch => exact absurd rfl (p1 ch)
  | outgrown => exact absurd rfl p2
  | exit id => exact ⟨p1, p2, R', φ', st', q, hs', he⟩
  | goto l => exact ⟨p1, p2, R', φ', st', q, hs', he⟩
  | ret => exact ⟨p1, p2, R', φ', st', q, hs', he⟩⟩
theorem TriR.block {l id : Nat} {c : Code} {Q : Exit → St → Prop} {st : St} (h : TriR P l c (blockQ id Q) st) : TriR P l (.block id c) Q st := ⟨fun hd n R φ a w hs => by
  refine wpIn_block (wpIn_mono (h.of hd n R φ a w hs) ?_)
  rintro e a' w' ⟨p1, p2, R', φ', st', q, hs', he⟩
  cases e with
  | normal => exact ⟨p1, p2, R', φ', st', q, hs', he⟩
  | exit id' =>
    simp only [Exit.inBlock]
    split
    · rename_i e; subst e
      exact ⟨by simp, by simp, R', φ', st', by simpa [blockQ] using q, hs', he⟩
    · rename_i e
      have hb : Nat.beq id' id = false := by
        cases hb : Nat.beq id' id with
        | false => rfl
        | true => exact absurd (Nat.eq_of_beq_eq_true hb) e
      refine ⟨by simp, by simp, R', φ', st', ?_, hs', he⟩
      simpa only [blockQ, hb] using q
  | goto l => exact ⟨p1, p2, R', φ', st', q, hs', he⟩
  | ret => exact ⟨p1, p2, R', φ', st', q, hs', he⟩
  | panic ch => exact absurd rfl (p1 ch)
  | outgrown => exact absurd rfl p2⟩
theorem TriR.reg {T : Tab} (hT : tabOK P T = true) {l id : Nat} {ops : Array Oper} {Q : Exit → St → Prop} {st : St} (hnd : ops.all noDefer = true) (h : awpSeqN P T ops ops.toList st (fun s => Q .normal s)) : TriR P l (.region id ops false) Q st := ⟨fun hd n R φ a w hs => by
  rw [awpSeqN_eq] at h
  refine wpIn_region (wpOps_in hnd (fun a w h => h.out rfl) _ a w ?_)
  have := seq_sound hT (Q := Post st R φ w Q) ops.toList 0 st _ R φ a w h (fun i o ho => by simpa using ho) (by rw [Array.all_toList]; exact hd) hs
    (fun R' φ' st' a' w' hk hs' he => ⟨by simp, by simp, R', φ', st', hk, hs', he⟩)
  rw [List.range_eq_range', ← Array.length_toList]
  exact this⟩
theorem TriR.le {l : Nat} {c : Code} {Q : Exit → St → Prop} {st : St} (S : St) (h : Le st S) (k : TriR P l c Q S) : TriR P l c Q st := ⟨fun hd n R φ a w hs => by
  obtain ⟨R1, φ1, h1, e1⟩ := h R φ a w hs
  have hn : S.n = st.n := e1.n
  exact wpIn_mono (k.of (by rw [hn]; exact hd) n R1 φ1 a w h1) fun e a' w' ⟨p1, p2, R', φ', st', q, hs', he⟩ => ⟨p1, p2, R', φ', st', q, hs', e1.trans he⟩⟩
end
end Go.Fw

/- The framework, part 28: the record of a loop over a function as a chunk; a yield is a call that changes chunks. -/
namespace Go.Fw
theorem mem_of_lookup {α : Type} {k : Nat} {a : α} {l : List (Nat × α)} (h : lookup k l = some a) : a ∈ l.map (·.2) := List.mem_map.2 ⟨(k, a), lookup_mem h, rfl⟩
/-- The record of a loop that waits for its next round. -/
def loopX (n : Nat) (E : List (Nat × AV)) (ps : Array Tmp) (assign body : Code) : XCh where
  ids := AV.idsL (E.map (·.2))
  fixed := true
  nil := False
  rel φ R w b o cap := ∃ fn tmps D, o = .loop { state := .ready, pending := none, fn := fn, tmps := tmps, params := ps, assign := assign, body := body, defers := D } ∧ tmps.size = n ∧ ∀ t v, lookup t E = some v → RepV φ R w v (tmps.getD t undef)
  mono := by
    rintro φ φ' R R' w w' b o cap hR hw hφ ⟨fn, tmps, D, rfl, h1, h2⟩
    refine ⟨fn, tmps, D, rfl, h1, fun t v hv => RepV.mono hR hw (fun id hid => hφ id ?_) (h2 t v hv)⟩
    rw [List.contains_iff_mem]
    exact AV.hasAny_ids (hasAny_mem (mem_of_lookup hv) hid)
/-- The function that asks for a round of the loop whose record lies at a chunk. -/
def yieldV (k : Nat) : XV where
  ids := [k]
  rel φ R w v := ∃ b cap, φ k = some (b, cap) ∧ v = .func (.yield b) #[] #[]
  mono := by
    rintro φ φ' R R' w w' v hR hw hφ ⟨b, cap, h, rfl⟩
    exact ⟨b, cap, (hφ k (by simp)).trans h, rfl⟩
  one := by rintro φ R w v ⟨b, cap, _, rfl⟩; rfl
/-! ### a block that is nobody's changes -/
theorem cell_put {w : World} {l b i : Nat} {o : Obj} (h : b ≠ l) : (w.putObj l o).cell? ⟨b, i, none⟩ = w.cell? ⟨b, i, none⟩ := by
  unfold World.cell?
  rw [World.putObj_heap_other h]
def Free (R : Prot) (φ : Place) (H : Heap) (l : Nat) : Prop := (∀ j, ¬ R l j) ∧ ∀ id c cap, H id = some c → φ id ≠ some (l, cap)
theorem Free.ne {R : Prot} {φ : Place} {H : Heap} {l : Nat} (h : Free R φ H l) {b o : Nat} (hr : R b o) : b ≠ l := fun e => h.1 o (e ▸ hr)
theorem HRel.put {R : Prot} {φ : Place} {w : World} {H : Heap} {l : Nat} (h : HRel φ R w H) (hf : Free R φ H l) (o : Obj) : HRel φ R (w.putObj l o) H :=
  ⟨fun id c hc => (h.rel id c hc).mono rfl (fun _ _ => rfl) (fun _ _ h => h) (fun b i hr => cell_put (hf.ne hr)) (fun b cap hp _ => ⟨World.putObj_heap_other (fun e => hf.2 id c cap hc (e ▸ hp)), fun _ h => h⟩), h.inj⟩
theorem Sat.put {R : Prot} {φ : Place} {st : St} {a : Act} {w : World} {l : Nat} (h : Sat R φ st a w) (hf : Free R φ st.lk l) (o : Obj) : Sat R φ st a (w.putObj l o) :=
  ⟨⟨fun t => RepV.mono (fun _ _ h => h) (fun b i hr => cell_put (hf.ne hr)) (fun _ _ => rfl) (h.s.env t), h.s.named, h.s.hnamed, h.s.hnext, h.s.sz, h.s.heap.put hf o, fun b o hr => by rw [World.putObj_size]; exact h.s.rlt b o hr, h.s.defers,
    fun g cs hg => ⟨RepV.mono (fun _ _ h => h) (fun b i hr => cell_put (hf.ne hr)) (fun _ _ => rfl) (h.s.gl g cs hg).1, (h.s.gl g cs hg).2⟩⟩, h.fx⟩
abbrev orB (O : Nat → Prop) (l : Nat) : Nat → Prop := fun x => O x ∨ x = l
theorem Evo.put {R : Prot} {O : Nat → Prop} {w : World} {l : Nat} (hR : ∀ j, ¬ R l j) (o : Obj) : Evo R (orB O l) w R (orB O l) (w.putObj l o) :=
  ⟨rfl, rfl, rfl, by rw [World.putObj_size]; exact Nat.le_refl _, fun b _ ho => World.putObj_heap_other (fun e => ho (.inr e)), fun _ _ h => h, fun b i hr => cell_put (fun e => hR i (e ▸ hr)), fun _ _ h => .inl h, fun _ h => .inr h⟩
theorem Evo.widen {R R' : Prot} {O O' : Nat → Prop} {w w' : World} (h : Evo R O w R' O' w') (l : Nat) : Evo R (orB O l) w R' (orB O' l) w' :=
  ⟨h.os, h.tape, h.output, h.size, fun b hb ho => h.keep b hb (fun q => ho (.inl q)), h.rmono, h.rkeep, fun b o hr => (h.rnew b o hr).imp id (Or.imp id .inl), fun b hb => by
    rcases hb with hb | rfl
    · exact (h.onew b hb).imp id .inl
    · exact .inr (.inr rfl)⟩
theorem Evo.narrow {R R' : Prot} {O O' O2 : Nat → Prop} {w w' : World} {l : Nat} (h : Evo R (orB O l) w R' (orB O' l) w') (hl : w'.heap[l]? = w.heap[l]?) (hR : ∀ j, ¬ R' l j) (h2 : ∀ x, O2 x → O' x ∧ x ≠ l) : Evo R O w R' O2 w' :=
  ⟨h.os, h.tape, h.output, h.size, fun b hb ho => by
    by_cases e : b = l
    · subst e; exact hl
    · exact h.keep b hb (fun q => q.elim ho e), h.rmono, h.rkeep, fun b o hr => by
    rcases h.rnew b o hr with q | q | q | rfl
    · exact .inl q
    · exact .inr (.inl q)
    · exact .inr (.inr q)
    · exact absurd hr (hR o), fun b hb => by
    obtain ⟨h3, h4⟩ := h2 b hb
    rcases h.onew b (.inl h3) with q | q | q
    · exact .inl q
    · exact .inr q
    · exact absurd q h4⟩
/-! ### a round's body -/
def bodySt (n : Nat) (E : List (Nat × AV)) (ps : Array Tmp) (args : List AV) (h : List (Nat × Chunk)) (fix next : Nat) : St := ⟨n, fix, next, (ps.toList.zip args).reverse ++ E, h, []⟩
/-- What a round does to the chunks, for these arguments. -/
structure BodyOK (P : Program) (n : Nat) (E : List (Nat × AV)) (ps : Array Tmp) (assign body : Code) (args : List AV) (h h' : List (Nat × Chunk)) (fix next : Nat) : Prop where
  dst : (codeDst n assign && codeDst n body) = true
  closed : (bodySt n E ps args h fix next).closed = true
  box : boxesOK fix h' h = true
  size : ps.size = args.length
  lt : ps.all (fun t => Nat.blt t n) = true
  tri : ∀ l, TriR P l assign (fun e s => e = .normal ∧ TriR P l body (fun e s' => e = .normal ∧ heapLe h' s') s) (bodySt n E ps args h fix next)
theorem setP_size : ∀ (l : List (Tmp × Value)) (tm : Array Value), (l.foldl (fun tm p => tm.setIfInBounds p.1 p.2) tm).size = tm.size
  | [], _ => rfl
  | _ :: l, tm => by rw [List.foldl_cons, setP_size l]; simp
theorem setP_rep {φ : Place} {R : Prot} {w : World} : ∀ (ts : List Tmp) (xs : List AV) (vs : List Value) (E : List (Nat × AV)) (tm : Array Value), ts.length = xs.length → RepVs φ R w xs vs → (∀ t ∈ ts, t < tm.size) →
    (∀ t, RepV φ R w (match lookup t E with | some v => v | none => .any) (tm.getD t undef)) →
    ∀ t, RepV φ R w (match lookup t ((ts.zip xs).reverse ++ E) with | some v => v | none => .any) (((ts.zip vs).foldl (fun tm p => tm.setIfInBounds p.1 p.2) tm).getD t undef)
  | [], _, _, _, _, _, _, _, h, t => by simpa using h t
  | _ :: _, [], _, _, _, hl, _, _, _, _ => by simp at hl
  | x :: ts, a :: xs, vs, E, tm, hl, hr, ht, h, t => by
    simp only [RepVs] at hr
    obtain ⟨v, vs, rfl, h1, hr⟩ := hr
    have ih := setP_rep ts xs vs ((x, a) :: E) (tm.setIfInBounds x v) (by simpa using hl) hr (fun t' h' => by rw [Array.size_setIfInBounds]; exact ht t' (List.mem_cons_of_mem _ h')) (fun t' => by
      rw [lookup_cons]
      by_cases e : x = t'
      · subst e
        rw [if_pos rfl]
        have hx := ht x (List.mem_cons_self ..)
        simp only [Array.getD_eq_getD_getElem?]
        rw [Array.getElem?_setIfInBounds_self_of_lt hx]
        exact h1
      · rw [if_neg e]
        simp only [Array.getD_eq_getD_getElem?]
        rw [Array.getElem?_setIfInBounds_ne e]
        have := h t'
        rwa [Array.getD_eq_getD_getElem?] at this) t
    simpa using ih
theorem foldl_zip (ps : Array Tmp) (vs : Array Value) (tm : Array Value) : (ps.zip vs).foldl (fun tmps (t, a) => tmps.setIfInBounds t a) tm = (ps.toList.zip vs.toList).foldl (fun tm p => tm.setIfInBounds p.1 p.2) tm := by
  rw [← Array.foldl_toList, Array.toList_zip]
section
variable {P : Program}
/-- One operation of a region that may be a yield. -/
def YStep (P : Program) (o : Oper) (st : St) (K : St → Prop) : Prop :=
  dstB o st.n = true → ∀ (R : Prot) (φ : Place) (a : Act) (w : World), Sat R φ st a w → ∀ (n : Nat) (next : Act → World → Prop) (Q : Exit → Act → World → Prop),
    (∀ R' φ' a' w' st', K st' → Sat R' φ' st' a' w' → Ext st R φ w st' R' φ' w' → next a' w') → o.wpIn (FW none) n P a w next Q
theorem Tri.regY {T : Tab} (hT : tabOK P T = true) (k : Nat) {id : Nat} {ops : Array Oper} {o : Oper} {Q : Exit → St → Prop} {st : St} (hk : ops[k]? = some o) (hg : o.guard = none) (hnd : ops.all noDefer = true)
    (h : awpSeqN P T ops (ops.toList.take k) st fun s => YStep P o s fun s' => awpSeqN P T ops (ops.toList.drop (k + 1)) s' fun s => Q .normal s) : Tri P (.region id ops false) Q st := ⟨fun hd R φ a w hs => by
  rw [← wpIn_wide (n := 0)]
  refine wpIn_region ?_
  simp only [awpSeqN_eq] at h
  obtain ⟨hkl, hko⟩ := Array.getElem?_eq_some_iff.1 hk
  have hda : ops.toList.all (dstB · st.n) = true := by rw [Array.all_toList]; exact hd
  have e : List.range ops.size = List.range' 0 k ++ (k :: List.range' (k + 1) (ops.size - (k + 1))) := by
    rw [List.range_eq_range', show ops.size = k + (1 + (ops.size - (k + 1))) by omega, List.range'_append_1.symm, Nat.add_comm 1, List.range'_succ]
    simp only [Nat.zero_add, Nat.one_mul]
    congr 3
    omega
  rw [e]
  refine wpOpsIn_append _ _ _ _ ?_
  have h1 := seq_sound hT (Q := fun e a' w' => e = .normal ∧ ∃ R' φ' st', (YStep P o st' fun s' => awpSeq P T ops (ops.toList.drop (k + 1)) s' fun s => Q .normal s) ∧ Sat R' φ' st' a' w' ∧ Ext st R φ w st' R' φ' w')
    (ops.toList.take k) 0 st _ R φ a w h (fun i o ho => by
      rw [Nat.zero_add]
      have hi : i < k := by
        have := (List.getElem?_eq_some_iff.1 ho).1
        rw [List.length_take] at this; omega
      rw [List.getElem?_take_of_lt hi] at ho
      simpa using ho) (by
      rw [List.all_eq_true] at hda ⊢
      exact fun x hx => hda x (List.mem_of_mem_take hx)) hs (fun R' φ' st' a' w' hk hs' he => ⟨rfl, R', φ', st', hk, hs', he⟩)
  have hlen : (ops.toList.take k).length = k := by rw [List.length_take, Array.length_toList]; omega
  rw [hlen] at h1
  have h2 := wpOps_in (ro := none) (n := 0) hnd (fun a w h => by cases h.1) _ _ _ h1
  refine wpOpsIn_mono ?_ _ _ _ h2
  rintro e' a1 w1 ⟨rfl, R1, φ1, st1, hy, hs1, he1⟩
  show wpOpsIn (FW none) 0 P ops _ (k :: _) a1 w1
  simp only [wpOpsIn, hk]
  rw [if_pos (by simp [Region.wanted, hg])]
  have hdk : dstB o st1.n = true := by
    rw [he1.n]
    rw [List.all_eq_true] at hda
    exact hda o (by rw [← hko]; simp)
  refine hy hdk R1 φ1 a1 w1 hs1 0 _ _ ?_
  intro R2 φ2 a2 w2 st2 hk2 hs2 he2
  have h3 := seq_sound hT (Q := Post st R φ w Q) (ops.toList.drop (k + 1)) (k + 1) st2 _ R2 φ2 a2 w2 hk2 (fun i o ho => by
      rw [List.getElem?_drop] at ho
      simpa using ho) (by
      rw [he2.n, he1.n]
      rw [List.all_eq_true] at hda ⊢
      exact fun x hx => hda x (List.mem_of_mem_drop hx)) hs2 (fun R' φ' st' a' w' hk hs' he => ⟨by simp, by simp, R', φ', st', hk, hs', (he1.trans he2).trans he⟩)
  have hlen2 : (ops.toList.drop (k + 1)).length = ops.size - (k + 1) := by rw [List.length_drop, Array.length_toList]
  rw [hlen2] at h3
  exact wpOps_in (ro := none) (n := 0) hnd (fun a w h => h.out rfl) _ _ _ h3⟩
end
end Go.Fw

/- The framework, part 29: a yield; a range over a function; the function's return behind it. -/
namespace Go.Fw
section
variable {P : Program}
theorem owns_lt {φ : Place} {R : Prot} {w : World} {H : Heap} (h : HRel φ R w H) {b : Nat} (hb : Owns φ H b) : b < w.heap.size := by
  obtain ⟨id, c, cap, h1, h2⟩ := hb
  have hr := h.rel id c h1
  cases c with
  | box cs => obtain ⟨b', cap', vs, e, fr, q1, q2, _⟩ := hr; rw [h2] at q1; cases q1; exact (Array.getElem?_eq_some_iff.1 q2).1
  | arr t xs =>
    rcases hr with ⟨q1, _⟩ | ⟨b', cap', vs, e, fr, q1, q2, _⟩
    · rw [h2] at q1; cases q1
    · rw [h2] at q1; cases q1; exact (Array.getElem?_eq_some_iff.1 q2).1
  | ext X =>
    rcases hr with ⟨q1, _⟩ | ⟨b', cap', o, q1, q2, _⟩
    · rw [h2] at q1; cases q1
    · rw [h2] at q1; cases q1; exact (Array.getElem?_eq_some_iff.1 q2).1
/-- A yield, by what the round does. -/
theorem yield_step {o : Oper} {n fix next : Nat} {env : List (Nat × AV)} {heap : List (Nat × Chunk)} {K : St → Prop} {f : Operand} {args : Array Operand} {ats : Array TypeId} {k m : Nat} {E : List (Nat × AV)} {ps : Array Tmp} {assign body : Code}
    {h h' : List (Nat × Chunk)} {fx nx : Nat} (next' : Nat) (ho : o.op = .call ⟨.value f, args, ats⟩) (hf : (St.ev ⟨n, fix, next, env, heap, []⟩ f).un = .ex (yieldV k))
    (hB : BodyOK P m E ps assign body (args.toList.map fun x => (St.ev ⟨n, fix, next, env, heap, []⟩ x).un) h h' fx nx) (hok : needsAll ((Op.call ⟨.value f, args, ats⟩).operands.toList.map (St.ev ⟨n, fix, next, env, heap, []⟩)) True)
    (hrec : lookup k heap = some (.ext (loopX m E ps assign body))) (hle : heapLe h ⟨n, fix, next, env, heap, []⟩) (hk : hasKey k h = false)
    (hchk : callChk fix next next' h h' (.bool true) = true) (hK : calledN n fix env heap [] o.dst (.bool true) h h' next' K) : YStep P o ⟨n, fix, next, env, heap, []⟩ K := by
  intro hd R φ a w hsat n0 next0 Q hnext
  have hrec' : (St.lk ⟨n, fix, next, env, heap, []⟩) k = some (.ext (loopX m E ps assign body)) := hrec
  rw [calledN_eq n fix next env heap []] at hK
  have hchk' : callChk (St.fix ⟨n, fix, next, env, heap, []⟩) (St.next ⟨n, fix, next, env, heap, []⟩) next' h h' (.bool true) = true := hchk
  have hgl : (⟨n, fix, next, env, heap, []⟩ : St).gl = [] := rfl
  generalize hst : (⟨n, fix, next, env, heap, []⟩ : St) = st at *
  clear hst hrec hchk
  obtain ⟨hok, _⟩ := needsAll_iff hok
  have hok : ∀ x ∈ (Op.call ⟨.value f, args, ats⟩).operands, okP (st.ev x) := fun x hx => hok _ (List.mem_map.2 ⟨x, by simpa using hx, rfl⟩)
  have hfr := (hsat.s.ev f).un (hok f (by simp [Op.operands, Call.operands]))
  have hf' : (evF st.get st.gl f).un = .ex (yieldV k) := hf
  rw [hf'] at hfr
  simp only [RepV] at hfr
  obtain ⟨b, cap, hφ, hfv⟩ := hfr
  have hargs : RepVs φ R w (args.toList.map fun x => (st.ev x).un) (args.map a.eval).toList := by
    rw [Array.toList_map]
    exact repVs_map _ _ _ (fun x hx => (hsat.s.ev x).un (hok x (by simp [Op.operands, Call.operands]; exact .inr (by simpa using hx))))
  have hrel := hsat.s.heap.rel k _ hrec'
  obtain ⟨b', cap', ob, q1, q2, ⟨fn, tmps, D, rfl, hsz, hE⟩, q4⟩ : ∃ b cap o, φ k = some (b, cap) ∧ w.heap[b]? = some o ∧ (loopX m E ps assign body).rel φ R w b o cap ∧ ∀ o, ¬ R b o := by
    rcases hrel with ⟨_, h⟩ | h
    · exact h.elim
    · exact h
  rw [hφ] at q1; cases q1
  have hblt : b < w.heap.size := (Array.getElem?_eq_some_iff.1 q2).1
  have hlk : ∀ j c, lookup j h = some c → st.lk j = some c := fun j c hj => heapLe_get hle hj
  have hnotO : ¬ Owns φ (fun j => lookup j h) b := by
    rintro ⟨j, c, cap2, h1, h2⟩
    have := hsat.s.heap.inj j k c _ b cap2 cap (hlk j c h1) hrec' h2 hφ
    subst this
    have h1 : lookup j h = some c := h1
    rw [hasKey_none hk] at h1; cases h1
  have hal := hargs.length
  have hpsz : (args.map a.eval).size = ps.size := by rw [hB.size, ← hal]; simp
  have hy := run_yield (P := P) (args := args.map a.eval) q2 hpsz
  refine ⟨fun _ _ => trivial, ?_⟩
  have hnd : ∀ c, o.op ≠ .defer c := fun c hc => by rw [ho] at hc; cases hc
  rw [Oper.semAt_eq _ _ _ hnd]
  have hrun : (execOp a.eval o).run P w = .ok (.round b fn ((ps.zip (args.map a.eval)).foldl (fun tmps (t, a) => tmps.setIfInBounds t a) tmps) assign body) w := by
    simp only [execOp, ho, resolve, hfv, Deferred.ofValue, invoke, Sem.run_bind, Sem.run_pure, Result.andThen_ok]
    rw [Array.empty_append]
    exact hy
  rw [hrun, Oper.uponIn_round]
  refine ⟨fun h => (by cases h), ?_⟩
  have hdst := hB.dst
  simp only [Bool.and_eq_true] at hdst
  have hcl := hB.closed
  unfold St.closed at hcl
  simp only [Bool.and_eq_true] at hcl
  have hH : HRel φ R w (fun j => lookup j h) := ⟨fun j c hj => hsat.s.heap.rel j c (hlk j c hj), fun j j' c c' b cap cap' hj hj' => hsat.s.heap.inj j j' c c' b cap cap' (hlk j c hj) (hlk j' c' hj')⟩
  have hsat0 : Sat R φ (bodySt m E ps (args.toList.map fun x => (st.ev x).un) h fx nx) { tmps := (ps.zip (args.map a.eval)).foldl (fun tmps (t, a) => tmps.setIfInBounds t a) tmps, defers := [] } w := by
    refine ⟨⟨fun t => ?_, fun t j hj => ?_, fun j cs k hj hk => (heapClosed_mem hcl.1.2 hj).2 k hk, fun j c hj => (heapClosed_mem hcl.1.2 hj).1, ?_, hH, hsat.s.rlt, rfl, fun g cs hg => by simp [bodySt, lookup] at hg⟩, Nat.le_of_ble_eq_true hcl.2⟩
    · rw [foldl_zip]
      refine setP_rep ps.toList _ _ E tmps (by rw [Array.length_toList]; exact hB.size) hargs (fun t ht => ?_) (fun t => ?_) t
      · have := hB.lt
        rw [Array.all_eq_true'] at this
        have := this t (by simpa using ht)
        rw [hsz]
        rw [Nat.blt_eq] at this; exact this
      · cases hl : lookup t E with
        | none => simp [RepV]
        | some v => exact hE t v hl
    · cases hl : lookup t (bodySt m E ps (args.toList.map fun x => (st.ev x).un) h fx nx).env with
      | none =>
        have : (bodySt m E ps (args.toList.map fun x => (st.ev x).un) h fx nx).get t = .any := by simp [St.get, hl]
        rw [this] at hj; simp [AV.has] at hj
      | some v =>
        have : (bodySt m E ps (args.toList.map fun x => (st.ev x).un) h fx nx).get t = v := by simp [St.get, hl]
        rw [this] at hj
        exact envClosed_mem hcl.1.1 hl hj
    · rw [foldl_zip, setP_size]; exact hsz
  refine roundIn_of_wpIn trivial ?_
  refine wpIn_mono ((hB.tri b).of hdst.1 _ R φ _ w hsat0) ?_
  rintro e a1 w1 ⟨_, _, R1, φ1, S1, ⟨rfl, hbody⟩, hs1, he1⟩
  have e1 : Evo R (Owns φ (fun j => lookup j h)) w R1 (Owns φ1 S1.lk) w1 := he1.evo
  have hl1 : w1.heap[b]? = some (.loop { state := .ready, pending := none, fn := fn, tmps := tmps, params := ps, assign := assign, body := body, defers := D }) := (e1.keep b hblt hnotO).trans q2
  have hf1 : Free R1 φ1 S1.lk b := by
    refine ⟨fun j hj => ?_, fun id c cap2 h1 h2 => ?_⟩
    · rcases e1.rnew b j hj with q | q | q
      · exact q4 j q
      · omega
      · exact hnotO q
    · rcases e1.onew b ⟨id, c, cap2, h1, h2⟩ with q | q
      · omega
      · exact hnotO q
  refine ⟨_, run_beginRound hl1 rfl, ?_⟩
  have hs1' := hs1.put hf1 (.loop { state := .busy, pending := none, fn := fn, tmps := tmps, params := ps, assign := assign, body := body, defers := D })
  refine wpIn_mono (hbody.of (by rw [he1.n]; exact hdst.2) _ R1 φ1 a1 _ hs1') ?_
  rintro e a2 w3 ⟨_, _, R2, φ2, S2, ⟨rfl, hle2⟩, hs2, he2⟩
  have e2 := he2.evo
  have hblt1 : b < w1.heap.size := (Array.getElem?_eq_some_iff.1 hl1).1
  have hnotO1 : ¬ Owns φ1 S1.lk b := fun ⟨id, c, cap2, h1, h2⟩ => hf1.2 id c cap2 h1 h2
  have hl3 : w3.heap[b]? = some (.loop { state := .busy, pending := none, fn := fn, tmps := tmps, params := ps, assign := assign, body := body, defers := D }) :=
    (e2.keep b (by rw [World.putObj_size]; exact hblt1) hnotO1).trans (World.putObj_heap_same hblt1)
  have hblt3 : b < w3.heap.size := (Array.getElem?_eq_some_iff.1 hl3).1
  have hf2 : Free R2 φ2 S2.lk b := by
    refine ⟨fun j hj => ?_, fun id c cap2 h1 h2 => ?_⟩
    · rcases e2.rnew b j hj with q | q | q
      · exact hf1.1 j q
      · rw [World.putObj_size] at q; omega
      · exact hnotO1 q
    · rcases e2.onew b ⟨id, c, cap2, h1, h2⟩ with q | q
      · rw [World.putObj_size] at q; omega
      · exact hnotO1 q
  refine ⟨.bool true, _, run_endRound none hl3, ?_⟩
  have hs3 := hs2.put hf2 (.loop { state := .ready, pending := none, fn := fn, tmps := tmps, params := ps, assign := assign, body := body, defers := D })
  have hback : (w3.putObj b (.loop { state := .ready, pending := none, fn := fn, tmps := tmps, params := ps, assign := assign, body := body, defers := D })).heap[b]? = w.heap[b]? := (World.putObj_heap_same hblt3).trans q2.symm
  have hlk2 : ∀ j c, lookup j h' = some c → S2.lk j = some c := fun j c hj => heapLe_get hle2 hj
  have evo : Evo R (Owns φ (fun j => lookup j h)) w R2 (Owns φ2 (fun j => lookup j h')) (w3.putObj b (.loop { state := .ready, pending := none, fn := fn, tmps := tmps, params := ps, assign := assign, body := body, defers := D })) :=
    Evo.narrow (O' := Owns φ2 S2.lk) ((e1.widen b).trans ((Evo.put hf1.1 _).trans ((e2.widen b).trans (Evo.put hf2.1 _)))) hback hf2.1 (fun x ⟨id, c, cap2, h1, h2⟩ =>
      ⟨⟨id, c, cap2, hlk2 id c h1, h2⟩, fun hx => hf2.2 id c cap2 (hlk2 id c h1) (hx ▸ h2)⟩)
  obtain ⟨φ3, h1, h2⟩ := called_sat hsat hle hchk' (ret := .bool true) (v := .bool true) (by simp [RepV])
    (⟨fun j c hj => hs3.s.heap.rel j c (hlk2 j c hj), fun j j' c c' b cap cap' hj hj' => hs3.s.heap.inj j j' c c' b cap cap' (hlk2 j c hj) (hlk2 j' c' hj')⟩ : HRel φ2 R2 _ (fun j => lookup j h'))
    hs3.s.rlt evo (fun id c hid hcf => by
      obtain ⟨q5, q6⟩ := boxesOK_get hB.box hid hcf
      have hfx : S1.fix = fx := he1.fix
      exact ⟨(he2.place id (by rw [hfx]; exact q5)).trans (he1.place id q5), q6⟩) (dst := o.dst) (fun d hd' => by simp only [dstB, hd', decide_eq_true_eq] at hd; exact hd)
  exact hnext R2 φ3 _ _ _ hK h1 h2
end
end Go.Fw

/- The framework, part 30: the statement that ranges over a function, and what lies behind it. -/
namespace Go.Fw
abbrev coll (D : Nat) : Deferred := { target := .collected D, args := #[] }
/-- The deferred calls are none, or the mark of a loop over a function. -/
def MarkOK (m : Nat) (ds : List Deferred) (R : Prot) (φ : Place) (st : St) (w : World) : Prop := ds = [] ∨ ∃ D, m ≤ D ∧ ds = [coll D] ∧ w.heap[D]? = some (.deferred (some [])) ∧ Free R φ st.lk D
structure PostM (st : St) (R : Prot) (φ : Place) (w : World) (Q : Exit → St → Prop) (e : Exit) (a' : Act) (w' : World) : Prop where
  panic : ∀ ch, e ≠ .panic ch
  out : e ≠ .outgrown
  ex : ∃ R' φ' st', Q e st' ∧ Sat R' φ' st' { a' with defers := [] } w' ∧ Ext st R φ w st' R' φ' w' ∧ MarkOK w.heap.size a'.defers R' φ' st' w'
/-- As Tri, where a mark may be left among the deferred calls. -/
structure TriM (P : Program) (c : Code) (Q : Exit → St → Prop) (st : St) : Prop where
  of : codeDst st.n c = true → ∀ R φ a w, Sat R φ st a w → c.wp P (PostM st R φ w Q) a w
/-- A statement and what follows, the function's return with it. -/
structure TriY (P : Program) (y z : Code) (Q : Exit → St → Prop) (st : St) : Prop where
  of : codeDst st.n z = true → ∀ R φ a w, Sat R φ st a w → y.wp P (Exit.then (z.wp P (PostM st R φ w Q)) (PostM st R φ w Q)) a w
/-- As Tri, over whatever deferred calls. -/
structure TriT (P : Program) (c : Code) (Q : Exit → St → Prop) (st : St) : Prop where
  of : codeDst st.n c = true → ∀ R φ a w ds, Sat R φ st a w → c.wp P (fun e a' w' => a'.defers = ds ∧ Post st R φ w Q e { a' with defers := [] } w') { a with defers := ds } w
theorem act_nil {a : Act} (h : a.defers = []) : ({ a with defers := [] } : Act) = a := by cases a; simp at h; subst h; rfl
section
variable {P : Program}
theorem Post.m {st : St} {R : Prot} {φ : Place} {w : World} {Q : Exit → St → Prop} {e : Exit} {a' : Act} {w' : World} (h : Post st R φ w Q e a' w') : PostM st R φ w Q e a' w' := by
  obtain ⟨p1, p2, R', φ', st', q, hs, he⟩ := h
  exact ⟨p1, p2, R', φ', st', q, by rw [act_nil hs.s.defers]; exact hs, he, .inl hs.s.defers⟩
theorem PostM.trans {st st1 : St} {R R1 : Prot} {φ φ1 : Place} {w w1 : World} {Q : Exit → St → Prop} {e : Exit} {a' : Act} {w' : World} (he1 : Ext st R φ w st1 R1 φ1 w1) (h : PostM st1 R1 φ1 w1 Q e a' w') : PostM st R φ w Q e a' w' := by
  obtain ⟨p1, p2, R', φ', st', q, hs, he, hm⟩ := h
  exact ⟨p1, p2, R', φ', st', q, hs, he1.trans he, hm.imp (fun h => h) (fun ⟨D, h1, h2⟩ => ⟨D, Nat.le_trans he1.evo.size h1, h2⟩)⟩
theorem TriM.seq {x y : Code} {Q : Exit → St → Prop} {st : St} (h : Tri P x (thenQ (fun s => TriM P y Q s) Q) st) : TriM P (.seq x y) Q st := ⟨fun hd R φ a w hs => by
  simp only [codeDst, Bool.and_eq_true] at hd
  refine wp_seq (wp_mono (h.of hd.1 R φ a w hs) ?_)
  rintro e a' w' hp
  have hm := hp.m
  obtain ⟨p1, p2, R', φ', st', q, hs', he⟩ := hp
  cases e with
  | normal =>
    have hn : st'.n = st.n := he.n
    exact wp_mono (q.of (by rw [hn]; exact hd.2) R' φ' a' w' hs') fun e2 a2 w2 h2 => h2.trans he
  | panic ch => exact absurd rfl (p1 ch)
  | outgrown => exact absurd rfl p2
  | exit id => exact ⟨by simp, by simp, R', φ', st', q, by rw [act_nil hs'.s.defers]; exact hs', he, .inl hs'.s.defers⟩
  | goto l => exact ⟨by simp, by simp, R', φ', st', q, by rw [act_nil hs'.s.defers]; exact hs', he, .inl hs'.s.defers⟩
  | ret => exact ⟨by simp, by simp, R', φ', st', q, by rw [act_nil hs'.s.defers]; exact hs', he, .inl hs'.s.defers⟩⟩
theorem TriM.seq2 {x y z : Code} {Q : Exit → St → Prop} {st : St} (h : Tri P x (thenQ (fun s => TriY P y z Q s) Q) st) : TriM P (.seq (.seq x y) z) Q st := ⟨fun hd R φ a w hs => by
  simp only [codeDst, Bool.and_eq_true] at hd
  refine wp_seq (wp_seq (wp_mono (h.of hd.1.1 R φ a w hs) ?_))
  rintro e a' w' ⟨p1, p2, R', φ', st', q, hs', he⟩
  cases e with
  | normal =>
    have hn : st'.n = st.n := he.n
    refine wp_mono (q.of (by rw [hn]; exact hd.2) R' φ' a' w' hs') fun e2 a2 w2 h2 => ?_
    cases e2 with
    | normal => exact wp_mono h2 fun e3 a3 w3 h3 => h3.trans he
    | panic ch => exact PostM.trans he h2
    | outgrown => exact PostM.trans he h2
    | exit id => exact PostM.trans he h2
    | goto l => exact PostM.trans he h2
    | ret => exact PostM.trans he h2
  | panic ch => exact absurd rfl (p1 ch)
  | outgrown => exact absurd rfl p2
  | exit id => exact ⟨by simp, by simp, R', φ', st', q, by rw [act_nil hs'.s.defers]; exact hs', he, .inl hs'.s.defers⟩
  | goto l => exact ⟨by simp, by simp, R', φ', st', q, by rw [act_nil hs'.s.defers]; exact hs', he, .inl hs'.s.defers⟩
  | ret => exact ⟨by simp, by simp, R', φ', st', q, by rw [act_nil hs'.s.defers]; exact hs', he, .inl hs'.s.defers⟩⟩
theorem wpOps_ds {ops : Array Oper} {Q : Exit → Act → World → Prop} (hQ : ∀ a w, ¬ Q .outgrown a w) (ds : List Deferred) : ∀ (l : List Nat) (a : Act) (w : World), wpOps P ops Q l a w →
    wpOps P ops (fun e a' w' => ∃ pre, a'.defers = pre ++ ds ∧ Q e { a' with defers := pre } w') l { a with defers := a.defers ++ ds } w
  | [], a, w, h => ⟨a.defers, rfl, h⟩
  | i :: rest, a, w, h => by
    have hput : ∀ (a : Act) (dst : Option Nat) (v : Value), ({ a with defers := a.defers ++ ds } : Act).put dst v = { (a.put dst v) with defers := (a.put dst v).defers ++ ds } := fun a dst v => by cases dst <;> rfl
    simp only [wpOps] at h ⊢
    cases ho : ops[i]? with
    | none => rw [ho] at h; exact wpOps_ds hQ ds rest a w h
    | some o =>
      rw [ho] at h
      simp only at h ⊢
      split
      · rename_i hw
        rw [if_pos hw] at h
        rcases h with h | ⟨_, a0, w0, h⟩
        · left
          unfold Oper.wp at h ⊢
          have he : ({ a with defers := a.defers ++ ds } : Act).eval = a.eval := rfl
          rw [he]
          generalize (execOp a.eval o).run P w = r at h
          match r, h with
          | .ok (.value v) w', h => show wpOps P ops _ rest _ _; rw [hput]; exact wpOps_ds hQ ds rest _ _ h
          | .ok .skip w', h => show wpOps P ops _ rest _ _; rw [hput]; exact wpOps_ds hQ ds rest _ _ h
          | .ok (.defer d) w', h => 
            have := wpOps_ds hQ ds rest _ _ h
            rw [← hput] at this
            exact this
          | .ok (.enter f args) w', h =>
            refine Calls.mono h ?_
            rintro (v | c | _) w'' hR
            · show wpOps P ops _ rest _ _; rw [hput]; exact wpOps_ds hQ ds rest _ _ hR
            · exact ⟨a.defers, rfl, hR⟩
            · obtain ⟨a0, w0, h0⟩ := hR; exact absurd h0 (hQ a0 w0)
          | .ok (.row row args) w', h => exact Rows.mono h fun v w'' hR => by show wpOps P ops _ rest _ _; rw [hput]; exact wpOps_ds hQ ds rest _ _ hR
          | .halt (.panic v) w', h => exact ⟨a.defers, rfl, h⟩
        · exact absurd h (hQ a0 w0)
      · rename_i hw
        rw [if_neg hw] at h
        rw [hput]
        exact wpOps_ds hQ ds rest _ _ h
theorem TriT.ret {Q : Exit → St → Prop} {st : St} (h : Q .ret st) : TriT P .ret Q st := ⟨fun hd R φ a w ds hs => wp_ret ⟨rfl, by simp, by simp, R, φ, st, h, by show Sat R φ st { a with defers := [] } w; rw [act_nil hs.s.defers]; exact hs, Ext.refl _ _ _ _⟩⟩
theorem TriT.seq {x y : Code} {Q : Exit → St → Prop} {st : St} (h : TriT P x (thenQ (fun s => TriT P y Q s) Q) st) : TriT P (.seq x y) Q st := ⟨fun hd R φ a w ds hs => by
  simp only [codeDst, Bool.and_eq_true] at hd
  refine wp_seq (wp_mono (h.of hd.1 R φ a w ds hs) ?_)
  rintro e a' w' ⟨hds, p1, p2, R', φ', st', q, hs', he⟩
  cases e with
  | normal =>
    have hn : st'.n = st.n := he.n
    have := q.of (by rw [hn]; exact hd.2) R' φ' _ w' ds hs'
    have e1 : ({ ({ a' with defers := [] } : Act) with defers := ds } : Act) = a' := by rw [← hds]
    rw [e1] at this
    refine wp_mono this ?_
    rintro e2 a2 w2 ⟨r0, r1, r2, R2, φ2, st2, q2, hs2, he2⟩
    exact ⟨r0, r1, r2, R2, φ2, st2, q2, hs2, he.trans he2⟩
  | panic ch => exact absurd rfl (p1 ch)
  | outgrown => exact absurd rfl p2
  | exit id => exact ⟨hds, p1, p2, R', φ', st', q, hs', he⟩
  | goto l => exact ⟨hds, p1, p2, R', φ', st', q, hs', he⟩
  | ret => exact ⟨hds, p1, p2, R', φ', st', q, hs', he⟩⟩
theorem TriT.reg {T : Tab} (hT : tabOK P T = true) {id : Nat} {ops : Array Oper} {Q : Exit → St → Prop} {st : St} (h : awpSeqN P T ops ops.toList st (fun s => Q .normal s)) : TriT P (.region id ops false) Q st := ⟨fun hd R φ a w ds hs => by
  rw [awpSeqN_eq] at h
  have h1 := seq_sound hT (Q := Post st R φ w Q) ops.toList 0 st _ R φ a w h (fun i o ho => by simpa using ho) (by rw [Array.all_toList]; exact hd) hs
    (fun R' φ' st' a' w' hk hs' he => ⟨by simp, by simp, R', φ', st', hk, hs', he⟩)
  rw [← List.range_eq_range', Array.length_toList] at h1
  have h2 := wpOps_ds (fun a w h => h.out rfl) ds _ _ _ h1
  rw [hs.s.defers] at h2
  refine wp_mono (wp_region h2) ?_
  rintro e a' w' ⟨pre, e1, hp⟩
  obtain ⟨p1, p2, R', φ', st', q, hs', he⟩ := hp
  have : pre = [] := hs'.s.defers
  subst this
  exact ⟨e1, p1, p2, R', φ', st', q, hs', he⟩⟩
end
end Go.Fw

/- The framework, part 31: a range over a function by the function's contract; a function's contract from a body with such a statement. -/
namespace Go.Fw
open Go.RowKit
section
variable {P : Program}
theorem TriY.le {y z : Code} {Q : Exit → St → Prop} {st : St} (S : St) (h : Le st S) (k : TriY P y z Q S) : TriY P y z Q st := ⟨fun hd R φ a w hs => by
  obtain ⟨R1, φ1, h1, e1⟩ := h R φ a w hs
  have hn : S.n = st.n := e1.n
  refine wp_mono (k.of (by rw [hn]; exact hd) R1 φ1 a w h1) fun e2 a2 w2 h2 => ?_
  cases e2 with
  | normal => exact wp_mono h2 fun e3 a3 w3 h3 => h3.trans e1
  | panic ch => exact PostM.trans e1 h2
  | outgrown => exact PostM.trans e1 h2
  | exit id => exact PostM.trans e1 h2
  | goto l => exact PostM.trans e1 h2
  | ret => exact PostM.trans e1 h2⟩
theorem TriM.le {c : Code} {Q : Exit → St → Prop} {st : St} (S : St) (h : Le st S) (k : TriM P c Q S) : TriM P c Q st := ⟨fun hd R φ a w hs => by
  obtain ⟨R1, φ1, h1, e1⟩ := h R φ a w hs
  have hn : S.n = st.n := e1.n
  exact wp_mono (k.of (by rw [hn]; exact hd) R1 φ1 a w h1) fun e2 a2 w2 h2 => h2.trans e1⟩
theorem TriT.le {c : Code} {Q : Exit → St → Prop} {st : St} (S : St) (h : Le st S) (k : TriT P c Q S) : TriT P c Q st := ⟨fun hd R φ a w ds hs => by
  obtain ⟨R1, φ1, h1, e1⟩ := h R φ a w hs
  have hn : S.n = st.n := e1.n
  refine wp_mono (k.of (by rw [hn]; exact hd) R1 φ1 a w ds h1) ?_
  rintro e2 a2 w2 ⟨r0, r1, r2, R2, φ2, st2, q2, hs2, he2⟩
  exact ⟨r0, r1, r2, R2, φ2, st2, q2, hs2, e1.trans he2⟩⟩
theorem cell_alloc {w : World} {b i : Nat} (o : Obj) (h : b < w.heap.size) : (w.alloc o).cell? ⟨b, i, none⟩ = w.cell? ⟨b, i, none⟩ := by
  unfold World.cell?
  rw [Below.heap_alloc w o b h]
theorem Sat.alloc {R : Prot} {φ : Place} {st : St} {a : Act} {w : World} (h : Sat R φ st a w) (o : Obj) : Sat R φ st a (w.alloc o) :=
  have hc : ∀ b i, R b i → (w.alloc o).cell? ⟨b, i, none⟩ = w.cell? ⟨b, i, none⟩ := fun b i hr => cell_alloc o (h.s.rlt b i hr)
  ⟨⟨fun t => RepV.mono (fun _ _ h => h) hc (fun _ _ => rfl) (h.s.env t), h.s.named, h.s.hnamed, h.s.hnext, h.s.sz,
    ⟨fun id c hid => (h.s.heap.rel id c hid).mono rfl (fun _ _ => rfl) (fun _ _ h => h) hc (fun b cap _ hb => ⟨Below.heap_alloc w o b hb, fun _ h => h⟩), h.s.heap.inj⟩, fun b o' hr => by rw [World.size_alloc]; exact Nat.lt_succ_of_lt (h.s.rlt b o' hr), h.s.defers,
    fun g cs hg => ⟨RepV.mono (fun _ _ h => h) hc (fun _ _ => rfl) (h.s.gl g cs hg).1, (h.s.gl g cs hg).2⟩⟩, h.fx⟩
theorem Evo.alloc {R : Prot} {O : Nat → Prop} {w : World} (hR : ∀ b o, R b o → b < w.heap.size) (o : Obj) : Evo R O w R O (w.alloc o) :=
  ⟨rfl, rfl, rfl, by rw [World.size_alloc]; exact Nat.le_succ _, fun b hb _ => Below.heap_alloc w o b hb, fun _ _ h => h, fun b i hr => cell_alloc o (hR b i hr), fun _ _ h => .inl h, fun _ h => .inr h⟩
theorem range_y {n fix next : Nat} {env : List (Nat × AV)} {heap : List (Nat × Chunk)} {z : Code} {Q : Exit → St → Prop} {id : Nat} {g : Operand} {ps : Array Tmp} {assign body : Code} {gf : FuncId} {caps : List AV} {E : List (Nat × AV)} {ret : AV} {h h' : List (Nat × Chunk)} (k next' : Nat)
    (hgok : okP (St.ev ⟨n, fix, next, env, heap, []⟩ g)) (hg : (St.ev ⟨n, fix, next, env, heap, []⟩ g).un = .fn gf caps) (hE : envLe E ⟨n, fix, next, env, heap, []⟩)
    (hs : HSpec P [] gf (.ex (yieldV k) :: caps) ((k, .ext (loopX n E ps assign body)) :: h) ret ((k, .ext (loopX n E ps assign body)) :: h'))
    (hle : heapLe h ⟨n, fix, next, env, heap, []⟩) (hkh : hasKey k heap = false) (hk' : hasKey k h' = false) (hchk : callChk fix next next' h h' .any = true)
    (hz : calledN n fix env heap [] none .any h h' next' (fun s => TriT P z Q s)) : TriY P (.block id (.rangeFunc g ps assign body)) z Q ⟨n, fix, next, env, heap, []⟩ := ⟨fun hd R φ a w hsat => by
  rw [calledN_eq n fix next env heap []] at hz
  have hchk' : callChk (St.fix ⟨n, fix, next, env, heap, []⟩) (St.next ⟨n, fix, next, env, heap, []⟩) next' h h' .any = true := hchk
  have hkn : (St.lk ⟨n, fix, next, env, heap, []⟩) k = none := hasKey_none hkh
  have hnn : (St.n ⟨n, fix, next, env, heap, []⟩) = n := rfl
  generalize hst : (⟨n, fix, next, env, heap, []⟩ : St) = st at *
  clear hst hchk
  refine wp_block ?_
  rw [← wpIn_wide (n := 1)]
  obtain ⟨⟨fn, hfn, hname, hbody⟩, hspec⟩ := hs
  have hfr := (hsat.s.ev g).un hgok
  have hf' : (evF st.get st.gl g).un = .fn gf caps := hg
  rw [hf'] at hfr
  simp only [RepV] at hfr
  obtain ⟨cv, hfv, hcaps⟩ := hfr
  have hlk : ∀ j c, lookup j h = some c → st.lk j = some c := fun j c hj => heapLe_get hle hj
  have hltn : ∀ j c, lookup j h = some c → j ≠ k := fun j c hj e => by subst e; rw [hlk j c hj] at hkn; cases hkn

  obtain ⟨w0, hw0⟩ : ∃ w0, w.alloc (.deferred (some [])) = w0 := ⟨_, rfl⟩
  have hsat0 : Sat R φ st a w0 := hw0 ▸ hsat.alloc _
  have hsz0 : w0.heap.size = w.heap.size + 1 := by rw [← hw0]; exact World.size_alloc _ _
  have hD0 : w0.heap[w.heap.size]? = some (.deferred (some [])) := by rw [← hw0]; exact World.alloc_heap_new w _
  have hev0 : Evo R (Owns φ st.lk) w R (Owns φ st.lk) w0 := hw0 ▸ Evo.alloc hsat.s.rlt _
  refine wpIn_rangeFunc ?_
  intro fnid _
  obtain ⟨rec, hrec⟩ : ∃ rec : Loop, rec = { state := .ready, pending := none, fn := fnid, tmps := a.tmps, params := ps, assign, body, defers := w.heap.size } := ⟨_, rfl⟩
  obtain ⟨w1, hw1⟩ : ∃ w1, w0.alloc (.loop rec) = w1 := ⟨_, rfl⟩
  have hsz1 : w1.heap.size = w.heap.size + 2 := by rw [← hw1, World.size_alloc, hsz0]
  have hL1 : w1.heap[w.heap.size + 1]? = some (.loop rec) := by rw [← hw1]; have := World.alloc_heap_new w0 (.loop rec); rwa [hsz0] at this
  have hb1 : ∀ b, b < w0.heap.size → w1.heap[b]? = w0.heap[b]? := fun b hb => by rw [← hw1]; exact Below.heap_alloc w0 _ b hb
  have hc1 : ∀ b i, R b i → w1.cell? ⟨b, i, none⟩ = w0.cell? ⟨b, i, none⟩ := fun b i hr => by rw [← hw1]; exact cell_alloc _ (hsat0.s.rlt b i hr)
  have hent : (Instr.enterLoop fnid a.tmps ps assign body (Fence.wide).round).run P w = .ok (w.heap.size + 1, [coll w.heap.size]) w1 := by
    rw [← hw1, ← hw0, hrec]; exact run_enterLoop_outer _ _ _ _ _
  obtain ⟨φ1, hφ1⟩ : ∃ φ1 : Place, φ1 = fun j => if j = k then some (w.heap.size + 1, 0) else φ j := ⟨_, rfl⟩
  have hφn : φ1 k = some (w.heap.size + 1, 0) := by rw [hφ1]; simp
  have hφo : ∀ j, j ≠ k → φ1 j = φ j := fun j hj => by rw [hφ1]; simp [hj]
  have hH1 : HRel φ1 R w1 (fun j => lookup j ((k, .ext (loopX n E ps assign body)) :: h)) := by
    refine ⟨fun j c hj => ?_, fun j j' c c' b cap cap' hj hj' hp hp' => ?_⟩
    · simp only [lookup_cons] at hj
      split at hj
      · rename_i e
        subst e
        cases hj
        refine .inr ⟨_, _, _, hφn, hL1, ⟨fnid, a.tmps, w.heap.size, by rw [hrec], by rw [← hnn]; exact hsat.s.sz, fun t v hv => ?_⟩, fun o hr => by have := hsat.s.rlt _ o hr; omega⟩
        have hv2 := envLe_get hE hv
        have := hsat0.s.env t
        rw [hv2] at this
        refine RepV.mono (fun _ _ h => h) hc1 (fun id hid => hφo id (fun e => ?_)) this
        obtain ⟨c2, hc2⟩ := hsat.s.named t id (by rw [hv2]; exact hid)
        subst e; rw [hkn] at hc2; cases hc2
      · rename_i e
        have hne : j ≠ k := fun q => e q.symm
        refine (hsat0.s.heap.rel j c (hlk j c hj)).mono (hφo j hne) (fun i hi => hφo i (fun q => ?_)) (fun _ _ h => h) hc1 (fun b cap _ hb => ⟨hb1 b hb, fun _ h => h⟩)
        obtain ⟨c2, hc2⟩ := hsat.s.hnamed j c i (hlk j c hj) hi
        subst q; rw [hkn] at hc2; cases hc2
    · have own : ∀ i d cap2, lookup i h = some d → φ i = some (w.heap.size + 1, cap2) → False := fun i d cap2 h1 h2 => by
        have := owns_lt hsat.s.heap ⟨i, d, cap2, hlk i d h1, h2⟩; omega
      simp only [lookup_cons] at hj hj'
      split at hj
      · rename_i e
        split at hj'
        · rename_i e'; exact e.symm.trans e'
        · rename_i e'
          subst e
          rw [hφn] at hp; cases hp
          rw [hφo j' (fun q => e' q.symm)] at hp'
          exact (own j' _ _ hj' hp').elim
      · rename_i e
        split at hj'
        · rename_i e'
          subst e'
          rw [hφn] at hp'; cases hp'
          rw [hφo j (fun q => e q.symm)] at hp
          exact (own j _ _ hj hp).elim
        · rename_i e'
          rw [hφo j (fun q => e q.symm)] at hp
          rw [hφo j' (fun q => e' q.symm)] at hp'
          exact hsat.s.heap.inj j j' c c' b cap cap' (hlk j c hj) (hlk j' c' hj') hp hp'
  have hrb1 : RB R w1 := fun b o hr => by have := hsat.s.rlt b o hr; omega
  have hargs : RepVs φ1 R w1 (.ex (yieldV k) :: caps) (.func (.yield (w.heap.size + 1)) #[] #[] :: cv.toList) := by
    refine ⟨_, _, rfl, ⟨_, _, hφn, rfl⟩, ?_⟩
    refine RepVs.mono (fun _ _ h => h) (fun b i hr => (hc1 b i hr).trans (by rw [← hw0]; exact cell_alloc _ (hsat.s.rlt b i hr))) (fun id hid => hφo id (fun e => ?_)) hcaps
    have hh : (evF st.get st.gl g).has id = true := by
      have : ((evF st.get st.gl g).un).has id = true := by rw [hf']; simpa [AV.has] using hid
      exact (un_has id hgok).symm.trans this
    obtain ⟨c2, hc2⟩ := hsat.s.ev_named g id hh
    subst e; rw [hkn] at hc2; cases hc2
  have hcall := hspec φ1 R w1 _ hH1 hrb1 (fun g cs hg => by simp [lookup] at hg) hargs
  refine ⟨w.heap.size + 1, [coll w.heap.size], w1, { target := .fn (.func gf) cv, args := #[.func (.yield (w.heap.size + 1)) #[] #[]] }, w1, gf, #[.func (.yield (w.heap.size + 1)) #[] #[]] ++ cv, w1, hent, ?_, fun _ _ => trivial, ?_, fun h => (by cases h), ?_⟩
  · simp only [resolve, hfv]
    simp [go_sem]
  · simp only [invoke, callFunc, Sem.run_bind, run_program, Result.andThen_ok, hfn, hname, hbody, Bool.false_eq_true, if_false]
    rfl
  have hargeq : (#[.func (.yield (w.heap.size + 1)) #[] #[]] ++ cv : Array Value) = (.func (.yield (w.heap.size + 1)) #[] #[] :: cv.toList : List Value).toArray := by apply Array.ext'; simp
  rw [hargeq]
  refine callsIn_ro (ro := none) (hcall.mono ?_)
  rintro e w3 ⟨v, φ2, R2, rfl, hv, hh', hrb2, hevo, hkeep⟩

  have hkk := hkeep k (.ext (loopX n E ps assign body)) (by show lookup k _ = _; rw [lookup_cons, if_pos rfl]) rfl
  have hφ2 : φ2 k = some (w.heap.size + 1, 0) := hkk.1.trans hφn
  obtain ⟨fn2, tmps2, D2, hl3, hR2⟩ : ∃ fn2 tmps2 D2, w3.heap[w.heap.size + 1]? = some (.loop { state := .ready, pending := none, fn := fn2, tmps := tmps2, params := ps, assign := assign, body := body, defers := D2 }) ∧ ∀ o, ¬ R2 (w.heap.size + 1) o := by
    have hr := hh'.rel k (.ext (loopX n E ps assign body)) (by show lookup k _ = _; rw [lookup_cons, if_pos rfl])
    rcases hr with ⟨q, _⟩ | ⟨b, cap, o, q1, q2, ⟨fn2, tmps2, D2, rfl, _⟩, q4⟩
    · rw [hφ2] at q; cases q
    · rw [hφ2] at q1; cases q1; exact ⟨_, _, _, q2, q4⟩
  have hlt3 : w.heap.size + 1 < w3.heap.size := (Array.getElem?_eq_some_iff.1 hl3).1
  refine ⟨none, _, run_endLoop hl3 (by simp), ?_⟩
  have hneq : ∀ j c, lookup j h' = some c → j ≠ k := fun j c hj e => by subst e; rw [hasKey_none hk'] at hj; cases hj
  have hlk3 : ∀ j c, lookup j h' = some c → lookup j ((k, Chunk.ext (loopX n E ps assign body)) :: h') = some c := fun j c hj => by rw [lookup_cons, if_neg (fun q => hneq j c hj q.symm)]; exact hj
  have hfree : Free R2 φ2 (fun j => lookup j h') (w.heap.size + 1) := ⟨hR2, fun j c cap hj hp => hneq j c hj (hh'.inj j k _ _ _ _ _ (hlk3 j c hj) (by show lookup k _ = some (Chunk.ext (loopX n E ps assign body)); rw [lookup_cons, if_pos rfl]) hp hφ2)⟩
  have hh3 : HRel φ2 R2 w3 (fun j => lookup j h') := ⟨fun j c hj => hh'.rel j c (hlk3 j c hj), fun j j' c c' b cap cap' hj hj' => hh'.inj j j' c c' b cap cap' (hlk3 j c hj) (hlk3 j' c' hj')⟩
  obtain ⟨w4, hw4⟩ : ∃ w4, w3.putObj (w.heap.size + 1) (.loop { state := .exhausted, pending := none, fn := fn2, tmps := tmps2, params := ps, assign := assign, body := body, defers := D2 }) = w4 := ⟨_, rfl⟩
  have hh4 : HRel φ2 R2 w4 (fun j => lookup j h') := hw4 ▸ hh3.put hfree _
  have hO1 : ∀ b, Owns φ1 (fun j => lookup j ((k, Chunk.ext (loopX n E ps assign body)) :: h)) b → b = w.heap.size + 1 ∨ Owns φ (fun j => lookup j h) b := by
    rintro b ⟨j, c, cap, hj, hp⟩
    simp only [lookup_cons] at hj
    split at hj
    · rename_i e; subst e; rw [hφn] at hp; cases hp; exact .inl rfl
    · rename_i e; rw [hφo j (fun q => e q.symm)] at hp; exact .inr ⟨j, c, cap, hj, hp⟩
  have hO1' : ∀ b, Owns φ (fun j => lookup j h) b → Owns φ1 (fun j => lookup j ((k, Chunk.ext (loopX n E ps assign body)) :: h)) b := by
    rintro b ⟨j, c, cap, hj, hp⟩
    have hne : j ≠ k := hltn j c hj
    exact ⟨j, c, cap, by show lookup j _ = _; rw [lookup_cons, if_neg (fun q => hne q.symm)]; exact hj, by rw [hφo j hne]; exact hp⟩
  have hOlt : ∀ b, Owns φ (fun j => lookup j h) b → b < w.heap.size := fun b ⟨j, c, cap, hj, hp⟩ => owns_lt hsat.s.heap ⟨j, c, cap, hlk j c hj, hp⟩
  have evA : Evo R (Owns φ (fun j => lookup j h)) w0 R (Owns φ1 (fun j => lookup j ((k, Chunk.ext (loopX n E ps assign body)) :: h))) w1 :=
    ⟨by rw [← hw1]; rfl, by rw [← hw1]; rfl, by rw [← hw1]; rfl, by omega, fun b hb _ => hb1 b hb, fun _ _ h => h, hc1, fun _ _ h => .inl h, fun b hb => (hO1 b hb).imp (fun e => by omega) (fun q => q)⟩
  have evC : Evo R2 (Owns φ2 (fun j => lookup j ((k, Chunk.ext (loopX n E ps assign body)) :: h'))) w3 R2 (Owns φ2 (fun j => lookup j h')) w4 := by
    rw [← hw4]
    refine ⟨rfl, rfl, rfl, by rw [World.putObj_size]; exact Nat.le_refl _, fun b _ ho => World.putObj_heap_other (fun e => ho ⟨k, .ext (loopX n E ps assign body), 0, by show lookup k _ = _; rw [lookup_cons, if_pos rfl], by subst e; exact hφ2⟩), fun _ _ h => h, fun b i hr => cell_put (fun e => hR2 i (e ▸ hr)), fun _ _ h => .inl h, fun b ⟨j, c, cap, hj, hp⟩ => .inr ⟨j, c, cap, hlk3 j c hj, hp⟩⟩
  have evAll := evA.trans (hevo.trans evC)
  obtain ⟨φ3, hs3, he3⟩ := called_sat hsat0 hle hchk' (ret := .any) (v := undef) (by simp [RepV]) hh4 (fun b o hr => by rw [← hw4, World.putObj_size]; exact hrb2 b o hr) evAll (fun j c hj hcf => by
      have hne : j ≠ k := hltn j c hj
      obtain ⟨q1, c', q2, q3⟩ := hkeep j c (by show lookup j _ = _; rw [lookup_cons, if_neg (fun q => hne q.symm)]; exact hj) hcf
      exact ⟨q1.trans (hφo j hne), c', by have q2 : lookup j ((k, Chunk.ext (loopX n E ps assign body)) :: h') = some c' := q2; rw [lookup_cons] at q2; rwa [if_neg (fun q => hne q.symm)] at q2, q3⟩) (dst := none) (fun d hd' => by cases hd')
  have hD3 : w3.heap[w.heap.size]? = some (.deferred (some [])) := by
    refine (hevo.keep _ (by omega) (fun ho => ?_)).trans ((hb1 _ (by omega)).trans hD0)
    rcases hO1 _ ho with q | q
    · omega
    · have := hOlt _ q; omega
  have hD4 : w4.heap[w.heap.size]? = some (.deferred (some [])) := by rw [← hw4]; exact (World.putObj_heap_other (by omega)).trans hD3
  have hnO : ¬ Owns φ st.lk w.heap.size := fun q => by have := owns_lt hsat.s.heap q; omega
  have hfree4 : Free R2 φ3 (st.called none .any h h' next').lk w.heap.size := by
    refine ⟨fun j hj => ?_, fun j c cap hj hp => ?_⟩
    · rcases he3.evo.rnew _ j hj with q | q | q
      · have := hsat.s.rlt _ j q; omega
      · omega
      · exact hnO q
    · rcases he3.evo.onew _ ⟨j, c, cap, hj, hp⟩ with q | q
      · omega
      · exact hnO q
  have hse : Ext st R φ w (st.called none .any h h' next') R2 φ3 w4 := ⟨hev0.trans he3.evo, he3.place, he3.fix, he3.n⟩
  suffices goal : z.wp P (PostM st R φ w Q) { a with defers := [coll w.heap.size] ++ a.defers } w4 by
    rw [← hw4] at goal; exact goal
  rw [hsat.s.defers]
  refine wp_mono (hz.of (by rw [hse.n]; exact hd) R2 φ3 a w4 [coll w.heap.size] hs3) ?_
  rintro e' a' w' ⟨hds, p1, p2, R', φ', st', q, hs', he⟩
  refine ⟨p1, p2, R', φ', st', q, hs', hse.trans he, .inr ⟨w.heap.size, Nat.le_refl _, hds, ?_, ?_⟩⟩
  · exact (he.evo.keep _ (Array.getElem?_eq_some_iff.1 hD4).1 (fun ⟨j, c, cap, hj, hp⟩ => hfree4.2 j c cap hj hp)).trans hD4
  · refine ⟨fun j hj => ?_, fun j c cap hj hp => ?_⟩
    · rcases he.evo.rnew _ j hj with q | q | ⟨j, c, cap, hj, hp⟩
      · exact hfree4.1 j q
      · have := (Array.getElem?_eq_some_iff.1 hD4).1; omega
      · exact hfree4.2 j c cap hj hp
    · rcases he.evo.onew _ ⟨j, c, cap, hj, hp⟩ with q | ⟨j, c, cap, hj, hp⟩
      · have := (Array.getElem?_eq_some_iff.1 hD4).1; omega
      · exact hfree4.2 j c cap hj hp⟩
theorem Evo.put2 {R R' : Prot} {O O' : Nat → Prop} {w w' : World} (h : Evo R O w R' O' w') {l : Nat} (hR : ∀ j, ¬ R' l j) (hl : w.heap.size ≤ l) (o : Obj) : Evo R O w R' O' (w'.putObj l o) :=
  ⟨h.os, h.tape, h.output, by rw [World.putObj_size]; exact h.size, fun b hb ho => (World.putObj_heap_other (by omega)).trans (h.keep b hb ho), h.rmono, fun b i hr => (cell_put (fun e : b = l => hR i (e ▸ h.rmono b i hr))).trans (h.rkeep b i hr), h.rnew, h.onew⟩
theorem fspec_introM {T : Tab} (hT : tabOK P T = true) {gl : Gl} {f : FuncId} {fn : Func} {c : Code} {args : List AV} {ret : AV} (h h' : List (Nat × Chunk)) (fix next : Nat)
    (hf : P.funcs[f]? = some fn) (hname : (fn.name == "runtime.NumGoroutine") = false) (hb : fn.body = some c) (hlen : Nat.ble args.length fn.ntmps = true) (hd : codeDst fn.ntmps c = true)
    (hcl : (St.init fn args h fix next gl).closed = true) (hbox : boxesOK fix h' h = true)
    (htri : TriM P c (Ends T fn ret h') (St.init fn args h fix next gl)) : FSpec P gl f args (fun k => lookup k h) ret (fun k => lookup k h') := by
  refine ⟨⟨fn, hf, hname, by simp [hb]⟩, fun φ R w vs hh hR hgl hargs => ?_⟩
  have hal := hargs.length
  have hlen := Nat.le_of_ble_eq_true hlen
  refine callsIn_wide.1 (callsIn_of_wp_marks (F := Fence.wide) (n := 0) hf hb trivial ?_)
  rw [wpIn_wide]
  unfold St.closed at hcl
  simp only [Bool.and_eq_true] at hcl
  have hsat : Sat R φ (St.init fn args h fix next gl) { tmps := vs.toArray ++ Array.replicate (fn.ntmps - vs.toArray.size) undef, defers := [] } w := by
    refine ⟨⟨fun t => ?_, fun t j hj => ?_, fun j cs k hj hk => (heapClosed_mem hcl.1.2 hj).2 k hk, fun j c hj => (heapClosed_mem hcl.1.2 hj).1, ?_, hh, hR, rfl, hgl⟩, Nat.le_of_ble_eq_true hcl.2⟩
    · have := argEnv_get args 0 vs [] (List.replicate (fn.ntmps - vs.length) undef) hargs rfl t
      have e : (vs.toArray ++ Array.replicate (fn.ntmps - vs.toArray.size) undef).getD t undef = (([] : List Value) ++ vs ++ List.replicate (fn.ntmps - vs.length) undef).getD t undef := by
        rw [Array.getD_eq_getD_getElem?, List.getD_eq_getElem?_getD, ← Array.getElem?_toList]
        simp
      rw [e]
      exact this
    · cases hl : lookup t (St.init fn args h fix next gl).env with
      | none =>
        have : (St.init fn args h fix next gl).get t = .any := by simp [St.get, hl]
        rw [this] at hj; simp [AV.has] at hj
      | some v =>
        have : (St.init fn args h fix next gl).get t = v := by simp [St.get, hl]
        rw [this] at hj
        exact envClosed_mem hcl.1.1 hl hj
    · simp [St.init]; omega
  refine wp_mono (htri.of hd R φ _ w hsat) ?_
  rintro e a' w' ⟨p1, p2, R', φ', st', q, hs', he, hm⟩
  have fin : ∀ (w2 : World), Sat R' φ' st' { a' with defers := [] } w2 → Evo R (Owns φ (fun k => lookup k h)) w R' (Owns φ' st'.lk) w2 → resV T st' fn.results.toList [] (fun vs => packV vs = ret ∧ heapLe h' st') → ∃ v, (results fn a'.tmps).run P w2 = .ok v w2 ∧
      ∃ v' φ' R', Ending.returned v = .returned v' ∧ RepV φ' R' w2 ret v' ∧ HRel φ' R' w2 (fun k => lookup k h') ∧ RB R' w2 ∧ Evo R (Owns φ (fun k => lookup k h)) w R' (Owns φ' (fun k => lookup k h')) w2 ∧
        ∀ id c, lookup id h = some c → c.fixed = true → φ' id = φ id ∧ ∃ c', lookup id h' = some c' ∧ c'.fixed = true := by
    intro w2 hs2 hev hres
    obtain ⟨xs, v, ⟨hk, hle⟩, hv, hrun⟩ := results_sound hT hs2 fn _ hres
    refine ⟨v, hrun, v, φ', R', rfl, hk ▸ hv, ?_, hs2.s.rlt, ?_, fun id cs hid hcf => ?_⟩
    · exact ⟨fun j c hj => hs2.s.heap.rel j c (heapLe_get hle hj), fun j k c d b cap cap' hj hk => hs2.s.heap.inj j k c d b cap cap' (heapLe_get hle hj) (heapLe_get hle hk)⟩
    · refine ⟨hev.os, hev.tape, hev.output, hev.size, hev.keep, hev.rmono, hev.rkeep, hev.rnew, fun b hb => ?_⟩
      obtain ⟨j, c, cap, hj, hp⟩ := hb
      exact hev.onew b ⟨j, c, cap, heapLe_get hle hj, hp⟩
    · obtain ⟨h1, h2⟩ := boxesOK_get hbox hid hcf
      exact ⟨he.place id h1, h2⟩
  have go : resV T st' fn.results.toList [] (fun vs => packV vs = ret ∧ heapLe h' st') → LeavesInM Fence.wide 0 P fn a'.tmps (fun e w' => ∃ v φ' R', e = .returned v ∧ RepV φ' R' w' ret v ∧ HRel φ' R' w' (fun k => lookup k h') ∧ RB R' w' ∧ Evo R (Owns φ (fun k => lookup k h)) w R' (Owns φ' (fun k => lookup k h')) w' ∧
        ∀ id c, lookup id h = some c → c.fixed = true → φ' id = φ id ∧ ∃ c', lookup id h' = some c' ∧ c'.fixed = true) a'.defers .returning w' := by
    intro hres
    rcases hm with hm | ⟨D, hDn, hm, hD, hfr⟩
    · rw [hm]
      exact fin w' hs' he.evo hres
    · rw [hm]
      exact ⟨by simp, .inl ⟨D, _, rfl, run_takeDeferred hD, fin _ (hs'.put hfr _) (he.evo.put2 hfr.1 hDn _) hres⟩⟩
  cases e with
  | normal => exact go q
  | ret => exact go q
  | exit id => exact q.elim
  | goto l => exact q.elim
  | panic ch => exact absurd rfl (p1 ch)
  | outgrown => exact absurd rfl p2
theorem pspec_introM {T : Tab} (hT : tabOK P T = true) {gl : Gl} {f : FuncId} {fn : Func} {c : Code} {args : List AV} {ret : AV}
    (hf : P.funcs[f]? = some fn) (hname : (fn.name == "runtime.NumGoroutine") = false) (hb : fn.body = some c) (hlen : Nat.ble args.length fn.ntmps = true) (hd : codeDst fn.ntmps c = true)
    (hcl : (St.init fn args [] 0 0 gl).closed = true) (htri : TriM P c (Ends T fn ret []) (St.init fn args [] 0 0 gl)) : PSpec P gl f args ret := by
  have := fspec_introM hT [] [] 0 0 hf hname hb hlen hd hcl rfl htri
  exact this
end
end Go.Fw

