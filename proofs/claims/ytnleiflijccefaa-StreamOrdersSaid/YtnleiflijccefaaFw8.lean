/- The framework, part 8: contracts; the operations that may stand in any order. -/
import Derived.Test.YtnleiflijccefaaFw7
import Derived.IntWalk
set_option linter.all false
set_option linter.unusedSectionVars false
set_option linter.unusedSimpArgs false
namespace Go.Fw

def RB (R : Prot) (w : World) : Prop := ∀ b o, R b o → b < w.heap.size

/-- The function has a body that a call enters. -/
def Entered (P : Program) (f : FuncId) : Prop := ∃ fn, P.funcs[f]? = some fn ∧ (fn.name == "runtime.NumGoroutine") = false ∧ fn.body.isNone = false

def noHeap : Heap := fun _ => none

/-- A contract: called with these arguments, over these chunks, the function returns this, and leaves these chunks. -/
def FSpec (P : Program) (gl : Gl) (f : FuncId) (args : List AV) (h : Heap) (ret : AV) (h' : Heap) : Prop :=
  Entered P f ∧ ∀ φ R w (vs : List Value), HRel φ R w h → RB R w → GlOK gl φ R w → RepVs φ R w args vs → Calls P f vs.toArray w fun e w' =>
    ∃ v φ' R', e = .returned v ∧ RepV φ' R' w' ret v ∧ HRel φ' R' w' h' ∧ RB R' w' ∧ Evo R (Owns φ h) w R' (Owns φ' h') w' ∧
      ∀ id cs, h id = some (.box cs) → φ' id = φ id ∧ ∃ cs', h' id = some (.box cs')

/-- A contract of a function that is handed no memory to change. -/
def PSpec (P : Program) (gl : Gl) (f : FuncId) (args : List AV) (ret : AV) : Prop := FSpec P gl f args noHeap ret noHeap

structure StepTo (φ : Place) (R : Prot) (w : World) (id : Nat) (c : Option Chunk) (φ' : Place) (R' : Prot) (w' : World) : Prop where
  evo : Evo R (fun _ => False) w R' (fun b => c.isSome = true ∧ ∃ cap, φ' id = some (b, cap)) w'
  rb : RB R' w'
  place : ∀ j, j ≠ id → φ' j = φ j
  chunk : ∀ ch, c = some ch → ChunkRel φ' R' w' id ch ∧ ∀ b cap, φ' id = some (b, cap) → w.heap.size ≤ b

theorem StepTo.refl {φ : Place} {R : Prot} {w : World} {id : Nat} (h : RB R w) : StepTo φ R w id none φ R w :=
  ⟨⟨rfl, rfl, rfl, Nat.le_refl _, fun _ _ _ => rfl, fun _ _ h => h, fun _ _ _ => rfl, fun _ _ h => .inl h, fun _ h => by simp at h⟩, h, fun _ _ => rfl, fun _ h => by simp at h⟩

/-- An operation whose result and new chunk are known, whatever the world else. -/
structure Flo (P : Program) (gl : Gl) (o : Oper) (ev : Operand → AV) (lk : Heap) (id : Nat) (v : AV) (c : Option Chunk) : Prop where
  run : ∀ φ R (a : Act) w, (∀ x ∈ o.op.operands, RepV φ R w (ev x) (a.eval x)) → (∀ x ∈ o.op.operands, ChOK φ R w lk (ev x)) → RB R w → GlOK gl φ R w → ∀ (next : Act → World → Prop) (Q : Exit → Act → World → Prop),
    (∀ φ' R' w' u, StepTo φ R w id c φ' R' w' → RepV φ' R' w' v u → next (a.put o.dst u) w') → o.wp P a w next Q
  names : ∀ j, v.has j = true → (∃ x ∈ o.op.operands, From lk (ev x) j) ∨ (j = id ∧ c.isSome = true)
  cnames : ∀ cs j, c = some (.box cs) → AV.hasAny j cs = true → ∃ x ∈ o.op.operands, From lk (ev x) j

/-- The world behind a new block. -/
def pushed (w : World) (o : Obj) (d : Nat) : World := { heap := w.heap.push o, tape := w.tape, drawn := d, os := w.os, output := w.output }

theorem pushed_cell {w : World} {o : Obj} {d b k : Nat} (h : b < w.heap.size) : (pushed w o d).cell? ⟨b, k, none⟩ = w.cell? ⟨b, k, none⟩ := by
  have hb : (w.heap.push o)[b]? = w.heap[b]? := by rw [Array.getElem?_push, if_neg (by omega)]
  simp only [World.cell?, pushed, hb]
theorem pushed_get (w : World) (o : Obj) (d : Nat) : (pushed w o d).heap[w.heap.size]? = some o := by
  show (w.heap.push o)[w.heap.size]? = some o
  rw [Array.getElem?_push, if_pos rfl]

def setPlace (φ : Place) (id : Nat) (p : Option (Nat × Nat)) : Place := fun j => if j = id then p else φ j

theorem stepTo_push {φ : Place} {R : Prot} {w : World} {id : Nat} (hR : RB R w) (vs : Array Value) (e : TypeId) (fr : Nat × Nat) (cap : Nat) (ch : Chunk) (d : Nat)
    (hc : ChunkRel (setPlace φ id (some (w.heap.size, cap))) R (pushed w (.cells vs e fr) d) id ch) :
    StepTo φ R w id (some ch) (setPlace φ id (some (w.heap.size, cap))) R (pushed w (.cells vs e fr) d) where
  evo := ⟨rfl, rfl, rfl, by simp [pushed], fun b hb _ => by show (w.heap.push _)[b]? = _; rw [Array.getElem?_push, if_neg (by omega)], fun _ _ h => h, fun b o h => pushed_cell (hR b o h), fun _ _ h => .inl h,
    fun b hb => by
      obtain ⟨_, cap', h⟩ := hb
      simp only [setPlace, if_true, Option.some.injEq, Prod.mk.injEq] at h
      exact .inl (by omega)⟩
  rb b o h := by have := hR b o h; show b < (w.heap.push _).size; rw [Array.size_push]; omega
  place j hj := by simp [setPlace, hj]
  chunk c h := by
    simp only [Option.some.injEq] at h
    subst h
    refine ⟨hc, fun b cap' hb => ?_⟩
    simp only [setPlace, if_true, Option.some.injEq, Prod.mk.injEq] at hb
    omega

theorem not_prot_new {R : Prot} {w : World} (hR : RB R w) (o : Nat) : ¬ R w.heap.size o := fun h => by have := hR _ _ h; omega
theorem noFr_zero (n : Nat) : NoFr (0, 0) n := fun o _ h => by simp at h

/-- Elements, one behind the other, out of cells. -/
def assembleN (t : Ty) : Nat → List AV → Option (List t.D)
  | 0, _ => some []
  | n + 1, cs => match assemble t cs with
    | some (x, r) => match assembleN t n r with
      | some xs => some (x :: xs)
      | none => none
    | none => none

theorem assembleN_rep {φ : Place} {R : Prot} {w : World} {t : Ty} : ∀ (n : Nat) (cs : List AV) (xs : List t.D) (vs : List Value), assembleN t n cs = some xs → RepVs φ R w cs vs →
    xs.length = n ∧ ∀ (i : Nat) (h : i < xs.length), Rep w R t xs[i] ((vs.drop (i * t.size)).take t.size)
  | 0, cs, xs, vs, h, _ => by simp only [assembleN, Option.some.injEq] at h; subst h; exact ⟨rfl, fun i h => by simp at h⟩
  | n + 1, cs, xs, vs, h, hr => by
    simp only [assembleN] at h
    split at h
    · rename_i x r hx
      split at h
      · rename_i ys hys
        simp only [Option.some.injEq] at h
        subst h
        obtain ⟨us, ws, rfl, h1, h2⟩ := assemble_rep hx hr
        obtain ⟨hl, hi⟩ := assembleN_rep n r ys ws hys h2
        have hul := h1.length
        refine ⟨by simp [hl], fun i h => ?_⟩
        cases i with
        | zero => simpa [← hul] using h1
        | succ i =>
          have := hi i (by simpa using h)
          have e : (us ++ ws).drop ((i + 1) * t.size) = ws.drop (i * t.size) := by
            rw [List.drop_append, hul, Nat.add_mul, Nat.one_mul, Nat.add_sub_cancel]
            rw [List.drop_of_length_le (by rw [hul]; omega)]
            rfl
          rw [e]
          simpa using this
      · simp at h
    · simp at h

/-- What stands in a new array. -/
def zerosOf (z : List AV) : Nat → List AV
  | 0 => []
  | n + 1 => z ++ zerosOf z n
theorem zerosOf_length (z : List AV) : ∀ n, (zerosOf z n).length = n * z.length
  | 0 => by simp [zerosOf]
  | n + 1 => by simp [zerosOf, zerosOf_length z n, Nat.add_mul, Nat.add_comm]
theorem zerosOf_getD (z : List AV) (d : AV) : ∀ n i, i < n * z.length → (zerosOf z n).getD i d = z.getD (i % z.length) d
  | 0, i, h => by simp at h
  | n + 1, i, h => by
    have hz : 0 < z.length := by
      rcases Nat.eq_zero_or_pos z.length with h0 | h0
      · rw [h0] at h; simp at h
      · exact h0
    simp only [zerosOf]
    by_cases hi : i < z.length
    · rw [Nat.mod_eq_of_lt hi]
      simp [List.getD, List.getElem?_append_left hi]
    · have := zerosOf_getD z d n (i - z.length) (by rw [Nat.add_mul] at h; omega)
      rw [← Nat.mod_eq_sub_mod (by omega)] at this
      rw [← this]
      simp [List.getD, List.getElem?_append_right (Nat.le_of_not_lt hi)]
theorem zeros_rep {φ : Place} {R : Prot} {w : World} {z : List AV} {zs : Array Value} (h : RepVs φ R w z zs.toList) (n : Nat) :
    RepVs φ R w (zerosOf z n) ((Array.range (n * zs.size)).map (zs[· % zs.size]!)).toList := by
  have hl := h.length
  simp only [Array.length_toList] at hl
  apply RepVs.of_get
  · simp [zerosOf_length, hl]
  · intro i v hv
    simp only [Array.toList_map, Array.toList_range, List.getElem?_map, Option.map_eq_some_iff] at hv
    obtain ⟨j, hj, rfl⟩ := hv
    obtain ⟨hj1, rfl⟩ := List.getElem?_eq_some_iff.1 hj
    simp only [List.length_range, List.getElem_range] at hj1 ⊢
    have hz : 0 < zs.size := by
      rcases Nat.eq_zero_or_pos zs.size with h0 | h0
      · rw [h0] at hj1; simp at hj1
      · exact h0
    have hm : i % zs.size < zs.size := Nat.mod_lt _ hz
    rw [zerosOf_getD z .any n i (by rw [← hl]; exact hj1), ← hl]
    exact h.get _ _ (by simp [hm, getElem!_pos])
theorem zerosOf_has {z : List AV} {id : Nat} (h : AV.hasAny id z = false) : ∀ n, AV.hasAny id (zerosOf z n) = false
  | 0 => by simp [zerosOf, AV.hasAny]
  | n + 1 => by simp [zerosOf, hasAny_append, h, zerosOf_has h n]

def intsOf (s : List UInt8) : List Int := s.map fun b => (b.toNat : Int)

/-- Operations that may make a chunk, and calls that change none. -/
def floV (P : Program) (T : Tab) (gl : Gl) (lk : Heap) (ev : Operand → AV) (id : Nat) (op : Op) (K : AV → Option Chunk → Prop) : Prop :=
  match op with
  | .box _ x => match (ev x).cells with
    | some cs => K (.loc id 0) (some (.box cs))
    | none => False
  | .alloc t => match tget T t with
    | some e => K (.loc id 0) (some (.box e.zero))
    | none => False
  | .buildSlice t len parts => match tget T t with
    | some e => match e.k with
      | .slice et => match tget T et, tyOf T 20 et with
        | some ee, some ty => match Nat.beq ee.size ty.size, Nat.ble (len * ee.size) 1000 with
          | true, true => match fillCells (fun i => some (i * ee.size, ee.size)) (parts.toList.map fun p => (p.1, ev p.2)) (zerosOf ee.zero len) with
            | some cs => match assembleN ty len cs with
              | some xs => K (.own id len) (some (.arr ty xs))
              | none => False
            | none => False
          | _, _ => False
        | _, _ => False
      | _ => False
    | none => False
  | .makeSlice t l c => match tget T t, ev l, ev c with
    | some e, .int .i64 l, .int .i64 c => match e.k with
      | .slice et => match tget T et, tyOf T 20 et with
        | some ee, some ty => match Nat.beq ee.size ty.size, assemble ty ee.zero with
          | true, some (z, _) => (0 ≤ l ∧ l ≤ c ∧ c * ee.bytes ≤ 140737488355328 ∧ c ≤ 140737488355328) ∧ K (.own id l.toNat) (some (.arr ty (List.replicate l.toNat z)))
          | _, _ => False
        | _, _ => False
      | _ => False
    | _, _, _ => False
  | .convert s d x => match ev x, tget T d with
    | .str str, some e => match e.k with
      | .slice et => match tget T et with
        | some ee => match ee.k with
          | .int .u8 => (∃ ds, tget T s = some ds) ∧ str.length ≤ 140737488355328 ∧ K (.own id str.length) (some (.arr (.int .u8) (intsOf str)))
          | _ => False
        | none => False
      | _ => pureV T lk ev (.convert s d x) (fun v => K v none)
    | _, _ => pureV T lk ev (.convert s d x) (fun v => K v none)
  | .call ⟨.value f, args, _⟩ => match ev f with
    | .fn g caps => ∃ ret, (∀ j, ret.has j = false) ∧ PSpec P gl g (args.toList.map ev ++ caps) ret ∧ K ret none
    | _ => False
  | op => pureV T lk ev op (fun v => K v none)

section
variable {P : Program} {T : Tab} (hT : tabOK P T = true)
include hT

theorem flo_pure {gl : Gl} {lk : Heap} {ev : Operand → AV} {id : Nat} {op : Op} {K : AV → Option Chunk → Prop} (h : pureV T lk ev op (fun v => K v none)) (o : Oper) (ho : o.op = op) :
    ∃ v c, K v c ∧ Flo P gl o ev lk id v c := by
  obtain ⟨v, hk, hn, hs⟩ := pureV_sound hT h
  subst ho
  refine ⟨v, none, hk, ⟨fun φ R a w hr hc hR _ next Q hnext => ?_, fun j hj => .inl (hn j hj), fun cs j h => by simp at h⟩⟩
  obtain ⟨u, hu, hrun⟩ := hs φ R w a.eval o rfl hr hc
  unfold Oper.wp
  rw [hrun]
  exact hnext φ R w u (StepTo.refl hR) hu

/-- A run that makes a new block. -/
theorem flo_new {gl : Gl} {lk : Heap} {ev : Operand → AV} {id : Nat} {o : Oper} {v : AV} {ch : Chunk}
    (hrun : ∀ φ R (a : Act) w, (∀ x ∈ o.op.operands, RepV φ R w (ev x) (a.eval x)) → (∀ x ∈ o.op.operands, ChOK φ R w lk (ev x)) → RB R w → ∃ vs e fr cap d u,
      (execOp a.eval o).run P w = .ok (.value u) (pushed w (.cells vs e fr) d) ∧
      ChunkRel (setPlace φ id (some (w.heap.size, cap))) R (pushed w (.cells vs e fr) d) id ch ∧
      RepV (setPlace φ id (some (w.heap.size, cap))) R (pushed w (.cells vs e fr) d) v u)
    (hn : ∀ j, v.has j = true → j = id) (hcn : ∀ cs j, ch = .box cs → AV.hasAny j cs = true → ∃ x ∈ o.op.operands, From lk (ev x) j) : Flo P gl o ev lk id v (some ch) where
  run φ R a w hr hc hR _ next Q hnext := by
    obtain ⟨vs, e, fr, cap, d, u, h1, h2, h3⟩ := hrun φ R a w hr hc hR
    unfold Oper.wp
    rw [h1]
    exact hnext _ R _ u (stepTo_push hR vs e fr cap ch d h2) h3
  names j hj := .inr ⟨hn j hj, rfl⟩
  cnames cs j h hj := hcn cs j (by simpa using h) hj

omit hT in
/-- What was known of values holds over a new block. -/
theorem RepVs.push {φ : Place} {R : Prot} {w : World} {id : Nat} {p : Option (Nat × Nat)} {o : Obj} {d : Nat} (hR : RB R w) {as : List AV} {vs : List Value} (h : RepVs φ R w as vs) (hid : AV.hasAny id as = false) :
    RepVs (setPlace φ id p) R (pushed w o d) as vs :=
  RepVs.mono (fun _ _ h => h) (fun b o' hb => pushed_cell (hR b o' hb)) (fun j hj => by
    unfold setPlace
    rw [if_neg]
    intro e
    subst e
    rw [hid] at hj
    exact absurd hj (by simp)) h
omit hT in
theorem Rep.push {R : Prot} {w : World} {o : Obj} {d : Nat} (hR : RB R w) {t : Ty} {x : t.D} {vs : List Value} (h : Rep w R t x vs) :
    Rep (pushed w o d) R t x vs :=
  Rep.mono (fun _ _ h => h) (fun b o' hb => pushed_cell (hR b o' hb)) h
theorem flo_box {gl : Gl} {lk : Heap} {ev : Operand → AV} {id : Nat} {t : TypeId} {x : Operand} {cs : List AV} (hx : (ev x).cells = some cs) (hid : (ev x).has id = false) (o : Oper) (ho : o.op = .box t x) :
    Flo P gl o ev lk id (.loc id 0) (some (.box cs)) := by
  refine flo_new hT (fun φ R a w hr hc hR => ?_) (fun j hj => by simp [AV.has] at hj; exact hj.symm) (fun cs' j h hj => ?_)
  · have hrx := AV.cells_rep hx (hr x (by simp [ho, Op.operands]))
    refine ⟨(a.eval x).cells, t, (0, 0), 0, w.drawn, .pointer (some ⟨w.heap.size, 0, none⟩), ?_, ?_, ?_⟩
    · simp [execOp, ho, Instr.box, newVar, newRow]; rfl
    · exact ⟨w.heap.size, 0, _, t, (0, 0), by simp [setPlace], pushed_get _ _ _, RepVs.push hR hrx (by rw [AV.cells_has hx]; exact hid), not_prot_new hR, noFr_zero _⟩
    · simp only [RepV]
      exact ⟨w.heap.size, 0, by simp [setPlace], rfl⟩
  · simp only [Chunk.box.injEq] at h
    subst h
    rw [AV.cells_has hx] at hj
    exact ⟨x, by simp [ho, Op.operands], .inl hj⟩

theorem flo_alloc {gl : Gl} {lk : Heap} {ev : Operand → AV} {id : Nat} {t : TypeId} {e : TE} (he : tget T t = some e) (o : Oper) (ho : o.op = .alloc t) :
    Flo P gl o ev lk id (.loc id 0) (some (.box e.zero)) := by
  obtain ⟨z, hz, hzc, _⟩ := run_zeroValue_tab hT he
  refine flo_new hT (fun φ R a w hr hc hR => ?_) (fun j hj => by simp [AV.has] at hj; exact hj.symm) (fun cs' j h hj => ?_)
  · refine ⟨z.cells, t, (0, 0), 0, w.drawn, .pointer (some ⟨w.heap.size, 0, none⟩), ?_, ?_, ?_⟩
    · simp [execOp, ho, Instr.alloc, newVar, newRow, hz]; rfl
    · exact ⟨w.heap.size, 0, _, t, (0, 0), by simp [setPlace], pushed_get _ _ _, zeroChk_rep hzc, not_prot_new hR, noFr_zero _⟩
    · simp only [RepV]
      exact ⟨w.heap.size, 0, by simp [setPlace], rfl⟩
  · simp only [Chunk.box.injEq] at h
    subst h
    rw [zeroChk_has hzc] at hj
    simp at hj

theorem zero_size {t : TypeId} {e : TE} (h : tget T t = some e) : ∃ v, (∀ w, (zeroValue t).run P w = .ok v w) ∧ zeroChk e.zero v.cells.toList = true ∧ v.cells.size = e.size := by
  obtain ⟨i, d, hi, hd, _, _, _, _, _, hz⟩ := (tab_ok hT h).ex
  rcases hz with ⟨vs, hz, ha, hc, hs⟩ | ⟨v, hz, h1, hc, ha, hc2, hs⟩
  · exact ⟨_, fun w => by simp [zeroValue, typeInfo, hi, hz]; rfl, by simpa [Value.cells] using hc, by simpa [Value.cells] using hs⟩
  · exact ⟨v, fun w => by simp [zeroValue, typeInfo, hi, hz], by rw [hc]; exact hc2, by rw [hc, hs]; rfl⟩

omit hT in
theorem fillCells_length {place : Nat → Option (Nat × Nat)} : ∀ (parts : List (Nat × AV)) (cs cs' : List AV), fillCells place parts cs = some cs' → cs'.length = cs.length
  | [], cs, cs', h => by simp only [fillCells, Option.some.injEq] at h; rw [h]
  | (i, v) :: r, cs, cs', h => by
    simp only [fillCells] at h
    split at h
    · split at h
      · rename_i off size us _ _ h1 h2
        have h1 := Nat.eq_of_beq_eq_true h1
        have h2 := Nat.le_of_ble_eq_true h2
        rw [fillCells_length r _ cs' h]
        simp
        omega
      · simp at h
    · simp at h

theorem flo_buildSlice {gl : Gl} {lk : Heap} {ev : Operand → AV} {id : Nat} {t et : TypeId} {e ee : TE} {len : Nat} {parts : Array (Nat × Operand)} {ty : Ty} {cs : List AV} {xs : List ty.D}
    (he : tget T t = some e) (hk : e.k = .slice et) (hee : tget T et = some ee) (hsz : ee.size = ty.size) (hle : len * ee.size ≤ 1000)
    (hcs : fillCells (fun i => some (i * ee.size, ee.size)) (parts.toList.map fun p => (p.1, ev p.2)) (zerosOf ee.zero len) = some cs) (hxs : assembleN ty len cs = some xs)
    (o : Oper) (ho : o.op = .buildSlice t len parts) : Flo P gl o ev lk id (.own id len) (some (.arr ty xs)) := by
  obtain ⟨z, hz, hzc, hzs⟩ := zero_size hT hee
  refine flo_new hT (fun φ R a w hr hc hR => ?_) (fun j hj => by simp [AV.has] at hj; exact hj.symm) (fun cs' j h hj => by simp at h)
  have hin : ∀ p ∈ parts.toList, p.2 ∈ o.op.operands := fun p hp => by rw [ho]; simp only [Op.operands]; simp; exact ⟨p.1, by simpa using hp⟩
  have hzr : RepVs φ R w (zerosOf ee.zero len) ((Array.range (len * z.cells.size)).map (z.cells[· % z.cells.size]!)).toList := zeros_rep (zeroChk_rep hzc) len
  obtain ⟨us', hf, hu⟩ := fill_sound (φ := φ) (R := R) (w := w) (ρ := a.eval) parts.toList _ cs _ hcs hzr (fun p hp => hr p.2 (hin p hp))
  obtain ⟨hxl, hxe⟩ := assembleN_rep len cs xs us'.toList hxs hu
  have hul : us'.size = len * ty.size := by
    have h1 := hu.length
    have h2 := fillCells_length _ _ _ hcs
    have h3 := hzr.length
    simp only [Array.length_toList, Array.size_map, Array.size_range] at h1 h3
    rw [h1, h2, ← h3, hzs, hsz]
  have hd := tk_slice hT he hk
  refine ⟨us', et, (0, 0), len, w.drawn, .slice (some ⟨w.heap.size, 0, none⟩) len len, ?_, ?_, ?_⟩
  · simp only [execOp, ho, Instr.buildSlice, Sem.run_bind, run_underlying hd, Result.andThen_ok, run_sizeOf_tab hT hee]
    rw [if_neg (by omega)]
    by_cases h0 : len * ee.size = 0
    · have e0 : ((Array.range (len * z.cells.size)).map (z.cells[· % z.cells.size]!)) = #[] := by rw [hzs, h0, Array.range_zero']; simp
      rw [e0] at hf
      simp only [h0, if_true, Sem.run_pure, Result.andThen_ok, Array.range_zero', List.map_toArray, List.map_nil, Array.toList_map, hf, Sem.run_bind, newRow, run_newObj]
      try rfl
    · simp only [h0, if_false, Sem.run_bind, hz, Sem.run_pure, Result.andThen_ok, Array.toList_map]
      rw [hzs] at hf
      rw [hzs, hf]
      rfl
  · refine .inr ⟨w.heap.size, len, us', et, (0, 0), by simp [setPlace], pushed_get _ _ _, hul, by omega, fun i hi => Rep.push hR (hxe i hi), not_prot_new hR, noFr_zero _⟩
  · simp only [RepV]
    exact .inr ⟨w.heap.size, len, by simp [setPlace], Nat.le_refl _, rfl⟩

theorem flo_call {gl : Gl} {lk : Heap} {ev : Operand → AV} {id : Nat} {f : Operand} {args : Array Operand} {ats : Array TypeId} {g : FuncId} {caps : List AV} {ret : AV}
    (hf : ev f = .fn g caps) (hret : ∀ j, ret.has j = false) (hs : PSpec P gl g (args.toList.map ev ++ caps) ret) (o : Oper) (ho : o.op = .call ⟨.value f, args, ats⟩) :
    Flo P gl o ev lk id ret none where
  run φ R a w hr hc hR hgl next Q hnext := by
    obtain ⟨⟨fn, hfn, hname, hbody⟩, hs⟩ := hs
    have hfr := hr f (by simp [ho, Op.operands, Call.operands])
    rw [hf] at hfr
    simp only [RepV] at hfr
    obtain ⟨cv, hfv, hcaps⟩ := hfr
    have hargs : RepVs φ R w (args.toList.map ev ++ caps) ((args.map a.eval).toList ++ cv.toList) := by
      refine RepVs.append ?_ hcaps
      rw [Array.toList_map]
      exact repVs_map _ _ _ (fun x hx => hr x (by simp [ho, Op.operands, Call.operands]; exact .inr (by simpa using hx)))
    have hcall := hs φ R w _ ⟨fun _ _ h => by simp [noHeap] at h, fun _ _ _ _ _ _ _ h => by simp [noHeap] at h⟩ hR hgl hargs
    have hrun : (execOp a.eval o).run P w = .ok (.enter g ((args.map a.eval).toList ++ cv.toList).toArray) w := by
      simp only [execOp, ho, resolve, hfv, Deferred.ofValue, invoke, callFunc, Sem.run_bind, Sem.run_pure, Result.andThen_ok, run_program, hfn, hname, hbody, Bool.false_eq_true, if_false]
      congr 2
      apply Array.ext'
      simp
    unfold Oper.wp
    rw [hrun, Oper.upon_enter]
    refine hcall.mono ?_
    rintro e w' ⟨v, φ', R', rfl, hv, hh, hrb, hevo, _⟩
    refine hnext φ R' w' v ⟨⟨hevo.os, hevo.tape, hevo.output, hevo.size, fun b hb _ => hevo.keep b hb (by rintro ⟨_, _, _, h, _⟩; simp [noHeap] at h), hevo.rmono, hevo.rkeep, fun b o' h => ?_, fun b h => by simp at h⟩, hrb, fun _ _ => rfl, fun _ h => by simp at h⟩ ?_
    · rcases hevo.rnew b o' h with h | h | h
      · exact .inl h
      · exact .inr (.inl h)
      · obtain ⟨_, _, _, h, _⟩ := h
        simp [noHeap] at h
    · exact RepV.mono (fun _ _ h => h) (fun _ _ _ => rfl) (fun j hj => by rw [hret j] at hj; exact absurd hj (by simp)) hv
  names j hj := by rw [hret j] at hj; simp at hj
  cnames cs j h := by simp at h

/-- A contract of a function that makes a box and hands out its address. -/
def NSpec (P : Program) (gl : Gl) (f : FuncId) (args : List AV) (cs : List AV) : Prop := ∃ k, FSpec P gl f args noHeap (.loc k 0) (fun j => lookup j [(k, .box cs)])
theorem lookup_one {k j : Nat} {c d : Chunk} (h : lookup j [(k, c)] = some d) : j = k ∧ d = c := by
  rw [lookup_cons] at h
  split at h
  · rename_i e; simp only [Option.some.injEq] at h; exact ⟨e.symm, h.symm⟩
  · simp [lookup] at h
theorem flo_callNew {gl : Gl} {lk : Heap} {ev : Operand → AV} {id : Nat} {f : Operand} {args : Array Operand} {ats : Array TypeId} {g : FuncId} {caps : List AV} {cs : List AV}
    (hf : ev f = .fn g caps) (hcs : ∀ j, AV.hasAny j cs = false) (hs : NSpec P gl g (args.toList.map ev ++ caps) cs) (o : Oper) (ho : o.op = .call ⟨.value f, args, ats⟩) :
    Flo P gl o ev lk id (.loc id 0) (some (.box cs)) where
  run φ R a w hr hc hR hgl next Q hnext := by
    obtain ⟨k, ⟨fn, hfn, hname, hbody⟩, hs⟩ := hs
    have hfr := hr f (by simp [ho, Op.operands, Call.operands])
    rw [hf] at hfr
    simp only [RepV] at hfr
    obtain ⟨cv, hfv, hcaps⟩ := hfr
    have hargs : RepVs φ R w (args.toList.map ev ++ caps) ((args.map a.eval).toList ++ cv.toList) := by
      refine RepVs.append ?_ hcaps
      rw [Array.toList_map]
      exact repVs_map _ _ _ (fun x hx => hr x (by simp [ho, Op.operands, Call.operands]; exact .inr (by simpa using hx)))
    have hcall := hs φ R w _ ⟨fun _ _ h => by simp [noHeap] at h, fun _ _ _ _ _ _ _ h => by simp [noHeap] at h⟩ hR hgl hargs
    have hrun : (execOp a.eval o).run P w = .ok (.enter g ((args.map a.eval).toList ++ cv.toList).toArray) w := by
      simp only [execOp, ho, resolve, hfv, Deferred.ofValue, invoke, callFunc, Sem.run_bind, Sem.run_pure, Result.andThen_ok, run_program, hfn, hname, hbody, Bool.false_eq_true, if_false]
      congr 2
      apply Array.ext'
      simp
    unfold Oper.wp
    rw [hrun, Oper.upon_enter]
    refine hcall.mono ?_
    rintro e w' ⟨v, φ', R', rfl, hv, hh, hrb, hevo, _⟩
    have hself : lookup k [(k, Chunk.box cs)] = some (.box cs) := by rw [lookup_cons]; simp
    obtain ⟨b, cap, vs, te, fr, hp, hb, hrs, hnR, hnf⟩ := hh.rel k _ hself
    have hnew : w.heap.size ≤ b := by
      rcases hevo.onew b ⟨k, _, cap, hself, hp⟩ with h | ⟨_, _, _, h, _⟩
      · exact h
      · simp [noHeap] at h
    have hid : setPlace φ id (φ' k) id = some (b, cap) := by simp [setPlace, hp]
    refine hnext (setPlace φ id (φ' k)) R' w' v ⟨⟨hevo.os, hevo.tape, hevo.output, hevo.size, fun b hb _ => hevo.keep b hb (by rintro ⟨_, _, _, h, _⟩; simp [noHeap] at h), hevo.rmono, hevo.rkeep, fun b o' h => ?_, fun b2 h => ?_⟩, hrb, fun j hj => by simp [setPlace, hj], fun ch h => ?_⟩ ?_
    · rcases hevo.rnew b o' h with h | h | h
      · exact .inl h
      · exact .inr (.inl h)
      · obtain ⟨_, _, _, h, _⟩ := h
        simp [noHeap] at h
    · obtain ⟨_, cap2, h2⟩ := h
      rw [hid] at h2
      simp only [Option.some.injEq, Prod.mk.injEq] at h2
      exact .inl (by omega)
    · simp only [Option.some.injEq] at h
      subst h
      refine ⟨⟨b, cap, vs, te, fr, hid, hb, RepVs.mono (fun _ _ h => h) (fun _ _ _ => rfl) (fun j hj => by rw [hcs j] at hj; exact absurd hj (by simp)) hrs, hnR, hnf⟩, fun b2 cap2 h2 => ?_⟩
      rw [hid] at h2
      simp only [Option.some.injEq, Prod.mk.injEq] at h2
      omega
    · simp only [RepV] at hv ⊢
      obtain ⟨b', cap', h1, h2⟩ := hv
      rw [hp] at h1
      simp only [Option.some.injEq, Prod.mk.injEq] at h1
      obtain ⟨rfl, rfl⟩ := h1
      exact ⟨b, cap, hid, h2⟩
  names j hj := by simp [AV.has] at hj; exact .inr ⟨hj.symm, rfl⟩
  cnames cs' j h hj := by
    simp only [Option.some.injEq, Chunk.box.injEq] at h
    subst h
    rw [hcs j] at hj; simp at hj

theorem run_typeInfo_tab {t : TypeId} {e : TE} (h : tget T t = some e) : ∃ i, (∀ w, (typeInfo t).run P w = .ok i w) ∧ i.bytes = e.bytes ∧ i.size = e.size := by
  obtain ⟨i, d, hi, _, hs, hb, _⟩ := (tab_ok hT h).ex
  exact ⟨i, fun w => by simp [typeInfo, hi], hb, hs⟩

theorem flo_makeSlice {gl : Gl} {lk : Heap} {ev : Operand → AV} {id : Nat} {t et : TypeId} {e ee : TE} {xl xc : Operand} {l c : Int} {ty : Ty} {z0 : ty.D} {zr : List AV}
    (he : tget T t = some e) (hk : e.k = .slice et) (hee : tget T et = some ee) (hsz : ee.size = ty.size) (hz0 : assemble ty ee.zero = some (z0, zr))
    (hl : ev xl = .int .i64 l) (hc : ev xc = .int .i64 c) (h0 : 0 ≤ l) (h1 : l ≤ c) (h2 : c * ee.bytes ≤ 140737488355328) (h3 : c ≤ 140737488355328)
    (o : Oper) (ho : o.op = .makeSlice t xl xc) : Flo P gl o ev lk id (.own id l.toNat) (some (.arr ty (List.replicate l.toNat z0))) := by
  obtain ⟨z, hz, hzc, hzs⟩ := zero_size hT hee
  obtain ⟨ti, hti, htb, hts⟩ := run_typeInfo_tab hT hee
  refine flo_new hT (fun φ R a w hr hch hR => ?_) (fun j hj => by simp [AV.has] at hj; exact hj.symm) (fun cs' j h hj => by simp at h)
  have hlv := hr xl (by simp [ho, Op.operands])
  have hcv := hr xc (by simp [ho, Op.operands])
  rw [hl] at hlv
  rw [hc] at hcv
  simp only [RepV] at hlv hcv
  have hd := tk_slice hT he hk
  have hzr : RepVs φ R w (zerosOf ee.zero c.toNat) ((Array.range (c.toNat * z.cells.size)).map (z.cells[· % z.cells.size]!)).toList := zeros_rep (zeroChk_rep hzc) _
  refine ⟨(Array.range (c.toNat * z.cells.size)).map (z.cells[· % z.cells.size]!), et, (0, 0), c.toNat, w.drawn, .slice (some ⟨w.heap.size, 0, none⟩) l.toNat c.toNat, ?_, ?_, ?_⟩
  · have wl : IntKind.i64.wrap l = l := IntWalk.i64_in l (by omega)
    have wc : IntKind.i64.wrap c = c := IntWalk.i64_in c (by omega)
    have hb : (ti.bytes : Int) * c ≤ 140737488355328 := by rw [htb, Int.mul_comm]; exact h2
    have hnt : (decide (c < 0) || decide ((ti.bytes : Int) * c > 2 ^ 48)) = false := by
      simp only [Bool.or_eq_false_iff, decide_eq_false_iff_not]
      exact ⟨by omega, by omega⟩
    simp only [execOp, ho, hlv, hcv, Instr.makeSlice, asInt, asIntOf, Sem.run_bind, run_underlying hd, Result.andThen_ok, Sem.run_pure, hti, wl, wc, hnt, run_askRoom, run_sizeOf_tab hT hee]
    rw [if_neg (by simp; omega)]
    simp only [Sem.run_bind, run_askRoom, Result.andThen_ok, run_sizeOf_tab hT hee]
    by_cases hn : c.toNat * ee.size = 0
    · have e0 : ((Array.range (c.toNat * z.cells.size)).map (z.cells[· % z.cells.size]!)) = #[] := by rw [hzs, hn, Array.range_zero']; simp
      rw [e0]
      simp only [hn, if_true, Sem.run_pure, Result.andThen_ok, Array.range_zero', newRow, Sem.run_bind, run_newObj]
      simp [pushed]
    · simp only [hn, if_false, Sem.run_bind, hz, Sem.run_pure, Result.andThen_ok, newRow, run_newObj, hzs]
      rfl
  · refine .inr ⟨w.heap.size, c.toNat, _, et, (0, 0), by simp [setPlace], pushed_get _ _ _, by simp [hzs, hsz], by simp; omega, fun i hi => Rep.push hR ?_, not_prot_new hR, noFr_zero _⟩
    simp only [List.length_replicate] at hi
    simp only [List.getElem_replicate]
    have hsub := RepVs.take ty.size (RepVs.drop (i * ty.size) hzr)
    have hzl : ee.zero.length = ty.size := by have := (zeroChk_rep (φ := φ) (R := R) (w := w) hzc).length; simp at this; omega
    have heq : ∀ n i, i < n → ((zerosOf ee.zero n).drop (i * ty.size)).take ty.size = ee.zero := by
      intro n
      induction n with
      | zero => intro i h; omega
      | succ n ih =>
        intro i h
        cases i with
        | zero => simp [zerosOf, ← hzl]
        | succ i =>
          simp only [zerosOf]
          rw [List.drop_append, hzl, Nat.add_mul, Nat.one_mul, Nat.add_sub_cancel, List.drop_of_length_le (by rw [hzl]; omega), List.nil_append]
          exact ih i (by omega)
    rw [heq c.toNat i (by omega)] at hsub
    obtain ⟨us, ws, hvs, hrep, _⟩ := assemble_rep hz0 hsub
    have hul := hrep.length
    rw [hvs]
    have hwl := congrArg List.length hvs
    simp only [List.length_take, List.length_drop, List.length_append] at hwl
    have : ws = [] := by
      apply List.eq_nil_of_length_eq_zero
      omega
    rw [this, List.append_nil]
    exact hrep
  · simp only [RepV]
    exact .inr ⟨w.heap.size, c.toNat, by simp [setPlace], by omega, rfl⟩

omit hT in
theorem push_modify (h : Array Obj) (o : Obj) (f : Obj → Obj) : (h.push o).modify h.size f = h.push (f o) := by
  apply Array.ext (by simp)
  intro i h1 h2
  simp only [Array.getElem_modify, Array.getElem_push]
  simp at h1 h2
  by_cases hi : i = h.size
  · subst hi; simp
  · have : i < h.size := by omega
    simp [this, Ne.symm hi]

theorem flo_bytes {gl : Gl} {lk : Heap} {ev : Operand → AV} {id : Nat} {s d et : TypeId} {ds e ee : TE} {x : Operand} {str : List UInt8}
    (hs : tget T s = some ds) (he : tget T d = some e) (hk : e.k = .slice et) (hee : tget T et = some ee) (hk2 : ee.k = .int .u8) (hx : ev x = .str str)
    (o : Oper) (ho : o.op = .convert s d x) : Flo P gl o ev lk id (.own id str.length) (some (.arr (.int .u8) (intsOf str))) := by
  obtain ⟨dd, hds, _⟩ := tab_k hT hs
  refine flo_new hT (fun φ R a w hr hch hR => ?_) (fun j hj => by simp [AV.has] at hj; exact hj.symm) (fun cs' j h hj => by simp at h)
  have hxv := hr x (by simp [ho, Op.operands])
  rw [hx] at hxv
  simp only [RepV] at hxv
  obtain ⟨cap, hcap, hcut⟩ : ∃ cap, str.length ≤ cap ∧ (Question.appendCap str.length 0 et).cut (w.tape w.drawn (.appendCap str.length 0 et)) = cap := ⟨_, by simp [Question.cut], rfl⟩
  let cells : Array Value := ((bs str).data.map fun b => Value.int .u8 b.toNat) ++ Array.replicate (cap - str.length) (.int .u8 0)
  have hcs : cells.size = cap := by simp [cells, bs]; omega
  refine ⟨cells, et, (cap, cap + 1), cap, w.drawn + 1, .slice (some ⟨w.heap.size, 0, none⟩) str.length cap, ?_, ?_, ?_⟩
  · simp only [execOp, ho, hxv, convert, Sem.run_bind, run_underlying hds, run_underlying (tk_slice hT he hk), run_underlying (tk_int hT hee hk2), Result.andThen_ok, Conv.stringToBytes, run_choose, Question.forced, Bool.false_eq_true, if_false, bs_size, hcut, newRow, run_newObj, Sem.run_pure, markStringish, run_shape]
    have hsh : (⟨w.heap.push (.cells cells et), w.tape, w.drawn + 1, w.os, w.output⟩ : World).shape? w.heap.size = some (et, cap) := by
      simp [World.shape?, hcs]
    have hcells : ((bs str).data.map fun b => Value.int .u8 b.toNat) ++ Array.replicate (cap - str.length) (.int .u8 0) = cells := rfl
    rw [hcells, hsh]
    simp only [run_freeze, Result.andThen_ok, World.freeze]
    have hz : ¬ (1 : Nat) = 0 := by omega
    simp only [if_neg hz, push_modify]
    rfl
  · refine .inr ⟨w.heap.size, cap, cells, et, (cap, cap + 1), by simp [setPlace], pushed_get _ _ _, by simp [hcs, Ty.size], by simp [intsOf]; exact hcap, fun i hi => ?_, not_prot_new hR, fun o' ho' h => by rw [hcs] at ho'; simp at h; omega⟩
    simp only [intsOf, List.length_map] at hi
    simp only [Rep, Ty.size, Nat.mul_one, intsOf, List.getElem_map]
    have hlt : i < cells.toList.length := by simp [hcs]; omega
    rw [List.drop_eq_getElem_cons hlt, List.take_succ_cons, List.take_zero]
    congr 1
    simp only [Array.getElem_toList]
    rw [Array.getElem_append_left (by simp [bs]; exact hi)]
    simp [bs]
  · simp only [RepV]
    exact .inr ⟨w.heap.size, cap, by simp [setPlace], hcap, rfl⟩

theorem floV_sound {gl : Gl} {lk : Heap} {ev : Operand → AV} {id : Nat} {op : Op} {K : AV → Option Chunk → Prop} (h : floV P T gl lk ev id op K) (hid : ∀ x ∈ op.operands, (ev x).has id = false) (o : Oper) (ho : o.op = op) :
    ∃ v c, K v c ∧ Flo P gl o ev lk id v c := by
  unfold floV at h
  split at h
  · split at h
    · rename_i t x _ cs hx
      exact ⟨_, _, h, flo_box hT hx (hid x (by simp [Op.operands])) o ho⟩
    · exact h.elim
  · split at h
    · rename_i e he
      exact ⟨_, _, h, flo_alloc hT he o ho⟩
    · exact h.elim
  · split at h
    · rename_i e he
      split at h
      · rename_i et hk
        split at h
        · rename_i ee ty hee hty
          split at h
          · rename_i h1 h2
            split at h
            · rename_i cs hcs
              split at h
              · rename_i xs hxs
                exact ⟨_, _, h, flo_buildSlice hT he hk hee (Nat.eq_of_beq_eq_true h1) (Nat.le_of_ble_eq_true h2) hcs hxs o ho⟩
              · exact h.elim
            · exact h.elim
          · exact h.elim
        · exact h.elim
      · exact h.elim
    · exact h.elim
  · split at h
    · rename_i e l c he hl hc
      split at h
      · rename_i et hk
        split at h
        · rename_i ee ty hee hty
          split at h
          · rename_i z0 zr h1 h2
            obtain ⟨⟨h3, h4, h5, h6⟩, h⟩ := h
            exact ⟨_, _, h, flo_makeSlice hT he hk hee (Nat.eq_of_beq_eq_true h1) h2 hl hc h3 h4 h5 h6 o ho⟩
          · exact h.elim
        · exact h.elim
      · exact h.elim
    · exact h.elim
  · split at h
    · rename_i str e hx he
      split at h
      · rename_i et hk
        split at h
        · rename_i ee hee
          split at h
          · rename_i hk2
            obtain ⟨⟨ds, hds⟩, hl, h⟩ := h
            exact ⟨_, _, h, flo_bytes hT hds he hk hee hk2 hx o ho⟩
          · exact h.elim
        · exact h.elim
      · exact flo_pure hT h o ho
    · exact flo_pure hT h o ho
  · split at h
    · rename_i hf
      obtain ⟨ret, h1, h2, h3⟩ := h
      exact ⟨_, _, h3, flo_call hT hf h1 h2 o ho⟩
    · exact h.elim
  · exact flo_pure hT h o ho
end
end Go.Fw
