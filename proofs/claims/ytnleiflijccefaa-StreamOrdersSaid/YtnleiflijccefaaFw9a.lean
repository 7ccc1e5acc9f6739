/- The framework, part 9a: append. -/
import Derived.Test.YtnleiflijccefaaFw8
import Derived.Laws.Append
set_option linter.all false
set_option linter.unusedSectionVars false
set_option linter.unusedSimpArgs false
namespace Go.Fw

/-- What is appended. -/
def srcV (lk : Heap) (ty : Ty) (x : AV) (K : List ty.D → Prop) : Prop :=
  match x with
  | .nils => K []
  | .list ty' ys => if h : ty' = ty then K (h ▸ ys) else False
  | .own id n => match lk id with
    | some (.arr ty' zs) => if h : ty' = ty then n ≤ zs.length ∧ K ((h ▸ zs : List ty.D).take n) else False
    | _ => False
  | .str s => if h : Ty.int .u8 = ty then K (h ▸ intsOf s) else False
  | _ => False

/-- Data in a row of cells. -/
def RowOf (w : World) (R : Prot) (ty : Ty) (ys : List ty.D) (cells : List Value) : Prop :=
  cells.length = ys.length * ty.size ∧ ∀ (i : Nat) (h : i < ys.length), Rep w R ty ys[i] ((cells.drop (i * ty.size)).take ty.size)

theorem RowOf.nil (w : World) (R : Prot) (ty : Ty) : RowOf w R ty [] [] := ⟨by simp, fun i h => by simp at h⟩
theorem RowOf.one {w : World} {R : Prot} {ty : Ty} {ys : List ty.D} {cells : List Value} (h : RowOf w R ty ys cells) : ∀ v ∈ cells, v.oneCell' = true := by
  intro v hv
  obtain ⟨j, hj, rfl⟩ := List.getElem_of_mem hv
  have hpos : 0 < ty.size := by
    rcases Nat.eq_zero_or_pos ty.size with h0 | h0
    · rw [h.1, h0] at hj; simp at hj
    · exact h0
  have hlt : j / ty.size < ys.length := Nat.div_lt_of_lt_mul (by rw [Nat.mul_comm]; rw [← h.1]; exact hj)
  refine (h.2 _ hlt).oneCell _ ?_
  rw [List.mem_iff_getElem?]
  refine ⟨j % ty.size, ?_⟩
  rw [List.getElem?_take, if_pos (Nat.mod_lt _ hpos), List.getElem?_drop, Nat.mul_comm, Nat.div_add_mod]
  simp [hj]
theorem RowOf.append {w : World} {R : Prot} {ty : Ty} {xs ys : List ty.D} {c d : List Value} (h : RowOf w R ty xs c) (k : RowOf w R ty ys d) : RowOf w R ty (xs ++ ys) (c ++ d) := by
  refine ⟨by simp [h.1, k.1, Nat.add_mul], fun i hi => ?_⟩
  by_cases hx : i < xs.length
  · rw [List.getElem_append_left hx]
    have := h.2 i hx
    rw [List.drop_append_of_le_length (by rw [h.1]; exact Nat.mul_le_mul_right _ (by omega)), List.take_append_of_le_length]
    · exact this
    · simp only [List.length_drop, h.1]
      have : (i + 1) * ty.size ≤ xs.length * ty.size := Nat.mul_le_mul_right _ hx
      rw [Nat.add_mul, Nat.one_mul] at this
      omega
  · rw [List.getElem_append_right (by omega)]
    have := k.2 (i - xs.length) (by simp at hi; omega)
    rw [List.drop_append, List.drop_of_length_le (by rw [h.1]; exact Nat.mul_le_mul_right _ (by omega)), List.nil_append, h.1, ← Nat.sub_mul]
    exact this
theorem RowOf.take {w : World} {R : Prot} {ty : Ty} {xs : List ty.D} {c : List Value} (h : ∀ (i : Nat) (hi : i < xs.length), Rep w R ty xs[i] ((c.drop (i * ty.size)).take ty.size)) (n : Nat) (hn : n ≤ xs.length) (hl : n * ty.size ≤ c.length) :
    RowOf w R ty (xs.take n) (c.take (n * ty.size)) := by
  refine ⟨by simp; rw [Nat.min_eq_left hl, Nat.min_eq_left hn], fun i hi => ?_⟩
  simp only [List.length_take] at hi
  rw [List.getElem_take]
  have := h i (by omega)
  have e : ((c.take (n * ty.size)).drop (i * ty.size)).take ty.size = (c.drop (i * ty.size)).take ty.size := by
    rw [List.drop_take, List.take_take, Nat.min_eq_left]
    have : (i + 1) * ty.size ≤ n * ty.size := Nat.mul_le_mul_right _ (by omega)
    rw [Nat.add_mul, Nat.one_mul] at this
    omega
  rw [e]
  exact this

section
variable {P : Program} {T : Tab} (hT : tabOK P T = true)
include hT

omit hT in
theorem rows_load {w : World} {R : Prot} {ty : Ty} {ys : List ty.D} {b o : Nat} (h : ∀ (i : Nat) (hi : i < ys.length), ∃ us, us.length = ty.size ∧ CellsAt w R b (o + i * ty.size) us ∧ Rep w R ty ys[i] us) :
    ∃ cells : List Value, RowOf w R ty ys cells ∧ (loadCells ⟨b, o, none⟩ (ys.length * ty.size)).run P w = .ok cells.toArray w := by
  have hcell : ∀ j, j < ys.length * ty.size → ∃ v, w.cell? ⟨b, o + j, none⟩ = some v := by
    intro j hj
    have hpos : 0 < ty.size := by
      rcases Nat.eq_zero_or_pos ty.size with h0 | h0
      · rw [h0] at hj; simp at hj
      · exact h0
    have hlt : j / ty.size < ys.length := Nat.div_lt_of_lt_mul (by rw [Nat.mul_comm]; exact hj)
    obtain ⟨us, hl, hc, _⟩ := h _ hlt
    have hm := Nat.mod_lt j hpos
    have := (hc (j % ty.size) us[j % ty.size] (by simp [hl, hm])).2
    rw [Nat.add_assoc, Nat.mul_comm (j / ty.size), Nat.div_add_mod] at this
    exact ⟨_, this⟩
  let f : Nat → Value := fun j => (w.cell? ⟨b, o + j, none⟩).getD undef
  have hf : ∀ j, j < ys.length * ty.size → w.cell? ((⟨b, o, none⟩ : Addr).add j) = some (f j) := by
    intro j hj
    obtain ⟨v, hv⟩ := hcell j hj
    rw [Addr.add_lit]
    simp only [f, hv, Option.getD_some]
  refine ⟨(List.range (ys.length * ty.size)).map f, ⟨by simp, fun i hi => ?_⟩, run_loadCells w _ _ f hf⟩
  obtain ⟨us, hl, hc, hr⟩ := h i hi
  have : (((List.range (ys.length * ty.size)).map f).drop (i * ty.size)).take ty.size = us := by
    apply List.ext_getElem?
    intro j
    have hmul : (i + 1) * ty.size ≤ ys.length * ty.size := Nat.mul_le_mul_right _ hi
    rw [Nat.add_mul, Nat.one_mul] at hmul
    rw [List.getElem?_take]
    by_cases hj : j < ty.size
    · rw [if_pos hj, List.getElem?_drop]
      have h1 : us[j]? = some us[j] := by simp [hl, hj]
      have := (hc j us[j] h1).2
      rw [h1]
      simp only [List.getElem?_map, List.getElem?_range (show i * ty.size + j < ys.length * ty.size by omega), Option.map_some, f]
      rw [← Nat.add_assoc, this]
      rfl
    · rw [if_neg hj, List.getElem?_eq_none (by omega)]
  rw [this]
  exact hr

theorem src_run {lk : Heap} {ty : Ty} {x : AV} {K : List ty.D → Prop} (h : srcV lk ty x K) :
    ∃ ys, K ys ∧ ∀ φ R w u, RepV φ R w x u → ChOK φ R w lk x → ∃ cells : List Value, RowOf w R ty ys cells ∧ (Builtin.lenOf u).run P w = .ok ys.length w ∧
      (Builtin.firstCells ty.size ys.length u).run P w = .ok cells.toArray w := by
  unfold srcV at h
  split at h
  · refine ⟨_, h, fun φ R w u hr _ => ⟨[], RowOf.nil w R ty, ?_, ?_⟩⟩ <;> simp only [RepV] at hr <;> subst hr <;> simp [Builtin.lenOf, Builtin.firstCells]
  · rename_i ty' ys
    split at h
    · rename_i e
      subst e
      refine ⟨_, h, fun φ R w u hr _ => ?_⟩
      simp only [RepV, Rep] at hr
      obtain ⟨p, cap, hp, hcap, hr⟩ := hr
      simp only [List.cons.injEq, and_true] at hp
      subst hp
      rcases hr with ⟨rfl, rfl⟩ | ⟨b, o, rfl, hr⟩
      · exact ⟨[], RowOf.nil w R _, by simp [Builtin.lenOf], by cases p <;> simp [Builtin.firstCells, loadCells, loadCellsFrom]⟩
      · obtain ⟨cells, hrow, hl⟩ := rows_load (P := P) hr
        exact ⟨cells, hrow, by simp [Builtin.lenOf], by simpa [Builtin.firstCells] using hl⟩
    · exact h.elim
  · rename_i id n
    split at h
    · rename_i ty' zs hlk
      split at h
      · rename_i e
        subst e
        obtain ⟨hn, h⟩ := h
        refine ⟨_, h, fun φ R w u hr hc => ?_⟩
        have hc := hc id _ (by simp [AV.has]) hlk
        simp only [RepV] at hr
        have hlen : (zs.take n).length = n := by simp; omega
        rcases hr with ⟨h1, rfl, rfl⟩ | ⟨b, cap, hφ, hcap, rfl⟩
        · exact ⟨[], by simpa using RowOf.nil w R _, by simp [Builtin.lenOf], by simp [Builtin.firstCells]⟩
        · rcases hc with ⟨h1, h2⟩ | ⟨b', cap', vs, e, fr, hφ', hh, hsz, hcap', hel, _⟩
          · rw [hφ] at h1; simp at h1
          · rw [hφ] at hφ'
            simp only [Option.some.injEq, Prod.mk.injEq] at hφ'
            obtain ⟨rfl, rfl⟩ := hφ'
            have hle : n * ty'.size ≤ vs.toList.length := by simp [hsz]; exact Nat.mul_le_mul_right _ hcap
            have hrow := RowOf.take hel n hn hle
            refine ⟨vs.toList.take (n * ty'.size), hrow, by simp [Builtin.lenOf, hlen], ?_⟩
            have hl := run_loadCells_list (P := P) w ⟨b, 0, none⟩ (vs.toList.take (n * ty'.size)) (fun j v hj => by
              rw [Addr.add_lit]
              have hj' : vs.toList[j]? = some v := by
                rw [List.getElem?_take] at hj
                split at hj
                · exact hj
                · simp at hj
              simp only [World.cell?, hh, Nat.zero_add]
              simpa using hj')
            have hll : (vs.toList.take (n * ty'.size)).length = n * ty'.size := by simp only [List.length_take]; omega
            rw [hll] at hl
            simp only [Builtin.firstCells, hlen]
            exact hl
      · exact h.elim
    · exact h.elim
  · rename_i s
    split at h
    · rename_i e
      subst e
      refine ⟨_, h, fun φ R w u hr _ => ?_⟩
      simp only [RepV] at hr
      subst hr
      refine ⟨(intsOf s).map (Value.int .u8), ⟨by simp [Ty.size], fun i hi => ?_⟩, by simp [Builtin.lenOf, bs_size, intsOf], ?_⟩
      · have hlt : i < ((intsOf s).map (Value.int .u8)).length := by simpa using hi
        simp only [Rep, Ty.size, Nat.mul_one]
        rw [List.drop_eq_getElem_cons hlt, List.take_succ_cons, List.take_zero]
        simp
      · simp only [Builtin.firstCells, Sem.run_pure]
        congr 1
        apply Array.ext'
        simp [bs_extract, intsOf, bs, List.take_of_length_le]
    · exact h.elim
  · exact h.elim

/-- A slice's elements are no whole numbers. -/
def notInt (T : Tab) (t : TypeId) : Bool :=
  match tget T t with
  | some e => match e.k with
    | .slice _ => true
    | .str => true
    | _ => false
  | none => false
theorem notInt_sound {t : TypeId} (h : notInt T t = true) : (∃ x, P.underlying t = some (.slice x)) ∨ P.underlying t = some .string := by
  unfold notInt at h
  split at h
  · rename_i e he
    split at h
    · rename_i hk; exact .inl ⟨_, tk_slice hT he hk⟩
    · rename_i hk; exact .inr (tk_str hT he hk)
    · simp at h
  · simp at h

/-- Append, where there is room. -/
theorem append_room {ts tx rt et : TypeId} {e ee : TE} (he : tget T ts = some e) (hk : e.k = .slice et) (hee : tget T et = some ee) (hni : notInt T tx = true) {p : Option Addr} {n cap m : Nat} {u : Value} {cells : Array Value} {w : World}
    (hlen : (Builtin.lenOf u).run P w = .ok m w) (hcs : (Builtin.firstCells ee.size m u).run P w = .ok cells w) (hroom : n + m ≤ cap) :
    (Builtin.append_ #[ts, tx] rt #[.slice p n cap, u]).run P w = ((match p with
      | some a => storeCells (a.add (n * ee.size)) cells.toList
      | none => (pure () : Sem Unit)).run P w).andThen fun _ w' => .ok (.slice p (n + m) cap) w' := by
  have hts := tk_slice hT he hk
  rcases notInt_sound hT hni with ⟨d, hd⟩ | hd
  all_goals
    simp only [Builtin.append_, List.getElem?_toArray, List.getElem?_cons_zero, List.getElem?_cons_succ, Sem.run_bind, run_underlying hts, Result.andThen_ok, run_sizeOf_tab hT hee, run_underlying hd, Sem.run_pure,
      Bool.false_eq_true, if_false, hlen, Bool.not_false, if_true]
    rw [if_pos hroom]
    simp only [Sem.run_bind, hcs, Result.andThen_ok]
    cases p <;> simp

/-- Append, where a new array is made. -/
theorem append_grow {ts tx rt et : TypeId} {e ee : TE} (he : tget T ts = some e) (hk : e.k = .slice et) (hee : tget T et = some ee) (hni : notInt T tx = true) {p : Option Addr} {n cap m : Nat} {u : Value} {old cells : Array Value} {w : World}
    (hlen : (Builtin.lenOf u).run P w = .ok m w) (hcs : (Builtin.firstCells ee.size m u).run P { w with drawn := w.drawn + 1 } = .ok cells { w with drawn := w.drawn + 1 })
    (hold : (Builtin.firstCells ee.size n (.slice p n cap)).run P { w with drawn := w.drawn + 1 } = .ok old { w with drawn := w.drawn + 1 })
    (hroom : ¬ n + m ≤ cap) (hb1 : (n + m) * ee.bytes ≤ 140737488355328) (hb2 : n + m ≤ 140737488355328) :
    ∃ (newCap : Nat) (zs : Array Value), n + m ≤ newCap ∧ zs.size = (newCap - (n + m)) * ee.size ∧
      (Builtin.append_ #[ts, tx] rt #[.slice p n cap, u]).run P w = .ok (.slice (some ⟨w.heap.size, 0, none⟩) (n + m) newCap) (pushed w (.cells (old ++ cells ++ zs) et) (w.drawn + 1)) := by
  have hts := tk_slice hT he hk
  obtain ⟨z, hz, hzc, hzs⟩ := zero_size hT hee
  obtain ⟨ti, hti, htb, hts'⟩ := run_typeInfo_tab hT hee
  obtain ⟨newCap, hcap, hcut⟩ : ∃ c, n + m ≤ c ∧ (Question.appendCap (n + m) cap et).cut (w.tape w.drawn (.appendCap (n + m) cap et)) = c := ⟨_, by simp [Question.cut], rfl⟩
  have hgrow := growslice_fits (need := n + m) (old := cap) (bytes := ee.bytes) (by omega) hb1
  refine ⟨newCap, Builtin.zeroCells z.cells (newCap - (n + m)), hcap, by simp [Builtin.zeroCells, hzs], ?_⟩
  rcases notInt_sound hT hni with ⟨d, hd⟩ | hd
  all_goals
    simp only [Builtin.append_, List.getElem?_toArray, List.getElem?_cons_zero, List.getElem?_cons_succ, Sem.run_bind, run_underlying hts, Result.andThen_ok, run_sizeOf_tab hT hee, run_underlying hd, Sem.run_pure,
      Bool.false_eq_true, if_false, hlen, Bool.not_false, if_true]
    rw [if_neg hroom]
    simp only [Sem.run_bind, hti, Result.andThen_ok, htb, IntKind.max_i64, false_or]
    rw [if_neg (by omega)]
    simp only [Sem.run_bind, hti, Result.andThen_ok, htb]
    rw [if_neg (by omega)]
    simp only [Sem.run_bind, run_choose, Question.forced, Bool.false_eq_true, if_false, hcut, Result.andThen_ok, hti, run_askRoom, hold, hcs, hz, newRow, run_newObj, Sem.run_pure]
    rfl

/-- Append to nil: a new slice. -/
def appNilV (T : Tab) (lk : Heap) (id : Nat) (ts tx : TypeId) (x : AV) (K : AV → Option Chunk → Prop) : Prop :=
  match tget T ts with
  | some e => match e.k with
    | .slice et => match tget T et, tyOf T 20 et with
      | some ee, some ty => match Nat.beq ee.size ty.size, notInt T tx with
        | true, true => srcV lk ty x fun ys => (ys.length * ee.bytes ≤ 140737488355328 ∧ ys.length ≤ 140737488355328) ∧ K (.own id ys.length) (some (.arr ty ys))
        | _, _ => False
      | _, _ => False
    | _ => False
  | none => False

omit hT in
theorem ChOK.drew {φ : Place} {R : Prot} {w : World} {lk : Heap} {a : AV} (h : ChOK φ R w lk a) (d : Nat) : ChOK φ R { w with drawn := d } lk a := fun id c h1 h2 => by
  have hc := h id c h1 h2
  cases c with
  | box cs =>
    obtain ⟨b, cap, vs, e, fr, q1, q2, q3, q4, q5⟩ := hc
    exact ⟨b, cap, vs, e, fr, q1, q2, RepVs.mono (w := w) (w' := { w with drawn := d }) (fun _ _ h => h) (fun _ _ _ => rfl) (fun _ _ => rfl) q3, q4, q5⟩
  | arr t xs =>
    rcases hc with hc | ⟨b, cap, vs, e, fr, q1, q2, q3, q4, q5, q6, q7⟩
    · exact .inl hc
    · exact .inr ⟨b, cap, vs, e, fr, q1, q2, q3, q4, fun i hi => Rep.mono (w := w) (w' := { w with drawn := d }) (fun _ _ h => h) (fun _ _ _ => rfl) (q5 i hi), q6, q7⟩
omit hT in
theorem RepV.drew {φ : Place} {R : Prot} {w : World} {a : AV} {u : Value} (h : RepV φ R w a u) (d : Nat) : RepV φ R { w with drawn := d } a u :=
  RepV.mono (w := w) (w' := { w with drawn := d }) (fun _ _ h => h) (fun _ _ _ => rfl) (fun _ _ => rfl) h

theorem appNil_sound {gl : Gl} {lk : Heap} {ev : Operand → AV} {id : Nat} {ts tx : TypeId} {s x : Operand} {K : AV → Option Chunk → Prop} (hsv : ev s = .nils) (h : appNilV T lk id ts tx (ev x) K) (o : Oper)
    (ho : o.op = .call ⟨.builtin .append, ⟨[s, x]⟩, ⟨[ts, tx]⟩⟩) : ∃ v c, K v c ∧ Flo P gl o ev lk id v c := by
  unfold appNilV at h
  split at h
  · rename_i e he
    split at h
    · rename_i et hk
      split at h
      · rename_i ee ty hee hty
        split at h
        · rename_i hsz hni
          have hsz := Nat.eq_of_beq_eq_true hsz
          obtain ⟨ys, ⟨⟨hb1, hb2⟩, hK⟩, hsrc⟩ := src_run hT h
          refine ⟨_, _, hK, ⟨fun φ R a w hr hc hR _ next Q hnext => ?_, fun j hj => by simp [AV.has] at hj; exact .inr ⟨hj.symm, rfl⟩, fun cs j h => by simp at h⟩⟩
          have hrs := hr s (by simp [ho, Op.operands, Call.operands])
          have hrx := hr x (by simp [ho, Op.operands, Call.operands])
          have hcx := hc x (by simp [ho, Op.operands, Call.operands])
          rw [hsv] at hrs
          simp only [RepV] at hrs
          have hex : (execOp a.eval o).run P w = ((Builtin.append_ #[ts, tx] o.type #[.slice none 0 0, a.eval x]).run P w).andThen fun v w' => .ok (.value v) w' := by
            simp [execOp, ho, resolve, invoke, builtin, hrs]
          unfold Oper.wp
          rw [hex]
          by_cases h0 : ys.length = 0
          · obtain ⟨cells, hrow, hl, hcs⟩ := hsrc φ R w _ hrx hcx
            rw [append_room hT he hk hee hni (p := none) hl (by rw [hsz]; exact hcs) (by omega)]
            simp only [Sem.run_pure, Result.andThen_ok]
            have hys : ys = [] := List.eq_nil_of_length_eq_zero h0
            subst hys
            refine hnext (setPlace φ id none) R w _ ⟨⟨rfl, rfl, rfl, Nat.le_refl _, fun _ _ _ => rfl, fun _ _ h => h, fun _ _ _ => rfl, fun _ _ h => .inl h, fun b hb => ?_⟩, hR, fun j hj => by simp [setPlace, hj], fun ch hch => ?_⟩ ?_
            · obtain ⟨_, cap, h⟩ := hb; simp [setPlace] at h
            · simp only [Option.some.injEq] at hch
              subst hch
              exact ⟨.inl ⟨by simp [setPlace], rfl⟩, fun b cap h => by simp [setPlace] at h⟩
            · simp only [RepV]
              exact .inl ⟨by simp [setPlace], rfl, rfl⟩
          · obtain ⟨cells, hrow, hl, hcs⟩ := hsrc φ R { w with drawn := w.drawn + 1 } _ (hrx.drew _) (ChOK.drew hcx _)
            obtain ⟨_, _, hl0, _⟩ := hsrc φ R w _ hrx hcx
            obtain ⟨newCap, zs, hcap, hzs, hrun⟩ := append_grow hT (rt := o.type) (p := none) (n := 0) (cap := 0) (old := #[]) he hk hee hni hl0 (by rw [hsz]; exact hcs) (by simp [Builtin.firstCells]) (by omega) (by simpa using hb1) (by omega)
            rw [hrun]
            simp only [Result.andThen_ok]
            have hcw : ∀ b k, R b k → (pushed w (.cells (#[] ++ cells.toArray ++ zs) et) (w.drawn + 1)).cell? ⟨b, k, none⟩ = w.cell? ⟨b, k, none⟩ := fun b k hb => pushed_cell (hR b k hb)
            refine hnext (setPlace φ id (some (w.heap.size, newCap))) R _ _ (stepTo_push hR _ et (0, 0) newCap _ _ ?_) ?_
            · refine .inr ⟨w.heap.size, newCap, _, et, (0, 0), by simp [setPlace], pushed_get _ _ _, ?_, by omega, fun i hi => ?_, not_prot_new hR, noFr_zero _⟩
              · simp only [Array.size_append, List.size_toArray, hrow.1, hzs, hsz]
                simp only [List.length_nil, Nat.zero_add]
                rw [← Nat.add_mul]
                congr 1
                omega
              · have h1 := hrow.2 i hi
                have e1 : ((#[] ++ cells.toArray ++ zs).toList.drop (i * ty.size)).take ty.size = (cells.drop (i * ty.size)).take ty.size := by
                  simp only [Array.toList_append, List.nil_append]
                  have hle : (i + 1) * ty.size ≤ ys.length * ty.size := Nat.mul_le_mul_right _ hi
                  rw [Nat.add_mul, Nat.one_mul, ← hrow.1] at hle
                  rw [List.drop_append_of_le_length (by omega), List.take_append_of_le_length (by simp; omega)]
                rw [e1]
                exact Rep.mono (w := { w with drawn := w.drawn + 1 }) (fun _ _ h => h) hcw h1
            · simp only [RepV]
              exact .inr ⟨w.heap.size, newCap, by simp [setPlace], by omega, by simp⟩
        · exact h.elim
      · exact h.elim
    · exact h.elim
  · exact h.elim
end
end Go.Fw
