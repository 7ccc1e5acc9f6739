/- The framework, part 7: building aggregates; all operations that make no memory. -/
import Derived.Test.YtnleiflijccefaaFw6
set_option linter.all false
set_option linter.unusedSectionVars false
set_option linter.unusedSimpArgs false
namespace Go.Fw

theorem AV.cells_rep {φ : Place} {R : Prot} {w : World} {v : AV} {cs : List AV} {u : Value} (h : v.cells = some cs) (hu : RepV φ R w v u) : RepVs φ R w cs u.cells.toList := by
  cases v <;> simp only [AV.cells, Option.some.injEq, reduceCtorEq] at h <;> subst h <;> simp only [RepV] at hu
  · subst hu; simp [RepVs, RepV, Value.cells]
  · subst hu; simp [RepVs, RepV, Value.cells]
  · subst hu; simp [RepVs, RepV, Value.cells]
  · have hu' := hu
    simp only [Rep] at hu'
    obtain ⟨p, cap, hp, _⟩ := hu'
    simp only [List.cons.injEq, and_true] at hp
    subst hp
    simp only [RepVs, Value.cells]
    exact ⟨_, [], rfl, by simpa [RepV] using hu, rfl⟩
  · obtain ⟨vs, rfl, hu⟩ := hu
    simpa [Value.cells] using hu
  · have hu' := hu
    obtain ⟨b, base, us, rfl, _⟩ := hu'
    simp only [RepVs, Value.cells]
    exact ⟨_, [], rfl, by simp only [RepV]; exact hu, rfl⟩
  · have hu' := hu
    obtain ⟨b, cap, _, rfl⟩ := hu'
    simp only [RepVs, Value.cells]
    exact ⟨_, [], rfl, by simp only [RepV]; exact hu, rfl⟩
  · have hu' := hu
    rcases hu' with ⟨_, _, rfl⟩ | ⟨b, cap, _, _, rfl⟩ <;> simp only [RepVs, Value.cells] <;> exact ⟨_, [], rfl, by unfold RepV; exact hu, rfl⟩
  · have hu' := hu
    obtain ⟨b, cap, _, rfl⟩ := hu'
    simp only [RepVs, Value.cells]
    exact ⟨_, [], rfl, by simp only [RepV]; exact hu, rfl⟩
  · subst hu; simp [RepVs, RepV, Value.cells]
  · subst hu; simp [RepVs, RepV, Value.cells]
  · subst hu; simp [RepVs, RepV, Value.cells]
  · have hu' := hu
    obtain ⟨vs, rfl, _⟩ := hu'
    simp only [RepVs, Value.cells]
    exact ⟨_, [], rfl, by simp only [RepV]; exact hu, rfl⟩
  · have hu' := hu
    obtain ⟨b, rfl, _⟩ := hu'
    simp only [RepVs, Value.cells]
    exact ⟨_, [], rfl, by simp only [RepV]; exact hu, rfl⟩

theorem AV.cells_has {v : AV} {cs : List AV} (h : v.cells = some cs) (id : Nat) : AV.hasAny id cs = v.has id := by
  cases v <;> simp only [AV.cells, Option.some.injEq, reduceCtorEq] at h <;> subst h <;> simp [AV.hasAny, AV.has]

theorem foldl_set (off : Nat) : ∀ (l : List Value) (j : Nat) (cells : Array Value), off + j + l.length ≤ cells.size →
    ((l.zipIdx j).foldl (fun cs (x : Value × Nat) => cs.setIfInBounds (off + x.2) x.1) cells).toList = cells.toList.take (off + j) ++ l ++ cells.toList.drop (off + j + l.length)
  | [], j, cells, h => by simp
  | v :: l, j, cells, h => by
    simp only [List.length_cons] at h
    simp only [List.zipIdx_cons, List.foldl_cons]
    rw [foldl_set off l (j + 1) _ (by simp; omega)]
    have hlt : off + j < cells.toList.length := by simp; omega
    simp only [Array.toList_setIfInBounds, List.length_cons]
    rw [show off + (j + 1) = off + j + 1 by omega, show off + j + 1 + l.length = off + j + (l.length + 1) by omega]
    have e1 : (cells.toList.set (off + j) v).take (off + j + 1) = cells.toList.take (off + j) ++ [v] := by
      rw [List.take_add_one, List.take_set_of_le (Nat.le_refl _), List.getElem?_set_self hlt]
      rfl
    have e2 : (cells.toList.set (off + j) v).drop (off + j + (l.length + 1)) = cells.toList.drop (off + j + (l.length + 1)) := by
      rw [List.drop_set_of_lt (by omega)]
    rw [e1, e2]
    simp


theorem fill_sound {φ : Place} {R : Prot} {w : World} {place : Nat → Option (Nat × Nat)} {ev : Operand → AV} {ρ : Operand → Value} : ∀ (parts : List (Nat × Operand)) (cs cs' : List AV) (us : Array Value),
    fillCells place (parts.map fun p => (p.1, ev p.2)) cs = some cs' → RepVs φ R w cs us.toList → (∀ p ∈ parts, RepV φ R w (ev p.2) (ρ p.2)) →
    ∃ us', Instr.fill place us (parts.map fun p => (p.1, ρ p.2)) = some us' ∧ RepVs φ R w cs' us'.toList
  | [], cs, cs', us, h, hr, _ => by
    simp only [List.map_nil, fillCells, Option.some.injEq] at h
    subst h
    exact ⟨us, rfl, hr⟩
  | (i, x) :: r, cs, cs', us, h, hr, hp => by
    have hv := hp (i, x) (List.mem_cons_self ..)
    simp only [List.map_cons, fillCells] at h
    split at h
    · rename_i off size vs hpl hcs
      split at h
      · rename_i h1 h2
        have h1 := Nat.eq_of_beq_eq_true h1
        have h2 := Nat.le_of_ble_eq_true h2
        have hvr := AV.cells_rep hcs hv
        have hl1 := hvr.length
        have hl2 := hr.length
        simp only [Array.length_toList] at hl1 hl2
        have hf := foldl_set off (ρ x).cells.toList 0 us (by simp; omega)
        have hfold : ((ρ x).cells.zipIdx.foldl (fun cs (x : Value × Nat) => cs.setIfInBounds (off + x.2) x.1) us).toList = us.toList.take off ++ (ρ x).cells.toList ++ us.toList.drop (off + size) := by
          rw [← Array.foldl_toList, Array.toList_zipIdx, hf]
          simp [hl1, h1]
        obtain ⟨us', hu1, hu2⟩ := fill_sound r _ cs' _ h (by
          rw [hfold]
          exact RepVs.append (RepVs.append (RepVs.take _ hr) hvr) (RepVs.drop _ hr)) (fun p hp' => hp p (List.mem_cons_of_mem _ hp'))
        refine ⟨us', ?_, hu2⟩
        simp only [List.map_cons, Instr.fill, hpl]
        rw [if_neg (by simp; omega)]
        exact hu1
      · simp at h
    · simp at h

theorem foldInts_sound {φ : Place} {R : Prot} {w : World} {P : Program} {k : IntKind} {f : Int → Int → Int} {g : Value → Value → Sem Value}
    (hg : ∀ x y, (g (.int k x) (.int k y)).run P w = .ok (.int k (f x y)) w) : ∀ (as : List AV) (x r : Int) (us : List Value), foldInts f k x as = some r → RepVs φ R w as us →
    (us.foldlM g (.int k x)).run P w = .ok (.int k r) w
  | [], x, r, us, h, hr => by
    simp only [foldInts, Option.some.injEq] at h
    simp only [RepVs] at hr
    subst h; subst hr
    rfl
  | a :: as, x, r, us, h, hr => by
    unfold foldInts at h
    split at h
    · simp_all
    · rename_i _ _ k' y r' heq1
      split at h
      · rename_i hk
        subst hk
        simp only [List.cons.injEq] at heq1
        obtain ⟨rfl, rfl⟩ := heq1
        simp only [RepVs, RepV] at hr
        obtain ⟨u, us, rfl, rfl, hr⟩ := hr
        simp only [List.foldlM_cons, Sem.run_bind, hg, Result.andThen_ok]
        exact foldInts_sound hg as _ r us h hr
      · simp at h
    · simp at h

theorem repVs_map {φ : Place} {R : Prot} {w : World} {α : Type} (f : α → AV) (g : α → Value) : ∀ (l : List α), (∀ x ∈ l, RepV φ R w (f x) (g x)) → RepVs φ R w (l.map f) (l.map g)
  | [], _ => by simp [RepVs]
  | x :: l, h => ⟨_, _, rfl, h x (List.mem_cons_self ..), repVs_map f g l fun y hy => h y (List.mem_cons_of_mem _ hy)⟩
theorem hasAny_map {α : Type} (f : α → AV) (id : Nat) : ∀ (l : List α), AV.hasAny id (l.map f) = true → ∃ x ∈ l, (f x).has id = true
  | [], h => by simp [AV.hasAny] at h
  | x :: l, h => by
    simp only [List.map_cons, AV.hasAny, Bool.or_eq_true] at h
    rcases h with h | h
    · exact ⟨x, List.mem_cons_self .., h⟩
    · obtain ⟨y, hy, h⟩ := hasAny_map f id l h
      exact ⟨y, List.mem_cons_of_mem _ hy, h⟩

theorem zeroChk_rep {φ : Place} {R : Prot} {w : World} : ∀ {as : List AV} {vs : List Value}, zeroChk as vs = true → RepVs φ R w as vs := by
  intro as vs h
  fun_induction zeroChk as vs <;> simp_all [RepVs, RepV]
  all_goals first | exact ⟨_, _, ⟨rfl, rfl⟩, rfl, by assumption⟩ | exact ⟨_, _, ⟨rfl, rfl⟩, by assumption⟩
theorem zeroChk_has {id : Nat} : ∀ {as : List AV} {vs : List Value}, zeroChk as vs = true → AV.hasAny id as = false := by
  intro as vs h
  fun_induction zeroChk as vs <;> simp_all [AV.hasAny, AV.has]

theorem fillCells_has {place : Nat → Option (Nat × Nat)} {id : Nat} : ∀ (parts : List (Nat × AV)) (cs cs' : List AV), fillCells place parts cs = some cs' → AV.hasAny id cs' = true →
    AV.hasAny id cs = true ∨ ∃ x ∈ parts, x.2.has id = true
  | [], cs, cs', h, hh => by
    simp only [fillCells, Option.some.injEq] at h
    subst h; exact .inl hh
  | (i, v) :: r, cs, cs', h, hh => by
    simp only [fillCells] at h
    split at h
    · rename_i off size vs hpl hcs
      split at h
      · rcases fillCells_has r _ cs' h hh with h1 | ⟨x, hx, h1⟩
        · simp only [hasAny_append, Bool.or_eq_true] at h1
          rcases h1 with (h1 | h1) | h1
          · exact .inl (hasAny_take _ _ h1)
          · rw [AV.cells_has hcs] at h1
            exact .inr ⟨_, List.mem_cons_self .., h1⟩
          · exact .inl (hasAny_drop _ _ h1)
        · exact .inr ⟨x, List.mem_cons_of_mem _ hx, h1⟩
      · simp at h
    · simp at h

section
variable {P : Program} {T : Tab} (hT : tabOK P T = true)
include hT

theorem tab_zero {t : TypeId} {e : TE} (h : tget T t = some e) : ∃ i v, P.info? t = some i ∧ i.zero = some v ∧ zeroChk e.zero v.cells.toList = true ∧ (e.agg = true → ∃ vs, v = .agg vs ∧ vs.size = e.size) := by
  obtain ⟨i, d, hi, hd, _, _, _, _, _, hz⟩ := (tab_ok hT h).ex
  rcases hz with ⟨vs, hz, ha, hc, hs⟩ | ⟨v, hz, h1, hc, ha, hc2, hs⟩
  · exact ⟨i, _, hi, hz, by simpa [Value.cells] using hc, fun _ => ⟨vs, rfl, hs⟩⟩
  · exact ⟨i, v, hi, hz, by rw [hc]; exact hc2, fun h => by simp [ha] at h⟩
theorem run_zeroValue_tab {t : TypeId} {e : TE} (h : tget T t = some e) : ∃ v, (∀ w, (zeroValue t).run P w = .ok v w) ∧ zeroChk e.zero v.cells.toList = true ∧ (e.agg = true → ∃ vs, v = .agg vs ∧ vs.size = e.size) := by
  obtain ⟨i, v, hi, hz, hc, ha⟩ := tab_zero hT h
  exact ⟨v, fun w => by simp [zeroValue, typeInfo, hi, hz], hc, ha⟩

theorem run_fieldAt {t ft : TypeId} {e fe : TE} {fs : List (Nat × TypeId)} {f off : Nat} (he : tget T t = some e) (hk : e.k = .struct fs) (hf : fs[f]? = some (off, ft)) (hfe : tget T ft = some fe)
    (h0 : fe.size ≠ 0) (w : World) (b o : Nat) : (Instr.fieldAt t (.pointer (some ⟨b, o, none⟩)) f).run P w = .ok (.pointer (some ⟨b, o + off, none⟩)) w := by
  obtain ⟨fields, hd, hfs, _⟩ := tk_struct hT he hk
  subst hfs
  simp only [List.getElem?_map, Option.map_eq_some_iff] at hf
  obtain ⟨fld, hfl, hfe'⟩ := hf
  simp only [Prod.mk.injEq] at hfe'
  obtain ⟨rfl, rfl⟩ := hfe'
  have hfl' : fields[f]? = some fld := by simpa using hfl
  simp [Instr.fieldAt, run_underlying hd, hfl', Instr.sureAddr, fieldPlace, run_sizeOf_tab hT hfe, h0, Addr.add_lit]

omit hT in
theorem run_mapM_ok {α β : Type} {w : World} (g : α → Sem β) (f : α → β) (xs : Array α) (h : ∀ x ∈ xs, (g x).run P w = .ok (f x) w) : (xs.mapM g).run P w = .ok (xs.map f) w := by
  rw [Array.mapM_eq_mapM_toList]
  have key : ∀ l : List α, (∀ x ∈ l, (g x).run P w = .ok (f x) w) → (l.mapM g).run P w = .ok (l.map f) w := by
    intro l
    induction l with
    | nil => intro _; rfl
    | cons x l ih =>
      intro h
      simp only [List.mapM_cons, Sem.run_bind, h x (List.mem_cons_self ..), Result.andThen_ok, ih (fun y hy => h y (List.mem_cons_of_mem _ hy)), Sem.run_pure, List.map_cons]
  rw [Sem.run_map, key _ (fun x hx => h x (by simpa using hx))]
  simp only [Result.andThen_ok]
  congr 1
  apply Array.ext'
  simp

theorem pureV_sound {lk : Heap} {ev : Operand → AV} {op : Op} {K : AV → Prop} (h : pureV T lk ev op K) :
    ∃ v, K v ∧ (∀ id, v.has id = true → ∃ x ∈ op.operands, From lk (ev x) id) ∧ ∀ φ R w (ρ : Operand → Value) (o : Oper), o.op = op → (∀ x ∈ op.operands, RepV φ R w (ev x) (ρ x)) →
      (∀ x ∈ op.operands, ChOK φ R w lk (ev x)) → ∃ u, RepV φ R w v u ∧ (execOp ρ o).run P w = .ok (.value u) w := by
  unfold pureV at h
  split at h
  · rename_i x
    exact ⟨_, h, fun id hid => ⟨x, by simp [Op.operands], .inl hid⟩, fun φ R w ρ o ho hr _ => ⟨_, hr x (by simp [Op.operands]), by simp [execOp, ho]⟩⟩
  · rename_i x
    exact ⟨_, h, fun id hid => ⟨x, by simp [Op.operands], .inl hid⟩, fun φ R w ρ o ho hr _ => ⟨_, hr x (by simp [Op.operands]), by simp [execOp, ho]⟩⟩
  · rename_i xt x f
    split at h
    · rename_i e cs he hx
      split at h
      · rename_i fs hk
        split at h
        · rename_i off ft hf
          obtain ⟨v, hv, hn, hs⟩ := field_sound hT he hk hf h
          refine ⟨v, hv, fun id hid => ⟨x, by simp [Op.operands], .inl (by rw [hx]; simp [AV.has, hn id hid])⟩, fun φ R w ρ o ho hr _ => ?_⟩
          have hr := hr x (by simp [Op.operands])
          rw [hx] at hr
          simp only [RepV] at hr
          obtain ⟨vs, hvs, hr⟩ := hr
          obtain ⟨u, hu, hrun⟩ := hs φ R w vs hr
          exact ⟨u, hu, by simp [execOp, ho, hvs, hrun]⟩
        · exact h.elim
      · exact h.elim
    · exact h.elim
  · rename_i x i
    split at h
    · rename_i vs hx
      split at h
      · rename_i hi
        have hi : i + 1 ≤ vs.length := Nat.le_of_ble_eq_true hi
        refine ⟨_, h, fun id hid => ⟨x, by simp [Op.operands], .inl (by rw [hx]; simp only [AV.has]; exact hasAny_getD _ _ hid)⟩, fun φ R w ρ o ho hr _ => ?_⟩
        have hr := hr x (by simp [Op.operands])
        rw [hx] at hr
        simp only [RepV] at hr
        obtain ⟨us, hus, hr⟩ := hr
        have hl := hr.length
        simp only [Array.length_toList] at hl
        have hlt : i < us.size := by omega
        refine ⟨us[i], hr.get i _ (by simp [hlt]), ?_⟩
        simp [execOp, ho, hus, Instr.extract, hlt]
      · exact h.elim
    · exact h.elim
  · rename_i bop t x y yt
    obtain ⟨v, hv, hn, hs⟩ := binV_sound hT h
    refine ⟨v, hv, fun id hid => by rw [hn id] at hid; simp at hid, fun φ R w ρ o ho hr _ => ?_⟩
    obtain ⟨u, hu, hrun⟩ := hs φ R w _ _ x y (hr x (by simp [Op.operands])) (hr y (by simp [Op.operands]))
    refine ⟨u, hu, ?_⟩
    simp only [execOp, ho]
    rw [Sem.run_bind, hrun]
    rfl
  · rename_i t x
    split at h
    · rename_i b hx
      refine ⟨_, h, by simp [AV.has], fun φ R w ρ o ho hr _ => ?_⟩
      have hr := hr x (by simp [Op.operands])
      rw [hx] at hr
      simp only [RepV] at hr
      exact ⟨_, rfl, by simp [execOp, ho, hr, Op.unary]⟩
    · exact h.elim
  · rename_i t x
    split at h
    · rename_i k n hx
      refine ⟨_, h, by simp [AV.has], fun φ R w ρ o ho hr _ => ?_⟩
      have hr := hr x (by simp [Op.operands])
      rw [hx] at hr
      simp only [RepV] at hr
      exact ⟨_, rfl, by simp [execOp, ho, hr, Op.unary, Op.intArith]⟩
    · exact h.elim
  · rename_i s d x
    obtain ⟨v, hv, hn, hs⟩ := convV_sound hT h
    refine ⟨v, hv, fun id hid => by rw [hn id] at hid; simp at hid, fun φ R w ρ o ho hr hc => ?_⟩
    obtain ⟨u, hu, hrun⟩ := hs φ R w _ (hr x (by simp [Op.operands])) (hc x (by simp [Op.operands]))
    exact ⟨u, hu, by simp [execOp, ho, hrun]⟩
  · rename_i x
    have key : ∀ v, K v → (ev x = v) → (∀ φ R w u, RepV φ R w v u → (∃ a, u = .pointer (some a)) ∨ ∃ f vs, u = .func (.func f) #[] vs) → 
        ∃ v, K v ∧ (∀ id, v.has id = true → ∃ x' ∈ (Op.nilCheck x).operands, From lk (ev x') id) ∧ ∀ φ R w (ρ : Operand → Value) (o : Oper), o.op = .nilCheck x → (∀ x' ∈ (Op.nilCheck x).operands, RepV φ R w (ev x') (ρ x')) →
      (∀ x' ∈ (Op.nilCheck x).operands, ChOK φ R w lk (ev x')) → ∃ u, RepV φ R w v u ∧ (execOp ρ o).run P w = .ok (.value u) w := by
      intro v hv hx hp
      refine ⟨v, hv, fun id hid => ⟨x, by simp [Op.operands], .inl (by rw [hx]; exact hid)⟩, fun φ R w ρ o ho hr _ => ?_⟩
      have hr := hr x (by simp [Op.operands])
      rw [hx] at hr
      refine ⟨_, hr, ?_⟩
      rcases hp φ R w _ hr with ⟨a, ha⟩ | ⟨f, vs, ha⟩ <;> simp [execOp, ho, ha]
    split at h
    · rename_i hx
      exact key _ h hx (fun φ R w u hu => by simp only [RepV] at hu; obtain ⟨b, cap, _, rfl⟩ := hu; exact .inl ⟨_, rfl⟩)
    · rename_i hx
      exact key _ h hx (fun φ R w u hu => by simp only [RepV] at hu; obtain ⟨b, base, us, rfl, _⟩ := hu; exact .inl ⟨_, rfl⟩)
    · rename_i hx
      exact key _ h hx (fun φ R w u hu => by simp only [RepV] at hu; obtain ⟨b, cap, _, rfl⟩ := hu; exact .inl ⟨_, rfl⟩)
    · rename_i hx
      exact key _ h hx (fun φ R w u hu => by simp only [RepV] at hu; obtain ⟨vs, rfl, _⟩ := hu; exact .inr ⟨_, _, rfl⟩)
    · exact h.elim
  · rename_i t x f
    split at h
    · rename_i e he
      split at h
      · rename_i fs hk
        split at h
        · rename_i off ft hf
          split at h
          · rename_i fe hfe
            split at h
            · exact h.elim
            · rename_i h0
              have h0 : fe.size ≠ 0 := fun h => by rw [h] at h0; simp at h0
              split at h
              · rename_i id o hx
                refine ⟨_, h, fun id hid => ⟨x, by simp [Op.operands], .inl (by rw [hx]; simpa [AV.has] using hid)⟩, fun φ R w ρ oo ho hr _ => ?_⟩
                have hr := hr x (by simp [Op.operands])
                rw [hx] at hr
                simp only [RepV] at hr
                obtain ⟨b, cap, hφ, hu⟩ := hr
                exact ⟨_, ⟨b, cap, hφ, rfl⟩, by simp [execOp, ho, hu, run_fieldAt hT he hk hf hfe h0]⟩
              · rename_i cs o hx
                refine ⟨_, h, fun id hid => ⟨x, by simp [Op.operands], .inl (by rw [hx]; simpa [AV.has] using hid)⟩, fun φ R w ρ oo ho hr _ => ?_⟩
                have hr := hr x (by simp [Op.operands])
                rw [hx] at hr
                simp only [RepV] at hr
                obtain ⟨b, base, us, hu, hr⟩ := hr
                exact ⟨.pointer (some ⟨b, base + (o + off), none⟩), by simp only [RepV]; exact ⟨b, base, us, rfl, hr⟩, by simp [execOp, ho, hu, run_fieldAt hT he hk hf hfe h0, Nat.add_assoc]⟩
              · rename_i id sz i o hx
                refine ⟨_, h, fun id hid => ⟨x, by simp [Op.operands], .inl (by rw [hx]; simpa [AV.has] using hid)⟩, fun φ R w ρ oo ho hr _ => ?_⟩
                have hr := hr x (by simp [Op.operands])
                rw [hx] at hr
                simp only [RepV] at hr
                obtain ⟨b, cap, hφ, hu⟩ := hr
                exact ⟨.pointer (some ⟨b, i * sz + (o + off), none⟩), by simp only [RepV]; exact ⟨b, cap, hφ, rfl⟩, by simp [execOp, ho, hu, run_fieldAt hT he hk hf hfe h0, Nat.add_assoc]⟩
              · exact h.elim
          · exact h.elim
        · exact h.elim
      · exact h.elim
    · exact h.elim
  · rename_i t x i
    obtain ⟨v, hv, hn, hs⟩ := indexAddrV_sound hT h
    refine ⟨v, hv, fun id hid => ⟨x, by simp [Op.operands], .inl (hn id hid)⟩, fun φ R w ρ o ho hr hc => ?_⟩
    obtain ⟨u, hu, hrun⟩ := hs φ R w _ _ (hr x (by simp [Op.operands])) (hr i (by simp [Op.operands]))
    exact ⟨u, hu, by simp [execOp, ho, hrun]⟩
  · rename_i t x i
    obtain ⟨v, hv, hn, hs⟩ := indexV_sound hT h
    refine ⟨v, hv, fun id hid => ⟨x, by simp [Op.operands], .inl (hn id hid)⟩, fun φ R w ρ o ho hr hc => ?_⟩
    obtain ⟨u, hu, hrun⟩ := hs φ R w _ _ (hr x (by simp [Op.operands])) (hr i (by simp [Op.operands]))
    exact ⟨u, hu, by simp [execOp, ho, hrun]⟩
  · rename_i t a
    obtain ⟨v, hv, hn, hs⟩ := loadV_sound hT h
    refine ⟨v, hv, fun id hid => ⟨a, by simp [Op.operands], hn id hid⟩, fun φ R w ρ o ho hr hc => ?_⟩
    obtain ⟨u, hu, hrun⟩ := hs φ R w _ (hr a (by simp [Op.operands])) (hc a (by simp [Op.operands]))
    exact ⟨u, hu, by simp [execOp, ho, hrun]⟩
  · rename_i t x lo hi
    obtain ⟨v, hv, hn, hs⟩ := sliceV_sound hT h
    refine ⟨v, hv, fun id hid => ⟨x, by simp [Op.operands], .inl (hn id hid)⟩, fun φ R w ρ o ho hr hc => ?_⟩
    obtain ⟨u, hu, hrun⟩ := hs φ R w _ (lo.map ρ) (hi.map ρ) (hr x (by simp [Op.operands])) (by cases lo with | none => rfl | some y => exact ⟨_, rfl, hr y (by simp [Op.operands])⟩)
      (by cases hi with | none => rfl | some y => exact ⟨_, rfl, hr y (by simp [Op.operands])⟩)
    exact ⟨u, hu, by simp [execOp, ho, hrun]⟩
  · rename_i t x lo hi m
    obtain ⟨v, hv, hn, hs⟩ := slice3V_sound hT h
    refine ⟨v, hv, fun id hid => ⟨x, by simp [Op.operands], .inl (hn id hid)⟩, fun φ R w ρ o ho hr hc => ?_⟩
    obtain ⟨u, hu, hrun⟩ := hs φ R w _ (lo.map ρ) _ _ (hr x (by simp [Op.operands])) (by cases lo with | none => rfl | some y => exact ⟨_, rfl, hr y (by simp [Op.operands])⟩)
      (hr hi (by simp [Op.operands])) (hr m (by simp [Op.operands]))
    exact ⟨u, hu, by simp [execOp, ho, hrun]⟩
  · rename_i t parts
    split at h
    · rename_i e he
      obtain ⟨z, hz, hzc, hza⟩ := run_zeroValue_tab hT he
      have hin : ∀ p ∈ parts.toList, p.2 ∈ (Op.build t parts).operands := fun p hp => by simp only [Op.operands]; simp; exact ⟨p.1, by simpa using hp⟩
      split at h
      · rename_i fs hk
        split at h
        · rename_i cs hall hcs
          refine ⟨_, h, fun id hid => ?_, fun φ R w ρ o ho hr hc => ?_⟩
          · simp only [AV.has] at hid
            rcases fillCells_has _ _ _ hcs hid with h1 | ⟨x, hx, h1⟩
            · rw [zeroChk_has hzc] at h1; simp at h1
            · simp only [List.mem_map] at hx
              obtain ⟨p, hp, rfl⟩ := hx
              exact ⟨p.2, hin p hp, .inl h1⟩
          · obtain ⟨us', hf, hu⟩ := fill_sound (φ := φ) (R := R) (w := w) (ρ := ρ) parts.toList _ cs z.cells hcs (zeroChk_rep hzc) (fun p hp => hr p.2 (hin p hp))
            refine ⟨.agg us', by simp only [RepV]; exact ⟨us', rfl, hu⟩, ?_⟩
            obtain ⟨fields, hd, hfs, _⟩ := tk_struct hT he hk
            subst hfs
            have hm := run_mapM_ok (P := P) (w := w) (fun f : Field => do pure (f.offset, ← sizeOf f.type)) (fun f => (f.offset, P.cellsOf f.type)) fields (fun f hf => by
              rw [List.all_eq_true] at hall
              have := hall (f.offset, f.type) (by simp; exact ⟨f, by simpa using hf, rfl, rfl⟩)
              obtain ⟨fe, hfe⟩ := Option.isSome_iff_exists.1 this
              obtain ⟨i, d, hi, _, hsz, _⟩ := (tab_ok hT hfe).ex
              simp [run_sizeOf_tab hT hfe, Program.cellsOf, hi, hsz])
            have hpl : (fun i => (fields.map fun f => (f.offset, P.cellsOf f.type))[i]?) = sizesOf T (fields.toList.map fun f => (f.offset, f.type)) := by
              funext i
              simp only [sizesOf, Array.getElem?_map, List.getElem?_map, Array.getElem?_toList]
              cases hfi : fields[i]? with
              | none => simp
              | some f =>
                rw [List.all_eq_true] at hall
                have := hall (f.offset, f.type) (by simp; exact ⟨f, by obtain ⟨hi, rfl⟩ := Array.getElem?_eq_some_iff.1 hfi; exact Array.getElem_mem hi, rfl, rfl⟩)
                obtain ⟨fe, hfe⟩ := Option.isSome_iff_exists.1 this
                obtain ⟨i, d, hi, _, hsz, _⟩ := (tab_ok hT hfe).ex
                simp [hfe, Program.cellsOf, hi, hsz]
            simp only [execOp, ho, Instr.build, Sem.run_bind, hz, Result.andThen_ok, run_underlying hd, hm]
            rw [hpl, Array.toList_map, hf]
            rfl
        · exact h.elim
      · rename_i n et hk
        split at h
        · rename_i ee hee
          split at h
          · rename_i cs hcs
            refine ⟨_, h, fun id hid => ?_, fun φ R w ρ o ho hr hc => ?_⟩
            · simp only [AV.has] at hid
              rcases fillCells_has _ _ _ hcs hid with h1 | ⟨x, hx, h1⟩
              · rw [zeroChk_has hzc] at h1; simp at h1
              · simp only [List.mem_map] at hx
                obtain ⟨p, hp, rfl⟩ := hx
                exact ⟨p.2, hin p hp, .inl h1⟩
            · obtain ⟨us', hf, hu⟩ := fill_sound (φ := φ) (R := R) (w := w) (ρ := ρ) parts.toList _ cs z.cells hcs (zeroChk_rep hzc) (fun p hp => hr p.2 (hin p hp))
              refine ⟨.agg us', by simp only [RepV]; exact ⟨us', rfl, hu⟩, ?_⟩
              simp only [execOp, ho, Instr.build, Sem.run_bind, hz, Result.andThen_ok, run_underlying (tk_arr hT he hk), run_sizeOf_tab hT hee]
              rw [Array.toList_map, hf]
              rfl
          · exact h.elim
        · exact h.elim
      · exact h.elim
    · exact h.elim
  · rename_i f captured
    refine ⟨_, h, fun id hid => ?_, fun φ R w ρ o ho hr _ => ?_⟩
    · simp only [AV.has] at hid
      obtain ⟨x, hx, h1⟩ := hasAny_map _ _ _ hid
      exact ⟨x, by simp [Op.operands]; simpa using hx, .inl h1⟩
    · refine ⟨.func (.func f) #[] (captured.map ρ), ?_, by simp [execOp, ho, Instr.makeFunc]⟩
      simp only [RepV]
      refine ⟨_, rfl, ?_⟩
      rw [Array.toList_map]
      exact repVs_map _ _ _ (fun x hx => hr x (by simp [Op.operands]; simpa using hx))
  · rename_i x t
    obtain ⟨v, hv, hn, hs⟩ := lenV_sound hT h
    refine ⟨v, hv, fun id hid => by rw [hn id] at hid; simp at hid, fun φ R w ρ o ho hr hc => ?_⟩
    obtain ⟨u, hu, hrun⟩ := hs φ R w _ o.type (hr x (by simp [Op.operands, Call.operands]))
    exact ⟨u, hu, by simp [execOp, ho, resolve, invoke, builtin, hrun]⟩
  · rename_i x xs ats
    split at h
    · rename_i k n hx
      split at h
      · rename_i r hfo
        refine ⟨_, h, by simp [AV.has], fun φ R w ρ o ho hr hc => ⟨_, rfl, ?_⟩⟩
        have hx' := hr x (by simp [Op.operands, Call.operands])
        rw [hx] at hx'
        simp only [RepV] at hx'
        have := foldInts_sound (P := P) (w := w) (φ := φ) (R := R) (g := Builtin.min2) (f := min) (k := k) (fun x y => by
          simp only [Builtin.min2, Sem.run_pure]
          congr 2
          omega) _ n r (xs.map ρ) hfo (repVs_map _ _ _ (fun y hy => hr y (by simp [Op.operands, Call.operands, hy])))
        simp [execOp, ho, resolve, invoke, builtin, Builtin.min_, hx', this]
      · exact h.elim
    · exact h.elim
  · rename_i x xs ats
    split at h
    · rename_i k n hx
      split at h
      · rename_i r hfo
        refine ⟨_, h, by simp [AV.has], fun φ R w ρ o ho hr hc => ⟨_, rfl, ?_⟩⟩
        have hx' := hr x (by simp [Op.operands, Call.operands])
        rw [hx] at hx'
        simp only [RepV] at hx'
        have := foldInts_sound (P := P) (w := w) (φ := φ) (R := R) (g := Builtin.max2) (f := max) (k := k) (fun x y => by
          simp only [Builtin.max2, Sem.run_pure]
          congr 2
          omega) _ n r (xs.map ρ) hfo (repVs_map _ _ _ (fun y hy => hr y (by simp [Op.operands, Call.operands, hy])))
        simp [execOp, ho, resolve, invoke, builtin, Builtin.max_, hx', this]
      · exact h.elim
    · exact h.elim
  · exact h.elim
end
end Go.Fw
