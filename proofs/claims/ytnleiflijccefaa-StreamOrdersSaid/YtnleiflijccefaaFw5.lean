/- The framework, part 5: equality, arithmetic, conversions, slicing, indexing. -/
import Derived.Test.YtnleiflijccefaaFw4
set_option linter.all false
set_option linter.unusedSectionVars false
set_option linter.unusedSimpArgs false
namespace Go.Fw

def valOf (e : TE) (us : List Value) : Value := if e.agg then .agg us.toArray else us.headD undef

section
variable {P : Program} {T : Tab} (hT : tabOK P T = true)
include hT

theorem tab_one {t : TypeId} {e : TE} (h : tget T t = some e) (ha : e.agg = false) : e.size = 1 := by
  obtain ⟨i, d, _, _, _, _, _, _, _, h⟩ := (tab_ok hT h).ex
  rcases h with ⟨_, _, h, _⟩ | ⟨_, _, _, _, _, _, h⟩
  · simp [ha] at h
  · exact h
theorem tab_agg {t : TypeId} {e : TE} (h : tget T t = some e) {d : TypeDesc} (hd : P.underlying t = some d) : e.agg = TypeDesc.isAgg d := by
  obtain ⟨i, d', _, hd', _, _, _, ha, _⟩ := (tab_ok hT h).ex
  rw [hd] at hd'
  simp only [Option.some.injEq] at hd'
  rw [ha, hd']
theorem tab_eq {t : TypeId} {e : TE} (h : tget T t = some e) (he : e.eq = true) : P.stoodInHeld t = false ∧ P.eqGuardType P.depth t = false := by
  obtain ⟨i, d', _, hd', _, _, _, ha, h, _⟩ := (tab_ok hT h).ex
  exact h he

theorem part_run {w : World} {ft : TypeId} {fe : TE} {off : Nat} {vs : List Value} (h : tget T ft = some fe) (hl : off + fe.size ≤ vs.length) :
    (part ft vs.toArray off).run P w = .ok (valOf fe ((vs.drop off).take fe.size)) w := by
  unfold part valOf
  rw [Sem.run_bind, run_isAgg_tab hT h]
  cases ha : fe.agg with
  | true =>
    simp only [Result.andThen_ok, if_true, Sem.run_bind, run_sizeOf_tab hT h, Sem.run_pure]
    congr 2
    apply Array.ext'
    simp [Array.toList_extract, List.extract_eq_take_drop]
  | false =>
    have h1 := tab_one hT h ha
    have hlt : off < vs.length := by omega
    rw [h1]
    have : (vs.drop off).take 1 = [vs[off]] := by rw [List.drop_eq_getElem_cons hlt, List.take_succ_cons, List.take_zero]
    simp [this, hlt]

theorem eqT_sound {φ : Place} {R : Prot} {w : World} : ∀ (d : Nat) (t : TypeId) (e : TE) (xs ys : List AV) (r : Bool) (us ws : List Value), eqT T d t xs ys = some r → tget T t = some e →
    RepVs φ R w xs us → RepVs φ R w ys ws → us.length = e.size → ws.length = e.size → ∀ d', d ≤ d' → (Op.equalIn d' t (valOf e us) (valOf e ws)).run P w = .ok r w := by
  intro d
  induction d with
  | zero => intro t e xs ys r us ws h; simp [eqT] at h
  | succ d ih =>
    intro t e xs ys r us ws h he hx hy hlx hly d' hd'
    obtain ⟨d', rfl⟩ : ∃ m, d' = m + 1 := ⟨d' - 1, by omega⟩
    unfold eqT at h
    simp only [he] at h
    split at h
    · rename_i k hk
      have hd := tk_int hT he hk
      have ha : e.agg = false := tab_agg hT he hd
      split at h
      · rename_i k1 x k2 y
        split at h
        · rename_i hkk
          subst hkk
          simp only [Option.some.injEq] at h
          subst h
          simp only [RepVs, RepV] at hx hy
          obtain ⟨_, _, rfl, rfl, rfl⟩ := hx
          obtain ⟨_, _, rfl, rfl, rfl⟩ := hy
          simp only [valOf, ha, Bool.false_eq_true, if_false, List.headD_cons]
          rw [run_equalIn_int w d' t k1 k x y hd]
          congr 1
        · simp at h
      · simp at h
    · rename_i hk
      have hd := tk_bool hT he hk
      have ha : e.agg = false := tab_agg hT he hd
      split at h
      · simp only [Option.some.injEq] at h
        subst h
        simp only [RepVs, RepV] at hx hy
        obtain ⟨_, _, rfl, rfl, rfl⟩ := hx
        obtain ⟨_, _, rfl, rfl, rfl⟩ := hy
        simp only [valOf, ha, Bool.false_eq_true, if_false, List.headD_cons]
        rw [run_equalIn_bool w d' t _ _ hd]
        congr 1
      · simp at h
    · rename_i hk
      have hd := tk_str hT he hk
      have ha : e.agg = false := tab_agg hT he hd
      split at h
      · rename_i x y
        simp only [Option.some.injEq] at h
        subst h
        simp only [RepVs, RepV] at hx hy
        obtain ⟨_, _, rfl, rfl, rfl⟩ := hx
        obtain ⟨_, _, rfl, rfl, rfl⟩ := hy
        simp only [valOf, ha, Bool.false_eq_true, if_false, List.headD_cons]
        rw [run_equalIn_string w d' t _ _ hd, bs_toList, bs_toList]
        congr 1
        by_cases hxy : x = y <;> simp [hxy]
      · simp at h
    · rename_i fs hk
      split at h
      · rename_i heq
        obtain ⟨fields, hd, hfs, hn⟩ := tk_struct hT he hk
        have ha : e.agg = true := tab_agg hT he hd
        have hfo : P.fieldsOf t = fields := by simp [Program.fieldsOf, hd]
        simp only [valOf, ha, if_true]
        rw [run_equalIn_struct w d' t us.toArray ws.toArray (by rw [hfo]; exact hd) (tab_eq hT he heq).1, hfo]
        subst hfs
        clear hd hk hfo
        generalize fields.toList = fl at h hn
        clear fields
        induction fl generalizing r with
        | nil => simp [eqFs] at h; simp [Op.eqFields, h]
        | cons f fl ihf =>
          simp only [List.map_cons, eqFs] at h
          split at h
          · rename_i fe hfe
            split at h
            · rename_i h1 h2
              split at h
              · rename_i a b hfa hfb
                simp only [Option.some.injEq] at h
                subst h
                have h1 := Nat.le_of_ble_eq_true h1
                have h2 := Nat.le_of_ble_eq_true h2
                have hll := hx.length
                have hll' := hy.length
                have hnf := hn f (List.mem_cons_self ..)
                have ih1 := ih f.type fe _ _ a _ _ hfa hfe (RepVs.take _ (RepVs.drop _ hx)) (RepVs.take _ (RepVs.drop _ hy)) (by simp; omega) (by simp; omega) d' (by omega)
                simp only [Op.eqFields, if_pos hnf, Sem.run_bind]
                rw [part_run hT hfe (by omega)]
                simp only [Result.andThen_ok, Sem.run_bind]
                rw [part_run hT hfe (by omega)]
                simp only [Result.andThen_ok, Sem.run_bind]
                rw [ih1]
                simp only [Result.andThen_ok]
                cases a with
                | false => simp
                | true => simp; exact ihf b hfb (fun f hf => hn f (List.mem_cons_of_mem _ hf))
              · simp at h
            · simp at h
          · simp at h
      · simp at h
    · rename_i n et hk
      split at h
      · rename_i ee heq hee
        have hd := tk_arr hT he hk
        have ha : e.agg = true := tab_agg hT he hd
        simp only [valOf, ha, if_true]
        have key : ∀ (n i : Nat) (r : Bool), eqAr (eqT T d et) ee.size n i xs ys = some r →
            (forIn (m := Sem) (List.range' i n) ((none, ()) : Option Bool × Unit) (fun i _ => do
              if !(← Op.equalIn d' et (← part et us.toArray (i * ee.size)) (← part et ws.toArray (i * ee.size))) then pure (ForInStep.done (some false, ()))
              else pure (ForInStep.yield (none, ())))).run P w = .ok (if r then (none, ()) else (some false, ())) w := by
          intro n
          induction n with
          | zero => intro i r h; simp [eqAr] at h; simp [← h]
          | succ n ihn =>
            intro i r h
            simp only [eqAr] at h
            split at h
            · rename_i h1 h2
              split at h
              · rename_i a b hfa hfb
                simp only [Option.some.injEq] at h
                subst h
                have h1 := Nat.le_of_ble_eq_true h1
                have h2 := Nat.le_of_ble_eq_true h2
                have hll := hx.length
                have hll' := hy.length
                have ih1 := ih et ee _ _ a _ _ hfa hee (RepVs.take _ (RepVs.drop _ hx)) (RepVs.take _ (RepVs.drop _ hy)) (by simp; omega) (by simp; omega) d' (by omega)
                simp only [List.range'_succ, List.forIn_cons, Sem.run_bind]
                rw [part_run hT hee (by omega)]
                simp only [Result.andThen_ok, Sem.run_bind]
                rw [part_run hT hee (by omega)]
                simp only [Result.andThen_ok, Sem.run_bind]
                rw [ih1]
                simp only [Result.andThen_ok]
                cases a with
                | false => simp
                | true => simpa using ihn (i + 1) b hfb
              · simp at h
            · simp at h
        simp only [Op.equalIn, Sem.run_bind, run_underlying hd, Result.andThen_ok, run_sizeOf_tab hT hee, Std.Legacy.Range.forIn_eq_forIn_range', Std.Legacy.Range.size]
        rw [show (n - 0 + 1 - 1) / 1 = n by simp, key n 0 r h]
        cases r <;> simp
      · simp at h
    · simp at h

/-! ### the operations -/
abbrev NamesIn (v : AV) (p : Nat → Prop) : Prop := ∀ id, v.has id = true → p id

omit hT in
theorem binI_sound {k : IntKind} {op : BinOp} {x y : Int} {K : AV → Prop} (h : binI k op x y K) :
    ∃ v, K v ∧ (∀ id, v.has id = false) ∧ ∀ φ R (w : World) t, ∃ u, RepV φ R w v u ∧ (binOp op t (.int k x) (.int k y)).run P w = .ok u w := by
  unfold binI at h
  split at h
  · exact ⟨_, h, by simp [AV.has], fun φ R w t => ⟨_, rfl, by simp [binOp_add, Op.intArith]⟩⟩
  · exact ⟨_, h, by simp [AV.has], fun φ R w t => ⟨_, rfl, by simp [binOp_sub, Op.intArith]⟩⟩
  · exact ⟨_, h, by simp [AV.has], fun φ R w t => ⟨_, rfl, by simp [binOp_mul, Op.intArith]⟩⟩
  · exact ⟨_, h.2, by simp [AV.has], fun φ R w t => ⟨_, rfl, by simp [binOp_quo, Op.intDiv, h.1]⟩⟩
  · exact ⟨_, h.2, by simp [AV.has], fun φ R w t => ⟨_, rfl, by simp [binOp_rem, Op.intDiv, h.1]⟩⟩
  · exact ⟨_, h, by simp [AV.has], fun φ R w t => ⟨_, rfl, by simp [binOp_and, Op.intBits, bitop]⟩⟩
  · exact ⟨_, h, by simp [AV.has], fun φ R w t => ⟨_, rfl, by simp [binOp_or, Op.intBits, bitop]⟩⟩
  · exact ⟨_, h, by simp [AV.has], fun φ R w t => ⟨_, rfl, by simp [binOp_xor, Op.intBits, bitop]⟩⟩
  · exact ⟨_, h, by simp [AV.has], fun φ R w t => ⟨_, rfl, by simp [binOp_andNot, Op.intBits, bitop]⟩⟩
  · exact ⟨_, h, by simp [AV.has], fun φ R w t => ⟨_, rfl, by simp [binOp_eql]; rfl⟩⟩
  · exact ⟨_, h, by simp [AV.has], fun φ R w t => ⟨_, rfl, by by_cases hxy : x = y <;> simp [binOp_neq, hxy]⟩⟩
  · exact ⟨_, h, by simp [AV.has], fun φ R w t => ⟨_, rfl, by simp [binOp_lss]⟩⟩
  · exact ⟨_, h, by simp [AV.has], fun φ R w t => ⟨_, rfl, by simp [binOp_leq]⟩⟩
  · exact ⟨_, h, by simp [AV.has], fun φ R w t => ⟨_, rfl, by simp [binOp_gtr]⟩⟩
  · exact ⟨_, h, by simp [AV.has], fun φ R w t => ⟨_, rfl, by simp [binOp_geq]⟩⟩
  · exact h.elim

omit hT in
theorem binS_sound {op : BinOp} {x y : List UInt8} {K : AV → Prop} (h : binS op x y K) :
    ∃ v, K v ∧ (∀ id, v.has id = false) ∧ ∀ φ R (w : World) t, ∃ u, RepV φ R w v u ∧ (binOp op t (.string (bs x)) (.string (bs y))).run P w = .ok u w := by
  unfold binS at h
  split at h
  · refine ⟨_, h.2, by simp [AV.has], fun φ R w t => ⟨_, rfl, ?_⟩⟩
    have := h.1
    simp only [binOp, Op.stringOp, bs_size, IntKind.max_i64, bs_append]
    rw [if_neg (by omega)]
    rfl
  · exact ⟨_, h, by simp [AV.has], fun φ R w t => ⟨_, rfl, by
      simp only [binOp, Op.stringOp, bs_toList]
      by_cases hxy : x = y <;> simp [hxy]⟩⟩
  · exact ⟨_, h, by simp [AV.has], fun φ R w t => ⟨_, rfl, by
      simp only [binOp, Op.stringOp, bs_toList]
      by_cases hxy : x = y <;> simp [hxy]⟩⟩
  · exact h.elim

omit hT in
theorem run_equalIn_nilL (w : World) (d : Nat) (t z : TypeId) (ht : P.underlying t = some (.pointer z)) (b : Option Addr) : (Op.equalIn (d + 1) t (.pointer none) (.pointer b)).run P w = .ok b.isNone w := by
  simp only [Op.equalIn, Sem.run_bind, run_underlying ht, Result.andThen_ok, Sem.run_pure]
omit hT in
theorem run_equalIn_nilR (w : World) (d : Nat) (t z : TypeId) (ht : P.underlying t = some (.pointer z)) (b : Addr) : (Op.equalIn (d + 1) t (.pointer (some b)) (.pointer none)).run P w = .ok false w := by
  simp only [Op.equalIn, Sem.run_bind, run_underlying ht, Result.andThen_ok, Sem.run_pure]
omit hT in
theorem run_equalIn_nilS (w : World) (d : Nat) (t z : TypeId) (ht : P.underlying t = some (.slice z)) (b : Option Addr) (n c : Nat) : (Op.equalIn (d + 1) t (.slice none 0 0) (.slice b n c)).run P w = .ok b.isNone w := by
  simp only [Op.equalIn, Sem.run_bind, run_underlying ht, Result.andThen_ok, Sem.run_pure]
omit hT in
theorem run_eq_of (w : World) (t : TypeId) (u v : Value) (r : Bool) (he : ∀ d, (Op.equalIn (d + 1) t u v).run P w = .ok r w)
    (h1 : binOp .eql t u v = (Op.equalIn (9999 + 1) t u v >>= fun b => pure (.bool b))) (h2 : binOp .neq t u v = (Op.equalIn (9999 + 1) t u v >>= fun b => pure (.bool (!b)))) :
    (binOp .eql t u v).run P w = .ok (.bool r) w ∧ (binOp .neq t u v).run P w = .ok (.bool (!r)) w := by
  rw [h1, h2, Sem.run_bind, Sem.run_bind, he]
  exact ⟨rfl, rfl⟩
omit hT in
theorem isNilP_sound {x y : AV} {r : Bool} (h : isNilP x y = some r) {φ : Place} {R : Prot} {w : World} {u v : Value} (hu : RepV φ R w x u) (hv : RepV φ R w y v) :
    (∀ op t a b, eqGuard op t a b u v = pure ()) ∧ ∀ t z, P.underlying t = some (.pointer z) → (binOp .eql t u v).run P w = .ok (.bool r) w ∧ (binOp .neq t u v).run P w = .ok (.bool (!r)) w := by
  unfold isNilP at h
  split at h <;> simp only [Option.some.injEq, reduceCtorEq] at h <;> subst h <;> simp only [RepV] at hu hv
  · subst hu; subst hv
    exact ⟨fun op t a b => eqGuard_at_pointer .., fun t z ht => run_eq_of w t _ _ _ (fun d => run_equalIn_nilL w d t z ht _) rfl rfl⟩
  · obtain ⟨_, _, _, rfl⟩ := hv; subst hu
    exact ⟨fun op t a b => eqGuard_at_pointer .., fun t z ht => run_eq_of w t _ _ _ (fun d => run_equalIn_nilL w d t z ht _) rfl rfl⟩
  · obtain ⟨_, _, _, rfl⟩ := hu; subst hv
    exact ⟨fun op t a b => eqGuard_at_pointer .., fun t z ht => run_eq_of w t _ _ _ (fun d => run_equalIn_nilR w d t z ht _) rfl rfl⟩
  · obtain ⟨_, _, _, rfl, _⟩ := hv; subst hu
    exact ⟨fun op t a b => eqGuard_at_pointer .., fun t z ht => run_eq_of w t _ _ _ (fun d => run_equalIn_nilL w d t z ht _) rfl rfl⟩
  · obtain ⟨_, _, _, rfl, _⟩ := hu; subst hv
    exact ⟨fun op t a b => eqGuard_at_pointer .., fun t z ht => run_eq_of w t _ _ _ (fun d => run_equalIn_nilR w d t z ht _) rfl rfl⟩
omit hT in
theorem isNilS_sound {x y : AV} {r : Bool} (h : isNilS x y = some r) {φ : Place} {R : Prot} {w : World} {u v : Value} (hu : RepV φ R w x u) (hv : RepV φ R w y v) :
    (∀ op t a b, eqGuard op t a b u v = pure ()) ∧ ∀ t z, P.underlying t = some (.slice z) → (binOp .eql t u v).run P w = .ok (.bool r) w ∧ (binOp .neq t u v).run P w = .ok (.bool (!r)) w := by
  unfold isNilS at h
  split at h <;> simp only [Option.some.injEq, reduceCtorEq] at h
  subst h; simp only [RepV] at hu hv
  subst hu; subst hv
  exact ⟨fun op t a b => eqGuard_at_slice .., fun t z ht => run_eq_of w t _ _ _ (fun d => run_equalIn_nilS w d t z ht _ _ _) rfl rfl⟩

omit hT in
theorem run_equalIn_nilSR (w : World) (d : Nat) (t z : TypeId) (ht : P.underlying t = some (.slice z)) (b : Option Addr) (n c : Nat) : (Op.equalIn (d + 1) t (.slice b n c) (.slice none 0 0)).run P w = .ok b.isNone w := by
  cases b <;> simp only [Op.equalIn, Sem.run_bind, run_underlying ht, Result.andThen_ok, Sem.run_pure] <;> rfl
omit hT in
theorem isNilL_sound {x y : AV} {p : Prop} (h : isNilL x y = some p) {φ : Place} {R : Prot} {w : World} {u v : Value} (hu : RepV φ R w x u) (hv : RepV φ R w y v) :
    (∀ op t a b, eqGuard op t a b u v = pure ()) ∧ ∃ r : Bool, (r = true → p) ∧ ∀ t z, P.underlying t = some (.slice z) → (binOp .eql t u v).run P w = .ok (.bool r) w ∧ (binOp .neq t u v).run P w = .ok (.bool (!r)) w := by
  unfold isNilL at h
  split at h <;> simp only [Option.some.injEq, reduceCtorEq] at h
  subst h; simp only [RepV, Rep] at hu hv
  obtain ⟨a, cap, he, _, hx⟩ := hu
  simp only [List.cons.injEq, and_true] at he
  subst he; subst hv
  refine ⟨fun op t a b => eqGuard_at_slice .., a.isNone, fun hr => ?_, fun t z ht => run_eq_of w t _ _ _ (fun d => run_equalIn_nilSR w d t z ht _ _ _) rfl rfl⟩
  rcases hx with ⟨hx, _⟩ | ⟨b, o, rfl, _⟩
  · exact hx
  · simp at hr

theorem binV_sound {t : TypeId} {op : BinOp} {x y : AV} {K : AV → Prop} (h : binV T t op x y K) :
    ∃ v, K v ∧ (∀ id, v.has id = false) ∧ ∀ φ R w u1 u2 (ox oy : Operand), RepV φ R w x u1 → RepV φ R w y u2 →
      ∃ u, RepV φ R w v u ∧ ((do eqGuard op t ox oy u1 u2; binOp op t u1 u2) : Sem Value).run P w = .ok u w := by
  unfold binV at h
  split at h
  · rename_i k a k' b
    split at h
    · refine ⟨_, h.2, by simp [AV.has], fun φ R w u1 u2 ox oy h1 h2 => ?_⟩
      simp only [RepV] at h1 h2; subst h1; subst h2
      refine ⟨_, rfl, ?_⟩
      have := h.1
      simp only [eqGuard_at_int, binOp_shl, Op.shift, Sem.run_bind, Sem.run_pure, Result.andThen_ok]
      rw [if_neg (by omega)]; rfl
    · refine ⟨_, h.2, by simp [AV.has], fun φ R w u1 u2 ox oy h1 h2 => ?_⟩
      simp only [RepV] at h1 h2; subst h1; subst h2
      refine ⟨_, rfl, ?_⟩
      have := h.1
      simp only [eqGuard_at_int, binOp_shr, Op.shift, Sem.run_bind, Sem.run_pure, Result.andThen_ok]
      rw [if_neg (by omega)]; rfl
    · split at h
      · rename_i hk; subst hk
        obtain ⟨v, hv, hn, hs⟩ := binI_sound (P := P) h
        refine ⟨v, hv, hn, fun φ R w u1 u2 ox oy h1 h2 => ?_⟩
        simp only [RepV] at h1 h2; subst h1; subst h2
        obtain ⟨u, hu, hr⟩ := hs φ R w t
        exact ⟨u, hu, by simp only [eqGuard_at_int, Sem.run_bind, Sem.run_pure, Result.andThen_ok, hr]⟩
      · exact h.elim
  · obtain ⟨v, hv, hn, hs⟩ := binS_sound (P := P) h
    refine ⟨v, hv, hn, fun φ R w u1 u2 ox oy h1 h2 => ?_⟩
    simp only [RepV] at h1 h2; subst h1; subst h2
    obtain ⟨u, hu, hr⟩ := hs φ R w t
    exact ⟨u, hu, by simp only [eqGuard_at_string, Sem.run_bind, Sem.run_pure, Result.andThen_ok, hr]⟩
  · rename_i a b
    split at h
    · rename_i e he
      split at h
      · rename_i hk
        refine ⟨_, h, by simp [AV.has], fun φ R w u1 u2 ox oy h1 h2 => ?_⟩
        simp only [RepV] at h1 h2; subst h1; subst h2
        exact ⟨_, rfl, by simp only [eqGuard_at_bool, Sem.run_bind, Sem.run_pure, Result.andThen_ok, run_eql_bool w t a b (tk_bool hT he hk)]; congr 1⟩
      · rename_i hk
        refine ⟨_, h, by simp [AV.has], fun φ R w u1 u2 ox oy h1 h2 => ?_⟩
        simp only [RepV] at h1 h2; subst h1; subst h2
        exact ⟨_, rfl, by simp only [eqGuard_at_bool, Sem.run_bind, Sem.run_pure, Result.andThen_ok, run_neq_bool w t a b (tk_bool hT he hk)]; cases a <;> cases b <;> rfl⟩
      · exact h.elim
    · exact h.elim
  · rename_i as bs'
    split at h
    · rename_i e he
      split at h
      · rename_i hl1 hl2 ha heq
        have hl1 := Nat.eq_of_beq_eq_true hl1
        have hl2 := Nat.eq_of_beq_eq_true hl2
        have hok := tab_eq hT he heq
        have key : ∀ r, eqT T 50 t as bs' = some r → ∀ φ R w u1 u2 (ox oy : Operand), RepV φ R w (.agg as) u1 → RepV φ R w (.agg bs') u2 →
            ∃ vs ws, u1 = .agg vs ∧ u2 = .agg ws ∧ (∀ op, (eqGuard op t ox oy u1 u2).run P w = .ok () w) ∧ (Op.equalIn 10000 t (.agg vs) (.agg ws)).run P w = .ok r w := by
          intro r hr φ R w u1 u2 ox oy h1 h2
          simp only [RepV] at h1 h2
          obtain ⟨vs, rfl, h1⟩ := h1
          obtain ⟨ws, rfl, h2⟩ := h2
          refine ⟨vs, ws, rfl, rfl, fun op => run_eqGuard_agg w op t ox oy vs ws hok.2, ?_⟩
          have := eqT_sound hT 50 t e as bs' r vs.toList ws.toList hr he h1 h2 (by rw [h1.length, hl1]) (by rw [h2.length, hl2]) 10000 (by omega)
          simpa [valOf, ha] using this
        split at h
        · rename_i r hr
          refine ⟨_, h, by simp [AV.has], fun φ R w u1 u2 ox oy h1 h2 => ?_⟩
          obtain ⟨vs, ws, rfl, rfl, hg, hq⟩ := key _ hr φ R w u1 u2 ox oy h1 h2
          exact ⟨_, rfl, by simp only [Sem.run_bind, hg, Result.andThen_ok, run_eql_struct, hq]⟩
        · rename_i r hr
          refine ⟨_, h, by simp [AV.has], fun φ R w u1 u2 ox oy h1 h2 => ?_⟩
          obtain ⟨vs, ws, rfl, rfl, hg, hq⟩ := key _ hr φ R w u1 u2 ox oy h1 h2
          exact ⟨_, rfl, by simp only [Sem.run_bind, hg, Result.andThen_ok, run_neq_struct, hq]⟩
        · exact h.elim
      · exact h.elim
    · exact h.elim
  · split at h
    · rename_i e he
      split at h
      · rename_i r _ hk hr
        obtain ⟨z, hz⟩ := tk_ptr hT he hk
        refine ⟨_, h, by simp [AV.has], fun φ R w u1 u2 ox oy h1 h2 => ?_⟩
        have := isNilP_sound (P := P) hr h1 h2
        exact ⟨_, rfl, by simp only [this.1, Sem.run_bind, Sem.run_pure, Result.andThen_ok, (this.2 t z hz).1]⟩
      · rename_i r _ hk hr
        obtain ⟨z, hz⟩ := tk_ptr hT he hk
        refine ⟨_, h, by simp [AV.has], fun φ R w u1 u2 ox oy h1 h2 => ?_⟩
        have := isNilP_sound (P := P) hr h1 h2
        exact ⟨_, rfl, by simp only [this.1, Sem.run_bind, Sem.run_pure, Result.andThen_ok, (this.2 t z hz).2]⟩
      · rename_i hk hr
        have hz := tk_slice hT he hk
        refine ⟨_, h, by simp [AV.has], fun φ R w u1 u2 ox oy h1 h2 => ?_⟩
        have := isNilS_sound (P := P) hr h1 h2
        exact ⟨_, rfl, by simp only [this.1, Sem.run_bind, Sem.run_pure, Result.andThen_ok, (this.2 t _ hz).1]⟩
      · rename_i hk hr
        have hz := tk_slice hT he hk
        refine ⟨_, h, by simp [AV.has], fun φ R w u1 u2 ox oy h1 h2 => ?_⟩
        have := isNilS_sound (P := P) hr h1 h2
        exact ⟨_, rfl, by simp only [this.1, Sem.run_bind, Sem.run_pure, Result.andThen_ok, (this.2 t _ hz).2]⟩
      · rename_i p hk hr _
        have hz := tk_slice hT he hk
        refine ⟨_, h, by simp [AV.has], fun φ R w u1 u2 ox oy h1 h2 => ?_⟩
        obtain ⟨hg, r, hp, hq⟩ := isNilL_sound (P := P) hr h1 h2
        exact ⟨.bool r, by simp only [RepV]; exact ⟨r, rfl, hp, fun _ => trivial⟩, by simp only [hg, Sem.run_bind, Sem.run_pure, Result.andThen_ok, (hq t _ hz).1]⟩
      · rename_i p hk hr _
        have hz := tk_slice hT he hk
        refine ⟨_, h, by simp [AV.has], fun φ R w u1 u2 ox oy h1 h2 => ?_⟩
        obtain ⟨hg, r, hp, hq⟩ := isNilL_sound (P := P) hr h1 h2
        exact ⟨.bool (!r), by simp only [RepV]; exact ⟨!r, rfl, fun _ => trivial, fun hh => hp (by simpa using hh)⟩, by simp only [hg, Sem.run_bind, Sem.run_pure, Result.andThen_ok, (hq t _ hz).2]⟩
      · exact h.elim
    · exact h.elim
end
end Go.Fw
