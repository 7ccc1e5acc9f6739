/- The framework, part 4: the operations that make no memory do what Fw3 says. -/
import Derived.Test.YtnleiflijccefaaFw3
import Derived.Laws.Entries
import Derived.Laws.Strings
import Derived.Laws.StructEq
import Derived.Laws.BytesString
import Derived.Laws.BytesArg
import Derived.ChangeKeysEq
set_option linter.all false
namespace Go.Fw

theorem bs_size (l : List UInt8) : (bs l).size = l.length := by simp [bs, ByteArray.size]
theorem bs_toList (l : List UInt8) : (bs l).toList = l := by rw [ByteArray.toList_eq]; simp [bs]
theorem bs_append (l m : List UInt8) : bs l ++ bs m = bs (l ++ m) := by
  apply ByteArray.ext
  simp [bs, ByteArray.data_append]
theorem bs_extract (l : List UInt8) (i j : Nat) : (bs l).extract i j = bs ((l.take j).drop i) := by
  apply ByteArray.ext
  simp [bs, ByteArray.data_extract, List.drop_take]

structure TInfo (P : Program) (t : TypeId) (e : TE) : Prop where
  ex : ∃ i d, P.info? t = some i ∧ P.underlying t = some d ∧ i.size = e.size ∧ i.bytes = e.bytes ∧ e.k.ok d = true ∧ e.agg = TypeDesc.isAgg d ∧ (e.eq = true → P.stoodInHeld t = false ∧ P.eqGuardType P.depth t = false) ∧
    ((∃ vs : Array Value, i.zero = some (.agg vs) ∧ e.agg = true ∧ zeroChk e.zero vs.toList = true ∧ vs.size = e.size) ∨
     (∃ v, i.zero = some v ∧ v.oneCell' = true ∧ v.cells = #[v] ∧ e.agg = false ∧ zeroChk e.zero [v] = true ∧ e.size = 1))

theorem zeroChk_one : ∀ {as : List AV} {vs : List Value}, zeroChk as vs = true → ∀ v ∈ vs, v.oneCell' = true := by
  intro as vs h
  fun_induction zeroChk as vs <;> simp_all [Value.oneCell']

theorem TE.ok_info {P : Program} {t : TypeId} {e : TE} (h : e.ok P t = true) : TInfo P t e := by
  unfold TE.ok at h
  split at h
  · rename_i i d hi hd
    simp only [Bool.and_eq_true, beq_iff_eq] at h
    obtain ⟨⟨⟨⟨⟨h1, h2⟩, h3⟩, h4⟩, h6⟩, h5⟩ := h
    refine ⟨i, d, hi, hd, h1, h2, h3, h4, fun he => by simpa [he] using h6, ?_⟩
    split at h5
    · rename_i vs hz
      simp only [Bool.and_eq_true, beq_iff_eq] at h5
      exact .inl ⟨vs, hz, h5.1.1, h5.1.2, h5.2⟩
    · rename_i v hv hz
      simp only [Bool.and_eq_true, beq_iff_eq, Bool.not_eq_true'] at h5
      have hone := zeroChk_one h5.1.2 v (by simp)
      refine .inr ⟨v, hz, hone, ?_, h5.1.1, h5.1.2, h5.2⟩
      cases v <;> simp_all [Value.cells]
    · simp at h5
  · simp at h

theorem tab_ok {P : Program} {T : Tab} (hT : tabOK P T = true) {t : TypeId} {e : TE} (h : tget T t = some e) : TInfo P t e := by
  have := lookup_mem h
  unfold tabOK at hT
  rw [List.all_eq_true] at hT
  exact TE.ok_info (hT _ this)

theorem hasAny_getD {id : Nat} : ∀ (cs : List AV) (i : Nat), (cs.getD i .any).has id = true → AV.hasAny id cs = true
  | [], _, h => by simp [AV.has] at h
  | a :: cs, 0, h => by simp at h; simp [AV.hasAny, h]
  | a :: cs, i + 1, h => by simp at h; simp [AV.hasAny, hasAny_getD cs i (by simpa using h)]
theorem hasAny_take {id : Nat} : ∀ (n : Nat) (cs : List AV), AV.hasAny id (cs.take n) = true → AV.hasAny id cs = true
  | 0, _, h => by simp [AV.hasAny] at h
  | n + 1, [], h => by simp [AV.hasAny] at h
  | n + 1, a :: cs, h => by
    simp only [List.take_succ_cons, AV.hasAny, Bool.or_eq_true] at h ⊢
    exact h.imp (fun h => h) (hasAny_take n cs)
theorem hasAny_drop {id : Nat} : ∀ (n : Nat) (cs : List AV), AV.hasAny id (cs.drop n) = true → AV.hasAny id cs = true
  | 0, _, h => h
  | n + 1, [], h => by simp [AV.hasAny] at h
  | n + 1, a :: cs, h => by
    simp only [List.drop_succ_cons] at h
    simp [AV.hasAny, hasAny_drop n cs h]
theorem hasAny_append {id : Nat} : ∀ (as bs : List AV), AV.hasAny id (as ++ bs) = (AV.hasAny id as || AV.hasAny id bs)
  | [], bs => by simp [AV.hasAny]
  | a :: as, bs => by simp [AV.hasAny, hasAny_append as bs, Bool.or_assoc]
theorem hasAny_explode {id : Nat} : ∀ (t : Ty) (x : t.D), AV.hasAny id (explode t x) = false
  | .bool, _ => by simp [explode, AV.hasAny, AV.has]
  | .int _, _ => by simp [explode, AV.hasAny, AV.has]
  | .str, _ => by simp [explode, AV.hasAny, AV.has]
  | .nil, _ => by simp [explode, AV.hasAny]
  | .cons a b, x => by simp [explode, hasAny_append, hasAny_explode a, hasAny_explode b]
  | .list _, _ => by simp [explode, AV.hasAny, AV.has]

set_option linter.unusedSectionVars false
set_option linter.unusedSimpArgs false
section
variable {P : Program} {T : Tab} (hT : tabOK P T = true)
include hT

theorem run_sizeOf_tab {t : TypeId} {e : TE} (h : tget T t = some e) (w : World) : (sizeOf t).run P w = .ok e.size w := by
  obtain ⟨i, d, hi, _, hs, _⟩ := (tab_ok hT h).ex
  simp [sizeOf, typeInfo, hi, hs]
theorem run_isAgg_tab {t : TypeId} {e : TE} (h : tget T t = some e) (w : World) : (isAgg t).run P w = .ok e.agg w := by
  obtain ⟨i, d, _, hd, _, _, _, ha, _⟩ := (tab_ok hT h).ex
  unfold isAgg
  rw [Sem.run_bind, run_underlying hd]
  cases d <;> simp_all [TypeDesc.isAgg]
omit hT in
theorem subCells_sound {ft : TypeId} {cs : List AV} {off : Nat} {K : AV → Prop} (h : subCells T ft cs off K) :
    ∃ v e, K v ∧ (∀ id, v.has id = true → AV.hasAny id cs = true) ∧ tget T ft = some e ∧ ∀ φ R w vs, RepVs φ R w cs vs →
      ∃ u, RepV φ R w v u ∧ off + e.size ≤ vs.length ∧ ((e.agg = true ∧ u = .agg ((vs.drop off).take e.size).toArray) ∨ (e.agg = false ∧ e.size = 1 ∧ vs[off]? = some u)) := by
  unfold subCells at h
  split at h
  · rename_i fe hfe
    split at h
    · rename_i hle
      have hle := Nat.le_of_ble_eq_true hle
      split at h
      · rename_i ha
        refine ⟨_, fe, h, fun id hid => ?_, hfe, fun φ R w vs hr => ⟨_, ?_, by have := hr.length; omega, .inl ⟨ha, rfl⟩⟩⟩
        · simp only [AV.has] at hid
          exact hasAny_drop _ _ (hasAny_take _ _ hid)
        · simp only [RepV]
          exact ⟨_, rfl, by simpa using RepVs.take _ (RepVs.drop _ hr)⟩
      · rename_i ha
        split at h
        · rename_i h1
          have h1 := Nat.eq_of_beq_eq_true h1
          refine ⟨_, fe, h, fun id hid => hasAny_getD _ _ hid, hfe, fun φ R w vs hr => ?_⟩
          have hl := hr.length
          have hlt : off < vs.length := by omega
          exact ⟨vs[off], hr.get off vs[off] (by simp [hlt]), by omega, .inr ⟨ha, h1, by simp [hlt]⟩⟩
        · exact h.elim
    · exact h.elim
  · exact h.elim

theorem part_sound {ft : TypeId} {cs : List AV} {off : Nat} {K : AV → Prop} (h : subCells T ft cs off K) :
    ∃ v, K v ∧ (∀ id, v.has id = true → AV.hasAny id cs = true) ∧ ∀ φ R w (vs : Array Value), RepVs φ R w cs vs.toList → ∃ u, RepV φ R w v u ∧ (part ft vs off).run P w = .ok u w := by
  obtain ⟨v, e, hk, hn, he, hs⟩ := subCells_sound h
  refine ⟨v, hk, hn, fun φ R w vs hr => ?_⟩
  obtain ⟨u, hv, hle, hu⟩ := hs φ R w _ hr
  refine ⟨u, hv, ?_⟩
  unfold part
  rw [Sem.run_bind, run_isAgg_tab hT he]
  rcases hu with ⟨ha, rfl⟩ | ⟨ha, h1, hu⟩
  · simp only [ha, Result.andThen_ok, if_true, Sem.run_bind, run_sizeOf_tab hT he, Sem.run_pure]
    congr 2
    apply Array.ext'
    simp [Array.toList_extract, List.extract_eq_take_drop]
  · have : vs[off]? = some u := by simpa using hu
    simp [ha, this]

theorem load_sound {t : TypeId} {cs : List AV} {off : Nat} {K : AV → Prop} (h : subCells T t cs off K) :
    ∃ v, K v ∧ (∀ id, v.has id = true → AV.hasAny id cs = true) ∧ ∀ φ R w vs b base, RepVs φ R w cs vs → (∀ i v, vs[i]? = some v → w.cell? ⟨b, base + i, none⟩ = some v) →
      ∃ u, RepV φ R w v u ∧ (Instr.loadAt t (.pointer (some ⟨b, base + off, none⟩))).run P w = .ok u w := by
  obtain ⟨v, e, hk, hn, he, hs⟩ := subCells_sound h
  refine ⟨v, hk, hn, fun φ R w vs b base hr hc => ?_⟩
  obtain ⟨u, hv, hle, hu⟩ := hs φ R w _ hr
  refine ⟨u, hv, ?_⟩
  simp only [Instr.loadAt, Instr.sureAddr, loadVar, Sem.run_bind, Sem.run_pure, Result.andThen_ok, run_isAgg_tab hT he]
  rcases hu with ⟨ha, rfl⟩ | ⟨ha, h1, hu⟩
  · simp only [ha, if_true, Sem.run_bind, run_sizeOf_tab hT he, Result.andThen_ok]
    have hl : ((vs.drop off).take e.size).length = e.size := by simp; omega
    have := run_loadCells_list (P := P) w ⟨b, base + off, none⟩ ((vs.drop off).take e.size) (fun j v hj => by
      rw [Addr.add_lit]
      have hjl : j < e.size := by
        have := (List.getElem?_eq_some_iff.1 hj).1
        omega
      have : vs[off + j]? = some v := by
        rw [List.getElem?_take, if_pos hjl, List.getElem?_drop] at hj
        exact hj
      have := hc _ _ this
      rw [← Nat.add_assoc] at this
      exact this)
    rw [hl] at this
    simp [this]
  · simp only [ha, Bool.false_eq_true, if_false]
    rw [run_load, hc off u hu]

theorem tab_k {t : TypeId} {e : TE} (h : tget T t = some e) : ∃ d, P.underlying t = some d ∧ e.k.ok d = true := by
  obtain ⟨i, d, _, hd, _, _, hok, _⟩ := (tab_ok hT h).ex
  exact ⟨d, hd, hok⟩
theorem tk_struct {t : TypeId} {e : TE} {fs : List (Nat × TypeId)} (h : tget T t = some e) (hk : e.k = .struct fs) :
    ∃ fields : Array Field, P.underlying t = some (.struct fields) ∧ fields.toList.map (fun f => (f.offset, f.type)) = fs ∧ ∀ f ∈ fields.toList, f.name ≠ "_" := by
  obtain ⟨d, hd, hok⟩ := tab_k hT h
  rw [hk] at hok
  cases d <;> simp [TK.ok] at hok
  rename_i fields
  exact ⟨fields, hd, by simpa using hok.1, fun f hf => by
    have := hok.2
    obtain ⟨i, hi, rfl⟩ := List.getElem_of_mem hf
    simpa using this i (by simpa using hi)⟩
theorem tk_arr {t : TypeId} {e : TE} {n : Nat} {et : TypeId} (h : tget T t = some e) (hk : e.k = .arr n et) : P.underlying t = some (.array n et) := by
  obtain ⟨d, hd, hok⟩ := tab_k hT h
  rw [hk] at hok
  cases d <;> simp [TK.ok] at hok
  rw [hd, hok.1, hok.2]
theorem tk_slice {t : TypeId} {e : TE} {et : TypeId} (h : tget T t = some e) (hk : e.k = .slice et) : P.underlying t = some (.slice et) := by
  obtain ⟨d, hd, hok⟩ := tab_k hT h
  rw [hk] at hok
  cases d <;> simp [TK.ok] at hok
  rw [hd, hok]
theorem tk_str {t : TypeId} {e : TE} (h : tget T t = some e) (hk : e.k = .str) : P.underlying t = some .string := by
  obtain ⟨d, hd, hok⟩ := tab_k hT h
  rw [hk] at hok
  cases d <;> simp [TK.ok] at hok
  exact hd
theorem tk_bool {t : TypeId} {e : TE} (h : tget T t = some e) (hk : e.k = .bool) : P.underlying t = some .bool := by
  obtain ⟨d, hd, hok⟩ := tab_k hT h
  rw [hk] at hok
  cases d <;> simp [TK.ok] at hok
  exact hd
theorem tk_int {t : TypeId} {e : TE} {k : IntKind} (h : tget T t = some e) (hk : e.k = .int k) : P.underlying t = some (.int k) := by
  obtain ⟨d, hd, hok⟩ := tab_k hT h
  rw [hk] at hok
  cases d <;> simp [TK.ok] at hok
  rw [hd, hok]
theorem tk_ptr {t : TypeId} {e : TE} (h : tget T t = some e) (hk : e.k = .ptr) : ∃ x, P.underlying t = some (.pointer x) := by
  obtain ⟨d, hd, hok⟩ := tab_k hT h
  rw [hk] at hok
  cases d <;> simp [TK.ok] at hok
  exact ⟨_, hd⟩

theorem field_sound {t ft : TypeId} {e : TE} {fs : List (Nat × TypeId)} {f off : Nat} {cs : List AV} {K : AV → Prop}
    (he : tget T t = some e) (hk : e.k = .struct fs) (hf : fs[f]? = some (off, ft)) (h : subCells T ft cs off K) :
    ∃ v, K v ∧ (∀ id, v.has id = true → AV.hasAny id cs = true) ∧ ∀ φ R w (vs : Array Value), RepVs φ R w cs vs.toList → ∃ u, RepV φ R w v u ∧ (Instr.field t (.agg vs) f).run P w = .ok u w := by
  obtain ⟨fields, hd, hfs, _⟩ := tk_struct hT he hk
  subst hfs
  obtain ⟨v, hk, hn, hs⟩ := part_sound hT h
  refine ⟨v, hk, hn, fun φ R w vs hr => ?_⟩
  obtain ⟨u, hv, hp⟩ := hs φ R w vs hr
  refine ⟨u, hv, ?_⟩
  simp only [List.getElem?_map, Option.map_eq_some_iff] at hf
  obtain ⟨fld, hfl, hfe⟩ := hf
  simp only [Prod.mk.injEq] at hfe
  obtain ⟨rfl, rfl⟩ := hfe
  have hfl' : fields[f]? = some fld := by simpa using hfl
  simp [Instr.field, run_underlying hd, hfl', asAgg, hp]
end
end Go.Fw
