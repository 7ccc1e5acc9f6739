/- The framework, part 6: reading, converting, slicing, indexing; all operations that make no memory. -/
import Derived.Test.YtnleiflijccefaaFw5
set_option linter.all false
set_option linter.unusedSectionVars false
set_option linter.unusedSimpArgs false
namespace Go.Fw

abbrev ChOK (φ : Place) (R : Prot) (w : World) (lk : Heap) (a : AV) : Prop := ∀ id c, a.has id = true → lk id = some c → ChunkRel φ R w id c
/-- The chunks that a result may name. -/
abbrev From (lk : Heap) (a : AV) (id : Nat) : Prop := a.has id = true ∨ ∃ j cs, a.has j = true ∧ lk j = some (.box cs) ∧ AV.hasAny id cs = true

theorem getD_eq {α : Type} (xs : List α) (i : Nat) (d : α) (h : i < xs.length) : xs.getD i d = xs[i] := by simp [List.getD, h]

section
variable {P : Program} {T : Tab} (hT : tabOK P T = true)
include hT

theorem loadV_sound {lk : Heap} {t : TypeId} {a : AV} {K : AV → Prop} (h : loadV T lk t a K) :
    ∃ v, K v ∧ (∀ id, v.has id = true → From lk a id) ∧ ∀ φ R w u0, RepV φ R w a u0 → ChOK φ R w lk a → ∃ u, RepV φ R w v u ∧ (Instr.loadAt t u0).run P w = .ok u w := by
  unfold loadV at h
  split at h
  · rename_i cs off
    obtain ⟨v, hk, hn, hs⟩ := load_sound hT h
    refine ⟨v, hk, fun id hid => .inl (by simp [AV.has, hn id hid]), fun φ R w u0 hr hc => ?_⟩
    simp only [RepV] at hr
    obtain ⟨b, base, us, rfl, hcell, hr⟩ := hr
    exact hs φ R w us b base hr (fun i v hv => (hcell i v hv).2)
  · rename_i id off
    split at h
    · rename_i cs hlk
      obtain ⟨v, hk, hn, hs⟩ := load_sound hT h
      refine ⟨v, hk, fun id' hid => .inr ⟨id, cs, by simp [AV.has], hlk, hn id' hid⟩, fun φ R w u0 hr hc => ?_⟩
      simp only [RepV] at hr
      obtain ⟨b, cap, hφ, rfl⟩ := hr
      obtain ⟨b', cap', vs, e, fr, hφ', hh, hrs, _⟩ := hc id _ (by simp [AV.has]) hlk
      rw [hφ] at hφ'
      simp only [Option.some.injEq, Prod.mk.injEq] at hφ'
      obtain ⟨rfl, rfl⟩ := hφ'
      have := hs φ R w vs.toList b 0 hrs (fun i v hv => by simp only [World.cell?, hh]; simpa using hv)
      simpa using this
    · exact h.elim
  · rename_i id sz i off
    split at h
    · rename_i ty xs hlk
      split at h
      · rename_i hsz
        have hsz := Nat.eq_of_beq_eq_true hsz
        obtain ⟨hi, h⟩ := h
        obtain ⟨v, hk, hn, hs⟩ := load_sound hT h
        refine ⟨v, hk, fun id' hid => by have := hn id' hid; rw [hasAny_explode] at this; simp at this, fun φ R w u0 hr hc => ?_⟩
        simp only [RepV] at hr
        obtain ⟨b, cap, hφ, rfl⟩ := hr
        rcases hc id _ (by simp [AV.has]) hlk with ⟨h1, h2⟩ | ⟨b', cap', vs, e, fr, hφ', hh, hlen, hcap, hel, _⟩
        · rw [hφ] at h1; simp at h1
        · rw [hφ] at hφ'
          simp only [Option.some.injEq, Prod.mk.injEq] at hφ'
          obtain ⟨rfl, rfl⟩ := hφ'
          have hrep := (hel i hi).explode (φ := φ)
          rw [getD_eq xs i _ hi] at hs
          rw [hsz]
          exact hs φ R w _ b (i * ty.size) hrep (fun j v hv => by
            simp only [World.cell?, hh]
            rw [List.getElem?_take] at hv
            split at hv
            · rw [List.getElem?_drop] at hv; simpa using hv
            · simp at hv)
      · exact h.elim
    · exact h.elim
  · exact h.elim

theorem run_bytes_cells (w : World) (b o : Nat) (xs : List Int) (n cap : Nat) (hn : xs.length = n) (hc : ∀ i (h : i < xs.length), w.cell? ⟨b, o + i, none⟩ = some (.int .u8 xs[i])) :
    (Conv.bytesToString (.slice (some ⟨b, o, none⟩) n cap)).run P w = .ok (.string (bs (xs.map byteOf))) w := by
  subst hn
  have hl : (loadCells ⟨b, o, none⟩ xs.length).run P w = .ok (xs.map (Value.int .u8)).toArray w := by
    have := run_loadCells_list (P := P) w ⟨b, o, none⟩ (xs.map (Value.int .u8)) (fun j v hj => by
      rw [Addr.add_lit]
      simp only [List.getElem?_map, Option.map_eq_some_iff] at hj
      obtain ⟨x, hx, rfl⟩ := hj
      obtain ⟨hjl, rfl⟩ := List.getElem?_eq_some_iff.1 hx
      exact hc j hjl)
    simpa using this
  rw [run_bytesToString w _ _ _ xs (by simpa using hl)]
  congr 2
  have key : ∀ (ys : List Int) (acc : ByteArray), ys.foldl (fun r n => r.push (UInt8.ofNat n.toNat)) acc = acc ++ bs (ys.map byteOf) := by
    intro ys
    induction ys with
    | nil => intro acc; apply ByteArray.ext; simp [bs, ByteArray.data_append]
    | cons y ys ih =>
      intro acc
      simp only [List.foldl_cons, ih, List.map_cons]
      apply ByteArray.ext
      simp [bs, ByteArray.data_append, ByteArray.data_push, byteOf]
  rw [key]
  apply ByteArray.ext
  simp [bs, ByteArray.data_append]

theorem convV_sound {lk : Heap} {src dst : TypeId} {x : AV} {K : AV → Prop} (h : convV T lk src dst x K) :
    ∃ v, K v ∧ (∀ id, v.has id = false) ∧ ∀ φ R w u0, RepV φ R w x u0 → ChOK φ R w lk x → ∃ u, RepV φ R w v u ∧ (convert src dst u0).run P w = .ok u w := by
  unfold convV at h
  split at h
  · rename_i s d hs hd
    obtain ⟨ds, hds, _⟩ := tab_k hT hs
    split at h
    · rename_i _ k _ n hk
      refine ⟨_, h, by simp [AV.has], fun φ R w u0 hr _ => ?_⟩
      simp only [RepV] at hr; subst hr
      exact ⟨_, rfl, by simp [convert, run_underlying hds, run_underlying (tk_int hT hd hk), Conv.intToInt]⟩
    · rename_i str hk
      refine ⟨_, h, by simp [AV.has], fun φ R w u0 hr _ => ?_⟩
      simp only [RepV] at hr; subst hr
      refine ⟨_, rfl, ?_⟩
      simp only [convert, Sem.run_bind, run_underlying hds, run_underlying (tk_str hT hd hk), Result.andThen_ok, Sem.run_pure]
    · rename_i e v hk hk2 hneg
      have hus := tk_slice hT hs hk
      have hud := tk_str hT hd hk2
      split at h
      · rename_i ee hee
        split at h
        · rename_i hk3
          have hue := tk_int hT hee hk3
          have hconv : ∀ (w : World) (a : Option Addr) (n c : Nat), (convert src dst (.slice a n c)).run P w = (Conv.bytesToString (.slice a n c)).run P w := by
            intro w a n c
            simp only [convert, Sem.run_bind, run_underlying hus, run_underlying hud, Result.andThen_ok, run_underlying hue]
          split at h
          · rename_i xs
            refine ⟨_, h, by simp [AV.has], fun φ R w u0 hr _ => ?_⟩
            simp only [RepV, Rep] at hr
            obtain ⟨p, cap, he, hcap, hr⟩ := hr
            simp only [List.cons.injEq, and_true] at he
            subst he
            refine ⟨_, rfl, ?_⟩
            rw [hconv]
            rcases hr with ⟨rfl, rfl⟩ | ⟨b, o, rfl, hr⟩
            · cases p with
              | none => simp [Conv.bytesToString, bs]; rfl
              | some a => rw [run_bytesToString w a _ _ [] (by simp [loadCells, loadCellsFrom])]; rfl
            · exact run_bytes_cells hT w b o xs _ cap rfl (fun i hi => by
                obtain ⟨us, hl, hc, rfl⟩ := hr i hi
                have := (hc 0 _ (by simp; rfl)).2
                simpa [Ty.size] using this)
          · refine ⟨_, h, by simp [AV.has], fun φ R w u0 hr _ => ?_⟩
            simp only [RepV] at hr; subst hr
            refine ⟨_, rfl, ?_⟩
            rw [hconv]
            simp [Conv.bytesToString, bs]; rfl
          · rename_i id n
            split at h
            · rename_i xs hlk
              refine ⟨_, h.2, by simp [AV.has], fun φ R w u0 hr hc => ?_⟩
              have hc := hc id _ (by simp [AV.has]) hlk
              simp only [RepV] at hr
              refine ⟨_, rfl, ?_⟩
              rcases hr with ⟨h1, rfl, rfl⟩ | ⟨b, cap, hφ, _, rfl⟩
              · rw [hconv]; simp [Conv.bytesToString, bs]; rfl
              · rw [hconv]
                rcases hc with ⟨h1, h2⟩ | ⟨b', cap', vs, e, fr, hφ', hh, hlen, hcap, hel, _⟩
                · rw [hφ] at h1; simp at h1
                · rw [hφ] at hφ'
                  simp only [Option.some.injEq, Prod.mk.injEq] at hφ'
                  obtain ⟨rfl, rfl⟩ := hφ'
                  exact run_bytes_cells hT w b 0 (xs.take n) n cap (by have := h.1; simp; omega) (fun i hi => by
                    simp only [List.length_take] at hi
                    have hel := hel i (by omega)
                    simp only [Ty.size, Nat.mul_one, Rep] at hel
                    simp only [World.cell?, hh, Nat.zero_add]
                    have : (vs.toList.drop i).take 1 = [Value.int .u8 xs[i]] := hel
                    have h0 := congrArg (fun l => l[0]?) this
                    simp only [List.getElem?_take, List.getElem?_drop] at h0
                    simpa using h0)
            · exact h.elim
          · exact h.elim
        · exact h.elim
      · exact h.elim
    · exact h.elim
  · exact h.elim


def OptRep (φ : Place) (R : Prot) (w : World) : Option AV → Option Value → Prop
  | none, u => u = none
  | some a, u => ∃ v, u = some v ∧ RepV φ R w a v

omit hT in
theorem boundI_sound {d : Int} {x : Option AV} {K : Int → Prop} (h : boundI d x K) : ∃ n, K n ∧ ((x = none ∧ n = d) ∨ ∃ k, x = some (.int k n)) := by
  unfold boundI at h
  split at h
  · exact ⟨_, h, .inl ⟨rfl, rfl⟩⟩
  · exact ⟨_, h, .inr ⟨_, rfl⟩⟩
  · exact h.elim

omit hT in
theorem sliceBounds_run {φ : Place} {R : Prot} {w : World} {isS : Bool} {len cap : Nat} {lo hi : Option AV} {l r : Int} {ulo uhi : Option Value}
    (hl : (lo = none ∧ l = 0) ∨ ∃ k, lo = some (.int k l)) (hr : (hi = none ∧ r = len) ∨ ∃ k, hi = some (.int k r)) (h0 : 0 ≤ l) (h1 : l ≤ r) (h2 : r ≤ cap)
    (ul : OptRep φ R w lo ulo) (ur : OptRep φ R w hi uhi) : (Instr.sliceBounds isS len cap ulo uhi none).run P w = .ok (l.toNat, r.toNat, cap) w := by
  have key : ∀ (k : IntKind) (x : Int) (y : Nat) (code : BoundsCode), 0 ≤ x → x ≤ y → (Instr.sliceBound (.int k x) y code).run P w = .ok x.toNat w := by
    intro k x y code h0 h1
    simp only [Instr.sliceBound, asIntOf, Sem.run_bind, Sem.run_pure, Result.andThen_ok]
    rw [if_pos ⟨h0, h1⟩]
    rfl
  have hu : ∃ uh, uhi = uh ∧ True := ⟨_, rfl, trivial⟩
  rcases hr with ⟨rfl, rfl⟩ | ⟨k, rfl⟩
  · simp only [OptRep] at ur
    subst ur
    rcases hl with ⟨rfl, rfl⟩ | ⟨k, rfl⟩
    · simp only [OptRep] at ul
      subst ul
      simp [Instr.sliceBounds]
    · simp only [OptRep, RepV] at ul
      obtain ⟨_, rfl, rfl⟩ := ul
      simp only [Instr.sliceBounds, Sem.run_bind, Sem.run_pure, Result.andThen_ok]
      rw [key k l len _ h0 h1]
      simp
  · simp only [OptRep, RepV] at ur
    obtain ⟨_, rfl, rfl⟩ := ur
    rcases hl with ⟨rfl, rfl⟩ | ⟨k', rfl⟩
    · simp only [OptRep] at ul
      subst ul
      simp only [Instr.sliceBounds, Sem.run_bind, Sem.run_pure, Result.andThen_ok]
      rw [key k r cap _ (by omega) h2]
      simp
    · simp only [OptRep, RepV] at ul
      obtain ⟨_, rfl, rfl⟩ := ul
      simp only [Instr.sliceBounds, Sem.run_bind, Sem.run_pure, Result.andThen_ok]
      rw [key k r cap _ (by omega) h2]
      simp only [Result.andThen_ok, Sem.run_bind]
      rw [key k' l r.toNat _ h0 (by omega)]
      simp

theorem sliceV_sound {t : TypeId} {x : AV} {lo hi : Option AV} {K : AV → Prop} (h : sliceV T t x lo hi K) :
    ∃ v, K v ∧ (∀ id, v.has id = true → x.has id = true) ∧ ∀ φ R w u0 ulo uhi, RepV φ R w x u0 → OptRep φ R w lo ulo → OptRep φ R w hi uhi →
      ∃ u, RepV φ R w v u ∧ (Instr.sliceAt t u0 ulo uhi none).run P w = .ok u w := by
  unfold sliceV at h
  split at h
  · rename_i e he
    split at h
    · rename_i s hk
      obtain ⟨l, h, hl⟩ := boundI_sound h
      obtain ⟨r, h, hr⟩ := boundI_sound h
      refine ⟨_, h.2, by simp [AV.has], fun φ R w u0 ulo uhi hx h1 h2 => ?_⟩
      simp only [RepV] at hx; subst hx
      refine ⟨_, rfl, ?_⟩
      have hd := tk_str hT he hk
      have hb := sliceBounds_run (P := P) (isS := false) (len := s.length) (cap := s.length) hl hr h.1.1 h.1.2.1 h.1.2.2 h1 h2
      simp only [Instr.sliceAt, Instr.slice, Sem.run_bind, run_underlying hd, Result.andThen_ok, bs_size, hb, Option.isSome_none, Bool.false_eq_true, if_false, Sem.run_pure, bs_extract]
    · rename_i et ty xs hk
      split at h
      · rename_i ee hee
        split at h
        · rename_i hsz
          have hsz := Nat.eq_of_beq_eq_true hsz
          obtain ⟨l, h, hl⟩ := boundI_sound h
          obtain ⟨r, h, hr⟩ := boundI_sound h
          obtain ⟨⟨h0, hlr, hrn⟩, h⟩ := h
          refine ⟨_, h, by simp [AV.has], fun φ R w u0 ulo uhi hx h1 h2 => ?_⟩
          simp only [RepV, Rep] at hx
          obtain ⟨p, cap, hp, hcap, hx⟩ := hx
          simp only [List.cons.injEq, and_true] at hp
          subst hp
          have hd := tk_slice hT he hk
          have hb := sliceBounds_run (P := P) (isS := true) (len := xs.length) (cap := cap) hl hr h0 hlr (by omega) h1 h2
          have hrun : (Instr.sliceAt t (.slice p xs.length cap) ulo uhi none).run P w =
              .ok (.slice (if cap = l.toNat then p else p.map (·.add (l.toNat * ee.size))) (r.toNat - l.toNat) (cap - l.toNat)) w := by
            simp only [Instr.sliceAt, Instr.slice, Sem.run_bind, run_underlying hd, Result.andThen_ok, hb, run_sizeOf_tab hT hee, Sem.run_pure]
          refine ⟨_, ?_, hrun⟩
          simp only [RepV, Rep]
          have hlen : ((xs.take r.toNat).drop l.toNat).length = r.toNat - l.toNat := by simp; omega
          refine ⟨_, _, by rw [hlen], by omega, ?_⟩
          rcases hx with ⟨rfl, rfl⟩ | ⟨b, o, rfl, hx⟩
          · left
            exact ⟨by simp, by omega⟩
          · right
            by_cases hcl : cap = l.toNat
            · refine ⟨b, o, by rw [if_pos hcl], fun i hi => ?_⟩
              rw [hlen] at hi
              omega
            · refine ⟨b, o + l.toNat * ee.size, by rw [if_neg hcl]; simp [Addr.add_lit], fun i hi => ?_⟩
              rw [hlen] at hi
              obtain ⟨us, hul, hc, hrep⟩ := hx (l.toNat + i) (by omega)
              refine ⟨us, hul, ?_, ?_⟩
              · rw [hsz]
                rw [Nat.add_mul, ← Nat.add_assoc] at hc
                exact hc
              · simpa [List.getElem_drop, List.getElem_take] using hrep
        · exact h.elim
      · exact h.elim
    · rename_i et id n hk
      split at h
      · rename_i hee
        obtain ⟨r, h, hr⟩ := boundI_sound h
        obtain ⟨⟨h0, hrn⟩, h⟩ := h
        refine ⟨_, h, fun id' hid => by simpa [AV.has] using hid, fun φ R w u0 ulo uhi hx h1 h2 => ?_⟩
        simp only [RepV] at hx
        have hd := tk_slice hT he hk
        rcases hx with ⟨hφ, rfl, rfl⟩ | ⟨b, cap, hφ, hcap, rfl⟩
        · have hb := sliceBounds_run (P := P) (isS := true) (len := 0) (cap := 0) (.inl ⟨rfl, rfl⟩) hr (Int.le_refl _) h0 (by simpa using hrn) h1 h2
          have : r = 0 := by omega
          subst this
          refine ⟨.slice none 0 0, .inl ⟨hφ, rfl, rfl⟩, ?_⟩
          simp only [Instr.sliceAt, Instr.slice, Sem.run_bind, run_underlying hd, Result.andThen_ok, hb, run_sizeOf_tab hT hee, Sem.run_pure]
          simp
        · have hb := sliceBounds_run (P := P) (isS := true) (len := n) (cap := cap) (.inl ⟨rfl, rfl⟩) hr (Int.le_refl _) h0 (by omega) h1 h2
          refine ⟨.slice (some ⟨b, 0, none⟩) r.toNat cap, .inr ⟨b, cap, hφ, by omega, rfl⟩, ?_⟩
          simp only [Instr.sliceAt, Instr.slice, Sem.run_bind, run_underlying hd, Result.andThen_ok, hb, run_sizeOf_tab hT hee, Sem.run_pure]
          simp [Addr.add]
      · exact h.elim
    · rename_i et hk
      split at h
      · rename_i hee
        obtain ⟨l, h1, hl⟩ := boundI_sound h
        obtain ⟨r, h2, hr⟩ := boundI_sound h1
        obtain ⟨⟨e1, e2⟩, hK⟩ := h2
        subst e1; subst e2
        refine ⟨_, hK, fun id' hid => by simpa [AV.has] using hid, fun φ R w u0 ulo uhi hx h1 h2 => ?_⟩
        simp only [RepV] at hx
        subst hx
        have hd := tk_slice hT he hk
        have hb := sliceBounds_run (P := P) (isS := true) (len := 0) (cap := 0) hl hr (Int.le_refl _) (Int.le_refl _) (Int.le_refl _) h1 h2
        refine ⟨_, rfl, ?_⟩
        simp only [Instr.sliceAt, Instr.slice, Sem.run_bind, run_underlying hd, Result.andThen_ok, hb, run_sizeOf_tab hT hee, Sem.run_pure]
        simp
      · exact h.elim
    · exact h.elim
  · exact h.elim

omit hT in
theorem sliceBounds_run3 {φ : Place} {R : Prot} {w : World} {isS : Bool} {len cap : Nat} {lo : Option AV} {l r m : Int} {k1 k2 : IntKind} {ulo : Option Value}
    (hl : (lo = none ∧ l = 0) ∨ ∃ k, lo = some (.int k l)) (h0 : 0 ≤ l) (h1 : l ≤ r) (h2 : r ≤ m) (h3 : m ≤ cap)
    (ul : OptRep φ R w lo ulo) : (Instr.sliceBounds isS len cap ulo (some (.int k1 r)) (some (.int k2 m))).run P w = .ok (l.toNat, r.toNat, m.toNat) w := by
  have key : ∀ (k : IntKind) (x : Int) (y : Nat) (code : BoundsCode), 0 ≤ x → x ≤ y → (Instr.sliceBound (.int k x) y code).run P w = .ok x.toNat w := by
    intro k x y code h0 h1
    simp only [Instr.sliceBound, asIntOf, Sem.run_bind, Sem.run_pure, Result.andThen_ok]
    rw [if_pos ⟨h0, h1⟩]
    rfl
  rcases hl with ⟨rfl, rfl⟩ | ⟨k', rfl⟩
  · simp only [OptRep] at ul
    subst ul
    simp only [Instr.sliceBounds, Sem.run_bind, Sem.run_pure, Result.andThen_ok]
    rw [key k2 m cap _ (by omega) h3]
    simp only [Result.andThen_ok, Sem.run_bind]
    rw [key k1 r m.toNat _ (by omega) (by omega)]
    simp
  · simp only [OptRep, RepV] at ul
    obtain ⟨_, rfl, rfl⟩ := ul
    simp only [Instr.sliceBounds, Sem.run_bind, Sem.run_pure, Result.andThen_ok]
    rw [key k2 m cap _ (by omega) h3]
    simp only [Result.andThen_ok, Sem.run_bind]
    rw [key k1 r m.toNat _ (by omega) (by omega)]
    simp only [Result.andThen_ok, Sem.run_bind]
    rw [key k' l r.toNat _ h0 (by omega)]
    simp

theorem slice3V_sound {t : TypeId} {x : AV} {lo : Option AV} {hi mx : AV} {K : AV → Prop} (h : slice3V T t x lo hi mx K) :
    ∃ v, K v ∧ (∀ id, v.has id = true → x.has id = true) ∧ ∀ φ R w u0 ulo uhi um, RepV φ R w x u0 → OptRep φ R w lo ulo → RepV φ R w hi uhi → RepV φ R w mx um →
      ∃ u, RepV φ R w v u ∧ (Instr.sliceAt t u0 ulo (some uhi) (some um)).run P w = .ok u w := by
  unfold slice3V at h
  split at h
  · rename_i e he
    split at h
    · rename_i et ty xs hk
      split at h
      · rename_i ee hee
        split at h
        · rename_i hsz
          have hsz := Nat.eq_of_beq_eq_true hsz
          obtain ⟨l, h, hl⟩ := boundI_sound h
          obtain ⟨r, h, hr⟩ := boundI_sound h
          obtain ⟨m, h, hm⟩ := boundI_sound h
          obtain ⟨⟨h0, hlr, hrm, hmn⟩, h⟩ := h
          refine ⟨_, h, by simp [AV.has], fun φ R w u0 ulo uhi um hx h1 h2 h3 => ?_⟩
          simp only [RepV, Rep] at hx
          obtain ⟨p, cap, hp, hcap, hx⟩ := hx
          simp only [List.cons.injEq, and_true] at hp
          subst hp
          have hd := tk_slice hT he hk
          rcases hr with ⟨hr, _⟩ | ⟨k1, hr⟩
          · simp at hr
          rcases hm with ⟨hm, _⟩ | ⟨k2, hm⟩
          · simp at hm
          simp only [Option.some.injEq] at hr hm
          subst hr; subst hm
          simp only [RepV] at h2 h3
          subst h2; subst h3
          have hb := sliceBounds_run3 (P := P) (isS := true) (len := xs.length) (cap := cap) (k1 := k1) (k2 := k2) hl h0 hlr hrm (by omega) h1
          have hrun : (Instr.sliceAt t (.slice p xs.length cap) ulo (some (.int k1 r)) (some (.int k2 m))).run P w =
              .ok (.slice (if m.toNat = l.toNat then p else p.map (·.add (l.toNat * ee.size))) (r.toNat - l.toNat) (m.toNat - l.toNat)) w := by
            simp only [Instr.sliceAt, Instr.slice, Sem.run_bind, run_underlying hd, Result.andThen_ok, hb, run_sizeOf_tab hT hee, Sem.run_pure]
          refine ⟨_, ?_, hrun⟩
          simp only [RepV, Rep]
          have hlen : ((xs.take r.toNat).drop l.toNat).length = r.toNat - l.toNat := by simp; omega
          refine ⟨_, _, by rw [hlen], by omega, ?_⟩
          rcases hx with ⟨rfl, rfl⟩ | ⟨b, o, rfl, hx⟩
          · left
            simp only [List.length_nil] at hmn
            exact ⟨by simp, by simp at *; omega⟩
          · right
            by_cases hcl : m.toNat = l.toNat
            · refine ⟨b, o, by rw [if_pos hcl], fun i hi => ?_⟩
              rw [hlen] at hi
              omega
            · refine ⟨b, o + l.toNat * ee.size, by rw [if_neg hcl]; simp [Addr.add_lit], fun i hi => ?_⟩
              rw [hlen] at hi
              obtain ⟨us, hul, hc, hrep⟩ := hx (l.toNat + i) (by omega)
              refine ⟨us, hul, ?_, ?_⟩
              · rw [hsz]
                rw [Nat.add_mul, ← Nat.add_assoc] at hc
                exact hc
              · simpa [List.getElem_drop, List.getElem_take] using hrep
        · exact h.elim
      · exact h.elim
    · exact h.elim
  · exact h.elim

theorem indexV_sound {t : TypeId} {x y : AV} {K : AV → Prop} (h : indexV T t x y K) :
    ∃ v, K v ∧ (∀ id, v.has id = true → x.has id = true) ∧ ∀ φ R w u0 u1, RepV φ R w x u0 → RepV φ R w y u1 → ∃ u, RepV φ R w v u ∧ (Instr.index t u0 u1).run P w = .ok u w := by
  unfold indexV at h
  split at h
  · rename_i k i
    split at h
    · rename_i e he
      split at h
      · rename_i s hk
        refine ⟨_, h.2, by simp [AV.has], fun φ R w u0 u1 hx hy => ?_⟩
        simp only [RepV] at hx hy
        subst hx; subst hy
        refine ⟨_, rfl, ?_⟩
        obtain ⟨h0, h1⟩ := h.1
        rw [run_index_string w t (bs s) k i (tk_str hT he hk)]
        have hi : 0 ≤ i ∧ i < (bs s).size := ⟨h0, by rw [bs_size]; omega⟩
        rw [dif_pos hi]
        have hlt : i.toNat < s.length := by omega
        congr 3
        rw [getD_eq s _ _ hlt]
        simp [bs]
        rfl
      · rename_i n et cs hk
        split at h
        · rename_i ee hee
          obtain ⟨v, hk', hn, hs⟩ := part_sound hT h.2
          refine ⟨v, hk', fun id hid => by simpa [AV.has] using hn id hid, fun φ R w u0 u1 hx hy => ?_⟩
          simp only [RepV] at hx hy
          obtain ⟨vs, rfl, hx⟩ := hx
          subst hy
          obtain ⟨u, hu, hr⟩ := hs φ R w vs hx
          refine ⟨u, hu, ?_⟩
          simp only [Instr.index, asIntOf, Sem.run_bind, Sem.run_pure, Result.andThen_ok, run_underlying (tk_arr hT he hk)]
          rw [if_pos h.1]
          simp only [Sem.run_bind, run_sizeOf_tab hT hee, Result.andThen_ok, hr]
        · exact h.elim
      · exact h.elim
    · exact h.elim
  · exact h.elim

theorem indexAddrV_sound {lk : Heap} {t : TypeId} {x y : AV} {K : AV → Prop} (h : indexAddrV T lk t x y K) :
    ∃ v, K v ∧ (∀ id, v.has id = true → x.has id = true) ∧ ∀ φ R w u0 u1, RepV φ R w x u0 → RepV φ R w y u1 → ∃ u, RepV φ R w v u ∧ (Instr.indexAt t u0 u1).run P w = .ok u w := by
  unfold indexAddrV at h
  split at h
  · rename_i k i
    split at h
    · rename_i e he
      split at h
      · rename_i et ty xs hk
        split at h
        · rename_i ee hee
          split at h
          · rename_i hsz
            have hsz := Nat.eq_of_beq_eq_true hsz
            obtain ⟨⟨h0, h1⟩, h⟩ := h
            refine ⟨_, h, fun id hid => by simp only [AV.has, hasAny_explode] at hid; simp at hid, fun φ R w u0 u1 hx hy => ?_⟩
            simp only [RepV, Rep] at hx hy
            obtain ⟨p, cap, hp, hcap, hx⟩ := hx
            simp only [List.cons.injEq, and_true] at hp
            subst hp; subst hy
            rcases hx with ⟨rfl, rfl⟩ | ⟨b, o, rfl, hx⟩
            · simp at h1; omega
            · have hlt : i.toNat < xs.length := by omega
              obtain ⟨us, hul, hc, hrep⟩ := hx i.toNat hlt
              refine ⟨.pointer (some ⟨b, o + i.toNat * ty.size, none⟩), ?_, ?_⟩
              · simp only [RepV]
                rw [getD_eq xs _ _ hlt]
                exact ⟨b, o + i.toNat * ty.size, us, rfl, hc, hrep.explode⟩
              · have hd := tk_slice hT he hk
                simp only [Instr.indexAt, asIntOf, Sem.run_bind, Sem.run_pure, Result.andThen_ok, run_underlying hd]
                rw [if_pos ⟨h0, by omega⟩]
                simp only [Sem.run_bind, run_sizeOf_tab hT hee, Result.andThen_ok, Sem.run_pure, Addr.add_lit, hsz]
          · exact h.elim
        · exact h.elim
      · rename_i et id n hk
        split at h
        · rename_i ee ty xs hee hlk
          split at h
          · rename_i hsz
            have hsz := Nat.eq_of_beq_eq_true hsz
            obtain ⟨⟨h0, h1⟩, h⟩ := h
            refine ⟨_, h, fun id hid => by simpa [AV.has] using hid, fun φ R w u0 u1 hx hy => ?_⟩
            simp only [RepV] at hx hy
            subst hy
            rcases hx with ⟨hφ, rfl, rfl⟩ | ⟨b, cap, hφ, hcap, rfl⟩
            · simp at h1; omega
            · refine ⟨.pointer (some ⟨b, i.toNat * ty.size + 0, none⟩), ?_, ?_⟩
              · simp only [RepV]
                exact ⟨b, cap, hφ, rfl⟩
              · have hd := tk_slice hT he hk
                simp only [Instr.indexAt, asIntOf, Sem.run_bind, Sem.run_pure, Result.andThen_ok, run_underlying hd]
                rw [if_pos ⟨h0, by omega⟩]
                simp only [Sem.run_bind, run_sizeOf_tab hT hee, Result.andThen_ok, Sem.run_pure, Addr.add_lit, hsz, Nat.zero_add, Nat.add_zero]
          · exact h.elim
        · exact h.elim
      · rename_i n et id off hk
        split at h
        · rename_i ee hee
          obtain ⟨⟨h0, h1⟩, h⟩ := h
          refine ⟨_, h, fun id hid => by simpa [AV.has] using hid, fun φ R w u0 u1 hx hy => ?_⟩
          simp only [RepV] at hx hy
          subst hy
          obtain ⟨b, cap, hφ, rfl⟩ := hx
          refine ⟨_, ⟨b, cap, hφ, rfl⟩, ?_⟩
          have hd := tk_arr hT he hk
          simp only [Instr.indexAt, asIntOf, Sem.run_bind, Sem.run_pure, Result.andThen_ok, run_underlying hd, Instr.sureAddr]
          rw [if_pos ⟨h0, by omega⟩]
          simp only [Sem.run_bind, run_sizeOf_tab hT hee, Result.andThen_ok, Sem.run_pure, Addr.add_lit]
        · exact h.elim
      · rename_i n et cs off hk
        split at h
        · rename_i ee hee
          obtain ⟨⟨h0, h1⟩, h⟩ := h
          refine ⟨_, h, fun id hid => by simpa [AV.has] using hid, fun φ R w u0 u1 hx hy => ?_⟩
          simp only [RepV] at hx hy
          subst hy
          obtain ⟨b, base, us, rfl, hx⟩ := hx
          refine ⟨.pointer (some ⟨b, base + (off + i.toNat * ee.size), none⟩), by simp only [RepV]; exact ⟨b, base, us, rfl, hx⟩, ?_⟩
          have hd := tk_arr hT he hk
          simp only [Instr.indexAt, asIntOf, Sem.run_bind, Sem.run_pure, Result.andThen_ok, run_underlying hd, Instr.sureAddr]
          rw [if_pos ⟨h0, by omega⟩]
          simp only [Sem.run_bind, run_sizeOf_tab hT hee, Result.andThen_ok, Sem.run_pure, Addr.add_lit, Nat.add_assoc]
        · exact h.elim
      · exact h.elim
    · exact h.elim
  · exact h.elim

theorem lenV_sound {t : TypeId} {x : AV} {K : AV → Prop} (h : lenV T t x K) :
    ∃ v, K v ∧ (∀ id, v.has id = false) ∧ ∀ φ R w u0 ty, RepV φ R w x u0 → ∃ u, RepV φ R w v u ∧ (Builtin.len_ #[t] ty #[u0]).run P w = .ok u w := by
  unfold lenV at h
  split at h
  · rename_i e he
    split at h
    · rename_i s hk
      refine ⟨_, h, by simp [AV.has], fun φ R w u0 ty hx => ?_⟩
      simp only [RepV] at hx; subst hx
      exact ⟨_, rfl, by rw [run_len_string w t ty _ (tk_str hT he hk), bs_size]; rfl⟩
    · rename_i _ xs hk
      have hd := tk_slice hT he hk
      refine ⟨_, h, by simp [AV.has], fun φ R w u0 ty hx => ?_⟩
      simp only [RepV, Rep] at hx
      obtain ⟨p, cap, hp, hcap, hx⟩ := hx
      simp only [List.cons.injEq, and_true] at hp
      subst hp
      exact ⟨_, rfl, by simp [Builtin.len_, run_underlying hd, goInt]⟩
    · rename_i hk
      have hd := tk_slice hT he hk
      refine ⟨_, h, by simp [AV.has], fun φ R w u0 ty hx => ?_⟩
      simp only [RepV] at hx
      rcases hx with ⟨_, rfl, rfl⟩ | ⟨b, cap, _, _, rfl⟩
      · exact ⟨_, rfl, by simp [Builtin.len_, run_underlying hd, goInt]⟩
      · exact ⟨_, rfl, by simp [Builtin.len_, run_underlying hd, goInt]⟩
    · rename_i hk
      have hd := tk_slice hT he hk
      refine ⟨_, h, by simp [AV.has], fun φ R w u0 ty hx => ?_⟩
      simp only [RepV] at hx; subst hx
      exact ⟨_, rfl, by simp [Builtin.len_, run_underlying hd, goInt]⟩
    · rename_i n _ _ hk
      have hd := tk_arr hT he hk
      refine ⟨_, h, by simp [AV.has], fun φ R w u0 ty hx => ?_⟩
      exact ⟨_, rfl, by cases u0 <;> simp [Builtin.len_, run_underlying hd, goInt]⟩
    · exact h.elim
  · exact h.elim
end
end Go.Fw
