import Derived.Shelf.Strings.Builder1
import Derived.Test.YtchiagnggnblaaaDoorGFw6
set_option linter.all false
/- strings.Builder: what its methods leave as it was, block by block (over any program that holds them: the kit's layings). -/
namespace Go.Fw
open Go.Shelf Go.RowKit Go.Proofs

/-- All blocks but b, a row and new ones stand as they stood. -/
structure Gr (w w' : World) (b : Nat) (row : Option Nat) : Prop where
  os : w'.os = w.os
  tape : w'.tape = w.tape
  output : w'.output = w.output
  size : w.heap.size ≤ w'.heap.size
  block : ∀ k, k < w.heap.size → k ≠ b → some k ≠ row → w'.heap[k]? = w.heap[k]?
theorem Gr.refl (w : World) (b : Nat) (row : Option Nat) : Gr w w b row := ⟨rfl, rfl, rfl, Nat.le_refl _, fun _ _ _ _ => rfl⟩
theorem Gr.trans {w w1 w2 : World} {b : Nat} {row row' : Option Nat} (h : Gr w w1 b row) (k : Gr w1 w2 b row') (hr : ∀ j, row' = some j → row = some j ∨ w.heap.size ≤ j) : Gr w w2 b row :=
  ⟨k.os.trans h.os, k.tape.trans h.tape, k.output.trans h.output, Nat.le_trans h.size k.size, fun j hj hb hn => by
    rw [k.block j (Nat.lt_of_lt_of_le hj h.size) hb (fun e => by
      rcases hr j e.symm with h1 | h1
      · exact hn h1.symm
      · omega), h.block j hj hb hn]⟩
theorem Gr.setCell (w : World) (b k : Nat) (u : Value) (row : Option Nat) : Gr w (w.setCell ⟨b, k, none⟩ u) b row :=
  ⟨rfl, rfl, rfl, by simp [World.setCell], fun j _ hb _ => by simp [World.setCell, Array.getElem?_modify, Ne.symm hb]⟩
theorem Gr.alloc (w : World) (b : Nat) (o : Obj) (row : Option Nat) : Gr w (w.alloc o) b row :=
  ⟨rfl, rfl, rfl, by simp, fun j hj _ _ => Lib.alloc_old w o j hj⟩
theorem Gr.drew (w : World) (b : Nat) (row : Option Nat) : Gr w w.drew b row := ⟨rfl, rfl, rfl, Nat.le_refl _, fun _ _ _ _ => rfl⟩
theorem Gr.grown {w w' : World} {b : Nat} {row : Option Nat} (h : w.grownBy w' row) : Gr w w' b row := ⟨h.os, h.tape, h.output, h.size, fun k hk _ hn => h.block k hk hn⟩

/-- A builder in the block b, with a buffer v that holds bs. -/
def BdAt (T e : TypeId) (b : Nat) (p : Value) (bs : List Value) (v : Value) (w : World) : Prop :=
  w.heap[b]? = some (.cells #[p, v] T (0, 0)) ∧ w.ownsRow 0 e 1 v bs.length bs ∧ v.ownBlock ≠ some b
abbrev selfP (b : Nat) : Value := .pointer (some ⟨b, 0, none⟩)
/-- The buffer's block is the old one or a new one. -/
def NewRow (w : World) (v v' : Value) : Prop := v'.ownBlock = v.ownBlock ∨ ∃ k, v'.ownBlock = some k ∧ w.heap.size ≤ k

theorem BdAt.is {T e : TypeId} {b : Nat} {p : Value} {bs : List Value} {v : Value} {w : World} (h : BdAt T e b p bs v w) : Lib.BuilderAt T e 0 b p bs w := ⟨Nat.zero_le _, v, h.1, h.2.1, h.2.2⟩
theorem BdAt.lt {T e : TypeId} {b : Nat} {p : Value} {bs : List Value} {v : Value} {w : World} (h : BdAt T e b p bs v w) : b < w.heap.size := (Array.getElem?_eq_some_iff.1 h.1).1

variable {P : Program} {ρ : Ren}
theorem bd_copyCheck (L : Lays.n240 P ρ) (X : Builder.X72 P ρ) (b : Nat) (p : Value) (bs : List Value) (v : Value) (w : World) (hp : p = .pointer none ∨ p = selfP b) (h : BdAt (ρ.t 72) (ρ.t 5) b p bs v w) :
    Calls P (ρ.f 240) #[selfP b] w fun e w' => e = .returned (.tuple #[]) ∧ BdAt (ρ.t 72) (ρ.t 5) b (selfP b) bs v w' ∧ Gr w w' b none := by
  rcases hp with rfl | rfl
  · refine (Any.Builder_copyCheck_fresh L X b w h.is.cell0 h.is.shape h.is.frozen0).mono ?_
    rintro e w' ⟨rfl, rfl⟩
    refine ⟨rfl, ⟨?_, ?_, h.2.2⟩, Gr.setCell _ _ _ _ _⟩
    · simp [World.setCell, Array.getElem?_modify, h.1]
    · exact h.2.1.kept (row := some b) ⟨rfl, rfl, rfl, by simp [World.setCell], fun k _ hk => Below.heap_setCell _ _ _ _ (fun e => hk (by simp [e]))⟩ (Or.inr h.2.2)
  · refine (Any.Builder_copyCheck_used L X b w h.is.cell0).mono ?_
    rintro e w' ⟨rfl, rfl⟩
    exact ⟨rfl, h, Gr.refl _ _ _⟩

/-! ### append, with the place of the new row -/
theorem newRow_own {w w' : World} {base : Nat} (t ty e : TypeId) (i : TypeInfo) (z : Value) (size bytes : Nat) (ht : P.underlying t = some (.slice e)) (hi : P.info? e = some i) (hz : i.zero = some z)
    (hsize : i.size = size) (hby : i.bytes = bytes)
    (v v' : Value) (n : Nat) (xs : List Value) (hown : w.ownsRow base e size v n xs)
    (a : Addr) (m c : Nat) (news : List Value) (hl : news.length = m * size) (hnews : ∀ j u, news[j]? = some u → w.cell? (a.add j) = some u) (h1 : ∀ u ∈ news, u.oneCell' = true) (hm : 0 < m)
    (h63 : n + m ≤ maxLen) (hbytes : (n + m) * bytes ≤ 140737488355328) (hr : (Builtin.append_ #[t, t] ty #[v, .slice (some a) m c]).run P w = .ok v' w') : NewRow w v v' := by
  subst hsize
  subst hby
  have hsmall : n + m ≤ 9223372036854775807 := by simp only [maxLen] at h63; omega
  rcases hown.2 with ⟨rfl, rfl⟩ | ⟨g, cap, cur, rfl, hbg, hg, hnc, hcm, hcs, htake⟩
  · have hr2 := run_append_nil (P := P) w t ty e i z ht hi hz a m c news hl hnews (by omega) (by omega) (by have hb := hbytes; simp only [Nat.zero_add] at hb; omega)
    have := hr.symm.trans hr2
    simp only [Result.ok.injEq] at this
    rw [this.1]
    exact .inr ⟨_, rfl, Nat.le_refl _⟩
  · by_cases hroom : n + m ≤ cap
    · have hfit : n * i.size + news.length ≤ cur.size := by rw [hl, hcs, ← Nat.add_mul]; exact Nat.mul_le_mul_right _ hroom
      have hr2 := run_append_room (P := P) w t ty e i ht hi g n cap cur hg a m c news hl hnews h1 hroom hfit
      have := hr.symm.trans hr2
      simp only [Result.ok.injEq] at this
      rw [this.1]
      exact .inl rfl
    · have holds : ∀ j u, xs[j]? = some u → w.cell? ((⟨g, 0, none⟩ : Addr).add j) = some u := hown.cells (g := g) rfl
      have hr2 := run_append_grow (P := P) w t ty e i z ht hi hz ⟨g, 0, none⟩ n cap xs hown.1 holds a m c news hl hnews (by omega) (by omega) (growslice_fits (by omega) hbytes)
      have := hr.symm.trans hr2
      simp only [Result.ok.injEq] at this
      rw [this.1]
      exact .inr ⟨_, rfl, Nat.le_refl _⟩
theorem newRow_string {w w' : World} {base : Nat} (t u ty e : TypeId) (i : TypeInfo) (ht : P.underlying t = some (.slice e)) (hu : P.underlying u = some .string) (hi : P.info? e = some i) (hz : i.zero = some (.int .u8 0))
    (hsize : i.size = 1) (hby : i.bytes = 1)
    (v v' : Value) (n : Nat) (xs : List Value) (hown : w.ownsRow base e 1 v n xs) (s : ByteArray)
    (h63 : n + s.size ≤ maxLen) (hbytes : n + s.size ≤ 140737488355328) (hr : (Builtin.append_ #[t, u] ty #[v, .string s]).run P w = .ok v' w') : NewRow w v v' := by
  have hsmall : n + s.size ≤ 9223372036854775807 := by simp only [maxLen] at h63; omega
  have hxl : xs.length = n := by simpa using hown.1
  rcases hown.2 with ⟨rfl, rfl⟩ | ⟨g, cap, cur, rfl, hbg, hg, hnc, hcm, hcs, htake⟩
  · by_cases hm : s.size = 0
    · obtain ⟨v2, w2, hr2, _, _, h4⟩ := Lib.run_append_own_string (P := P) w 0 t u ty e i ht hu hi hz hsize hby (.slice none 0 0) 0 [] (World.ownsRow_nil w 0 e 1) s h63 hbytes (Nat.zero_le _)
      have := hr.symm.trans hr2
      simp only [Result.ok.injEq] at this
      rw [this.1, h4.2 ⟨rfl, hm⟩]
      exact .inl rfl
    · have hr2 := run_append_nil_string (P := P) w t u ty e i (.int .u8 0) ht hu hi hz s (by omega) (by omega) (by rw [hby]; omega)
      have := hr.symm.trans hr2
      simp only [Result.ok.injEq] at this
      rw [this.1]
      exact .inr ⟨_, rfl, Nat.le_refl _⟩
  · by_cases hroom : n + s.size ≤ cap
    · have hcs' : cur.size = cap := by simpa using hcs
      have hr2 := Lib.run_append_room_string (P := P) w t u ty e i ht hu hi hsize g n cap cur hg s hroom (by omega)
      have := hr.symm.trans hr2
      simp only [Result.ok.injEq] at this
      rw [this.1]
      exact .inl rfl
    · have holds : ∀ j u, xs[j]? = some u → w.cell? ((⟨g, 0, none⟩ : Addr).add j) = some u := hown.cells (g := g) rfl
      have hr2 := Lib.run_append_grow_string (P := P) w t u ty e i (.int .u8 0) ht hu hi hz ⟨g, 0, none⟩ n cap xs (by rw [hsize]; simpa using hxl) holds s (by omega) (by omega) (by rw [hby]; exact growslice_fits (by omega) (by omega))
      have := hr.symm.trans hr2
      simp only [Result.ok.injEq] at this
      rw [this.1]
      exact .inr ⟨_, rfl, Nat.le_refl _⟩
theorem wpList_append_new {ops : Array Oper} {rest : List Oper} {o : Oper} {a : Act} {w : World} {Q : Exit → Act → World → Prop} (hgd : o.guard = none) (s x : Operand) (t : TypeId)
    (ho : o.op = .call { callee := .builtin .append, args := #[s, x], argTypes := #[t, t] })
    (e : TypeId) (i : TypeInfo) (z : Value) (size bytes : Nat) (ht : P.underlying t = some (.slice e)) (hi : P.info? e = some i) (hz : i.zero = some z)
    (hsize : i.size = size) (hby : i.bytes = bytes) (hzs : z.cells.size = size) (hsz : 0 < size)
    (v : Value) (n : Nat) (xs : List Value) (hs : a.eval s = v) (hown : w.ownsRow 0 e size v n xs)
    (ad : Addr) (m c : Nat) (news : List Value) (hx : a.eval x = .slice (some ad) m c) (hl : news.length = m * size) (hnews : ∀ j u, news[j]? = some u → w.cell? (ad.add j) = some u) (h1 : ∀ u ∈ news, u.oneCell' = true)
    (hm : 0 < m) (h63 : n + m ≤ maxLen) (hbytes : (n + m) * bytes ≤ 140737488355328)
    (h : ∀ v' w', w'.ownsRow 0 e size v' (n + m) (xs ++ news) → w.grownBy w' v.ownBlock → NewRow w v v' → wpList P ops Q rest (a.put o.dst v') w') : wpList P ops Q (o :: rest) a w := by
  refine wpList_plain hgd fun K hK => ?_
  obtain ⟨v', w', hr, h2, h3, _⟩ := run_append_own (P := P) w 0 t o.type e i z size bytes ht hi hz hsize hby hzs hsz v n xs hown ad m c news hl hnews h1 h63 hbytes (Nat.zero_le _)
  have h5 := newRow_own (P := P) t o.type e i z size bytes ht hi hz hsize hby v v' n xs hown ad m c news hl hnews h1 hm h63 hbytes hr
  unfold Oper.wp execOp
  simp only [ho, resolve, invoke, builtin, Sem.run_bind, Sem.run_pure, Result.andThen_ok, List.map_toArray, List.map_cons, List.map_nil, hs, hx, hr]
  exact hK _ _ (h v' w' h2 h3 h5)
theorem wpList_append_newS {ops : Array Oper} {rest : List Oper} {o : Oper} {a : Act} {w : World} {Q : Exit → Act → World → Prop} (hgd : o.guard = none) (sl x : Operand) (t u : TypeId)
    (ho : o.op = .call { callee := .builtin .append, args := #[sl, x], argTypes := #[t, u] })
    (e : TypeId) (i : TypeInfo) (ht : P.underlying t = some (.slice e)) (hu : P.underlying u = some .string) (hi : P.info? e = some i) (hz : i.zero = some (.int .u8 0))
    (hsize : i.size = 1) (hby : i.bytes = 1)
    (v : Value) (n : Nat) (xs : List Value) (hs : a.eval sl = v) (hown : w.ownsRow 0 e 1 v n xs) (s : ByteArray) (hx : a.eval x = .string s)
    (h63 : n + s.size ≤ maxLen) (hbytes : n + s.size ≤ 140737488355328)
    (h : ∀ v' w', w'.ownsRow 0 e 1 v' (n + s.size) (xs ++ Lib.strCells s) → w.grownBy w' v.ownBlock → NewRow w v v' → wpList P ops Q rest (a.put o.dst v') w') : wpList P ops Q (o :: rest) a w := by
  refine wpList_plain hgd fun K hK => ?_
  obtain ⟨v', w', hr, h2, h3, _⟩ := Lib.run_append_own_string (P := P) w 0 t u o.type e i ht hu hi hz hsize hby v n xs hown s h63 hbytes (Nat.zero_le _)
  have h5 := newRow_string (P := P) t u o.type e i ht hu hi hz hsize hby v v' n xs hown s h63 hbytes hr
  unfold Oper.wp execOp
  simp only [ho, resolve, invoke, builtin, Sem.run_bind, Sem.run_pure, Result.andThen_ok, List.map_toArray, List.map_cons, List.map_nil, hs, hx, hr]
  exact hK _ _ (h v' w' h2 h3 h5)

theorem BdAt.put {T e : TypeId} {b : Nat} {p v v' : Value} {bs' : List Value} {w : World} (hb : w.heap[b]? = some (.cells #[p, v] T (0, 0))) (hown : w.ownsRow 0 e 1 v' bs'.length bs') (hTe : T ≠ e) :
    BdAt T e b p bs' v' (w.setCell ⟨b, 1, none⟩ v') := by
  have hne := Lib.ownBlock_ne hown hb hTe
  refine ⟨?_, ?_, hne⟩
  · simp [World.setCell, Array.getElem?_modify, hb]
  · exact hown.kept (row := some b) ⟨rfl, rfl, rfl, by simp [World.setCell], fun k _ hk => Below.heap_setCell _ _ _ _ (fun e => hk (by simp [e]))⟩ (Or.inr hne)

set_option maxHeartbeats 2000000 in
set_option maxRecDepth 100000 in
theorem bd_WriteByte (L : Lays.n167 P ρ) (X : Builder.Extra P ρ) (b : Nat) (p : Value) (bs : List Value) (v0 : Value) (c : Int) (w : World) (hp : p = .pointer none ∨ p = selfP b) (h : BdAt (ρ.t 72) (ρ.t 5) b p bs v0 w) (hlen : bs.length + 1 ≤ 140737488355328) :
    Calls P (ρ.f 167) #[selfP b, .int .u8 c] w fun e w' => e = .returned .nilIface ∧ ∃ v', BdAt (ρ.t 72) (ρ.t 5) b (selfP b) (bs ++ [.int .u8 c]) v' w' ∧ Gr w w' b v0.ownBlock ∧ NewRow w v0 v' := by
  obtain ⟨i0, hi, hz0, hz1, hz2⟩ := info_parts X.infoByte
  have mixed := L.mixed
  have t72 := L.t72; have a72 := L.a72; have z72 := L.z72; have v72 := L.v72; have u72 := run_underlying L.t72
  have t70 := L.t70; have a70 := L.a70; have z70 := L.z70; have v70 := L.v70; have u70 := run_underlying L.t70
  have t5 := L.t5; have a5 := L.a5; have z5 := L.z5; have v5 := L.v5; have u5 := run_underlying L.t5
  have t37 := L.t37; have a37 := L.a37; have z37 := L.z37; have v37 := L.v37; have u37 := run_underlying L.t37
  have t9 := L.t9; have a9 := L.a9; have z9 := L.z9; have v9 := L.v9; have u9 := run_underlying L.t9
  have t4 := L.t4; have a4 := L.a4; have z4 := L.z4; have v4 := L.v4; have u4 := run_underlying L.t4
  have t164 := L.t164; have a164 := L.a164; have z164 := L.z164; have v164 := L.v164; have u164 := run_underlying L.t164
  have e240 : ∀ args w, (callFunc (ρ.f 240) args).run P w = .ok (.enter (ρ.f 240) args) w := enters_of L.f240 (by kernel_rfl) rfl
  go_enter L.f167, Body.n167_ntmps ρ
  go_wp2_with (go_at_fn (ρ.f 240); refine (bd_copyCheck { L with } X.toX72 b p bs v0 _ hp h).mono ?_)
  rintro e w1 ⟨rfl, h1, hb1⟩
  obtain ⟨hbk, hown, hne⟩ := h1
  have c0 : w1.cell? ⟨b, 0, none⟩ = some (.pointer (some ⟨b, 0, none⟩)) := by rw [Lib.cell_of_heap hbk]; rfl
  have c1 : w1.cell? ⟨b, 1, none⟩ = some v0 := by rw [Lib.cell_of_heap hbk]; rfl
  go_wp2_with (at_builtin; refine wpList_append_new rfl _ _ (ρ.t 37) rfl (ρ.t 5) i0 (.int .u8 0) 1 1 L.t37 hi hz0 hz1 hz2 rfl (by decide) _ _ _ rfl (hown.alloc _) ⟨w1.heap.size, 0, none⟩ 1 1 [.int .u8 c] rfl rfl ?c1 ?c2 (by decide) ?c3 ?c4 ?_)
  case c1 =>
    intro j u hj
    match j, hj with
    | 0, hj => simp at hj; subst hj; simp [Addr.add]
  case c2 => intro u hu; simp at hu; subst hu; rfl
  case c3 => unfold maxLen; omega
  case c4 => omega
  intro v' w2 hown' hgrow hnew
  have hlt : b < w1.heap.size := (Array.getElem?_eq_some_iff.1 hbk).1
  have hb2 : w2.heap[b]? = some (.cells #[.pointer (some ⟨b, 0, none⟩), v0] (ρ.t 72) (0, 0)) := by
    rw [hgrow.block b (by simp; omega) (fun e => hne e.symm), Lib.alloc_old w1 _ b hlt]
    exact hbk
  have d0 : w2.cell? ⟨b, 0, none⟩ = some (.pointer (some ⟨b, 0, none⟩)) := by rw [Lib.cell_of_heap hb2]; rfl
  have d1 : w2.cell? ⟨b, 1, none⟩ = some v0 := by rw [Lib.cell_of_heap hb2]; rfl
  have f1 : w2.frozen? ⟨b, 1, none⟩ = false := Lib.frozen_of_heap hb2 1
  obtain ⟨g, cap, rfl⟩ : ∃ g cap, v' = .slice (some ⟨g, 0, none⟩) (bs.length + 1) cap := by
    rcases hown'.2 with ⟨_, h0⟩ | ⟨g, cap, cur, hv, _⟩
    · omega
    · exact ⟨g, cap, hv⟩
  go_wp2
  go_ret
  have hsz := hb1.size
  refine ⟨rfl, _, BdAt.put (T := (ρ.t 72)) (e := (ρ.t 5)) hb2 (bs' := bs ++ [.int .u8 c]) (by simpa using hown') X.neB5, ?_, ?_⟩
  · refine Gr.trans (row' := v0.ownBlock) ?_ ((Gr.alloc w1 b _ _).trans ((Gr.grown hgrow).trans (Gr.setCell _ _ _ _ v0.ownBlock) (fun j hj => .inl hj)) (fun j hj => .inl hj)) (fun j hj => .inl hj)
    exact ⟨hb1.os, hb1.tape, hb1.output, hb1.size, fun k hk h1 _ => hb1.block k hk h1 (by simp)⟩
  · rcases hnew with h9 | ⟨k, h9, hk⟩
    · exact .inl h9
    · refine .inr ⟨k, h9, ?_⟩
      have e1 : (w1.alloc (.cells #[.int .u8 c] (ρ.t 5))).heap.size = w1.heap.size + 1 := by simp
      simp at hk
      omega

set_option maxHeartbeats 2000000 in
set_option maxRecDepth 100000 in
theorem bd_WriteString (L : Lays.n166 P ρ) (X : Builder.Extra P ρ) (b : Nat) (p : Value) (bs : List Value) (v0 : Value) (s : ByteArray) (w : World) (hp : p = .pointer none ∨ p = selfP b) (h : BdAt (ρ.t 72) (ρ.t 5) b p bs v0 w) (hlen : bs.length + s.size ≤ 140737488355328) :
    Calls P (ρ.f 166) #[selfP b, .string s] w fun e w' => e = .returned (.tuple #[.int .i64 s.size, .nilIface]) ∧ ∃ v', BdAt (ρ.t 72) (ρ.t 5) b (selfP b) (bs ++ Lib.strCells s) v' w' ∧ Gr w w' b v0.ownBlock ∧ NewRow w v0 v' := by
  obtain ⟨i0, hi, hz0, hz1, hz2⟩ := info_parts X.infoByte
  have mixed := L.mixed
  have t72 := L.t72; have a72 := L.a72; have z72 := L.z72; have v72 := L.v72; have u72 := run_underlying L.t72
  have t70 := L.t70; have a70 := L.a70; have z70 := L.z70; have v70 := L.v70; have u70 := run_underlying L.t70
  have t37 := L.t37; have a37 := L.a37; have z37 := L.z37; have v37 := L.v37; have u37 := run_underlying L.t37
  have t3 := L.t3; have a3 := L.a3; have z3 := L.z3; have v3 := L.v3; have u3 := run_underlying L.t3
  have t9 := L.t9; have a9 := L.a9; have z9 := L.z9; have v9 := L.v9; have u9 := run_underlying L.t9
  have t4 := L.t4; have a4 := L.a4; have z4 := L.z4; have v4 := L.v4; have u4 := run_underlying L.t4
  have t164 := L.t164; have a164 := L.a164; have z164 := L.z164; have v164 := L.v164; have u164 := run_underlying L.t164
  have t5 := X.t5; have a5 := X.a5; have z5 := X.z5; have v5 := X.v5; have u5 := run_underlying X.t5
  have e240 : ∀ args w, (callFunc (ρ.f 240) args).run P w = .ok (.enter (ρ.f 240) args) w := enters_of L.f240 (by kernel_rfl) rfl
  go_enter L.f166, Body.n166_ntmps ρ
  go_wp2_with (go_at_fn (ρ.f 240); refine (bd_copyCheck { L with } X.toX72 b p bs v0 _ hp h).mono ?_)
  rintro e w1 ⟨rfl, h1, hb1⟩
  obtain ⟨hbk, hown, hne⟩ := h1
  have c0 : w1.cell? ⟨b, 0, none⟩ = some (.pointer (some ⟨b, 0, none⟩)) := by rw [Lib.cell_of_heap hbk]; rfl
  have c1 : w1.cell? ⟨b, 1, none⟩ = some v0 := by rw [Lib.cell_of_heap hbk]; rfl
  go_wp2_with (at_builtin; refine wpList_append_newS rfl _ _ (ρ.t 37) (ρ.t 9) rfl (ρ.t 5) i0 L.t37 L.t9 hi hz0 hz1 hz2 _ _ _ rfl hown s rfl ?c3 ?c4 ?_)
  case c3 => unfold maxLen; omega
  case c4 => omega
  intro v' w2 hown' hgrow hnew
  have hlt : b < w1.heap.size := (Array.getElem?_eq_some_iff.1 hbk).1
  have hb2 : w2.heap[b]? = some (.cells #[.pointer (some ⟨b, 0, none⟩), v0] (ρ.t 72) (0, 0)) := by
    rw [hgrow.block b hlt (fun e => hne e.symm)]
    exact hbk
  have d0 : w2.cell? ⟨b, 0, none⟩ = some (.pointer (some ⟨b, 0, none⟩)) := by rw [Lib.cell_of_heap hb2]; rfl
  have d1 : w2.cell? ⟨b, 1, none⟩ = some v0 := by rw [Lib.cell_of_heap hb2]; rfl
  have f1 : w2.frozen? ⟨b, 1, none⟩ = false := Lib.frozen_of_heap hb2 1
  obtain ⟨ao, n', cap, rfl⟩ : ∃ ao n' cap, v' = .slice ao n' cap := by
    rcases hown'.2 with ⟨hv, _⟩ | ⟨g, cap, cur, hv, _⟩
    · exact ⟨_, _, _, hv⟩
    · exact ⟨_, _, _, hv⟩
  go_wp2
  go_ret2
  have hsz := hb1.size
  refine ⟨rfl, _, BdAt.put (T := (ρ.t 72)) (e := (ρ.t 5)) hb2 (bs' := bs ++ Lib.strCells s) (by simpa [Lib.strCells_length] using hown') X.neB5, ?_, ?_⟩
  · refine Gr.trans (row' := v0.ownBlock) ?_ ((Gr.grown hgrow).trans (Gr.setCell _ _ _ _ v0.ownBlock) (fun j hj => .inl hj)) (fun j hj => .inl hj)
    exact ⟨hb1.os, hb1.tape, hb1.output, hb1.size, fun k hk h1 _ => hb1.block k hk h1 (by simp)⟩
  · rcases hnew with h9 | ⟨k, h9, hk⟩
    · exact .inl h9
    · exact .inr ⟨k, h9, by omega⟩

theorem Gr.below {w w' : World} {b : Nat} {row : Option Nat} (h : Below w.heap.size w w') : Gr w w' b row := ⟨h.os, h.tape, h.output, h.size, fun k hk _ _ => h.block k hk⟩
theorem Gr.freeze (w : World) (b g n : Nat) : Gr w (w.freeze ⟨g, 0, none⟩ n) b (some g) := by
  unfold World.freeze
  split
  · exact Gr.refl _ _ _
  · exact ⟨rfl, rfl, rfl, by simp, fun k hk _ hn => by
      simp only [Array.getElem?_modify]
      rw [if_neg (fun e => hn (by simp [e]))]⟩

set_option maxHeartbeats 1000000 in
set_option maxRecDepth 100000 in
theorem bd_String1 (L : Lays.n169 P ρ) (X : Builder.Extra P ρ) (b : Nat) (p : Value) (l : List UInt8) (v : Value) (w : World) (h : BdAt (ρ.t 72) (ρ.t 5) b p (Lib.byteCells l) v w) (h0 : l ≠ []) :
    Calls P (ρ.f 169) #[selfP b] w fun e w' => e = .returned (.string ⟨l.toArray⟩) ∧ Gr w w' b v.ownBlock := by
  obtain ⟨hbk, hown, hne⟩ := h
  have hl0 : l.length ≠ 0 := by simpa using h0
  rw [Lib.byteCells_length] at hown
  obtain ⟨g, cap, cur, rfl, hbg, hg, hnc, hcm, hcs, htake⟩ : ∃ g cap cur, v = .slice (some ⟨g, 0, none⟩) l.length cap ∧ 0 ≤ g ∧ w.heap[g]? = some (.cells cur (ρ.t 5) (0, 0)) ∧ l.length ≤ cap ∧ cap ≤ maxLen ∧ cur.size = cap * 1 ∧ cur.toList.take (l.length * 1) = Lib.byteCells l := by
    rcases hown.2 with ⟨_, hz⟩ | ⟨g, cap, cur, hv, r⟩
    · exact absurd hz hl0
    · exact ⟨g, cap, cur, hv, r⟩
  have c1 : w.drew.cell? ⟨b, 1, none⟩ = some (.slice (some ⟨g, 0, none⟩) l.length cap) := by
    have : w.drew.heap[b]? = some (.cells #[p, .slice (some ⟨g, 0, none⟩) l.length cap] (ρ.t 72) (0, 0)) := hbk
    rw [Lib.cell_of_heap this]; rfl
  have hSD : (Builtin.unsafeSliceData_ #[(ρ.t 37)] (ρ.t 127) #[.slice (some ⟨g, 0, none⟩) l.length cap]).run P w.drew = .ok (.pointer (some ⟨g, 0, none⟩)) w.drew :=
    Lib.run_unsafeSliceData_row _ _ _ _ _ _ (by omega)
  have hUS : (Builtin.unsafeString_ #[(ρ.t 127), (ρ.t 3)] (ρ.t 9) #[.pointer (some ⟨g, 0, none⟩), .int .i64 l.length]).run P w.drew = .ok (.string ⟨l.toArray⟩) (w.drew.freeze ⟨g, 0, none⟩ l.length) := by
    refine Lib.run_unsafeString_row w.drew (ρ.t 127) (ρ.t 3) (ρ.t 9) (ρ.t 5) L.t127 X.cellsByte g cur.size (by have hg' : w.drew.heap[g]? = some (.cells cur (ρ.t 5) (0, 0)) := hg; simp [World.shape?, hg']) l h0 (by omega) (by unfold maxLen at hcm; omega) ?_
    intro j x hx
    have := hown.cells (g := g) rfl j (.int .u8 x.toNat) (by simp [Lib.byteCells, hx])
    exact this
  have mixed := L.mixed
  have t72 := L.t72; have a72 := L.a72; have z72 := L.z72; have v72 := L.v72; have u72 := run_underlying L.t72
  have t70 := L.t70; have a70 := L.a70; have z70 := L.z70; have v70 := L.v70; have u70 := run_underlying L.t70
  have t37 := L.t37; have a37 := L.a37; have z37 := L.z37; have v37 := L.v37; have u37 := run_underlying L.t37
  have t127 := L.t127; have a127 := L.a127; have z127 := L.z127; have v127 := L.v127; have u127 := run_underlying L.t127
  have t3 := L.t3; have a3 := L.a3; have z3 := L.z3; have v3 := L.v3; have u3 := run_underlying L.t3
  have t9 := L.t9; have a9 := L.a9; have z9 := L.z9; have v9 := L.v9; have u9 := run_underlying L.t9
  have t5 := X.t5; have a5 := X.a5; have z5 := X.z5; have v5 := X.v5; have u5 := run_underlying X.t5
  go_enter L.f169, Body.n169_ntmps ρ
  go_wp2
  go_region_o
  all_goals (go_wp2; go_ret; exact ⟨rfl, (Gr.drew w b _).trans (Gr.freeze w.drew b g _) (fun j hj => .inl hj)⟩)

theorem bd_String (L : Lays.n169 P ρ) (X : Builder.Extra P ρ) (b : Nat) (p : Value) (l : List UInt8) (v : Value) (w : World) (h : BdAt (ρ.t 72) (ρ.t 5) b p (Lib.byteCells l) v w) :
    Calls P (ρ.f 169) #[selfP b] w fun e w' => e = .returned (.string ⟨l.toArray⟩) ∧ Gr w w' b v.ownBlock := by
  cases l with
  | cons x r => exact bd_String1 L X b p (x :: r) v w h (by simp)
  | nil =>
    obtain ⟨hbk, hown, hne⟩ := h
    rcases hown.2 with ⟨rfl, _⟩ | ⟨g, cap, cur, rfl, hbg, hg, _, _, _, _⟩
    · refine (Any.Builder_String_nil L X w.heap.size b p w hbk).mono ?_
      rintro e w' ⟨rfl, h⟩
      exact ⟨rfl, Gr.below h⟩
    · by_cases hc0 : cap = 0
      · subst hc0
        refine (Any.Builder_String_noroom L X w.heap.size b g p cur w (Nat.le_refl _) hbk hg).mono ?_
        rintro e w' ⟨rfl, h⟩
        exact ⟨rfl, Gr.below h⟩
      · refine (Any.Builder_String_room L X w.heap.size b g cap p w hc0 hbk).mono ?_
        rintro e w' ⟨rfl, h⟩
        exact ⟨rfl, Gr.below h⟩
end Go.Fw

/- The framework, part 23: strings.Builder as two chunks; contracts off the kit's shelf. -/
namespace Go.Fw
open Go.Shelf Go.RowKit Go.Proofs
variable {P : Program}

/-- A builder's row of bytes. -/
def rowX (e : TypeId) (s : List UInt8) : XCh where
  ids := []
  fixed := false
  nil := s = []
  rel _ _ _ _ o cap := ∃ cur : Array Value, o = .cells cur e (0, 0) ∧ s.length ≤ cap ∧ cap ≤ maxLen ∧ cur.size = cap ∧ cur.toList.take s.length = Lib.byteCells s
  mono _ _ _ h := h
/-- A builder: its row is the chunk j, of which it has taken n bytes. -/
def bldX (T : TypeId) (j n : Nat) : XCh where
  ids := [j]
  fixed := true
  nil := False
  rel φ _ _ b o _ := ∃ p v, o = .cells #[p, v] T (0, 0) ∧ (p = .pointer none ∨ p = selfP b) ∧ ((n = 0 ∧ v = .slice none 0 0) ∨ ∃ g c, φ j = some (g, c) ∧ n ≤ c ∧ v = .slice (some ⟨g, 0, none⟩) n c)
  mono _ _ hφ h := by
    obtain ⟨p, v, h1, h2, h3⟩ := h
    exact ⟨p, v, h1, h2, by rw [hφ j (by simp)]; exact h3⟩

abbrev bldH (T e : TypeId) (i j : Nat) (s : List UInt8) : List (Nat × Chunk) := [(i, .ext (bldX T j s.length)), (j, .ext (rowX e s))]

theorem bldH_get {T e : TypeId} {i j : Nat} {s : List UInt8} (hij : i ≠ j) {k : Nat} {c : Chunk} (h : lookup k (bldH T e i j s) = some c) : (k = i ∧ c = .ext (bldX T j s.length)) ∨ (k = j ∧ c = .ext (rowX e s)) := by
  simp only [lookup_cons] at h
  split at h
  · rename_i e; simp only [Option.some.injEq] at h; exact .inl ⟨e.symm, h.symm⟩
  · split at h
    · rename_i e; simp only [Option.some.injEq] at h; exact .inr ⟨e.symm, h.symm⟩
    · simp [lookup] at h

theorem bld_open {φ : Place} {R : Prot} {w : World} {T e : TypeId} {i j : Nat} {s : List UInt8} (hij : i ≠ j) (hh : HRel φ R w (fun k => lookup k (bldH T e i j s))) :
    ∃ b cap p v, φ i = some (b, cap) ∧ (p = .pointer none ∨ p = selfP b) ∧ BdAt T e b p (Lib.byteCells s) v w ∧ (∀ o, ¬ R b o) ∧ (∀ g, v.ownBlock = some g → (∃ c, φ j = some (g, c)) ∧ ∀ o, ¬ R g o) := by
  have hi := hh.rel i (.ext (bldX T j s.length)) (by simp [lookup_cons])
  have hj := hh.rel j (.ext (rowX e s)) (by simp [lookup_cons, hij])
  rcases hi with ⟨_, h0⟩ | ⟨b, cap, o, h1, h2, ⟨p, v, rfl, hp, hv⟩, h4⟩
  · exact h0.elim
  refine ⟨b, cap, p, v, h1, hp, ?_, h4, ?_⟩
  · rcases hv with ⟨hn, rfl⟩ | ⟨g, c, hg, hc, rfl⟩
    · have hs : s = [] := List.eq_nil_of_length_eq_zero hn
      subst hs
      exact ⟨h2, ⟨by simp [Lib.byteCells], .inl ⟨rfl, by simp [Lib.byteCells]⟩⟩, by simp [Value.ownBlock]⟩
    · rcases hj with ⟨h5, _⟩ | ⟨g', cap', o', h5, h6, ⟨cur, rfl, q1, q2, q3, q4⟩, h7⟩
      · rw [hg] at h5; simp at h5
      · rw [hg] at h5
        simp only [Option.some.injEq, Prod.mk.injEq] at h5
        obtain ⟨rfl, rfl⟩ := h5
        refine ⟨h2, ⟨by simp, .inr ⟨g, c, cur, by rw [Lib.byteCells_length], Nat.zero_le _, h6, by rw [Lib.byteCells_length]; exact q1, q2, by simpa using q3, by simpa [Lib.byteCells_length] using q4⟩⟩, ?_⟩
        simp only [Value.ownBlock]
        intro hgb
        simp only [Option.some.injEq] at hgb
        subst hgb
        exact hij (hh.inj i j (.ext (bldX T j s.length)) (.ext (rowX e s)) g cap c (by simp only [lookup_cons, if_pos]) (by simp only [lookup_cons, if_neg hij, if_pos]) h1 hg)
  · intro g hg
    rcases hv with ⟨hn, rfl⟩ | ⟨g', c, hg', hc, rfl⟩
    · simp [Value.ownBlock] at hg
    · simp only [Value.ownBlock, Option.some.injEq] at hg
      subst hg
      refine ⟨⟨c, hg'⟩, ?_⟩
      rcases hj with ⟨h5, _⟩ | ⟨g2, cap', o', h5, h6, _, h7⟩
      · rw [hg'] at h5; simp at h5
      · rw [hg'] at h5
        simp only [Option.some.injEq, Prod.mk.injEq] at h5
        obtain ⟨rfl, rfl⟩ := h5
        exact h7

def rowPl : Value → Option (Nat × Nat)
  | .slice (some a) _ c => some (a.block, c)
  | _ => none
/-- What a method leaves, as chunks. -/
theorem bld_close {φ : Place} {R : Prot} {w w' : World} {T e : TypeId} {i j : Nat} {s s' : List UInt8} (hij : i ≠ j) (hh : HRel φ R w (fun k => lookup k (bldH T e i j s))) (hR : RB R w) {b cap : Nat} {v v' : Value}
    (hφ : φ i = some (b, cap)) (hRb : ∀ o, ¬ R b o) (hrow : ∀ g, v.ownBlock = some g → (∃ c, φ j = some (g, c)) ∧ ∀ o, ¬ R g o)
    (hbd : BdAt T e b (selfP b) (Lib.byteCells s') v' w') (hgr : Gr w w' b v.ownBlock) (hnew : NewRow w v v') :
    ∃ φ', HRel φ' R w' (fun k => lookup k (bldH T e i j s')) ∧ RB R w' ∧ Evo R (Owns φ (fun k => lookup k (bldH T e i j s))) w R (Owns φ' (fun k => lookup k (bldH T e i j s'))) w' ∧
      ∀ id c, lookup id (bldH T e i j s) = some c → c.fixed = true → φ' id = φ id ∧ ∃ c', lookup id (bldH T e i j s') = some c' ∧ c'.fixed = true := by
  let φ' : Place := fun k => if k = j then rowPl v' else φ k
  have hφi : φ' i = some (b, cap) := by simp [φ', hij, hφ]
  have hφj : φ' j = rowPl v' := by simp [φ']
  have hpl : ∀ g c, rowPl v' = some (g, c) → v'.ownBlock = some g := fun g c h => by
    unfold rowPl at h
    split at h
    · rename_i a n c'
      simp only [Option.some.injEq, Prod.mk.injEq] at h
      simp only [Value.ownBlock, h.1]
    · simp at h
  obtain ⟨hbk, hown, hne⟩ := hbd
  have hl' : (Lib.byteCells s').length = s'.length := Lib.byteCells_length s'
  have h0i : lookup i (bldH T e i j s) = some (.ext (bldX T j s.length)) := by simp only [lookup_cons, if_pos]
  have h0j : lookup j (bldH T e i j s) = some (.ext (rowX e s)) := by simp only [lookup_cons, if_neg hij, if_pos]
  have hOb : Owns φ (fun k => lookup k (bldH T e i j s)) b := ⟨i, _, cap, h0i, hφ⟩
  have hOg : ∀ g, v.ownBlock = some g → Owns φ (fun k => lookup k (bldH T e i j s)) g := fun g hg => by
    obtain ⟨⟨c, hc⟩, _⟩ := hrow g hg
    exact ⟨j, _, c, h0j, hc⟩
  have hRg : ∀ g, v'.ownBlock = some g → ∀ o, ¬ R g o := fun g hg o hr => by
    rcases hnew with h | ⟨k, h, hk⟩
    · rw [h] at hg; exact (hrow g hg).2 o hr
    · rw [h] at hg
      simp only [Option.some.injEq] at hg
      subst hg
      have := hR _ _ hr
      omega
  refine ⟨φ', ⟨fun k c hk => ?_, fun k k' c d b1 c1 c2 hk hk' hp hp' => ?_⟩, fun b1 o h => Nat.lt_of_lt_of_le (hR b1 o h) hgr.size,
    ⟨hgr.os, hgr.tape, hgr.output, hgr.size, fun k hk ho => hgr.block k hk (fun e => ho (e ▸ hOb)) (fun e => ho (hOg k e.symm)), fun _ _ h => h, fun b1 o hr => ?_, fun _ _ h => .inl h, fun k hk => ?_⟩, fun id c hid hc => ?_⟩
  · rcases bldH_get hij hk with ⟨rfl, rfl⟩ | ⟨rfl, rfl⟩
    · refine .inr ⟨b, cap, _, hφi, hbk, ⟨_, v', rfl, .inr rfl, ?_⟩, hRb⟩
      rcases hown.2 with ⟨hv, hn⟩ | ⟨g, c, cur, hv, _, hg, hnc, hcm, hcs, ht⟩
      · exact .inl ⟨by rw [← hl']; exact hn, hv⟩
      · rw [hl'] at hv hnc
        refine .inr ⟨g, c, ?_, hnc, hv⟩
        rw [hφj]
        simp only [rowPl, hv]
    · rcases hown.2 with ⟨hv, hn⟩ | ⟨g, c, cur, hv, _, hg, hnc, hcm, hcs, ht⟩
      · refine .inl ⟨by rw [hφj]; simp only [rowPl, hv], ?_⟩
        show s' = []
        exact List.eq_nil_of_length_eq_zero (by rw [← hl']; exact hn)
      · refine .inr ⟨g, c, _, by rw [hφj]; simp only [rowPl, hv], hg, ⟨cur, rfl, by rw [← hl']; exact hnc, hcm, by simpa using hcs, by rw [hl'] at ht; simpa using ht⟩, hRg g (by rw [hv]; rfl)⟩
  · have key : ∀ c1 c2, φ' i = some (b1, c1) → φ' j = some (b1, c2) → False := fun c1 c2 h1 h2 => by
      rw [hφi] at h1
      simp only [Option.some.injEq, Prod.mk.injEq] at h1
      rw [hφj] at h2
      exact hne (by rw [hpl _ _ h2, h1.1])
    rcases bldH_get hij hk with ⟨rfl, rfl⟩ | ⟨rfl, rfl⟩ <;> rcases bldH_get hij hk' with ⟨rfl, rfl⟩ | ⟨rfl, rfl⟩
    · rfl
    · exact (key _ _ hp hp').elim
    · exact (key _ _ hp' hp).elim
    · rfl
  · have hlt := hR b1 o hr
    have := hgr.block b1 hlt (fun e => hRb o (e ▸ hr)) (fun e => (hrow b1 e.symm).2 o hr)
    simp only [World.cell?, this]
  · obtain ⟨id, c, cp, hid, hp⟩ := hk
    rcases bldH_get hij hid with ⟨rfl, rfl⟩ | ⟨rfl, rfl⟩
    · rw [hφi] at hp
      simp only [Option.some.injEq, Prod.mk.injEq] at hp
      rw [← hp.1]
      exact .inr hOb
    · rw [hφj] at hp
      have h9 := hpl _ _ hp
      rcases hnew with h | ⟨k', h, hk⟩
      · rw [h] at h9; exact .inr (hOg k h9)
      · rw [h] at h9
        simp only [Option.some.injEq] at h9
        subst h9
        exact .inl hk
  · rcases bldH_get hij hid with ⟨rfl, rfl⟩ | ⟨rfl, rfl⟩
    · exact ⟨by rw [hφi, hφ], .ext (bldX T j s'.length), by simp only [lookup_cons, if_pos], rfl⟩
    · simp [Chunk.fixed, rowX] at hc

theorem byteCells_snoc (s : List UInt8) (c : UInt8) : Lib.byteCells s ++ [.int .u8 c.toNat] = Lib.byteCells (s ++ [c]) := by simp [Lib.byteCells]
theorem byteCells_str (s t : List UInt8) : Lib.byteCells s ++ Lib.strCells (bs t) = Lib.byteCells (s ++ t) := by simp [Lib.byteCells, Lib.strCells, bs]

variable {ρ : Ren}
theorem entered_of {f : FuncId} {fn : Func} (hf : P.funcs[f]? = some fn) (hn : (fn.name == "runtime.NumGoroutine") = false) (hb : fn.body.isNone = false) : Entered P f := ⟨fn, hf, hn, hb⟩

theorem bld_WriteByte (L : Lays.n167 P ρ) (X : Builder.Extra P ρ) (gl : Gl) (i j : Nat) (hij : i ≠ j) (s : List UInt8) (c : UInt8) (hlen : s.length + 1 ≤ 140737488355328) :
    HSpec P gl (ρ.f 167) [.loc i 0, .int .u8 c.toNat] (bldH (ρ.t 72) (ρ.t 5) i j s) .any (bldH (ρ.t 72) (ρ.t 5) i j (s ++ [c])) := by
  refine ⟨entered_of L.f167 (by kernel_rfl) rfl, fun φ R w vs hh hR hgl hargs => ?_⟩
  obtain ⟨b, cap, p, v, h1, h2, h3, h4, h5⟩ := bld_open hij hh
  simp only [RepVs, RepV] at hargs
  obtain ⟨_, _, rfl, ⟨b', cap', hb', rfl⟩, _, _, rfl, rfl, rfl⟩ := hargs
  rw [h1] at hb'
  simp only [Option.some.injEq, Prod.mk.injEq] at hb'
  obtain ⟨rfl, rfl⟩ := hb'
  refine (bd_WriteByte L X b p _ v c.toNat w h2 h3 (by rw [Lib.byteCells_length]; exact hlen)).mono ?_
  rintro e w' ⟨rfl, v', q1, q2, q3⟩
  rw [byteCells_snoc] at q1
  obtain ⟨φ', r1, r2, r3, r4⟩ := bld_close hij hh hR h1 h4 h5 q1 q2 q3
  exact ⟨_, φ', R, rfl, by simp [RepV], r1, r2, r3, r4⟩
theorem bld_WriteString (L : Lays.n166 P ρ) (X : Builder.Extra P ρ) (gl : Gl) (i j : Nat) (hij : i ≠ j) (s t : List UInt8) (hlen : s.length + t.length ≤ 140737488355328) :
    HSpec P gl (ρ.f 166) [.loc i 0, .str t] (bldH (ρ.t 72) (ρ.t 5) i j s) .any (bldH (ρ.t 72) (ρ.t 5) i j (s ++ t)) := by
  refine ⟨entered_of L.f166 (by kernel_rfl) rfl, fun φ R w vs hh hR hgl hargs => ?_⟩
  obtain ⟨b, cap, p, v, h1, h2, h3, h4, h5⟩ := bld_open hij hh
  simp only [RepVs, RepV] at hargs
  obtain ⟨_, _, rfl, ⟨b', cap', hb', rfl⟩, _, _, rfl, rfl, rfl⟩ := hargs
  rw [h1] at hb'
  simp only [Option.some.injEq, Prod.mk.injEq] at hb'
  obtain ⟨rfl, rfl⟩ := hb'
  refine (bd_WriteString L X b p _ v (bs t) w h2 h3 (by rw [Lib.byteCells_length, bs_size]; exact hlen)).mono ?_
  rintro e w' ⟨rfl, v', q1, q2, q3⟩
  rw [byteCells_str] at q1
  obtain ⟨φ', r1, r2, r3, r4⟩ := bld_close hij hh hR h1 h4 h5 q1 q2 q3
  exact ⟨_, φ', R, rfl, by simp [RepV], r1, r2, r3, r4⟩
theorem bld_String (L : Lays.n169 P ρ) (X : Builder.Extra P ρ) (gl : Gl) (i j : Nat) (hij : i ≠ j) (s : List UInt8) :
    HSpec P gl (ρ.f 169) [.loc i 0] (bldH (ρ.t 72) (ρ.t 5) i j s) (.str s) [(i, .ext (.top true))] := by
  refine ⟨entered_of L.f169 (by kernel_rfl) rfl, fun φ R w vs hh hR hgl hargs => ?_⟩
  obtain ⟨b, cap, p, v, h1, h2, h3, h4, h5⟩ := bld_open hij hh
  simp only [RepVs, RepV] at hargs
  obtain ⟨_, _, rfl, ⟨b', cap', hb', rfl⟩, rfl⟩ := hargs
  rw [h1] at hb'
  simp only [Option.some.injEq, Prod.mk.injEq] at hb'
  obtain ⟨rfl, rfl⟩ := hb'
  refine (bd_String L X b p s v w h3).mono ?_
  rintro e w' ⟨rfl, hgr⟩
  have h0i : lookup i (bldH (ρ.t 72) (ρ.t 5) i j s) = some (.ext (bldX (ρ.t 72) j s.length)) := by simp only [lookup_cons, if_pos]
  have h0j : lookup j (bldH (ρ.t 72) (ρ.t 5) i j s) = some (.ext (rowX (ρ.t 5) s)) := by simp only [lookup_cons, if_neg hij, if_pos]
  have hOb : Owns φ (fun k => lookup k (bldH (ρ.t 72) (ρ.t 5) i j s)) b := ⟨i, _, cap, h0i, h1⟩
  have hone : ∀ k c, lookup k [(i, Chunk.ext (.top true))] = some c → k = i ∧ c = .ext (.top true) := fun k c h => by
    simp only [lookup_cons] at h
    split at h
    · rename_i e; simp only [Option.some.injEq] at h; exact ⟨e.symm, h.symm⟩
    · simp [lookup] at h
  have hlt : b < w'.heap.size := Nat.lt_of_lt_of_le h3.lt hgr.size
  refine ⟨_, φ, R, rfl, by simp [RepV, bs], ⟨fun k c hk => ?_, fun k k' c d b1 c1 c2 hk hk' _ _ => ?_⟩, fun b1 o h => Nat.lt_of_lt_of_le (hR b1 o h) hgr.size,
    ⟨hgr.os, hgr.tape, hgr.output, hgr.size, fun k hk ho => hgr.block k hk (fun e => ho (e ▸ hOb)) (fun e => ho ?_), fun _ _ h => h, fun b1 o hr => ?_, fun _ _ h => .inl h, fun k hk => ?_⟩, fun id c hid hc => ?_⟩
  · obtain ⟨rfl, rfl⟩ := hone k c hk
    exact .inr ⟨b, cap, w'.heap[b], h1, by simp [hlt], trivial, h4⟩
  · rw [(hone k c hk).1, (hone k' d hk').1]
  · obtain ⟨⟨c, hc⟩, _⟩ := h5 k e.symm
    exact ⟨j, _, c, h0j, hc⟩
  · have hlt := hR b1 o hr
    have := hgr.block b1 hlt (fun e => h4 o (e ▸ hr)) (fun e => (h5 b1 e.symm).2 o hr)
    simp only [World.cell?, this]
  · obtain ⟨id, c, cp, hid, hp⟩ := hk
    obtain ⟨rfl, rfl⟩ := hone id c hid
    exact .inr ⟨id, _, cp, h0i, hp⟩
  · rcases bldH_get hij hid with ⟨rfl, rfl⟩ | ⟨rfl, rfl⟩
    · exact ⟨rfl, .ext (.top true), by simp only [lookup_cons, if_pos], rfl⟩
    · simp [Chunk.fixed, rowX] at hc

/-! ### a new chunk of another kind -/
def St.addN (st : St) (c : Chunk) : St := { n := st.n, fix := st.fix, next := st.next + 1, env := st.env, heap := (st.next, c) :: st.heap, gl := st.gl }
/-- A chunk that has no block yet. -/
theorem Le.nilX {st : St} (X : XCh) (hn : X.nil) (hi : X.ids = []) : Le st (st.addN (.ext X)) := fun R φ a w hs => by
  have hfresh : st.lk st.next = none := by
    cases hh : st.lk st.next with
    | none => rfl
    | some c => have := hs.s.hnext _ _ hh; omega
  have hne : ∀ j c, st.lk j = some c → j ≠ st.next := fun j c hj e => by subst e; rw [hfresh] at hj; simp at hj
  have hlk : ∀ k, (st.addN (.ext X)).lk k = if st.next = k then some (.ext X) else st.lk k := fun k => by
    simp only [St.addN, St.lk, lookup_cons]
  have hφ : ∀ j, j ≠ st.next → setPlace φ st.next none j = φ j := fun j hj => by simp [setPlace, hj]
  have hkeep : ∀ j, (∃ c, st.lk j = some c) → ∃ c, (st.addN (.ext X)).lk j = some c := fun j ⟨c, hc⟩ => by
    rw [hlk, if_neg (fun e => hne j c hc e.symm)]; exact ⟨c, hc⟩
  have hinv : ∀ j c, (st.addN (.ext X)).lk j = some c → (j = st.next ∧ c = .ext X) ∨ (j ≠ st.next ∧ st.lk j = some c) := fun j c hj => by
    rw [hlk] at hj
    split at hj
    · rename_i e; simp only [Option.some.injEq] at hj; exact .inl ⟨e.symm, hj.symm⟩
    · rename_i e; exact .inr ⟨fun h => e h.symm, hj⟩
  refine ⟨R, setPlace φ st.next none, ⟨⟨fun u => ?_, fun u j hj => hkeep j (hs.s.named u j hj), fun j c k hj hk => ?_, fun j c hj => ?_, hs.s.sz, ⟨fun j c hj => ?_, fun j k c d b cap cap' hj hk hp hp' => ?_⟩, hs.s.rlt, hs.s.defers, fun g cs hg => ?_⟩, ?_⟩,
    ⟨⟨rfl, rfl, rfl, Nat.le_refl _, fun _ _ _ => rfl, fun _ _ h => h, fun _ _ _ => rfl, fun _ _ h => .inl h, fun b ⟨j, c, cap, hj, hp⟩ => ?_⟩, fun id hid => hφ id (by have := hs.fx; omega), rfl, rfl⟩⟩
  · exact RepV.mono (fun _ _ h => h) (fun _ _ _ => rfl) (fun j hj => by obtain ⟨c, hc⟩ := hs.s.named u j hj; exact hφ j (hne j c hc)) (hs.s.env u)
  · rcases hinv j c hj with ⟨_, h⟩ | ⟨_, hj⟩
    · subst h; simp [Chunk.has, hi] at hk
    · exact hkeep k (hs.s.hnamed j c k hj hk)
  · show j < st.next + 1
    rcases hinv j c hj with ⟨e, _⟩ | ⟨_, hj⟩
    · omega
    · have := hs.s.hnext j c hj; omega
  · rcases hinv j c hj with ⟨rfl, rfl⟩ | ⟨hji, hj⟩
    · exact .inl ⟨by simp [setPlace], hn⟩
    · exact (hs.s.heap.rel j c hj).mono (hφ j hji) (fun k hk => by
        obtain ⟨c', hc'⟩ := hs.s.hnamed j c k hj hk
        exact hφ k (hne k c' hc')) (fun _ _ h => h) (fun _ _ _ => rfl) (fun _ _ _ _ => ⟨rfl, fun _ h => h⟩)
  · rcases hinv j c hj with ⟨rfl, _⟩ | ⟨hji, hj⟩
    · simp [setPlace] at hp
    · rcases hinv k d hk with ⟨rfl, _⟩ | ⟨hki, hk⟩
      · simp [setPlace] at hp'
      · rw [hφ j hji] at hp; rw [hφ k hki] at hp'
        exact hs.s.heap.inj j k c d b cap cap' hj hk hp hp'
  · have := hs.s.gl g cs hg
    refine ⟨RepV.mono (fun _ _ h => h) (fun _ _ _ => rfl) (fun j hj => ?_) this.1, this.2⟩
    simp only [AV.has] at hj
    rw [this.2 j] at hj
    simp at hj
  · have := hs.fx
    show st.fix ≤ st.next + 1
    omega
  · rcases hinv j c hj with ⟨rfl, _⟩ | ⟨hji, hj⟩
    · simp [setPlace] at hp
    · rw [hφ j hji] at hp
      exact .inr ⟨j, c, cap, hj, hp⟩

/-- A new variable, of which the chunk says what it likes. -/
theorem OpTri.allocX {T : Tab} (hT : tabOK P T = true) {ops : Array Oper} {o : Oper} {n fix next : Nat} {env : List (Nat × AV)} {heap : List (Nat × Chunk)} {gl : Gl} {K : St → Prop} {t : TypeId} {e : TE} (X : XCh)
    (ho : o.op = .alloc t) (hg : o.guard = none) (he : tget T t = some e) (hX : ∀ φ R w b (z : Value), zeroChk e.zero z.cells.toList = true → X.rel φ R w b (.cells z.cells t (0, 0)) 0)
    (hids : idsIn heap X.ids = true) (hK : stepN n fix next env heap gl o.dst (.loc next 0) [] (some (.ext X)) K) : OpTri P ops o ⟨n, fix, next, env, heap, gl⟩ K := by
  intro hd R φ a w hs next0 Q hnext
  rw [stepN_eq] at hK
  generalize hst : (⟨n, fix, next, env, heap, gl⟩ : St) = st at *
  have hnx : st.next = next := by rw [← hst]
  have hhp : st.heap = heap := by rw [← hst]
  have hw : Region.wanted o (yielded ops a.tmps) = true := by simp [Region.wanted, hg]
  rw [if_pos hw]
  left
  obtain ⟨z, hz, hzc, _⟩ := run_zeroValue_tab hT he
  have hrun : (execOp a.eval o).run P w = .ok (.value (.pointer (some ⟨w.heap.size, 0, none⟩))) (pushed w (.cells z.cells t (0, 0)) w.drawn) := by
    simp [execOp, ho, Instr.alloc, newVar, newRow, hz]; rfl
  unfold Oper.wp
  rw [hrun]
  have hfresh : st.lk next = none := by
    cases hh : st.lk next with
    | none => rfl
    | some c => have := hs.s.hnext _ _ hh; omega
  have hR := hs.s.rlt
  have hstep := (stepTo_push (φ := φ) (id := next) hR z.cells t (0, 0) 0 (.ext X) w.drawn
    (.inr ⟨w.heap.size, 0, _, by simp [setPlace], pushed_get _ _ _, hX _ _ _ _ z hzc, not_prot_new hR⟩)).toU
  obtain ⟨h1, h2⟩ := SatF.step hs.s hfresh (next' := st.next + 1) (by omega) (Nat.le_succ _) (upd := []) trivial hstep (v := .loc next 0) (u := .pointer (some ⟨w.heap.size, 0, none⟩)) (by simp only [RepV]; exact ⟨w.heap.size, 0, by simp [setPlace], rfl⟩) o.dst
    (fun d hd' => by simp only [dstB, hd', decide_eq_true_eq] at hd; exact hd) (fun j hj => by simp [AV.has] at hj; exact .inr ⟨hj.symm, rfl⟩)
    (fun ch j hc hj => by
      obtain rfl := Option.some.inj hc
      obtain ⟨c, hc⟩ := idsIn_mem hids (show j ∈ X.ids by simpa [Chunk.has] using hj)
      exact ⟨c, by rw [← hhp] at hc; exact hc⟩) (fun x hx => by simp at hx)
  rw [← step_get st o.dst (.loc next 0) [] (some (.ext X))] at h1
  have hlk := step_lk st o.dst (.loc next 0) [] (some (.ext X)) rfl trivial
  rw [hnx] at hlk
  rw [← hlk] at h1 h2
  exact hnext R _ _ _ _ hK ⟨h1, Nat.le_succ_of_le hs.fx⟩ ⟨h2, fun id hid => by have := hs.fx; simp only [setPlace]; rw [if_neg (by omega)], rfl, rfl⟩
theorem bldX_zero (T e : TypeId) (j : Nat) (ze : TE) (hz : ze.zero = [.nilp, .nils]) (φ : Place) (R : Prot) (w : World) (b : Nat) (z : Value) (h : zeroChk ze.zero z.cells.toList = true) : (bldX T j 0).rel φ R w b (.cells z.cells T (0, 0)) 0 := by
  rw [hz] at h
  have hr := zeroChk_rep (φ := φ) (R := R) (w := w) h
  simp only [RepVs, RepV] at hr
  obtain ⟨_, _, e1, rfl, _, _, rfl, rfl, rfl⟩ := hr
  refine ⟨.pointer none, .slice none 0 0, ?_, .inl rfl, .inl ⟨rfl, rfl⟩⟩
  congr 1
  apply Array.ext'
  simpa using e1

/-! ### contracts off the shelf -/
theorem PSpec.of_calls {gl : Gl} {f : FuncId} {args : List AV} {ret : AV} (hE : Entered P f)
    (h : ∀ φ R w (vs : List Value), RepVs φ R w args vs → RB R w → Calls P f vs.toArray w fun e w' => ∃ v, e = .returned v ∧ Below w.heap.size w w' ∧ RepV φ R w' ret v) : PSpec P gl f args ret := by
  refine ⟨hE, fun φ R w vs hh hR hgl hargs => (h φ R w vs hargs hR).mono ?_⟩
  rintro e w' ⟨v, rfl, hb, hv⟩
  exact ⟨v, φ, R, rfl, hv, ⟨fun _ _ h => by simp [noHeap] at h, fun _ _ _ _ _ _ _ h => by simp [noHeap] at h⟩, fun b o h => Nat.lt_of_lt_of_le (hR b o h) hb.size,
    ⟨hb.os, hb.tape, hb.output, hb.size, fun k hk _ => hb.block k hk, fun _ _ h => h, fun b o h => by simp only [World.cell?, hb.block b (hR b o h)], fun _ _ h => .inl h, fun k ⟨_, _, _, h, _⟩ => by simp [noHeap] at h⟩, fun _ _ h => by simp [noHeap] at h⟩
end Go.Fw

