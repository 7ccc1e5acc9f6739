/- The framework, part 10a: stores into the elements of a slice of the call's own. -/
import Derived.Test.YtnleiflijccefaaFw9
set_option linter.all false
set_option linter.unusedSectionVars false
set_option linter.unusedSimpArgs false
namespace Go.Fw

/-- A store into an element. -/
def stElV (T : Tab) (st : St) (dst : Option Nat) (t : TypeId) (id sz i off : Nat) (y : AV) (K : St → Prop) : Prop :=
  match y.cells, tget T t, lookup id st.heap, dst with
  | some us, some e, some (.arr ty xs), none => match Nat.beq us.length e.size, Nat.beq sz ty.size, Nat.ble (off + e.size) ty.size, us.all AV.one with
    | true, true, true, true => i < xs.length ∧ ∃ y', assemble ty ((explode ty (xs.getD i ty.dflt)).take off ++ us ++ (explode ty (xs.getD i ty.dflt)).drop (off + e.size)) = some (y', []) ∧
        K { st with next := st.next + 1, heap := (id, .arr ty (xs.set i y')) :: st.heap }
    | _, _, _, _ => False
  | _, _, _, _ => False

theorem elem_write {α : Type} (l us : List α) (i j s o : Nat) (ho : o + us.length ≤ s) (hl : (i + 1) * s ≤ l.length) (hj : (j + 1) * s ≤ l.length) :
    (((l.take (i * s + o) ++ us ++ l.drop (i * s + o + us.length)).drop (j * s)).take s) =
      if j = i then ((l.drop (i * s)).take s).take o ++ us ++ ((l.drop (i * s)).take s).drop (o + us.length) else (l.drop (j * s)).take s := by
  have e1 : (i + 1) * s = i * s + s := by rw [Nat.add_mul, Nat.one_mul]
  have e2 : (j + 1) * s = j * s + s := by rw [Nat.add_mul, Nat.one_mul]
  have e3 : j < i → (j + 1) * s ≤ i * s := fun h => Nat.mul_le_mul_right _ h
  have e4 : i < j → (i + 1) * s ≤ j * s := fun h => Nat.mul_le_mul_right _ h
  rw [e1] at hl
  rw [e2] at hj
  apply List.ext_getElem?
  intro k
  by_cases hji : j = i
  · subst hji
    rw [if_pos rfl]
    simp only [List.getElem?_take, List.getElem?_drop, List.getElem?_append, List.length_take, List.length_drop, List.length_append]
    by_cases hk : k < s
    · rw [if_pos hk]
      by_cases h1 : k < o
      · rw [if_pos (by omega), if_pos (by omega), if_pos (by omega), if_pos (by omega), if_pos (by omega), if_pos (by omega)]
        rw [if_pos hk]
      · by_cases h2 : k < o + us.length
        · rw [if_pos (by omega), if_neg (by omega), if_pos (by omega), if_neg (by omega)]
          congr 1; omega
        · rw [if_neg (by omega), if_neg (by omega)]
          rw [if_pos (by omega)]
          congr 1; omega
    · rw [if_neg hk]
      rw [if_neg (by omega), if_neg (by omega)]
  · rw [if_neg hji]
    have hne : j * s + s ≤ i * s ∨ i * s + s ≤ j * s := by
      rcases Nat.lt_or_ge j i with h | h
      · have := e3 h; omega
      · have := e4 (by omega); omega
    simp only [List.getElem?_take, List.getElem?_drop, List.getElem?_append, List.length_take, List.length_append]
    by_cases hk : k < s
    · rw [if_pos hk, if_pos hk]
      rcases hne with h | h
      · rw [if_pos (by omega), if_pos (by omega), if_pos (by omega)]
      · rw [if_neg (by omega)]
        congr 1; omega
    · rw [if_neg hk, if_neg hk]

section
variable {P : Program} {T : Tab} (hT : tabOK P T = true)
include hT
theorem stEl_sound {ops : Array Oper} {st : St} {id sz i off : Nat} {t : TypeId} {x y : Operand} {K : St → Prop} (o : Oper) (ho : o.op = .store t x y) (hg : o.guard = none)
    (hxv : st.ev x = .eloc id sz i off) (h : stElV T st o.dst t id sz i off (st.ev y) K) {R : Prot} {φ : Place} {a : Act} {w : World} (hs : Sat R φ st a w)
    {next : Act → World → Prop} {Q : Exit → Act → World → Prop} (hnext : ∀ R' φ' a' w' st', K st' → Sat R' φ' st' a' w' → Ext st R φ w st' R' φ' w' → next a' w') :
    (if Region.wanted o (yielded ops a.tmps) = true then o.wp P a w next Q ∨ (o.asks P a w ∧ LetsOut Q) else next (a.put o.dst undef) w) := by
  have hw : Region.wanted o (yielded ops a.tmps) = true := by simp [Region.wanted, hg]
  rw [if_pos hw]
  left
  unfold stElV at h
  split at h
  · rename_i us e ty xs hyc he hlk hdst
    split at h
    · rename_i h1 h2 h3 h4
      have h1 := Nat.eq_of_beq_eq_true h1
      have h2 := Nat.eq_of_beq_eq_true h2
      have h3 := Nat.le_of_ble_eq_true h3
      obtain ⟨hi, y', hasm, hK⟩ := h
      have hlk' : st.lk id = some (.arr ty xs) := hlk
      have hrx := hs.s.ev x
      have hxv' : evF st.get st.gl x = .eloc id sz i off := hxv
      rw [hxv'] at hrx
      simp only [RepV] at hrx
      obtain ⟨b, cap, hφ, hax⟩ := hrx
      have hry := hs.s.ev y
      have hcs := hs.s.heap.rel id _ hlk'
      simp only [ChunkRel] at hcs
      rcases hcs with ⟨hn, _⟩ | ⟨b', cap', vs, te, fr, hφ', hb, hsz, hle, hel, hnR, hnf⟩
      · rw [hφ] at hn; cases hn
      rw [hφ] at hφ'
      simp only [Option.some.injEq, Prod.mk.injEq] at hφ'
      obtain ⟨rfl, rfl⟩ := hφ'
      have hyr : RepVs φ R w us (a.eval y).cells.toList := AV.cells_rep hyc hry
      have hyl := hyr.length
      have hcap : (i + 1) * ty.size ≤ cap * ty.size := Nat.mul_le_mul_right _ (by omega)
      have hexp : (i + 1) * ty.size = i * ty.size + ty.size := by rw [Nat.add_mul, Nat.one_mul]
      have hlt : b < w.heap.size := (Array.getElem?_eq_some_iff.1 hb).1
      obtain ⟨vs', hv', hrun⟩ := run_storeCells_blk (P := P) (b := b) (off := i * sz + off) (e := te) (fr := fr) (a.eval y).cells.toList 0 vs w hb (by rw [hsz, h2]; omega) hnf (hyr.one h4)
      have hl : (a.eval y).cells.toList.length = e.size := by omega
      have hex : (execOp a.eval o).run P w = .ok .skip (setBlk w b (.cells vs' te fr)) := by
        simp only [execOp, ho, hax, Instr.storeAt, Instr.sureAddr, storeVar, Sem.run_bind, Sem.run_pure, Result.andThen_ok, run_sizeOf_tab hT he]
        rw [if_neg (by simp only [Array.length_toList] at hl; omega)]
        rw [hrun]
        rfl
      unfold Oper.wp
      rw [hex]
      have hcell : ∀ k o', R k o' → (setBlk w b (.cells vs' te fr)).cell? ⟨k, o', none⟩ = w.cell? ⟨k, o', none⟩ := fun k o' hr => setBlk_cell (fun h => by subst h; exact hnR o' hr)
      have hvl : vs'.size = vs.size := by
        have := congrArg List.length hv'
        simp only [List.length_append, List.length_take, List.length_drop, Array.length_toList, hl] at this
        rw [hsz] at this ⊢
        rw [h2] at this
        omega
      have hlk2 : ∀ k, lookup k ((id, Chunk.arr ty (xs.set i y')) :: st.heap) = if id = k then some (.arr ty (xs.set i y')) else st.lk k := fun k => lookup_cons k id _ _
      have hex1 : ∀ j, (∃ c, st.lk j = some c) → ∃ c, lookup j ((id, Chunk.arr ty (xs.set i y')) :: st.heap) = some c := fun j ⟨c, hc⟩ => by
        rw [hlk2]; split
        · exact ⟨_, rfl⟩
        · exact ⟨c, hc⟩
      have hinv : ∀ j c, lookup j ((id, Chunk.arr ty (xs.set i y')) :: st.heap) = some c → (j = id ∧ c = .arr ty (xs.set i y')) ∨ (j ≠ id ∧ st.lk j = some c) := fun j c hj => by
        rw [hlk2] at hj
        split at hj
        · rename_i e'; simp only [Option.some.injEq] at hj; exact .inl ⟨e'.symm, hj.symm⟩
        · rename_i e'; exact .inr ⟨fun h => e' h.symm, hj⟩
      have hsome : ∀ j c, lookup j ((id, Chunk.arr ty (xs.set i y')) :: st.heap) = some c → ∃ c', st.lk j = some c' := fun j c hj => by
        rcases hinv j c hj with ⟨rfl, _⟩ | ⟨_, h⟩
        · exact ⟨_, hlk'⟩
        · exact ⟨c, h⟩

      have hel2 : ∀ (j : Nat) (hj : j < (xs.set i y').length), Rep (setBlk w b (.cells vs' te fr)) R ty (xs.set i y')[j] ((vs'.toList.drop (j * ty.size)).take ty.size) := by
        intro j hj
        have hj0 : j < xs.length := by rw [List.length_set] at hj; exact hj
        have hjc : (j + 1) * ty.size ≤ cap * ty.size := Nat.mul_le_mul_right _ (by omega)
        have hw1 := elem_write vs.toList (a.eval y).cells.toList i j ty.size off (by rw [hl]; exact h3) (by simp only [Array.length_toList, hsz]; omega) (by simp only [Array.length_toList, hsz]; omega)
        have hv2 : vs'.toList = vs.toList.take (i * ty.size + off) ++ (a.eval y).cells.toList ++ vs.toList.drop (i * ty.size + off + (a.eval y).cells.toList.length) := by
          rw [hv', h2]; simp only [Nat.add_zero]
        rw [hv2, hw1]
        by_cases hji : j = i
        · subst hji
          rw [if_pos rfl]
          have hold := hel j hi
          have hxg : xs.getD j ty.dflt = xs[j] := by simp [List.getD, hi]
          rw [hxg] at hasm
          have hrold : RepVs φ R w (explode ty xs[j]) ((vs.toList.drop (j * ty.size)).take ty.size) := hold.explode
          have hrnew : RepVs φ R w ((explode ty xs[j]).take off ++ us ++ (explode ty xs[j]).drop (off + e.size)) (((vs.toList.drop (j * ty.size)).take ty.size).take off ++ (a.eval y).cells.toList ++ ((vs.toList.drop (j * ty.size)).take ty.size).drop (off + (a.eval y).cells.toList.length)) := by
            refine RepVs.append (RepVs.append (RepVs.take _ hrold) hyr) ?_
            rw [hl]
            exact RepVs.drop _ hrold
          obtain ⟨as, ws, e1, e2, e3⟩ := assemble_rep hasm hrnew
          simp only [RepVs] at e3
          subst e3
          rw [List.append_nil] at e1
          rw [e1]
          have : (xs.set j y')[j] = y' := by simp
          rw [this]
          exact Rep.mono (fun _ _ h => h) hcell e2
        · rw [if_neg hji]
          have : (xs.set i y')[j] = xs[j] := by rw [List.getElem_set_ne (fun h => hji h.symm)]
          rw [this]
          exact Rep.mono (fun _ _ h => h) hcell (hel j hj0)
      have hoth : ∀ j c, j ≠ id → st.lk j = some c → ChunkRel φ R (setBlk w b (.cells vs' te fr)) j c := fun j c hne hj =>
        (hs.s.heap.rel j c hj).mono rfl (fun _ _ _ _ => rfl) (fun _ _ h => h) hcell (fun b2 cap2 hp2 _ => ⟨setBlk_ne (fun h => hne (hs.s.heap.inj j id c _ b2 cap2 cap hj hlk' hp2 (h ▸ hφ))), fun _ h => h⟩)
      refine hnext R φ _ (setBlk w b (.cells vs' te fr)) _ hK ⟨⟨fun t => ?_, fun t j hj => hex1 j (hs.s.named t j hj), fun j cs k hj hk => ?_, fun j c hj => ?_, ?_, ⟨fun j c hj => ?_, fun j k c d b1 c1 c2 hj hk hp hp' => ?_⟩, ?_, ?_, fun g cs hg => ?_⟩, ?_⟩
        ⟨⟨rfl, rfl, rfl, by simp [setBlk], fun k hk hno => setBlk_ne (fun h => hno ⟨id, _, cap, hlk', h ▸ hφ⟩), fun _ _ h => h, hcell, fun _ _ h => .inl h, fun k ⟨j, c, cp, hj, hp⟩ => ?_⟩, fun _ _ => rfl, rfl, rfl⟩
      · rw [hdst]
        exact RepV.mono (fun _ _ h => h) hcell (fun _ _ => rfl) (hs.s.env t)
      · rcases hinv j _ hj with ⟨_, hc⟩ | ⟨_, hc⟩
        · cases hc
        · exact hex1 k (hs.s.hnamed j cs k hc hk)
      · obtain ⟨c', hc'⟩ := hsome j c hj
        have := hs.s.hnext j c' hc'
        show j < st.next + 1
        omega
      · rw [hdst]; exact hs.s.sz
      · rcases hinv j c hj with ⟨rfl, rfl⟩ | ⟨hne, hc⟩
        · exact .inr ⟨b, cap, vs', te, fr, hφ, setBlk_get hlt, by rw [hvl, hsz], by rw [List.length_set]; exact hle, hel2, hnR, by rw [hvl]; exact hnf⟩
        · exact hoth j c hne hc
      · obtain ⟨c', hc'⟩ := hsome j c hj
        obtain ⟨d', hd'⟩ := hsome k d hk
        exact hs.s.heap.inj j k c' d' b1 c1 c2 hc' hd' hp hp'
      · intro k o' h
        have := hs.s.rlt k o' h
        simpa [setBlk] using this
      · rw [hdst]; exact hs.s.defers
      · have := hs.s.gl g cs hg
        exact ⟨RepV.mono (fun _ _ h => h) hcell (fun _ _ => rfl) this.1, this.2⟩
      · have := hs.fx
        show st.fix ≤ st.next + 1
        omega
      · obtain ⟨c', hc'⟩ := hsome j c hj
        exact .inr ⟨j, c', cp, hc', hp⟩
    · exact h.elim
  · exact h.elim
end
end Go.Fw
