/- The framework, part 20: weakening between the operations of a region. -/
import Derived.Test.YtnleiflijccefaaFw19
set_option linter.all false
set_option linter.unusedVariables false
namespace Go.Fw

def awpM (P : Program) (T : Tab) (ops : Array Oper) : List Oper → Nat → List Nat → St → (St → Prop) → Prop
  | [], _, _, st, K => K st
  | o :: r, i, c :: cs, st, K => match Nat.beq c i with
    | true => ∃ S, Le st S ∧ (seqOp P T ops S o (fun st' => awpM P T ops r (i + 1) cs st' K) ∨
        ∃ g, o.guard = some g ∧ gOf ops S.ev g = some true ∧ seqOp P T ops S { o with guard := none } (fun st' => awpM P T ops r (i + 1) cs st' K))
    | false => seqOp P T ops st o fun st' => awpM P T ops r (i + 1) (c :: cs) st' K
  | o :: r, i, [], st, K => seqOp P T ops st o fun st' => awpM P T ops r (i + 1) [] st' K

section
variable {P : Program} {T : Tab} (hT : tabOK P T = true)
include hT
theorem mark_sound {ops : Array Oper} {Q : Exit → Act → World → Prop} : ∀ (os : List Oper) (k : Nat) (i : Nat) (cs : List Nat) (st : St) (K : St → Prop) (R : Prot) (φ : Place) (a : Act) (w : World),
    awpM P T ops os i cs st K → (∀ i o, os[i]? = some o → ops[k + i]? = some o) → os.all (dstB · st.n) = true → Sat R φ st a w →
    (∀ R' φ' st' a' w', K st' → Sat R' φ' st' a' w' → Ext st R φ w st' R' φ' w' → Q .normal a' w') → wpOps P ops Q (List.range' k os.length) a w
  | [], k, i, cs, st, K, R, φ, a, w, h, _, _, hs, hQ => by
    simp only [List.length_nil, List.range'_zero, wpOps]
    simp only [awpM] at h
    exact hQ R φ st a w h hs (Ext.refl _ _ _ _)
  | o :: r, k, i, cs, st, K, R, φ, a, w, h, hi, hd, hs, hQ => by
    simp only [List.all_cons, Bool.and_eq_true] at hd
    have h0 := hi 0 o rfl
    simp only [Nat.add_zero] at h0
    simp only [List.length_cons, List.range'_succ, wpOps, h0]
    have step : ∀ (S : St) (cs' : List Nat) (R1 : Prot) (φ1 : Place), Sat R1 φ1 S a w → Ext st R φ w S R1 φ1 w → seqOp P T ops S o (fun st' => awpM P T ops r (i + 1) cs' st' K) →
        (if Region.wanted o (yielded ops a.tmps) then o.wp P a w (wpOps P ops Q (List.range' (k + 1) r.length)) Q ∨ (o.asks P a w ∧ LetsOut Q) else wpOps P ops Q (List.range' (k + 1) r.length) (a.put o.dst undef) w) := by
      intro S cs' R1 φ1 hs1 he1 h1
      refine seqOp_sound hT h1 (by rw [he1.n]; exact hd.1) hs1 ?_
      intro R' φ' a' w' st' hk hs' he
      exact mark_sound r (k + 1) (i + 1) cs' _ K R' φ' a' w' hk (fun i o' ho' => by have := hi (i + 1) o' (by simpa using ho'); rw [show k + 1 + i = k + (i + 1) by omega]; exact this) (by rw [he.n, he1.n]; exact hd.2) hs'
        (fun R2 φ2 st2 a2 w2 hk2 hs2 he2 => hQ R2 φ2 st2 a2 w2 hk2 hs2 (he1.trans (he.trans he2)))
    cases cs with
    | nil => simp only [awpM] at h; exact step st [] R φ hs (Ext.refl _ _ _ _) h
    | cons c cs =>
      simp only [awpM] at h
      split at h
      · obtain ⟨S, hle, h⟩ := h
        obtain ⟨R1, φ1, hs1, he1⟩ := hle R φ a w hs
        rcases h with h | ⟨g, hg, hgo, h⟩
        · exact step S cs R1 φ1 hs1 he1 h
        · have hwant : Region.wanted o (yielded ops a.tmps) = true := gOf_sound hgo a (fun t _ => hs1.s.env t) o hg
          have hd' : dstB { o with guard := none } S.n = true := by rw [he1.n]; exact hd.1
          have := seqOp_sound hT (o := { o with guard := none }) h hd' hs1 (next := fun a w => wpOps P ops Q (List.range' (k + 1) r.length) a w) (Q := Q) (fun R' φ' a' w' st' hk hs' he =>
            mark_sound r (k + 1) (i + 1) cs _ K R' φ' a' w' hk (fun i o' ho' => by have := hi (i + 1) o' (by simpa using ho'); rw [show k + 1 + i = k + (i + 1) by omega]; exact this) (by rw [he.n, he1.n]; exact hd.2) hs'
              (fun R2 φ2 st2 a2 w2 hk2 hs2 he2 => hQ R2 φ2 st2 a2 w2 hk2 hs2 (he1.trans (he.trans he2))))
          have hw0 : Region.wanted { o with guard := none } (yielded ops a.tmps) = true := by simp [Region.wanted]
          rw [if_pos hw0] at this
          rw [if_pos hwant]
          exact this
      · exact step st (c :: cs) R φ hs (Ext.refl _ _ _ _) h
end

def withSt (S : St) (f : Nat → Nat → Nat → List (Nat × AV) → List (Nat × Chunk) → Gl → Prop) : Prop := match S with | ⟨n, fix, next, env, heap, gl⟩ => f n fix next env heap gl
def awpMN (P : Program) (T : Tab) (ops : Array Oper) : List Oper → Nat → List Nat → St → (St → Prop) → Prop
  | [], _, _, st, K => K st
  | o :: r, i, c :: cs, ⟨n, fix, next, env, heap, gl⟩, K => match Nat.beq c i with
    | true => ∃ S, Le ⟨n, fix, next, env, heap, gl⟩ S ∧ ((withSt S fun n fix next env heap gl => seqOpN P T ops n fix next env heap gl o fun st' => awpMN P T ops r (i + 1) cs st' K) ∨
        ∃ g, o.guard = some g ∧ gOf ops S.ev g = some true ∧ withSt S fun n fix next env heap gl => seqOpN P T ops n fix next env heap gl { o with guard := none } fun st' => awpMN P T ops r (i + 1) cs st' K)
    | false => seqOpN P T ops n fix next env heap gl o fun st' => awpMN P T ops r (i + 1) (c :: cs) st' K
  | o :: r, i, [], ⟨n, fix, next, env, heap, gl⟩, K => seqOpN P T ops n fix next env heap gl o fun st' => awpMN P T ops r (i + 1) [] st' K
theorem awpMN_eq (P : Program) (T : Tab) (ops : Array Oper) (K : St → Prop) : ∀ (l : List Oper) (i : Nat) (cs : List Nat) (st : St), awpMN P T ops l i cs st K = awpM P T ops l i cs st K
  | [], _, _, st => by simp only [awpMN, awpM]
  | o :: r, i, [], ⟨n, fix, next, env, heap, gl⟩ => by simp only [awpMN, awpM, seqOpN_eq, awpMN_eq P T ops K r]
  | o :: r, i, c :: cs, ⟨n, fix, next, env, heap, gl⟩ => by
    simp only [awpMN, awpM]
    cases Nat.beq c i with
    | false => simp only [seqOpN_eq, awpMN_eq P T ops K r]
    | true =>
      simp only
      congr 1
      funext S
      obtain ⟨n', fix', next', env', heap', gl'⟩ := S
      simp only [withSt, seqOpN_eq, awpMN_eq P T ops K r]
theorem Tri.regM {P : Program} {T : Tab} (hT : tabOK P T = true) (cs : List Nat) {id : Nat} {ops : Array Oper} {Q : Exit → St → Prop} {st : St} (h : awpMN P T ops ops.toList 0 cs st (fun s => Q .normal s)) : Tri P (.region id ops false) Q st := ⟨fun hd R φ a w hs => by
  rw [awpMN_eq] at h
  refine wp_region ?_
  have hall : ops.toList.all (dstB · st.n) = true := by simpa [codeDst] using hd
  have := mark_sound hT (Q := Post st R φ w Q) ops.toList 0 0 cs st _ R φ a w h (fun i o ho => by simpa using ho) hall hs
    (fun R' φ' st' a' w' hk hs' he => ⟨by simp, by simp, R', φ', st', hk, hs', he⟩)
  rw [List.range_eq_range']
  simpa using this⟩
end Go.Fw
