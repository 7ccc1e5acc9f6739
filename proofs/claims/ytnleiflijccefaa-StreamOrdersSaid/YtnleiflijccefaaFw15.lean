/- The framework, part 15: a drawn region as a whole. -/
import Derived.Test.YtnleiflijccefaaFw14
set_option linter.all false
set_option linter.unusedSectionVars false
set_option linter.unusedSimpArgs false
namespace Go.Fw

theorem filter_less {p q : Nat → Bool} {i : Nat} (hp : p i = true) (hq : q i = false) (hne : ∀ j, j ≠ i → p j = q j) : ∀ (l : List Nat), l.Nodup → i ∈ l → (l.filter p).length = (l.filter q).length + 1
  | [], _, h => by simp at h
  | x :: l, hnd, h => by
    simp only [List.nodup_cons] at hnd
    by_cases e : x = i
    · subst e
      have : l.filter p = l.filter q := List.filter_congr fun y hy => hne y (fun e => hnd.1 (e ▸ hy))
      simp [hp, hq, this]
    · have hi : i ∈ l := by
        rcases List.mem_cons.1 h with h | h
        · exact absurd h.symm e
        · exact h
      have ih := filter_less hp hq hne l hnd.2 hi
      have hx := hne x e
      simp only [List.filter_cons, hx]
      split <;> simp [ih]

def unl (N : Nat) (listed : Array Bool) : Nat := ((List.range N).filter fun i => !listed.getD i true).length
theorem unl_set {N i : Nat} {listed : Array Bool} (hi : i < N) (hs : listed.size = N) (h : listed.getD i true = false) : unl N listed = unl N (listed.setIfInBounds i true) + 1 := by
  unfold unl
  refine filter_less (i := i) (by show (!listed.getD i true) = true; rw [h]; rfl) (by simp [hs, hi]) (fun j hj => ?_) _ List.nodup_range (by simpa using hi)
  rw [getD_set_ne true (Ne.symm hj)]
theorem unl_zero {N : Nat} {listed : Array Bool} (h : unl N listed = 0) : ∀ j, j < N → listed.getD j true = true := by
  intro j hj
  cases hl : listed.getD j true with
  | true => rfl
  | false =>
    unfold unl at h
    have : j ∈ (List.range N).filter fun i => !listed.getD i true := by simp only [List.mem_filter, List.mem_range]; exact ⟨hj, by rw [hl]; rfl⟩
    rw [List.eq_nil_of_length_eq_zero h] at this
    simp at this
theorem getD_tf {listed : Array Bool} {j : Nat} (h : j < listed.size) : listed.getD j true = listed.getD j false := by simp [h]

theorem edges_lt {ops : Array Oper} (h : edgesB ops = true) {j : Nat} {o : Oper} (ho : ops[j]? = some o) : ∀ e ∈ o.after, Region.binds .any e = true → e.on < j := by
  intro e he hb
  have hj := (Array.getElem?_eq_some_iff.1 ho).1
  unfold edgesB at h
  rw [List.all_eq_true] at h
  have := h j (by simpa using hj)
  simp only [ho] at this
  rw [Array.all_eq_true_iff_forall_mem] at this
  have := this e he
  simpa [hb] using this

/-- The first that is not listed may come next. -/
theorem ready_ex {ops : Array Oper} {listed : Array Bool} (he : edgesB ops = true) (hs : listed.size = ops.size) : ∀ (n j : Nat), j < n → j < ops.size → listed.getD j true = false → ∃ i, i ∈ Region.ready .any ops listed
  | 0, j, h, _, _ => by omega
  | n + 1, j, h, hj, hl => by
    by_cases hr : j ∈ Region.ready .any ops listed
    · exact ⟨j, hr⟩
    · have ho : ops[j]? = some ops[j] := by simp [hj]
      have : ∃ e ∈ ops[j].after, Region.binds .any e = true ∧ listed.getD e.on false = false := by
        refine Classical.byContradiction fun hn => hr (mem_ready.2 ⟨hl, _, ho, fun e hee hb => ?_⟩)
        cases hle : listed.getD e.on false with
        | true => rfl
        | false => exact absurd ⟨e, hee, hb, hle⟩ hn
      obtain ⟨e, hee, hb, hle⟩ := this
      have hlt := edges_lt he ho e hee hb
      exact ready_ex he hs n e.on (by omega) (by omega) (by rw [getD_tf (by omega)]; exact hle)

section
variable {P : Program} {T : Tab} (hT : tabOK P T = true)
include hT

theorem tail_any {ops : Array Oper} {N : Nat} (hdr : drawB ops N = true) {st0 : St} {R0 : Prot} {φ0 : Place} {w0 : World} {K : St → Prop} {Q : Exit → Act → World → Prop} (hd : ops.all (dstB · st0.n) = true)
    (hQ : ∀ R φ st' a w, K st' → Sat R φ st' a w → Ext st0 R0 φ0 w0 st' R φ w → Q .normal a w) :
    ∀ (fuel m : Nat) (listed : Array Bool) (a : Act) (w : World) (st : St) (R : Prot) (φ : Place), N ≤ m → m ≤ ops.size → listed.size = ops.size → (∀ j, j < ops.size → (listed.getD j true = true ↔ j < m)) →
      ops.size - m ≤ fuel → awpSeq P T ops (ops.toList.drop m) st K → Sat R φ st a w → Ext st0 R0 φ0 w0 st R φ w → wpAny P .any ops Q fuel listed a w := by
  unfold drawB at hdr
  simp only [Bool.and_eq_true, Bool.or_eq_true] at hdr
  obtain ⟨hedge, hdr⟩ := hdr
  have fin : ∀ (m : Nat) (listed : Array Bool) (a : Act) (w : World) (st : St) (R : Prot) (φ : Place), m = ops.size → awpSeq P T ops (ops.toList.drop m) st K → Sat R φ st a w → Ext st0 R0 φ0 w0 st R φ w → Q .normal a w := by
    intro m listed a w st R φ hm h hs he
    have : ops.toList.drop m = [] := by simp [hm]
    rw [this] at h
    exact hQ R φ st a w h hs he
  have hready0 : ∀ (m : Nat) (listed : Array Bool), listed.size = ops.size → (∀ j, j < ops.size → (listed.getD j true = true ↔ j < m)) → m ≤ ops.size → Region.ready .any ops listed = [] → m = ops.size := by
    intro m listed hsz hl hm hr
    rcases Nat.lt_or_ge m ops.size with h | h
    · have hlm : listed.getD m true = false := by
        cases hh : listed.getD m true with
        | false => rfl
        | true => have := (hl m h).1 hh; omega
      obtain ⟨i, hi⟩ := ready_ex hedge hsz (m + 1) m (by omega) h hlm
      rw [hr] at hi; simp at hi
    · omega
  intro fuel
  induction fuel with
  | zero =>
    intro m listed a w st R φ hNm hm hsz hl hf h hs he
    have hme : m = ops.size := by omega
    refine ⟨?_, fin m listed a w st R φ hme h hs he⟩
    cases hr : Region.ready .any ops listed with
    | nil => rfl
    | cons i r =>
      have hi : i ∈ Region.ready .any ops listed := by rw [hr]; exact List.mem_cons_self ..
      obtain ⟨h1, o, ho, _⟩ := mem_ready.1 hi
      have hlt := (Array.getElem?_eq_some_iff.1 ho).1
      have := (hl i hlt).2 (by omega)
      rw [this] at h1; simp at h1
  | succ fuel ih =>
    intro m listed a w st R φ hNm hm hsz hl hf h hs he
    refine ⟨fun hr => fin m listed a w st R φ (hready0 m listed hsz hl hm hr) h hs he, fun i hi => ?_⟩
    obtain ⟨h1, o, ho, hall⟩ := mem_ready.1 hi
    have hlt := (Array.getElem?_eq_some_iff.1 ho).1
    have him : m ≤ i := by
      rcases Nat.lt_or_ge i m with h' | h'
      · have := (hl i hlt).2 h'; rw [this] at h1; simp at h1
      · exact h'
    have hie : i = m := by
      rcases Nat.lt_or_ge m i with h' | h'
      · exfalso
        rcases hdr with hdr | ⟨⟨hn, hsink⟩, hchain⟩
        · have := Nat.eq_of_beq_eq_true hdr; omega
        · unfold Region.chainB at hchain
          rw [List.all_eq_true] at hchain
          have h2 := hchain i (by simpa using hlt)
          simp only [Bool.or_eq_true, decide_eq_true_eq] at h2
          rcases h2 with h2 | h2
          · omega
          · obtain ⟨o', ho', e, hee, hb, hon⟩ := Region.waitsFor_spec h2
            have : o' = o := Option.some.inj (ho'.symm.trans ho)
            subst this
            have h3 := hall e hee hb
            rw [hon, ← getD_tf (by omega)] at h3
            have := (hl (i - 1) (by omega)).1 h3
            omega
      · omega
    subst hie
    have hdrop : ops.toList.drop i = o :: ops.toList.drop (i + 1) := by
      have hlt' : i < ops.toList.length := by simpa using hlt
      rw [List.drop_eq_getElem_cons hlt']
      congr 1
      obtain ⟨_, hg⟩ := Array.getElem?_eq_some_iff.1 ho
      simpa using hg
    rw [hdrop] at h
    simp only [awpSeq] at h
    have hdo : dstB o st.n = true := by
      rw [Array.all_eq_true_iff_forall_mem] at hd
      rw [he.n]
      exact hd o (by obtain ⟨h', rfl⟩ := Array.getElem?_eq_some_iff.1 ho; exact Array.getElem_mem h')
    unfold wpOp
    simp only [ho]
    refine seqOp_sound hT h hdo hs ?_
    intro R' φ' a' w' st' hk hs' he'
    refine ih (i + 1) _ a' w' st' R' φ' (by omega) (by omega) (by simp [hsz]) (fun j hj => ?_) (by omega) hk hs' (he.trans he')
    by_cases e : i = j
    · subst e; simp [hsz, hj]
    · rw [getD_set_ne true e]
      rw [hl j hj]
      omega

theorem draw_sound {ops : Array Oper} {N : Nat} (hdr : drawB ops N = true) {st : St} {R0 : Prot} {φ0 : Place} {w0 : World} {K : St → Prop} {Q : Exit → Act → World → Prop} (hd : ops.all (dstB · st.n) = true)
    (h : awpDraw P T ops N st K) {a0 : Act} {w1 : World} (hs0 : Sat R0 φ0 st a0 w1) (he0 : Ext st R0 φ0 w0 st R0 φ0 w1)
    (hQ : ∀ R φ st' a w, K st' → Sat R φ st' a w → Ext st R0 φ0 w0 st' R φ w → Q .normal a w) :
    wpAny P .any ops Q ops.size (Array.replicate ops.size false) a0 w1 := by
  have hdr0 := hdr
  unfold drawB at hdr
  simp only [Bool.and_eq_true, Bool.or_eq_true] at hdr
  obtain ⟨hedge, hdr⟩ := hdr
  have hNle : N ≤ ops.size := by
    rcases hdr with hdr | ⟨⟨hn, _⟩, _⟩
    · have := Nat.eq_of_beq_eq_true hdr; omega
    · have := Nat.le_of_ble_eq_true hn; omega
  have hwf : WF st.next st.get st.lk st.gl := ⟨hs0.s.named, hs0.s.hnamed, hs0.s.hnext, fun g cs hg => (hs0.s.gl g cs hg).2⟩
  obtain ⟨sts, vs, us, cs, hrun, hpairs, htail⟩ := head_run hT (ops.toList.take N) st [] _ h hwf
  have hNl : (ops.toList.take N).length = N := by simp; omega
  rw [List.append_nil, List.reverse_reverse] at hpairs
  have hosg : ∀ i, (ops.toList.take N)[i]? = if i < N then ops[i]? else none := fun i => by
    rw [List.getElem?_take]
    split <;> simp
  have hord := ordered_of hosg hNl hpairs
  have hops : ∀ (i : Nat) (o : Oper), (ops.toList.take N)[i]? = some o → ops[i]? = some o := fun i o ho => by
    rw [hosg i] at ho
    split at ho
    · exact ho
    · simp at ho
  rw [hNl] at htail

  have main : ∀ (fuel : Nat) (listed : Array Bool) (a : Act) (w : World) (R : Prot) (φ : Place), HeadInv .any ops N listed → unl ops.size listed ≤ fuel →
      SatF R φ st.n (st.next + (ops.toList.take N).length) (ED (ops.toList.take N) st vs (fun j => listed.getD j false)) (HD (ops.toList.take N) st us cs (fun j => listed.getD j false)) st.gl a w →
      Evo R0 (Owns φ0 st.lk) w0 R (Owns φ (HD (ops.toList.take N) st us cs (fun j => listed.getD j false))) w → (∀ j, j < st.next → φ j = φ0 j) → wpAny P .any ops Q fuel listed a w := by

    have full : ∀ (fuel : Nat) (listed : Array Bool) (a : Act) (w : World) (R : Prot) (φ : Place), HeadInv .any ops N listed → unl ops.size listed ≤ fuel → (∀ j, j < N → listed.getD j true = true) →
        SatF R φ st.n (st.next + (ops.toList.take N).length) (ED (ops.toList.take N) st vs (fun j => listed.getD j false)) (HD (ops.toList.take N) st us cs (fun j => listed.getD j false)) st.gl a w →
        Evo R0 (Owns φ0 st.lk) w0 R (Owns φ (HD (ops.toList.take N) st us cs (fun j => listed.getD j false))) w → (∀ j, j < st.next → φ j = φ0 j) → wpAny P .any ops Q fuel listed a w := by
      intro fuel listed a w R φ hinv hfuel hall hs hevo hpl
      obtain ⟨hcn, hcf, hcx, hcg⟩ := hrun.consts N (by omega)
      have eE : ED (ops.toList.take N) st vs (fun j => listed.getD j false) = (sts N).get := by
        funext t
        rw [hrun.get N (by omega) t]
        unfold ED
        rw [hNl]
        exact fold_congr N (fun j hj => by rw [← getD_tf (by rw [hinv.size]; omega)]; exact hall j hj)
      have eH : HD (ops.toList.take N) st us cs (fun j => listed.getD j false) = (sts N).lk := by
        funext k
        rw [hrun.lk N (by omega) k]
        unfold HD
        rw [hNl]
        exact fold_congr N (fun j hj => by rw [← getD_tf (by rw [hinv.size]; omega)]; exact hall j hj)
      rw [eE, eH] at hs
      rw [eH] at hevo
      have hsN : Sat R φ (sts N) a w := by
        refine ⟨?_, by have := hs0.fx; omega⟩
        rw [hcn, hcg, hcx]
        rw [hNl] at hs
        exact hs
      refine tail_any hT hdr0 hd hQ fuel N listed a w (sts N) R φ (Nat.le_refl _) hNle hinv.size (fun j hj => ⟨fun hl => ?_, fun hl => hall j hl⟩) ?_ htail hsN ⟨hevo, fun id hid => hpl id (by have := hs0.fx; omega), hcf, hcn⟩
      · rcases Nat.lt_or_ge j N with h' | h'
        · exact h'
        · have := hinv.tail j h' hj; rw [this] at hl; simp at hl
      ·
        have : ∀ k, k ≤ ops.size → N ≤ k → k - N ≤ ((List.range k).filter fun i => !listed.getD i true).length := by
          intro k
          induction k with
          | zero => intro _ _; omega
          | succ k ihk =>
            intro h1 h2
            rcases Nat.lt_or_ge k N with h' | h'
            · omega
            · have ih1 := ihk (by omega) h'
              have hk := hinv.tail k h' (by omega)
              rw [List.range_succ, List.filter_append, List.length_append]
              have e1 : ([k].filter fun i => !listed.getD i true) = [k] := by rw [List.filter_cons_of_pos (by rw [hk]; rfl)]; rfl
              rw [e1]
              simp only [List.length_singleton]
              omega
        have := this ops.size (Nat.le_refl _) hNle
        unfold unl at hfuel
        omega
    intro fuel
    induction fuel with
    | zero =>
      intro listed a w R φ hinv hfuel hs hevo hpl
      exact full 0 listed a w R φ hinv hfuel (fun j hj => unl_zero (N := ops.size) (by omega) j (by omega)) hs hevo hpl
    | succ fuel ih =>
      intro listed a w R φ hinv hfuel hs hevo hpl
      by_cases hall : ∀ j, j < N → listed.getD j true = true
      · exact full (fuel + 1) listed a w R φ hinv hfuel hall hs hevo hpl
      · have : ∃ j, j < N ∧ listed.getD j true = false := by
          refine Classical.byContradiction fun hn => hall fun j hj => ?_
          cases hl : listed.getD j true with
          | true => rfl
          | false => exact absurd ⟨j, hj, hl⟩ hn
        obtain ⟨j0, hj0, hl0⟩ := this
        refine ⟨fun hr => ?_, fun i hi => ?_⟩
        · obtain ⟨i, hi⟩ := ready_ex hedge hinv.size (j0 + 1) j0 (by omega) (by omega) hl0
          rw [hr] at hi; simp at hi
        · have hiN : i < N := by
            rcases Nat.lt_or_ge i N with h' | h'
            · exact h'
            · exfalso
              rcases hdr with hdr | ⟨⟨hn, hsink⟩, hchain⟩
              · have := Nat.eq_of_beq_eq_true hdr
                obtain ⟨_, o, ho, _⟩ := mem_ready.1 hi
                have := (Array.getElem?_eq_some_iff.1 ho).1
                omega
              · exact tail_waits hsink hchain (by have := Nat.le_of_ble_eq_true hn; omega) hinv _ j0 rfl hj0 hl0 i h' hi
          obtain ⟨h1, o, ho, hallr⟩ := mem_ready.1 hi
          have ho' : (ops.toList.take N)[i]? = some o := by rw [hosg i, if_pos hiN]; exact ho
          have hi0 : listed.getD i false = false := getD_both h1
          have hdo : dstB o st.n = true := by
            rw [Array.all_eq_true_iff_forall_mem] at hd
            exact hd o (by obtain ⟨h', rfl⟩ := Array.getElem?_eq_some_iff.1 ho; exact Array.getElem_mem h')
          have hL : (fun j => if j = i then true else listed.getD j false) = fun j => (listed.setIfInBounds i true).getD j false := by
            funext j
            by_cases e : j = i
            · subst e; simp [hinv.size]; omega
            · rw [if_neg e, getD_set_ne false (Ne.symm e)]
          unfold wpOp
          simp only [ho]
          refine head_step hrun hord hops hs0.s.hnext (L := fun j => listed.getD j false) (fun j oj hj hl => hinv.closed j oj hj hl) ho' hi0 hallr hs hdo ?_
          intro R' φ' a' w' hs' hevo' hpl'
          rw [hL] at hs' hevo'
          refine ih _ a' w' R' φ' (hinv.set hi hiN) ?_ hs' (hevo.trans hevo') (fun j hj => by rw [hpl' j hj, hpl j hj])
          have := unl_set (N := ops.size) (i := i) (by omega) hinv.size h1
          omega
  have hE0 : ED (ops.toList.take N) st vs (fun j => (Array.replicate ops.size false).getD j false) = st.get := by
    funext t
    exact fold_none _ (fun j _ hl => by rw [getD_replicate_false] at hl; simp at hl)
  have hH0 : HD (ops.toList.take N) st us cs (fun j => (Array.replicate ops.size false).getD j false) = st.lk := by
    funext k
    exact fold_none _ (fun j _ hl => by rw [getD_replicate_false] at hl; simp at hl)
  refine main ops.size _ a0 w1 R0 φ0 ⟨by simp, fun j oj hj hl => by rw [getD_replicate_false] at hl; simp at hl, fun t ht ht' => by simp [ht']⟩ ?_ ?_ ?_ (fun _ _ => rfl)
  · unfold unl
    have := List.length_filter_le (fun i => !(Array.replicate ops.size false).getD i true) (List.range ops.size)
    simpa using this
  · rw [hE0, hH0]
    exact ⟨hs0.s.env, hs0.s.named, hs0.s.hnamed, fun id c hc => by have := hs0.s.hnext id c hc; omega, hs0.s.sz, hs0.s.heap, hs0.s.rlt, hs0.s.defers, hs0.s.gl⟩
  · rw [hH0]
    exact he0.evo

theorem SatF.drew {R : Prot} {φ : Place} {n next : Nat} {E : Nat → AV} {H : Heap} {gl : Gl} {a : Act} {w : World} (h : SatF R φ n next E H gl a w) (d : Nat) : SatF R φ n next E H gl a { w with drawn := d } :=
  ⟨fun t => RepV.mono (w := w) (w' := { w with drawn := d }) (fun _ _ h => h) (fun _ _ _ => rfl) (fun _ _ => rfl) (h.env t), h.named, h.hnamed, h.hnext, h.sz,
    ⟨fun j c hj => (h.heap.rel j c hj).mono rfl (fun _ _ _ _ => rfl) (fun _ _ h => h) (fun _ _ _ => rfl) (fun _ _ _ _ => ⟨rfl, fun _ h => h⟩), h.heap.inj⟩, h.rlt, h.defers,
    fun g cs hg => ⟨RepV.mono (w := w) (w' := { w with drawn := d }) (fun _ _ h => h) (fun _ _ _ => rfl) (fun _ _ => rfl) (h.gl g cs hg).1, (h.gl g cs hg).2⟩⟩

theorem Tri.draw (hm : P.follows .mixedOrders = true) {id : Nat} {ops : Array Oper} {Q : Exit → St → Prop} {st : St} (N : Nat) (hdr : drawB ops N = true) (h : awpDraw P T ops N st (fun s => Q .normal s)) : Tri P (.region id ops true) Q st := ⟨fun hd R φ a w hs => by
  refine wp_region_any hm ?_
  refine draw_sound hT hdr hd h ⟨hs.s.drew hT _, hs.fx⟩ ⟨Evo.drew R _ w _, fun _ _ => rfl, rfl, rfl⟩ ?_
  intro R' φ' st' a' w' hk hs' he
  exact ⟨by simp, by simp, R', φ', st', hk, hs', he⟩⟩
end
end Go.Fw
