import Derived.Test.YtopnempdeopjfaaEvI
set_option linter.all false
/- Contracts of chapter 24: the reference's variants, offsets, groups. -/
namespace Go.Proofs.Ytopnempdeopjfaa.Fx
open Go Go.Fw Go.Ov
set_option maxRecDepth 8000 in
theorem f69_spec (l : List Pc) (hl : ∀ p ∈ l, ((pd p).length : Int) ≤ 1073741824) (hn : l.length ≤ 140737488351232) : PSpec P [] 69 [.list pT l] (.list .str (vL (v4 l))) := by
  have e : ∀ i, i < 4 → (vL (v4 l)).take i ++ [varE l ((i + 1 : Nat) : Int)] = (vL (v4 l)).take (i + 1) := fun i hi => by
    match i, hi with
    | 0, _ => rfl
    | 1, _ => rfl
    | 2, _ => rfl
    | 3, _ => rfl
  have el : ∀ i, i ≤ 4 → ((vL (v4 l)).take i).length = i := fun i hi => by rw [List.length_take]; show min i 4 = i; omega
  refine pspec_intro hT Try.func69 (by decide) rfl rfl (by kernel_rfl) rfl ?_
  refine Tri.seq (Tri.reg hT ?_)
  refine Tri.seq (Tri.reg hT ?_)
  refine Tri.seq ?_
  refine Tri.seq (Tri.reg hT ?_)
  refine (Tri.block ?_)
  refine (Tri.loop (ι := Nat) (fun i => ⟨16, 0, 20, [(0, .list pT l), (3, .own 3 ((vL (v4 l)).take i).length), (4, .int .i64 ((i + 1 : Nat) : Int))], [(3, .arr .str ((vL (v4 l)).take i))], []⟩) (fun i => i ≤ 4) (fun i => 4 - i) (0) ?_ ?_ ?_)
  · exact Nat.zero_le _
  · exact Le.trans (Le.own 3 .str rfl) (Le.weak rfl rfl rfl rfl ⟨(by first | rfl | exact iv1 (by (try simp only [decide_eq_true_eq, decide_eq_false_iff_not, toNat_cast] at *); omega)), (by first | rfl | exact iv1 (by (try simp only [decide_eq_true_eq, decide_eq_false_iff_not, toNat_cast] at *); omega)), (by first | rfl | exact iv1 (by (try simp only [decide_eq_true_eq, decide_eq_false_iff_not, toNat_cast] at *); omega)), trivial⟩ ⟨rfl, trivial⟩)
  · intro i hi
    refine Tri.seq ?_
    refine Tri.seq (Tri.reg hT ?_)
    refine (Tri.cond ⟨fun h1 => ?_, fun h1 => ?_⟩)
    · refine (Tri.skip ?_)
      refine Tri.seq (Tri.block ?_)
      have hlt : i < 4 := (by have := of_decide_eq_true h1; omega); have w1 : IntKind.i64.wrap (((i + 1 : Nat) : Int) + 1) = ((i + 1 + 1 : Nat) : Int) := (by rw [wrapId (by omega)]; omega); have hel := el i (by omega)
      refine (Tri.reg hT ?_)
      refine .inl (.inl ⟨_, fun _ => rfl, f36_spec l _ hl hn, ?_⟩)
      refine ⟨(Nat.le_refl _), (by show _ ≤ _ ∧ (_ + 1) * _ ≤ _ ∧ _ + 1 ≤ _; dsimp only; (try simp only [decide_eq_true_eq, decide_eq_false_iff_not, toNat_cast] at *); omega), ?_⟩
      refine (Tri.reg hT ?_)
      exact ⟨i + 1, hlt, (by omega), Le.weak rfl rfl rfl rfl ⟨(by first | rfl | exact iv1 (by (try simp only [decide_eq_true_eq, decide_eq_false_iff_not, toNat_cast] at *); omega)), congrArg (AV.own 3) (by rw [(e i hlt).symm]; exact List.length_append.symm), congrArg (AV.int .i64) w1, trivial⟩ ⟨congrArg (fun l => some (Chunk.arr _ l)) (by rw [(e i hlt).symm]; first | rfl | (rw [List.take_length]; rfl)), trivial⟩⟩
    · refine Tri.exit ?_
      refine Tri.seq (Tri.reg hT ?_)
      refine Tri.le ⟨16, 0, 0, [(2, .list .str (vL (v4 l)))], [], []⟩ (Le.trans (Le.freeze 2 _ _ rfl rfl (by first | exact Nat.le_refl _ | (rw [List.length_append, List.length_take]; exact Nat.le_of_eq (by simp)))) (Le.weak rfl rfl rfl rfl ⟨congrArg (AV.list .str) (((List.take_length ..).trans (by have := of_decide_eq_false h1; have h4 : i = 4 := (by omega); subst h4; rfl))), trivial⟩ trivial)) ?_
      refine Tri.ret ?_
      exact ⟨rfl, trivial⟩
theorem ext_getD {α : Type} {a b : List α} {d : α} (h : a.length = b.length) (k : ∀ i, i < a.length → a.getD i d = b.getD i d) : a = b := by
  apply List.ext_getElem h
  intro i h1 h2
  have := k i h1
  rwa [List.getD_eq_getElem?_getD, List.getD_eq_getElem?_getD, List.getElem?_eq_getElem h1, List.getElem?_eq_getElem h2] at this
theorem rsE {e : Nat} {b : Bool} (h : gd b false = true) (hb : decide ((e : Int) > 0) = true → b = true) : e = 0 := by
  by_cases q : (e : Int) > 0
  · rw [hb (decide_eq_true q)] at h; cases h
  · omega
theorem vk_at {v : V4} {j : Nat} (h : j < 4) : (vL v).getD ((j : Int)).toNat (Ty.dflt .str) = vAt v j := by rw [toNat_cast]; exact vL_at v h _
set_option maxRecDepth 8000 in
theorem f43_spec (l : List Pc) (hl : ∀ p ∈ l, ((pd p).length : Int) ≤ 1073741824) (hn : l.length ≤ 140737488351232) (hb : ∀ k, (varE l k).length ≤ 4294967296) : PSpec P [] 43 [.list pT l] (.int .i64 (whereM (v4 l))) := by
  have hvm : vMax (v4 l) ≤ 17179869184 := by have := hb 1; have := hb 2; have := hb 3; have := hb 4; show (varE l 1).length + (varE l 2).length + (varE l 3).length + (varE l 4).length ≤ _; omega
  have hvl : (vL (v4 l)).length = 4 := rfl
  refine pspec_intro hT Try.func43 (by decide) rfl rfl (by kernel_rfl) rfl ?_
  refine Tri.seq (Tri.reg hT ?_)
  refine Tri.seq (Tri.reg hT ?_)
  refine .inl (.inl ⟨_, fun _ => rfl, f69_spec l hl hn, ?_⟩)
  generalize v4 l = v at *
  refine Tri.seq (Tri.reg hT ?_)
  refine (Tri.block ?_)
  refine (Tri.loop (ι := Nat) (fun a => ⟨68, 0, 20, [(3, .list .str (vL v)), (4, .int .i64 (a : Int))], [], []⟩) (fun a => a ≤ vMax v ∧ ∀ b, b < a → SameAt v b) (fun a => vMax v + 1 - a) (0) ?_ ?_ ?_)
  · exact ⟨Nat.zero_le _, fun b hb => absurd hb (Nat.not_lt_zero b)⟩
  · exact Le.weak rfl rfl rfl rfl ⟨(by first | rfl | exact iv1 (by (try simp only [decide_eq_true_eq, decide_eq_false_iff_not, toNat_cast] at *); omega)), (by first | rfl | exact iv1 (by (try simp only [decide_eq_true_eq, decide_eq_false_iff_not, toNat_cast] at *); omega)), trivial⟩ trivial
  · intro a ha; have ha1 := ha.1; have ha2 := ha.2
    refine Tri.seq (Tri.block ?_)
    refine Tri.seq (Tri.reg hT ?_)
    refine Tri.seq ?_
    refine Tri.seq (Tri.reg hT ?_)
    refine (Tri.block ?_)
    refine (Tri.loop (ι := Nat) (fun j => ⟨68, 0, 30, [(3, .list .str (vL v)), (4, .int .i64 (a : Int)), (5, .int .i64 (endN v a j : Int)), (6, .int .i64 (j : Int))], [], []⟩) (fun j => j ≤ 4) (fun j => 4 - j) (0) ?_ ?_ ?_)
    · exact Nat.zero_le _
    · exact Le.weak rfl rfl rfl rfl ⟨(by first | rfl | exact iv1 (by (try simp only [decide_eq_true_eq, decide_eq_false_iff_not, toNat_cast] at *); omega)), (by first | rfl | exact iv1 (by (try simp only [decide_eq_true_eq, decide_eq_false_iff_not, toNat_cast] at *); omega)), (by first | rfl | exact iv1 (by (try simp only [decide_eq_true_eq, decide_eq_false_iff_not, toNat_cast] at *); omega)), (by first | rfl | exact iv1 (by (try simp only [decide_eq_true_eq, decide_eq_false_iff_not, toNat_cast] at *); omega)), trivial⟩ trivial
    · intro j hj
      refine Tri.seq ?_
      refine Tri.seq (Tri.reg hT ?_)
      refine (Tri.cond ⟨fun h1 => ?_, fun h1 => ?_⟩)
      · refine (Tri.skip ?_)
        refine Tri.seq (Tri.block ?_)
        have hlt : j < 4 := (by have := of_decide_eq_true h1; omega); have hel := endN_le v a j; have en := endN_next v a j; have w1 : IntKind.i64.wrap ((j : Int) + 1) = ((j + 1 : Nat) : Int) := (by rw [wrapId (by omega)]; omega); have w2 : IntKind.i64.wrap ((endN v a j : Int) + 1) = ((endN v a j + 1 : Nat) : Int) := (by rw [wrapId (by omega)]; omega)
        refine Tri.le (⟨68, 0, 40, [(3, .list .str (vL v)), (4, .int .i64 (a : Int)), (5, .int .i64 (endN v a j : Int)), (6, .int .i64 (j : Int))], [], []⟩) (Le.weak rfl rfl rfl rfl ⟨(by first | rfl | exact iv1 (by (try simp only [decide_eq_true_eq, decide_eq_false_iff_not, toNat_cast] at *); omega)), (by first | rfl | exact iv1 (by (try simp only [decide_eq_true_eq, decide_eq_false_iff_not, toNat_cast] at *); omega)), (by first | rfl | exact iv1 (by (try simp only [decide_eq_true_eq, decide_eq_false_iff_not, toNat_cast] at *); omega)), (by first | rfl | exact iv1 (by (try simp only [decide_eq_true_eq, decide_eq_false_iff_not, toNat_cast] at *); omega)), trivial⟩ trivial) ?_
        refine Tri.seq (Tri.reg hT ?_)
        refine ⟨by rw [hvl]; omega, ?_⟩
        refine (Tri.cond ⟨fun h2 => ?_, fun h2 => ?_⟩)
        · refine (Tri.reg hT ?_)
          refine (Tri.reg hT ?_)
          have q : (vAt v j).length ≤ a := (by have := of_decide_eq_true h2; rw [vk_at hlt] at this; omega); rw [if_pos q] at en
          exact ⟨j + 1, hlt, (by omega), Le.weak rfl rfl rfl rfl ⟨(by first | rfl | exact iv1 (by (try simp only [decide_eq_true_eq, decide_eq_false_iff_not, toNat_cast] at *); omega)), (by first | rfl | exact iv1 (by (try simp only [decide_eq_true_eq, decide_eq_false_iff_not, toNat_cast] at *); omega)), congrArg (AV.int .i64) (w2.trans (by rw [en])), congrArg (AV.int .i64) w1, trivial⟩ trivial⟩
        · refine (Tri.skip ?_)
          refine (Tri.reg hT ?_)
          have q : ¬ (vAt v j).length ≤ a := (by have := of_decide_eq_false h2; rw [vk_at hlt] at this; omega); rw [if_neg q] at en
          exact ⟨j + 1, hlt, (by omega), Le.weak rfl rfl rfl rfl ⟨(by first | rfl | exact iv1 (by (try simp only [decide_eq_true_eq, decide_eq_false_iff_not, toNat_cast] at *); omega)), (by first | rfl | exact iv1 (by (try simp only [decide_eq_true_eq, decide_eq_false_iff_not, toNat_cast] at *); omega)), congrArg (AV.int .i64) (by rw [en]), congrArg (AV.int .i64) w1, trivial⟩ trivial⟩
      · refine Tri.exit ?_
        refine Tri.seq ?_
        have hjN : j = 4 := (by have := of_decide_eq_false h1; omega); subst hjN
        refine Tri.le (⟨68, 0, 50, [(3, .list .str (vL v)), (4, .int .i64 (a : Int)), (5, .int .i64 (endN v a 4 : Int))], [], []⟩) (Le.weak rfl rfl rfl rfl ⟨(by first | rfl | exact iv1 (by (try simp only [decide_eq_true_eq, decide_eq_false_iff_not, toNat_cast] at *); omega)), (by first | rfl | exact iv1 (by (try simp only [decide_eq_true_eq, decide_eq_false_iff_not, toNat_cast] at *); omega)), (by first | rfl | exact iv1 (by (try simp only [decide_eq_true_eq, decide_eq_false_iff_not, toNat_cast] at *); omega)), trivial⟩ trivial) ?_
        refine Tri.seq (Tri.reg hT ?_)
        refine (Tri.cond ⟨fun h3 => ?_, fun h3 => ?_⟩)
        · refine Tri.seq (Tri.reg hT ?_)
          refine Tri.ret ?_
          have e4 : endN v a 4 = 4 := (by have := of_decide_eq_true h3; omega); exact ⟨congrArg (AV.int .i64) (whereM_eq (.inl ⟨ended_all e4 ha2, rfl⟩)).symm, trivial⟩
        · refine (Tri.skip ?_)
          have e4 : endN v a 4 ≠ 4 := (by have := of_decide_eq_false h3; omega)
          refine Tri.le (⟨68, 0, 60, [(3, .list .str (vL v)), (4, .int .i64 (a : Int)), (5, .int .i64 (endN v a 4 : Int))], [], []⟩) (Le.weak rfl rfl rfl rfl ⟨(by first | rfl | exact iv1 (by (try simp only [decide_eq_true_eq, decide_eq_false_iff_not, toNat_cast] at *); omega)), (by first | rfl | exact iv1 (by (try simp only [decide_eq_true_eq, decide_eq_false_iff_not, toNat_cast] at *); omega)), (by first | rfl | exact iv1 (by (try simp only [decide_eq_true_eq, decide_eq_false_iff_not, toNat_cast] at *); omega)), trivial⟩ trivial) ?_
          refine Tri.seq (Tri.drw hT hm 41 (by kernel_rfl) ?_)
          refine ⟨_, [], trivial, rfl, rfl, fun h => ⟨rfl, rfl, rfl⟩, ?_⟩
          refine ⟨_, [], trivial, rfl, rfl, fun h => ⟨h, (by first | ((try simp only [decide_eq_true_eq, decide_eq_false_iff_not, toNat_cast] at *); omega) | decide), rfl, rfl, rfl⟩, ?_⟩
          refine ⟨_, [], trivial, rfl, rfl, fun h => ⟨h, rfl, rfl, rfl⟩, ?_⟩
          refine ⟨_, [], trivial, rfl, rfl, fun h => ⟨rfl, rfl, rfl⟩, ?_⟩
          refine ⟨_, [], trivial, rfl, rfl, fun h => ⟨h, h, by have e0 : endN v a 4 = 0 := rsE h (fun q => by simp only [q, if_true]); have := endN_none e0 0 (by decide); show 0 ≤ _ ∧ (a : Int) < ((vAt v 0).length : Int); omega, rfl, rfl, rfl⟩, ?_⟩
          refine ⟨_, [], trivial, rfl, rfl, fun h => ⟨rfl, rfl, rfl⟩, ?_⟩
          refine ⟨_, [], trivial, rfl, rfl, fun h => ⟨h, (by first | ((try simp only [decide_eq_true_eq, decide_eq_false_iff_not, toNat_cast] at *); omega) | decide), rfl, rfl, rfl⟩, ?_⟩
          refine ⟨_, [], trivial, rfl, rfl, fun h => ⟨h, rfl, rfl, rfl⟩, ?_⟩
          refine ⟨_, [], trivial, rfl, rfl, fun h => ⟨rfl, rfl, rfl⟩, ?_⟩
          refine ⟨_, [], trivial, rfl, rfl, fun h => ⟨h, h, by have e0 : endN v a 4 = 0 := rsE h (fun q => by simp only [q, if_true]); have := endN_none e0 1 (by decide); show 0 ≤ _ ∧ (a : Int) < ((vAt v 1).length : Int); omega, rfl, rfl, rfl⟩, ?_⟩
          refine ⟨_, [], trivial, rfl, rfl, fun h => ⟨h, h, rfl, rfl, rfl⟩, ?_⟩
          refine ⟨⟨fun _ => trivial, fun hc => (gn hc)⟩, ?_⟩
          refine ⟨_, [], trivial, rfl, rfl, fun h => ⟨rfl, rfl, rfl⟩, ?_⟩
          refine ⟨_, [], trivial, rfl, rfl, fun h => ⟨h, (by first | ((try simp only [decide_eq_true_eq, decide_eq_false_iff_not, toNat_cast] at *); omega) | decide), rfl, rfl, rfl⟩, ?_⟩
          refine ⟨_, [], trivial, rfl, rfl, fun h => ⟨h, rfl, rfl, rfl⟩, ?_⟩
          refine ⟨_, [], trivial, rfl, rfl, fun h => ⟨rfl, rfl, rfl⟩, ?_⟩
          refine ⟨_, [], trivial, rfl, rfl, fun h => ⟨h, h, by have e0 : endN v a 4 = 0 := rsE h (fun q => by simp only [q, if_true]); have := endN_none e0 0 (by decide); show 0 ≤ _ ∧ (a : Int) < ((vAt v 0).length : Int); omega, rfl, rfl, rfl⟩, ?_⟩
          refine ⟨_, [], trivial, rfl, rfl, fun h => ⟨rfl, rfl, rfl⟩, ?_⟩
          refine ⟨_, [], trivial, rfl, rfl, fun h => ⟨h, (by first | ((try simp only [decide_eq_true_eq, decide_eq_false_iff_not, toNat_cast] at *); omega) | decide), rfl, rfl, rfl⟩, ?_⟩
          refine ⟨_, [], trivial, rfl, rfl, fun h => ⟨h, rfl, rfl, rfl⟩, ?_⟩
          refine ⟨_, [], trivial, rfl, rfl, fun h => ⟨rfl, rfl, rfl⟩, ?_⟩
          refine ⟨_, [], trivial, rfl, rfl, fun h => ⟨h, h, by have e0 : endN v a 4 = 0 := rsE h (fun q => by simp only [q, if_true]); have := endN_none e0 2 (by decide); show 0 ≤ _ ∧ (a : Int) < ((vAt v 2).length : Int); omega, rfl, rfl, rfl⟩, ?_⟩
          refine ⟨_, [], trivial, rfl, rfl, fun h => ⟨h, h, rfl, rfl, rfl⟩, ?_⟩
          refine ⟨⟨fun _ => trivial, fun hc => (gn hc)⟩, ?_⟩
          refine ⟨_, [], trivial, rfl, rfl, fun h => ⟨rfl, rfl, rfl⟩, ?_⟩
          refine ⟨_, [], trivial, rfl, rfl, fun h => ⟨h, (by first | ((try simp only [decide_eq_true_eq, decide_eq_false_iff_not, toNat_cast] at *); omega) | decide), rfl, rfl, rfl⟩, ?_⟩
          refine ⟨_, [], trivial, rfl, rfl, fun h => ⟨h, rfl, rfl, rfl⟩, ?_⟩
          refine ⟨_, [], trivial, rfl, rfl, fun h => ⟨rfl, rfl, rfl⟩, ?_⟩
          refine ⟨_, [], trivial, rfl, rfl, fun h => ⟨h, h, by have e0 : endN v a 4 = 0 := rsE h (fun q => by simp only [q, if_true]); have := endN_none e0 0 (by decide); show 0 ≤ _ ∧ (a : Int) < ((vAt v 0).length : Int); omega, rfl, rfl, rfl⟩, ?_⟩
          refine ⟨_, [], trivial, rfl, rfl, fun h => ⟨rfl, rfl, rfl⟩, ?_⟩
          refine ⟨_, [], trivial, rfl, rfl, fun h => ⟨h, (by first | ((try simp only [decide_eq_true_eq, decide_eq_false_iff_not, toNat_cast] at *); omega) | decide), rfl, rfl, rfl⟩, ?_⟩
          refine ⟨_, [], trivial, rfl, rfl, fun h => ⟨h, rfl, rfl, rfl⟩, ?_⟩
          refine ⟨_, [], trivial, rfl, rfl, fun h => ⟨rfl, rfl, rfl⟩, ?_⟩
          refine ⟨_, [], trivial, rfl, rfl, fun h => ⟨h, h, by have e0 : endN v a 4 = 0 := rsE h (fun q => by simp only [q, if_true]); have := endN_none e0 3 (by decide); show 0 ≤ _ ∧ (a : Int) < ((vAt v 3).length : Int); omega, rfl, rfl, rfl⟩, ?_⟩
          refine ⟨_, [], trivial, rfl, rfl, fun h => ⟨h, h, rfl, rfl, rfl⟩, ?_⟩
          refine ⟨⟨fun _ => trivial, fun hc => (gn hc)⟩, ?_⟩
          refine ⟨by kernel_rfl, ?_⟩
          refine (Tri.cond ⟨fun h4 => ?_, fun h4 => ?_⟩)
          · refine Tri.seq (Tri.reg hT ?_)
            refine Tri.ret ?_
            have hd := (refC_eq e4).1 h4; exact ⟨congrArg (AV.int .i64) (whereM_eq (.inr ⟨a, rfl, ha2, hd⟩)).symm, trivial⟩
          · refine (Tri.skip ?_)
            have hs : SameAt v a := Classical.not_not.1 (fun q => by have k : refC v a = false := h4; rw [(refC_eq e4).2 q] at k; cases k); have hlt : a < vMax v := (by rcases Nat.lt_or_ge a (vMax v) with q | q; exact q; exact absurd (show endN v a 4 = 4 by have := endN_far q; exact this) e4); have w3 : IntKind.i64.wrap ((a : Int) + 1) = ((a + 1 : Nat) : Int) := (by rw [wrapId (by omega)]; omega)
            refine (Tri.reg hT ?_)
            exact ⟨a + 1, ⟨hlt, fun b hb => by rcases Nat.lt_succ_iff_lt_or_eq.1 hb with q | q; exact ha2 b q; rw [q]; exact hs⟩, (by omega), Le.weak rfl rfl rfl rfl ⟨(by first | rfl | exact iv1 (by (try simp only [decide_eq_true_eq, decide_eq_false_iff_not, toNat_cast] at *); omega)), congrArg (AV.int .i64) w3, trivial⟩ trivial⟩
theorem f41_spec (l : List Pc) (hl : ∀ p ∈ l, ((pd p).length : Int) ≤ 1073741824) (hn : l.length ≤ 140737488351232) (hb : ∀ k, (varE l k).length ≤ 4294967296) : PSpec P [] 41 [.list pT l] (.bool (!decide (AllEq (v4 l)))) := by
  refine pspec_intro hT Try.func41 (by decide) rfl rfl (by kernel_rfl) rfl ?_
  refine Tri.seq (Tri.reg hT ?_)
  refine Tri.seq (Tri.reg hT ?_)
  refine .inl (.inl ⟨_, fun _ => rfl, f43_spec l hl hn hb, ?_⟩)
  refine Tri.ret ?_
  exact ⟨congrArg AV.bool where_ge, trivial⟩
set_option maxRecDepth 8000 in
theorem f46_spec (l : List Pc) (hl : ∀ p ∈ l, ((pd p).length : Int) ≤ 1073741824) (hn : l.length ≤ 140737488351232) : PSpec P [] 46 [.list pT l] (.list (.list (.int .i64)) (kindsM (v4 l))) := by
  have hvl : (vL (v4 l)).length = 4 := rfl
  refine pspec_intro hT Try.func46 (by decide) rfl rfl (by kernel_rfl) rfl ?_
  refine Tri.seq (Tri.reg hT ?_)
  refine Tri.seq (Tri.reg hT ?_)
  refine .inl (.inl ⟨_, fun _ => rfl, f69_spec l hl hn, ?_⟩)
  generalize v4 l = v at *
  refine Tri.seq (Tri.reg hT ?_)
  refine Tri.seq ?_
  refine Tri.seq (Tri.reg hT ?_)
  refine (Tri.block ?_)
  refine (Tri.loop (ι := Nat) (fun i => ⟨60, 0, 20, [(3, .list .str (vL v)), (4, .own 6 (kinP v i).length), (5, .int .i64 (i : Int))], [(6, .arr (.list (.int .i64)) (kinP v i))], []⟩) (fun i => i ≤ 4) (fun i => 4 - i) (0) ?_ ?_ ?_)
  · exact Nat.zero_le _
  · exact Le.trans (Le.own 4 (.list (.int .i64)) rfl) (Le.weak rfl rfl rfl rfl ⟨(by first | rfl | exact iv1 (by (try simp only [decide_eq_true_eq, decide_eq_false_iff_not, toNat_cast] at *); omega)), (by first | rfl | exact iv1 (by (try simp only [decide_eq_true_eq, decide_eq_false_iff_not, toNat_cast] at *); omega)), (by first | rfl | exact iv1 (by (try simp only [decide_eq_true_eq, decide_eq_false_iff_not, toNat_cast] at *); omega)), trivial⟩ ⟨rfl, trivial⟩)
  · intro i hi
    refine Tri.seq ?_
    refine Tri.seq (Tri.reg hT ?_)
    refine (Tri.cond ⟨fun h1 => ?_, fun h1 => ?_⟩)
    · refine (Tri.skip ?_)
      refine Tri.seq (Tri.block ?_)
      have hlt : i < 4 := (by have := of_decide_eq_true h1; omega); have hkl := kinP_len v i; have kn := kinP_next v i; have w1 : IntKind.i64.wrap ((i : Int) + 1) = ((i + 1 : Nat) : Int) := (by rw [wrapId (by omega)]; omega); have w2 : IntKind.i64.wrap ((i : Int) - 1) = (i : Int) - 1 := wrapId (by omega)
      refine Tri.le (⟨60, 0, 30, [(3, .list .str (vL v)), (4, .own 6 (kinP v i).length), (5, .int .i64 (i : Int))], [(6, .arr (.list (.int .i64)) (kinP v i))], []⟩) (Le.weak rfl rfl rfl rfl ⟨(by first | rfl | exact iv1 (by (try simp only [decide_eq_true_eq, decide_eq_false_iff_not, toNat_cast] at *); omega)), (by first | rfl | exact iv1 (by (try simp only [decide_eq_true_eq, decide_eq_false_iff_not, toNat_cast] at *); omega)), (by first | rfl | exact iv1 (by (try simp only [decide_eq_true_eq, decide_eq_false_iff_not, toNat_cast] at *); omega)), trivial⟩ ⟨rfl, trivial⟩) ?_
      refine Tri.seq (Tri.reg hT ?_)
      refine Tri.seq ?_
      refine Tri.seq (Tri.reg hT ?_)
      refine (Tri.block ?_)
      refine (Tri.loop (ι := Nat × Nat) (fun x => ⟨60, 0, 40, [(3, .list .str (vL v)), (4, .own 6 (kinP v i).length), (5, .int .i64 (i : Int)), (6, .int .i64 (x.2 : Int)), (7, .int .i64 ((x.1 : Int) - 1))], [(6, .arr (.list (.int .i64)) (kinP v i))], []⟩) (fun x => x.1 ≤ i ∧ LeastF v i x.1 x.2) (fun x => x.1) ((i, i)) ?_ ?_ ?_)
      · exact ⟨Nat.le_refl _, least_start v i⟩
      · exact Le.weak rfl rfl rfl rfl ⟨(by first | rfl | exact iv1 (by (try simp only [decide_eq_true_eq, decide_eq_false_iff_not, toNat_cast] at *); omega)), (by first | rfl | exact iv1 (by (try simp only [decide_eq_true_eq, decide_eq_false_iff_not, toNat_cast] at *); omega)), (by first | rfl | exact iv1 (by (try simp only [decide_eq_true_eq, decide_eq_false_iff_not, toNat_cast] at *); omega)), (by first | rfl | exact iv1 (by (try simp only [decide_eq_true_eq, decide_eq_false_iff_not, toNat_cast] at *); omega)), congrArg (AV.int .i64) w2, trivial⟩ ⟨rfl, trivial⟩
      · intro ⟨c, f⟩ hc; obtain ⟨hc1, hc2⟩ := hc; change c ≤ i at hc1; change LeastF v i c f at hc2
        refine Tri.seq ?_
        refine Tri.seq (Tri.reg hT ?_)
        refine (Tri.cond ⟨fun h2 => ?_, fun h2 => ?_⟩)
        · refine (Tri.skip ?_)
          refine Tri.seq (Tri.block ?_)
          obtain ⟨d, rfl⟩ : ∃ d, c = d + 1 := ⟨c - 1, by have := of_decide_eq_true h2; change ((c : Int) - 1) ≥ 0 at this; omega⟩; have w3 : IntKind.i64.wrap ((d : Int) - 1) = (d : Int) - 1 := wrapId (by omega)
          refine Tri.le (⟨60, 0, 50, [(3, .list .str (vL v)), (4, .own 6 (kinP v i).length), (5, .int .i64 (i : Int)), (6, .int .i64 (f : Int)), (7, .int .i64 (d : Int))], [(6, .arr (.list (.int .i64)) (kinP v i))], []⟩) (Le.weak rfl rfl rfl rfl ⟨(by first | rfl | exact iv1 (by (try simp only [decide_eq_true_eq, decide_eq_false_iff_not, toNat_cast] at *); omega)), (by first | rfl | exact iv1 (by (try simp only [decide_eq_true_eq, decide_eq_false_iff_not, toNat_cast] at *); omega)), (by first | rfl | exact iv1 (by (try simp only [decide_eq_true_eq, decide_eq_false_iff_not, toNat_cast] at *); omega)), (by first | rfl | exact iv1 (by (try simp only [decide_eq_true_eq, decide_eq_false_iff_not, toNat_cast] at *); omega)), congrArg (AV.int .i64) (by show (((d + 1 : Nat) : Int) - 1) = _; omega), trivial⟩ ⟨rfl, trivial⟩) ?_
          refine Tri.seq (Tri.drw hT hm 9 (by kernel_rfl) ?_)
          refine ⟨by rw [hvl]; omega, ?_⟩
          refine ⟨by rw [hvl]; omega, ?_⟩
          refine ⟨by kernel_rfl, ?_⟩
          refine (Tri.cond ⟨fun h3 => ?_, fun h3 => ?_⟩)
          · refine (Tri.reg hT ?_)
            refine (Tri.reg hT ?_)
            have e : vAt v d = vAt v i := (by have := of_decide_eq_true h3; rw [vk_at (by omega), vk_at hlt] at this; exact this)
            exact ⟨(d, d), ⟨by show d ≤ i; omega, least_hit hc2 (by omega) e⟩, (by show d < d + 1; omega), Le.weak rfl rfl rfl rfl ⟨(by first | rfl | exact iv1 (by (try simp only [decide_eq_true_eq, decide_eq_false_iff_not, toNat_cast] at *); omega)), (by first | rfl | exact iv1 (by (try simp only [decide_eq_true_eq, decide_eq_false_iff_not, toNat_cast] at *); omega)), (by first | rfl | exact iv1 (by (try simp only [decide_eq_true_eq, decide_eq_false_iff_not, toNat_cast] at *); omega)), (by first | rfl | exact iv1 (by (try simp only [decide_eq_true_eq, decide_eq_false_iff_not, toNat_cast] at *); omega)), congrArg (AV.int .i64) w3, trivial⟩ ⟨rfl, trivial⟩⟩
          · refine (Tri.skip ?_)
            refine (Tri.reg hT ?_)
            have e : ¬ vAt v d = vAt v i := (by have := of_decide_eq_false h3; rw [vk_at (by omega), vk_at hlt] at this; exact this)
            exact ⟨(d, f), ⟨by show d ≤ i; omega, least_miss hc2 e⟩, (by show d < d + 1; omega), Le.weak rfl rfl rfl rfl ⟨(by first | rfl | exact iv1 (by (try simp only [decide_eq_true_eq, decide_eq_false_iff_not, toNat_cast] at *); omega)), (by first | rfl | exact iv1 (by (try simp only [decide_eq_true_eq, decide_eq_false_iff_not, toNat_cast] at *); omega)), (by first | rfl | exact iv1 (by (try simp only [decide_eq_true_eq, decide_eq_false_iff_not, toNat_cast] at *); omega)), (by first | rfl | exact iv1 (by (try simp only [decide_eq_true_eq, decide_eq_false_iff_not, toNat_cast] at *); omega)), congrArg (AV.int .i64) w3, trivial⟩ ⟨rfl, trivial⟩⟩
        · refine Tri.exit ?_
          refine Tri.seq ?_
          have hc0 : c = 0 := (by have := of_decide_eq_false h2; change ¬ ((c : Int) - 1) ≥ 0 at this; omega); subst hc0; have hls := least_first hc2; have hfi := hc2.1
          refine Tri.le (⟨60, 0, 60, [(3, .list .str (vL v)), (4, .own 6 (kinP v i).length), (5, .int .i64 (i : Int)), (6, .int .i64 (f : Int))], [(6, .arr (.list (.int .i64)) (kinP v i))], []⟩) (Le.weak rfl rfl rfl rfl ⟨(by first | rfl | exact iv1 (by (try simp only [decide_eq_true_eq, decide_eq_false_iff_not, toNat_cast] at *); omega)), (by first | rfl | exact iv1 (by (try simp only [decide_eq_true_eq, decide_eq_false_iff_not, toNat_cast] at *); omega)), (by first | rfl | exact iv1 (by (try simp only [decide_eq_true_eq, decide_eq_false_iff_not, toNat_cast] at *); omega)), (by first | rfl | exact iv1 (by (try simp only [decide_eq_true_eq, decide_eq_false_iff_not, toNat_cast] at *); omega)), trivial⟩ ⟨rfl, trivial⟩) ?_
          refine Tri.seq (Tri.reg hT ?_)
          refine (Tri.cond ⟨fun h4 => ?_, fun h4 => ?_⟩)
          · refine Tri.exit ?_
            refine (Tri.reg hT ?_)
            have hf : isFirst v i = false := hls.1 (by have := of_decide_eq_true h4; omega); rw [if_neg (by rw [hf]; decide)] at kn
            exact ⟨i + 1, hlt, (by omega), Le.weak rfl rfl rfl rfl ⟨(by first | rfl | exact iv1 (by (try simp only [decide_eq_true_eq, decide_eq_false_iff_not, toNat_cast] at *); omega)), congrArg (AV.own 6) (by rw [kn]), congrArg (AV.int .i64) w1, trivial⟩ ⟨congrArg (fun y => some (Chunk.arr (.list (.int .i64)) y)) kn.symm, trivial⟩⟩
          · refine (Tri.skip ?_)
            have hf : isFirst v i = true := (by cases q : isFirst v i with | true => rfl | false => have := hls.2 q; have := of_decide_eq_false h4; omega); rw [if_pos hf] at kn
            refine Tri.seq (Tri.reg hT ?_)
            refine Tri.seq ?_
            refine Tri.seq (Tri.reg hT ?_)
            refine (Tri.block ?_)
            refine (Tri.loop (ι := Nat) (fun k => ⟨60, 0, 80, [(3, .list .str (vL v)), (4, .own 6 (kinP v i).length), (5, .int .i64 (i : Int)), (8, .own 66 (grpP v i k).length), (9, .int .i64 (k : Int))], [(6, .arr (.list (.int .i64)) (kinP v i)), (66, .arr (.int .i64) (grpP v i k))], []⟩) (fun k => i ≤ k ∧ k ≤ 4) (fun k => 4 - k) (i) ?_ ?_ ?_)
            · exact ⟨Nat.le_refl _, by omega⟩
            · have e0 : ([] : List Int) = grpP v i i := (grpP_zero v i).symm
              exact Le.trans (Le.own 8 (.int .i64) rfl) (Le.weak rfl rfl rfl rfl ⟨(by first | rfl | exact iv1 (by (try simp only [decide_eq_true_eq, decide_eq_false_iff_not, toNat_cast] at *); omega)), (by first | rfl | exact iv1 (by (try simp only [decide_eq_true_eq, decide_eq_false_iff_not, toNat_cast] at *); omega)), (by first | rfl | exact iv1 (by (try simp only [decide_eq_true_eq, decide_eq_false_iff_not, toNat_cast] at *); omega)), congrArg (AV.own 66) (congrArg List.length (e0)), (by first | rfl | exact iv1 (by (try simp only [decide_eq_true_eq, decide_eq_false_iff_not, toNat_cast] at *); omega)), trivial⟩ ⟨rfl, congrArg (fun l => some (Chunk.arr _ l)) (e0), trivial⟩)
            · intro k hk
              refine Tri.seq ?_
              refine Tri.seq (Tri.reg hT ?_)
              refine (Tri.cond ⟨fun h5 => ?_, fun h5 => ?_⟩)
              · refine (Tri.skip ?_)
                refine Tri.seq (Tri.block ?_)
                have hk4 : k < 4 := (by have := of_decide_eq_true h5; omega); have gn := grpP_next (v := v) hk.1; have hgl := grpP_len v i k; have w4 : IntKind.i64.wrap ((k : Int) + 1) = ((k + 1 : Nat) : Int) := (by rw [wrapId (by omega)]; omega)
                refine Tri.le (⟨60, 0, 90, [(3, .list .str (vL v)), (4, .own 6 (kinP v i).length), (5, .int .i64 (i : Int)), (8, .own 66 (grpP v i k).length), (9, .int .i64 (k : Int))], [(6, .arr (.list (.int .i64)) (kinP v i)), (66, .arr (.int .i64) (grpP v i k))], []⟩) (Le.weak rfl rfl rfl rfl ⟨(by first | rfl | exact iv1 (by (try simp only [decide_eq_true_eq, decide_eq_false_iff_not, toNat_cast] at *); omega)), (by first | rfl | exact iv1 (by (try simp only [decide_eq_true_eq, decide_eq_false_iff_not, toNat_cast] at *); omega)), (by first | rfl | exact iv1 (by (try simp only [decide_eq_true_eq, decide_eq_false_iff_not, toNat_cast] at *); omega)), (by first | rfl | exact iv1 (by (try simp only [decide_eq_true_eq, decide_eq_false_iff_not, toNat_cast] at *); omega)), (by first | rfl | exact iv1 (by (try simp only [decide_eq_true_eq, decide_eq_false_iff_not, toNat_cast] at *); omega)), trivial⟩ ⟨rfl, rfl, trivial⟩) ?_
                refine Tri.seq (Tri.drw hT hm 9 (by kernel_rfl) ?_)
                refine ⟨by rw [hvl]; omega, ?_⟩
                refine ⟨by rw [hvl]; omega, ?_⟩
                refine ⟨by kernel_rfl, ?_⟩
                refine (Tri.cond ⟨fun h6 => ?_, fun h6 => ?_⟩)
                · refine (Tri.reg hT ?_)
                  refine ⟨(Nat.le_refl _), (by show _ ≤ _ ∧ (_ + 1) * _ ≤ _ ∧ _ + 1 ≤ _; dsimp only; (try simp only [decide_eq_true_eq, decide_eq_false_iff_not, toNat_cast] at *); omega), ?_⟩
                  refine (Tri.reg hT ?_)
                  have e : vAt v k = vAt v i := (by have := of_decide_eq_true h6; rw [vk_at hk4, vk_at hlt] at this; exact this); rw [if_pos e, ← w4] at gn
                  exact ⟨k + 1, ⟨by omega, hk4⟩, (by omega), Le.weak rfl rfl rfl rfl ⟨(by first | rfl | exact iv1 (by (try simp only [decide_eq_true_eq, decide_eq_false_iff_not, toNat_cast] at *); omega)), (by first | rfl | exact iv1 (by (try simp only [decide_eq_true_eq, decide_eq_false_iff_not, toNat_cast] at *); omega)), (by first | rfl | exact iv1 (by (try simp only [decide_eq_true_eq, decide_eq_false_iff_not, toNat_cast] at *); omega)), congrArg (AV.own 66) (by rw [gn]; exact List.length_append.symm), congrArg (AV.int .i64) w4, trivial⟩ ⟨rfl, congrArg (fun l => some (Chunk.arr _ l)) (by rw [gn]; first | rfl | (rw [List.take_length]; rfl)), trivial⟩⟩
                · refine (Tri.skip ?_)
                  refine (Tri.reg hT ?_)
                  have e : ¬ vAt v k = vAt v i := (by have := of_decide_eq_false h6; rw [vk_at hk4, vk_at hlt] at this; exact this); rw [if_neg e] at gn
                  exact ⟨k + 1, ⟨by omega, hk4⟩, (by omega), Le.weak rfl rfl rfl rfl ⟨(by first | rfl | exact iv1 (by (try simp only [decide_eq_true_eq, decide_eq_false_iff_not, toNat_cast] at *); omega)), (by first | rfl | exact iv1 (by (try simp only [decide_eq_true_eq, decide_eq_false_iff_not, toNat_cast] at *); omega)), (by first | rfl | exact iv1 (by (try simp only [decide_eq_true_eq, decide_eq_false_iff_not, toNat_cast] at *); omega)), congrArg (AV.own 66) (by rw [gn]), congrArg (AV.int .i64) w4, trivial⟩ ⟨rfl, congrArg (fun y => some (Chunk.arr (.int .i64) y)) gn.symm, trivial⟩⟩
              · refine Tri.exit ?_
                have hk4 : k = 4 := (by have := of_decide_eq_false h5; omega); subst hk4; refine Tri.le _ (Le.freeze 8 66 (grpP v i 4).length rfl rfl (Nat.le_refl _)) ?_
                refine (Tri.reg hT ?_)
                refine ⟨(Nat.le_refl _), (by show _ ≤ _ ∧ (_ + 1) * _ ≤ _ ∧ _ + 1 ≤ _; dsimp only; (try simp only [decide_eq_true_eq, decide_eq_false_iff_not, toNat_cast] at *); omega), ?_⟩
                refine (Tri.reg hT ?_)
                have e : kinP v (i + 1) = kinP v i ++ [(grpP v i 4).take (grpP v i 4).length] := (by rw [kn, List.take_length]; rfl)
                exact ⟨i + 1, hlt, (by omega), Le.weak rfl rfl rfl rfl ⟨(by first | rfl | exact iv1 (by (try simp only [decide_eq_true_eq, decide_eq_false_iff_not, toNat_cast] at *); omega)), congrArg (AV.own 6) (by rw [e]; exact List.length_append.symm), congrArg (AV.int .i64) w1, trivial⟩ ⟨congrArg (fun l => some (Chunk.arr _ l)) (by rw [e]; first | rfl | (rw [List.take_length]; rfl)), trivial⟩⟩
    · refine Tri.exit ?_
      refine Tri.seq (Tri.reg hT ?_)
      refine Tri.le ⟨60, 0, 0, [(2, .list (.list (.int .i64)) (kindsM v))], [], []⟩ (Le.trans (Le.freeze 2 _ _ rfl rfl (by first | exact Nat.le_refl _ | (rw [List.length_append, List.length_take]; exact Nat.le_of_eq (by simp)))) (Le.weak rfl rfl rfl rfl ⟨congrArg (AV.list (.list (.int .i64))) (((List.take_length ..).trans (by have := of_decide_eq_false h1; have h4 : i = 4 := (by omega); subst h4; rfl))), trivial⟩ trivial)) ?_
      refine Tri.ret ?_
      exact ⟨rfl, trivial⟩
set_option maxRecDepth 8000 in
theorem f44_spec (a b : List (List Int)) (ha : a.length ≤ 1099511627776) (hal : ∀ x ∈ a, x.length ≤ 1099511627776) : PSpec P [] 44 [.list (.list (.int .i64)) a, .list (.list (.int .i64)) b] (.bool (decide (a = b))) := by
  refine pspec_intro hT Try.func44 (by decide) rfl rfl (by kernel_rfl) rfl ?_
  refine Tri.seq (Tri.reg hT ?_)
  refine Tri.seq ?_
  refine Tri.seq (Tri.reg hT ?_)
  refine (Tri.cond ⟨fun h1 => ?_, fun h1 => ?_⟩)
  · refine Tri.seq (Tri.reg hT ?_)
    refine Tri.ret ?_
    have q := of_decide_eq_true h1; exact ⟨congrArg AV.bool (decide_eq_false (fun e => q (by rw [e]))).symm, trivial⟩
  · refine (Tri.skip ?_)
    have hab : a.length = b.length := (by have := Classical.not_not.1 (of_decide_eq_false h1); omega)
    refine Tri.seq ?_
    refine Tri.seq (Tri.reg hT ?_)
    refine (Tri.block ?_)
    refine (Tri.loop (ι := Nat) (fun i => ⟨53, 0, 20, [(0, .list (.list (.int .i64)) a), (1, .list (.list (.int .i64)) b), (5, .int .i64 (i : Int))], [], []⟩) (fun i => i ≤ a.length ∧ ∀ j, j < i → a.getD j [] = b.getD j []) (fun i => a.length - i) (0) ?_ ?_ ?_)
    · exact ⟨Nat.zero_le _, fun j hj => absurd hj (Nat.not_lt_zero j)⟩
    · exact Le.weak rfl rfl rfl rfl ⟨(by first | rfl | exact iv1 (by (try simp only [decide_eq_true_eq, decide_eq_false_iff_not, toNat_cast] at *); omega)), (by first | rfl | exact iv1 (by (try simp only [decide_eq_true_eq, decide_eq_false_iff_not, toNat_cast] at *); omega)), (by first | rfl | exact iv1 (by (try simp only [decide_eq_true_eq, decide_eq_false_iff_not, toNat_cast] at *); omega)), trivial⟩ trivial
    · intro i hi
      refine Tri.seq ?_
      refine Tri.seq (Tri.reg hT ?_)
      refine (Tri.cond ⟨fun h2 => ?_, fun h2 => ?_⟩)
      · refine (Tri.skip ?_)
        refine Tri.seq (Tri.block ?_)
        have hlt : i < a.length := (by have := of_decide_eq_true h2; omega); have hxl := hal _ (getD_mem (d := ([] : List Int)) hlt); have w1 : IntKind.i64.wrap ((i : Int) + 1) = ((i + 1 : Nat) : Int) := (by rw [wrapId (by omega)]; omega)
        refine Tri.seq ?_
        refine Tri.seq (Tri.drw hT hm 11 (by kernel_rfl) ?_)
        refine ⟨by omega, ?_⟩
        refine ⟨by omega, ?_⟩
        refine ⟨by kernel_rfl, ?_⟩
        refine (Tri.cond ⟨fun h3 => ?_, fun h3 => ?_⟩)
        · refine Tri.seq (Tri.reg hT ?_)
          refine Tri.ret ?_
          have q := of_decide_eq_true h3; exact ⟨congrArg AV.bool (decide_eq_false (fun e => q (by rw [e]))).symm, trivial⟩
        · refine (Tri.skip ?_)
          have hlen : (a.getD i []).length = (b.getD i []).length := (by have := Classical.not_not.1 (of_decide_eq_false h3); rw [toNat_cast] at this; change ((a.getD i []).length : Int) = ((b.getD i []).length : Int) at this; omega)
          refine Tri.le (⟨53, 0, 30, [(0, .list (.list (.int .i64)) a), (1, .list (.list (.int .i64)) b), (5, .int .i64 (i : Int))], [], []⟩) (Le.weak rfl rfl rfl rfl ⟨(by first | rfl | exact iv1 (by (try simp only [decide_eq_true_eq, decide_eq_false_iff_not, toNat_cast] at *); omega)), (by first | rfl | exact iv1 (by (try simp only [decide_eq_true_eq, decide_eq_false_iff_not, toNat_cast] at *); omega)), (by first | rfl | exact iv1 (by (try simp only [decide_eq_true_eq, decide_eq_false_iff_not, toNat_cast] at *); omega)), trivial⟩ trivial) ?_
          refine Tri.seq (Tri.reg hT ?_)
          refine (Tri.block ?_)
          refine (Tri.loop (ι := Nat) (fun k => ⟨53, 0, 40, [(0, .list (.list (.int .i64)) a), (1, .list (.list (.int .i64)) b), (5, .int .i64 (i : Int)), (6, .int .i64 (k : Int))], [], []⟩) (fun k => k ≤ (a.getD i []).length ∧ ∀ m, m < k → (a.getD i []).getD m 0 = (b.getD i []).getD m 0) (fun k => (a.getD i []).length - k) (0) ?_ ?_ ?_)
          · exact ⟨Nat.zero_le _, fun j hj => absurd hj (Nat.not_lt_zero j)⟩
          · exact Le.weak rfl rfl rfl rfl ⟨(by first | rfl | exact iv1 (by (try simp only [decide_eq_true_eq, decide_eq_false_iff_not, toNat_cast] at *); omega)), (by first | rfl | exact iv1 (by (try simp only [decide_eq_true_eq, decide_eq_false_iff_not, toNat_cast] at *); omega)), (by first | rfl | exact iv1 (by (try simp only [decide_eq_true_eq, decide_eq_false_iff_not, toNat_cast] at *); omega)), (by first | rfl | exact iv1 (by (try simp only [decide_eq_true_eq, decide_eq_false_iff_not, toNat_cast] at *); omega)), trivial⟩ trivial
          · intro k hk
            refine Tri.seq ?_
            refine Tri.seq (Tri.reg hT ?_)
            refine ⟨by omega, ?_⟩
            refine (Tri.cond ⟨fun h4 => ?_, fun h4 => ?_⟩)
            · refine (Tri.skip ?_)
              refine Tri.seq (Tri.block ?_)
              have hkl : k < (a.getD i []).length := (by have := of_decide_eq_true h4; rw [toNat_cast] at this; change (k : Int) < ((a.getD i []).length : Int) at this; omega); have w2 : IntKind.i64.wrap ((k : Int) + 1) = ((k + 1 : Nat) : Int) := (by rw [wrapId (by omega)]; omega)
              refine Tri.seq (Tri.drw hT hm 15 (by kernel_rfl) ?_)
              refine ⟨by omega, ?_⟩
              refine ⟨by rw [toNat_cast]; show 0 ≤ (k : Int) ∧ (k : Int) < ((a.getD i []).length : Int); omega, ?_⟩
              refine ⟨by omega, ?_⟩
              refine ⟨by rw [toNat_cast]; show 0 ≤ (k : Int) ∧ (k : Int) < ((b.getD i []).length : Int); omega, ?_⟩
              refine ⟨by kernel_rfl, ?_⟩
              refine (Tri.cond ⟨fun h5 => ?_, fun h5 => ?_⟩)
              · refine Tri.seq (Tri.reg hT ?_)
                refine Tri.ret ?_
                have q := of_decide_eq_true h5; exact ⟨congrArg AV.bool (decide_eq_false (fun e => q (by rw [e]))).symm, trivial⟩
              · refine (Tri.skip ?_)
                refine (Tri.reg hT ?_)
                have q := Classical.not_not.1 (of_decide_eq_false h5); rw [toNat_cast, toNat_cast] at q
                exact ⟨k + 1, ⟨hkl, fun m hm => by rcases Nat.lt_succ_iff_lt_or_eq.1 hm with p | p; exact hk.2 m p; rw [p]; exact q⟩, (by omega), Le.weak rfl rfl rfl rfl ⟨(by first | rfl | exact iv1 (by (try simp only [decide_eq_true_eq, decide_eq_false_iff_not, toNat_cast] at *); omega)), (by first | rfl | exact iv1 (by (try simp only [decide_eq_true_eq, decide_eq_false_iff_not, toNat_cast] at *); omega)), (by first | rfl | exact iv1 (by (try simp only [decide_eq_true_eq, decide_eq_false_iff_not, toNat_cast] at *); omega)), congrArg (AV.int .i64) w2, trivial⟩ trivial⟩
            · refine Tri.exit ?_
              refine (Tri.reg hT ?_)
              have hkN : k = (a.getD i []).length := (by have := of_decide_eq_false h4; rw [toNat_cast] at this; change ¬ (k : Int) < ((a.getD i []).length : Int) at this; have := hk.1; omega); have he : a.getD i [] = b.getD i [] := ext_getD hlen (d := 0) (fun m hm => hk.2 m (by omega))
              exact ⟨i + 1, ⟨hlt, fun j hj => by rcases Nat.lt_succ_iff_lt_or_eq.1 hj with p | p; exact hi.2 j p; rw [p]; exact he⟩, (by omega), Le.weak rfl rfl rfl rfl ⟨(by first | rfl | exact iv1 (by (try simp only [decide_eq_true_eq, decide_eq_false_iff_not, toNat_cast] at *); omega)), (by first | rfl | exact iv1 (by (try simp only [decide_eq_true_eq, decide_eq_false_iff_not, toNat_cast] at *); omega)), congrArg (AV.int .i64) w1, trivial⟩ trivial⟩
      · refine Tri.exit ?_
        refine Tri.seq (Tri.reg hT ?_)
        refine Tri.ret ?_
        have hiN : i = a.length := (by have := of_decide_eq_false h2; have := hi.1; omega); exact ⟨congrArg AV.bool (decide_eq_true (ext_getD hab (d := []) (fun j hj => hi.2 j (by omega)))).symm, trivial⟩
end Go.Proofs.Ytopnempdeopjfaa.Fx
