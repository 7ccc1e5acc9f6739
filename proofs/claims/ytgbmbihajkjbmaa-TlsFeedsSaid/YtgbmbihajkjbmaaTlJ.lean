import Derived.Test.YtgbmbihajkjbmaaTlF
import Derived.Test.YtgbmbihajkjbmaaTlI
set_option linter.all false
/- Contracts of chapter 32: all events, equality. -/
namespace Go.Proofs.Ytgbmbihajkjbmaa.Fx
open Go Go.Fw Go.Ov Go.Tl Go.Shelf
abbrev p0 : PSt := ([], [], false, false)
theorem f27_spec (x : List UInt8) (hx : x.length ≤ 549755813888) : PSpec P [] 27 [.str x] (.list eT (feedM p0 x).2) := by
  refine pspec_intro hT Try.func27 (by decide) rfl rfl (by kernel_rfl) rfl ?_
  refine Tri.seq (Tri.reg hT ?_)
  refine Tri.seq (Tri.reg hT ?_)
  refine .inl (.inr (.inr ⟨_, (by exact fun _ => rfl), f12_spec, ?_⟩))
  refine .inl (.inr (.inl ⟨_, _, (by exact ⟨rfl, trivial⟩), f15_spec p0 x (by show 0 + x.length + 0 ≤ _; omega) _, (by rfl), ?_⟩))
  refine Tri.ret ?_
  exact ⟨rfl, trivial⟩
theorem lst_ext {α : Type} (d : α) {a b : List α} (h : a.length = b.length) (h2 : ∀ j, j < a.length → a.getD j d = b.getD j d) : a = b := by
  apply List.ext_getElem h
  intro i h3 h4
  have := h2 i h3
  rw [List.getD_eq_getElem?_getD, List.getD_eq_getElem?_getD] at this
  simpa [h3, h4] using this
set_option maxRecDepth 16000 in
set_option maxHeartbeats 1000000 in
theorem f14_spec (a b : List EvD) (ha : a.length ≤ 140737488355328) (hla : ∀ i, i < a.length → (a.getD i (Ty.dflt eT)).2.2.2.1.length ≤ 140737488355328) : PSpec P [] 14 [.list eT a, .list eT b] (.bool (decide (a = b))) := by
  refine pspec_intro hT Try.func14 (by decide) rfl rfl (by kernel_rfl) rfl ?_
  refine Tri.seq (Tri.reg hT ?_)
  refine Tri.seq ?_
  refine Tri.seq (Tri.reg hT ?_)
  refine (Tri.cond ⟨fun h1 => ?_, fun h1 => ?_⟩)
  · refine Tri.seq (Tri.reg hT ?_)
    refine Tri.ret ?_
    have q := of_decide_eq_true h1; exact ⟨congrArg AV.bool (decide_eq_false (by rintro rfl; exact q rfl)).symm, trivial⟩
  · refine (Tri.skip ?_)
    have hlen : a.length = b.length := (by have := of_decide_eq_false h1; omega)
    refine Tri.seq ?_
    refine Tri.seq (Tri.reg hT ?_)
    refine (Tri.block ?_)
    refine (Tri.loop (ι := Nat) (fun i => ⟨97, 0, 40, [(0, .list eT a), (1, .list eT b), (13, .int .i64 (a.length : Int)), (14, .int .i64 (i : Int))], [], []⟩) (fun i => i ≤ a.length ∧ ∀ j, j < i → a.getD j (Ty.dflt eT) = b.getD j (Ty.dflt eT)) (fun i => a.length - i) (0) ?_ ?_ ?_)
    · exact ⟨Nat.zero_le _, fun j hj => absurd hj (Nat.not_lt_zero j)⟩
    · exact Le.weak rfl rfl rfl rfl ⟨(by first | rfl | exact iv1 (by (try simp only [decide_eq_true_eq, decide_eq_false_iff_not, toNat_cast] at *); omega)), (by first | rfl | exact iv1 (by (try simp only [decide_eq_true_eq, decide_eq_false_iff_not, toNat_cast] at *); omega)), (by first | rfl | exact iv1 (by (try simp only [decide_eq_true_eq, decide_eq_false_iff_not, toNat_cast] at *); omega)), (by first | rfl | exact iv1 (by (try simp only [decide_eq_true_eq, decide_eq_false_iff_not, toNat_cast] at *); omega)), trivial⟩ trivial
    · intro i hi
      refine Tri.seq (Tri.reg hT ?_)
      refine Tri.seq (Tri.cond ⟨fun h2 => ?_, fun h2 => ?_⟩)
      · refine (Tri.skip ?_)
        refine Tri.seq (Tri.block ?_)
        have hlt : i < a.length := (by have := of_decide_eq_true h2; omega); have hltb : i < b.length := (by omega); have w1 : IntKind.i64.wrap ((i : Int) + 1) = ((i + 1 : Nat) : Int) := (by rw [wrapId (by omega)]; omega)
        refine Tri.le (⟨97, 0, 60, [(0, .list eT a), (1, .list eT b), (13, .int .i64 (a.length : Int)), (14, .int .i64 (i : Int))], [], []⟩) (Le.weak rfl rfl rfl rfl ⟨(by first | rfl | exact iv1 (by (try simp only [decide_eq_true_eq, decide_eq_false_iff_not, toNat_cast] at *); omega)), (by first | rfl | exact iv1 (by (try simp only [decide_eq_true_eq, decide_eq_false_iff_not, toNat_cast] at *); omega)), (by first | rfl | exact iv1 (by (try simp only [decide_eq_true_eq, decide_eq_false_iff_not, toNat_cast] at *); omega)), (by first | rfl | exact iv1 (by (try simp only [decide_eq_true_eq, decide_eq_false_iff_not, toNat_cast] at *); omega)), trivial⟩ trivial) ?_
        refine Tri.seq (Tri.reg hT ?_)
        refine Tri.seq ?_
        refine Tri.seq (Tri.drw hT hm 52 (by kernel_rfl) ?_)
        refine ⟨by omega, ?_⟩
        refine ⟨by omega, ?_⟩
        refine ⟨_, [], trivial, rfl, rfl, fun h => ⟨rfl, rfl, rfl⟩, ?_⟩
        refine ⟨_, [], trivial, rfl, rfl, fun h => ⟨rfl, rfl, rfl⟩, ?_⟩
        refine ⟨_, [], trivial, rfl, rfl, fun h => ⟨h, h, by omega, rfl, rfl, rfl⟩, ?_⟩
        refine ⟨_, [], trivial, rfl, rfl, fun h => ⟨h, rfl, rfl, rfl⟩, ?_⟩
        refine ⟨_, [], trivial, rfl, rfl, fun h => ⟨h, rfl, rfl, rfl⟩, ?_⟩
        refine ⟨_, [], trivial, rfl, rfl, fun h => ⟨rfl, rfl, rfl⟩, ?_⟩
        refine ⟨_, [], trivial, rfl, rfl, fun h => ⟨rfl, rfl, rfl⟩, ?_⟩
        refine ⟨_, [], trivial, rfl, rfl, fun h => ⟨h, h, by omega, rfl, rfl, rfl⟩, ?_⟩
        refine ⟨_, [], trivial, rfl, rfl, fun h => ⟨h, rfl, rfl, rfl⟩, ?_⟩
        refine ⟨_, [], trivial, rfl, rfl, fun h => ⟨h, rfl, rfl, rfl⟩, ?_⟩
        refine ⟨_, [], trivial, rfl, rfl, fun h => ⟨h, h, rfl, rfl, rfl⟩, ?_⟩
        refine ⟨⟨fun _ => trivial, fun hc => (gn hc)⟩, ?_⟩
        refine ⟨_, [], trivial, rfl, rfl, fun h => ⟨rfl, rfl, rfl⟩, ?_⟩
        refine ⟨_, [], trivial, rfl, rfl, fun h => ⟨rfl, rfl, rfl⟩, ?_⟩
        refine ⟨_, [], trivial, rfl, rfl, fun h => ⟨h, h, by omega, rfl, rfl, rfl⟩, ?_⟩
        refine ⟨_, [], trivial, rfl, rfl, fun h => ⟨h, rfl, rfl, rfl⟩, ?_⟩
        refine ⟨_, [], trivial, rfl, rfl, fun h => ⟨h, rfl, rfl, rfl⟩, ?_⟩
        refine ⟨_, [], trivial, rfl, rfl, fun h => ⟨rfl, rfl, rfl⟩, ?_⟩
        refine ⟨_, [], trivial, rfl, rfl, fun h => ⟨rfl, rfl, rfl⟩, ?_⟩
        refine ⟨_, [], trivial, rfl, rfl, fun h => ⟨h, h, by omega, rfl, rfl, rfl⟩, ?_⟩
        refine ⟨_, [], trivial, rfl, rfl, fun h => ⟨h, rfl, rfl, rfl⟩, ?_⟩
        refine ⟨_, [], trivial, rfl, rfl, fun h => ⟨h, rfl, rfl, rfl⟩, ?_⟩
        refine ⟨_, [], trivial, rfl, rfl, fun h => ⟨h, h, rfl, rfl, rfl⟩, ?_⟩
        refine ⟨⟨fun _ => trivial, fun hc => (gn hc)⟩, ?_⟩
        refine ⟨_, [], trivial, rfl, rfl, fun h => ⟨rfl, rfl, rfl⟩, ?_⟩
        refine ⟨_, [], trivial, rfl, rfl, fun h => ⟨rfl, rfl, rfl⟩, ?_⟩
        refine ⟨_, [], trivial, rfl, rfl, fun h => ⟨h, h, by omega, rfl, rfl, rfl⟩, ?_⟩
        refine ⟨_, [], trivial, rfl, rfl, fun h => ⟨h, rfl, rfl, rfl⟩, ?_⟩
        refine ⟨_, [], trivial, rfl, rfl, fun h => ⟨h, rfl, rfl, rfl⟩, ?_⟩
        refine ⟨_, [], trivial, rfl, rfl, fun h => ⟨h, rfl, rfl, rfl⟩, ?_⟩
        refine ⟨_, [], trivial, rfl, rfl, fun h => ⟨rfl, rfl, rfl⟩, ?_⟩
        refine ⟨_, [], trivial, rfl, rfl, fun h => ⟨rfl, rfl, rfl⟩, ?_⟩
        refine ⟨_, [], trivial, rfl, rfl, fun h => ⟨h, h, by omega, rfl, rfl, rfl⟩, ?_⟩
        refine ⟨_, [], trivial, rfl, rfl, fun h => ⟨h, rfl, rfl, rfl⟩, ?_⟩
        refine ⟨_, [], trivial, rfl, rfl, fun h => ⟨h, rfl, rfl, rfl⟩, ?_⟩
        refine ⟨_, [], trivial, rfl, rfl, fun h => ⟨h, rfl, rfl, rfl⟩, ?_⟩
        refine ⟨_, [], trivial, rfl, rfl, fun h => ⟨h, h, rfl, rfl, rfl⟩, ?_⟩
        refine ⟨⟨fun _ => trivial, fun hc => (gn hc)⟩, ?_⟩
        refine ⟨by kernel_rfl, ?_⟩
        refine (Tri.cond ⟨fun h3 => ?_, fun h3 => ?_⟩)
        · refine Tri.seq (Tri.reg hT ?_)
          refine Tri.ret ?_
          exact ⟨congrArg AV.bool (decide_eq_false (by rintro rfl; simp at h3)).symm, trivial⟩
        · refine (Tri.skip ?_)
          rw [toNat_cast] at h3; have he : (a.getD i (Ty.dflt eT)).1 = (b.getD i (Ty.dflt eT)).1 ∧ (a.getD i (Ty.dflt eT)).2.1 = (b.getD i (Ty.dflt eT)).2.1 ∧ (a.getD i (Ty.dflt eT)).2.2.1 = (b.getD i (Ty.dflt eT)).2.2.1 ∧ (a.getD i (Ty.dflt eT)).2.2.2.1.length = (b.getD i (Ty.dflt eT)).2.2.2.1.length := (by rw [ifo, ifo, ifo, Bool.or_eq_false_iff, Bool.or_eq_false_iff, Bool.or_eq_false_iff] at h3; obtain ⟨⟨⟨x1, x2⟩, x3⟩, x4⟩ := h3; exact ⟨Classical.not_not.1 (of_decide_eq_false x1), Classical.not_not.1 (of_decide_eq_false x2), Classical.not_not.1 (of_decide_eq_false x3), by have := Classical.not_not.1 (of_decide_eq_false x4); omega⟩)
          refine Tri.seq (Tri.reg hT ?_)
          refine ⟨by omega, ?_⟩
          refine (Tri.block ?_)
          refine (Tri.loop (ι := Nat) (fun k => ⟨97, 0, 90, [(0, .list eT a), (1, .list eT b), (5, .int .i64 (i : Int)), (13, .int .i64 (a.length : Int)), (14, .int .i64 (i : Int)), (74, .int .i64 ((a.getD i (Ty.dflt eT)).2.2.2.1.length : Int)), (75, .int .i64 (k : Int))], [], []⟩) (fun k => k ≤ (a.getD i (Ty.dflt eT)).2.2.2.1.length ∧ ∀ j, j < k → (a.getD i (Ty.dflt eT)).2.2.2.1.getD j [] = (b.getD i (Ty.dflt eT)).2.2.2.1.getD j []) (fun k => (a.getD i (Ty.dflt eT)).2.2.2.1.length - k) (0) ?_ ?_ ?_)
          · exact ⟨Nat.zero_le _, fun j hj => absurd hj (Nat.not_lt_zero j)⟩
          · exact Le.weak rfl rfl rfl rfl ⟨(by first | rfl | exact iv1 (by (try simp only [decide_eq_true_eq, decide_eq_false_iff_not, toNat_cast] at *); omega)), (by first | rfl | exact iv1 (by (try simp only [decide_eq_true_eq, decide_eq_false_iff_not, toNat_cast] at *); omega)), (by first | rfl | exact iv1 (by (try simp only [decide_eq_true_eq, decide_eq_false_iff_not, toNat_cast] at *); omega)), (by first | rfl | exact iv1 (by (try simp only [decide_eq_true_eq, decide_eq_false_iff_not, toNat_cast] at *); omega)), (by first | rfl | exact iv1 (by (try simp only [decide_eq_true_eq, decide_eq_false_iff_not, toNat_cast] at *); omega)), (by first | rfl | exact iv1 (by (try simp only [decide_eq_true_eq, decide_eq_false_iff_not, toNat_cast] at *); omega)), (by first | rfl | exact iv1 (by (try simp only [decide_eq_true_eq, decide_eq_false_iff_not, toNat_cast] at *); omega)), trivial⟩ trivial
          · intro k hk
            refine Tri.seq (Tri.reg hT ?_)
            refine Tri.seq (Tri.cond ⟨fun h4 => ?_, fun h4 => ?_⟩)
            · refine (Tri.skip ?_)
              refine Tri.seq (Tri.block ?_)
              have hkl : k < (a.getD i (Ty.dflt eT)).2.2.2.1.length := (by have := of_decide_eq_true h4; omega); have w2 : IntKind.i64.wrap ((k : Int) + 1) = ((k + 1 : Nat) : Int) := (by have := hla i hlt; rw [wrapId (by omega)]; omega)
              refine Tri.seq (Tri.reg hT ?_)
              refine Tri.seq (Tri.drw hT hm 17 (by kernel_rfl) ?_)
              refine ⟨by omega, ?_⟩
              refine ⟨by rw [toNat_cast]; omega, ?_⟩
              refine ⟨by omega, ?_⟩
              refine ⟨by rw [toNat_cast]; omega, ?_⟩
              refine ⟨by kernel_rfl, ?_⟩
              refine (Tri.cond ⟨fun h5 => ?_, fun h5 => ?_⟩)
              · refine Tri.seq (Tri.reg hT ?_)
                refine Tri.ret ?_
                exact ⟨congrArg AV.bool (decide_eq_false (by rintro rfl; simp at h5)).symm, trivial⟩
              · refine (Tri.skip ?_)
                refine (Tri.reg hT ?_)
                exact ⟨k + 1, ⟨hkl, fun j hj => by rcases Nat.lt_succ_iff_lt_or_eq.1 hj with q | q; exact hk.2 j q; rw [q]; rw [toNat_cast, toNat_cast] at h5; exact Classical.not_not.1 (of_decide_eq_false h5)⟩, (by omega), Le.weak rfl rfl rfl rfl ⟨(by first | rfl | exact iv1 (by (try simp only [decide_eq_true_eq, decide_eq_false_iff_not, toNat_cast] at *); omega)), (by first | rfl | exact iv1 (by (try simp only [decide_eq_true_eq, decide_eq_false_iff_not, toNat_cast] at *); omega)), (by first | rfl | exact iv1 (by (try simp only [decide_eq_true_eq, decide_eq_false_iff_not, toNat_cast] at *); omega)), (by first | rfl | exact iv1 (by (try simp only [decide_eq_true_eq, decide_eq_false_iff_not, toNat_cast] at *); omega)), (by first | rfl | exact iv1 (by (try simp only [decide_eq_true_eq, decide_eq_false_iff_not, toNat_cast] at *); omega)), (by first | rfl | exact iv1 (by (try simp only [decide_eq_true_eq, decide_eq_false_iff_not, toNat_cast] at *); omega)), congrArg (AV.int .i64) w2, trivial⟩ trivial⟩
            · refine Tri.exit ?_
              refine (Tri.reg hT ?_)
              have hkN : k = (a.getD i (Ty.dflt eT)).2.2.2.1.length := (by have := of_decide_eq_false h4; omega); have hL : (a.getD i (Ty.dflt eT)).2.2.2.1 = (b.getD i (Ty.dflt eT)).2.2.2.1 := lst_ext [] he.2.2.2 (fun j hj => hk.2 j (by omega)); have hE : (a.getD i (Ty.dflt eT)) = (b.getD i (Ty.dflt eT)) := Prod.ext he.1 (Prod.ext he.2.1 (Prod.ext he.2.2.1 (Prod.ext hL rfl)))
              exact ⟨i + 1, ⟨hlt, fun j hj => by rcases Nat.lt_succ_iff_lt_or_eq.1 hj with q | q; exact hi.2 j q; rw [q]; exact hE⟩, (by omega), Le.weak rfl rfl rfl rfl ⟨(by first | rfl | exact iv1 (by (try simp only [decide_eq_true_eq, decide_eq_false_iff_not, toNat_cast] at *); omega)), (by first | rfl | exact iv1 (by (try simp only [decide_eq_true_eq, decide_eq_false_iff_not, toNat_cast] at *); omega)), (by first | rfl | exact iv1 (by (try simp only [decide_eq_true_eq, decide_eq_false_iff_not, toNat_cast] at *); omega)), congrArg (AV.int .i64) w1, trivial⟩ trivial⟩
      · refine Tri.exit ?_
        refine Tri.seq (Tri.reg hT ?_)
        refine Tri.ret ?_
        have hN : i = a.length := (by have := of_decide_eq_false h2; omega); exact ⟨congrArg AV.bool (decide_eq_true (lst_ext (Ty.dflt eT) hlen (fun j hj => hi.2 j (by omega)))).symm, trivial⟩
theorem awT1 : (feedM p0 [21, 3, 3, 0, 2, 2, 40]).2 = [(4, 40, [], [], ())] := by decide +kernel
theorem awT2 : (feedM p0 (clientB 772 [97, 46, 98] ++ serverB 771 ++ chainB [[120], [121, 122]])).2 = [(1, 772, [97, 46, 98], [], ()), (2, 771, [], [], ()), (3, 0, [], [[120], [121, 122]], ())] := by decide +kernel
theorem awT3 : cutM 23 16384 (List.replicate (min (max (2 : Int) 0) 1048576).toNat 0) = [23, 3, 3, 0, 2, 0, 0] := by decide +kernel
theorem awT4 : (serverB 771).length = 47 := by decide +kernel
theorem awT5 : (clientB 772 [97, 46, 98] ++ serverB 771 ++ chainB [[120], [121, 122]]).length ≤ 1000 := by decide +kernel
end Go.Proofs.Ytgbmbihajkjbmaa.Fx
