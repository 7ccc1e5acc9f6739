import Derived.Test.YtchiagnggnblaaaDoorCnL
import Derived.Test.YtchiagnggnblaaaDoorGFw11
set_option linter.all false
/- Chapter 21: how many bytes wait. -/
namespace Go.Proofs.YtchiagnggnblaaaDoor.Ac
open Go Go.Fw Go.Ov Go.Proofs.YtchiagnggnblaaaDoor.Fx
set_option maxRecDepth 16000 in
theorem f14_n (st : Int) (p g : Hf) (h6 : st ≠ 6) : HSpec P G 14 [.loc 0 0] (cnN st p g) (.int .i64 0) (cnN st p g) := by
  refine fspec_intro hT (cnN st p g) (cnN st p g) 1 1 Tryd.func14 (by decide) rfl rfl (by kernel_rfl) rfl rfl ?_
  refine Tri.seq (Tri.reg hT ?_)
  refine Tri.seq ?_
  refine Tri.seq (Tri.reg hT ?_)
  refine ⟨_, [], trivial, rfl, rfl, fun h => ⟨rfl, rfl, rfl⟩, ?_⟩
  refine ⟨_, [], trivial, rfl, rfl, fun h => ⟨h, rfl, rfl, rfl⟩, ?_⟩
  refine ⟨_, [], trivial, rfl, rfl, fun h => ⟨h, rfl, rfl, rfl⟩, ?_⟩
  refine ⟨_, [], trivial, rfl, rfl, fun h => ⟨h, rfl, rfl, rfl⟩, ?_⟩
  refine ⟨_, [], trivial, rfl, rfl, fun h => ⟨h, rfl, rfl, rfl⟩, ?_⟩
  refine ⟨⟨fun _ => trivial, fun hc => (gn hc)⟩, ?_⟩
  refine (Tri.cond ⟨fun h1 => ?_, fun h1 => ?_⟩)
  · exact absurd h1 (by simp [iteO, h6])
  · refine (Tri.skip ?_)
    refine Tri.seq (Tri.reg hT ?_)
    refine Tri.seq ?_
    refine Tri.seq (Tri.reg hT ?_)
    refine (Tri.block ?_)
    refine (Tri.loopN 4 ?_)
    refine TriL.go (Tri.le (S := ⟨32, 1, 40, [(3, .int .i64 0), (18, .agg ((cnC st p g .nilp .nilp).drop 1)), (19, .int .i64 0)], [(0, .box (cnC st p g .nilp .nilp))], G⟩) (Le.weak rfl rfl rfl rfl ⟨(by first | rfl | exact iv1 (by (try simp only [decide_eq_true_eq, decide_eq_false_iff_not, toNat_cast] at *); omega)), (by first | rfl | exact iv1 (by (try simp only [decide_eq_true_eq, decide_eq_false_iff_not, toNat_cast] at *); omega)), (by first | rfl | exact iv1 (by (try simp only [decide_eq_true_eq, decide_eq_false_iff_not, toNat_cast] at *); omega)), trivial⟩ ⟨rfl, trivial⟩) ?_)
    refine Tri.seq (Tri.reg hT ?_)
    refine Tri.seq (Tri.cond ⟨fun hq => ?_, fun hq => absurd hq (by decide)⟩)
    refine (Tri.skip ?_)
    refine Tri.seq (Tri.block ?_)
    refine Tri.seq (Tri.reg hT ?_)
    refine ⟨(by first | ((try simp only [decide_eq_true_eq, decide_eq_false_iff_not, toNat_cast] at *); omega) | decide), ?_⟩
    refine Tri.seq (Tri.reg hT ?_)
    refine (Tri.cond ⟨fun h2 => ?_, fun h2 => ?_⟩)
    · cases h2
    · refine (Tri.skip ?_)
      refine (Tri.reg hT ?_)
      refine TriL.go (Tri.le (S := ⟨32, 1, 60, [(3, .int .i64 0), (18, .agg ((cnC st p g .nilp .nilp).drop 1)), (19, .int .i64 1)], [(0, .box (cnC st p g .nilp .nilp))], G⟩) (Le.weak rfl rfl rfl rfl ⟨(by first | rfl | exact iv1 (by (try simp only [decide_eq_true_eq, decide_eq_false_iff_not, toNat_cast] at *); omega)), (by first | rfl | exact iv1 (by (try simp only [decide_eq_true_eq, decide_eq_false_iff_not, toNat_cast] at *); omega)), (by first | rfl | exact iv1 (by (try simp only [decide_eq_true_eq, decide_eq_false_iff_not, toNat_cast] at *); omega)), trivial⟩ ⟨rfl, trivial⟩) ?_)
      refine Tri.seq (Tri.reg hT ?_)
      refine Tri.seq (Tri.cond ⟨fun hq => ?_, fun hq => absurd hq (by decide)⟩)
      refine (Tri.skip ?_)
      refine Tri.seq (Tri.block ?_)
      refine Tri.seq (Tri.reg hT ?_)
      refine ⟨(by first | ((try simp only [decide_eq_true_eq, decide_eq_false_iff_not, toNat_cast] at *); omega) | decide), ?_⟩
      refine Tri.seq (Tri.reg hT ?_)
      refine (Tri.cond ⟨fun h3 => ?_, fun h3 => ?_⟩)
      · cases h3
      · refine (Tri.skip ?_)
        refine (Tri.reg hT ?_)
        refine TriL.go (Tri.le (S := ⟨32, 1, 80, [(3, .int .i64 0), (18, .agg ((cnC st p g .nilp .nilp).drop 1)), (19, .int .i64 2)], [(0, .box (cnC st p g .nilp .nilp))], G⟩) (Le.weak rfl rfl rfl rfl ⟨(by first | rfl | exact iv1 (by (try simp only [decide_eq_true_eq, decide_eq_false_iff_not, toNat_cast] at *); omega)), (by first | rfl | exact iv1 (by (try simp only [decide_eq_true_eq, decide_eq_false_iff_not, toNat_cast] at *); omega)), (by first | rfl | exact iv1 (by (try simp only [decide_eq_true_eq, decide_eq_false_iff_not, toNat_cast] at *); omega)), trivial⟩ ⟨rfl, trivial⟩) ?_)
        refine Tri.seq (Tri.reg hT ?_)
        refine Tri.seq (Tri.cond ⟨fun hq => ?_, fun hq => absurd hq (by decide)⟩)
        refine (Tri.skip ?_)
        refine Tri.seq (Tri.block ?_)
        refine Tri.seq (Tri.reg hT ?_)
        refine ⟨(by first | ((try simp only [decide_eq_true_eq, decide_eq_false_iff_not, toNat_cast] at *); omega) | decide), ?_⟩
        refine Tri.seq (Tri.reg hT ?_)
        refine (Tri.cond ⟨fun h4 => ?_, fun h4 => ?_⟩)
        · cases h4
        · refine (Tri.skip ?_)
          refine (Tri.reg hT ?_)
          refine TriL.go (Tri.le (S := ⟨32, 1, 100, [(3, .int .i64 0), (18, .agg ((cnC st p g .nilp .nilp).drop 1)), (19, .int .i64 3)], [(0, .box (cnC st p g .nilp .nilp))], G⟩) (Le.weak rfl rfl rfl rfl ⟨(by first | rfl | exact iv1 (by (try simp only [decide_eq_true_eq, decide_eq_false_iff_not, toNat_cast] at *); omega)), (by first | rfl | exact iv1 (by (try simp only [decide_eq_true_eq, decide_eq_false_iff_not, toNat_cast] at *); omega)), (by first | rfl | exact iv1 (by (try simp only [decide_eq_true_eq, decide_eq_false_iff_not, toNat_cast] at *); omega)), trivial⟩ ⟨rfl, trivial⟩) ?_)
          refine Tri.seq (Tri.reg hT ?_)
          refine Tri.seq (Tri.cond ⟨fun hq => absurd hq (by decide), fun hq => ?_⟩)
          refine Tri.exit ?_
          refine Tri.seq (Tri.reg hT ?_)
          refine Tri.ret ?_
          exact ⟨rfl, rfl, trivial⟩
set_option maxRecDepth 16000 in
theorem f14_h (st : Int) (p g : Hf) (s t : SS) (B : Int) (is : SInv s B) (it : SInv t B) (h6 : st ≠ 6) : HSpec P G 14 [.loc 0 0] (cnH st p g s t) (.int .i64 (lenSum s.l + lenSum t.l)) (cnH st p g s t) := by
  have hs1 := is.size
  have hs2 := it.size
  have hw1 := is.win
  have hw2 := it.win
  have hl1 := is.len
  have hl2 := it.len
  have w1 : IntKind.i64.wrap (0 + lenSum s.l) = lenSum s.l := by rw [Int.zero_add]; exact wrapId (by omega)
  have w2 : IntKind.i64.wrap (lenSum s.l + lenSum t.l) = lenSum s.l + lenSum t.l := wrapId (by omega)
  refine fspec_intro hT (cnH st p g s t) (cnH st p g s t) 3 3 Tryd.func14 (by decide) rfl rfl (by kernel_rfl) rfl rfl ?_
  refine Tri.seq (Tri.reg hT ?_)
  refine Tri.seq ?_
  refine Tri.seq (Tri.reg hT ?_)
  refine ⟨_, [], trivial, rfl, rfl, fun h => ⟨rfl, rfl, rfl⟩, ?_⟩
  refine ⟨_, [], trivial, rfl, rfl, fun h => ⟨h, rfl, rfl, rfl⟩, ?_⟩
  refine ⟨_, [], trivial, rfl, rfl, fun h => ⟨h, rfl, rfl, rfl⟩, ?_⟩
  refine ⟨_, [], trivial, rfl, rfl, fun h => ⟨h, rfl, rfl, rfl⟩, ?_⟩
  refine ⟨_, [], trivial, rfl, rfl, fun h => ⟨h, rfl, rfl, rfl⟩, ?_⟩
  refine ⟨⟨fun _ => trivial, fun hc => (gn hc)⟩, ?_⟩
  refine (Tri.cond ⟨fun h1 => ?_, fun h1 => ?_⟩)
  · exact absurd h1 (by simp [iteO, h6])
  · refine (Tri.skip ?_)
    refine Tri.seq (Tri.reg hT ?_)
    refine Tri.seq ?_
    refine Tri.seq (Tri.reg hT ?_)
    refine (Tri.block ?_)
    refine (Tri.loopN 4 ?_)
    refine TriL.go (Tri.le (S := ⟨32, 3, 40, [(3, .int .i64 0), (18, .agg ((cnC st p g (.loc 1 0) (.loc 2 0)).drop 1)), (19, .int .i64 0)], [(0, .box (cnC st p g (.loc 1 0) (.loc 2 0))), (1, .box (bxS s)), (2, .box (bxS t))], G⟩) (Le.weak rfl rfl rfl rfl ⟨(by first | rfl | exact iv1 (by (try simp only [decide_eq_true_eq, decide_eq_false_iff_not, toNat_cast] at *); omega)), (by first | rfl | exact iv1 (by (try simp only [decide_eq_true_eq, decide_eq_false_iff_not, toNat_cast] at *); omega)), (by first | rfl | exact iv1 (by (try simp only [decide_eq_true_eq, decide_eq_false_iff_not, toNat_cast] at *); omega)), trivial⟩ ⟨rfl, rfl, rfl, trivial⟩) ?_)
    refine Tri.seq (Tri.reg hT ?_)
    refine Tri.seq (Tri.cond ⟨fun hq => ?_, fun hq => absurd hq (by decide)⟩)
    refine (Tri.skip ?_)
    refine Tri.seq (Tri.block ?_)
    refine Tri.seq (Tri.reg hT ?_)
    refine ⟨(by first | ((try simp only [decide_eq_true_eq, decide_eq_false_iff_not, toNat_cast] at *); omega) | decide), ?_⟩
    refine Tri.seq (Tri.reg hT ?_)
    refine (Tri.cond ⟨fun h2 => ?_, fun h2 => ?_⟩)
    · cases h2
    · refine (Tri.skip ?_)
      refine (Tri.reg hT ?_)
      refine TriL.go (Tri.le (S := ⟨32, 3, 60, [(3, .int .i64 0), (18, .agg ((cnC st p g (.loc 1 0) (.loc 2 0)).drop 1)), (19, .int .i64 1)], [(0, .box (cnC st p g (.loc 1 0) (.loc 2 0))), (1, .box (bxS s)), (2, .box (bxS t))], G⟩) (Le.weak rfl rfl rfl rfl ⟨(by first | rfl | exact iv1 (by (try simp only [decide_eq_true_eq, decide_eq_false_iff_not, toNat_cast] at *); omega)), (by first | rfl | exact iv1 (by (try simp only [decide_eq_true_eq, decide_eq_false_iff_not, toNat_cast] at *); omega)), (by first | rfl | exact iv1 (by (try simp only [decide_eq_true_eq, decide_eq_false_iff_not, toNat_cast] at *); omega)), trivial⟩ ⟨rfl, rfl, rfl, trivial⟩) ?_)
      refine Tri.seq (Tri.reg hT ?_)
      refine Tri.seq (Tri.cond ⟨fun hq => ?_, fun hq => absurd hq (by decide)⟩)
      refine (Tri.skip ?_)
      refine Tri.seq (Tri.block ?_)
      refine Tri.seq (Tri.reg hT ?_)
      refine ⟨(by first | ((try simp only [decide_eq_true_eq, decide_eq_false_iff_not, toNat_cast] at *); omega) | decide), ?_⟩
      refine Tri.seq (Tri.reg hT ?_)
      refine (Tri.cond ⟨fun h3 => ?_, fun h3 => ?_⟩)
      · refine (Tri.reg hT ?_)
        refine .inl (.inr (.inl ⟨_, _, (by exact ⟨rfl, trivial⟩), (CSpec.gw (f26_spec s (by omega) (by omega) 1)), (by rfl), ?_⟩))
        refine (Tri.reg hT ?_)
        refine TriL.go (Tri.le (S := ⟨32, 3, 80, [(3, .int .i64 (lenSum s.l)), (18, .agg ((cnC st p g (.loc 1 0) (.loc 2 0)).drop 1)), (19, .int .i64 2)], [(0, .box (cnC st p g (.loc 1 0) (.loc 2 0))), (1, .box (bxS s)), (2, .box (bxS t))], G⟩) (Le.weak rfl rfl rfl rfl ⟨congrArg (AV.int .i64) w1, (by first | rfl | exact iv1 (by (try simp only [decide_eq_true_eq, decide_eq_false_iff_not, toNat_cast] at *); omega)), (by first | rfl | exact iv1 (by (try simp only [decide_eq_true_eq, decide_eq_false_iff_not, toNat_cast] at *); omega)), trivial⟩ ⟨rfl, rfl, rfl, trivial⟩) ?_)
        refine Tri.seq (Tri.reg hT ?_)
        refine Tri.seq (Tri.cond ⟨fun hq => ?_, fun hq => absurd hq (by decide)⟩)
        refine (Tri.skip ?_)
        refine Tri.seq (Tri.block ?_)
        refine Tri.seq (Tri.reg hT ?_)
        refine ⟨(by first | ((try simp only [decide_eq_true_eq, decide_eq_false_iff_not, toNat_cast] at *); omega) | decide), ?_⟩
        refine Tri.seq (Tri.reg hT ?_)
        refine (Tri.cond ⟨fun h4 => ?_, fun h4 => ?_⟩)
        · refine (Tri.reg hT ?_)
          refine .inl (.inr (.inl ⟨_, _, (by exact ⟨rfl, trivial⟩), (CSpec.gw (f26_spec t (by omega) (by omega) 2)), (by rfl), ?_⟩))
          refine (Tri.reg hT ?_)
          refine TriL.go (Tri.le (S := ⟨32, 3, 100, [(3, .int .i64 (lenSum s.l + lenSum t.l)), (18, .agg ((cnC st p g (.loc 1 0) (.loc 2 0)).drop 1)), (19, .int .i64 3)], [(0, .box (cnC st p g (.loc 1 0) (.loc 2 0))), (1, .box (bxS s)), (2, .box (bxS t))], G⟩) (Le.weak rfl rfl rfl rfl ⟨congrArg (AV.int .i64) w2, (by first | rfl | exact iv1 (by (try simp only [decide_eq_true_eq, decide_eq_false_iff_not, toNat_cast] at *); omega)), (by first | rfl | exact iv1 (by (try simp only [decide_eq_true_eq, decide_eq_false_iff_not, toNat_cast] at *); omega)), trivial⟩ ⟨rfl, rfl, rfl, trivial⟩) ?_)
          refine Tri.seq (Tri.reg hT ?_)
          refine Tri.seq (Tri.cond ⟨fun hq => absurd hq (by decide), fun hq => ?_⟩)
          refine Tri.exit ?_
          refine Tri.seq (Tri.reg hT ?_)
          refine Tri.ret ?_
          exact ⟨rfl, rfl, rfl, rfl, trivial⟩
        · cases h4
      · cases h3
theorem f14_6 (p g : Hf) (s t : SS) : HSpec P G 14 [.loc 0 0] (cnH 6 p g s t) (.int .i64 0) (cnH 6 p g s t) := by
  refine fspec_intro hT (cnH 6 p g s t) (cnH 6 p g s t) 3 3 Tryd.func14 (by decide) rfl rfl (by kernel_rfl) rfl rfl ?_
  refine Tri.seq (Tri.reg hT ?_)
  refine Tri.seq ?_
  refine Tri.seq (Tri.reg hT ?_)
  refine ⟨_, [], trivial, rfl, rfl, fun h => ⟨rfl, rfl, rfl⟩, ?_⟩
  refine ⟨_, [], trivial, rfl, rfl, fun h => ⟨h, rfl, rfl, rfl⟩, ?_⟩
  refine ⟨_, [], trivial, rfl, rfl, fun h => ⟨h, rfl, rfl, rfl⟩, ?_⟩
  refine ⟨_, [], trivial, rfl, rfl, fun h => ⟨h, rfl, rfl, rfl⟩, ?_⟩
  refine ⟨_, [], trivial, rfl, rfl, fun h => ⟨h, rfl, rfl, rfl⟩, ?_⟩
  refine ⟨⟨fun _ => trivial, fun hc => (gn hc)⟩, ?_⟩
  refine (Tri.cond ⟨fun h1 => ?_, fun h1 => ?_⟩)
  · refine Tri.seq (Tri.reg hT ?_)
    refine Tri.ret ?_
    exact ⟨rfl, rfl, rfl, rfl, trivial⟩
  · cases h1
end Go.Proofs.YtchiagnggnblaaaDoor.Ac
