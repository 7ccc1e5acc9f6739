import Derived.Test.YtopnempdeopjfaaEvI
import Derived.Test.YtopnempdeopjfaaGFw10
import Derived.Test.YtopnempdeopjfaaGEv3
set_option linter.all false
/- Contract of chapter 24: Kinds (printed by genK.py). -/
namespace Go.Proofs.Ytopnempdeopjfaa.Fx
open Go Go.Fw Go.Ov
set_option maxRecDepth 16000 in
set_option maxHeartbeats 4000000 in
theorem f45_spec (l : List Pc) (hl : ∀ p ∈ l, ((pd p).length : Int) ≤ 1073741824) (hn : l.length ≤ 140737488351232) : PSpec P [] 45 [.list pT l] (.list (.list (.int .i64)) (kindsM (v4 l))) := by
  have hvd : v4 l = (varE l 1, varE l 2, varE l 3, varE l 4) := rfl
  rw [hvd]; clear hvd
  refine pspec_intro hT Try.func45 (by decide) rfl rfl (by kernel_rfl) rfl ?_
  refine Tri.seq (Tri.reg hT ?_)
  refine (Tri.scope ?_)
  refine Tri.seq (Tri.reg hT ?_)
  refine .inl (.inl ⟨_, fun _ => rfl, f68_spec l hl hn, ?_⟩)
  generalize varE l 1 = s0; generalize varE l 2 = s1; generalize varE l 3 = s2; generalize varE l 4 = s3
  refine Tri.seq (Tri.reg hT ?_)
  refine Tri.seq (Tri.label ?_)
  refine Tri.seq ?_
  refine Tri.le _ (Le.ownS 4 rfl) ?_
  refine Tri.seq (Tri.reg hT ?_)
  refine (Tri.block ?_)
  refine Tri.loopN 6 ?_
  refine TriL.go (Tri.le (S := ⟨48, 0, 200, [(3, .loc 3 0), (4, .own 6 0), (11, .agg [.str s0, .str s1, .str s2, .str s3]), (12, .int .i64 0)], [(3, .box [.str s0, .str s1, .str s2, .str s3]), (6, .ext (boxS []))], []⟩) (Le.weak rfl rfl rfl rfl ⟨rfl, rfl, rfl, rfl, trivial⟩ ⟨rfl, rfl, trivial⟩) ?_)
  refine Tri.seq (Tri.reg hT ?_)
  refine Tri.seq (Tri.cond ⟨fun h => ?_, fun h => absurd h (by decide)⟩)
  refine (Tri.skip ?_)
  refine Tri.seq (Tri.block ?_)
  refine Tri.seq (Tri.reg hT ?_)
  refine ⟨(by decide), ?_⟩
  refine Tri.seq ?_
  refine Tri.seq (Tri.reg hT ?_)
  refine (Tri.block ?_)
  refine Tri.loopN 6 ?_
  refine TriL.go (Tri.le (S := ⟨48, 0, 200, [(3, .loc 3 0), (4, .own 6 0), (11, .agg [.str s0, .str s1, .str s2, .str s3]), (12, .int .i64 0), (5, .int .i64 0), (6, .str s0), (16, .own 6 0), (17, .int .i64 0), (18, .int .i64 0)], [(3, .box [.str s0, .str s1, .str s2, .str s3]), (6, .ext (boxS []))], []⟩) (Le.weak rfl rfl rfl rfl ⟨rfl, rfl, rfl, rfl, rfl, rfl, rfl, rfl, rfl, trivial⟩ ⟨rfl, rfl, trivial⟩) ?_)
  refine Tri.seq (Tri.reg hT ?_)
  refine Tri.seq (Tri.cond ⟨fun h => absurd h (by decide), fun h => ?_⟩)
  refine Tri.exit ?_
  refine (Tri.regM hT [3, 4, 5] ?_)
  refine ⟨⟨48, 0, 100, [(3, .loc 3 0), (11, .agg [.str s0, .str s1, .str s2, .str s3]), (12, .int .i64 0), (40, .own 6 0), (42, .int .i64 1)], [(3, .box [.str s0, .str s1, .str s2, .str s3]), (6, .ext (boxS []))], []⟩, (Le.weak rfl rfl rfl rfl ⟨rfl, rfl, rfl, rfl, rfl, trivial⟩ ⟨rfl, rfl, trivial⟩), .inl (.inl ?_)⟩
  refine ⟨_, Le.refl _, .inl (.inr (OpTri.buildS hT rfl rfl rfl rfl rfl rfl rfl rfl ?_))⟩
  refine ⟨_, Le.refl _, .inl (.inr (OpTri.appS hT rfl rfl rfl rfl rfl rfl rfl ⟨trivial, rfl⟩ ⟨trivial, rfl⟩ rfl rfl rfl rfl rfl rfl (by decide) ?_))⟩
  refine (Tri.reg hT ?_)
  refine TriL.go (Tri.le (S := ⟨48, 0, 200, [(3, .loc 3 0), (4, .own 6 1), (11, .agg [.str s0, .str s1, .str s2, .str s3]), (12, .int .i64 1)], [(3, .box [.str s0, .str s1, .str s2, .str s3]), (6, .ext (boxS [.own 100 1])), (100, .arr (.int .i64) [1])], []⟩) (Le.weak rfl rfl rfl rfl ⟨rfl, rfl, rfl, rfl, trivial⟩ ⟨rfl, rfl, rfl, trivial⟩) ?_)
  refine Tri.seq (Tri.reg hT ?_)
  refine Tri.seq (Tri.cond ⟨fun h => ?_, fun h => absurd h (by decide)⟩)
  refine (Tri.skip ?_)
  refine Tri.seq (Tri.block ?_)
  refine Tri.seq (Tri.reg hT ?_)
  refine ⟨(by decide), ?_⟩
  refine Tri.seq ?_
  refine Tri.seq (Tri.reg hT ?_)
  refine (Tri.block ?_)
  refine Tri.loopN 6 ?_
  refine TriL.go (Tri.le (S := ⟨48, 0, 200, [(3, .loc 3 0), (4, .own 6 1), (11, .agg [.str s0, .str s1, .str s2, .str s3]), (12, .int .i64 1), (5, .int .i64 1), (6, .str s1), (16, .own 6 1), (17, .int .i64 1), (18, .int .i64 0)], [(3, .box [.str s0, .str s1, .str s2, .str s3]), (6, .ext (boxS [.own 100 1])), (100, .arr (.int .i64) [1])], []⟩) (Le.weak rfl rfl rfl rfl ⟨rfl, rfl, rfl, rfl, rfl, rfl, rfl, rfl, rfl, trivial⟩ ⟨rfl, rfl, rfl, trivial⟩) ?_)
  refine Tri.seq (Tri.reg hT ?_)
  refine Tri.seq (Tri.cond ⟨fun h => ?_, fun h => absurd h (by decide)⟩)
  refine (Tri.skip ?_)
  refine Tri.seq (Tri.block ?_)
  refine Tri.seq (Tri.regM hT [1, 2] ?_)
  refine ⟨_, Le.refl _, .inl (.inr (OpTri.idxS hT rfl rfl rfl rfl rfl rfl ⟨trivial, rfl⟩ ⟨trivial, rfl⟩ rfl (by decide) ?_))⟩
  refine ⟨_, Le.refl _, .inl (.inr (OpTri.loadS hT rfl rfl ⟨trivial, rfl⟩ rfl ?_))⟩
  refine Tri.seq (Tri.reg hT ?_)
  refine ⟨(by decide), ?_⟩
  refine ⟨(by decide), ?_⟩
  refine ⟨(by decide), ?_⟩
  refine (Tri.cond ⟨fun q01 => ?_, fun q01 => ?_⟩)
  · refine Tri.seq (Tri.regM hT [6, 7, 8] ?_)
    refine ⟨⟨48, 0, 260, [(3, .loc 3 0), (4, .own 6 1), (11, .agg [.str s0, .str s1, .str s2, .str s3]), (12, .int .i64 1), (31, .own 6 1), (32, .int .i64 0), (33, .own 100 1), (36, .own 219 1)], [(3, .box [.str s0, .str s1, .str s2, .str s3]), (6, .ext (boxS [.any])), (100, .arr (.int .i64) [1]), (219, .arr (.int .i64) [2])], []⟩, (Le.trans (Le.forgetS 6 0 rfl) (Le.weak rfl rfl rfl rfl ⟨rfl, rfl, rfl, rfl, rfl, rfl, rfl, rfl, trivial⟩ ⟨rfl, rfl, rfl, rfl, trivial⟩)), .inl (.inl ⟨Nat.le_refl _, (by decide), ?_⟩)⟩
    refine ⟨_, Le.refl _, .inl (.inr (OpTri.idxS hT rfl rfl rfl rfl rfl rfl ⟨trivial, rfl⟩ ⟨trivial, rfl⟩ rfl (by decide) ?_))⟩
    refine ⟨_, Le.refl _, .inl (.inr (OpTri.storeS hT rfl rfl rfl rfl rfl ⟨trivial, rfl⟩ rfl rfl rfl rfl rfl ?_))⟩
    refine Tri.exit ?_
    refine (Tri.reg hT ?_)
    refine TriL.go (Tri.le (S := ⟨48, 0, 200, [(3, .loc 3 0), (4, .own 6 1), (11, .agg [.str s0, .str s1, .str s2, .str s3]), (12, .int .i64 2)], [(3, .box [.str s0, .str s1, .str s2, .str s3]), (6, .ext (boxS [.own 100 2])), (100, .arr (.int .i64) [1, 2])], []⟩) (Le.weak rfl rfl rfl rfl ⟨rfl, rfl, rfl, rfl, trivial⟩ ⟨rfl, rfl, rfl, trivial⟩) ?_)
    refine Tri.seq (Tri.reg hT ?_)
    refine Tri.seq (Tri.cond ⟨fun h => ?_, fun h => absurd h (by decide)⟩)
    refine (Tri.skip ?_)
    refine Tri.seq (Tri.block ?_)
    refine Tri.seq (Tri.reg hT ?_)
    refine ⟨(by decide), ?_⟩
    refine Tri.seq ?_
    refine Tri.seq (Tri.reg hT ?_)
    refine (Tri.block ?_)
    refine Tri.loopN 6 ?_
    refine TriL.go (Tri.le (S := ⟨48, 0, 200, [(3, .loc 3 0), (4, .own 6 1), (11, .agg [.str s0, .str s1, .str s2, .str s3]), (12, .int .i64 2), (5, .int .i64 2), (6, .str s2), (16, .own 6 1), (17, .int .i64 1), (18, .int .i64 0)], [(3, .box [.str s0, .str s1, .str s2, .str s3]), (6, .ext (boxS [.own 100 2])), (100, .arr (.int .i64) [1, 2])], []⟩) (Le.weak rfl rfl rfl rfl ⟨rfl, rfl, rfl, rfl, rfl, rfl, rfl, rfl, rfl, trivial⟩ ⟨rfl, rfl, rfl, trivial⟩) ?_)
    refine Tri.seq (Tri.reg hT ?_)
    refine Tri.seq (Tri.cond ⟨fun h => ?_, fun h => absurd h (by decide)⟩)
    refine (Tri.skip ?_)
    refine Tri.seq (Tri.block ?_)
    refine Tri.seq (Tri.regM hT [1, 2] ?_)
    refine ⟨_, Le.refl _, .inl (.inr (OpTri.idxS hT rfl rfl rfl rfl rfl rfl ⟨trivial, rfl⟩ ⟨trivial, rfl⟩ rfl (by decide) ?_))⟩
    refine ⟨_, Le.refl _, .inl (.inr (OpTri.loadS hT rfl rfl ⟨trivial, rfl⟩ rfl ?_))⟩
    refine Tri.seq (Tri.reg hT ?_)
    refine ⟨(by decide), ?_⟩
    refine ⟨(by decide), ?_⟩
    refine ⟨(by decide), ?_⟩
    refine (Tri.cond ⟨fun q02 => ?_, fun q02 => ?_⟩)
    · refine Tri.seq (Tri.regM hT [6, 7, 8] ?_)
      refine ⟨⟨48, 0, 260, [(3, .loc 3 0), (4, .own 6 1), (11, .agg [.str s0, .str s1, .str s2, .str s3]), (12, .int .i64 2), (31, .own 6 1), (32, .int .i64 0), (33, .own 100 2), (36, .own 219 1)], [(3, .box [.str s0, .str s1, .str s2, .str s3]), (6, .ext (boxS [.any])), (100, .arr (.int .i64) [1, 2]), (219, .arr (.int .i64) [3])], []⟩, (Le.trans (Le.forgetS 6 0 rfl) (Le.weak rfl rfl rfl rfl ⟨rfl, rfl, rfl, rfl, rfl, rfl, rfl, rfl, trivial⟩ ⟨rfl, rfl, rfl, rfl, trivial⟩)), .inl (.inl ⟨Nat.le_refl _, (by decide), ?_⟩)⟩
      refine ⟨_, Le.refl _, .inl (.inr (OpTri.idxS hT rfl rfl rfl rfl rfl rfl ⟨trivial, rfl⟩ ⟨trivial, rfl⟩ rfl (by decide) ?_))⟩
      refine ⟨_, Le.refl _, .inl (.inr (OpTri.storeS hT rfl rfl rfl rfl rfl ⟨trivial, rfl⟩ rfl rfl rfl rfl rfl ?_))⟩
      refine Tri.exit ?_
      refine (Tri.reg hT ?_)
      refine TriL.go (Tri.le (S := ⟨48, 0, 200, [(3, .loc 3 0), (4, .own 6 1), (11, .agg [.str s0, .str s1, .str s2, .str s3]), (12, .int .i64 3)], [(3, .box [.str s0, .str s1, .str s2, .str s3]), (6, .ext (boxS [.own 100 3])), (100, .arr (.int .i64) [1, 2, 3])], []⟩) (Le.weak rfl rfl rfl rfl ⟨rfl, rfl, rfl, rfl, trivial⟩ ⟨rfl, rfl, rfl, trivial⟩) ?_)
      refine Tri.seq (Tri.reg hT ?_)
      refine Tri.seq (Tri.cond ⟨fun h => ?_, fun h => absurd h (by decide)⟩)
      refine (Tri.skip ?_)
      refine Tri.seq (Tri.block ?_)
      refine Tri.seq (Tri.reg hT ?_)
      refine ⟨(by decide), ?_⟩
      refine Tri.seq ?_
      refine Tri.seq (Tri.reg hT ?_)
      refine (Tri.block ?_)
      refine Tri.loopN 6 ?_
      refine TriL.go (Tri.le (S := ⟨48, 0, 200, [(3, .loc 3 0), (4, .own 6 1), (11, .agg [.str s0, .str s1, .str s2, .str s3]), (12, .int .i64 3), (5, .int .i64 3), (6, .str s3), (16, .own 6 1), (17, .int .i64 1), (18, .int .i64 0)], [(3, .box [.str s0, .str s1, .str s2, .str s3]), (6, .ext (boxS [.own 100 3])), (100, .arr (.int .i64) [1, 2, 3])], []⟩) (Le.weak rfl rfl rfl rfl ⟨rfl, rfl, rfl, rfl, rfl, rfl, rfl, rfl, rfl, trivial⟩ ⟨rfl, rfl, rfl, trivial⟩) ?_)
      refine Tri.seq (Tri.reg hT ?_)
      refine Tri.seq (Tri.cond ⟨fun h => ?_, fun h => absurd h (by decide)⟩)
      refine (Tri.skip ?_)
      refine Tri.seq (Tri.block ?_)
      refine Tri.seq (Tri.regM hT [1, 2] ?_)
      refine ⟨_, Le.refl _, .inl (.inr (OpTri.idxS hT rfl rfl rfl rfl rfl rfl ⟨trivial, rfl⟩ ⟨trivial, rfl⟩ rfl (by decide) ?_))⟩
      refine ⟨_, Le.refl _, .inl (.inr (OpTri.loadS hT rfl rfl ⟨trivial, rfl⟩ rfl ?_))⟩
      refine Tri.seq (Tri.reg hT ?_)
      refine ⟨(by decide), ?_⟩
      refine ⟨(by decide), ?_⟩
      refine ⟨(by decide), ?_⟩
      refine (Tri.cond ⟨fun q03 => ?_, fun q03 => ?_⟩)
      · refine Tri.seq (Tri.regM hT [6, 7, 8] ?_)
        refine ⟨⟨48, 0, 260, [(3, .loc 3 0), (4, .own 6 1), (11, .agg [.str s0, .str s1, .str s2, .str s3]), (12, .int .i64 3), (31, .own 6 1), (32, .int .i64 0), (33, .own 100 3), (36, .own 219 1)], [(3, .box [.str s0, .str s1, .str s2, .str s3]), (6, .ext (boxS [.any])), (100, .arr (.int .i64) [1, 2, 3]), (219, .arr (.int .i64) [4])], []⟩, (Le.trans (Le.forgetS 6 0 rfl) (Le.weak rfl rfl rfl rfl ⟨rfl, rfl, rfl, rfl, rfl, rfl, rfl, rfl, trivial⟩ ⟨rfl, rfl, rfl, rfl, trivial⟩)), .inl (.inl ⟨Nat.le_refl _, (by decide), ?_⟩)⟩
        refine ⟨_, Le.refl _, .inl (.inr (OpTri.idxS hT rfl rfl rfl rfl rfl rfl ⟨trivial, rfl⟩ ⟨trivial, rfl⟩ rfl (by decide) ?_))⟩
        refine ⟨_, Le.refl _, .inl (.inr (OpTri.storeS hT rfl rfl rfl rfl rfl ⟨trivial, rfl⟩ rfl rfl rfl rfl rfl ?_))⟩
        refine Tri.exit ?_
        refine (Tri.reg hT ?_)
        refine TriL.go (Tri.le (S := ⟨48, 0, 200, [(3, .loc 3 0), (4, .own 6 1), (11, .agg [.str s0, .str s1, .str s2, .str s3]), (12, .int .i64 4)], [(3, .box [.str s0, .str s1, .str s2, .str s3]), (6, .ext (boxS [.own 100 4])), (100, .arr (.int .i64) [1, 2, 3, 4])], []⟩) (Le.weak rfl rfl rfl rfl ⟨rfl, rfl, rfl, rfl, trivial⟩ ⟨rfl, rfl, rfl, trivial⟩) ?_)
        refine Tri.seq (Tri.reg hT ?_)
        refine Tri.seq (Tri.cond ⟨fun h => absurd h (by decide), fun h => ?_⟩)
        refine Tri.exit ?_
        refine Tri.seq (Tri.reg hT ?_)
        refine Tri.le (S := ⟨48, 0, 200, [(2, .own 6 1)], [(3, .box [.str s0, .str s1, .str s2, .str s3]), (6, .ext (boxS [.own 100 4])), (100, .arr (.int .i64) [1, 2, 3, 4])], []⟩) (Le.weak rfl rfl rfl rfl ⟨rfl, trivial⟩ ⟨rfl, rfl, rfl, trivial⟩) ?_
        refine Tri.le _ (Le.freezeS 6 100 4 [] [] (xs := [1, 2, 3, 4]) rfl rfl (by decide) rfl) ?_
        refine Tri.le (S := ⟨48, 0, 200, [(2, .own 6 1)], [(6, .ext (boxS [.list (.int .i64) [1, 2, 3, 4]]))], []⟩) (Le.weak rfl rfl rfl rfl ⟨rfl, trivial⟩ ⟨rfl, trivial⟩) ?_
        refine Tri.le _ (Le.listS 2 6 1 (ty := .int .i64) (xss := [[1, 2, 3, 4]]) rfl rfl rfl) ?_
        refine Tri.ret ?_
        exact ⟨congrArg (AV.list (.list (.int .i64))) (kinds_1234 (of_decide_eq_true q01) (of_decide_eq_true q02) (of_decide_eq_true q03)).symm, trivial⟩
      · refine (Tri.skip ?_)
        refine (Tri.reg hT ?_)
        refine TriL.go (Tri.le (S := ⟨48, 0, 200, [(3, .loc 3 0), (4, .own 6 1), (11, .agg [.str s0, .str s1, .str s2, .str s3]), (12, .int .i64 3), (5, .int .i64 3), (6, .str s3), (16, .own 6 1), (17, .int .i64 1), (18, .int .i64 1)], [(3, .box [.str s0, .str s1, .str s2, .str s3]), (6, .ext (boxS [.own 100 3])), (100, .arr (.int .i64) [1, 2, 3])], []⟩) (Le.weak rfl rfl rfl rfl ⟨rfl, rfl, rfl, rfl, rfl, rfl, rfl, rfl, rfl, trivial⟩ ⟨rfl, rfl, rfl, trivial⟩) ?_)
        refine Tri.seq (Tri.reg hT ?_)
        refine Tri.seq (Tri.cond ⟨fun h => absurd h (by decide), fun h => ?_⟩)
        refine Tri.exit ?_
        refine (Tri.regM hT [3, 4, 5] ?_)
        refine ⟨⟨48, 0, 110, [(3, .loc 3 0), (11, .agg [.str s0, .str s1, .str s2, .str s3]), (12, .int .i64 3), (40, .own 6 1), (42, .int .i64 4)], [(3, .box [.str s0, .str s1, .str s2, .str s3]), (6, .ext (boxS [.own 100 3])), (100, .arr (.int .i64) [1, 2, 3])], []⟩, (Le.weak rfl rfl rfl rfl ⟨rfl, rfl, rfl, rfl, rfl, trivial⟩ ⟨rfl, rfl, rfl, trivial⟩), .inl (.inl ?_)⟩
        refine ⟨_, Le.refl _, .inl (.inr (OpTri.buildS hT rfl rfl rfl rfl rfl rfl rfl rfl ?_))⟩
        refine ⟨_, Le.refl _, .inl (.inr (OpTri.appS hT rfl rfl rfl rfl rfl rfl rfl ⟨trivial, rfl⟩ ⟨trivial, rfl⟩ rfl rfl rfl rfl rfl rfl (by decide) ?_))⟩
        refine (Tri.reg hT ?_)
        refine TriL.go (Tri.le (S := ⟨48, 0, 200, [(3, .loc 3 0), (4, .own 6 2), (11, .agg [.str s0, .str s1, .str s2, .str s3]), (12, .int .i64 4)], [(3, .box [.str s0, .str s1, .str s2, .str s3]), (6, .ext (boxS [.own 100 3, .own 110 1])), (100, .arr (.int .i64) [1, 2, 3]), (110, .arr (.int .i64) [4])], []⟩) (Le.weak rfl rfl rfl rfl ⟨rfl, rfl, rfl, rfl, trivial⟩ ⟨rfl, rfl, rfl, rfl, trivial⟩) ?_)
        refine Tri.seq (Tri.reg hT ?_)
        refine Tri.seq (Tri.cond ⟨fun h => absurd h (by decide), fun h => ?_⟩)
        refine Tri.exit ?_
        refine Tri.seq (Tri.reg hT ?_)
        refine Tri.le (S := ⟨48, 0, 200, [(2, .own 6 2)], [(3, .box [.str s0, .str s1, .str s2, .str s3]), (6, .ext (boxS [.own 100 3, .own 110 1])), (100, .arr (.int .i64) [1, 2, 3]), (110, .arr (.int .i64) [4])], []⟩) (Le.weak rfl rfl rfl rfl ⟨rfl, trivial⟩ ⟨rfl, rfl, rfl, rfl, trivial⟩) ?_
        refine Tri.le _ (Le.freezeS 6 100 3 [] [.own 110 1] (xs := [1, 2, 3]) rfl rfl (by decide) rfl) ?_
        refine Tri.le (S := ⟨48, 0, 200, [(2, .own 6 2)], [(6, .ext (boxS [.list (.int .i64) [1, 2, 3], .own 110 1])), (110, .arr (.int .i64) [4])], []⟩) (Le.weak rfl rfl rfl rfl ⟨rfl, trivial⟩ ⟨rfl, rfl, trivial⟩) ?_
        refine Tri.le _ (Le.freezeS 6 110 1 [.list (.int .i64) [1, 2, 3]] [] (xs := [4]) rfl rfl (by decide) rfl) ?_
        refine Tri.le (S := ⟨48, 0, 200, [(2, .own 6 2)], [(6, .ext (boxS [.list (.int .i64) [1, 2, 3], .list (.int .i64) [4]]))], []⟩) (Le.weak rfl rfl rfl rfl ⟨rfl, trivial⟩ ⟨rfl, trivial⟩) ?_
        refine Tri.le _ (Le.listS 2 6 2 (ty := .int .i64) (xss := [[1, 2, 3], [4]]) rfl rfl rfl) ?_
        refine Tri.ret ?_
        exact ⟨congrArg (AV.list (.list (.int .i64))) (kinds_123_4 (of_decide_eq_true q01) (of_decide_eq_true q02) (of_decide_eq_false q03)).symm, trivial⟩
    · refine (Tri.skip ?_)
      refine (Tri.reg hT ?_)
      refine TriL.go (Tri.le (S := ⟨48, 0, 200, [(3, .loc 3 0), (4, .own 6 1), (11, .agg [.str s0, .str s1, .str s2, .str s3]), (12, .int .i64 2), (5, .int .i64 2), (6, .str s2), (16, .own 6 1), (17, .int .i64 1), (18, .int .i64 1)], [(3, .box [.str s0, .str s1, .str s2, .str s3]), (6, .ext (boxS [.own 100 2])), (100, .arr (.int .i64) [1, 2])], []⟩) (Le.weak rfl rfl rfl rfl ⟨rfl, rfl, rfl, rfl, rfl, rfl, rfl, rfl, rfl, trivial⟩ ⟨rfl, rfl, rfl, trivial⟩) ?_)
      refine Tri.seq (Tri.reg hT ?_)
      refine Tri.seq (Tri.cond ⟨fun h => absurd h (by decide), fun h => ?_⟩)
      refine Tri.exit ?_
      refine (Tri.regM hT [3, 4, 5] ?_)
      refine ⟨⟨48, 0, 110, [(3, .loc 3 0), (11, .agg [.str s0, .str s1, .str s2, .str s3]), (12, .int .i64 2), (40, .own 6 1), (42, .int .i64 3)], [(3, .box [.str s0, .str s1, .str s2, .str s3]), (6, .ext (boxS [.own 100 2])), (100, .arr (.int .i64) [1, 2])], []⟩, (Le.weak rfl rfl rfl rfl ⟨rfl, rfl, rfl, rfl, rfl, trivial⟩ ⟨rfl, rfl, rfl, trivial⟩), .inl (.inl ?_)⟩
      refine ⟨_, Le.refl _, .inl (.inr (OpTri.buildS hT rfl rfl rfl rfl rfl rfl rfl rfl ?_))⟩
      refine ⟨_, Le.refl _, .inl (.inr (OpTri.appS hT rfl rfl rfl rfl rfl rfl rfl ⟨trivial, rfl⟩ ⟨trivial, rfl⟩ rfl rfl rfl rfl rfl rfl (by decide) ?_))⟩
      refine (Tri.reg hT ?_)
      refine TriL.go (Tri.le (S := ⟨48, 0, 200, [(3, .loc 3 0), (4, .own 6 2), (11, .agg [.str s0, .str s1, .str s2, .str s3]), (12, .int .i64 3)], [(3, .box [.str s0, .str s1, .str s2, .str s3]), (6, .ext (boxS [.own 100 2, .own 110 1])), (100, .arr (.int .i64) [1, 2]), (110, .arr (.int .i64) [3])], []⟩) (Le.weak rfl rfl rfl rfl ⟨rfl, rfl, rfl, rfl, trivial⟩ ⟨rfl, rfl, rfl, rfl, trivial⟩) ?_)
      refine Tri.seq (Tri.reg hT ?_)
      refine Tri.seq (Tri.cond ⟨fun h => ?_, fun h => absurd h (by decide)⟩)
      refine (Tri.skip ?_)
      refine Tri.seq (Tri.block ?_)
      refine Tri.seq (Tri.reg hT ?_)
      refine ⟨(by decide), ?_⟩
      refine Tri.seq ?_
      refine Tri.seq (Tri.reg hT ?_)
      refine (Tri.block ?_)
      refine Tri.loopN 6 ?_
      refine TriL.go (Tri.le (S := ⟨48, 0, 200, [(3, .loc 3 0), (4, .own 6 2), (11, .agg [.str s0, .str s1, .str s2, .str s3]), (12, .int .i64 3), (5, .int .i64 3), (6, .str s3), (16, .own 6 2), (17, .int .i64 2), (18, .int .i64 0)], [(3, .box [.str s0, .str s1, .str s2, .str s3]), (6, .ext (boxS [.own 100 2, .own 110 1])), (100, .arr (.int .i64) [1, 2]), (110, .arr (.int .i64) [3])], []⟩) (Le.weak rfl rfl rfl rfl ⟨rfl, rfl, rfl, rfl, rfl, rfl, rfl, rfl, rfl, trivial⟩ ⟨rfl, rfl, rfl, rfl, trivial⟩) ?_)
      refine Tri.seq (Tri.reg hT ?_)
      refine Tri.seq (Tri.cond ⟨fun h => ?_, fun h => absurd h (by decide)⟩)
      refine (Tri.skip ?_)
      refine Tri.seq (Tri.block ?_)
      refine Tri.seq (Tri.regM hT [1, 2] ?_)
      refine ⟨_, Le.refl _, .inl (.inr (OpTri.idxS hT rfl rfl rfl rfl rfl rfl ⟨trivial, rfl⟩ ⟨trivial, rfl⟩ rfl (by decide) ?_))⟩
      refine ⟨_, Le.refl _, .inl (.inr (OpTri.loadS hT rfl rfl ⟨trivial, rfl⟩ rfl ?_))⟩
      refine Tri.seq (Tri.reg hT ?_)
      refine ⟨(by decide), ?_⟩
      refine ⟨(by decide), ?_⟩
      refine ⟨(by decide), ?_⟩
      refine (Tri.cond ⟨fun q03 => ?_, fun q03 => ?_⟩)
      · refine Tri.seq (Tri.regM hT [6, 7, 8] ?_)
        refine ⟨⟨48, 0, 260, [(3, .loc 3 0), (4, .own 6 2), (11, .agg [.str s0, .str s1, .str s2, .str s3]), (12, .int .i64 3), (31, .own 6 2), (32, .int .i64 0), (33, .own 100 2), (36, .own 219 1)], [(3, .box [.str s0, .str s1, .str s2, .str s3]), (6, .ext (boxS [.any, .own 110 1])), (100, .arr (.int .i64) [1, 2]), (110, .arr (.int .i64) [3]), (219, .arr (.int .i64) [4])], []⟩, (Le.trans (Le.forgetS 6 0 rfl) (Le.weak rfl rfl rfl rfl ⟨rfl, rfl, rfl, rfl, rfl, rfl, rfl, rfl, trivial⟩ ⟨rfl, rfl, rfl, rfl, rfl, trivial⟩)), .inl (.inl ⟨Nat.le_refl _, (by decide), ?_⟩)⟩
        refine ⟨_, Le.refl _, .inl (.inr (OpTri.idxS hT rfl rfl rfl rfl rfl rfl ⟨trivial, rfl⟩ ⟨trivial, rfl⟩ rfl (by decide) ?_))⟩
        refine ⟨_, Le.refl _, .inl (.inr (OpTri.storeS hT rfl rfl rfl rfl rfl ⟨trivial, rfl⟩ rfl rfl rfl rfl rfl ?_))⟩
        refine Tri.exit ?_
        refine (Tri.reg hT ?_)
        refine TriL.go (Tri.le (S := ⟨48, 0, 200, [(3, .loc 3 0), (4, .own 6 2), (11, .agg [.str s0, .str s1, .str s2, .str s3]), (12, .int .i64 4)], [(3, .box [.str s0, .str s1, .str s2, .str s3]), (6, .ext (boxS [.own 100 3, .own 110 1])), (100, .arr (.int .i64) [1, 2, 4]), (110, .arr (.int .i64) [3])], []⟩) (Le.weak rfl rfl rfl rfl ⟨rfl, rfl, rfl, rfl, trivial⟩ ⟨rfl, rfl, rfl, rfl, trivial⟩) ?_)
        refine Tri.seq (Tri.reg hT ?_)
        refine Tri.seq (Tri.cond ⟨fun h => absurd h (by decide), fun h => ?_⟩)
        refine Tri.exit ?_
        refine Tri.seq (Tri.reg hT ?_)
        refine Tri.le (S := ⟨48, 0, 200, [(2, .own 6 2)], [(3, .box [.str s0, .str s1, .str s2, .str s3]), (6, .ext (boxS [.own 100 3, .own 110 1])), (100, .arr (.int .i64) [1, 2, 4]), (110, .arr (.int .i64) [3])], []⟩) (Le.weak rfl rfl rfl rfl ⟨rfl, trivial⟩ ⟨rfl, rfl, rfl, rfl, trivial⟩) ?_
        refine Tri.le _ (Le.freezeS 6 100 3 [] [.own 110 1] (xs := [1, 2, 4]) rfl rfl (by decide) rfl) ?_
        refine Tri.le (S := ⟨48, 0, 200, [(2, .own 6 2)], [(6, .ext (boxS [.list (.int .i64) [1, 2, 4], .own 110 1])), (110, .arr (.int .i64) [3])], []⟩) (Le.weak rfl rfl rfl rfl ⟨rfl, trivial⟩ ⟨rfl, rfl, trivial⟩) ?_
        refine Tri.le _ (Le.freezeS 6 110 1 [.list (.int .i64) [1, 2, 4]] [] (xs := [3]) rfl rfl (by decide) rfl) ?_
        refine Tri.le (S := ⟨48, 0, 200, [(2, .own 6 2)], [(6, .ext (boxS [.list (.int .i64) [1, 2, 4], .list (.int .i64) [3]]))], []⟩) (Le.weak rfl rfl rfl rfl ⟨rfl, trivial⟩ ⟨rfl, trivial⟩) ?_
        refine Tri.le _ (Le.listS 2 6 2 (ty := .int .i64) (xss := [[1, 2, 4], [3]]) rfl rfl rfl) ?_
        refine Tri.ret ?_
        exact ⟨congrArg (AV.list (.list (.int .i64))) (kinds_124_3 (of_decide_eq_true q01) (of_decide_eq_false q02) (of_decide_eq_true q03)).symm, trivial⟩
      · refine (Tri.skip ?_)
        refine (Tri.reg hT ?_)
        refine TriL.go (Tri.le (S := ⟨48, 0, 200, [(3, .loc 3 0), (4, .own 6 2), (11, .agg [.str s0, .str s1, .str s2, .str s3]), (12, .int .i64 3), (5, .int .i64 3), (6, .str s3), (16, .own 6 2), (17, .int .i64 2), (18, .int .i64 1)], [(3, .box [.str s0, .str s1, .str s2, .str s3]), (6, .ext (boxS [.own 100 2, .own 110 1])), (100, .arr (.int .i64) [1, 2]), (110, .arr (.int .i64) [3])], []⟩) (Le.weak rfl rfl rfl rfl ⟨rfl, rfl, rfl, rfl, rfl, rfl, rfl, rfl, rfl, trivial⟩ ⟨rfl, rfl, rfl, rfl, trivial⟩) ?_)
        refine Tri.seq (Tri.reg hT ?_)
        refine Tri.seq (Tri.cond ⟨fun h => ?_, fun h => absurd h (by decide)⟩)
        refine (Tri.skip ?_)
        refine Tri.seq (Tri.block ?_)
        refine Tri.seq (Tri.regM hT [1, 2] ?_)
        refine ⟨_, Le.refl _, .inl (.inr (OpTri.idxS hT rfl rfl rfl rfl rfl rfl ⟨trivial, rfl⟩ ⟨trivial, rfl⟩ rfl (by decide) ?_))⟩
        refine ⟨_, Le.refl _, .inl (.inr (OpTri.loadS hT rfl rfl ⟨trivial, rfl⟩ rfl ?_))⟩
        refine Tri.seq (Tri.reg hT ?_)
        refine ⟨(by decide), ?_⟩
        refine ⟨(by decide), ?_⟩
        refine ⟨(by decide), ?_⟩
        refine (Tri.cond ⟨fun q23 => ?_, fun q23 => ?_⟩)
        · refine Tri.seq (Tri.regM hT [6, 7, 8] ?_)
          refine ⟨⟨48, 0, 260, [(3, .loc 3 0), (4, .own 6 2), (11, .agg [.str s0, .str s1, .str s2, .str s3]), (12, .int .i64 3), (31, .own 6 2), (32, .int .i64 1), (33, .own 110 1), (36, .own 219 1)], [(3, .box [.str s0, .str s1, .str s2, .str s3]), (6, .ext (boxS [.own 100 2, .any])), (100, .arr (.int .i64) [1, 2]), (110, .arr (.int .i64) [3]), (219, .arr (.int .i64) [4])], []⟩, (Le.trans (Le.forgetS 6 1 rfl) (Le.weak rfl rfl rfl rfl ⟨rfl, rfl, rfl, rfl, rfl, rfl, rfl, rfl, trivial⟩ ⟨rfl, rfl, rfl, rfl, rfl, trivial⟩)), .inl (.inl ⟨Nat.le_refl _, (by decide), ?_⟩)⟩
          refine ⟨_, Le.refl _, .inl (.inr (OpTri.idxS hT rfl rfl rfl rfl rfl rfl ⟨trivial, rfl⟩ ⟨trivial, rfl⟩ rfl (by decide) ?_))⟩
          refine ⟨_, Le.refl _, .inl (.inr (OpTri.storeS hT rfl rfl rfl rfl rfl ⟨trivial, rfl⟩ rfl rfl rfl rfl rfl ?_))⟩
          refine Tri.exit ?_
          refine (Tri.reg hT ?_)
          refine TriL.go (Tri.le (S := ⟨48, 0, 200, [(3, .loc 3 0), (4, .own 6 2), (11, .agg [.str s0, .str s1, .str s2, .str s3]), (12, .int .i64 4)], [(3, .box [.str s0, .str s1, .str s2, .str s3]), (6, .ext (boxS [.own 100 2, .own 110 2])), (100, .arr (.int .i64) [1, 2]), (110, .arr (.int .i64) [3, 4])], []⟩) (Le.weak rfl rfl rfl rfl ⟨rfl, rfl, rfl, rfl, trivial⟩ ⟨rfl, rfl, rfl, rfl, trivial⟩) ?_)
          refine Tri.seq (Tri.reg hT ?_)
          refine Tri.seq (Tri.cond ⟨fun h => absurd h (by decide), fun h => ?_⟩)
          refine Tri.exit ?_
          refine Tri.seq (Tri.reg hT ?_)
          refine Tri.le (S := ⟨48, 0, 200, [(2, .own 6 2)], [(3, .box [.str s0, .str s1, .str s2, .str s3]), (6, .ext (boxS [.own 100 2, .own 110 2])), (100, .arr (.int .i64) [1, 2]), (110, .arr (.int .i64) [3, 4])], []⟩) (Le.weak rfl rfl rfl rfl ⟨rfl, trivial⟩ ⟨rfl, rfl, rfl, rfl, trivial⟩) ?_
          refine Tri.le _ (Le.freezeS 6 100 2 [] [.own 110 2] (xs := [1, 2]) rfl rfl (by decide) rfl) ?_
          refine Tri.le (S := ⟨48, 0, 200, [(2, .own 6 2)], [(6, .ext (boxS [.list (.int .i64) [1, 2], .own 110 2])), (110, .arr (.int .i64) [3, 4])], []⟩) (Le.weak rfl rfl rfl rfl ⟨rfl, trivial⟩ ⟨rfl, rfl, trivial⟩) ?_
          refine Tri.le _ (Le.freezeS 6 110 2 [.list (.int .i64) [1, 2]] [] (xs := [3, 4]) rfl rfl (by decide) rfl) ?_
          refine Tri.le (S := ⟨48, 0, 200, [(2, .own 6 2)], [(6, .ext (boxS [.list (.int .i64) [1, 2], .list (.int .i64) [3, 4]]))], []⟩) (Le.weak rfl rfl rfl rfl ⟨rfl, trivial⟩ ⟨rfl, trivial⟩) ?_
          refine Tri.le _ (Le.listS 2 6 2 (ty := .int .i64) (xss := [[1, 2], [3, 4]]) rfl rfl rfl) ?_
          refine Tri.ret ?_
          exact ⟨congrArg (AV.list (.list (.int .i64))) (kinds_12_34 (of_decide_eq_true q01) (of_decide_eq_false q02) (of_decide_eq_false q03) (of_decide_eq_true q23)).symm, trivial⟩
        · refine (Tri.skip ?_)
          refine (Tri.reg hT ?_)
          refine TriL.go (Tri.le (S := ⟨48, 0, 200, [(3, .loc 3 0), (4, .own 6 2), (11, .agg [.str s0, .str s1, .str s2, .str s3]), (12, .int .i64 3), (5, .int .i64 3), (6, .str s3), (16, .own 6 2), (17, .int .i64 2), (18, .int .i64 2)], [(3, .box [.str s0, .str s1, .str s2, .str s3]), (6, .ext (boxS [.own 100 2, .own 110 1])), (100, .arr (.int .i64) [1, 2]), (110, .arr (.int .i64) [3])], []⟩) (Le.weak rfl rfl rfl rfl ⟨rfl, rfl, rfl, rfl, rfl, rfl, rfl, rfl, rfl, trivial⟩ ⟨rfl, rfl, rfl, rfl, trivial⟩) ?_)
          refine Tri.seq (Tri.reg hT ?_)
          refine Tri.seq (Tri.cond ⟨fun h => absurd h (by decide), fun h => ?_⟩)
          refine Tri.exit ?_
          refine (Tri.regM hT [3, 4, 5] ?_)
          refine ⟨⟨48, 0, 120, [(3, .loc 3 0), (11, .agg [.str s0, .str s1, .str s2, .str s3]), (12, .int .i64 3), (40, .own 6 2), (42, .int .i64 4)], [(3, .box [.str s0, .str s1, .str s2, .str s3]), (6, .ext (boxS [.own 100 2, .own 110 1])), (100, .arr (.int .i64) [1, 2]), (110, .arr (.int .i64) [3])], []⟩, (Le.weak rfl rfl rfl rfl ⟨rfl, rfl, rfl, rfl, rfl, trivial⟩ ⟨rfl, rfl, rfl, rfl, trivial⟩), .inl (.inl ?_)⟩
          refine ⟨_, Le.refl _, .inl (.inr (OpTri.buildS hT rfl rfl rfl rfl rfl rfl rfl rfl ?_))⟩
          refine ⟨_, Le.refl _, .inl (.inr (OpTri.appS hT rfl rfl rfl rfl rfl rfl rfl ⟨trivial, rfl⟩ ⟨trivial, rfl⟩ rfl rfl rfl rfl rfl rfl (by decide) ?_))⟩
          refine (Tri.reg hT ?_)
          refine TriL.go (Tri.le (S := ⟨48, 0, 200, [(3, .loc 3 0), (4, .own 6 3), (11, .agg [.str s0, .str s1, .str s2, .str s3]), (12, .int .i64 4)], [(3, .box [.str s0, .str s1, .str s2, .str s3]), (6, .ext (boxS [.own 100 2, .own 110 1, .own 120 1])), (100, .arr (.int .i64) [1, 2]), (110, .arr (.int .i64) [3]), (120, .arr (.int .i64) [4])], []⟩) (Le.weak rfl rfl rfl rfl ⟨rfl, rfl, rfl, rfl, trivial⟩ ⟨rfl, rfl, rfl, rfl, rfl, trivial⟩) ?_)
          refine Tri.seq (Tri.reg hT ?_)
          refine Tri.seq (Tri.cond ⟨fun h => absurd h (by decide), fun h => ?_⟩)
          refine Tri.exit ?_
          refine Tri.seq (Tri.reg hT ?_)
          refine Tri.le (S := ⟨48, 0, 200, [(2, .own 6 3)], [(3, .box [.str s0, .str s1, .str s2, .str s3]), (6, .ext (boxS [.own 100 2, .own 110 1, .own 120 1])), (100, .arr (.int .i64) [1, 2]), (110, .arr (.int .i64) [3]), (120, .arr (.int .i64) [4])], []⟩) (Le.weak rfl rfl rfl rfl ⟨rfl, trivial⟩ ⟨rfl, rfl, rfl, rfl, rfl, trivial⟩) ?_
          refine Tri.le _ (Le.freezeS 6 100 2 [] [.own 110 1, .own 120 1] (xs := [1, 2]) rfl rfl (by decide) rfl) ?_
          refine Tri.le (S := ⟨48, 0, 200, [(2, .own 6 3)], [(6, .ext (boxS [.list (.int .i64) [1, 2], .own 110 1, .own 120 1])), (110, .arr (.int .i64) [3]), (120, .arr (.int .i64) [4])], []⟩) (Le.weak rfl rfl rfl rfl ⟨rfl, trivial⟩ ⟨rfl, rfl, rfl, trivial⟩) ?_
          refine Tri.le _ (Le.freezeS 6 110 1 [.list (.int .i64) [1, 2]] [.own 120 1] (xs := [3]) rfl rfl (by decide) rfl) ?_
          refine Tri.le (S := ⟨48, 0, 200, [(2, .own 6 3)], [(6, .ext (boxS [.list (.int .i64) [1, 2], .list (.int .i64) [3], .own 120 1])), (120, .arr (.int .i64) [4])], []⟩) (Le.weak rfl rfl rfl rfl ⟨rfl, trivial⟩ ⟨rfl, rfl, trivial⟩) ?_
          refine Tri.le _ (Le.freezeS 6 120 1 [.list (.int .i64) [1, 2], .list (.int .i64) [3]] [] (xs := [4]) rfl rfl (by decide) rfl) ?_
          refine Tri.le (S := ⟨48, 0, 200, [(2, .own 6 3)], [(6, .ext (boxS [.list (.int .i64) [1, 2], .list (.int .i64) [3], .list (.int .i64) [4]]))], []⟩) (Le.weak rfl rfl rfl rfl ⟨rfl, trivial⟩ ⟨rfl, trivial⟩) ?_
          refine Tri.le _ (Le.listS 2 6 3 (ty := .int .i64) (xss := [[1, 2], [3], [4]]) rfl rfl rfl) ?_
          refine Tri.ret ?_
          exact ⟨congrArg (AV.list (.list (.int .i64))) (kinds_12_3_4 (of_decide_eq_true q01) (of_decide_eq_false q02) (of_decide_eq_false q03) (of_decide_eq_false q23)).symm, trivial⟩
  · refine (Tri.skip ?_)
    refine (Tri.reg hT ?_)
    refine TriL.go (Tri.le (S := ⟨48, 0, 200, [(3, .loc 3 0), (4, .own 6 1), (11, .agg [.str s0, .str s1, .str s2, .str s3]), (12, .int .i64 1), (5, .int .i64 1), (6, .str s1), (16, .own 6 1), (17, .int .i64 1), (18, .int .i64 1)], [(3, .box [.str s0, .str s1, .str s2, .str s3]), (6, .ext (boxS [.own 100 1])), (100, .arr (.int .i64) [1])], []⟩) (Le.weak rfl rfl rfl rfl ⟨rfl, rfl, rfl, rfl, rfl, rfl, rfl, rfl, rfl, trivial⟩ ⟨rfl, rfl, rfl, trivial⟩) ?_)
    refine Tri.seq (Tri.reg hT ?_)
    refine Tri.seq (Tri.cond ⟨fun h => absurd h (by decide), fun h => ?_⟩)
    refine Tri.exit ?_
    refine (Tri.regM hT [3, 4, 5] ?_)
    refine ⟨⟨48, 0, 110, [(3, .loc 3 0), (11, .agg [.str s0, .str s1, .str s2, .str s3]), (12, .int .i64 1), (40, .own 6 1), (42, .int .i64 2)], [(3, .box [.str s0, .str s1, .str s2, .str s3]), (6, .ext (boxS [.own 100 1])), (100, .arr (.int .i64) [1])], []⟩, (Le.weak rfl rfl rfl rfl ⟨rfl, rfl, rfl, rfl, rfl, trivial⟩ ⟨rfl, rfl, rfl, trivial⟩), .inl (.inl ?_)⟩
    refine ⟨_, Le.refl _, .inl (.inr (OpTri.buildS hT rfl rfl rfl rfl rfl rfl rfl rfl ?_))⟩
    refine ⟨_, Le.refl _, .inl (.inr (OpTri.appS hT rfl rfl rfl rfl rfl rfl rfl ⟨trivial, rfl⟩ ⟨trivial, rfl⟩ rfl rfl rfl rfl rfl rfl (by decide) ?_))⟩
    refine (Tri.reg hT ?_)
    refine TriL.go (Tri.le (S := ⟨48, 0, 200, [(3, .loc 3 0), (4, .own 6 2), (11, .agg [.str s0, .str s1, .str s2, .str s3]), (12, .int .i64 2)], [(3, .box [.str s0, .str s1, .str s2, .str s3]), (6, .ext (boxS [.own 100 1, .own 110 1])), (100, .arr (.int .i64) [1]), (110, .arr (.int .i64) [2])], []⟩) (Le.weak rfl rfl rfl rfl ⟨rfl, rfl, rfl, rfl, trivial⟩ ⟨rfl, rfl, rfl, rfl, trivial⟩) ?_)
    refine Tri.seq (Tri.reg hT ?_)
    refine Tri.seq (Tri.cond ⟨fun h => ?_, fun h => absurd h (by decide)⟩)
    refine (Tri.skip ?_)
    refine Tri.seq (Tri.block ?_)
    refine Tri.seq (Tri.reg hT ?_)
    refine ⟨(by decide), ?_⟩
    refine Tri.seq ?_
    refine Tri.seq (Tri.reg hT ?_)
    refine (Tri.block ?_)
    refine Tri.loopN 6 ?_
    refine TriL.go (Tri.le (S := ⟨48, 0, 200, [(3, .loc 3 0), (4, .own 6 2), (11, .agg [.str s0, .str s1, .str s2, .str s3]), (12, .int .i64 2), (5, .int .i64 2), (6, .str s2), (16, .own 6 2), (17, .int .i64 2), (18, .int .i64 0)], [(3, .box [.str s0, .str s1, .str s2, .str s3]), (6, .ext (boxS [.own 100 1, .own 110 1])), (100, .arr (.int .i64) [1]), (110, .arr (.int .i64) [2])], []⟩) (Le.weak rfl rfl rfl rfl ⟨rfl, rfl, rfl, rfl, rfl, rfl, rfl, rfl, rfl, trivial⟩ ⟨rfl, rfl, rfl, rfl, trivial⟩) ?_)
    refine Tri.seq (Tri.reg hT ?_)
    refine Tri.seq (Tri.cond ⟨fun h => ?_, fun h => absurd h (by decide)⟩)
    refine (Tri.skip ?_)
    refine Tri.seq (Tri.block ?_)
    refine Tri.seq (Tri.regM hT [1, 2] ?_)
    refine ⟨_, Le.refl _, .inl (.inr (OpTri.idxS hT rfl rfl rfl rfl rfl rfl ⟨trivial, rfl⟩ ⟨trivial, rfl⟩ rfl (by decide) ?_))⟩
    refine ⟨_, Le.refl _, .inl (.inr (OpTri.loadS hT rfl rfl ⟨trivial, rfl⟩ rfl ?_))⟩
    refine Tri.seq (Tri.reg hT ?_)
    refine ⟨(by decide), ?_⟩
    refine ⟨(by decide), ?_⟩
    refine ⟨(by decide), ?_⟩
    refine (Tri.cond ⟨fun q02 => ?_, fun q02 => ?_⟩)
    · refine Tri.seq (Tri.regM hT [6, 7, 8] ?_)
      refine ⟨⟨48, 0, 260, [(3, .loc 3 0), (4, .own 6 2), (11, .agg [.str s0, .str s1, .str s2, .str s3]), (12, .int .i64 2), (31, .own 6 2), (32, .int .i64 0), (33, .own 100 1), (36, .own 219 1)], [(3, .box [.str s0, .str s1, .str s2, .str s3]), (6, .ext (boxS [.any, .own 110 1])), (100, .arr (.int .i64) [1]), (110, .arr (.int .i64) [2]), (219, .arr (.int .i64) [3])], []⟩, (Le.trans (Le.forgetS 6 0 rfl) (Le.weak rfl rfl rfl rfl ⟨rfl, rfl, rfl, rfl, rfl, rfl, rfl, rfl, trivial⟩ ⟨rfl, rfl, rfl, rfl, rfl, trivial⟩)), .inl (.inl ⟨Nat.le_refl _, (by decide), ?_⟩)⟩
      refine ⟨_, Le.refl _, .inl (.inr (OpTri.idxS hT rfl rfl rfl rfl rfl rfl ⟨trivial, rfl⟩ ⟨trivial, rfl⟩ rfl (by decide) ?_))⟩
      refine ⟨_, Le.refl _, .inl (.inr (OpTri.storeS hT rfl rfl rfl rfl rfl ⟨trivial, rfl⟩ rfl rfl rfl rfl rfl ?_))⟩
      refine Tri.exit ?_
      refine (Tri.reg hT ?_)
      refine TriL.go (Tri.le (S := ⟨48, 0, 200, [(3, .loc 3 0), (4, .own 6 2), (11, .agg [.str s0, .str s1, .str s2, .str s3]), (12, .int .i64 3)], [(3, .box [.str s0, .str s1, .str s2, .str s3]), (6, .ext (boxS [.own 100 2, .own 110 1])), (100, .arr (.int .i64) [1, 3]), (110, .arr (.int .i64) [2])], []⟩) (Le.weak rfl rfl rfl rfl ⟨rfl, rfl, rfl, rfl, trivial⟩ ⟨rfl, rfl, rfl, rfl, trivial⟩) ?_)
      refine Tri.seq (Tri.reg hT ?_)
      refine Tri.seq (Tri.cond ⟨fun h => ?_, fun h => absurd h (by decide)⟩)
      refine (Tri.skip ?_)
      refine Tri.seq (Tri.block ?_)
      refine Tri.seq (Tri.reg hT ?_)
      refine ⟨(by decide), ?_⟩
      refine Tri.seq ?_
      refine Tri.seq (Tri.reg hT ?_)
      refine (Tri.block ?_)
      refine Tri.loopN 6 ?_
      refine TriL.go (Tri.le (S := ⟨48, 0, 200, [(3, .loc 3 0), (4, .own 6 2), (11, .agg [.str s0, .str s1, .str s2, .str s3]), (12, .int .i64 3), (5, .int .i64 3), (6, .str s3), (16, .own 6 2), (17, .int .i64 2), (18, .int .i64 0)], [(3, .box [.str s0, .str s1, .str s2, .str s3]), (6, .ext (boxS [.own 100 2, .own 110 1])), (100, .arr (.int .i64) [1, 3]), (110, .arr (.int .i64) [2])], []⟩) (Le.weak rfl rfl rfl rfl ⟨rfl, rfl, rfl, rfl, rfl, rfl, rfl, rfl, rfl, trivial⟩ ⟨rfl, rfl, rfl, rfl, trivial⟩) ?_)
      refine Tri.seq (Tri.reg hT ?_)
      refine Tri.seq (Tri.cond ⟨fun h => ?_, fun h => absurd h (by decide)⟩)
      refine (Tri.skip ?_)
      refine Tri.seq (Tri.block ?_)
      refine Tri.seq (Tri.regM hT [1, 2] ?_)
      refine ⟨_, Le.refl _, .inl (.inr (OpTri.idxS hT rfl rfl rfl rfl rfl rfl ⟨trivial, rfl⟩ ⟨trivial, rfl⟩ rfl (by decide) ?_))⟩
      refine ⟨_, Le.refl _, .inl (.inr (OpTri.loadS hT rfl rfl ⟨trivial, rfl⟩ rfl ?_))⟩
      refine Tri.seq (Tri.reg hT ?_)
      refine ⟨(by decide), ?_⟩
      refine ⟨(by decide), ?_⟩
      refine ⟨(by decide), ?_⟩
      refine (Tri.cond ⟨fun q03 => ?_, fun q03 => ?_⟩)
      · refine Tri.seq (Tri.regM hT [6, 7, 8] ?_)
        refine ⟨⟨48, 0, 260, [(3, .loc 3 0), (4, .own 6 2), (11, .agg [.str s0, .str s1, .str s2, .str s3]), (12, .int .i64 3), (31, .own 6 2), (32, .int .i64 0), (33, .own 100 2), (36, .own 219 1)], [(3, .box [.str s0, .str s1, .str s2, .str s3]), (6, .ext (boxS [.any, .own 110 1])), (100, .arr (.int .i64) [1, 3]), (110, .arr (.int .i64) [2]), (219, .arr (.int .i64) [4])], []⟩, (Le.trans (Le.forgetS 6 0 rfl) (Le.weak rfl rfl rfl rfl ⟨rfl, rfl, rfl, rfl, rfl, rfl, rfl, rfl, trivial⟩ ⟨rfl, rfl, rfl, rfl, rfl, trivial⟩)), .inl (.inl ⟨Nat.le_refl _, (by decide), ?_⟩)⟩
        refine ⟨_, Le.refl _, .inl (.inr (OpTri.idxS hT rfl rfl rfl rfl rfl rfl ⟨trivial, rfl⟩ ⟨trivial, rfl⟩ rfl (by decide) ?_))⟩
        refine ⟨_, Le.refl _, .inl (.inr (OpTri.storeS hT rfl rfl rfl rfl rfl ⟨trivial, rfl⟩ rfl rfl rfl rfl rfl ?_))⟩
        refine Tri.exit ?_
        refine (Tri.reg hT ?_)
        refine TriL.go (Tri.le (S := ⟨48, 0, 200, [(3, .loc 3 0), (4, .own 6 2), (11, .agg [.str s0, .str s1, .str s2, .str s3]), (12, .int .i64 4)], [(3, .box [.str s0, .str s1, .str s2, .str s3]), (6, .ext (boxS [.own 100 3, .own 110 1])), (100, .arr (.int .i64) [1, 3, 4]), (110, .arr (.int .i64) [2])], []⟩) (Le.weak rfl rfl rfl rfl ⟨rfl, rfl, rfl, rfl, trivial⟩ ⟨rfl, rfl, rfl, rfl, trivial⟩) ?_)
        refine Tri.seq (Tri.reg hT ?_)
        refine Tri.seq (Tri.cond ⟨fun h => absurd h (by decide), fun h => ?_⟩)
        refine Tri.exit ?_
        refine Tri.seq (Tri.reg hT ?_)
        refine Tri.le (S := ⟨48, 0, 200, [(2, .own 6 2)], [(3, .box [.str s0, .str s1, .str s2, .str s3]), (6, .ext (boxS [.own 100 3, .own 110 1])), (100, .arr (.int .i64) [1, 3, 4]), (110, .arr (.int .i64) [2])], []⟩) (Le.weak rfl rfl rfl rfl ⟨rfl, trivial⟩ ⟨rfl, rfl, rfl, rfl, trivial⟩) ?_
        refine Tri.le _ (Le.freezeS 6 100 3 [] [.own 110 1] (xs := [1, 3, 4]) rfl rfl (by decide) rfl) ?_
        refine Tri.le (S := ⟨48, 0, 200, [(2, .own 6 2)], [(6, .ext (boxS [.list (.int .i64) [1, 3, 4], .own 110 1])), (110, .arr (.int .i64) [2])], []⟩) (Le.weak rfl rfl rfl rfl ⟨rfl, trivial⟩ ⟨rfl, rfl, trivial⟩) ?_
        refine Tri.le _ (Le.freezeS 6 110 1 [.list (.int .i64) [1, 3, 4]] [] (xs := [2]) rfl rfl (by decide) rfl) ?_
        refine Tri.le (S := ⟨48, 0, 200, [(2, .own 6 2)], [(6, .ext (boxS [.list (.int .i64) [1, 3, 4], .list (.int .i64) [2]]))], []⟩) (Le.weak rfl rfl rfl rfl ⟨rfl, trivial⟩ ⟨rfl, trivial⟩) ?_
        refine Tri.le _ (Le.listS 2 6 2 (ty := .int .i64) (xss := [[1, 3, 4], [2]]) rfl rfl rfl) ?_
        refine Tri.ret ?_
        exact ⟨congrArg (AV.list (.list (.int .i64))) (kinds_134_2 (of_decide_eq_false q01) (of_decide_eq_true q02) (of_decide_eq_true q03)).symm, trivial⟩
      · refine (Tri.skip ?_)
        refine (Tri.reg hT ?_)
        refine TriL.go (Tri.le (S := ⟨48, 0, 200, [(3, .loc 3 0), (4, .own 6 2), (11, .agg [.str s0, .str s1, .str s2, .str s3]), (12, .int .i64 3), (5, .int .i64 3), (6, .str s3), (16, .own 6 2), (17, .int .i64 2), (18, .int .i64 1)], [(3, .box [.str s0, .str s1, .str s2, .str s3]), (6, .ext (boxS [.own 100 2, .own 110 1])), (100, .arr (.int .i64) [1, 3]), (110, .arr (.int .i64) [2])], []⟩) (Le.weak rfl rfl rfl rfl ⟨rfl, rfl, rfl, rfl, rfl, rfl, rfl, rfl, rfl, trivial⟩ ⟨rfl, rfl, rfl, rfl, trivial⟩) ?_)
        refine Tri.seq (Tri.reg hT ?_)
        refine Tri.seq (Tri.cond ⟨fun h => ?_, fun h => absurd h (by decide)⟩)
        refine (Tri.skip ?_)
        refine Tri.seq (Tri.block ?_)
        refine Tri.seq (Tri.regM hT [1, 2] ?_)
        refine ⟨_, Le.refl _, .inl (.inr (OpTri.idxS hT rfl rfl rfl rfl rfl rfl ⟨trivial, rfl⟩ ⟨trivial, rfl⟩ rfl (by decide) ?_))⟩
        refine ⟨_, Le.refl _, .inl (.inr (OpTri.loadS hT rfl rfl ⟨trivial, rfl⟩ rfl ?_))⟩
        refine Tri.seq (Tri.reg hT ?_)
        refine ⟨(by decide), ?_⟩
        refine ⟨(by decide), ?_⟩
        refine ⟨(by decide), ?_⟩
        refine (Tri.cond ⟨fun q13 => ?_, fun q13 => ?_⟩)
        · refine Tri.seq (Tri.regM hT [6, 7, 8] ?_)
          refine ⟨⟨48, 0, 260, [(3, .loc 3 0), (4, .own 6 2), (11, .agg [.str s0, .str s1, .str s2, .str s3]), (12, .int .i64 3), (31, .own 6 2), (32, .int .i64 1), (33, .own 110 1), (36, .own 219 1)], [(3, .box [.str s0, .str s1, .str s2, .str s3]), (6, .ext (boxS [.own 100 2, .any])), (100, .arr (.int .i64) [1, 3]), (110, .arr (.int .i64) [2]), (219, .arr (.int .i64) [4])], []⟩, (Le.trans (Le.forgetS 6 1 rfl) (Le.weak rfl rfl rfl rfl ⟨rfl, rfl, rfl, rfl, rfl, rfl, rfl, rfl, trivial⟩ ⟨rfl, rfl, rfl, rfl, rfl, trivial⟩)), .inl (.inl ⟨Nat.le_refl _, (by decide), ?_⟩)⟩
          refine ⟨_, Le.refl _, .inl (.inr (OpTri.idxS hT rfl rfl rfl rfl rfl rfl ⟨trivial, rfl⟩ ⟨trivial, rfl⟩ rfl (by decide) ?_))⟩
          refine ⟨_, Le.refl _, .inl (.inr (OpTri.storeS hT rfl rfl rfl rfl rfl ⟨trivial, rfl⟩ rfl rfl rfl rfl rfl ?_))⟩
          refine Tri.exit ?_
          refine (Tri.reg hT ?_)
          refine TriL.go (Tri.le (S := ⟨48, 0, 200, [(3, .loc 3 0), (4, .own 6 2), (11, .agg [.str s0, .str s1, .str s2, .str s3]), (12, .int .i64 4)], [(3, .box [.str s0, .str s1, .str s2, .str s3]), (6, .ext (boxS [.own 100 2, .own 110 2])), (100, .arr (.int .i64) [1, 3]), (110, .arr (.int .i64) [2, 4])], []⟩) (Le.weak rfl rfl rfl rfl ⟨rfl, rfl, rfl, rfl, trivial⟩ ⟨rfl, rfl, rfl, rfl, trivial⟩) ?_)
          refine Tri.seq (Tri.reg hT ?_)
          refine Tri.seq (Tri.cond ⟨fun h => absurd h (by decide), fun h => ?_⟩)
          refine Tri.exit ?_
          refine Tri.seq (Tri.reg hT ?_)
          refine Tri.le (S := ⟨48, 0, 200, [(2, .own 6 2)], [(3, .box [.str s0, .str s1, .str s2, .str s3]), (6, .ext (boxS [.own 100 2, .own 110 2])), (100, .arr (.int .i64) [1, 3]), (110, .arr (.int .i64) [2, 4])], []⟩) (Le.weak rfl rfl rfl rfl ⟨rfl, trivial⟩ ⟨rfl, rfl, rfl, rfl, trivial⟩) ?_
          refine Tri.le _ (Le.freezeS 6 100 2 [] [.own 110 2] (xs := [1, 3]) rfl rfl (by decide) rfl) ?_
          refine Tri.le (S := ⟨48, 0, 200, [(2, .own 6 2)], [(6, .ext (boxS [.list (.int .i64) [1, 3], .own 110 2])), (110, .arr (.int .i64) [2, 4])], []⟩) (Le.weak rfl rfl rfl rfl ⟨rfl, trivial⟩ ⟨rfl, rfl, trivial⟩) ?_
          refine Tri.le _ (Le.freezeS 6 110 2 [.list (.int .i64) [1, 3]] [] (xs := [2, 4]) rfl rfl (by decide) rfl) ?_
          refine Tri.le (S := ⟨48, 0, 200, [(2, .own 6 2)], [(6, .ext (boxS [.list (.int .i64) [1, 3], .list (.int .i64) [2, 4]]))], []⟩) (Le.weak rfl rfl rfl rfl ⟨rfl, trivial⟩ ⟨rfl, trivial⟩) ?_
          refine Tri.le _ (Le.listS 2 6 2 (ty := .int .i64) (xss := [[1, 3], [2, 4]]) rfl rfl rfl) ?_
          refine Tri.ret ?_
          exact ⟨congrArg (AV.list (.list (.int .i64))) (kinds_13_24 (of_decide_eq_false q01) (of_decide_eq_true q02) (of_decide_eq_false q03) (of_decide_eq_true q13)).symm, trivial⟩
        · refine (Tri.skip ?_)
          refine (Tri.reg hT ?_)
          refine TriL.go (Tri.le (S := ⟨48, 0, 200, [(3, .loc 3 0), (4, .own 6 2), (11, .agg [.str s0, .str s1, .str s2, .str s3]), (12, .int .i64 3), (5, .int .i64 3), (6, .str s3), (16, .own 6 2), (17, .int .i64 2), (18, .int .i64 2)], [(3, .box [.str s0, .str s1, .str s2, .str s3]), (6, .ext (boxS [.own 100 2, .own 110 1])), (100, .arr (.int .i64) [1, 3]), (110, .arr (.int .i64) [2])], []⟩) (Le.weak rfl rfl rfl rfl ⟨rfl, rfl, rfl, rfl, rfl, rfl, rfl, rfl, rfl, trivial⟩ ⟨rfl, rfl, rfl, rfl, trivial⟩) ?_)
          refine Tri.seq (Tri.reg hT ?_)
          refine Tri.seq (Tri.cond ⟨fun h => absurd h (by decide), fun h => ?_⟩)
          refine Tri.exit ?_
          refine (Tri.regM hT [3, 4, 5] ?_)
          refine ⟨⟨48, 0, 120, [(3, .loc 3 0), (11, .agg [.str s0, .str s1, .str s2, .str s3]), (12, .int .i64 3), (40, .own 6 2), (42, .int .i64 4)], [(3, .box [.str s0, .str s1, .str s2, .str s3]), (6, .ext (boxS [.own 100 2, .own 110 1])), (100, .arr (.int .i64) [1, 3]), (110, .arr (.int .i64) [2])], []⟩, (Le.weak rfl rfl rfl rfl ⟨rfl, rfl, rfl, rfl, rfl, trivial⟩ ⟨rfl, rfl, rfl, rfl, trivial⟩), .inl (.inl ?_)⟩
          refine ⟨_, Le.refl _, .inl (.inr (OpTri.buildS hT rfl rfl rfl rfl rfl rfl rfl rfl ?_))⟩
          refine ⟨_, Le.refl _, .inl (.inr (OpTri.appS hT rfl rfl rfl rfl rfl rfl rfl ⟨trivial, rfl⟩ ⟨trivial, rfl⟩ rfl rfl rfl rfl rfl rfl (by decide) ?_))⟩
          refine (Tri.reg hT ?_)
          refine TriL.go (Tri.le (S := ⟨48, 0, 200, [(3, .loc 3 0), (4, .own 6 3), (11, .agg [.str s0, .str s1, .str s2, .str s3]), (12, .int .i64 4)], [(3, .box [.str s0, .str s1, .str s2, .str s3]), (6, .ext (boxS [.own 100 2, .own 110 1, .own 120 1])), (100, .arr (.int .i64) [1, 3]), (110, .arr (.int .i64) [2]), (120, .arr (.int .i64) [4])], []⟩) (Le.weak rfl rfl rfl rfl ⟨rfl, rfl, rfl, rfl, trivial⟩ ⟨rfl, rfl, rfl, rfl, rfl, trivial⟩) ?_)
          refine Tri.seq (Tri.reg hT ?_)
          refine Tri.seq (Tri.cond ⟨fun h => absurd h (by decide), fun h => ?_⟩)
          refine Tri.exit ?_
          refine Tri.seq (Tri.reg hT ?_)
          refine Tri.le (S := ⟨48, 0, 200, [(2, .own 6 3)], [(3, .box [.str s0, .str s1, .str s2, .str s3]), (6, .ext (boxS [.own 100 2, .own 110 1, .own 120 1])), (100, .arr (.int .i64) [1, 3]), (110, .arr (.int .i64) [2]), (120, .arr (.int .i64) [4])], []⟩) (Le.weak rfl rfl rfl rfl ⟨rfl, trivial⟩ ⟨rfl, rfl, rfl, rfl, rfl, trivial⟩) ?_
          refine Tri.le _ (Le.freezeS 6 100 2 [] [.own 110 1, .own 120 1] (xs := [1, 3]) rfl rfl (by decide) rfl) ?_
          refine Tri.le (S := ⟨48, 0, 200, [(2, .own 6 3)], [(6, .ext (boxS [.list (.int .i64) [1, 3], .own 110 1, .own 120 1])), (110, .arr (.int .i64) [2]), (120, .arr (.int .i64) [4])], []⟩) (Le.weak rfl rfl rfl rfl ⟨rfl, trivial⟩ ⟨rfl, rfl, rfl, trivial⟩) ?_
          refine Tri.le _ (Le.freezeS 6 110 1 [.list (.int .i64) [1, 3]] [.own 120 1] (xs := [2]) rfl rfl (by decide) rfl) ?_
          refine Tri.le (S := ⟨48, 0, 200, [(2, .own 6 3)], [(6, .ext (boxS [.list (.int .i64) [1, 3], .list (.int .i64) [2], .own 120 1])), (120, .arr (.int .i64) [4])], []⟩) (Le.weak rfl rfl rfl rfl ⟨rfl, trivial⟩ ⟨rfl, rfl, trivial⟩) ?_
          refine Tri.le _ (Le.freezeS 6 120 1 [.list (.int .i64) [1, 3], .list (.int .i64) [2]] [] (xs := [4]) rfl rfl (by decide) rfl) ?_
          refine Tri.le (S := ⟨48, 0, 200, [(2, .own 6 3)], [(6, .ext (boxS [.list (.int .i64) [1, 3], .list (.int .i64) [2], .list (.int .i64) [4]]))], []⟩) (Le.weak rfl rfl rfl rfl ⟨rfl, trivial⟩ ⟨rfl, trivial⟩) ?_
          refine Tri.le _ (Le.listS 2 6 3 (ty := .int .i64) (xss := [[1, 3], [2], [4]]) rfl rfl rfl) ?_
          refine Tri.ret ?_
          exact ⟨congrArg (AV.list (.list (.int .i64))) (kinds_13_2_4 (of_decide_eq_false q01) (of_decide_eq_true q02) (of_decide_eq_false q03) (of_decide_eq_false q13)).symm, trivial⟩
    · refine (Tri.skip ?_)
      refine (Tri.reg hT ?_)
      refine TriL.go (Tri.le (S := ⟨48, 0, 200, [(3, .loc 3 0), (4, .own 6 2), (11, .agg [.str s0, .str s1, .str s2, .str s3]), (12, .int .i64 2), (5, .int .i64 2), (6, .str s2), (16, .own 6 2), (17, .int .i64 2), (18, .int .i64 1)], [(3, .box [.str s0, .str s1, .str s2, .str s3]), (6, .ext (boxS [.own 100 1, .own 110 1])), (100, .arr (.int .i64) [1]), (110, .arr (.int .i64) [2])], []⟩) (Le.weak rfl rfl rfl rfl ⟨rfl, rfl, rfl, rfl, rfl, rfl, rfl, rfl, rfl, trivial⟩ ⟨rfl, rfl, rfl, rfl, trivial⟩) ?_)
      refine Tri.seq (Tri.reg hT ?_)
      refine Tri.seq (Tri.cond ⟨fun h => ?_, fun h => absurd h (by decide)⟩)
      refine (Tri.skip ?_)
      refine Tri.seq (Tri.block ?_)
      refine Tri.seq (Tri.regM hT [1, 2] ?_)
      refine ⟨_, Le.refl _, .inl (.inr (OpTri.idxS hT rfl rfl rfl rfl rfl rfl ⟨trivial, rfl⟩ ⟨trivial, rfl⟩ rfl (by decide) ?_))⟩
      refine ⟨_, Le.refl _, .inl (.inr (OpTri.loadS hT rfl rfl ⟨trivial, rfl⟩ rfl ?_))⟩
      refine Tri.seq (Tri.reg hT ?_)
      refine ⟨(by decide), ?_⟩
      refine ⟨(by decide), ?_⟩
      refine ⟨(by decide), ?_⟩
      refine (Tri.cond ⟨fun q12 => ?_, fun q12 => ?_⟩)
      · refine Tri.seq (Tri.regM hT [6, 7, 8] ?_)
        refine ⟨⟨48, 0, 260, [(3, .loc 3 0), (4, .own 6 2), (11, .agg [.str s0, .str s1, .str s2, .str s3]), (12, .int .i64 2), (31, .own 6 2), (32, .int .i64 1), (33, .own 110 1), (36, .own 219 1)], [(3, .box [.str s0, .str s1, .str s2, .str s3]), (6, .ext (boxS [.own 100 1, .any])), (100, .arr (.int .i64) [1]), (110, .arr (.int .i64) [2]), (219, .arr (.int .i64) [3])], []⟩, (Le.trans (Le.forgetS 6 1 rfl) (Le.weak rfl rfl rfl rfl ⟨rfl, rfl, rfl, rfl, rfl, rfl, rfl, rfl, trivial⟩ ⟨rfl, rfl, rfl, rfl, rfl, trivial⟩)), .inl (.inl ⟨Nat.le_refl _, (by decide), ?_⟩)⟩
        refine ⟨_, Le.refl _, .inl (.inr (OpTri.idxS hT rfl rfl rfl rfl rfl rfl ⟨trivial, rfl⟩ ⟨trivial, rfl⟩ rfl (by decide) ?_))⟩
        refine ⟨_, Le.refl _, .inl (.inr (OpTri.storeS hT rfl rfl rfl rfl rfl ⟨trivial, rfl⟩ rfl rfl rfl rfl rfl ?_))⟩
        refine Tri.exit ?_
        refine (Tri.reg hT ?_)
        refine TriL.go (Tri.le (S := ⟨48, 0, 200, [(3, .loc 3 0), (4, .own 6 2), (11, .agg [.str s0, .str s1, .str s2, .str s3]), (12, .int .i64 3)], [(3, .box [.str s0, .str s1, .str s2, .str s3]), (6, .ext (boxS [.own 100 1, .own 110 2])), (100, .arr (.int .i64) [1]), (110, .arr (.int .i64) [2, 3])], []⟩) (Le.weak rfl rfl rfl rfl ⟨rfl, rfl, rfl, rfl, trivial⟩ ⟨rfl, rfl, rfl, rfl, trivial⟩) ?_)
        refine Tri.seq (Tri.reg hT ?_)
        refine Tri.seq (Tri.cond ⟨fun h => ?_, fun h => absurd h (by decide)⟩)
        refine (Tri.skip ?_)
        refine Tri.seq (Tri.block ?_)
        refine Tri.seq (Tri.reg hT ?_)
        refine ⟨(by decide), ?_⟩
        refine Tri.seq ?_
        refine Tri.seq (Tri.reg hT ?_)
        refine (Tri.block ?_)
        refine Tri.loopN 6 ?_
        refine TriL.go (Tri.le (S := ⟨48, 0, 200, [(3, .loc 3 0), (4, .own 6 2), (11, .agg [.str s0, .str s1, .str s2, .str s3]), (12, .int .i64 3), (5, .int .i64 3), (6, .str s3), (16, .own 6 2), (17, .int .i64 2), (18, .int .i64 0)], [(3, .box [.str s0, .str s1, .str s2, .str s3]), (6, .ext (boxS [.own 100 1, .own 110 2])), (100, .arr (.int .i64) [1]), (110, .arr (.int .i64) [2, 3])], []⟩) (Le.weak rfl rfl rfl rfl ⟨rfl, rfl, rfl, rfl, rfl, rfl, rfl, rfl, rfl, trivial⟩ ⟨rfl, rfl, rfl, rfl, trivial⟩) ?_)
        refine Tri.seq (Tri.reg hT ?_)
        refine Tri.seq (Tri.cond ⟨fun h => ?_, fun h => absurd h (by decide)⟩)
        refine (Tri.skip ?_)
        refine Tri.seq (Tri.block ?_)
        refine Tri.seq (Tri.regM hT [1, 2] ?_)
        refine ⟨_, Le.refl _, .inl (.inr (OpTri.idxS hT rfl rfl rfl rfl rfl rfl ⟨trivial, rfl⟩ ⟨trivial, rfl⟩ rfl (by decide) ?_))⟩
        refine ⟨_, Le.refl _, .inl (.inr (OpTri.loadS hT rfl rfl ⟨trivial, rfl⟩ rfl ?_))⟩
        refine Tri.seq (Tri.reg hT ?_)
        refine ⟨(by decide), ?_⟩
        refine ⟨(by decide), ?_⟩
        refine ⟨(by decide), ?_⟩
        refine (Tri.cond ⟨fun q03 => ?_, fun q03 => ?_⟩)
        · refine Tri.seq (Tri.regM hT [6, 7, 8] ?_)
          refine ⟨⟨48, 0, 260, [(3, .loc 3 0), (4, .own 6 2), (11, .agg [.str s0, .str s1, .str s2, .str s3]), (12, .int .i64 3), (31, .own 6 2), (32, .int .i64 0), (33, .own 100 1), (36, .own 219 1)], [(3, .box [.str s0, .str s1, .str s2, .str s3]), (6, .ext (boxS [.any, .own 110 2])), (100, .arr (.int .i64) [1]), (110, .arr (.int .i64) [2, 3]), (219, .arr (.int .i64) [4])], []⟩, (Le.trans (Le.forgetS 6 0 rfl) (Le.weak rfl rfl rfl rfl ⟨rfl, rfl, rfl, rfl, rfl, rfl, rfl, rfl, trivial⟩ ⟨rfl, rfl, rfl, rfl, rfl, trivial⟩)), .inl (.inl ⟨Nat.le_refl _, (by decide), ?_⟩)⟩
          refine ⟨_, Le.refl _, .inl (.inr (OpTri.idxS hT rfl rfl rfl rfl rfl rfl ⟨trivial, rfl⟩ ⟨trivial, rfl⟩ rfl (by decide) ?_))⟩
          refine ⟨_, Le.refl _, .inl (.inr (OpTri.storeS hT rfl rfl rfl rfl rfl ⟨trivial, rfl⟩ rfl rfl rfl rfl rfl ?_))⟩
          refine Tri.exit ?_
          refine (Tri.reg hT ?_)
          refine TriL.go (Tri.le (S := ⟨48, 0, 200, [(3, .loc 3 0), (4, .own 6 2), (11, .agg [.str s0, .str s1, .str s2, .str s3]), (12, .int .i64 4)], [(3, .box [.str s0, .str s1, .str s2, .str s3]), (6, .ext (boxS [.own 100 2, .own 110 2])), (100, .arr (.int .i64) [1, 4]), (110, .arr (.int .i64) [2, 3])], []⟩) (Le.weak rfl rfl rfl rfl ⟨rfl, rfl, rfl, rfl, trivial⟩ ⟨rfl, rfl, rfl, rfl, trivial⟩) ?_)
          refine Tri.seq (Tri.reg hT ?_)
          refine Tri.seq (Tri.cond ⟨fun h => absurd h (by decide), fun h => ?_⟩)
          refine Tri.exit ?_
          refine Tri.seq (Tri.reg hT ?_)
          refine Tri.le (S := ⟨48, 0, 200, [(2, .own 6 2)], [(3, .box [.str s0, .str s1, .str s2, .str s3]), (6, .ext (boxS [.own 100 2, .own 110 2])), (100, .arr (.int .i64) [1, 4]), (110, .arr (.int .i64) [2, 3])], []⟩) (Le.weak rfl rfl rfl rfl ⟨rfl, trivial⟩ ⟨rfl, rfl, rfl, rfl, trivial⟩) ?_
          refine Tri.le _ (Le.freezeS 6 100 2 [] [.own 110 2] (xs := [1, 4]) rfl rfl (by decide) rfl) ?_
          refine Tri.le (S := ⟨48, 0, 200, [(2, .own 6 2)], [(6, .ext (boxS [.list (.int .i64) [1, 4], .own 110 2])), (110, .arr (.int .i64) [2, 3])], []⟩) (Le.weak rfl rfl rfl rfl ⟨rfl, trivial⟩ ⟨rfl, rfl, trivial⟩) ?_
          refine Tri.le _ (Le.freezeS 6 110 2 [.list (.int .i64) [1, 4]] [] (xs := [2, 3]) rfl rfl (by decide) rfl) ?_
          refine Tri.le (S := ⟨48, 0, 200, [(2, .own 6 2)], [(6, .ext (boxS [.list (.int .i64) [1, 4], .list (.int .i64) [2, 3]]))], []⟩) (Le.weak rfl rfl rfl rfl ⟨rfl, trivial⟩ ⟨rfl, trivial⟩) ?_
          refine Tri.le _ (Le.listS 2 6 2 (ty := .int .i64) (xss := [[1, 4], [2, 3]]) rfl rfl rfl) ?_
          refine Tri.ret ?_
          exact ⟨congrArg (AV.list (.list (.int .i64))) (kinds_14_23 (of_decide_eq_false q01) (of_decide_eq_false q02) (of_decide_eq_true q12) (of_decide_eq_true q03)).symm, trivial⟩
        · refine (Tri.skip ?_)
          refine (Tri.reg hT ?_)
          refine TriL.go (Tri.le (S := ⟨48, 0, 200, [(3, .loc 3 0), (4, .own 6 2), (11, .agg [.str s0, .str s1, .str s2, .str s3]), (12, .int .i64 3), (5, .int .i64 3), (6, .str s3), (16, .own 6 2), (17, .int .i64 2), (18, .int .i64 1)], [(3, .box [.str s0, .str s1, .str s2, .str s3]), (6, .ext (boxS [.own 100 1, .own 110 2])), (100, .arr (.int .i64) [1]), (110, .arr (.int .i64) [2, 3])], []⟩) (Le.weak rfl rfl rfl rfl ⟨rfl, rfl, rfl, rfl, rfl, rfl, rfl, rfl, rfl, trivial⟩ ⟨rfl, rfl, rfl, rfl, trivial⟩) ?_)
          refine Tri.seq (Tri.reg hT ?_)
          refine Tri.seq (Tri.cond ⟨fun h => ?_, fun h => absurd h (by decide)⟩)
          refine (Tri.skip ?_)
          refine Tri.seq (Tri.block ?_)
          refine Tri.seq (Tri.regM hT [1, 2] ?_)
          refine ⟨_, Le.refl _, .inl (.inr (OpTri.idxS hT rfl rfl rfl rfl rfl rfl ⟨trivial, rfl⟩ ⟨trivial, rfl⟩ rfl (by decide) ?_))⟩
          refine ⟨_, Le.refl _, .inl (.inr (OpTri.loadS hT rfl rfl ⟨trivial, rfl⟩ rfl ?_))⟩
          refine Tri.seq (Tri.reg hT ?_)
          refine ⟨(by decide), ?_⟩
          refine ⟨(by decide), ?_⟩
          refine ⟨(by decide), ?_⟩
          refine (Tri.cond ⟨fun q13 => ?_, fun q13 => ?_⟩)
          · refine Tri.seq (Tri.regM hT [6, 7, 8] ?_)
            refine ⟨⟨48, 0, 260, [(3, .loc 3 0), (4, .own 6 2), (11, .agg [.str s0, .str s1, .str s2, .str s3]), (12, .int .i64 3), (31, .own 6 2), (32, .int .i64 1), (33, .own 110 2), (36, .own 219 1)], [(3, .box [.str s0, .str s1, .str s2, .str s3]), (6, .ext (boxS [.own 100 1, .any])), (100, .arr (.int .i64) [1]), (110, .arr (.int .i64) [2, 3]), (219, .arr (.int .i64) [4])], []⟩, (Le.trans (Le.forgetS 6 1 rfl) (Le.weak rfl rfl rfl rfl ⟨rfl, rfl, rfl, rfl, rfl, rfl, rfl, rfl, trivial⟩ ⟨rfl, rfl, rfl, rfl, rfl, trivial⟩)), .inl (.inl ⟨Nat.le_refl _, (by decide), ?_⟩)⟩
            refine ⟨_, Le.refl _, .inl (.inr (OpTri.idxS hT rfl rfl rfl rfl rfl rfl ⟨trivial, rfl⟩ ⟨trivial, rfl⟩ rfl (by decide) ?_))⟩
            refine ⟨_, Le.refl _, .inl (.inr (OpTri.storeS hT rfl rfl rfl rfl rfl ⟨trivial, rfl⟩ rfl rfl rfl rfl rfl ?_))⟩
            refine Tri.exit ?_
            refine (Tri.reg hT ?_)
            refine TriL.go (Tri.le (S := ⟨48, 0, 200, [(3, .loc 3 0), (4, .own 6 2), (11, .agg [.str s0, .str s1, .str s2, .str s3]), (12, .int .i64 4)], [(3, .box [.str s0, .str s1, .str s2, .str s3]), (6, .ext (boxS [.own 100 1, .own 110 3])), (100, .arr (.int .i64) [1]), (110, .arr (.int .i64) [2, 3, 4])], []⟩) (Le.weak rfl rfl rfl rfl ⟨rfl, rfl, rfl, rfl, trivial⟩ ⟨rfl, rfl, rfl, rfl, trivial⟩) ?_)
            refine Tri.seq (Tri.reg hT ?_)
            refine Tri.seq (Tri.cond ⟨fun h => absurd h (by decide), fun h => ?_⟩)
            refine Tri.exit ?_
            refine Tri.seq (Tri.reg hT ?_)
            refine Tri.le (S := ⟨48, 0, 200, [(2, .own 6 2)], [(3, .box [.str s0, .str s1, .str s2, .str s3]), (6, .ext (boxS [.own 100 1, .own 110 3])), (100, .arr (.int .i64) [1]), (110, .arr (.int .i64) [2, 3, 4])], []⟩) (Le.weak rfl rfl rfl rfl ⟨rfl, trivial⟩ ⟨rfl, rfl, rfl, rfl, trivial⟩) ?_
            refine Tri.le _ (Le.freezeS 6 100 1 [] [.own 110 3] (xs := [1]) rfl rfl (by decide) rfl) ?_
            refine Tri.le (S := ⟨48, 0, 200, [(2, .own 6 2)], [(6, .ext (boxS [.list (.int .i64) [1], .own 110 3])), (110, .arr (.int .i64) [2, 3, 4])], []⟩) (Le.weak rfl rfl rfl rfl ⟨rfl, trivial⟩ ⟨rfl, rfl, trivial⟩) ?_
            refine Tri.le _ (Le.freezeS 6 110 3 [.list (.int .i64) [1]] [] (xs := [2, 3, 4]) rfl rfl (by decide) rfl) ?_
            refine Tri.le (S := ⟨48, 0, 200, [(2, .own 6 2)], [(6, .ext (boxS [.list (.int .i64) [1], .list (.int .i64) [2, 3, 4]]))], []⟩) (Le.weak rfl rfl rfl rfl ⟨rfl, trivial⟩ ⟨rfl, trivial⟩) ?_
            refine Tri.le _ (Le.listS 2 6 2 (ty := .int .i64) (xss := [[1], [2, 3, 4]]) rfl rfl rfl) ?_
            refine Tri.ret ?_
            exact ⟨congrArg (AV.list (.list (.int .i64))) (kinds_1_234 (of_decide_eq_false q01) (of_decide_eq_false q02) (of_decide_eq_true q12) (of_decide_eq_false q03) (of_decide_eq_true q13)).symm, trivial⟩
          · refine (Tri.skip ?_)
            refine (Tri.reg hT ?_)
            refine TriL.go (Tri.le (S := ⟨48, 0, 200, [(3, .loc 3 0), (4, .own 6 2), (11, .agg [.str s0, .str s1, .str s2, .str s3]), (12, .int .i64 3), (5, .int .i64 3), (6, .str s3), (16, .own 6 2), (17, .int .i64 2), (18, .int .i64 2)], [(3, .box [.str s0, .str s1, .str s2, .str s3]), (6, .ext (boxS [.own 100 1, .own 110 2])), (100, .arr (.int .i64) [1]), (110, .arr (.int .i64) [2, 3])], []⟩) (Le.weak rfl rfl rfl rfl ⟨rfl, rfl, rfl, rfl, rfl, rfl, rfl, rfl, rfl, trivial⟩ ⟨rfl, rfl, rfl, rfl, trivial⟩) ?_)
            refine Tri.seq (Tri.reg hT ?_)
            refine Tri.seq (Tri.cond ⟨fun h => absurd h (by decide), fun h => ?_⟩)
            refine Tri.exit ?_
            refine (Tri.regM hT [3, 4, 5] ?_)
            refine ⟨⟨48, 0, 120, [(3, .loc 3 0), (11, .agg [.str s0, .str s1, .str s2, .str s3]), (12, .int .i64 3), (40, .own 6 2), (42, .int .i64 4)], [(3, .box [.str s0, .str s1, .str s2, .str s3]), (6, .ext (boxS [.own 100 1, .own 110 2])), (100, .arr (.int .i64) [1]), (110, .arr (.int .i64) [2, 3])], []⟩, (Le.weak rfl rfl rfl rfl ⟨rfl, rfl, rfl, rfl, rfl, trivial⟩ ⟨rfl, rfl, rfl, rfl, trivial⟩), .inl (.inl ?_)⟩
            refine ⟨_, Le.refl _, .inl (.inr (OpTri.buildS hT rfl rfl rfl rfl rfl rfl rfl rfl ?_))⟩
            refine ⟨_, Le.refl _, .inl (.inr (OpTri.appS hT rfl rfl rfl rfl rfl rfl rfl ⟨trivial, rfl⟩ ⟨trivial, rfl⟩ rfl rfl rfl rfl rfl rfl (by decide) ?_))⟩
            refine (Tri.reg hT ?_)
            refine TriL.go (Tri.le (S := ⟨48, 0, 200, [(3, .loc 3 0), (4, .own 6 3), (11, .agg [.str s0, .str s1, .str s2, .str s3]), (12, .int .i64 4)], [(3, .box [.str s0, .str s1, .str s2, .str s3]), (6, .ext (boxS [.own 100 1, .own 110 2, .own 120 1])), (100, .arr (.int .i64) [1]), (110, .arr (.int .i64) [2, 3]), (120, .arr (.int .i64) [4])], []⟩) (Le.weak rfl rfl rfl rfl ⟨rfl, rfl, rfl, rfl, trivial⟩ ⟨rfl, rfl, rfl, rfl, rfl, trivial⟩) ?_)
            refine Tri.seq (Tri.reg hT ?_)
            refine Tri.seq (Tri.cond ⟨fun h => absurd h (by decide), fun h => ?_⟩)
            refine Tri.exit ?_
            refine Tri.seq (Tri.reg hT ?_)
            refine Tri.le (S := ⟨48, 0, 200, [(2, .own 6 3)], [(3, .box [.str s0, .str s1, .str s2, .str s3]), (6, .ext (boxS [.own 100 1, .own 110 2, .own 120 1])), (100, .arr (.int .i64) [1]), (110, .arr (.int .i64) [2, 3]), (120, .arr (.int .i64) [4])], []⟩) (Le.weak rfl rfl rfl rfl ⟨rfl, trivial⟩ ⟨rfl, rfl, rfl, rfl, rfl, trivial⟩) ?_
            refine Tri.le _ (Le.freezeS 6 100 1 [] [.own 110 2, .own 120 1] (xs := [1]) rfl rfl (by decide) rfl) ?_
            refine Tri.le (S := ⟨48, 0, 200, [(2, .own 6 3)], [(6, .ext (boxS [.list (.int .i64) [1], .own 110 2, .own 120 1])), (110, .arr (.int .i64) [2, 3]), (120, .arr (.int .i64) [4])], []⟩) (Le.weak rfl rfl rfl rfl ⟨rfl, trivial⟩ ⟨rfl, rfl, rfl, trivial⟩) ?_
            refine Tri.le _ (Le.freezeS 6 110 2 [.list (.int .i64) [1]] [.own 120 1] (xs := [2, 3]) rfl rfl (by decide) rfl) ?_
            refine Tri.le (S := ⟨48, 0, 200, [(2, .own 6 3)], [(6, .ext (boxS [.list (.int .i64) [1], .list (.int .i64) [2, 3], .own 120 1])), (120, .arr (.int .i64) [4])], []⟩) (Le.weak rfl rfl rfl rfl ⟨rfl, trivial⟩ ⟨rfl, rfl, trivial⟩) ?_
            refine Tri.le _ (Le.freezeS 6 120 1 [.list (.int .i64) [1], .list (.int .i64) [2, 3]] [] (xs := [4]) rfl rfl (by decide) rfl) ?_
            refine Tri.le (S := ⟨48, 0, 200, [(2, .own 6 3)], [(6, .ext (boxS [.list (.int .i64) [1], .list (.int .i64) [2, 3], .list (.int .i64) [4]]))], []⟩) (Le.weak rfl rfl rfl rfl ⟨rfl, trivial⟩ ⟨rfl, trivial⟩) ?_
            refine Tri.le _ (Le.listS 2 6 3 (ty := .int .i64) (xss := [[1], [2, 3], [4]]) rfl rfl rfl) ?_
            refine Tri.ret ?_
            exact ⟨congrArg (AV.list (.list (.int .i64))) (kinds_1_23_4 (of_decide_eq_false q01) (of_decide_eq_false q02) (of_decide_eq_true q12) (of_decide_eq_false q03) (of_decide_eq_false q13)).symm, trivial⟩
      · refine (Tri.skip ?_)
        refine (Tri.reg hT ?_)
        refine TriL.go (Tri.le (S := ⟨48, 0, 200, [(3, .loc 3 0), (4, .own 6 2), (11, .agg [.str s0, .str s1, .str s2, .str s3]), (12, .int .i64 2), (5, .int .i64 2), (6, .str s2), (16, .own 6 2), (17, .int .i64 2), (18, .int .i64 2)], [(3, .box [.str s0, .str s1, .str s2, .str s3]), (6, .ext (boxS [.own 100 1, .own 110 1])), (100, .arr (.int .i64) [1]), (110, .arr (.int .i64) [2])], []⟩) (Le.weak rfl rfl rfl rfl ⟨rfl, rfl, rfl, rfl, rfl, rfl, rfl, rfl, rfl, trivial⟩ ⟨rfl, rfl, rfl, rfl, trivial⟩) ?_)
        refine Tri.seq (Tri.reg hT ?_)
        refine Tri.seq (Tri.cond ⟨fun h => absurd h (by decide), fun h => ?_⟩)
        refine Tri.exit ?_
        refine (Tri.regM hT [3, 4, 5] ?_)
        refine ⟨⟨48, 0, 120, [(3, .loc 3 0), (11, .agg [.str s0, .str s1, .str s2, .str s3]), (12, .int .i64 2), (40, .own 6 2), (42, .int .i64 3)], [(3, .box [.str s0, .str s1, .str s2, .str s3]), (6, .ext (boxS [.own 100 1, .own 110 1])), (100, .arr (.int .i64) [1]), (110, .arr (.int .i64) [2])], []⟩, (Le.weak rfl rfl rfl rfl ⟨rfl, rfl, rfl, rfl, rfl, trivial⟩ ⟨rfl, rfl, rfl, rfl, trivial⟩), .inl (.inl ?_)⟩
        refine ⟨_, Le.refl _, .inl (.inr (OpTri.buildS hT rfl rfl rfl rfl rfl rfl rfl rfl ?_))⟩
        refine ⟨_, Le.refl _, .inl (.inr (OpTri.appS hT rfl rfl rfl rfl rfl rfl rfl ⟨trivial, rfl⟩ ⟨trivial, rfl⟩ rfl rfl rfl rfl rfl rfl (by decide) ?_))⟩
        refine (Tri.reg hT ?_)
        refine TriL.go (Tri.le (S := ⟨48, 0, 200, [(3, .loc 3 0), (4, .own 6 3), (11, .agg [.str s0, .str s1, .str s2, .str s3]), (12, .int .i64 3)], [(3, .box [.str s0, .str s1, .str s2, .str s3]), (6, .ext (boxS [.own 100 1, .own 110 1, .own 120 1])), (100, .arr (.int .i64) [1]), (110, .arr (.int .i64) [2]), (120, .arr (.int .i64) [3])], []⟩) (Le.weak rfl rfl rfl rfl ⟨rfl, rfl, rfl, rfl, trivial⟩ ⟨rfl, rfl, rfl, rfl, rfl, trivial⟩) ?_)
        refine Tri.seq (Tri.reg hT ?_)
        refine Tri.seq (Tri.cond ⟨fun h => ?_, fun h => absurd h (by decide)⟩)
        refine (Tri.skip ?_)
        refine Tri.seq (Tri.block ?_)
        refine Tri.seq (Tri.reg hT ?_)
        refine ⟨(by decide), ?_⟩
        refine Tri.seq ?_
        refine Tri.seq (Tri.reg hT ?_)
        refine (Tri.block ?_)
        refine Tri.loopN 6 ?_
        refine TriL.go (Tri.le (S := ⟨48, 0, 200, [(3, .loc 3 0), (4, .own 6 3), (11, .agg [.str s0, .str s1, .str s2, .str s3]), (12, .int .i64 3), (5, .int .i64 3), (6, .str s3), (16, .own 6 3), (17, .int .i64 3), (18, .int .i64 0)], [(3, .box [.str s0, .str s1, .str s2, .str s3]), (6, .ext (boxS [.own 100 1, .own 110 1, .own 120 1])), (100, .arr (.int .i64) [1]), (110, .arr (.int .i64) [2]), (120, .arr (.int .i64) [3])], []⟩) (Le.weak rfl rfl rfl rfl ⟨rfl, rfl, rfl, rfl, rfl, rfl, rfl, rfl, rfl, trivial⟩ ⟨rfl, rfl, rfl, rfl, rfl, trivial⟩) ?_)
        refine Tri.seq (Tri.reg hT ?_)
        refine Tri.seq (Tri.cond ⟨fun h => ?_, fun h => absurd h (by decide)⟩)
        refine (Tri.skip ?_)
        refine Tri.seq (Tri.block ?_)
        refine Tri.seq (Tri.regM hT [1, 2] ?_)
        refine ⟨_, Le.refl _, .inl (.inr (OpTri.idxS hT rfl rfl rfl rfl rfl rfl ⟨trivial, rfl⟩ ⟨trivial, rfl⟩ rfl (by decide) ?_))⟩
        refine ⟨_, Le.refl _, .inl (.inr (OpTri.loadS hT rfl rfl ⟨trivial, rfl⟩ rfl ?_))⟩
        refine Tri.seq (Tri.reg hT ?_)
        refine ⟨(by decide), ?_⟩
        refine ⟨(by decide), ?_⟩
        refine ⟨(by decide), ?_⟩
        refine (Tri.cond ⟨fun q03 => ?_, fun q03 => ?_⟩)
        · refine Tri.seq (Tri.regM hT [6, 7, 8] ?_)
          refine ⟨⟨48, 0, 260, [(3, .loc 3 0), (4, .own 6 3), (11, .agg [.str s0, .str s1, .str s2, .str s3]), (12, .int .i64 3), (31, .own 6 3), (32, .int .i64 0), (33, .own 100 1), (36, .own 219 1)], [(3, .box [.str s0, .str s1, .str s2, .str s3]), (6, .ext (boxS [.any, .own 110 1, .own 120 1])), (100, .arr (.int .i64) [1]), (110, .arr (.int .i64) [2]), (120, .arr (.int .i64) [3]), (219, .arr (.int .i64) [4])], []⟩, (Le.trans (Le.forgetS 6 0 rfl) (Le.weak rfl rfl rfl rfl ⟨rfl, rfl, rfl, rfl, rfl, rfl, rfl, rfl, trivial⟩ ⟨rfl, rfl, rfl, rfl, rfl, rfl, trivial⟩)), .inl (.inl ⟨Nat.le_refl _, (by decide), ?_⟩)⟩
          refine ⟨_, Le.refl _, .inl (.inr (OpTri.idxS hT rfl rfl rfl rfl rfl rfl ⟨trivial, rfl⟩ ⟨trivial, rfl⟩ rfl (by decide) ?_))⟩
          refine ⟨_, Le.refl _, .inl (.inr (OpTri.storeS hT rfl rfl rfl rfl rfl ⟨trivial, rfl⟩ rfl rfl rfl rfl rfl ?_))⟩
          refine Tri.exit ?_
          refine (Tri.reg hT ?_)
          refine TriL.go (Tri.le (S := ⟨48, 0, 200, [(3, .loc 3 0), (4, .own 6 3), (11, .agg [.str s0, .str s1, .str s2, .str s3]), (12, .int .i64 4)], [(3, .box [.str s0, .str s1, .str s2, .str s3]), (6, .ext (boxS [.own 100 2, .own 110 1, .own 120 1])), (100, .arr (.int .i64) [1, 4]), (110, .arr (.int .i64) [2]), (120, .arr (.int .i64) [3])], []⟩) (Le.weak rfl rfl rfl rfl ⟨rfl, rfl, rfl, rfl, trivial⟩ ⟨rfl, rfl, rfl, rfl, rfl, trivial⟩) ?_)
          refine Tri.seq (Tri.reg hT ?_)
          refine Tri.seq (Tri.cond ⟨fun h => absurd h (by decide), fun h => ?_⟩)
          refine Tri.exit ?_
          refine Tri.seq (Tri.reg hT ?_)
          refine Tri.le (S := ⟨48, 0, 200, [(2, .own 6 3)], [(3, .box [.str s0, .str s1, .str s2, .str s3]), (6, .ext (boxS [.own 100 2, .own 110 1, .own 120 1])), (100, .arr (.int .i64) [1, 4]), (110, .arr (.int .i64) [2]), (120, .arr (.int .i64) [3])], []⟩) (Le.weak rfl rfl rfl rfl ⟨rfl, trivial⟩ ⟨rfl, rfl, rfl, rfl, rfl, trivial⟩) ?_
          refine Tri.le _ (Le.freezeS 6 100 2 [] [.own 110 1, .own 120 1] (xs := [1, 4]) rfl rfl (by decide) rfl) ?_
          refine Tri.le (S := ⟨48, 0, 200, [(2, .own 6 3)], [(6, .ext (boxS [.list (.int .i64) [1, 4], .own 110 1, .own 120 1])), (110, .arr (.int .i64) [2]), (120, .arr (.int .i64) [3])], []⟩) (Le.weak rfl rfl rfl rfl ⟨rfl, trivial⟩ ⟨rfl, rfl, rfl, trivial⟩) ?_
          refine Tri.le _ (Le.freezeS 6 110 1 [.list (.int .i64) [1, 4]] [.own 120 1] (xs := [2]) rfl rfl (by decide) rfl) ?_
          refine Tri.le (S := ⟨48, 0, 200, [(2, .own 6 3)], [(6, .ext (boxS [.list (.int .i64) [1, 4], .list (.int .i64) [2], .own 120 1])), (120, .arr (.int .i64) [3])], []⟩) (Le.weak rfl rfl rfl rfl ⟨rfl, trivial⟩ ⟨rfl, rfl, trivial⟩) ?_
          refine Tri.le _ (Le.freezeS 6 120 1 [.list (.int .i64) [1, 4], .list (.int .i64) [2]] [] (xs := [3]) rfl rfl (by decide) rfl) ?_
          refine Tri.le (S := ⟨48, 0, 200, [(2, .own 6 3)], [(6, .ext (boxS [.list (.int .i64) [1, 4], .list (.int .i64) [2], .list (.int .i64) [3]]))], []⟩) (Le.weak rfl rfl rfl rfl ⟨rfl, trivial⟩ ⟨rfl, trivial⟩) ?_
          refine Tri.le _ (Le.listS 2 6 3 (ty := .int .i64) (xss := [[1, 4], [2], [3]]) rfl rfl rfl) ?_
          refine Tri.ret ?_
          exact ⟨congrArg (AV.list (.list (.int .i64))) (kinds_14_2_3 (of_decide_eq_false q01) (of_decide_eq_false q02) (of_decide_eq_false q12) (of_decide_eq_true q03)).symm, trivial⟩
        · refine (Tri.skip ?_)
          refine (Tri.reg hT ?_)
          refine TriL.go (Tri.le (S := ⟨48, 0, 200, [(3, .loc 3 0), (4, .own 6 3), (11, .agg [.str s0, .str s1, .str s2, .str s3]), (12, .int .i64 3), (5, .int .i64 3), (6, .str s3), (16, .own 6 3), (17, .int .i64 3), (18, .int .i64 1)], [(3, .box [.str s0, .str s1, .str s2, .str s3]), (6, .ext (boxS [.own 100 1, .own 110 1, .own 120 1])), (100, .arr (.int .i64) [1]), (110, .arr (.int .i64) [2]), (120, .arr (.int .i64) [3])], []⟩) (Le.weak rfl rfl rfl rfl ⟨rfl, rfl, rfl, rfl, rfl, rfl, rfl, rfl, rfl, trivial⟩ ⟨rfl, rfl, rfl, rfl, rfl, trivial⟩) ?_)
          refine Tri.seq (Tri.reg hT ?_)
          refine Tri.seq (Tri.cond ⟨fun h => ?_, fun h => absurd h (by decide)⟩)
          refine (Tri.skip ?_)
          refine Tri.seq (Tri.block ?_)
          refine Tri.seq (Tri.regM hT [1, 2] ?_)
          refine ⟨_, Le.refl _, .inl (.inr (OpTri.idxS hT rfl rfl rfl rfl rfl rfl ⟨trivial, rfl⟩ ⟨trivial, rfl⟩ rfl (by decide) ?_))⟩
          refine ⟨_, Le.refl _, .inl (.inr (OpTri.loadS hT rfl rfl ⟨trivial, rfl⟩ rfl ?_))⟩
          refine Tri.seq (Tri.reg hT ?_)
          refine ⟨(by decide), ?_⟩
          refine ⟨(by decide), ?_⟩
          refine ⟨(by decide), ?_⟩
          refine (Tri.cond ⟨fun q13 => ?_, fun q13 => ?_⟩)
          · refine Tri.seq (Tri.regM hT [6, 7, 8] ?_)
            refine ⟨⟨48, 0, 260, [(3, .loc 3 0), (4, .own 6 3), (11, .agg [.str s0, .str s1, .str s2, .str s3]), (12, .int .i64 3), (31, .own 6 3), (32, .int .i64 1), (33, .own 110 1), (36, .own 219 1)], [(3, .box [.str s0, .str s1, .str s2, .str s3]), (6, .ext (boxS [.own 100 1, .any, .own 120 1])), (100, .arr (.int .i64) [1]), (110, .arr (.int .i64) [2]), (120, .arr (.int .i64) [3]), (219, .arr (.int .i64) [4])], []⟩, (Le.trans (Le.forgetS 6 1 rfl) (Le.weak rfl rfl rfl rfl ⟨rfl, rfl, rfl, rfl, rfl, rfl, rfl, rfl, trivial⟩ ⟨rfl, rfl, rfl, rfl, rfl, rfl, trivial⟩)), .inl (.inl ⟨Nat.le_refl _, (by decide), ?_⟩)⟩
            refine ⟨_, Le.refl _, .inl (.inr (OpTri.idxS hT rfl rfl rfl rfl rfl rfl ⟨trivial, rfl⟩ ⟨trivial, rfl⟩ rfl (by decide) ?_))⟩
            refine ⟨_, Le.refl _, .inl (.inr (OpTri.storeS hT rfl rfl rfl rfl rfl ⟨trivial, rfl⟩ rfl rfl rfl rfl rfl ?_))⟩
            refine Tri.exit ?_
            refine (Tri.reg hT ?_)
            refine TriL.go (Tri.le (S := ⟨48, 0, 200, [(3, .loc 3 0), (4, .own 6 3), (11, .agg [.str s0, .str s1, .str s2, .str s3]), (12, .int .i64 4)], [(3, .box [.str s0, .str s1, .str s2, .str s3]), (6, .ext (boxS [.own 100 1, .own 110 2, .own 120 1])), (100, .arr (.int .i64) [1]), (110, .arr (.int .i64) [2, 4]), (120, .arr (.int .i64) [3])], []⟩) (Le.weak rfl rfl rfl rfl ⟨rfl, rfl, rfl, rfl, trivial⟩ ⟨rfl, rfl, rfl, rfl, rfl, trivial⟩) ?_)
            refine Tri.seq (Tri.reg hT ?_)
            refine Tri.seq (Tri.cond ⟨fun h => absurd h (by decide), fun h => ?_⟩)
            refine Tri.exit ?_
            refine Tri.seq (Tri.reg hT ?_)
            refine Tri.le (S := ⟨48, 0, 200, [(2, .own 6 3)], [(3, .box [.str s0, .str s1, .str s2, .str s3]), (6, .ext (boxS [.own 100 1, .own 110 2, .own 120 1])), (100, .arr (.int .i64) [1]), (110, .arr (.int .i64) [2, 4]), (120, .arr (.int .i64) [3])], []⟩) (Le.weak rfl rfl rfl rfl ⟨rfl, trivial⟩ ⟨rfl, rfl, rfl, rfl, rfl, trivial⟩) ?_
            refine Tri.le _ (Le.freezeS 6 100 1 [] [.own 110 2, .own 120 1] (xs := [1]) rfl rfl (by decide) rfl) ?_
            refine Tri.le (S := ⟨48, 0, 200, [(2, .own 6 3)], [(6, .ext (boxS [.list (.int .i64) [1], .own 110 2, .own 120 1])), (110, .arr (.int .i64) [2, 4]), (120, .arr (.int .i64) [3])], []⟩) (Le.weak rfl rfl rfl rfl ⟨rfl, trivial⟩ ⟨rfl, rfl, rfl, trivial⟩) ?_
            refine Tri.le _ (Le.freezeS 6 110 2 [.list (.int .i64) [1]] [.own 120 1] (xs := [2, 4]) rfl rfl (by decide) rfl) ?_
            refine Tri.le (S := ⟨48, 0, 200, [(2, .own 6 3)], [(6, .ext (boxS [.list (.int .i64) [1], .list (.int .i64) [2, 4], .own 120 1])), (120, .arr (.int .i64) [3])], []⟩) (Le.weak rfl rfl rfl rfl ⟨rfl, trivial⟩ ⟨rfl, rfl, trivial⟩) ?_
            refine Tri.le _ (Le.freezeS 6 120 1 [.list (.int .i64) [1], .list (.int .i64) [2, 4]] [] (xs := [3]) rfl rfl (by decide) rfl) ?_
            refine Tri.le (S := ⟨48, 0, 200, [(2, .own 6 3)], [(6, .ext (boxS [.list (.int .i64) [1], .list (.int .i64) [2, 4], .list (.int .i64) [3]]))], []⟩) (Le.weak rfl rfl rfl rfl ⟨rfl, trivial⟩ ⟨rfl, trivial⟩) ?_
            refine Tri.le _ (Le.listS 2 6 3 (ty := .int .i64) (xss := [[1], [2, 4], [3]]) rfl rfl rfl) ?_
            refine Tri.ret ?_
            exact ⟨congrArg (AV.list (.list (.int .i64))) (kinds_1_24_3 (of_decide_eq_false q01) (of_decide_eq_false q02) (of_decide_eq_false q12) (of_decide_eq_false q03) (of_decide_eq_true q13)).symm, trivial⟩
          · refine (Tri.skip ?_)
            refine (Tri.reg hT ?_)
            refine TriL.go (Tri.le (S := ⟨48, 0, 200, [(3, .loc 3 0), (4, .own 6 3), (11, .agg [.str s0, .str s1, .str s2, .str s3]), (12, .int .i64 3), (5, .int .i64 3), (6, .str s3), (16, .own 6 3), (17, .int .i64 3), (18, .int .i64 2)], [(3, .box [.str s0, .str s1, .str s2, .str s3]), (6, .ext (boxS [.own 100 1, .own 110 1, .own 120 1])), (100, .arr (.int .i64) [1]), (110, .arr (.int .i64) [2]), (120, .arr (.int .i64) [3])], []⟩) (Le.weak rfl rfl rfl rfl ⟨rfl, rfl, rfl, rfl, rfl, rfl, rfl, rfl, rfl, trivial⟩ ⟨rfl, rfl, rfl, rfl, rfl, trivial⟩) ?_)
            refine Tri.seq (Tri.reg hT ?_)
            refine Tri.seq (Tri.cond ⟨fun h => ?_, fun h => absurd h (by decide)⟩)
            refine (Tri.skip ?_)
            refine Tri.seq (Tri.block ?_)
            refine Tri.seq (Tri.regM hT [1, 2] ?_)
            refine ⟨_, Le.refl _, .inl (.inr (OpTri.idxS hT rfl rfl rfl rfl rfl rfl ⟨trivial, rfl⟩ ⟨trivial, rfl⟩ rfl (by decide) ?_))⟩
            refine ⟨_, Le.refl _, .inl (.inr (OpTri.loadS hT rfl rfl ⟨trivial, rfl⟩ rfl ?_))⟩
            refine Tri.seq (Tri.reg hT ?_)
            refine ⟨(by decide), ?_⟩
            refine ⟨(by decide), ?_⟩
            refine ⟨(by decide), ?_⟩
            refine (Tri.cond ⟨fun q23 => ?_, fun q23 => ?_⟩)
            · refine Tri.seq (Tri.regM hT [6, 7, 8] ?_)
              refine ⟨⟨48, 0, 260, [(3, .loc 3 0), (4, .own 6 3), (11, .agg [.str s0, .str s1, .str s2, .str s3]), (12, .int .i64 3), (31, .own 6 3), (32, .int .i64 2), (33, .own 120 1), (36, .own 219 1)], [(3, .box [.str s0, .str s1, .str s2, .str s3]), (6, .ext (boxS [.own 100 1, .own 110 1, .any])), (100, .arr (.int .i64) [1]), (110, .arr (.int .i64) [2]), (120, .arr (.int .i64) [3]), (219, .arr (.int .i64) [4])], []⟩, (Le.trans (Le.forgetS 6 2 rfl) (Le.weak rfl rfl rfl rfl ⟨rfl, rfl, rfl, rfl, rfl, rfl, rfl, rfl, trivial⟩ ⟨rfl, rfl, rfl, rfl, rfl, rfl, trivial⟩)), .inl (.inl ⟨Nat.le_refl _, (by decide), ?_⟩)⟩
              refine ⟨_, Le.refl _, .inl (.inr (OpTri.idxS hT rfl rfl rfl rfl rfl rfl ⟨trivial, rfl⟩ ⟨trivial, rfl⟩ rfl (by decide) ?_))⟩
              refine ⟨_, Le.refl _, .inl (.inr (OpTri.storeS hT rfl rfl rfl rfl rfl ⟨trivial, rfl⟩ rfl rfl rfl rfl rfl ?_))⟩
              refine Tri.exit ?_
              refine (Tri.reg hT ?_)
              refine TriL.go (Tri.le (S := ⟨48, 0, 200, [(3, .loc 3 0), (4, .own 6 3), (11, .agg [.str s0, .str s1, .str s2, .str s3]), (12, .int .i64 4)], [(3, .box [.str s0, .str s1, .str s2, .str s3]), (6, .ext (boxS [.own 100 1, .own 110 1, .own 120 2])), (100, .arr (.int .i64) [1]), (110, .arr (.int .i64) [2]), (120, .arr (.int .i64) [3, 4])], []⟩) (Le.weak rfl rfl rfl rfl ⟨rfl, rfl, rfl, rfl, trivial⟩ ⟨rfl, rfl, rfl, rfl, rfl, trivial⟩) ?_)
              refine Tri.seq (Tri.reg hT ?_)
              refine Tri.seq (Tri.cond ⟨fun h => absurd h (by decide), fun h => ?_⟩)
              refine Tri.exit ?_
              refine Tri.seq (Tri.reg hT ?_)
              refine Tri.le (S := ⟨48, 0, 200, [(2, .own 6 3)], [(3, .box [.str s0, .str s1, .str s2, .str s3]), (6, .ext (boxS [.own 100 1, .own 110 1, .own 120 2])), (100, .arr (.int .i64) [1]), (110, .arr (.int .i64) [2]), (120, .arr (.int .i64) [3, 4])], []⟩) (Le.weak rfl rfl rfl rfl ⟨rfl, trivial⟩ ⟨rfl, rfl, rfl, rfl, rfl, trivial⟩) ?_
              refine Tri.le _ (Le.freezeS 6 100 1 [] [.own 110 1, .own 120 2] (xs := [1]) rfl rfl (by decide) rfl) ?_
              refine Tri.le (S := ⟨48, 0, 200, [(2, .own 6 3)], [(6, .ext (boxS [.list (.int .i64) [1], .own 110 1, .own 120 2])), (110, .arr (.int .i64) [2]), (120, .arr (.int .i64) [3, 4])], []⟩) (Le.weak rfl rfl rfl rfl ⟨rfl, trivial⟩ ⟨rfl, rfl, rfl, trivial⟩) ?_
              refine Tri.le _ (Le.freezeS 6 110 1 [.list (.int .i64) [1]] [.own 120 2] (xs := [2]) rfl rfl (by decide) rfl) ?_
              refine Tri.le (S := ⟨48, 0, 200, [(2, .own 6 3)], [(6, .ext (boxS [.list (.int .i64) [1], .list (.int .i64) [2], .own 120 2])), (120, .arr (.int .i64) [3, 4])], []⟩) (Le.weak rfl rfl rfl rfl ⟨rfl, trivial⟩ ⟨rfl, rfl, trivial⟩) ?_
              refine Tri.le _ (Le.freezeS 6 120 2 [.list (.int .i64) [1], .list (.int .i64) [2]] [] (xs := [3, 4]) rfl rfl (by decide) rfl) ?_
              refine Tri.le (S := ⟨48, 0, 200, [(2, .own 6 3)], [(6, .ext (boxS [.list (.int .i64) [1], .list (.int .i64) [2], .list (.int .i64) [3, 4]]))], []⟩) (Le.weak rfl rfl rfl rfl ⟨rfl, trivial⟩ ⟨rfl, trivial⟩) ?_
              refine Tri.le _ (Le.listS 2 6 3 (ty := .int .i64) (xss := [[1], [2], [3, 4]]) rfl rfl rfl) ?_
              refine Tri.ret ?_
              exact ⟨congrArg (AV.list (.list (.int .i64))) (kinds_1_2_34 (of_decide_eq_false q01) (of_decide_eq_false q02) (of_decide_eq_false q12) (of_decide_eq_false q03) (of_decide_eq_false q13) (of_decide_eq_true q23)).symm, trivial⟩
            · refine (Tri.skip ?_)
              refine (Tri.reg hT ?_)
              refine TriL.go (Tri.le (S := ⟨48, 0, 200, [(3, .loc 3 0), (4, .own 6 3), (11, .agg [.str s0, .str s1, .str s2, .str s3]), (12, .int .i64 3), (5, .int .i64 3), (6, .str s3), (16, .own 6 3), (17, .int .i64 3), (18, .int .i64 3)], [(3, .box [.str s0, .str s1, .str s2, .str s3]), (6, .ext (boxS [.own 100 1, .own 110 1, .own 120 1])), (100, .arr (.int .i64) [1]), (110, .arr (.int .i64) [2]), (120, .arr (.int .i64) [3])], []⟩) (Le.weak rfl rfl rfl rfl ⟨rfl, rfl, rfl, rfl, rfl, rfl, rfl, rfl, rfl, trivial⟩ ⟨rfl, rfl, rfl, rfl, rfl, trivial⟩) ?_)
              refine Tri.seq (Tri.reg hT ?_)
              refine Tri.seq (Tri.cond ⟨fun h => absurd h (by decide), fun h => ?_⟩)
              refine Tri.exit ?_
              refine (Tri.regM hT [3, 4, 5] ?_)
              refine ⟨⟨48, 0, 130, [(3, .loc 3 0), (11, .agg [.str s0, .str s1, .str s2, .str s3]), (12, .int .i64 3), (40, .own 6 3), (42, .int .i64 4)], [(3, .box [.str s0, .str s1, .str s2, .str s3]), (6, .ext (boxS [.own 100 1, .own 110 1, .own 120 1])), (100, .arr (.int .i64) [1]), (110, .arr (.int .i64) [2]), (120, .arr (.int .i64) [3])], []⟩, (Le.weak rfl rfl rfl rfl ⟨rfl, rfl, rfl, rfl, rfl, trivial⟩ ⟨rfl, rfl, rfl, rfl, rfl, trivial⟩), .inl (.inl ?_)⟩
              refine ⟨_, Le.refl _, .inl (.inr (OpTri.buildS hT rfl rfl rfl rfl rfl rfl rfl rfl ?_))⟩
              refine ⟨_, Le.refl _, .inl (.inr (OpTri.appS hT rfl rfl rfl rfl rfl rfl rfl ⟨trivial, rfl⟩ ⟨trivial, rfl⟩ rfl rfl rfl rfl rfl rfl (by decide) ?_))⟩
              refine (Tri.reg hT ?_)
              refine TriL.go (Tri.le (S := ⟨48, 0, 200, [(3, .loc 3 0), (4, .own 6 4), (11, .agg [.str s0, .str s1, .str s2, .str s3]), (12, .int .i64 4)], [(3, .box [.str s0, .str s1, .str s2, .str s3]), (6, .ext (boxS [.own 100 1, .own 110 1, .own 120 1, .own 130 1])), (100, .arr (.int .i64) [1]), (110, .arr (.int .i64) [2]), (120, .arr (.int .i64) [3]), (130, .arr (.int .i64) [4])], []⟩) (Le.weak rfl rfl rfl rfl ⟨rfl, rfl, rfl, rfl, trivial⟩ ⟨rfl, rfl, rfl, rfl, rfl, rfl, trivial⟩) ?_)
              refine Tri.seq (Tri.reg hT ?_)
              refine Tri.seq (Tri.cond ⟨fun h => absurd h (by decide), fun h => ?_⟩)
              refine Tri.exit ?_
              refine Tri.seq (Tri.reg hT ?_)
              refine Tri.le (S := ⟨48, 0, 200, [(2, .own 6 4)], [(3, .box [.str s0, .str s1, .str s2, .str s3]), (6, .ext (boxS [.own 100 1, .own 110 1, .own 120 1, .own 130 1])), (100, .arr (.int .i64) [1]), (110, .arr (.int .i64) [2]), (120, .arr (.int .i64) [3]), (130, .arr (.int .i64) [4])], []⟩) (Le.weak rfl rfl rfl rfl ⟨rfl, trivial⟩ ⟨rfl, rfl, rfl, rfl, rfl, rfl, trivial⟩) ?_
              refine Tri.le _ (Le.freezeS 6 100 1 [] [.own 110 1, .own 120 1, .own 130 1] (xs := [1]) rfl rfl (by decide) rfl) ?_
              refine Tri.le (S := ⟨48, 0, 200, [(2, .own 6 4)], [(6, .ext (boxS [.list (.int .i64) [1], .own 110 1, .own 120 1, .own 130 1])), (110, .arr (.int .i64) [2]), (120, .arr (.int .i64) [3]), (130, .arr (.int .i64) [4])], []⟩) (Le.weak rfl rfl rfl rfl ⟨rfl, trivial⟩ ⟨rfl, rfl, rfl, rfl, trivial⟩) ?_
              refine Tri.le _ (Le.freezeS 6 110 1 [.list (.int .i64) [1]] [.own 120 1, .own 130 1] (xs := [2]) rfl rfl (by decide) rfl) ?_
              refine Tri.le (S := ⟨48, 0, 200, [(2, .own 6 4)], [(6, .ext (boxS [.list (.int .i64) [1], .list (.int .i64) [2], .own 120 1, .own 130 1])), (120, .arr (.int .i64) [3]), (130, .arr (.int .i64) [4])], []⟩) (Le.weak rfl rfl rfl rfl ⟨rfl, trivial⟩ ⟨rfl, rfl, rfl, trivial⟩) ?_
              refine Tri.le _ (Le.freezeS 6 120 1 [.list (.int .i64) [1], .list (.int .i64) [2]] [.own 130 1] (xs := [3]) rfl rfl (by decide) rfl) ?_
              refine Tri.le (S := ⟨48, 0, 200, [(2, .own 6 4)], [(6, .ext (boxS [.list (.int .i64) [1], .list (.int .i64) [2], .list (.int .i64) [3], .own 130 1])), (130, .arr (.int .i64) [4])], []⟩) (Le.weak rfl rfl rfl rfl ⟨rfl, trivial⟩ ⟨rfl, rfl, trivial⟩) ?_
              refine Tri.le _ (Le.freezeS 6 130 1 [.list (.int .i64) [1], .list (.int .i64) [2], .list (.int .i64) [3]] [] (xs := [4]) rfl rfl (by decide) rfl) ?_
              refine Tri.le (S := ⟨48, 0, 200, [(2, .own 6 4)], [(6, .ext (boxS [.list (.int .i64) [1], .list (.int .i64) [2], .list (.int .i64) [3], .list (.int .i64) [4]]))], []⟩) (Le.weak rfl rfl rfl rfl ⟨rfl, trivial⟩ ⟨rfl, trivial⟩) ?_
              refine Tri.le _ (Le.listS 2 6 4 (ty := .int .i64) (xss := [[1], [2], [3], [4]]) rfl rfl rfl) ?_
              refine Tri.ret ?_
              exact ⟨congrArg (AV.list (.list (.int .i64))) (kinds_1_2_3_4 (of_decide_eq_false q01) (of_decide_eq_false q02) (of_decide_eq_false q12) (of_decide_eq_false q03) (of_decide_eq_false q13) (of_decide_eq_false q23)).symm, trivial⟩
end Go.Proofs.Ytopnempdeopjfaa.Fx
