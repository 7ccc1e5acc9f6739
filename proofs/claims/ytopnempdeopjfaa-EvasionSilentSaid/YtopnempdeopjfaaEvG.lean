import Derived.Test.YtopnempdeopjfaaEvF
import Derived.Test.YtopnempdeopjfaaGFw8
set_option linter.all false
/- Contracts of chapter 24: the program's Fold. -/
namespace Go.Proofs.Ytopnempdeopjfaa.Fx
open Go Go.Fw Go.Ov
set_option maxRecDepth 8000 in
theorem f38_spec (l : List Pc) (pol : Int) (hl : ∀ p ∈ l, ((pd p).length : Int) ≤ 1073741824) (hn : l.length ≤ 140737488351232) : PSpec P [] 38 [.list pT l, .int .i64 pol] (.list pT (foldV l pol)) := by
  have hb := bufE_ok l pol (fun p hp => by have := hl p hp; omega)
  have hbl := hb.len
  refine pspec_introM hT Try.func38 (by decide) rfl rfl (by kernel_rfl) rfl ?_
  refine TriM.seq (Tri.reg hT ?_)
  refine TriM.seq ?_
  refine Tri.seq (Tri.reg hT ?_)
  refine ⟨_, [], trivial, rfl, rfl, fun h => ⟨rfl, rfl, rfl⟩, ?_⟩
  refine ⟨_, [], trivial, rfl, rfl, fun h => ⟨h, rfl, rfl, rfl⟩, ?_⟩
  refine ⟨⟨fun _ => trivial, fun hc => (gn hc)⟩, ?_⟩
  refine (Tri.cond ⟨fun h1 => ?_, fun h1 => ?_⟩)
  · refine Tri.seq (Tri.reg hT ?_)
    refine Tri.le ⟨32, 0, 60, [(4, .list pT [])], [], []⟩ (Le.weakV rfl rfl rfl rfl ⟨rfl, trivial⟩ trivial) ?_
    refine Tri.ret ?_
    exact ⟨congrArg (AV.list pT) (if_pos (by simpa using h1)).symm, trivial⟩
  · refine (Tri.skip ?_)
    refine TriM.seq (Tri.reg hT ?_)
    refine TriM.seq2 (Tri.regM hT [3] ?_)
    refine .inl (.inl ⟨_, fun _ => rfl, f63_spec l pol hl hn, ?_⟩)
    refine ⟨_, Le.refl _, .inl (.inr (OpTri.hcall 1 rfl rfl rfl (f66_spec (bufE l pol) 11) trivial trivial rfl ?_))⟩
    refine TriY.le ⟨32, 0, 101, [(5, .loc 7 0), (17, .fn 77 [.loc 11 0])], [(7, .box [.own 100 0]), (100, .arr pT []), (11, .box [.list pT (bufE l pol)])], []⟩
      (Le.trans (b := ⟨32, 0, 100, [(5, .loc 7 0), (17, .fn 77 [.loc 11 0])], [(7, .box [.nils]), (11, .box [.list pT (bufE l pol)])], []⟩) (Le.weak rfl rfl rfl rfl ⟨rfl, rfl, trivial⟩ ⟨rfl, rfl, trivial⟩)
        (Le.trans (Le.ownB 7 [] [] pT rfl) (Le.weak rfl rfl rfl rfl ⟨rfl, rfl, trivial⟩ ⟨rfl, rfl, rfl, trivial⟩))) ?_
    refine range_y (k := 50) (E := [(5, .loc 7 0)]) (ret := .tup []) (h := [(7, .box [.own 100 0]), (100, .arr pT []), (11, .box [.list pT (bufE l pol)])]) (h' := [(7, .box [.own 100 (foldF (bufE l pol)).length]), (100, .arr pT (foldF (bufE l pol))), (11, .box [.list pT (bufE l pol)])]) 300
      trivial rfl ⟨rfl, trivial⟩ (f77_spec 32 5 8 101 _ _ _ ?_ (bufE l pol) hb.v (by omega)) ⟨rfl, rfl, rfl, trivial⟩ rfl rfl rfl ?_
    · intro xs a s hx h0 he
      have w1 : IntKind.i64.wrap (a + (s.length : Int)) = a + (s.length : Int) := wrapId (by omega)
      refine ⟨by kernel_rfl, rfl, rfl, rfl, by kernel_rfl, fun lp => ?_⟩
      refine TriR.seq (TriR.reg hT (by kernel_rfl) ?_)
      refine TriR.reg hT (by kernel_rfl) ?_
      refine ⟨rfl, ?_⟩
      refine TriR.block (TriR.reg hT (by kernel_rfl) ?_)
      refine ⟨(Nat.le_refl _), (by show _ ≤ _ ∧ (_ + 1) * _ ≤ _ ∧ _ + 1 ≤ _; dsimp only; omega), ?_⟩
      exact ⟨rfl, rfl, congrArg (fun y => some (Chunk.arr pT y)) (by show xs.take xs.length ++ [(a, s, a, IntKind.i64.wrap (a + (s.length : Int)), ())] = _; rw [List.take_length, w1]), trivial⟩
    · refine TriT.seq (TriT.reg hT ?_)
      refine TriT.le _ (Le.freeze 4 100 (foldF (bufE l pol)).length rfl rfl (Nat.le_refl _)) ?_
      refine TriT.ret ?_
      exact ⟨congrArg (AV.list pT) ((List.take_length ..).trans (if_neg (by simpa using h1)).symm), trivial⟩
end Go.Proofs.Ytopnempdeopjfaa.Fx
