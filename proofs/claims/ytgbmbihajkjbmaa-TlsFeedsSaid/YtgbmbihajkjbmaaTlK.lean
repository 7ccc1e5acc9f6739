import Derived.Test.YtgbmbihajkjbmaaTlJ
set_option linter.all false
/- Contracts of chapter 32: the example. -/
namespace Go.Proofs.Ytgbmbihajkjbmaa.Fx
open Go Go.Fw Go.Ov Go.Tl Go.Shelf
theorem wT1 : PSpec P [] 27 [.str [21, 3, 3, 0, 2, 2, 40]] (.list eT [(4, 40, [], [], ())]) := awT1 ▸ f27_spec [21, 3, 3, 0, 2, 2, 40] (by decide)
theorem wT2 : PSpec P [] 27 [.str (clientB 772 [97, 46, 98] ++ serverB 771 ++ chainB [[120], [121, 122]])] (.list eT [(1, 772, [97, 46, 98], [], ()), (2, 771, [], [], ()), (3, 0, [], [[120], [121, 122]], ())]) :=
  awT2 ▸ f27_spec _ (Nat.le_trans awT5 (by decide))
theorem wT3 : PSpec P [] 23 [.int .i64 2] (.str [23, 3, 3, 0, 2, 0, 0]) := awT3 ▸ f23_spec 2
set_option maxRecDepth 16000 in
theorem f11_spec : PSpec P [] 11 [] (.bool true) := by
  refine pspec_intro hT Try.func11 (by decide) rfl rfl (by kernel_rfl) rfl ?_
  refine Tri.seq (Tri.reg hT ?_)
  refine Tri.seq (Tri.reg hT ?_)
  refine .inl (.inl ⟨_, fun _ => rfl, wT1, ?_⟩)
  refine Tri.seq (Tri.regM hT [4] ?_)
  refine .inl (.inl ⟨_, fun _ => rfl, f17_spec 772 [97, 46, 98] (by decide), ?_⟩)
  refine .inl (.inl ⟨_, fun _ => rfl, f19_spec 771, ?_⟩)
  refine ⟨by have := awT5; rw [List.length_append] at this; rw [List.length_append] at this; omega, ?_⟩
  refine ⟨_, Le.freeze 8 6 2 rfl rfl (Nat.le_refl _), .inl (.inl ?_)⟩
  refine .inl (.inl ⟨_, fun _ => rfl, f21_spec [[120], [121, 122]] (by decide) (by decide), ?_⟩)
  refine ⟨by have := awT5; rw [List.length_append] at this; exact Nat.le_trans this (by decide), ?_⟩
  refine .inl (.inl ⟨_, fun _ => rfl, wT2, ?_⟩)
  refine Tri.seq (Tri.regM hT [3] ?_)
  refine ⟨_, Le.freeze 14 13 2 rfl rfl (Nat.le_refl _), .inl (.inl ?_)⟩
  refine Tri.le _ (Le.freeze 3 15 3 rfl rfl (Nat.le_refl _)) ?_
  refine Tri.seq (Tri.regM hT [3] ?_)
  refine ⟨_, Le.freeze 19 19 1 rfl rfl (Nat.le_refl _), .inl (.inl ?_)⟩
  refine .inl (.inl ⟨_, fun _ => rfl, f14_spec [(4, 40, [], [], ())] [(4, 40, [], [], ())] (by decide) (by decide), ?_⟩)
  refine ⟨_, [], trivial, rfl, rfl, fun h => ⟨rfl, rfl, rfl⟩, ?_⟩
  refine ⟨_, [], trivial, rfl, rfl, fun h => ⟨rfl, rfl, rfl⟩, ?_⟩
  refine ⟨_, [], trivial, rfl, rfl, fun h => ⟨h, h, (.inl ⟨_, fun _ => rfl, f14_spec [(1, 772, [97, 46, 98], [], ()), (2, 771, [], [], ()), (3, 0, [], [[120], [121, 122]], ())] [(1, 772, [97, 46, 98], [], ()), (2, 771, [], [], ()), (3, 0, [], [[120], [121, 122]], ())] (by decide) (by decide), rfl, rfl, rfl⟩)⟩, ?_⟩
  refine ⟨⟨fun hc => hc, fun _ => trivial⟩, ?_⟩
  refine ⟨_, [], trivial, rfl, rfl, fun h => (.inl ⟨_, fun _ => rfl, wT3, rfl, rfl, rfl⟩), ?_⟩
  refine ⟨_, [], trivial, rfl, rfl, fun h => ⟨h, rfl, rfl, rfl⟩, ?_⟩
  refine ⟨⟨fun hc => hc, fun _ => trivial⟩, ?_⟩
  refine ⟨_, [], trivial, rfl, rfl, fun h => (.inl ⟨_, fun _ => rfl, f19_spec 771, rfl, rfl, rfl⟩), ?_⟩
  refine ⟨_, [], trivial, rfl, rfl, fun h => ⟨h, rfl, rfl, rfl⟩, ?_⟩
  refine ⟨_, [], trivial, rfl, rfl, fun h => ⟨h, rfl, rfl, rfl⟩, ?_⟩
  refine ⟨⟨fun hc => hc, fun _ => trivial⟩, ?_⟩
  refine Tri.ret ?_
  exact ⟨congrArg AV.bool (by rw [awT4]; decide +kernel), trivial⟩
end Go.Proofs.Ytgbmbihajkjbmaa.Fx
