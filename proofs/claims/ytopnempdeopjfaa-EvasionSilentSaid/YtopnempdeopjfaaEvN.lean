import Derived.Test.YtopnempdeopjfaaEvK
import Derived.Test.YtopnempdeopjfaaEvJ
import Derived.Test.YtopnempdeopjfaaEvG
import Derived.Test.YtopnempdeopjfaaGEv3
set_option linter.all false
/- Chapter 24: the example of the document; EvasionVariants, EvasionTells. -/
namespace Go.Proofs.Ytopnempdeopjfaa.Fx
open Go Go.Fw Go.Ov
theorem lvF : PSpec P [] 38 [.list pT lx, .int .i64 4] (.list pT fx) := by
  have := f38_spec lx 4 (by decide) (by decide)
  rw [lx_f] at this
  exact this
theorem lvV1 : PSpec P [] 35 [.list pT lx, .int .i64 1] (.str [97, 98, 122]) := by
  have := f35_spec lx 1 (by decide) (by decide)
  rw [lx_v1] at this
  exact this
theorem lvV2 : PSpec P [] 35 [.list pT lx, .int .i64 2] (.str [120, 121, 122]) := by
  have := f35_spec lx 2 (by decide) (by decide)
  rw [lx_v2] at this
  exact this
theorem lvA : PSpec P [] 40 [.list pT lx] (.bool true) := by
  have := f40_spec lx (by decide) (by decide)
  rw [lx_amb] at this
  exact this
theorem lvW : PSpec P [] 42 [.list pT lx] (.int .i64 0) := by
  have := f42_spec lx (by decide) (by decide) (varE_len lx (by decide))
  rw [lx_where] at this
  exact this
theorem lvW2 : PSpec P [] 42 [.list pT fx] (.int .i64 (-1)) := by
  have := f42_spec fx (by decide) (by decide) (varE_len fx (by decide))
  rw [fx_where] at this
  exact this
theorem lvK : PSpec P [] 45 [.list pT lx] (.list (.list (.int .i64)) [[1, 3], [2, 4]]) := by
  have := f45_spec lx (by decide) (by decide)
  rw [lx_kinds] at this
  exact this
theorem lvG : PSpec P [] 44 [.list (.list (.int .i64)) [[1, 3], [2, 4]], .list (.list (.int .i64)) [[1, 3], [2, 4]]] (.bool true) := by
  have := f44_spec [[1, 3], [2, 4]] [[1, 3], [2, 4]] (by decide) (by decide)
  rw [decide_eq_true (rfl : ([[1, 3], [2, 4]] : List (List Int)) = _)] at this
  exact this
set_option maxRecDepth 8000 in
theorem f34_spec : PSpec P [] 34 [] (.bool true) := by
  refine pspec_intro hT Try.func34 (by decide) rfl rfl (by kernel_rfl) rfl ?_
  refine Tri.seq (Tri.reg hT ?_)
  refine Tri.seq (Tri.reg hT ?_)
  refine Tri.le _ (Le.freeze 1 3 2 rfl rfl (by decide)) ?_
  refine Tri.seq (Tri.reg hT ?_)
  refine .inl (.inl ⟨_, fun _ => rfl, lvF, ?_⟩)
  refine Tri.seq (Tri.regM hT [4, 5, 6, 9, 10, 13, 14, 15, 18, 19, 20, 21, 22, 23, 26, 27, 28, 31, 32, 33, 34, 35, 38, 39, 40] ?_)
  refine .inl (.inl ⟨_, fun _ => rfl, lvV1, ?_⟩)
  refine ⟨_, Le.refl _, .inr (.inl ⟨_, rfl, rfl, .inl ?_⟩)⟩
  refine ⟨_, Le.refl _, .inr (.inl ⟨_, rfl, rfl, .inl ?_⟩)⟩
  refine .inl (.inl ⟨_, fun _ => rfl, lvV2, ?_⟩)
  refine ⟨_, Le.refl _, .inr (.inl ⟨_, rfl, rfl, .inl ?_⟩)⟩
  refine ⟨⟨fun _ => trivial, fun _ => trivial⟩, ?_⟩
  refine ⟨_, Le.refl _, .inr (.inl ⟨_, rfl, rfl, .inl ?_⟩)⟩
  refine ⟨_, Le.refl _, .inr (.inl ⟨_, rfl, rfl, .inl ?_⟩)⟩
  refine .inl (.inl ⟨_, fun _ => rfl, lvA, ?_⟩)
  refine ⟨⟨fun _ => trivial, fun _ => trivial⟩, ?_⟩
  refine ⟨_, Le.refl _, .inr (.inl ⟨_, rfl, rfl, .inl ?_⟩)⟩
  refine ⟨_, Le.refl _, .inr (.inl ⟨_, rfl, rfl, .inl ?_⟩)⟩
  refine .inl (.inl ⟨_, fun _ => rfl, lvW, ?_⟩)
  refine ⟨_, Le.refl _, .inr (.inl ⟨_, rfl, rfl, .inl ?_⟩)⟩
  refine ⟨⟨fun _ => trivial, fun _ => trivial⟩, ?_⟩
  refine ⟨_, Le.refl _, .inr (.inl ⟨_, rfl, rfl, .inl ?_⟩)⟩
  refine ⟨_, Le.refl _, .inr (.inl ⟨_, rfl, rfl, .inl ?_⟩)⟩
  refine .inl (.inl ⟨_, fun _ => rfl, lvK, ?_⟩)
  refine ⟨_, Le.refl _, .inr (.inl ⟨_, rfl, rfl, .inl ?_⟩)⟩
  refine ⟨_, Le.refl _, .inr (.inl ⟨_, rfl, rfl, .inl ?_⟩)⟩
  refine ⟨_, (Le.trans (Le.freeze 28 28 2 rfl rfl (by decide)) (Le.freeze 29 29 2 rfl rfl (by decide))), .inr (.inl ⟨_, rfl, rfl, .inl ?_⟩)⟩
  refine ⟨_, (Le.freeze 30 30 2 rfl rfl (by decide)), .inr (.inl ⟨_, rfl, rfl, .inl ?_⟩)⟩
  refine .inl (.inl ⟨_, fun _ => rfl, lvG, ?_⟩)
  refine ⟨⟨fun _ => trivial, fun _ => trivial⟩, ?_⟩
  refine ⟨_, Le.refl _, .inr (.inl ⟨_, rfl, rfl, .inl ?_⟩)⟩
  refine ⟨_, Le.refl _, .inr (.inl ⟨_, rfl, rfl, .inl ?_⟩)⟩
  refine ⟨_, Le.refl _, .inr (.inl ⟨_, rfl, rfl, .inl ?_⟩)⟩
  refine ⟨⟨fun _ => trivial, fun _ => trivial⟩, ?_⟩
  refine ⟨_, Le.refl _, .inr (.inl ⟨_, rfl, rfl, .inl ?_⟩)⟩
  refine ⟨_, Le.refl _, .inr (.inl ⟨_, rfl, rfl, .inl ?_⟩)⟩
  refine ⟨by decide, ?_⟩
  refine ⟨_, Le.refl _, .inr (.inl ⟨_, rfl, rfl, .inl ?_⟩)⟩
  refine ⟨_, Le.refl _, .inr (.inl ⟨_, rfl, rfl, .inl ?_⟩)⟩
  refine ⟨_, Le.refl _, .inr (.inl ⟨_, rfl, rfl, .inl ?_⟩)⟩
  refine ⟨⟨fun _ => trivial, fun _ => trivial⟩, ?_⟩
  refine ⟨_, Le.refl _, .inr (.inl ⟨_, rfl, rfl, .inl ?_⟩)⟩
  refine ⟨_, Le.refl _, .inr (.inl ⟨_, rfl, rfl, .inl ?_⟩)⟩
  refine .inl (.inl ⟨_, fun _ => rfl, lvW2, ?_⟩)
  refine ⟨_, Le.refl _, .inr (.inl ⟨_, rfl, rfl, .inl ?_⟩)⟩
  refine ⟨⟨fun _ => trivial, fun _ => trivial⟩, ?_⟩
  refine Tri.ret ?_
  exact ⟨rfl, trivial⟩
theorem f9_spec (l : List Pc) (pol : Int) (hl : l.length ≤ 140737488355328) : PSpec P [] 9 [.list pT l, .int .i64 pol] (.bool true) := by
  refine pspec_intro hT Try.func9 (by decide) rfl rfl (by kernel_rfl) rfl ?_
  refine Tri.seq (Tri.reg hT ?_)
  refine Tri.seq ?_
  refine Tri.seq (Tri.reg hT ?_)
  refine .inl (.inl ⟨_, fun _ => rfl, f33_spec l 70 400 hl (by decide) (by decide) (by decide) (by decide), ?_⟩)
  refine (Tri.cond ⟨fun h1 => ?_, fun h1 => ?_⟩)
  · refine Tri.seq (Tri.reg hT ?_)
    refine .inl (.inl ⟨_, fun _ => rfl, f34_spec, ?_⟩)
    refine Tri.ret ?_
    exact ⟨rfl, trivial⟩
  · refine (Tri.skip ?_)
    have hf : l.length ≤ 70 ∧ lenSum l ≤ 400 ∧ (cells l).length ≤ 400 := few_of (by cases hb : fewR l 70 400 <;> simp_all); have hn : l.length ≤ 140737488351232 := (by have := hf.1; omega); have hp := few_pd hf.2.1
    refine Tri.seq (Tri.regM hT [8, 9, 10, 11, 12, 13, 14, 17] ?_)
    refine .inl (.inl ⟨_, fun _ => rfl, f35_spec l pol hp hn, ?_⟩)
    refine .inl (.inl ⟨_, fun _ => rfl, f36_spec l pol hp hn, ?_⟩)
    refine ⟨_, Le.refl _, .inr (.inl ⟨_, rfl, (by refine (congrArg some ?_ : some _ = some true); simp [gd]), .inl ?_⟩)⟩
    refine ⟨_, Le.refl _, .inr (.inl ⟨_, rfl, (by refine (congrArg some ?_ : some _ = some true); simp [gd]), .inl ?_⟩)⟩
    refine ⟨_, Le.refl _, .inr (.inl ⟨_, rfl, (by refine (congrArg some ?_ : some _ = some true); simp [gd]), .inl ?_⟩)⟩
    refine .inl (.inl ⟨_, fun _ => rfl, f38_spec l pol hp hn, ?_⟩)
    refine ⟨_, Le.refl _, .inr (.inl ⟨_, rfl, (by refine (congrArg some ?_ : some _ = some true); simp [gd]), .inl ?_⟩)⟩
    refine ⟨_, Le.refl _, .inr (.inl ⟨_, rfl, (by refine (congrArg some ?_ : some _ = some true); simp [gd]), .inl ?_⟩)⟩
    refine ⟨_, Le.refl _, .inr (.inl ⟨_, rfl, (by refine (congrArg some ?_ : some _ = some true); simp [gd]), .inl ?_⟩)⟩
    refine .inl (.inl ⟨_, fun _ => rfl, f39_spec l pol hp hn, ?_⟩)
    refine ⟨_, Le.refl _, .inr (.inl ⟨_, rfl, (by refine (congrArg some ?_ : some _ = some true); simp [gd]), .inl ?_⟩)⟩
    refine .inl (.inl ⟨_, fun _ => rfl, f37_spec (foldV l pol) (foldV l pol) (by have := foldV_len l pol hp; omega), ?_⟩)
    refine ⟨⟨fun _ => trivial, fun _ => trivial⟩, ?_⟩
    refine ⟨_, Le.refl _, .inr (.inl ⟨_, rfl, (by refine (congrArg some ?_ : some _ = some true); simp [gd]), .inl ?_⟩)⟩
    refine .inl (.inl ⟨_, fun _ => rfl, f34_spec, ?_⟩)
    refine ⟨⟨fun _ => trivial, fun _ => trivial⟩, ?_⟩
    refine Tri.ret ?_
    exact ⟨congrArg AV.bool (by simp), trivial⟩
theorem f10_spec (l : List Pc) (hl : l.length ≤ 140737488355328) : PSpec P [] 10 [.list pT l] (.bool true) := by
  refine pspec_intro hT Try.func10 (by decide) rfl rfl (by kernel_rfl) rfl ?_
  refine Tri.seq (Tri.reg hT ?_)
  refine Tri.seq ?_
  refine Tri.seq (Tri.reg hT ?_)
  refine .inl (.inl ⟨_, fun _ => rfl, f33_spec l 70 400 hl (by decide) (by decide) (by decide) (by decide), ?_⟩)
  refine (Tri.cond ⟨fun h1 => ?_, fun h1 => ?_⟩)
  · refine Tri.seq (Tri.reg hT ?_)
    refine .inl (.inl ⟨_, fun _ => rfl, f34_spec, ?_⟩)
    refine Tri.ret ?_
    exact ⟨rfl, trivial⟩
  · refine (Tri.skip ?_)
    have hf : l.length ≤ 70 ∧ lenSum l ≤ 400 ∧ (cells l).length ≤ 400 := few_of (by cases hb : fewR l 70 400 <;> simp_all); have hn : l.length ≤ 140737488351232 := (by have := hf.1; omega); have hp := few_pd hf.2.1; have hb := varE_len l hp
    refine Tri.seq (Tri.regM hT [6, 7, 8, 9, 10, 13, 14, 15, 16, 17, 20] ?_)
    refine .inl (.inl ⟨_, fun _ => rfl, f40_spec l hp hn, ?_⟩)
    refine .inl (.inl ⟨_, fun _ => rfl, f41_spec l hp hn hb, ?_⟩)
    refine ⟨_, Le.refl _, .inr (.inl ⟨_, rfl, (by refine (congrArg some ?_ : some _ = some true); simp [gd]), .inl ?_⟩)⟩
    refine ⟨_, Le.refl _, .inr (.inl ⟨_, rfl, (by refine (congrArg some ?_ : some _ = some true); simp [gd]), .inl ?_⟩)⟩
    refine .inl (.inl ⟨_, fun _ => rfl, f42_spec l hp hn hb, ?_⟩)
    refine ⟨_, Le.refl _, .inr (.inl ⟨_, rfl, (by refine (congrArg some ?_ : some _ = some true); simp [gd]), .inl ?_⟩)⟩
    refine ⟨_, Le.refl _, .inr (.inl ⟨_, rfl, (by refine (congrArg some ?_ : some _ = some true); simp [gd]), .inl ?_⟩)⟩
    refine .inl (.inl ⟨_, fun _ => rfl, f43_spec l hp hn hb, ?_⟩)
    refine ⟨_, Le.refl _, .inr (.inl ⟨_, rfl, (by refine (congrArg some ?_ : some _ = some true); simp [gd]), .inl ?_⟩)⟩
    refine ⟨⟨fun _ => trivial, fun _ => trivial⟩, ?_⟩
    refine ⟨_, Le.refl _, .inr (.inl ⟨_, rfl, (by refine (congrArg some ?_ : some _ = some true); simp [gd]), .inl ?_⟩)⟩
    refine ⟨_, Le.refl _, .inr (.inl ⟨_, rfl, (by refine (congrArg some ?_ : some _ = some true); simp [gd]), .inl ?_⟩)⟩
    refine .inl (.inl ⟨_, fun _ => rfl, f45_spec l hp hn, ?_⟩)
    refine ⟨_, Le.refl _, .inr (.inl ⟨_, rfl, (by refine (congrArg some ?_ : some _ = some true); simp [gd]), .inl ?_⟩)⟩
    refine ⟨_, Le.refl _, .inr (.inl ⟨_, rfl, (by refine (congrArg some ?_ : some _ = some true); simp [gd]), .inl ?_⟩)⟩
    refine .inl (.inl ⟨_, fun _ => rfl, f46_spec l hp hn, ?_⟩)
    refine ⟨_, Le.refl _, .inr (.inl ⟨_, rfl, (by refine (congrArg some ?_ : some _ = some true); simp [gd]), .inl ?_⟩)⟩
    refine .inl (.inl ⟨_, fun _ => rfl, f44_spec (kindsM (v4 l)) (kindsM (v4 l)) (kindsM_len _).1 (kindsM_len _).2, ?_⟩)
    refine ⟨⟨fun _ => trivial, fun _ => trivial⟩, ?_⟩
    refine ⟨_, Le.refl _, .inr (.inl ⟨_, rfl, (by refine (congrArg some ?_ : some _ = some true); simp [gd]), .inl ?_⟩)⟩
    refine .inl (.inl ⟨_, fun _ => rfl, f34_spec, ?_⟩)
    refine ⟨⟨fun _ => trivial, fun _ => trivial⟩, ?_⟩
    refine Tri.ret ?_
    exact ⟨congrArg AV.bool (by simp), trivial⟩
end Go.Proofs.Ytopnempdeopjfaa.Fx
