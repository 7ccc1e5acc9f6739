import Derived.Test.YtchiagnggnblaaaDoorAcC
import Derived.Test.YtchiagnggnblaaaDoorGCn1
set_option linter.all false
/- Contracts of chapter 21: the small methods of a connection. -/
namespace Go.Proofs.YtchiagnggnblaaaDoor.Ac
open Go Go.Fw Go.Ov Go.Proofs.YtchiagnggnblaaaDoor.Fx
theorem f18_spec (d : Int) : PSpec P G 18 [.int .i64 d] (.bool (decide (d = 1) || decide (d = 2))) := by
  refine pspec_intro hT Tryd.func18 (by decide) rfl rfl (by kernel_rfl) rfl ?_
  refine Tri.seq (Tri.reg hT ?_)
  refine Tri.seq (Tri.reg hT ?_)
  refine ⟨_, [], trivial, rfl, rfl, fun h => ⟨rfl, rfl, rfl⟩, ?_⟩
  refine ⟨_, [], trivial, rfl, rfl, fun h => ⟨h, rfl, rfl, rfl⟩, ?_⟩
  refine ⟨⟨fun _ => trivial, fun hc => (gn hc)⟩, ?_⟩
  refine Tri.ret ?_
  exact ⟨congrArg AV.bool (by simp), trivial⟩
theorem f34_one : PSpec P G 34 [.int .i64 1] (.int .i64 2) := by
  refine pspec_intro hT Tryd.func34 (by decide) rfl rfl (by kernel_rfl) rfl ?_
  refine Tri.seq (Tri.reg hT ?_)
  refine Tri.seq (Tri.reg hT ?_)
  refine Tri.ret ?_
  exact ⟨rfl, trivial⟩
theorem f34_two : PSpec P G 34 [.int .i64 2] (.int .i64 1) := by
  refine pspec_intro hT Tryd.func34 (by decide) rfl rfl (by kernel_rfl) rfl ?_
  refine Tri.seq (Tri.reg hT ?_)
  refine Tri.seq (Tri.reg hT ?_)
  refine Tri.ret ?_
  exact ⟨rfl, trivial⟩
theorem f8_spec (h g : Hf) (hh : h.isn = 0 ∧ h.high = 0 ∧ h.stamped = false ∧ h.stamp = 0) (hg : g.isn = 0 ∧ g.high = 0 ∧ g.stamped = false ∧ g.stamp = 0) : NSpec P G 8 [.agg (asA g), .agg (asA h)] (cnC 0 h g .nilp .nilp) := by
  obtain ⟨h1, h2, h3, h4⟩ := hh
  obtain ⟨g1, g2, g3, g4⟩ := hg
  unfold cnC
  rw [h1, h2, h3, h4, g1, g2, g3, g4]
  refine nspec_intro hT 4 Tryd.func8 (by decide) rfl rfl (by kernel_rfl) rfl ?_
  refine Tri.seq (Tri.reg hT ?_)
  refine Tri.seq (Tri.reg hT ?_)
  refine Tri.seq (Tri.drw hT hm 7 (by kernel_rfl) ?_)
  refine ⟨(by first | ((try simp only [decide_eq_true_eq, decide_eq_false_iff_not, toNat_cast] at *); omega) | decide), ?_⟩
  refine ⟨by kernel_rfl, ?_⟩
  refine Tri.seq (Tri.drw hT hm 7 (by kernel_rfl) ?_)
  refine ⟨(by first | ((try simp only [decide_eq_true_eq, decide_eq_false_iff_not, toNat_cast] at *); omega) | decide), ?_⟩
  refine ⟨by kernel_rfl, ?_⟩
  refine Tri.seq (Tri.reg hT ?_)
  refine Tri.ret ?_
  exact ⟨rfl, rfl, trivial⟩
/-- The chunks of a connection with streams. -/
abbrev cnH (st : Int) (h g : Hf) (s t : SS) : List (Nat × Chunk) := [(0, .box (cnC st h g (.loc 1 0) (.loc 2 0))), (1, .box (bxS s)), (2, .box (bxS t))]
abbrev cnN (st : Int) (h g : Hf) : List (Nat × Chunk) := [(0, .box (cnC st h g .nilp .nilp))]
theorem f12_h (st : Int) (h g : Hf) (s t : SS) : HSpec P G 12 [.loc 0 0] (cnH st h g s t) (.int .i64 st) (cnH st h g s t) := by
  refine fspec_intro hT (cnH st h g s t) (cnH st h g s t) 3 3 Tryd.func12 (by decide) rfl rfl (by kernel_rfl) rfl rfl ?_
  refine Tri.seq (Tri.reg hT ?_)
  refine Tri.seq ?_
  refine Tri.seq (Tri.reg hT ?_)
  refine (Tri.cond ⟨fun h1 => ?_, fun h1 => ?_⟩)
  · cases h1
  · refine (Tri.skip ?_)
    refine Tri.seq (Tri.reg hT ?_)
    refine Tri.ret ?_
    exact ⟨rfl, rfl, rfl, rfl, trivial⟩
theorem f21_h (st : Int) (h g : Hf) (s t : SS) : HSpec P G 21 [.loc 0 0] (cnH st h g s t) (.bool (decide (st = 3) || decide (st = 4))) (cnH st h g s t) := by
  refine fspec_intro hT (cnH st h g s t) (cnH st h g s t) 3 3 Tryd.func21 (by decide) rfl rfl (by kernel_rfl) rfl rfl ?_
  refine Tri.seq (Tri.reg hT ?_)
  refine Tri.seq (Tri.reg hT ?_)
  refine ⟨_, [], trivial, rfl, rfl, fun h => ⟨rfl, rfl, rfl⟩, ?_⟩
  refine ⟨_, [], trivial, rfl, rfl, fun h => ⟨h, rfl, rfl, rfl⟩, ?_⟩
  refine ⟨_, [], trivial, rfl, rfl, fun h => ⟨h, rfl, rfl, rfl⟩, ?_⟩
  refine ⟨_, [], trivial, rfl, rfl, fun h => ⟨h, rfl, rfl, rfl⟩, ?_⟩
  refine ⟨_, [], trivial, rfl, rfl, fun h => ⟨h, rfl, rfl, rfl⟩, ?_⟩
  refine ⟨⟨fun _ => trivial, fun hc => (gn hc)⟩, ?_⟩
  refine Tri.ret ?_
  exact ⟨congrArg AV.bool (by simp), rfl, rfl, rfl, trivial⟩
theorem f13_h1 (st : Int) (h g : Hf) (s t : SS) : HSpec P G 13 [.loc 0 0, .int .i64 1] (cnH st h g s t) (.int .i64 s.pos) (cnH st h g s t) := by
  refine fspec_intro hT (cnH st h g s t) (cnH st h g s t) 3 3 Tryd.func13 (by decide) rfl rfl (by kernel_rfl) rfl rfl ?_
  refine Tri.seq (Tri.reg hT ?_)
  refine Tri.seq ?_
  refine Tri.seq (Tri.reg hT ?_)
  refine ⟨_, [], trivial, rfl, rfl, fun h => ⟨rfl, rfl, rfl⟩, ?_⟩
  refine ⟨_, [], trivial, rfl, rfl, fun h => ⟨h, (.inl ⟨_, fun _ => rfl, f18_spec 1, rfl, rfl, rfl⟩)⟩, ?_⟩
  refine ⟨_, [], trivial, rfl, rfl, fun h => ⟨h, rfl, rfl, rfl⟩, ?_⟩
  refine ⟨⟨fun _ => trivial, fun hc => (gn hc)⟩, ?_⟩
  refine ⟨_, [], trivial, rfl, rfl, fun h => ⟨rfl, rfl, rfl⟩, ?_⟩
  refine ⟨_, [], trivial, rfl, rfl, fun h => ⟨rfl, rfl, rfl⟩, ?_⟩
  refine ⟨_, [], trivial, rfl, rfl, fun h => ⟨h, rfl, rfl, rfl⟩, ?_⟩
  refine ⟨_, [], trivial, rfl, rfl, fun h => ⟨h, rfl, rfl, rfl⟩, ?_⟩
  refine ⟨_, [], trivial, rfl, rfl, fun h => ⟨h, h, (by first | ((try simp only [decide_eq_true_eq, decide_eq_false_iff_not, toNat_cast] at *); omega) | decide), rfl, rfl, rfl⟩, ?_⟩
  refine ⟨_, [], trivial, rfl, rfl, fun h => ⟨h, rfl, rfl, rfl⟩, ?_⟩
  refine ⟨_, [], trivial, rfl, rfl, fun h => ⟨h, rfl, rfl, rfl⟩, ?_⟩
  refine ⟨_, [], trivial, rfl, rfl, fun h => ⟨h, rfl, rfl, rfl⟩, ?_⟩
  refine ⟨⟨fun _ => trivial, fun hc => (gn hc)⟩, ?_⟩
  refine (Tri.cond ⟨fun h1 => ?_, fun h1 => ?_⟩)
  · cases h1
  · refine (Tri.skip ?_)
    refine Tri.seq (Tri.reg hT ?_)
    refine ⟨(by first | ((try simp only [decide_eq_true_eq, decide_eq_false_iff_not, toNat_cast] at *); omega) | decide), ?_⟩
    refine .inl (.inr (.inl ⟨_, _, (by exact ⟨rfl, trivial⟩), (CSpec.gw (f25_spec s 1)), (by rfl), ?_⟩))
    refine Tri.ret ?_
    exact ⟨rfl, rfl, rfl, rfl, trivial⟩
theorem f28_h1 (st : Int) (h g : Hf) (s t : SS) (k n : Int) : HSpec P G 28 [.loc 0 0, .int .i64 k, .int .i64 1, .int .i64 n] (cnH st h g s t) (evA k 1 s.pos n []) (cnH st h g s t) := by
  refine fspec_intro hT (cnH st h g s t) (cnH st h g s t) 3 3 Tryd.func28 (by decide) rfl rfl (by kernel_rfl) rfl rfl ?_
  refine Tri.seq (Tri.reg hT ?_)
  refine Tri.seq (Tri.reg hT ?_)
  refine .inl (.inr (.inl ⟨_, _, (by exact ⟨rfl, rfl, rfl, trivial⟩), (CSpec.ofH (u := [(0, cnC st h g (.loc 1 0) (.loc 2 0), none), (1, bxS s, none), (2, bxS t, none)]) (f13_h1 st h g s t)), (by rfl), ?_⟩))
  refine Tri.ret ?_
  exact ⟨rfl, rfl, rfl, rfl, trivial⟩
theorem f13_h2 (st : Int) (h g : Hf) (s t : SS) : HSpec P G 13 [.loc 0 0, .int .i64 2] (cnH st h g s t) (.int .i64 t.pos) (cnH st h g s t) := by
  refine fspec_intro hT (cnH st h g s t) (cnH st h g s t) 3 3 Tryd.func13 (by decide) rfl rfl (by kernel_rfl) rfl rfl ?_
  refine Tri.seq (Tri.reg hT ?_)
  refine Tri.seq ?_
  refine Tri.seq (Tri.reg hT ?_)
  refine ⟨_, [], trivial, rfl, rfl, fun h => ⟨rfl, rfl, rfl⟩, ?_⟩
  refine ⟨_, [], trivial, rfl, rfl, fun h => ⟨h, (.inl ⟨_, fun _ => rfl, f18_spec 2, rfl, rfl, rfl⟩)⟩, ?_⟩
  refine ⟨_, [], trivial, rfl, rfl, fun h => ⟨h, rfl, rfl, rfl⟩, ?_⟩
  refine ⟨⟨fun _ => trivial, fun hc => (gn hc)⟩, ?_⟩
  refine ⟨_, [], trivial, rfl, rfl, fun h => ⟨rfl, rfl, rfl⟩, ?_⟩
  refine ⟨_, [], trivial, rfl, rfl, fun h => ⟨rfl, rfl, rfl⟩, ?_⟩
  refine ⟨_, [], trivial, rfl, rfl, fun h => ⟨h, rfl, rfl, rfl⟩, ?_⟩
  refine ⟨_, [], trivial, rfl, rfl, fun h => ⟨h, rfl, rfl, rfl⟩, ?_⟩
  refine ⟨_, [], trivial, rfl, rfl, fun h => ⟨h, h, (by first | ((try simp only [decide_eq_true_eq, decide_eq_false_iff_not, toNat_cast] at *); omega) | decide), rfl, rfl, rfl⟩, ?_⟩
  refine ⟨_, [], trivial, rfl, rfl, fun h => ⟨h, rfl, rfl, rfl⟩, ?_⟩
  refine ⟨_, [], trivial, rfl, rfl, fun h => ⟨h, rfl, rfl, rfl⟩, ?_⟩
  refine ⟨_, [], trivial, rfl, rfl, fun h => ⟨h, rfl, rfl, rfl⟩, ?_⟩
  refine ⟨⟨fun _ => trivial, fun hc => (gn hc)⟩, ?_⟩
  refine (Tri.cond ⟨fun h1 => ?_, fun h1 => ?_⟩)
  · cases h1
  · refine (Tri.skip ?_)
    refine Tri.seq (Tri.reg hT ?_)
    refine ⟨(by first | ((try simp only [decide_eq_true_eq, decide_eq_false_iff_not, toNat_cast] at *); omega) | decide), ?_⟩
    refine .inl (.inr (.inl ⟨_, _, (by exact ⟨rfl, trivial⟩), (CSpec.gw (f25_spec t 2)), (by rfl), ?_⟩))
    refine Tri.ret ?_
    exact ⟨rfl, rfl, rfl, rfl, trivial⟩
theorem f28_h2 (st : Int) (h g : Hf) (s t : SS) (k n : Int) : HSpec P G 28 [.loc 0 0, .int .i64 k, .int .i64 2, .int .i64 n] (cnH st h g s t) (evA k 2 t.pos n []) (cnH st h g s t) := by
  refine fspec_intro hT (cnH st h g s t) (cnH st h g s t) 3 3 Tryd.func28 (by decide) rfl rfl (by kernel_rfl) rfl rfl ?_
  refine Tri.seq (Tri.reg hT ?_)
  refine Tri.seq (Tri.reg hT ?_)
  refine .inl (.inr (.inl ⟨_, _, (by exact ⟨rfl, rfl, rfl, trivial⟩), (CSpec.ofH (u := [(0, cnC st h g (.loc 1 0) (.loc 2 0), none), (1, bxS s, none), (2, bxS t, none)]) (f13_h2 st h g s t)), (by rfl), ?_⟩))
  refine Tri.ret ?_
  exact ⟨rfl, rfl, rfl, rfl, trivial⟩
end Go.Proofs.YtchiagnggnblaaaDoor.Ac
