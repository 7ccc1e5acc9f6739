import Derived.Test.YtchiagnggnblaaaDoorCnI
set_option linter.all false
/- Chapter 21: a connection that has no streams. -/
namespace Go.Proofs.YtchiagnggnblaaaDoor.Ac
open Go Go.Fw Go.Ov Go.Proofs.YtchiagnggnblaaaDoor.Fx
theorem f12_n (st : Int) (p g : Hf) : HSpec P G 12 [.loc 0 0] (cnN st p g) (.int .i64 st) (cnN st p g) := by
  refine fspec_intro hT (cnN st p g) (cnN st p g) 1 1 Tryd.func12 (by decide) rfl rfl (by kernel_rfl) rfl rfl ?_
  refine Tri.seq (Tri.reg hT ?_)
  refine Tri.seq ?_
  refine Tri.seq (Tri.reg hT ?_)
  refine (Tri.cond ⟨fun h1 => ?_, fun h1 => ?_⟩)
  · cases h1
  · refine (Tri.skip ?_)
    refine Tri.seq (Tri.reg hT ?_)
    refine Tri.ret ?_
    exact ⟨rfl, rfl, trivial⟩
theorem f21_n (st : Int) (p g : Hf) : HSpec P G 21 [.loc 0 0] (cnN st p g) (.bool (decide (st = 3) || decide (st = 4))) (cnN st p g) := by
  refine fspec_intro hT (cnN st p g) (cnN st p g) 1 1 Tryd.func21 (by decide) rfl rfl (by kernel_rfl) rfl rfl ?_
  refine Tri.seq (Tri.reg hT ?_)
  refine Tri.seq (Tri.reg hT ?_)
  refine ⟨_, [], trivial, rfl, rfl, fun h => ⟨rfl, rfl, rfl⟩, ?_⟩
  refine ⟨_, [], trivial, rfl, rfl, fun h => ⟨h, rfl, rfl, rfl⟩, ?_⟩
  refine ⟨_, [], trivial, rfl, rfl, fun h => ⟨h, rfl, rfl, rfl⟩, ?_⟩
  refine ⟨_, [], trivial, rfl, rfl, fun h => ⟨h, rfl, rfl, rfl⟩, ?_⟩
  refine ⟨_, [], trivial, rfl, rfl, fun h => ⟨h, rfl, rfl, rfl⟩, ?_⟩
  refine ⟨⟨fun _ => trivial, fun hc => (gn hc)⟩, ?_⟩
  refine Tri.ret ?_
  exact ⟨congrArg AV.bool (by simp), rfl, trivial⟩
theorem f13_n1 (st : Int) (p g : Hf) : HSpec P G 13 [.loc 0 0, .int .i64 1] (cnN st p g) (.int .i64 0) (cnN st p g) := by
  refine fspec_intro hT (cnN st p g) (cnN st p g) 1 1 Tryd.func13 (by decide) rfl rfl (by kernel_rfl) rfl rfl ?_
  refine Tri.seq (Tri.reg hT ?_)
  refine Tri.seq ?_
  refine Tri.seq (Tri.reg hT ?_)
  refine ⟨_, [], trivial, rfl, rfl, fun h => ⟨rfl, rfl, rfl⟩, ?_⟩
  refine ⟨_, [], trivial, rfl, rfl, fun h => ⟨h, (.inl ⟨_, fun _ => rfl, f18_spec 1, rfl, rfl, rfl⟩)⟩, ?_⟩
  refine ⟨_, [], trivial, rfl, rfl, fun h => ⟨h, rfl, rfl, rfl⟩, ?_⟩
  refine ⟨⟨fun _ => trivial, fun hc => (gn hc)⟩, ?_⟩
  refine ⟨_, [], trivial, rfl, rfl, fun h => ⟨rfl, rfl, rfl⟩, ?_⟩
  refine ⟨_, [], trivial, rfl, rfl, fun h => ⟨rfl, rfl, rfl⟩, ?_⟩
  refine ⟨_, [], trivial, rfl, rfl, fun h => ⟨h, rfl, rfl, rfl⟩, ?_⟩
  refine ⟨_, [], trivial, rfl, rfl, fun h => ⟨h, rfl, rfl, rfl⟩, ?_⟩
  refine ⟨_, [], trivial, rfl, rfl, fun h => ⟨h, h, (by first | ((try simp only [decide_eq_true_eq, decide_eq_false_iff_not, toNat_cast] at *); omega) | decide), rfl, rfl, rfl⟩, ?_⟩
  refine ⟨_, [], trivial, rfl, rfl, fun h => ⟨h, rfl, rfl, rfl⟩, ?_⟩
  refine ⟨_, [], trivial, rfl, rfl, fun h => ⟨h, rfl, rfl, rfl⟩, ?_⟩
  refine ⟨_, [], trivial, rfl, rfl, fun h => ⟨h, rfl, rfl, rfl⟩, ?_⟩
  refine ⟨⟨fun _ => trivial, fun hc => (gn hc)⟩, ?_⟩
  refine (Tri.cond ⟨fun h1 => ?_, fun h1 => ?_⟩)
  · refine Tri.seq (Tri.reg hT ?_)
    refine Tri.ret ?_
    exact ⟨rfl, rfl, trivial⟩
  · cases h1
theorem f13_n2 (st : Int) (p g : Hf) : HSpec P G 13 [.loc 0 0, .int .i64 2] (cnN st p g) (.int .i64 0) (cnN st p g) := by
  refine fspec_intro hT (cnN st p g) (cnN st p g) 1 1 Tryd.func13 (by decide) rfl rfl (by kernel_rfl) rfl rfl ?_
  refine Tri.seq (Tri.reg hT ?_)
  refine Tri.seq ?_
  refine Tri.seq (Tri.reg hT ?_)
  refine ⟨_, [], trivial, rfl, rfl, fun h => ⟨rfl, rfl, rfl⟩, ?_⟩
  refine ⟨_, [], trivial, rfl, rfl, fun h => ⟨h, (.inl ⟨_, fun _ => rfl, f18_spec 2, rfl, rfl, rfl⟩)⟩, ?_⟩
  refine ⟨_, [], trivial, rfl, rfl, fun h => ⟨h, rfl, rfl, rfl⟩, ?_⟩
  refine ⟨⟨fun _ => trivial, fun hc => (gn hc)⟩, ?_⟩
  refine ⟨_, [], trivial, rfl, rfl, fun h => ⟨rfl, rfl, rfl⟩, ?_⟩
  refine ⟨_, [], trivial, rfl, rfl, fun h => ⟨rfl, rfl, rfl⟩, ?_⟩
  refine ⟨_, [], trivial, rfl, rfl, fun h => ⟨h, rfl, rfl, rfl⟩, ?_⟩
  refine ⟨_, [], trivial, rfl, rfl, fun h => ⟨h, rfl, rfl, rfl⟩, ?_⟩
  refine ⟨_, [], trivial, rfl, rfl, fun h => ⟨h, h, (by first | ((try simp only [decide_eq_true_eq, decide_eq_false_iff_not, toNat_cast] at *); omega) | decide), rfl, rfl, rfl⟩, ?_⟩
  refine ⟨_, [], trivial, rfl, rfl, fun h => ⟨h, rfl, rfl, rfl⟩, ?_⟩
  refine ⟨_, [], trivial, rfl, rfl, fun h => ⟨h, rfl, rfl, rfl⟩, ?_⟩
  refine ⟨_, [], trivial, rfl, rfl, fun h => ⟨h, rfl, rfl, rfl⟩, ?_⟩
  refine ⟨⟨fun _ => trivial, fun hc => (gn hc)⟩, ?_⟩
  refine (Tri.cond ⟨fun h1 => ?_, fun h1 => ?_⟩)
  · refine Tri.seq (Tri.reg hT ?_)
    refine Tri.ret ?_
    exact ⟨rfl, rfl, trivial⟩
  · cases h1
theorem f28_n1 (st : Int) (p g : Hf) (k n : Int) : HSpec P G 28 [.loc 0 0, .int .i64 k, .int .i64 1, .int .i64 n] (cnN st p g) (evA k 1 0 n []) (cnN st p g) := by
  refine fspec_intro hT (cnN st p g) (cnN st p g) 1 1 Tryd.func28 (by decide) rfl rfl (by kernel_rfl) rfl rfl ?_
  refine Tri.seq (Tri.reg hT ?_)
  refine Tri.seq (Tri.reg hT ?_)
  refine .inl (.inr (.inl ⟨_, _, (by exact ⟨rfl, trivial⟩), (CSpec.ofH (u := [(0, cnC st p g .nilp .nilp, none)]) (f13_n1 st p g)), (by rfl), ?_⟩))
  refine Tri.ret ?_
  exact ⟨rfl, rfl, trivial⟩
theorem f28_n2 (st : Int) (p g : Hf) (k n : Int) : HSpec P G 28 [.loc 0 0, .int .i64 k, .int .i64 2, .int .i64 n] (cnN st p g) (evA k 2 0 n []) (cnN st p g) := by
  refine fspec_intro hT (cnN st p g) (cnN st p g) 1 1 Tryd.func28 (by decide) rfl rfl (by kernel_rfl) rfl rfl ?_
  refine Tri.seq (Tri.reg hT ?_)
  refine Tri.seq (Tri.reg hT ?_)
  refine .inl (.inr (.inl ⟨_, _, (by exact ⟨rfl, trivial⟩), (CSpec.ofH (u := [(0, cnC st p g .nilp .nilp, none)]) (f13_n2 st p g)), (by rfl), ?_⟩))
  refine Tri.ret ?_
  exact ⟨rfl, rfl, trivial⟩
theorem f20_n1 (st : Int) (p g : Hf) (n : Int) : HSpec P G 20 [.loc 0 0, .int .i64 1, .int .i64 n] (cnN st p g) (.list evT [(7, 1, 0, n, [], ())]) (cnN st p g) := by
  refine fspec_intro hT (cnN st p g) (cnN st p g) 1 1 Tryd.func20 (by decide) rfl rfl (by kernel_rfl) rfl rfl ?_
  refine Tri.seq (Tri.reg hT ?_)
  refine Tri.seq (Tri.reg hT ?_)
  refine .inl (.inr (.inl ⟨_, _, (by exact ⟨rfl, trivial⟩), (CSpec.ofH (u := [(0, cnC st p g .nilp .nilp, none)]) (f28_n1 st p g 7 n)), (by rfl), ?_⟩))
  refine Tri.le _ (Le.freeze 6 6 1 rfl rfl (Nat.le_refl 1)) ?_
  refine Tri.ret ?_
  exact ⟨rfl, rfl, trivial⟩
theorem f20_n2 (st : Int) (p g : Hf) (n : Int) : HSpec P G 20 [.loc 0 0, .int .i64 2, .int .i64 n] (cnN st p g) (.list evT [(7, 2, 0, n, [], ())]) (cnN st p g) := by
  refine fspec_intro hT (cnN st p g) (cnN st p g) 1 1 Tryd.func20 (by decide) rfl rfl (by kernel_rfl) rfl rfl ?_
  refine Tri.seq (Tri.reg hT ?_)
  refine Tri.seq (Tri.reg hT ?_)
  refine .inl (.inr (.inl ⟨_, _, (by exact ⟨rfl, trivial⟩), (CSpec.ofH (u := [(0, cnC st p g .nilp .nilp, none)]) (f28_n2 st p g 7 n)), (by rfl), ?_⟩))
  refine Tri.le _ (Le.freeze 6 6 1 rfl rfl (Nat.le_refl 1)) ?_
  refine Tri.ret ?_
  exact ⟨rfl, rfl, trivial⟩
theorem f21_nf (st : Int) (p g : Hf) (ho : opB st = false) : HSpec P G 21 [.loc 0 0] (cnN st p g) (.bool false) (cnN st p g) := by
  have := f21_n st p g
  rw [show (decide (st = 3) || decide (st = 4)) = false from ho] at this
  exact this
theorem f16_n1 (st : Int) (p g : Hf) (ho : opB st = false) : HSpec P G 16 [.loc 0 0, .int .i64 1] (cnN st p g) vwZ (cnN st p g) := by
  refine fspec_intro hT (cnN st p g) (cnN st p g) 1 1 Tryd.func16 (by decide) rfl rfl (by kernel_rfl) rfl rfl ?_
  refine Tri.seq (Tri.reg hT ?_)
  refine Tri.seq ?_
  refine Tri.seq (Tri.reg hT ?_)
  refine ⟨_, [], trivial, rfl, rfl, fun h => ⟨rfl, rfl, rfl⟩, ?_⟩
  refine ⟨_, [], trivial, rfl, rfl, fun h => ⟨h, (.inl ⟨_, fun _ => rfl, f18_spec 1, rfl, rfl, rfl⟩)⟩, ?_⟩
  refine ⟨_, [], trivial, rfl, rfl, fun h => ⟨h, rfl, rfl, rfl⟩, ?_⟩
  refine ⟨⟨fun _ => trivial, fun hc => (gn hc)⟩, ?_⟩
  refine ⟨_, [], trivial, rfl, rfl, fun h => ⟨rfl, rfl, rfl⟩, ?_⟩
  refine ⟨_, [(0, cnC st p g .nilp .nilp, none)], (by exact ⟨rfl, trivial⟩), rfl, (by rfl), fun h => ⟨h, (.inr (.inl ⟨_, _, (by exact ⟨rfl, trivial⟩), (CSpec.ofH (u := [(0, cnC st p g .nilp .nilp, none)]) (f21_nf st p g ho)), (by rfl), rfl, rfl, rfl⟩))⟩, ?_⟩
  refine ⟨_, [], trivial, rfl, rfl, fun h => ⟨h, rfl, rfl, rfl⟩, ?_⟩
  refine ⟨⟨fun _ => trivial, fun hc => (gn hc)⟩, ?_⟩
  refine (Tri.cond ⟨fun h1 => ?_, fun h1 => ?_⟩)
  · refine Tri.seq (Tri.reg hT ?_)
    refine Tri.ret ?_
    exact ⟨rfl, rfl, trivial⟩
  · exact absurd h1 (by decide)
theorem f16_n2 (st : Int) (p g : Hf) (ho : opB st = false) : HSpec P G 16 [.loc 0 0, .int .i64 2] (cnN st p g) vwZ (cnN st p g) := by
  refine fspec_intro hT (cnN st p g) (cnN st p g) 1 1 Tryd.func16 (by decide) rfl rfl (by kernel_rfl) rfl rfl ?_
  refine Tri.seq (Tri.reg hT ?_)
  refine Tri.seq ?_
  refine Tri.seq (Tri.reg hT ?_)
  refine ⟨_, [], trivial, rfl, rfl, fun h => ⟨rfl, rfl, rfl⟩, ?_⟩
  refine ⟨_, [], trivial, rfl, rfl, fun h => ⟨h, (.inl ⟨_, fun _ => rfl, f18_spec 2, rfl, rfl, rfl⟩)⟩, ?_⟩
  refine ⟨_, [], trivial, rfl, rfl, fun h => ⟨h, rfl, rfl, rfl⟩, ?_⟩
  refine ⟨⟨fun _ => trivial, fun hc => (gn hc)⟩, ?_⟩
  refine ⟨_, [], trivial, rfl, rfl, fun h => ⟨rfl, rfl, rfl⟩, ?_⟩
  refine ⟨_, [(0, cnC st p g .nilp .nilp, none)], (by exact ⟨rfl, trivial⟩), rfl, (by rfl), fun h => ⟨h, (.inr (.inl ⟨_, _, (by exact ⟨rfl, trivial⟩), (CSpec.ofH (u := [(0, cnC st p g .nilp .nilp, none)]) (f21_nf st p g ho)), (by rfl), rfl, rfl, rfl⟩))⟩, ?_⟩
  refine ⟨_, [], trivial, rfl, rfl, fun h => ⟨h, rfl, rfl, rfl⟩, ?_⟩
  refine ⟨⟨fun _ => trivial, fun hc => (gn hc)⟩, ?_⟩
  refine (Tri.cond ⟨fun h1 => ?_, fun h1 => ?_⟩)
  · refine Tri.seq (Tri.reg hT ?_)
    refine Tri.ret ?_
    exact ⟨rfl, rfl, trivial⟩
  · exact absurd h1 (by decide)
end Go.Proofs.YtchiagnggnblaaaDoor.Ac
