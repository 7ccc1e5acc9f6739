import Derived.Test.YtchiagnggnblaaaDoorStU
import Derived.Test.YtchiagnggnblaaaDoorGSt1
set_option linter.all false
/- Contracts of chapter 20: nil streams, long, program. -/
namespace Go.Proofs.YtchiagnggnblaaaDoor.Fx
open Go Go.Fw Go.Ov
theorem f35_nil : PSpec P [] 35 [.nilp] (.int .u32 0) := by
  refine pspec_intro hT Tryd.func35 (by decide) rfl rfl (by kernel_rfl) rfl ?_
  refine Tri.seq (Tri.reg hT ?_)
  refine Tri.seq ?_
  refine Tri.seq (Tri.reg hT ?_)
  refine (Tri.cond ⟨fun h1 => ?_, fun h1 => ?_⟩)
  · refine Tri.seq (Tri.reg hT ?_)
    refine Tri.ret ?_
    exact ⟨rfl, trivial⟩
  · cases h1
theorem f25_nil : PSpec P [] 25 [.nilp] (.int .i64 0) := by
  refine pspec_intro hT Tryd.func25 (by decide) rfl rfl (by kernel_rfl) rfl ?_
  refine Tri.seq (Tri.reg hT ?_)
  refine Tri.seq ?_
  refine Tri.seq (Tri.reg hT ?_)
  refine (Tri.cond ⟨fun h1 => ?_, fun h1 => ?_⟩)
  · refine Tri.seq (Tri.reg hT ?_)
    refine Tri.ret ?_
    exact ⟨rfl, trivial⟩
  · cases h1
theorem f26_nil : PSpec P [] 26 [.nilp] (.int .i64 0) := by
  refine pspec_intro hT Tryd.func26 (by decide) rfl rfl (by kernel_rfl) rfl ?_
  refine Tri.seq (Tri.reg hT ?_)
  refine Tri.seq ?_
  refine Tri.seq (Tri.reg hT ?_)
  refine (Tri.cond ⟨fun h1 => ?_, fun h1 => ?_⟩)
  · refine Tri.seq (Tri.reg hT ?_)
    refine Tri.ret ?_
    exact ⟨rfl, trivial⟩
  · cases h1
theorem f41_nil : PSpec P [] 41 [.nilp] (.bool false) := by
  refine pspec_intro hT Tryd.func41 (by decide) rfl rfl (by kernel_rfl) rfl ?_
  refine Tri.seq (Tri.reg hT ?_)
  refine Tri.seq (Tri.drw hT hm 14 (by kernel_rfl) ?_)
  refine ⟨_, [], trivial, rfl, rfl, fun h => ⟨rfl, rfl, rfl⟩, ?_⟩
  refine ⟨.nilp, [], trivial, rfl, rfl, fun h => absurd h (by decide), ?_⟩
  refine ⟨.nilp, [], trivial, rfl, rfl, fun h => absurd h (by decide), ?_⟩
  refine ⟨.int .i64 0, [], trivial, rfl, rfl, fun h => absurd h (by decide), ?_⟩
  refine ⟨_, [], trivial, rfl, rfl, fun h => ⟨rfl, rfl, rfl⟩, ?_⟩
  refine ⟨.nilp, [], trivial, rfl, rfl, fun h => absurd h (by decide), ?_⟩
  refine ⟨.nilp, [], trivial, rfl, rfl, fun h => absurd h (by decide), ?_⟩
  refine ⟨.nilp, [], trivial, rfl, rfl, fun h => absurd h (by decide), ?_⟩
  refine ⟨.int .i64 0, [], trivial, rfl, rfl, fun h => absurd h (by decide), ?_⟩
  refine ⟨.bool false, [], trivial, rfl, rfl, fun h => absurd h (by decide), ?_⟩
  refine ⟨⟨fun hc => hc, fun _ => trivial⟩, ?_⟩
  refine ⟨by kernel_rfl, ?_⟩
  refine Tri.ret ?_
  exact ⟨rfl, trivial⟩
theorem f42_nil (seq : Int) : PSpec P [] 42 [.nilp, .int .u32 seq] (.bool false) := by
  refine pspec_intro hT Tryd.func42 (by decide) rfl rfl (by kernel_rfl) rfl ?_
  refine Tri.seq (Tri.reg hT ?_)
  refine Tri.seq ?_
  refine Tri.seq (Tri.reg hT ?_)
  refine ⟨_, [], trivial, rfl, rfl, fun h => ⟨rfl, rfl, rfl⟩, ?_⟩
  refine ⟨.nilp, [], trivial, rfl, rfl, fun h => absurd h (by decide), ?_⟩
  refine ⟨.nilp, [], trivial, rfl, rfl, fun h => absurd h (by decide), ?_⟩
  refine ⟨.int .i64 0, [], trivial, rfl, rfl, fun h => absurd h (by decide), ?_⟩
  refine ⟨.bool false, [], trivial, rfl, rfl, fun h => absurd h (by decide), ?_⟩
  refine ⟨⟨fun _ => trivial, fun hc => (gn hc)⟩, ?_⟩
  refine (Tri.cond ⟨fun h1 => ?_, fun h1 => ?_⟩)
  · refine Tri.seq (Tri.reg hT ?_)
    refine Tri.ret ?_
    exact ⟨rfl, trivial⟩
  · cases h1
theorem f44_nil (seq : Int) : PSpec P [] 44 [.nilp, .int .u32 seq] (.tup [.int .i64 0, .str []]) := by
  refine pspec_intro hT Tryd.func44 (by decide) rfl rfl (by kernel_rfl) rfl ?_
  refine Tri.seq (Tri.reg hT ?_)
  refine Tri.seq ?_
  refine Tri.seq (Tri.reg hT ?_)
  refine (Tri.cond ⟨fun h1 => ?_, fun h1 => ?_⟩)
  · refine Tri.seq (Tri.reg hT ?_)
    refine Tri.ret ?_
    exact ⟨rfl, trivial⟩
  · cases h1
theorem f40_nil (seq : Int) (d : List UInt8) : PSpec P [] 40 [.nilp, .int .u32 seq, .str d] (.tup [.str [], .int .i64 0, .int .i64 0]) := by
  refine pspec_intro hT Tryd.func40 (by decide) rfl rfl (by kernel_rfl) rfl ?_
  refine Tri.seq (Tri.reg hT ?_)
  refine Tri.seq ?_
  refine Tri.seq (Tri.reg hT ?_)
  refine (Tri.cond ⟨fun h1 => ?_, fun h1 => ?_⟩)
  · refine Tri.seq (Tri.reg hT ?_)
    refine Tri.ret ?_
    exact ⟨rfl, trivial⟩
  · cases h1
end Go.Proofs.YtchiagnggnblaaaDoor.Fx
