import Derived.Test.YtngmadndlmceoaaLxD
import Derived.Test.YtngmadndlmceoaaGLx1
set_option linter.all false
/- Contracts of chapter 04: hexadecimal digits. -/
namespace Go.Proofs.Ytngmadndlmceoaa.Fx
open Go Go.Fw Go.Ov Go.Lx
theorem f61_spec (c : Int) (hc : 0 ≤ c ∧ c < 256) : PSpec P [] 61 [.int .u8 c] (.int .i64 (hexC c)) := by
  refine pspec_intro hT Try.func61 (by decide) rfl rfl (by kernel_rfl) rfl ?_
  refine Tri.seq (Tri.reg hT ?_)
  refine Tri.seq (Tri.block ?_)
  refine Tri.seq (Tri.reg hT ?_)
  refine ⟨_, [], trivial, rfl, rfl, fun h => ⟨rfl, rfl, rfl⟩, ?_⟩
  refine ⟨_, [], trivial, rfl, rfl, fun h => ⟨h, rfl, rfl, rfl⟩, ?_⟩
  refine ⟨⟨fun hc => hc, fun _ => trivial⟩, ?_⟩
  refine (Tri.cond ⟨fun h1 => ?_, fun h1 => ?_⟩)
  · refine Tri.seq (Tri.reg hT ?_)
    refine Tri.ret ?_
    have h := gand_t h1; have w1 : IntKind.u8.wrap (c - 48) = c - 48 := wrap_u8 (by omega); exact ⟨congrArg (AV.int .i64) (by rw [w1, wrapId (by omega)]; exact (if_pos (by omega)).symm), trivial⟩
  · refine Tri.seq (Tri.reg hT ?_)
    refine ⟨_, [], trivial, rfl, rfl, fun h => ⟨rfl, rfl, rfl⟩, ?_⟩
    refine ⟨_, [], trivial, rfl, rfl, fun h => ⟨h, rfl, rfl, rfl⟩, ?_⟩
    refine ⟨⟨fun hc => hc, fun _ => trivial⟩, ?_⟩
    refine (Tri.cond ⟨fun h2 => ?_, fun h2 => ?_⟩)
    · refine Tri.seq (Tri.reg hT ?_)
      refine Tri.ret ?_
      have g1 := gand_f h1; have h := gand_t h2; have w1 : IntKind.u8.wrap (c - 97) = c - 97 := wrap_u8 (by omega); have w2 : IntKind.i64.wrap (c - 97) = c - 97 := wrapId (by omega); exact ⟨congrArg (AV.int .i64) (by rw [w1, w2, wrapId (by omega)]; unfold hexC; rw [if_neg (by omega), if_pos (by omega)]; omega), trivial⟩
    · refine Tri.seq (Tri.reg hT ?_)
      refine ⟨_, [], trivial, rfl, rfl, fun h => ⟨rfl, rfl, rfl⟩, ?_⟩
      refine ⟨_, [], trivial, rfl, rfl, fun h => ⟨h, rfl, rfl, rfl⟩, ?_⟩
      refine ⟨⟨fun hc => hc, fun _ => trivial⟩, ?_⟩
      refine (Tri.cond ⟨fun h3 => ?_, fun h3 => ?_⟩)
      · refine Tri.seq (Tri.reg hT ?_)
        refine Tri.ret ?_
        have g1 := gand_f h1; have g2 := gand_f h2; have h := gand_t h3; have w1 : IntKind.u8.wrap (c - 65) = c - 65 := wrap_u8 (by omega); have w2 : IntKind.i64.wrap (c - 65) = c - 65 := wrapId (by omega); exact ⟨congrArg (AV.int .i64) (by rw [w1, w2, wrapId (by omega)]; unfold hexC; rw [if_neg (by omega), if_neg (by omega), if_pos (by omega)]; omega), trivial⟩
      · refine (Tri.skip ?_)
        refine Tri.seq (Tri.reg hT ?_)
        refine Tri.ret ?_
        have g1 := gand_f h1; have g2 := gand_f h2; have g3 := gand_f h3; exact ⟨congrArg (AV.int .i64) (by unfold hexC; rw [if_neg (by omega), if_neg (by omega), if_neg (by omega)]), trivial⟩
theorem f63_spec (c : Int) (hc : 0 ≤ c ∧ c < 256) : PSpec P [] 63 [.int .u8 c] (.int .i64 (hexC c)) := by
  have w0 : IntKind.i64.wrap c = c := wrapId (by omega)
  refine pspec_intro hT Try.func63 (by decide) rfl rfl (by kernel_rfl) rfl ?_
  refine Tri.seq (Tri.reg hT ?_)
  refine Tri.seq ?_
  refine Tri.seq (Tri.reg hT ?_)
  refine .inl (.inl ⟨_, fun _ => rfl, f37_spec .., ?_⟩)
  refine (Tri.cond ⟨fun h1 => ?_, fun h1 => ?_⟩)
  · refine Tri.seq (Tri.reg hT ?_)
    refine Tri.ret ?_
    have h := of_decide_eq_true h1; exact ⟨congrArg (AV.int .i64) (by rw [w0, wrapId (by omega)]; exact (if_pos (by omega)).symm), trivial⟩
  · refine (Tri.skip ?_)
    refine Tri.seq ?_
    refine Tri.seq (Tri.reg hT ?_)
    refine ⟨_, [], trivial, rfl, rfl, fun h => ⟨rfl, rfl, rfl⟩, ?_⟩
    refine ⟨_, [], trivial, rfl, rfl, fun h => ⟨h, rfl, rfl, rfl⟩, ?_⟩
    refine ⟨⟨fun hc => hc, fun _ => trivial⟩, ?_⟩
    refine (Tri.cond ⟨fun h2 => ?_, fun h2 => ?_⟩)
    · refine Tri.seq (Tri.reg hT ?_)
      refine Tri.ret ?_
      have g1 := of_decide_eq_false h1; have h := gand_t h2; exact ⟨congrArg (AV.int .i64) (by rw [w0, wrapId (by omega)]; unfold hexC; rw [if_neg (by omega), if_pos (by omega)]), trivial⟩
    · refine (Tri.skip ?_)
      refine Tri.seq ?_
      refine Tri.seq (Tri.reg hT ?_)
      refine ⟨_, [], trivial, rfl, rfl, fun h => ⟨rfl, rfl, rfl⟩, ?_⟩
      refine ⟨_, [], trivial, rfl, rfl, fun h => ⟨h, rfl, rfl, rfl⟩, ?_⟩
      refine ⟨⟨fun hc => hc, fun _ => trivial⟩, ?_⟩
      refine (Tri.cond ⟨fun h3 => ?_, fun h3 => ?_⟩)
      · refine Tri.seq (Tri.reg hT ?_)
        refine Tri.ret ?_
        have g1 := of_decide_eq_false h1; have g2 := gand_f h2; have h := gand_t h3; exact ⟨congrArg (AV.int .i64) (by rw [w0, wrapId (by omega)]; unfold hexC; rw [if_neg (by omega), if_neg (by omega), if_pos (by omega)]), trivial⟩
      · refine (Tri.skip ?_)
        refine Tri.seq (Tri.reg hT ?_)
        refine Tri.ret ?_
        have g1 := of_decide_eq_false h1; have g2 := gand_f h2; have g3 := gand_f h3; exact ⟨congrArg (AV.int .i64) (by unfold hexC; rw [if_neg (by omega), if_neg (by omega), if_neg (by omega)]), trivial⟩
end Go.Proofs.Ytngmadndlmceoaa.Fx
