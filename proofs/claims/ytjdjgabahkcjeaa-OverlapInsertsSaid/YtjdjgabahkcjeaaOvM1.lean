/- Chapter 15: the statements OverlapInserts and OverlapTakes. -/
import Derived.Test.YtjdjgabahkcjeaaOvR4
import Derived.Test.YtjdjgabahkcjeaaOvL
import Derived.Test.YtjdjgabahkcjeaaOv7
set_option linter.all false
namespace Go.Proofs.Ytjdjgabahkcjeaa.Fx
open Go Go.Fw Go.Ov
theorem guard3 {a b c : Bool} (h : (if (if (!a) = true then true else b) = true then true else !c) = false) : a = true ∧ b = false ∧ c = true := by
  cases a <;> cases b <;> cases c <;> simp_all
theorem guard2 {a b : Bool} (h : gd (if (!a) = true then true else b) false = true) : a = true ∧ b = false := by
  cases a <;> cases b <;> simp_all [gd]
theorem f4_spec (l : List Pc) (p : Pc) (pol : Int) (hg : l.length ≤ 140737488355328) : PSpec P [] 4 [.list pT l, pv p, .int .i64 pol] (.bool true) := by
  refine pspec_intro hT Try.func4 (by decide) rfl rfl (by kernel_rfl) rfl ?_
  refine Tri.seq (Tri.reg hT ?_)
  refine Tri.seq ?_
  refine Tri.seq (Tri.reg hT ?_)
  refine .inl (.inl ⟨_, fun _ => rfl, f13_spec l 70 400 hg (by decide) (by decide) (by decide) (by decide), ?_⟩)
  refine ⟨_, [], trivial, rfl, rfl, fun h => ⟨rfl, rfl, rfl⟩, ?_⟩
  refine ⟨_, [], trivial, rfl, rfl, fun h => ⟨h, rfl, rfl, rfl⟩, ?_⟩
  refine ⟨_, [], trivial, rfl, rfl, fun h => ⟨h, rfl, rfl, rfl⟩, ?_⟩
  refine ⟨_, [], trivial, rfl, rfl, fun h => ⟨h, rfl, rfl, rfl⟩, ?_⟩
  refine ⟨⟨fun _ => trivial, fun hc => (gn hc)⟩, ?_⟩
  refine ⟨_, [], trivial, rfl, rfl, fun h => ⟨rfl, rfl, rfl⟩, ?_⟩
  refine ⟨_, [], trivial, rfl, rfl, fun h => ⟨h, (.inl ⟨_, fun _ => rfl, f14_spec l (by have := few_of (many := 70) (most := 400) (guard2 h).1; omega), rfl, rfl, rfl⟩)⟩, ?_⟩
  refine ⟨_, [], trivial, rfl, rfl, fun h => ⟨h, rfl, rfl, rfl⟩, ?_⟩
  refine ⟨⟨fun _ => trivial, fun hc => (gn hc)⟩, ?_⟩
  refine (Tri.cond ⟨fun h1 => ?_, fun h1 => ?_⟩)
  · refine Tri.seq (Tri.reg hT ?_)
    refine .inl (.inl ⟨_, fun _ => rfl, f12_spec, ?_⟩)
    refine Tri.ret ?_
    exact ⟨rfl, trivial⟩
  · refine (Tri.skip ?_)
    have g3 := guard3 h1; have hf := few_of (many := 70) (most := 400) g3.1; have hp : ¬ ((pd p).length : Int) > 200 := of_decide_eq_false g3.2.1; have hv : Valid l := of_decide_eq_true g3.2.2; have hr := insR_len l p pol
    refine Tri.seq (Tri.reg hT ?_)
    refine .inl (.inl ⟨_, fun _ => rfl, f15_spec l p pol (by omega) hv (by omega), ?_⟩)
    refine Tri.seq (Tri.reg hT ?_)
    refine .inl (.inl ⟨_, fun _ => rfl, f16_spec l p pol hv (by omega) (by omega) (by omega), ?_⟩)
    refine Tri.seq (Tri.reg hT ?_)
    refine .inl (.inl ⟨_, fun _ => rfl, f17_spec _ _ (by omega), ?_⟩)
    refine ⟨_, [], trivial, rfl, rfl, fun h => ⟨rfl, rfl, rfl⟩, ?_⟩
    refine ⟨_, [], trivial, rfl, rfl, fun h => ⟨rfl, rfl, rfl⟩, ?_⟩
    refine ⟨_, [], trivial, rfl, rfl, fun h => ⟨h, h, rfl, rfl, rfl⟩, ?_⟩
    refine ⟨⟨fun hc => hc, fun _ => trivial⟩, ?_⟩
    refine ⟨_, [], trivial, rfl, rfl, fun h => ⟨rfl, rfl, rfl⟩, ?_⟩
    refine ⟨_, [], trivial, rfl, rfl, fun h => ⟨rfl, rfl, rfl⟩, ?_⟩
    refine ⟨_, [], trivial, rfl, rfl, fun h => ⟨h, h, rfl, rfl, rfl⟩, ?_⟩
    refine ⟨⟨fun hc => hc, fun _ => trivial⟩, ?_⟩
    refine ⟨_, [], trivial, rfl, rfl, fun h => (.inl ⟨_, fun _ => rfl, f12_spec, rfl, rfl, rfl⟩), ?_⟩
    refine ⟨⟨fun hc => hc, fun _ => trivial⟩, ?_⟩
    refine Tri.ret ?_
    exact ⟨congrArg AV.bool (by simp), trivial⟩
theorem f5_spec (l : List Pc) (a : Int) (hg : l.length ≤ 140737488355328) : PSpec P [] 5 [.list pT l, .int .i64 a] (.bool true) := by
  refine pspec_intro hT Try.func5 (by decide) rfl rfl (by kernel_rfl) rfl ?_
  refine Tri.seq (Tri.reg hT ?_)
  refine Tri.seq ?_
  refine Tri.seq (Tri.reg hT ?_)
  refine .inl (.inl ⟨_, fun _ => rfl, f13_spec l 70 400 hg (by decide) (by decide) (by decide) (by decide), ?_⟩)
  refine (Tri.cond ⟨fun h1 => ?_, fun h1 => ?_⟩)
  · refine Tri.seq (Tri.reg hT ?_)
    refine .inl (.inl ⟨_, fun _ => rfl, f12_spec, ?_⟩)
    refine Tri.ret ?_
    exact ⟨rfl, trivial⟩
  · refine (Tri.skip ?_)
    refine Tri.seq ?_
    have hf : l.length ≤ 70 ∧ lenSum l ≤ 400 ∧ (cells l).length ≤ 400 := few_of (by cases hb : fewR l 70 400 <;> simp_all); have ht := takeF_len (l := l) a
    refine Tri.seq (Tri.reg hT ?_)
    refine .inl (.inl ⟨_, fun _ => rfl, f18_spec l (by omega), ?_⟩)
    refine .inl (.inl ⟨_, fun _ => rfl, f14_spec l (by omega), ?_⟩)
    refine (Tri.cond ⟨fun h2 => ?_, fun h2 => ?_⟩)
    · exact absurd h2 (by simp)
    · refine (Tri.skip ?_)
      refine Tri.seq ?_
      refine Tri.seq (Tri.reg hT ?_)
      refine .inl (.inl ⟨_, fun _ => rfl, f14_spec l (by omega), ?_⟩)
      refine (Tri.cond ⟨fun h3 => ?_, fun h3 => ?_⟩)
      · refine Tri.seq (Tri.reg hT ?_)
        refine .inl (.inl ⟨_, fun _ => rfl, f12_spec, ?_⟩)
        refine Tri.ret ?_
        exact ⟨rfl, trivial⟩
      · refine (Tri.skip ?_)
        have hv : Valid l := (by simpa using h3)
        refine Tri.seq (Tri.reg hT ?_)
        refine .inl (.inl ⟨_, fun _ => rfl, f19_spec l a (by omega) (valid_inB hv) (by omega), ?_⟩)
        refine Tri.seq (Tri.reg hT ?_)
        refine .inl (.inl ⟨_, fun _ => rfl, f20_spec l a hv (by omega) (by omega) (by omega), ?_⟩)
        refine Tri.seq (Tri.reg hT ?_)
        refine ⟨_, [], trivial, rfl, rfl, fun h => ⟨rfl, rfl, rfl⟩, ?_⟩
        refine ⟨_, [], trivial, rfl, rfl, fun h => ⟨rfl, rfl, rfl⟩, ?_⟩
        refine ⟨_, [], trivial, rfl, rfl, fun h => ⟨h, h, (.inl ⟨_, fun _ => rfl, f17_spec _ _ (by have := cutL_len l (takeF l a).2; omega), rfl, rfl, rfl⟩)⟩, ?_⟩
        refine ⟨⟨fun hc => hc, fun _ => trivial⟩, ?_⟩
        refine ⟨_, [], trivial, rfl, rfl, fun h => ⟨rfl, rfl, rfl⟩, ?_⟩
        refine ⟨_, [], trivial, rfl, rfl, fun h => ⟨rfl, rfl, rfl⟩, ?_⟩
        refine ⟨_, [], trivial, rfl, rfl, fun h => ⟨h, h, (.inl ⟨_, fun _ => rfl, f21_spec l a (by omega) (valid_inB hv), rfl, rfl, rfl⟩)⟩, ?_⟩
        refine ⟨_, [], trivial, rfl, rfl, fun h => ⟨rfl, rfl, rfl⟩, ?_⟩
        refine ⟨_, [], trivial, rfl, rfl, fun h => ⟨rfl, rfl, rfl⟩, ?_⟩
        refine ⟨_, [], trivial, rfl, rfl, fun h => ⟨h, h, (.inl ⟨_, fun _ => rfl, f22_spec l a (by omega) (valid_inB hv), rfl, rfl, rfl⟩)⟩, ?_⟩
        refine ⟨_, [], trivial, rfl, rfl, fun h => ⟨h, h, (.inl ⟨_, fun _ => rfl, f17_spec _ _ (by have := cutL_len l a; omega), rfl, rfl, rfl⟩)⟩, ?_⟩
        refine ⟨⟨fun hc => hc, fun _ => trivial⟩, ?_⟩
        refine ⟨_, [], trivial, rfl, rfl, fun h => ⟨rfl, rfl, rfl⟩, ?_⟩
        refine ⟨_, [], trivial, rfl, rfl, fun h => ⟨h, (.inl ⟨_, fun _ => rfl, f23_spec l (by omega) (by omega), rfl, rfl, rfl⟩)⟩, ?_⟩
        refine ⟨_, [], trivial, rfl, rfl, fun h => ⟨rfl, rfl, rfl⟩, ?_⟩
        refine ⟨_, [], trivial, rfl, rfl, fun h => ⟨h, (.inl ⟨_, fun _ => rfl, f24_spec l (by omega) (by omega), rfl, rfl, rfl⟩)⟩, ?_⟩
        refine ⟨_, [], trivial, rfl, rfl, fun h => ⟨h, h, rfl, rfl, rfl⟩, ?_⟩
        refine ⟨⟨fun hc => hc, fun _ => trivial⟩, ?_⟩
        refine ⟨_, [], trivial, rfl, rfl, fun h => (.inl ⟨_, fun _ => rfl, f12_spec, rfl, rfl, rfl⟩), ?_⟩
        refine ⟨⟨fun hc => hc, fun _ => trivial⟩, ?_⟩
        refine Tri.ret ?_
        exact ⟨congrArg AV.bool (by simp), trivial⟩
end Go.Proofs.Ytjdjgabahkcjeaa.Fx
