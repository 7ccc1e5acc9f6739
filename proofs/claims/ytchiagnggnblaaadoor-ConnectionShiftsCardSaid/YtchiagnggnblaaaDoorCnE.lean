import Derived.Test.YtchiagnggnblaaaDoorCnC
set_option linter.all false
/- Contracts of chapter 21: the view of an open connection. -/
namespace Go.Proofs.YtchiagnggnblaaaDoor.Ac
open Go Go.Fw Go.Ov Go.Proofs.YtchiagnggnblaaaDoor.Fx
abbrev opB (st : Int) : Bool := decide (st = 3) || decide (st = 4)
abbrev vwZ : AV := viewV false 0 0 0 false 0
theorem f16_h1 (st : Int) (p g : Hf) (s t : SS) : HSpec P G 16 [.loc 0 0, .int .i64 1] (cnH st p g s t) (if opB st = true then vwA1 p g s t else vwZ) (cnH st p g s t) := by
  generalize hO : opB st = ob; rw [show (if ob = true then vwA1 p g s t else vwZ) = (match ob with | true => vwA1 p g s t | false => vwZ) by cases ob <;> rfl]; refine fspec_intro hT (cnH st p g s t) (cnH st p g s t) 3 3 Tryd.func16 (by decide) rfl rfl (by kernel_rfl) rfl rfl ?_
  refine Tri.seq (Tri.reg hT ?_)
  refine Tri.seq ?_
  refine Tri.seq (Tri.reg hT ?_)
  refine ⟨_, [], trivial, rfl, rfl, fun h => ⟨rfl, rfl, rfl⟩, ?_⟩
  refine ⟨_, [], trivial, rfl, rfl, fun h => ⟨h, (.inl ⟨_, fun _ => rfl, f18_spec 1, rfl, rfl, rfl⟩)⟩, ?_⟩
  refine ⟨_, [], trivial, rfl, rfl, fun h => ⟨h, rfl, rfl, rfl⟩, ?_⟩
  refine ⟨⟨fun _ => trivial, fun hc => (gn hc)⟩, ?_⟩
  refine ⟨_, [], trivial, rfl, rfl, fun h => ⟨rfl, rfl, rfl⟩, ?_⟩
  refine ⟨_, [(0, cnC st p g (.loc 1 0) (.loc 2 0), none), (1, bxS s, none), (2, bxS t, none)], (by exact ⟨rfl, rfl, rfl, trivial⟩), rfl, (by rfl), fun h => ⟨h, (.inr (.inl ⟨_, _, (by exact ⟨rfl, rfl, rfl, trivial⟩), (CSpec.ofH (u := [(0, cnC st p g (.loc 1 0) (.loc 2 0), none), (1, bxS s, none), (2, bxS t, none)]) (f21_h st p g s t)), (by rfl), rfl, rfl, rfl⟩))⟩, ?_⟩
  refine ⟨_, [], trivial, rfl, rfl, fun h => ⟨h, rfl, rfl, rfl⟩, ?_⟩
  refine ⟨⟨fun _ => trivial, fun hc => (gn hc)⟩, ?_⟩
  refine (Tri.cond ⟨fun h1 => ?_, fun h1 => ?_⟩)
  · refine Tri.seq (Tri.reg hT ?_)
    refine Tri.ret ?_
    have hf : ob = false := (by rw [← hO]; unfold opB; simpa using h1); subst hf; exact ⟨rfl, rfl, rfl, rfl, trivial⟩
  · refine (Tri.skip ?_)
    refine Tri.seq (Tri.reg hT ?_)
    refine .inl (.inr (.inl ⟨_, _, (by exact ⟨rfl, rfl, rfl, trivial⟩), (CSpec.ofH (u := [(0, cnC st p g (.loc 1 0) (.loc 2 0), none), (1, bxS s, none), (2, bxS t, none)]) (f27_h1 st p g s t)), (by rfl), ?_⟩))
    refine Tri.ret ?_
    have hf : ob = true := (by rw [← hO]; unfold opB; simp at h1; by_cases q : st = 3 <;> simp_all); subst hf; exact ⟨rfl, rfl, rfl, rfl, trivial⟩
theorem f16_h2 (st : Int) (p g : Hf) (s t : SS) : HSpec P G 16 [.loc 0 0, .int .i64 2] (cnH st p g s t) (if opB st = true then vwA2 p g s t else vwZ) (cnH st p g s t) := by
  generalize hO : opB st = ob; rw [show (if ob = true then vwA2 p g s t else vwZ) = (match ob with | true => vwA2 p g s t | false => vwZ) by cases ob <;> rfl]; refine fspec_intro hT (cnH st p g s t) (cnH st p g s t) 3 3 Tryd.func16 (by decide) rfl rfl (by kernel_rfl) rfl rfl ?_
  refine Tri.seq (Tri.reg hT ?_)
  refine Tri.seq ?_
  refine Tri.seq (Tri.reg hT ?_)
  refine ⟨_, [], trivial, rfl, rfl, fun h => ⟨rfl, rfl, rfl⟩, ?_⟩
  refine ⟨_, [], trivial, rfl, rfl, fun h => ⟨h, (.inl ⟨_, fun _ => rfl, f18_spec 2, rfl, rfl, rfl⟩)⟩, ?_⟩
  refine ⟨_, [], trivial, rfl, rfl, fun h => ⟨h, rfl, rfl, rfl⟩, ?_⟩
  refine ⟨⟨fun _ => trivial, fun hc => (gn hc)⟩, ?_⟩
  refine ⟨_, [], trivial, rfl, rfl, fun h => ⟨rfl, rfl, rfl⟩, ?_⟩
  refine ⟨_, [(0, cnC st p g (.loc 1 0) (.loc 2 0), none), (1, bxS s, none), (2, bxS t, none)], (by exact ⟨rfl, rfl, rfl, trivial⟩), rfl, (by rfl), fun h => ⟨h, (.inr (.inl ⟨_, _, (by exact ⟨rfl, rfl, rfl, trivial⟩), (CSpec.ofH (u := [(0, cnC st p g (.loc 1 0) (.loc 2 0), none), (1, bxS s, none), (2, bxS t, none)]) (f21_h st p g s t)), (by rfl), rfl, rfl, rfl⟩))⟩, ?_⟩
  refine ⟨_, [], trivial, rfl, rfl, fun h => ⟨h, rfl, rfl, rfl⟩, ?_⟩
  refine ⟨⟨fun _ => trivial, fun hc => (gn hc)⟩, ?_⟩
  refine (Tri.cond ⟨fun h1 => ?_, fun h1 => ?_⟩)
  · refine Tri.seq (Tri.reg hT ?_)
    refine Tri.ret ?_
    have hf : ob = false := (by rw [← hO]; unfold opB; simpa using h1); subst hf; exact ⟨rfl, rfl, rfl, rfl, trivial⟩
  · refine (Tri.skip ?_)
    refine Tri.seq (Tri.reg hT ?_)
    refine .inl (.inr (.inl ⟨_, _, (by exact ⟨rfl, rfl, rfl, trivial⟩), (CSpec.ofH (u := [(0, cnC st p g (.loc 1 0) (.loc 2 0), none), (1, bxS s, none), (2, bxS t, none)]) (f27_h2 st p g s t)), (by rfl), ?_⟩))
    refine Tri.ret ?_
    have hf : ob = true := (by rw [← hO]; unfold opB; simp at h1; by_cases q : st = 3 <;> simp_all); subst hf; exact ⟨rfl, rfl, rfl, rfl, trivial⟩
end Go.Proofs.YtchiagnggnblaaaDoor.Ac
