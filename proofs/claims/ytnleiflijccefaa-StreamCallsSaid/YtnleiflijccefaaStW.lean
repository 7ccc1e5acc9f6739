import Derived.Test.YtnleiflijccefaaStV
import Derived.Test.YtnleiflijccefaaGSt2
set_option linter.all false
/- Contracts of chapter 20: the statements' example. -/
namespace Go.Proofs.Ytnleiflijccefaa.Fx
open Go Go.Fw Go.Ov
theorem wNewA : NSpec P [] 22 [.int .u32 100, .int .i64 50, .int .i64 1] (bxS wA0) := aw0 ▸ f22_spec 100 50 1
theorem wNewU : NSpec P [] 22 [.int .u32 0, .int .i64 100, .int .i64 2] (bxS wU0) := awu0 ▸ f22_spec 0 100 2
theorem wAdd {s s' : SS} {seq : Int} {d : List UInt8} {r : List UInt8 × Int × Int} (B : Int) (h : SInv s B) (hB : B ≤ 1099511627776) (hd : d.length ≤ 1099511627776) (e : addS s seq d = (r, s')) (id : Nat) :
    CSpec P [] 23 [.loc id 0, .int .u32 seq, .str d] (oneU id (bxS s) (some (bxS s'))) (.tup [.str r.1, .int .i64 r.2.1, .int .i64 r.2.2]) := by
  have := f23_spec s B h hB seq d hd id
  rw [e] at this
  exact this
theorem wLost (id : Nat) : CSpec P [] 57 [.loc id 0, .int .u32 105] (oneU id (bxS wB1) (some (bxS wB2))) (.tup [.int .i64 2, .str [99, 100]]) := by
  have := f57_spec wB1 _ wB1_inv (by decide) 105 id
  rw [awb2] at this
  exact this
theorem wEnd (id : Nat) : CSpec P [] 47 [.loc id 0, .int .u32 104] (oneU id (bxS wA2) (some (bxS wA3))) (.bool true) := by
  have := f47_spec wA2 _ wA2_inv (by decide) 104 id
  rw [awe] at this
  exact this
set_option maxRecDepth 16000 in
theorem f32_spec : PSpec P [] 32 [] (.bool true) := by
  refine pspec_intro hT Try.func32 (by decide) rfl rfl (by kernel_rfl) rfl ?_
  refine Tri.seq (Tri.reg hT ?_)
  refine Tri.seq (Tri.reg hT ?_)
  refine .inl (.inr (.inr ⟨_, (by exact fun _ => rfl), wNewA, ?_⟩))
  refine Tri.seq (Tri.reg hT ?_)
  refine .inl (.inr (.inr ⟨_, (by exact fun _ => rfl), wNewA, ?_⟩))
  refine Tri.seq (Tri.reg hT ?_)
  refine .inl (.inr (.inr ⟨_, (by exact fun _ => rfl), wNewU, ?_⟩))
  refine Tri.seq ?_
  refine Tri.seq (Tri.reg hT ?_)
  refine ⟨_, [], trivial, rfl, rfl, fun h => ⟨rfl, rfl, rfl⟩, ?_⟩
  refine ⟨_, [], trivial, rfl, rfl, fun h => ⟨h, rfl, rfl, rfl⟩, ?_⟩
  refine ⟨⟨fun _ => trivial, fun hc => (gn hc)⟩, ?_⟩
  refine ⟨_, [], trivial, rfl, rfl, fun h => ⟨rfl, rfl, rfl⟩, ?_⟩
  refine ⟨_, [], trivial, rfl, rfl, fun h => ⟨h, rfl, rfl, rfl⟩, ?_⟩
  refine ⟨⟨fun _ => trivial, fun hc => (gn hc)⟩, ?_⟩
  refine (Tri.cond ⟨fun h1 => ?_, fun h1 => ?_⟩)
  · exact absurd h1 (by decide)
  · refine (Tri.skip ?_)
    refine Tri.seq (Tri.reg hT ?_)
    refine .inl (.inr (.inl ⟨_, _, (by exact ⟨rfl, trivial⟩), wAdd _ wA0_inv (by decide) (by decide) awa1 _, (by rfl), ?_⟩))
    refine Tri.seq (Tri.reg hT ?_)
    refine .inl (.inr (.inl ⟨_, _, (by exact ⟨rfl, trivial⟩), wAdd _ wA1_inv (by decide) (by decide) awa2 _, (by rfl), ?_⟩))
    refine Tri.seq (Tri.reg hT ?_)
    refine .inl (.inr (.inl ⟨_, _, (by exact ⟨rfl, trivial⟩), wAdd _ wA0_inv (by decide) (by decide) awb1 _, (by rfl), ?_⟩))
    refine Tri.seq (Tri.reg hT ?_)
    refine .inl (.inr (.inl ⟨_, _, (by exact ⟨rfl, trivial⟩), wLost _, (by rfl), ?_⟩))
    refine Tri.seq (Tri.reg hT ?_)
    refine .inl (.inr (.inl ⟨_, _, (by exact ⟨rfl, trivial⟩), wAdd _ wU0_inv (by decide) (by decide) awu1 _, (by rfl), ?_⟩))
    refine Tri.seq (Tri.reg hT ?_)
    refine .inl (.inr (.inl ⟨_, _, (by exact ⟨rfl, trivial⟩), wAdd _ wU1_inv (by decide) (by decide) awu2 _, (by rfl), ?_⟩))
    refine Tri.seq (Tri.reg hT ?_)
    refine .inl (.inr (.inl ⟨_, _, (by exact ⟨rfl, trivial⟩), wAdd _ wU2_inv (by decide) (by decide) awu3 _, (by rfl), ?_⟩))
    refine Tri.seq (Tri.regM hT [19, 20, 32, 33, 37, 38, 41, 42, 45, 46] ?_)
    refine ⟨_, [], trivial, rfl, rfl, fun h => ⟨rfl, rfl, rfl⟩, ?_⟩
    refine ⟨_, [], trivial, rfl, rfl, fun h => ⟨h, rfl, rfl, rfl⟩, ?_⟩
    refine ⟨⟨fun hc => hc, fun _ => trivial⟩, ?_⟩
    refine ⟨_, [], trivial, rfl, rfl, fun h => ⟨rfl, rfl, rfl⟩, ?_⟩
    refine ⟨_, [], trivial, rfl, rfl, fun h => ⟨h, rfl, rfl, rfl⟩, ?_⟩
    refine ⟨⟨fun hc => hc, fun _ => trivial⟩, ?_⟩
    refine ⟨_, [], trivial, rfl, rfl, fun h => ⟨rfl, rfl, rfl⟩, ?_⟩
    refine ⟨_, [], trivial, rfl, rfl, fun h => ⟨h, rfl, rfl, rfl⟩, ?_⟩
    refine ⟨⟨fun hc => hc, fun _ => trivial⟩, ?_⟩
    refine ⟨_, [], trivial, rfl, rfl, fun h => ⟨rfl, rfl, rfl⟩, ?_⟩
    refine ⟨_, [], trivial, rfl, rfl, fun h => ⟨h, rfl, rfl, rfl⟩, ?_⟩
    refine ⟨⟨fun hc => hc, fun _ => trivial⟩, ?_⟩
    refine ⟨_, Le.refl _, .inr ⟨_, rfl, (by kernel_rfl), ?_⟩⟩
    refine ⟨_, Le.refl _, .inr ⟨_, rfl, (by kernel_rfl), ?_⟩⟩
    refine .inl (.inr (.inl ⟨_, _, (by exact ⟨rfl, trivial⟩), f41_spec wB2 _, (by rfl), ?_⟩))
    refine ⟨_, [], trivial, rfl, rfl, fun h => ⟨rfl, rfl, rfl⟩, ?_⟩
    refine ⟨⟨fun hc => hc, fun _ => trivial⟩, ?_⟩
    refine ⟨_, [], trivial, rfl, rfl, fun h => ⟨rfl, rfl, rfl⟩, ?_⟩
    refine ⟨_, [], trivial, rfl, rfl, fun h => ⟨h, rfl, rfl, rfl⟩, ?_⟩
    refine ⟨⟨fun hc => hc, fun _ => trivial⟩, ?_⟩
    refine ⟨_, [], trivial, rfl, rfl, fun h => ⟨rfl, rfl, rfl⟩, ?_⟩
    refine ⟨_, [], trivial, rfl, rfl, fun h => ⟨h, rfl, rfl, rfl⟩, ?_⟩
    refine ⟨⟨fun hc => hc, fun _ => trivial⟩, ?_⟩
    refine ⟨_, Le.refl _, .inr ⟨_, rfl, (by kernel_rfl), ?_⟩⟩
    refine ⟨_, Le.refl _, .inr ⟨_, rfl, (by kernel_rfl), ?_⟩⟩
    refine .inl (.inr (.inl ⟨_, _, (by exact ⟨rfl, trivial⟩), f34_spec wA2 _, (by rfl), ?_⟩))
    refine ⟨_, [], trivial, rfl, rfl, fun h => ⟨rfl, rfl, rfl⟩, ?_⟩
    refine ⟨⟨fun hc => hc, fun _ => trivial⟩, ?_⟩
    refine ⟨_, Le.refl _, .inr ⟨_, rfl, (by kernel_rfl), ?_⟩⟩
    refine ⟨_, Le.refl _, .inr ⟨_, rfl, (by kernel_rfl), ?_⟩⟩
    refine .inl (.inr (.inl ⟨_, _, (by exact ⟨rfl, trivial⟩), wEnd _, (by rfl), ?_⟩))
    refine ⟨⟨fun _ => trivial, fun _ => trivial⟩, ?_⟩
    refine ⟨_, Le.refl _, .inr ⟨_, rfl, (by kernel_rfl), ?_⟩⟩
    refine ⟨_, Le.refl _, .inr ⟨_, rfl, (by kernel_rfl), ?_⟩⟩
    refine .inl (.inr (.inl ⟨_, _, (by exact ⟨rfl, trivial⟩), f45_spec wA3 _, (by rfl), ?_⟩))
    refine ⟨⟨fun _ => trivial, fun _ => trivial⟩, ?_⟩
    refine ⟨_, Le.refl _, .inr ⟨_, rfl, (by kernel_rfl), ?_⟩⟩
    refine ⟨_, Le.refl _, .inr ⟨_, rfl, (by kernel_rfl), ?_⟩⟩
    refine .inl (.inr (.inl ⟨_, _, (by exact ⟨rfl, trivial⟩), f34_spec wA3 _, (by rfl), ?_⟩))
    refine ⟨_, [], trivial, rfl, rfl, fun h => ⟨rfl, rfl, rfl⟩, ?_⟩
    refine ⟨⟨fun hc => hc, fun _ => trivial⟩, ?_⟩
    refine Tri.ret ?_
    exact ⟨rfl, trivial⟩
end Go.Proofs.Ytnleiflijccefaa.Fx
