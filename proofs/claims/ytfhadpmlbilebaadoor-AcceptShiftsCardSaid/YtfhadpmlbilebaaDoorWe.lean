/- The walk of AcceptCounts. -/
import Derived.Test.YtfhadpmlbilebaaDoorWd
set_option linter.all false
namespace Go.Proofs.YtfhadpmlbilebaaDoor.Fx
open Go Go.Fw

def mt (s nx : Int) (i k : Nat) : Bool := decide (IntKind.u32.wrap (s + IntKind.u32.wrap i) = IntKind.u32.wrap (nx + IntKind.u32.wrap k))
def rnd (s nx : Int) (i k : Nat) : Bool := (List.range k).any fun k' => mt s nx i k'
def rnds (s nx : Int) (w i : Nat) : Bool := (List.range i).any fun i' => rnd s nx i' w
theorem rnd_succ (s nx : Int) (i k : Nat) : rnd s nx i (k + 1) = (rnd s nx i k || mt s nx i k) := by simp [rnd, List.range_succ]
theorem rnds_succ (s nx : Int) (w i : Nat) : rnds s nx w (i + 1) = (rnds s nx w i || rnd s nx i w) := by simp [rnds, List.range_succ]
theorem tmod51 (z : Nat) (hz : z < 256) : (IntKind.i64.wrap (z : Int)).tmod 51 = ((z % 51 : Nat) : Int) := by
  rw [wrapId (by omega)]
  rfl

theorem f6_spec (s nx : Int) (z0 z1 : Nat) (g0 : z0 < 256) (g1 : z1 < 256)
    (h : within s ((z0 % 51 : Nat) : Int) nx ((z1 % 51 : Nat) : Int) = ((decide (z0 % 51 = 0) && decide (s = nx)) || rnds s nx (z1 % 51) (max (z0 % 51) 1))) :
    PSpec P G 6 [.int .u32 s, .agg [.int .u8 (z0 : Int), .int .u8 (z1 : Int)], .int .u32 nx] (.bool true) := by
  refine pspec_intro hT Tryd.func6 (by decide) rfl rfl (by kernel_rfl) rfl ?_
  refine Tri.seq (Tri.reg hT ?_)
  refine Tri.seq (Tri.drw hT hm 9 (by kernel_rfl) ?_)
  refine ⟨by decide, ?_⟩
  refine ⟨(by decide), ?_⟩
  refine ⟨by decide, ?_⟩
  refine ⟨(by decide), ?_⟩
  refine ⟨by kernel_rfl, ?_⟩
  refine Tri.seq (Tri.reg hT ?_)
  refine ⟨_, [], trivial, rfl, rfl, fun h => ⟨rfl, rfl, rfl⟩, ?_⟩
  refine ⟨_, [], trivial, rfl, rfl, fun h => ⟨rfl, rfl, rfl⟩, ?_⟩
  refine ⟨_, [], trivial, rfl, rfl, fun h => ⟨h, h, rfl, rfl, rfl⟩, ?_⟩
  refine ⟨⟨fun hc => hc, fun _ => trivial⟩, ?_⟩
  refine Tri.seq ?_
  refine Tri.seq (Tri.reg hT ?_)
  refine (Tri.block ?_)
  refine (Tri.loop (ι := Nat) (fun i => ⟨61, 0, 0, [(0, .int .u32 s), (2, .int .u32 nx), (7, .int .i64 ((z0 % 51 : Nat) : Int)), (8, .int .i64 ((z1 % 51 : Nat) : Int)), (9, .bool ((decide (z0 % 51 = 0) && decide (s = nx)) || rnds s nx (z1 % 51) i)), (10, .int .i64 (i : Int))], [], G⟩) (fun i => i ≤ max (z0 % 51) 1) (fun i => max (z0 % 51) 1 - i) (0) ?_ ?_ ?_)
  · omega
  · exact Le.weak rfl rfl rfl rfl ⟨rfl, rfl, congrArg (AV.int .i64) (tmod51 z0 g0), congrArg (AV.int .i64) (tmod51 z1 g1), congrArg AV.bool (by simp only [Bool.if_false_right, Bool.decide_eq_true]; rw [tmod51 z0 g0]; simp only [rnds, List.range_zero, List.any_nil, Bool.or_false]; congr 1; exact decide_eq_decide.2 (by omega)), rfl, trivial⟩ trivial
  · intro i hi
    refine Tri.seq ?_
    refine Tri.seq (Tri.reg hT ?_)
    refine ⟨_, [], trivial, rfl, rfl, fun h => ⟨rfl, rfl, rfl⟩, ?_⟩
    refine ⟨_, [], trivial, rfl, rfl, fun h => ⟨h, rfl, rfl, rfl⟩, ?_⟩
    refine ⟨⟨fun _ => trivial, fun hc => (gn hc)⟩, ?_⟩
    refine (Tri.cond ⟨fun h1 => ?_, fun h1 => ?_⟩)
    · refine (Tri.skip ?_)
      refine Tri.seq (Tri.block ?_)
      refine Tri.seq (Tri.reg hT ?_)
      refine (Tri.block ?_)
      refine (Tri.loop (ι := Nat) (fun k => ⟨61, 0, 0, [(0, .int .u32 s), (2, .int .u32 nx), (7, .int .i64 ((z0 % 51 : Nat) : Int)), (8, .int .i64 ((z1 % 51 : Nat) : Int)), (9, .bool (((decide (z0 % 51 = 0) && decide (s = nx)) || rnds s nx (z1 % 51) i) || rnd s nx i k)), (10, .int .i64 (i : Int)), (11, .int .i64 (k : Int))], [], G⟩) (fun k => k ≤ z1 % 51) (fun k => z1 % 51 - k) (0) ?_ ?_ ?_)
      · omega
      · exact Le.weak rfl rfl rfl rfl ⟨rfl, rfl, rfl, rfl, congrArg AV.bool (by simp [rnd]), rfl, rfl, trivial⟩ trivial
      · intro k hk
        refine Tri.seq ?_
        refine Tri.seq (Tri.reg hT ?_)
        refine (Tri.cond ⟨fun h2 => ?_, fun h2 => ?_⟩)
        · refine (Tri.skip ?_)
          refine Tri.seq (Tri.block ?_)
          refine Tri.seq (Tri.reg hT ?_)
          refine (Tri.cond ⟨fun h3 => ?_, fun h3 => ?_⟩)
          · refine (Tri.reg hT ?_)
            refine (Tri.reg hT ?_)
            have h2' := of_decide_eq_true h2; exact ⟨k + 1, by omega, by omega, Le.weak rfl rfl rfl rfl ⟨rfl, rfl, rfl, rfl, congrArg AV.bool (by rw [rnd_succ, mt, h3]; simp), rfl, iv1 (by omega), trivial⟩ trivial⟩
          · refine (Tri.skip ?_)
            refine (Tri.reg hT ?_)
            have h2' := of_decide_eq_true h2; exact ⟨k + 1, by omega, by omega, Le.weak rfl rfl rfl rfl ⟨rfl, rfl, rfl, rfl, congrArg AV.bool (by rw [rnd_succ, mt, h3]; simp), rfl, iv1 (by omega), trivial⟩ trivial⟩
        · refine Tri.exit ?_
          refine (Tri.reg hT ?_)
          have h2' := of_decide_eq_false h2; obtain rfl : k = z1 % 51 := (by omega); have hi' : i < max (z0 % 51) 1 := (by simp only [Bool.if_true_left, Bool.decide_eq_true, Bool.or_eq_true, decide_eq_true_eq] at h1; omega); exact ⟨i + 1, by omega, by omega, Le.weak rfl rfl rfl rfl ⟨rfl, rfl, rfl, rfl, congrArg AV.bool (by rw [rnds_succ, Bool.or_assoc]), iv1 (by omega), trivial⟩ trivial⟩
    · refine Tri.exit ?_
      refine Tri.seq (Tri.reg hT ?_)
      refine .inl (.inl ⟨_, fun _ => rfl, f16_spec .., ?_⟩)
      refine ⟨_, [], trivial, rfl, rfl, fun h => (.inl ⟨_, fun _ => rfl, f12_spec .., rfl, rfl, rfl⟩), ?_⟩
      refine ⟨⟨fun hc => hc, fun _ => trivial⟩, ?_⟩
      refine Tri.ret ?_
      simp only [Bool.if_true_left, Bool.decide_eq_true, Bool.or_eq_false_iff, decide_eq_false_iff_not] at h1; obtain rfl : i = max (z0 % 51) 1 := (by omega); exact ⟨congrArg AV.bool (by simp only [h, decide_true, if_true, Bool.if_false_right, Bool.decide_eq_true, Bool.and_true]), trivial⟩
end Go.Proofs.YtfhadpmlbilebaaDoor.Fx
