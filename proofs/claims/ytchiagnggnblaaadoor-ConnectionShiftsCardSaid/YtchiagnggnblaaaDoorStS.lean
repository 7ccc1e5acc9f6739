import Derived.Test.YtchiagnggnblaaaDoorOvI
import Derived.Test.YtchiagnggnblaaaDoorGSt1
set_option linter.all false
/- Contracts of chapter 20: the program's stream, its small methods. -/
namespace Go.Proofs.YtchiagnggnblaaaDoor.Fx
open Go Go.Fw Go.Ov
abbrev bxS (s : SS) : List AV := [.list pT s.l, .int .i64 s.pos, .int .u32 s.first, .int .i64 s.win, .int .i64 s.pol, .int .i64 s.end_]
theorem f48_spec (a b : Int) : PSpec P [] 48 [.int .u32 a, .int .u32 b] (.int .i64 (sdiff a b)) := by
  refine pspec_intro hT Tryd.func48 (by decide) rfl rfl (by kernel_rfl) rfl ?_
  refine Tri.seq (Tri.reg hT ?_)
  refine Tri.seq (Tri.reg hT ?_)
  refine Tri.ret ?_
  exact ⟨rfl, trivial⟩
theorem f32_spec (isn win pol : Int) : NSpec P [] 32 [.int .u32 isn, .int .i64 win, .int .i64 pol] (bxS (newS isn win pol)) := by
  refine nspec_intro hT 10 Tryd.func32 (by decide) rfl rfl (by kernel_rfl) rfl ?_
  refine Tri.seq (Tri.reg hT ?_)
  refine Tri.seq (Tri.reg hT ?_)
  refine Tri.le ⟨17, 0, 11, [(6, .loc 10 0)], [(10, .box (bxS (newS isn win pol)))], []⟩ (Le.weakV rfl rfl rfl rfl ⟨rfl, trivial⟩ ⟨⟨rfl, rfl, rfl, rfl, rfl, rfl, trivial⟩, trivial⟩) ?_
  refine Tri.ret ?_
  exact ⟨rfl, rfl, trivial⟩
theorem f49_spec (s : SS) (seq : Int) (h0 : 0 ≤ s.pos) (h1 : s.pos ≤ 1099511627776) (id : Nat) : CSpec P [] 49 [.loc id 0, .int .u32 seq] (oneU id (bxS s) none) (.int .i64 (offS s seq)) := by
  have hd := sdiff_rng seq (IntKind.u32.wrap (s.first + IntKind.u32.wrap s.pos))
  refine cspec_intro hT Tryd.func49 (by decide) rfl rfl (by kernel_rfl) rfl (fun _ => rfl) (fun _ => rfl) (fun _ => rfl) (fun _ => rfl) ?_ id
  refine Tri.seq (Tri.reg hT ?_)
  refine Tri.seq (Tri.drw hT hm 19 (by kernel_rfl) ?_)
  refine .inl ⟨_, fun _ => rfl, f48_spec .., ?_⟩
  refine ⟨by kernel_rfl, ?_⟩
  refine Tri.ret ?_
  exact ⟨congrArg (AV.int .i64) (wrapId (by omega)), rfl, trivial⟩
theorem f51_spec (s : SS) (hl : s.l.length ≤ 1099511627776) (hv : Valid s.l) (hs : lenSum s.l ≤ 1099511627776) (h0 : 0 ≤ s.pos) (h1 : s.pos ≤ 1099511627776) (id : Nat) : CSpec P [] 51 [.loc id 0] (oneU id (bxS s) (some (bxS (takeN s)))) (.str (takeF s.l s.pos).1) := by
  have hb := valid_inB hv
  have ht := takeF_len (l := s.l) s.pos
  refine cspec_intro hT Tryd.func51 (by decide) rfl rfl (by kernel_rfl) rfl (fun _ => rfl) (fun _ => rfl) (fun _ => rfl) (fun _ => rfl) ?_ id
  refine Tri.seq (Tri.reg hT ?_)
  refine Tri.seq (Tri.drw hT hm 13 (by kernel_rfl) ?_)
  refine .inl ⟨_, fun _ => rfl, f61_spec s.l s.pos hl hb hs, ?_⟩
  refine ⟨by kernel_rfl, ?_⟩
  refine Tri.seq (Tri.reg hT ?_)
  refine Tri.seq (Tri.reg hT ?_)
  refine Tri.seq (Tri.reg hT ?_)
  refine Tri.ret ?_
  exact ⟨rfl, congrArg (fun z : Int => some (Chunk.box [.list pT (cutL s.l (takeF s.l s.pos).2), .int .i64 z, .int .u32 s.first, .int .i64 s.win, .int .i64 s.pol, .int .i64 s.end_])) (wrapId (by omega)), trivial⟩
theorem f41_spec (s : SS) (id : Nat) : CSpec P [] 41 [.loc id 0] (oneU id (bxS s) none) (.bool (endedS s)) := by
  refine cspec_intro hT Tryd.func41 (by decide) rfl rfl (by kernel_rfl) rfl (fun _ => rfl) (fun _ => rfl) (fun _ => rfl) (fun _ => rfl) ?_ id
  refine Tri.seq (Tri.reg hT ?_)
  refine Tri.seq (Tri.drw hT hm 14 (by kernel_rfl) ?_)
  refine ⟨_, [], trivial, rfl, rfl, fun h => ⟨rfl, rfl, rfl⟩, ?_⟩
  refine ⟨_, [], trivial, rfl, rfl, fun h => ⟨h, rfl, rfl, rfl⟩, ?_⟩
  refine ⟨_, [], trivial, rfl, rfl, fun h => ⟨h, rfl, rfl, rfl⟩, ?_⟩
  refine ⟨_, [], trivial, rfl, rfl, fun h => ⟨h, rfl, rfl, rfl⟩, ?_⟩
  refine ⟨_, [], trivial, rfl, rfl, fun h => ⟨rfl, rfl, rfl⟩, ?_⟩
  refine ⟨_, [], trivial, rfl, rfl, fun h => ⟨h, rfl, rfl, rfl⟩, ?_⟩
  refine ⟨_, [], trivial, rfl, rfl, fun h => ⟨h, rfl, rfl, rfl⟩, ?_⟩
  refine ⟨_, [], trivial, rfl, rfl, fun h => ⟨h, rfl, rfl, rfl⟩, ?_⟩
  refine ⟨_, [], trivial, rfl, rfl, fun h => ⟨h, rfl, rfl, rfl⟩, ?_⟩
  refine ⟨_, [], trivial, rfl, rfl, fun h => ⟨h, h, rfl, rfl, rfl⟩, ?_⟩
  refine ⟨⟨fun hc => hc, fun _ => trivial⟩, ?_⟩
  refine ⟨by kernel_rfl, ?_⟩
  refine Tri.ret ?_
  exact ⟨rfl, rfl, trivial⟩
theorem f35_spec (s : SS) (id : Nat) : CSpec P [] 35 [.loc id 0] (oneU id (bxS s) none) (.int .u32 (nextS s)) := by
  refine cspec_intro hT Tryd.func35 (by decide) rfl rfl (by kernel_rfl) rfl (fun _ => rfl) (fun _ => rfl) (fun _ => rfl) (fun _ => rfl) ?_ id
  refine Tri.seq (Tri.reg hT ?_)
  refine Tri.seq ?_
  refine Tri.seq (Tri.reg hT ?_)
  refine (Tri.cond ⟨fun h1 => ?_, fun h1 => ?_⟩)
  · cases h1
  · refine (Tri.skip ?_)
    refine Tri.seq (Tri.drw hT hm 11 (by kernel_rfl) ?_)
    refine ⟨by kernel_rfl, ?_⟩
    refine Tri.seq ?_
    refine Tri.seq (Tri.reg hT ?_)
    refine .inl (.inr (.inl ⟨_, _, (by exact ⟨rfl, trivial⟩), f41_spec s _, (by rfl), ?_⟩))
    refine (Tri.cond ⟨fun h2 => ?_, fun h2 => ?_⟩)
    · refine (Tri.reg hT ?_)
      refine Tri.seq (Tri.reg hT ?_)
      refine Tri.ret ?_
      exact ⟨congrArg (AV.int .u32) (if_pos h2).symm, rfl, trivial⟩
    · refine (Tri.skip ?_)
      refine Tri.seq (Tri.reg hT ?_)
      refine Tri.ret ?_
      exact ⟨congrArg (AV.int .u32) (if_neg (by rw [show endedS s = false from h2]; simp)).symm, rfl, trivial⟩
theorem f25_spec (s : SS) (id : Nat) : CSpec P [] 25 [.loc id 0] (oneU id (bxS s) none) (.int .i64 s.pos) := by
  refine cspec_intro hT Tryd.func25 (by decide) rfl rfl (by kernel_rfl) rfl (fun _ => rfl) (fun _ => rfl) (fun _ => rfl) (fun _ => rfl) ?_ id
  refine Tri.seq (Tri.reg hT ?_)
  refine Tri.seq ?_
  refine Tri.seq (Tri.reg hT ?_)
  refine (Tri.cond ⟨fun h1 => ?_, fun h1 => ?_⟩)
  · cases h1
  · refine (Tri.skip ?_)
    refine Tri.seq (Tri.reg hT ?_)
    refine Tri.ret ?_
    exact ⟨rfl, rfl, trivial⟩
theorem f33_spec (s : SS) (hl : s.l.length ≤ 1099511627776) (hs : lenSum s.l ≤ 1099511627776) (id : Nat) : CSpec P [] 33 [.loc id 0] (oneU id (bxS s) none) (.int .i64 (lenSum s.l)) := by
  refine cspec_intro hT Tryd.func33 (by decide) rfl rfl (by kernel_rfl) rfl (fun _ => rfl) (fun _ => rfl) (fun _ => rfl) (fun _ => rfl) ?_ id
  refine Tri.seq (Tri.reg hT ?_)
  refine Tri.seq (Tri.reg hT ?_)
  refine .inl (.inl ⟨_, fun _ => rfl, f47_spec s.l hl (by omega), ?_⟩)
  refine Tri.ret ?_
  exact ⟨rfl, rfl, trivial⟩
theorem f26_spec (s : SS) (hl : s.l.length ≤ 1099511627776) (hs : lenSum s.l ≤ 1099511627776) (id : Nat) : CSpec P [] 26 [.loc id 0] (oneU id (bxS s) none) (.int .i64 (lenSum s.l)) := by
  refine cspec_intro hT Tryd.func26 (by decide) rfl rfl (by kernel_rfl) rfl (fun _ => rfl) (fun _ => rfl) (fun _ => rfl) (fun _ => rfl) ?_ id
  refine Tri.seq (Tri.reg hT ?_)
  refine Tri.seq ?_
  refine Tri.seq (Tri.reg hT ?_)
  refine (Tri.cond ⟨fun h1 => ?_, fun h1 => ?_⟩)
  · cases h1
  · refine (Tri.skip ?_)
    refine Tri.seq (Tri.reg hT ?_)
    refine .inl (.inr (.inl ⟨_, _, (by exact ⟨rfl, trivial⟩), f33_spec s hl hs _, (by rfl), ?_⟩))
    refine Tri.ret ?_
    exact ⟨rfl, rfl, trivial⟩
end Go.Proofs.YtchiagnggnblaaaDoor.Fx
