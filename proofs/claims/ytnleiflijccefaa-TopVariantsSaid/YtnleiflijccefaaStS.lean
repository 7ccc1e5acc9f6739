import Derived.Test.YtnleiflijccefaaOvI
import Derived.Test.YtnleiflijccefaaGSt1
set_option linter.all false
/- Contracts of chapter 20: the program's stream, its small methods. -/
namespace Go.Proofs.Ytnleiflijccefaa.Fx
open Go Go.Fw Go.Ov
abbrev bxS (s : SS) : List AV := [.list pT s.l, .int .i64 s.pos, .int .u32 s.first, .int .i64 s.win, .int .i64 s.pol, .int .i64 s.end_]
theorem f74_spec (a b : Int) : PSpec P [] 74 [.int .u32 a, .int .u32 b] (.int .i64 (sdiff a b)) := by
  refine pspec_intro hT Try.func74 (by decide) rfl rfl (by kernel_rfl) rfl ?_
  refine Tri.seq (Tri.reg hT ?_)
  refine Tri.seq (Tri.reg hT ?_)
  refine Tri.ret ?_
  exact ⟨rfl, trivial⟩
theorem f22_spec (isn win pol : Int) : NSpec P [] 22 [.int .u32 isn, .int .i64 win, .int .i64 pol] (bxS (newS isn win pol)) := by
  refine nspec_intro hT 10 Try.func22 (by decide) rfl rfl (by kernel_rfl) rfl ?_
  refine Tri.seq (Tri.reg hT ?_)
  refine Tri.seq (Tri.reg hT ?_)
  refine Tri.le ⟨17, 0, 11, [(6, .loc 10 0)], [(10, .box (bxS (newS isn win pol)))], []⟩ (Le.weakV rfl rfl rfl rfl ⟨rfl, trivial⟩ ⟨⟨rfl, rfl, rfl, rfl, rfl, rfl, trivial⟩, trivial⟩) ?_
  refine Tri.ret ?_
  exact ⟨rfl, rfl, trivial⟩
theorem f53_spec (s : SS) (seq : Int) (h0 : 0 ≤ s.pos) (h1 : s.pos ≤ 1099511627776) (id : Nat) : CSpec P [] 53 [.loc id 0, .int .u32 seq] (oneU id (bxS s) none) (.int .i64 (offS s seq)) := by
  have hd := sdiff_rng seq (IntKind.u32.wrap (s.first + IntKind.u32.wrap s.pos))
  refine cspec_intro hT Try.func53 (by decide) rfl rfl (by kernel_rfl) rfl (fun _ => rfl) (fun _ => rfl) (fun _ => rfl) (fun _ => rfl) ?_ id
  refine Tri.seq (Tri.reg hT ?_)
  refine Tri.seq (Tri.drw hT hm 19 (by kernel_rfl) ?_)
  refine .inl ⟨_, fun _ => rfl, f74_spec .., ?_⟩
  refine ⟨by kernel_rfl, ?_⟩
  refine Tri.ret ?_
  exact ⟨congrArg (AV.int .i64) (wrapId (by omega)), rfl, trivial⟩
theorem f54_spec (s : SS) (hl : s.l.length ≤ 1099511627776) (hv : Valid s.l) (hs : lenSum s.l ≤ 1099511627776) (h0 : 0 ≤ s.pos) (h1 : s.pos ≤ 1099511627776) (id : Nat) : CSpec P [] 54 [.loc id 0] (oneU id (bxS s) (some (bxS (takeN s)))) (.str (takeF s.l s.pos).1) := by
  have hb := valid_inB hv
  have ht := takeF_len (l := s.l) s.pos
  refine cspec_intro hT Try.func54 (by decide) rfl rfl (by kernel_rfl) rfl (fun _ => rfl) (fun _ => rfl) (fun _ => rfl) (fun _ => rfl) ?_ id
  refine Tri.seq (Tri.reg hT ?_)
  refine Tri.seq (Tri.drw hT hm 13 (by kernel_rfl) ?_)
  refine .inl ⟨_, fun _ => rfl, f36_spec s.l s.pos hl hb hs, ?_⟩
  refine ⟨by kernel_rfl, ?_⟩
  refine Tri.seq (Tri.reg hT ?_)
  refine Tri.seq (Tri.reg hT ?_)
  refine Tri.seq (Tri.reg hT ?_)
  refine Tri.ret ?_
  exact ⟨rfl, congrArg (fun z : Int => some (Chunk.box [.list pT (cutL s.l (takeF s.l s.pos).2), .int .i64 z, .int .u32 s.first, .int .i64 s.win, .int .i64 s.pol, .int .i64 s.end_])) (wrapId (by omega)), trivial⟩
theorem f45_spec (s : SS) (id : Nat) : CSpec P [] 45 [.loc id 0] (oneU id (bxS s) none) (.bool (endedS s)) := by
  refine cspec_intro hT Try.func45 (by decide) rfl rfl (by kernel_rfl) rfl (fun _ => rfl) (fun _ => rfl) (fun _ => rfl) (fun _ => rfl) ?_ id
  refine Tri.seq (Tri.reg hT ?_)
  refine Tri.seq (Tri.drw hT hm 14 (by kernel_rfl) ?_)
  refine ⟨_, [], trivial, rfl, rfl, fun h => ⟨rfl, rfl, rfl⟩, ?_⟩
  refine ⟨_, [], trivial, rfl, rfl, fun h => ⟨h, rfl, rfl, rfl⟩, ?_⟩
  refine ⟨_, [], trivial, rfl, rfl, fun h => ⟨h, rfl, rfl, rfl⟩, ?_⟩
  refine ⟨_, [], trivial, rfl, rfl, fun h => ⟨h, rfl, rfl, rfl⟩, ?_⟩
  refine ⟨_, [], trivial, rfl, rfl, fun h => ⟨rfl, rfl, rfl⟩, ?_⟩
  refine ⟨_, [], trivial, rfl, rfl, fun h => ⟨h, rfl, rfl, rfl⟩, ?_⟩
  refine ⟨_, [], trivial, rfl, rfl, fun h => ⟨h, rfl, rfl, rfl⟩, ?_⟩
  refine ⟨_, [], trivial, rfl, rfl, fun h => ⟨h, rfl, rfl, rfl⟩, ?_⟩
  refine ⟨_, [], trivial, rfl, rfl, fun h => ⟨h, rfl, rfl, rfl⟩, ?_⟩
  refine ⟨_, [], trivial, rfl, rfl, fun h => ⟨h, h, rfl, rfl, rfl⟩, ?_⟩
  refine ⟨⟨fun hc => hc, fun _ => trivial⟩, ?_⟩
  refine ⟨by kernel_rfl, ?_⟩
  refine Tri.ret ?_
  exact ⟨rfl, rfl, trivial⟩
theorem f34_spec (s : SS) (id : Nat) : CSpec P [] 34 [.loc id 0] (oneU id (bxS s) none) (.int .u32 (nextS s)) := by
  refine cspec_intro hT Try.func34 (by decide) rfl rfl (by kernel_rfl) rfl (fun _ => rfl) (fun _ => rfl) (fun _ => rfl) (fun _ => rfl) ?_ id
  refine Tri.seq (Tri.reg hT ?_)
  refine Tri.seq ?_
  refine Tri.seq (Tri.reg hT ?_)
  refine (Tri.cond ⟨fun h1 => ?_, fun h1 => ?_⟩)
  · cases h1
  · refine (Tri.skip ?_)
    refine Tri.seq (Tri.drw hT hm 11 (by kernel_rfl) ?_)
    refine ⟨by kernel_rfl, ?_⟩
    refine Tri.seq ?_
    refine Tri.seq (Tri.reg hT ?_)
    refine .inl (.inr (.inl ⟨_, _, (by exact ⟨rfl, trivial⟩), f45_spec s _, (by rfl), ?_⟩))
    refine (Tri.cond ⟨fun h2 => ?_, fun h2 => ?_⟩)
    · refine (Tri.reg hT ?_)
      refine Tri.seq (Tri.reg hT ?_)
      refine Tri.ret ?_
      exact ⟨congrArg (AV.int .u32) (if_pos h2).symm, rfl, trivial⟩
    · refine (Tri.skip ?_)
      refine Tri.seq (Tri.reg hT ?_)
      refine Tri.ret ?_
      exact ⟨congrArg (AV.int .u32) (if_neg (by rw [show endedS s = false from h2]; simp)).symm, rfl, trivial⟩
theorem f41_spec (s : SS) (id : Nat) : CSpec P [] 41 [.loc id 0] (oneU id (bxS s) none) (.int .i64 s.pos) := by
  refine cspec_intro hT Try.func41 (by decide) rfl rfl (by kernel_rfl) rfl (fun _ => rfl) (fun _ => rfl) (fun _ => rfl) (fun _ => rfl) ?_ id
  refine Tri.seq (Tri.reg hT ?_)
  refine Tri.seq ?_
  refine Tri.seq (Tri.reg hT ?_)
  refine (Tri.cond ⟨fun h1 => ?_, fun h1 => ?_⟩)
  · cases h1
  · refine (Tri.skip ?_)
    refine Tri.seq (Tri.reg hT ?_)
    refine Tri.ret ?_
    exact ⟨rfl, rfl, trivial⟩
theorem f68_spec (s : SS) (hl : s.l.length ≤ 1099511627776) (hs : lenSum s.l ≤ 1099511627776) (id : Nat) : CSpec P [] 68 [.loc id 0] (oneU id (bxS s) none) (.int .i64 (lenSum s.l)) := by
  refine cspec_intro hT Try.func68 (by decide) rfl rfl (by kernel_rfl) rfl (fun _ => rfl) (fun _ => rfl) (fun _ => rfl) (fun _ => rfl) ?_ id
  refine Tri.seq (Tri.reg hT ?_)
  refine Tri.seq (Tri.reg hT ?_)
  refine .inl (.inl ⟨_, fun _ => rfl, f77_spec s.l hl (by omega), ?_⟩)
  refine Tri.ret ?_
  exact ⟨rfl, rfl, trivial⟩
theorem f43_spec (s : SS) (hl : s.l.length ≤ 1099511627776) (hs : lenSum s.l ≤ 1099511627776) (id : Nat) : CSpec P [] 43 [.loc id 0] (oneU id (bxS s) none) (.int .i64 (lenSum s.l)) := by
  refine cspec_intro hT Try.func43 (by decide) rfl rfl (by kernel_rfl) rfl (fun _ => rfl) (fun _ => rfl) (fun _ => rfl) (fun _ => rfl) ?_ id
  refine Tri.seq (Tri.reg hT ?_)
  refine Tri.seq ?_
  refine Tri.seq (Tri.reg hT ?_)
  refine (Tri.cond ⟨fun h1 => ?_, fun h1 => ?_⟩)
  · cases h1
  · refine (Tri.skip ?_)
    refine Tri.seq (Tri.reg hT ?_)
    refine .inl (.inr (.inl ⟨_, _, (by exact ⟨rfl, trivial⟩), f68_spec s hl hs _, (by rfl), ?_⟩))
    refine Tri.ret ?_
    exact ⟨rfl, rfl, trivial⟩
end Go.Proofs.Ytnleiflijccefaa.Fx
