/- Contracts of chapter 19, continued: the example that each statement asks. -/
import Derived.Test.YtfhadpmlbilebaaDoorWc
set_option linter.all false
namespace Go.Proofs.YtfhadpmlbilebaaDoor.Fx
open Go Go.Fw

theorem f12_spec : PSpec P G 12 [] (.bool true) := by
  refine pspec_intro hT Tryd.func12 (by decide) rfl rfl (by kernel_rfl) rfl ?_
  refine Tri.seq (Tri.reg hT ?_)
  refine Tri.seq (Tri.reg hT ?_)
  refine Tri.seq (Tri.reg hT ?_)
  refine Tri.seq (Tri.reg hT ?_)
  refine Tri.seq (Tri.reg hT ?_)
  refine .inl (.inl ⟨_, fun _ => rfl, (f14_spec 0 0 109 50 16 0 0 [] [120, 121] true 100 50 10 false 0 [] false 0 0 0 0 0 0 0 false 0 [] (by decide)).le ⟨⟨rfl, rfl, rfl, rfl, rfl, rfl, rfl, rfl, rfl, trivial⟩, ⟨rfl, rfl, rfl, rfl, rfl, rfl, trivial⟩, ⟨rfl, rfl, rfl, rfl, rfl, rfl, rfl, rfl, rfl, rfl, rfl, rfl, trivial⟩, trivial⟩, ?_⟩)
  refine ⟨_, [], trivial, rfl, rfl, fun h => ⟨rfl, rfl, rfl⟩, ?_⟩
  refine ⟨_, [], trivial, rfl, rfl, fun h => ⟨rfl, rfl, rfl⟩, ?_⟩
  refine ⟨_, [], trivial, rfl, rfl, fun h => ⟨rfl, rfl, rfl⟩, ?_⟩
  refine ⟨_, [], trivial, rfl, rfl, fun h => ⟨h, h, h, (.inl ⟨_, fun _ => rfl, (f14_spec 0 0 110 50 16 0 0 [] [120, 121] true 100 50 10 false 0 [] false 0 0 0 0 0 0 0 false 0 [] (by decide)).le ⟨⟨rfl, rfl, rfl, rfl, rfl, rfl, rfl, rfl, rfl, trivial⟩, ⟨rfl, rfl, rfl, rfl, rfl, rfl, trivial⟩, ⟨rfl, rfl, rfl, rfl, rfl, rfl, rfl, rfl, rfl, rfl, rfl, rfl, trivial⟩, trivial⟩, rfl, rfl, rfl⟩)⟩, ?_⟩
  refine ⟨_, [], trivial, rfl, rfl, fun h => ⟨h, rfl, rfl, rfl⟩, ?_⟩
  refine ⟨⟨fun hc => hc, fun _ => trivial⟩, ?_⟩
  refine ⟨_, [], trivial, rfl, rfl, fun h => (.inl ⟨_, fun _ => rfl, f8_spec .., rfl, rfl, rfl⟩), ?_⟩
  refine ⟨_, [], trivial, rfl, rfl, fun h => ⟨h, rfl, rfl, rfl⟩, ?_⟩
  refine ⟨⟨fun hc => hc, fun _ => trivial⟩, ?_⟩
  refine ⟨_, [], trivial, rfl, rfl, fun h => (.inl ⟨_, fun _ => rfl, f8_spec .., rfl, rfl, rfl⟩), ?_⟩
  refine ⟨⟨fun hc => hc, fun _ => trivial⟩, ?_⟩
  refine ⟨_, [], trivial, rfl, rfl, fun h => ⟨rfl, rfl, rfl⟩, ?_⟩
  refine ⟨_, [], trivial, rfl, rfl, fun h => ⟨h, (.inl ⟨_, fun _ => rfl, (f10_spec 3 false [] false 0 0 0 0 0 4 0 false 0 []).le ⟨rfl, rfl, ⟨rfl, rfl, rfl, rfl, rfl, rfl, rfl, rfl, rfl, rfl, rfl, rfl, trivial⟩, trivial⟩, rfl, rfl, rfl⟩)⟩, ?_⟩
  refine ⟨_, [], trivial, rfl, rfl, fun h => ⟨h, rfl, rfl, rfl⟩, ?_⟩
  refine ⟨⟨fun hc => hc, fun _ => trivial⟩, ?_⟩
  refine ⟨_, [], trivial, rfl, rfl, fun h => ⟨rfl, rfl, rfl⟩, ?_⟩
  refine ⟨_, [], trivial, rfl, rfl, fun h => ⟨h, (.inl ⟨_, fun _ => rfl, f16_spec .., rfl, rfl, rfl⟩)⟩, ?_⟩
  refine ⟨⟨fun hc => hc, fun _ => trivial⟩, ?_⟩
  refine Tri.ret ?_
  exact ⟨congrArg AV.bool (by kernel_rfl), trivial⟩
theorem f5_spec (s n : Int) (op : Bool) (nx sn w : Int) (st : Bool) (stamp : Int) (h : within s n nx w = withinR s n nx w) : PSpec P G 5 [.int .u32 s, .int .i64 n, viewV op nx sn w st stamp] (.bool true) := by
  refine pspec_intro hT Tryd.func5 (by decide) rfl rfl (by kernel_rfl) rfl ?_
  refine Tri.seq (Tri.reg hT ?_)
  refine Tri.seq (Tri.drw hT hm 12 (by kernel_rfl) ?_)
  refine .inl ⟨_, fun _ => rfl, f16_spec .., ?_⟩
  refine .inl ⟨_, fun _ => rfl, f17_spec .., ?_⟩
  refine ⟨_, [], trivial, rfl, rfl, fun h => (.inl ⟨_, fun _ => rfl, f12_spec .., rfl, rfl, rfl⟩), ?_⟩
  refine ⟨⟨fun hc => hc, fun _ => trivial⟩, ?_⟩
  refine ⟨by kernel_rfl, ?_⟩
  refine Tri.ret ?_
  exact ⟨congrArg AV.bool (by simp [h]), trivial⟩
theorem f3_spec (f t : Int) (r : Bool) (nm : List UInt8) (v6 : Bool) (hi lo ln pol frag hops win : Int) (stamps : Bool) (val : Int) (sv : List svcT.D) (h : flags f = flagsR f) :
    PSpec P G 3 [.agg [.int .i64 f, .int .i64 t, .bool r], assetV nm v6 hi lo ln pol frag hops win stamps val sv] (.bool true) := by
  refine pspec_intro hT Tryd.func3 (by decide) rfl rfl (by kernel_rfl) rfl ?_
  refine Tri.seq (Tri.reg hT ?_)
  refine Tri.seq (Tri.drw hT hm 25 (by kernel_rfl) ?_)
  refine .inl ⟨_, fun _ => rfl, f8_spec .., ?_⟩
  refine .inl ⟨_, fun _ => rfl, f9_spec .., ?_⟩
  refine ⟨_, [], trivial, rfl, rfl, fun h => ⟨rfl, rfl, rfl⟩, ?_⟩
  refine ⟨_, [], trivial, rfl, rfl, fun h => ⟨h, rfl, rfl, rfl⟩, ?_⟩
  refine ⟨_, [], trivial, rfl, rfl, fun h => ⟨rfl, rfl, rfl⟩, ?_⟩
  refine ⟨_, [], trivial, rfl, rfl, fun h => ⟨h, rfl, rfl, rfl⟩, ?_⟩
  refine ⟨_, [], trivial, rfl, rfl, fun h => ⟨rfl, rfl, rfl⟩, ?_⟩
  refine ⟨_, [], trivial, rfl, rfl, fun h => ⟨h, h, h, (.inl ⟨_, fun _ => rfl, f10_spec .., rfl, rfl, rfl⟩)⟩, ?_⟩
  refine ⟨_, [], trivial, rfl, rfl, fun h => ⟨rfl, rfl, rfl⟩, ?_⟩
  refine ⟨_, [], trivial, rfl, rfl, fun h => ⟨h, rfl, rfl, rfl⟩, ?_⟩
  refine ⟨_, [], trivial, rfl, rfl, fun h => ⟨rfl, rfl, rfl⟩, ?_⟩
  refine ⟨_, [], trivial, rfl, rfl, fun h => ⟨h, rfl, rfl, rfl⟩, ?_⟩
  refine ⟨_, [], trivial, rfl, rfl, fun h => ⟨rfl, rfl, rfl⟩, ?_⟩
  refine ⟨_, [], trivial, rfl, rfl, fun h => ⟨h, h, h, (.inl ⟨_, fun _ => rfl, f11_spec .., rfl, rfl, rfl⟩)⟩, ?_⟩
  refine ⟨_, [], trivial, rfl, rfl, fun h => ⟨h, h, rfl, rfl, rfl⟩, ?_⟩
  refine ⟨⟨fun hc => hc, fun _ => trivial⟩, ?_⟩
  refine ⟨_, [], trivial, rfl, rfl, fun h => (.inl ⟨_, fun _ => rfl, f12_spec .., rfl, rfl, rfl⟩), ?_⟩
  refine ⟨⟨fun hc => hc, fun _ => trivial⟩, ?_⟩
  refine ⟨by kernel_rfl, ?_⟩
  refine Tri.ret ?_
  exact ⟨congrArg AV.bool (by simp [h]), trivial⟩
theorem f4_spec (a b s k f w' u : Int) (o : List optT.D) (p : List UInt8) (op : Bool) (nx sn w : Int) (st : Bool) (stamp : Int)
    (nm : List UInt8) (v6 : Bool) (hi lo ln pol frag hops win : Int) (stamps : Bool) (val : Int) (sv : List svcT.D) (ho : o.length < 9223372036854775807)
    (h : longR o p = false → segA s k f o p.length op nx sn w st stamp stamps = segR s k f o p.length op nx sn w st stamp stamps) :
    PSpec P G 4 [tcpV a b s k f w' u o p, viewV op nx sn w st stamp, assetV nm v6 hi lo ln pol frag hops win stamps val sv] (.bool true) := by
  refine pspec_intro hT Tryd.func4 (by decide) rfl rfl (by kernel_rfl) rfl ?_
  refine Tri.seq (Tri.reg hT ?_)
  refine Tri.seq ?_
  refine Tri.seq (Tri.reg hT ?_)
  refine .inl (.inl ⟨_, fun _ => rfl, f13_spec .., ?_⟩)
  refine (Tri.cond ⟨fun h1 => ?_, fun h1 => ?_⟩)
  · refine Tri.seq (Tri.reg hT ?_)
    refine .inl (.inl ⟨_, fun _ => rfl, f12_spec .., ?_⟩)
    refine Tri.ret ?_
    exact ⟨rfl, trivial⟩
  · refine (Tri.skip ?_)
    refine Tri.seq (Tri.drw hT hm 12 (by kernel_rfl) ?_)
    refine .inl ⟨_, fun _ => rfl, f14_spec _ _ _ _ _ _ _ _ _ _ _ _ _ _ _ _ _ _ _ _ _ _ _ _ _ _ _ ho, ?_⟩
    refine .inl ⟨_, fun _ => rfl, f15_spec _ _ _ _ _ _ _ _ _ _ _ _ _ _ _ _ _ _ _ _ _ _ _ _ _ _ _ ho, ?_⟩
    refine ⟨_, [], trivial, rfl, rfl, fun h => (.inl ⟨_, fun _ => rfl, f12_spec .., rfl, rfl, rfl⟩), ?_⟩
    refine ⟨⟨fun hc => hc, fun _ => trivial⟩, ?_⟩
    refine ⟨by kernel_rfl, ?_⟩
    refine Tri.ret ?_
    exact ⟨congrArg AV.bool (by simp [h h1]), trivial⟩
theorem f7_spec (a b s k f w' u : Int) (o : List optT.D) (p : List UInt8) (op : Bool) (nx sn w : Int) (st : Bool) (stamp : Int) (b0 b1 : Int) (ho : o.length < 9223372036854775807)
    (h : longR o p = false → segA s k f o p.length op nx sn w st stamp true = segA (IntKind.u32.wrap (s + b0)) (IntKind.u32.wrap (k + b1)) f o p.length op (IntKind.u32.wrap (nx + b0)) (IntKind.u32.wrap (sn + b1)) w st stamp true) :
    PSpec P G 7 [tcpV a b s k f w' u o p, viewV op nx sn w st stamp, .agg [.int .u32 b0, .int .u32 b1]] (.bool true) := by
  refine pspec_intro hT Tryd.func7 (by decide) rfl rfl (by kernel_rfl) rfl ?_
  refine Tri.seq (Tri.reg hT ?_)
  refine Tri.seq ?_
  refine Tri.seq (Tri.reg hT ?_)
  refine .inl (.inl ⟨_, fun _ => rfl, f13_spec .., ?_⟩)
  refine (Tri.cond ⟨fun h1 => ?_, fun h1 => ?_⟩)
  · refine Tri.seq (Tri.reg hT ?_)
    refine .inl (.inl ⟨_, fun _ => rfl, f12_spec .., ?_⟩)
    refine Tri.ret ?_
    exact ⟨rfl, trivial⟩
  · refine (Tri.skip ?_)
    refine Tri.seq (Tri.drw hT hm 5 (by kernel_rfl) ?_)
    refine ⟨by kernel_rfl, ?_⟩
    refine Tri.seq (Tri.reg hT ?_)
    refine ⟨(by omega), ?_⟩
    refine Tri.seq (Tri.reg hT ?_)
    refine ⟨(by omega), ?_⟩
    refine Tri.seq (Tri.reg hT ?_)
    refine ⟨(by omega), ?_⟩
    refine Tri.seq (Tri.reg hT ?_)
    refine ⟨(by omega), ?_⟩
    refine Tri.seq (Tri.drw hT hm 12 (by kernel_rfl) ?_)
    refine .inl ⟨_, fun _ => rfl, (f14_spec a b s k f w' u o p op nx sn w st stamp [] false 0 0 0 0 0 0 0 true 0 [] ho).le ⟨⟨rfl, rfl, rfl, rfl, rfl, rfl, rfl, rfl, rfl, trivial⟩, ⟨rfl, rfl, rfl, rfl, rfl, rfl, trivial⟩, ⟨rfl, rfl, rfl, rfl, rfl, rfl, rfl, rfl, rfl, rfl, rfl, rfl, trivial⟩, trivial⟩, ?_⟩
    refine .inl ⟨_, fun _ => rfl, (f14_spec a b _ _ f w' u o p op _ _ w st stamp [] false 0 0 0 0 0 0 0 true 0 [] ho).le ⟨⟨rfl, rfl, rfl, rfl, rfl, rfl, rfl, rfl, rfl, trivial⟩, ⟨rfl, rfl, rfl, rfl, rfl, rfl, trivial⟩, ⟨rfl, rfl, rfl, rfl, rfl, rfl, rfl, rfl, rfl, rfl, rfl, rfl, trivial⟩, trivial⟩, ?_⟩
    refine ⟨_, [], trivial, rfl, rfl, fun h => (.inl ⟨_, fun _ => rfl, f12_spec .., rfl, rfl, rfl⟩), ?_⟩
    refine ⟨⟨fun hc => hc, fun _ => trivial⟩, ?_⟩
    refine ⟨by kernel_rfl, ?_⟩
    refine Tri.ret ?_
    exact ⟨congrArg AV.bool (by simp [h h1]), trivial⟩
end Go.Proofs.YtfhadpmlbilebaaDoor.Fx
