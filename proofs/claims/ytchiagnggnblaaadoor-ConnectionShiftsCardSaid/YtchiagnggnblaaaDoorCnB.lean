import Derived.Test.YtchiagnggnblaaaDoorCnA
set_option linter.all false
/- Contracts of chapter 21: views, rejections, sizes. -/
namespace Go.Proofs.YtchiagnggnblaaaDoor.Ac
open Go Go.Fw Go.Ov Go.Proofs.YtchiagnggnblaaaDoor.Fx
theorem f39_spec (a b s k f w u : Int) (o : List optT.D) (p : List UInt8) (hp : p.length ≤ 140737488355328) : PSpec P G 39 [tcpV a b s k f w u o p] (.int .i64 (p.length + (if bitop .i64 .and f 2 ≠ 0 then 1 else 0) + (if bitop .i64 .and f 1 ≠ 0 then 1 else 0))) := by
  have w1 : IntKind.i64.wrap ((p.length : Int) + 1) = p.length + 1 := wrapId (by omega)
  have w2 : IntKind.i64.wrap ((p.length : Int) + 1 + 1) = p.length + 1 + 1 := wrapId (by omega)
  refine pspec_intro hT Tryd.func39 (by decide) rfl rfl (by kernel_rfl) rfl ?_
  refine Tri.seq (Tri.reg hT ?_)
  refine Tri.seq (Tri.reg hT ?_)
  refine Tri.seq ?_
  refine Tri.seq (Tri.reg hT ?_)
  refine (Tri.cond ⟨fun h1 => ?_, fun h1 => ?_⟩)
  · refine (Tri.reg hT ?_)
    refine Tri.seq ?_
    refine Tri.seq (Tri.reg hT ?_)
    refine (Tri.cond ⟨fun h2 => ?_, fun h2 => ?_⟩)
    · refine (Tri.reg hT ?_)
      refine Tri.seq (Tri.reg hT ?_)
      refine Tri.ret ?_
      exact ⟨congrArg (AV.int .i64) (by simp_all), trivial⟩
    · refine (Tri.skip ?_)
      refine Tri.seq (Tri.reg hT ?_)
      refine Tri.ret ?_
      exact ⟨congrArg (AV.int .i64) (by simp_all), trivial⟩
  · refine (Tri.skip ?_)
    refine Tri.seq ?_
    refine Tri.seq (Tri.reg hT ?_)
    refine (Tri.cond ⟨fun h3 => ?_, fun h3 => ?_⟩)
    · refine (Tri.reg hT ?_)
      refine Tri.seq (Tri.reg hT ?_)
      refine Tri.ret ?_
      exact ⟨congrArg (AV.int .i64) (by simp_all), trivial⟩
    · refine (Tri.skip ?_)
      refine Tri.seq (Tri.reg hT ?_)
      refine Tri.ret ?_
      exact ⟨congrArg (AV.int .i64) (by simp_all), trivial⟩
theorem vw_t {nx sn w x : Int} {a b : Bool} (h : (if a = true then b else false) = true) : AV.agg [.bool true, .int .u32 nx, .int .u32 sn, .int .i64 w, .bool (if a = true then b else false), .int .u32 x] = viewV true nx sn w (a && b) (if (a && b) = true then x else 0) := by
  cases a <;> cases b <;> first | rfl | cases h
theorem vw_f {nx sn w x : Int} {a b : Bool} (h : (if a = true then b else false) = false) : AV.agg [.bool true, .int .u32 nx, .int .u32 sn, .int .i64 w, .bool (if a = true then b else false), .int .u32 0] = viewV true nx sn w (a && b) (if (a && b) = true then x else 0) := by
  cases a <;> cases b <;> first | rfl | cases h
abbrev vwA1 (h g : Hf) (s t : SS) : AV := viewV true (nextS s) g.high h.win (h.stamped && g.stamped) (if (h.stamped && g.stamped) = true then h.stamp else 0)
theorem f27_h1 (st : Int) (h g : Hf) (s t : SS) : HSpec P G 27 [.loc 0 0, .int .i64 1] (cnH st h g s t) (vwA1 h g s t) (cnH st h g s t) := by
  refine fspec_intro hT (cnH st h g s t) (cnH st h g s t) 3 3 Tryd.func27 (by decide) rfl rfl (by kernel_rfl) rfl rfl ?_
  refine Tri.seq (Tri.reg hT ?_)
  refine Tri.seq (Tri.drw hT hm 12 (by kernel_rfl) ?_)
  refine ⟨(by first | ((try simp only [decide_eq_true_eq, decide_eq_false_iff_not, toNat_cast] at *); omega) | decide), ?_⟩
  refine .inl ⟨_, fun _ => rfl, f34_one, ?_⟩
  refine ⟨(by first | ((try simp only [decide_eq_true_eq, decide_eq_false_iff_not, toNat_cast] at *); omega) | decide), ?_⟩
  refine ⟨by kernel_rfl, ?_⟩
  refine Tri.seq (Tri.drw hT hm 26 (by kernel_rfl) ?_)
  refine .inr (.inl ⟨_, _, (by exact ⟨rfl, trivial⟩), (CSpec.gw (f35_spec s 1)), (by rfl), ?_⟩)
  refine ⟨_, [], trivial, rfl, rfl, fun h => ⟨rfl, rfl, rfl⟩, ?_⟩
  refine ⟨_, [], trivial, rfl, rfl, fun h => ⟨h, rfl, rfl, rfl⟩, ?_⟩
  refine ⟨_, [], trivial, rfl, rfl, fun h => ⟨h, rfl, rfl, rfl⟩, ?_⟩
  refine ⟨_, [], trivial, rfl, rfl, fun h => ⟨h, rfl, rfl, rfl⟩, ?_⟩
  refine ⟨⟨fun hc => hc, fun _ => trivial⟩, ?_⟩
  refine ⟨by kernel_rfl, ?_⟩
  refine Tri.seq ?_
  refine Tri.seq (Tri.reg hT ?_)
  refine (Tri.cond ⟨fun h1 => ?_, fun h1 => ?_⟩)
  · refine (Tri.reg hT ?_)
    refine Tri.seq (Tri.reg hT ?_)
    refine Tri.ret ?_
    exact ⟨vw_t h1, rfl, rfl, rfl, trivial⟩
  · refine (Tri.skip ?_)
    refine Tri.seq (Tri.reg hT ?_)
    refine Tri.ret ?_
    exact ⟨vw_f h1, rfl, rfl, rfl, trivial⟩
theorem f20_h1 (st : Int) (h g : Hf) (s t : SS) (n : Int) : HSpec P G 20 [.loc 0 0, .int .i64 1, .int .i64 n] (cnH st h g s t) (.list evT [(7, 1, s.pos, n, [], ())]) (cnH st h g s t) := by
  refine fspec_intro hT (cnH st h g s t) (cnH st h g s t) 3 3 Tryd.func20 (by decide) rfl rfl (by kernel_rfl) rfl rfl ?_
  refine Tri.seq (Tri.reg hT ?_)
  refine Tri.seq (Tri.reg hT ?_)
  refine .inl (.inr (.inl ⟨_, _, (by exact ⟨rfl, rfl, rfl, trivial⟩), (CSpec.ofH (u := [(0, cnC st h g (.loc 1 0) (.loc 2 0), none), (1, bxS s, none), (2, bxS t, none)]) (f28_h1 st h g s t 7 n)), (by rfl), ?_⟩))
  refine Tri.le _ (Le.freeze 6 8 1 rfl rfl (Nat.le_refl 1)) ?_
  refine Tri.ret ?_
  exact ⟨rfl, rfl, rfl, rfl, trivial⟩
abbrev vwA2 (h g : Hf) (s t : SS) : AV := viewV true (nextS t) h.high g.win (g.stamped && h.stamped) (if (g.stamped && h.stamped) = true then g.stamp else 0)
theorem f27_h2 (st : Int) (h g : Hf) (s t : SS) : HSpec P G 27 [.loc 0 0, .int .i64 2] (cnH st h g s t) (vwA2 h g s t) (cnH st h g s t) := by
  refine fspec_intro hT (cnH st h g s t) (cnH st h g s t) 3 3 Tryd.func27 (by decide) rfl rfl (by kernel_rfl) rfl rfl ?_
  refine Tri.seq (Tri.reg hT ?_)
  refine Tri.seq (Tri.drw hT hm 12 (by kernel_rfl) ?_)
  refine ⟨(by first | ((try simp only [decide_eq_true_eq, decide_eq_false_iff_not, toNat_cast] at *); omega) | decide), ?_⟩
  refine .inl ⟨_, fun _ => rfl, f34_two, ?_⟩
  refine ⟨(by first | ((try simp only [decide_eq_true_eq, decide_eq_false_iff_not, toNat_cast] at *); omega) | decide), ?_⟩
  refine ⟨by kernel_rfl, ?_⟩
  refine Tri.seq (Tri.drw hT hm 26 (by kernel_rfl) ?_)
  refine .inr (.inl ⟨_, _, (by exact ⟨rfl, trivial⟩), (CSpec.gw (f35_spec t 2)), (by rfl), ?_⟩)
  refine ⟨_, [], trivial, rfl, rfl, fun h => ⟨rfl, rfl, rfl⟩, ?_⟩
  refine ⟨_, [], trivial, rfl, rfl, fun h => ⟨h, rfl, rfl, rfl⟩, ?_⟩
  refine ⟨_, [], trivial, rfl, rfl, fun h => ⟨h, rfl, rfl, rfl⟩, ?_⟩
  refine ⟨_, [], trivial, rfl, rfl, fun h => ⟨h, rfl, rfl, rfl⟩, ?_⟩
  refine ⟨⟨fun hc => hc, fun _ => trivial⟩, ?_⟩
  refine ⟨by kernel_rfl, ?_⟩
  refine Tri.seq ?_
  refine Tri.seq (Tri.reg hT ?_)
  refine (Tri.cond ⟨fun h1 => ?_, fun h1 => ?_⟩)
  · refine (Tri.reg hT ?_)
    refine Tri.seq (Tri.reg hT ?_)
    refine Tri.ret ?_
    exact ⟨vw_t h1, rfl, rfl, rfl, trivial⟩
  · refine (Tri.skip ?_)
    refine Tri.seq (Tri.reg hT ?_)
    refine Tri.ret ?_
    exact ⟨vw_f h1, rfl, rfl, rfl, trivial⟩
theorem f20_h2 (st : Int) (h g : Hf) (s t : SS) (n : Int) : HSpec P G 20 [.loc 0 0, .int .i64 2, .int .i64 n] (cnH st h g s t) (.list evT [(7, 2, t.pos, n, [], ())]) (cnH st h g s t) := by
  refine fspec_intro hT (cnH st h g s t) (cnH st h g s t) 3 3 Tryd.func20 (by decide) rfl rfl (by kernel_rfl) rfl rfl ?_
  refine Tri.seq (Tri.reg hT ?_)
  refine Tri.seq (Tri.reg hT ?_)
  refine .inl (.inr (.inl ⟨_, _, (by exact ⟨rfl, rfl, rfl, trivial⟩), (CSpec.ofH (u := [(0, cnC st h g (.loc 1 0) (.loc 2 0), none), (1, bxS s, none), (2, bxS t, none)]) (f28_h2 st h g s t 7 n)), (by rfl), ?_⟩))
  refine Tri.le _ (Le.freeze 6 8 1 rfl rfl (Nat.le_refl 1)) ?_
  refine Tri.ret ?_
  exact ⟨rfl, rfl, rfl, rfl, trivial⟩
end Go.Proofs.YtchiagnggnblaaaDoor.Ac
