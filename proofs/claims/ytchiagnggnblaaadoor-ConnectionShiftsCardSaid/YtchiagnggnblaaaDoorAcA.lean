import Derived.Test.YtchiagnggnblaaaDoorStV
set_option linter.all false
/- The contracts of the small functions of chapter 19. -/
namespace Go.Proofs.YtchiagnggnblaaaDoor.Ac
open Go Go.Fw Go.Proofs.YtchiagnggnblaaaDoor.Fx
def G : Gl := [(0, [.list (.int .i64) [3, 6]])]

def has (a b : Int) : Bool := decide (bitop .i64 .and a b = b)
def diff (a b : Int) : Int := IntKind.i64.wrap (IntKind.i32.wrap (IntKind.u32.wrap (a - b)))
def beforeR (a b : Int) : Bool := decide (IntKind.u32.wrap (a - b) ≥ 2147483648)

theorem f48_spec (a b : Int) : PSpec P G 48 [.int .u32 a, .int .u32 b] (.int .i64 (diff a b)) := by
  refine pspec_intro hT Tryd.func48 (by decide) rfl rfl (by kernel_rfl) rfl ?_
  refine Tri.seq (Tri.reg hT ?_)
  refine Tri.seq (Tri.reg hT ?_)
  refine Tri.ret ?_
  exact ⟨rfl, trivial⟩
theorem f36_spec (a b : Int) : PSpec P G 36 [.int .u32 a, .int .u32 b] (.bool (decide (diff a b < 0))) := by
  refine pspec_intro hT Tryd.func36 (by decide) rfl rfl (by kernel_rfl) rfl ?_
  refine Tri.seq (Tri.reg hT ?_)
  refine Tri.seq (Tri.reg hT ?_)
  refine .inl (.inl ⟨_, fun _ => rfl, f48_spec .., ?_⟩)
  refine Tri.ret ?_
  exact ⟨rfl, trivial⟩
def valid (n : Int) : Bool := if decide (n ≥ 1) then decide (n ≤ 7) else false
theorem f52_spec (n : Int) : PSpec P G 52 [.int .i64 n] (.bool (valid n)) := by
  refine pspec_intro hT Tryd.func52 (by decide) rfl rfl (by kernel_rfl) rfl ?_
  refine Tri.seq (Tri.reg hT ?_)
  refine Tri.seq (Tri.reg hT ?_)
  refine ⟨_, [], trivial, rfl, rfl, fun h => ⟨rfl, rfl, rfl⟩, ?_⟩
  refine ⟨_, [], trivial, rfl, rfl, fun h => ⟨h, rfl, rfl, rfl⟩, ?_⟩
  refine ⟨⟨fun hc => hc, fun _ => trivial⟩, ?_⟩
  refine Tri.ret ?_
  exact ⟨rfl, trivial⟩
abbrev optT : Ty := .cons (.int .i64) (.cons .str .nil)
abbrev tcpV (a b s k f w u : Int) (o : List optT.D) (p : List UInt8) : AV := .agg [.int .i64 a, .int .i64 b, .int .u32 s, .int .u32 k, .int .i64 f, .int .i64 w, .int .i64 u, .list optT o, .str p]
abbrev viewV (op : Bool) (nx sn w : Int) (st : Bool) (stamp : Int) : AV := .agg [.bool op, .int .u32 nx, .int .u32 sn, .int .i64 w, .bool st, .int .u32 stamp]
abbrev svcT : Ty := .cons (.int .i64) (.cons (.int .i64) (.cons (.int .i64) .nil))
abbrev assetV (nm : List UInt8) (v6 : Bool) (hi lo ln pol frag hops win : Int) (stamps : Bool) (val : Int) (sv : List svcT.D) : AV :=
  .agg [.str nm, .bool v6, .int .u64 hi, .int .u64 lo, .int .i64 ln, .int .i64 pol, .int .i64 frag, .int .i64 hops, .int .i64 win, .bool stamps, .int .i64 val, .list svcT sv]

def flags (f : Int) : Bool := if has f 3 || has f 6 then false else decide (bitop .i64 .and f 22 ≠ 0)
def flagsR (f : Int) : Bool := if has f 2 && (has f 1 || has f 4) then false else has f 2 || has f 4 || has f 16

theorem f19_spec (f : Int) : PSpec P G 19 [.int .i64 f] (.bool (flags f)) := by
  refine pspec_intro hT Tryd.func19 (by decide) rfl rfl (by kernel_rfl) rfl ?_
  refine Tri.seq (Tri.reg hT ?_)
  refine Tri.seq ?_
  refine Tri.seq (Tri.reg hT ?_)
  refine (Tri.block ?_)
  refine (Tri.loop (ι := Nat) (fun i => ⟨20, 0, 0, [(0, .int .i64 f), (2, .bool false), (5, .list (.int .i64) [3, 6]), (6, .int .i64 2), (7, .int .i64 (i : Int))], [], G⟩) (fun i => i ≤ 2 ∧ (1 ≤ i → has f 3 = false) ∧ (2 ≤ i → has f 6 = false)) (fun i => 2 - i) (0) ?_ ?_ ?_)
  · exact ⟨by omega, fun h => by omega, fun h => by omega⟩
  · exact Le.weak rfl rfl rfl rfl ⟨rfl, rfl, rfl, rfl, rfl, trivial⟩ trivial
  · intro i hi
    refine Tri.seq (Tri.reg hT ?_)
    refine Tri.seq (Tri.cond ⟨fun h1 => ?_, fun h1 => ?_⟩)
    · refine (Tri.skip ?_)
      refine Tri.seq (Tri.block ?_)
      refine Tri.seq (Tri.reg hT ?_)
      refine ⟨⟨by simp only [List.length_cons, List.length_nil, decide_eq_true_eq] at h1 ⊢; omega, by simp only [List.length_cons, List.length_nil, decide_eq_true_eq] at h1 ⊢; omega⟩, ?_⟩
      refine Tri.seq (Tri.reg hT ?_)
      refine (Tri.cond ⟨fun h2 => ?_, fun h2 => ?_⟩)
      · refine Tri.seq (Tri.reg hT ?_)
        refine Tri.ret ?_
        exact ⟨congrArg AV.bool (by rcases (by simp at h1; omega : i = 0 ∨ i = 1) with rfl | rfl <;> simp_all [flags, has, Ty.dflt]), trivial⟩
      · refine (Tri.skip ?_)
        refine (Tri.reg hT ?_)
        refine ⟨i + 1, ?_, by simp at h1; omega, Le.weak rfl rfl rfl rfl ⟨rfl, rfl, rfl, rfl, iv1 (by omega), trivial⟩ trivial⟩; rcases (by simp at h1; omega : i = 0 ∨ i = 1) with rfl | rfl <;> simp_all [has, Ty.dflt]
    · refine Tri.exit ?_
      refine Tri.seq (Tri.reg hT ?_)
      refine Tri.ret ?_
      exact ⟨congrArg AV.bool (by simp at h1; obtain rfl : i = 2 := (by omega); simp_all [flags]), trivial⟩
def packet (t : Int) (r : Bool) (hops : Int) : Int := if t < hops then 1 else if r then 2 else 0
end Go.Proofs.YtchiagnggnblaaaDoor.Ac
