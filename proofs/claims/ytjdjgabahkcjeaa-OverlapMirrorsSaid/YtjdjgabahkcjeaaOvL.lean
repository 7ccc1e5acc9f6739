/- Contracts of chapter 15: the statements' test. -/
import Derived.Test.YtjdjgabahkcjeaaOvI
import Derived.Test.YtjdjgabahkcjeaaOv6
set_option linter.all false
namespace Go.Proofs.Ytjdjgabahkcjeaa.Fx
open Go Go.Fw Go.Ov
abbrev lL : List Pc := [(0, [97, 97, 97, 97], 0, 4, ())]
abbrev lP : Pc := (2, [98, 98, 98, 98], 0, 0, ())
abbrev lR : List Pc := [(0, [97, 97], 0, 4, ()), (2, [98, 98, 98, 98], 2, 6, ())]
theorem livesI : PSpec P [] 15 [.list pT lL, pv lP, .int .i64 2] (.tup [.list pT lR, .int .i64 2, .int .i64 0]) := by
  have := f15_spec lL lP 2 (by decide) (by decide) (by decide)
  rw [show insR lL lP 2 = (lR, 2, 0) from by decide] at this
  exact this
theorem livesT : PSpec P [] 19 [.list pT lR, .int .i64 1] (.tup [.str [97, 98, 98, 98, 98], .list pT []]) := by
  have := f19_spec lR 1 (by decide) (valid_inB (by decide)) (by decide)
  rw [show takeF lR 1 = ([97, 98, 98, 98, 98], 6) from by decide, show cutL lR 6 = [] from by decide] at this
  exact this
theorem livesS : PSpec P [] 23 [.list pT lR] (.int .i64 6) := f23_spec lR (by decide) (by decide)
theorem livesV : PSpec P [] 18 [.list pT lR] (.bool true) := f18_spec lR (by decide)
theorem f12_spec : PSpec P [] 12 [] (.bool true) := by
  refine pspec_intro hT Try.func12 (by decide) rfl rfl (by kernel_rfl) rfl ?_
  refine Tri.seq (Tri.reg hT ?_)
  refine Tri.seq (Tri.regM hT [3] ?_)
  refine ⟨⟨79, 0, 50, [(8, .list pT lL), (9, pv lP)], [], []⟩, Le.trans (Le.freeze 8 _ _ rfl rfl (Nat.le_refl _)) (Le.weak rfl rfl rfl rfl ⟨(by first | rfl | exact iv1 (by (try simp only [decide_eq_true_eq, decide_eq_false_iff_not, toNat_cast] at *); omega)), (by first | rfl | exact iv1 (by (try simp only [decide_eq_true_eq, decide_eq_false_iff_not, toNat_cast] at *); omega)), trivial⟩ trivial), ?_⟩
  refine .inl (.inl ⟨_, fun _ => rfl, livesI, ?_⟩)
  refine Tri.seq ?_
  refine Tri.seq (Tri.reg hT ?_)
  refine ⟨_, [], trivial, rfl, rfl, fun h => ⟨rfl, rfl, rfl⟩, ?_⟩
  refine ⟨_, [], trivial, rfl, rfl, fun h => ⟨h, (by first | ((try simp only [decide_eq_true_eq, decide_eq_false_iff_not, toNat_cast] at *); omega) | decide), rfl, rfl, rfl⟩, ?_⟩
  refine ⟨_, [], trivial, rfl, rfl, fun h => ⟨h, rfl, rfl, rfl⟩, ?_⟩
  refine ⟨_, [], trivial, rfl, rfl, fun h => ⟨rfl, rfl, rfl⟩, ?_⟩
  refine ⟨_, [], trivial, rfl, rfl, fun h => ⟨h, h, rfl, rfl, rfl⟩, ?_⟩
  refine ⟨⟨fun _ => trivial, fun hc => (gn hc)⟩, ?_⟩
  refine ⟨_, [], trivial, rfl, rfl, fun h => ⟨rfl, rfl, rfl⟩, ?_⟩
  refine ⟨_, [], trivial, rfl, rfl, fun h => ⟨h, (by first | ((try simp only [decide_eq_true_eq, decide_eq_false_iff_not, toNat_cast] at *); omega) | decide), rfl, rfl, rfl⟩, ?_⟩
  refine ⟨_, [], trivial, rfl, rfl, fun h => ⟨h, rfl, rfl, rfl⟩, ?_⟩
  refine ⟨_, [], trivial, rfl, rfl, fun h => ⟨rfl, rfl, rfl⟩, ?_⟩
  refine ⟨_, [], trivial, rfl, rfl, fun h => ⟨h, h, rfl, rfl, rfl⟩, ?_⟩
  refine ⟨⟨fun _ => trivial, fun hc => (gn hc)⟩, ?_⟩
  refine ⟨_, [], trivial, rfl, rfl, fun h => ⟨rfl, rfl, rfl⟩, ?_⟩
  refine ⟨_, [], trivial, rfl, rfl, fun h => ⟨h, rfl, rfl, rfl⟩, ?_⟩
  refine ⟨⟨fun _ => trivial, fun hc => (gn hc)⟩, ?_⟩
  refine ⟨_, [], trivial, rfl, rfl, fun h => ⟨rfl, rfl, rfl⟩, ?_⟩
  refine ⟨_, [], trivial, rfl, rfl, fun h => ⟨h, rfl, rfl, rfl⟩, ?_⟩
  refine ⟨⟨fun _ => trivial, fun hc => (gn hc)⟩, ?_⟩
  refine (Tri.cond ⟨fun h1 => ?_, fun h1 => ?_⟩)
  · exact absurd h1 (by decide)
  · refine (Tri.skip ?_)
    refine Tri.seq (Tri.reg hT ?_)
    refine .inl (.inl ⟨_, fun _ => rfl, livesT, ?_⟩)
    refine Tri.seq (Tri.drw hT hm 35 (by kernel_rfl) ?_)
    refine ⟨_, [], trivial, rfl, rfl, fun h => ⟨rfl, rfl, rfl⟩, ?_⟩
    refine ⟨_, [], trivial, rfl, rfl, fun h => ⟨h, rfl, rfl, rfl⟩, ?_⟩
    refine ⟨_, [], trivial, rfl, rfl, fun h => ⟨h, rfl, rfl, rfl⟩, ?_⟩
    refine ⟨⟨fun hc => hc, fun _ => trivial⟩, ?_⟩
    refine ⟨_, [], trivial, rfl, rfl, fun h => ⟨rfl, rfl, rfl⟩, ?_⟩
    refine ⟨_, [], trivial, rfl, rfl, fun h => ⟨h, (.inl ⟨_, fun _ => rfl, livesS, rfl, rfl, rfl⟩)⟩, ?_⟩
    refine ⟨_, [], trivial, rfl, rfl, fun h => ⟨h, rfl, rfl, rfl⟩, ?_⟩
    refine ⟨⟨fun hc => hc, fun _ => trivial⟩, ?_⟩
    refine ⟨_, [], trivial, rfl, rfl, fun h => ⟨rfl, rfl, rfl⟩, ?_⟩
    refine ⟨_, [], trivial, rfl, rfl, fun h => ⟨h, (.inl ⟨_, fun _ => rfl, livesV, rfl, rfl, rfl⟩)⟩, ?_⟩
    refine ⟨⟨fun hc => hc, fun _ => trivial⟩, ?_⟩
    refine ⟨_, [], trivial, rfl, rfl, fun h => ⟨rfl, rfl, rfl⟩, ?_⟩
    refine ⟨_, [], trivial, rfl, rfl, fun h => ⟨h, (by first | ((try simp only [decide_eq_true_eq, decide_eq_false_iff_not, toNat_cast] at *); omega) | decide), rfl, rfl, rfl⟩, ?_⟩
    refine ⟨_, [], trivial, rfl, rfl, fun h => ⟨h, rfl, rfl, rfl⟩, ?_⟩
    refine ⟨_, [], trivial, rfl, rfl, fun h => ⟨rfl, rfl, rfl⟩, ?_⟩
    refine ⟨_, [], trivial, rfl, rfl, fun h => ⟨h, (by first | ((try simp only [decide_eq_true_eq, decide_eq_false_iff_not, toNat_cast] at *); omega) | decide), rfl, rfl, rfl⟩, ?_⟩
    refine ⟨_, [], trivial, rfl, rfl, fun h => ⟨h, rfl, rfl, rfl⟩, ?_⟩
    refine ⟨_, [], trivial, rfl, rfl, fun h => ⟨h, h, (.inl ⟨_, fun _ => rfl, f10_spec 3 (lR.getD 0 (Ty.dflt pT)) (lR.getD 1 (Ty.dflt pT)), rfl, rfl, rfl⟩)⟩, ?_⟩
    refine ⟨_, [], trivial, rfl, rfl, fun h => ⟨h, rfl, rfl, rfl⟩, ?_⟩
    refine ⟨⟨fun hc => hc, fun _ => trivial⟩, ?_⟩
    refine ⟨_, [], trivial, rfl, rfl, fun h => ⟨rfl, rfl, rfl⟩, ?_⟩
    refine ⟨_, [], trivial, rfl, rfl, fun h => ⟨h, (by first | ((try simp only [decide_eq_true_eq, decide_eq_false_iff_not, toNat_cast] at *); omega) | decide), rfl, rfl, rfl⟩, ?_⟩
    refine ⟨_, [], trivial, rfl, rfl, fun h => ⟨h, rfl, rfl, rfl⟩, ?_⟩
    refine ⟨_, [], trivial, rfl, rfl, fun h => ⟨rfl, rfl, rfl⟩, ?_⟩
    refine ⟨_, [], trivial, rfl, rfl, fun h => ⟨h, (by first | ((try simp only [decide_eq_true_eq, decide_eq_false_iff_not, toNat_cast] at *); omega) | decide), rfl, rfl, rfl⟩, ?_⟩
    refine ⟨_, [], trivial, rfl, rfl, fun h => ⟨h, rfl, rfl, rfl⟩, ?_⟩
    refine ⟨_, [], trivial, rfl, rfl, fun h => ⟨h, h, (.inl ⟨_, fun _ => rfl, f10_spec 3 (lR.getD 1 (Ty.dflt pT)) (lR.getD 0 (Ty.dflt pT)), rfl, rfl, rfl⟩)⟩, ?_⟩
    refine ⟨⟨fun hc => hc, fun _ => trivial⟩, ?_⟩
    refine ⟨by kernel_rfl, ?_⟩
    refine Tri.ret ?_
    exact ⟨rfl, trivial⟩
end Go.Proofs.Ytjdjgabahkcjeaa.Fx
