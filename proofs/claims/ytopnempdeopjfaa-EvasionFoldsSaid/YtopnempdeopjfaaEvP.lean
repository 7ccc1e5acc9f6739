import Derived.Test.YtopnempdeopjfaaEvN
import Derived.Test.YtopnempdeopjfaaGEv4
set_option linter.all false
/- Chapter 24: EvasionFolds. -/
namespace Go.Proofs.Ytopnempdeopjfaa.Fx
open Go Go.Fw Go.Ov
set_option maxRecDepth 8000 in
theorem f13_spec (l : List Pc) (pol oth : Int) (hl : l.length ≤ 140737488355328) : PSpec P [] 13 [.list pT l, .int .i64 pol, .int .i64 oth] (.bool true) := by
  refine pspec_intro hT Try.func13 (by decide) rfl rfl (by kernel_rfl) rfl ?_
  refine Tri.seq (Tri.reg hT ?_)
  refine Tri.seq ?_
  refine Tri.seq (Tri.reg hT ?_)
  refine .inl (.inl ⟨_, fun _ => rfl, f34_spec, ?_⟩)
  refine (Tri.cond ⟨fun h1 => ?_, fun h1 => ?_⟩)
  · cases h1
  · refine (Tri.skip ?_)
    refine Tri.seq ?_
    refine Tri.seq (Tri.reg hT ?_)
    refine .inl (.inl ⟨_, fun _ => rfl, f33_spec l 70 400 hl (by decide) (by decide) (by decide) (by decide), ?_⟩)
    refine ⟨_, [], trivial, rfl, rfl, fun h => ⟨rfl, rfl, rfl⟩, ?_⟩
    refine ⟨_, [], trivial, rfl, rfl, fun h => ⟨h, rfl, rfl, rfl⟩, ?_⟩
    refine ⟨⟨fun _ => trivial, fun hc => (gn hc)⟩, ?_⟩
    refine ⟨_, [], trivial, rfl, rfl, fun h => ⟨rfl, rfl, rfl⟩, ?_⟩
    refine ⟨_, [], trivial, rfl, rfl, fun h => ⟨h, rfl, rfl, rfl⟩, ?_⟩
    refine ⟨⟨fun _ => trivial, fun hc => (gn hc)⟩, ?_⟩
    refine ⟨_, [], trivial, rfl, rfl, fun h => ⟨rfl, rfl, rfl⟩, ?_⟩
    refine ⟨_, [], trivial, rfl, rfl, fun h => ⟨h, rfl, rfl, rfl⟩, ?_⟩
    refine ⟨⟨fun _ => trivial, fun hc => (gn hc)⟩, ?_⟩
    refine ⟨_, [], trivial, rfl, rfl, fun h => ⟨rfl, rfl, rfl⟩, ?_⟩
    refine ⟨_, [], trivial, rfl, rfl, fun h => ⟨h, rfl, rfl, rfl⟩, ?_⟩
    refine ⟨⟨fun _ => trivial, fun hc => (gn hc)⟩, ?_⟩
    refine (Tri.cond ⟨fun h2 => ?_, fun h2 => ?_⟩)
    · refine Tri.seq (Tri.reg hT ?_)
      refine Tri.ret ?_
      exact ⟨rfl, trivial⟩
    · refine (Tri.skip ?_)
      have hq : fewR l 70 400 = true ∧ 1 ≤ pol ∧ pol ≤ 4 ∧ 1 ≤ oth ∧ oth ≤ 4 := foldsC h2; have hf : l.length ≤ 70 ∧ lenSum l ≤ 400 ∧ (cells l).length ≤ 400 := few_of hq.1; have hn : l.length ≤ 140737488351232 := (by have := hf.1; omega); have hp := few_pd hf.2.1; have hF := foldsOk hq.2.1 hq.2.2.1 hp hf.2.1; have hFl := hF.len
      refine Tri.seq (Tri.reg hT ?_)
      refine .inl (.inl ⟨_, fun _ => rfl, f38_spec l pol hp hn, ?_⟩)
      refine Tri.seq ?_
      refine Tri.seq (Tri.reg hT ?_)
      refine (Tri.block ?_)
      refine (Tri.loop (ι := Nat) (fun i => ⟨111, 0, 60, [(0, .list pT l), (1, .int .i64 pol), (2, .int .i64 oth), (7, .list pT (foldV l pol)), (8, .int .i64 (i : Int))], [], []⟩) (fun i => i ≤ (foldV l pol).length) (fun i => (foldV l pol).length - i) (0) ?_ ?_ ?_)
      · exact Nat.zero_le _
      · exact Le.weak rfl rfl rfl rfl ⟨(by first | rfl | exact iv1 (by (try simp only [decide_eq_true_eq, decide_eq_false_iff_not, toNat_cast] at *); omega)), (by first | rfl | exact iv1 (by (try simp only [decide_eq_true_eq, decide_eq_false_iff_not, toNat_cast] at *); omega)), (by first | rfl | exact iv1 (by (try simp only [decide_eq_true_eq, decide_eq_false_iff_not, toNat_cast] at *); omega)), (by first | rfl | exact iv1 (by (try simp only [decide_eq_true_eq, decide_eq_false_iff_not, toNat_cast] at *); omega)), (by first | rfl | exact iv1 (by (try simp only [decide_eq_true_eq, decide_eq_false_iff_not, toNat_cast] at *); omega)), trivial⟩ trivial
      · intro i hi
        refine Tri.seq ?_
        refine Tri.seq (Tri.reg hT ?_)
        refine (Tri.cond ⟨fun h3 => ?_, fun h3 => ?_⟩)
        · refine (Tri.skip ?_)
          refine Tri.seq (Tri.block ?_)
          have hi3 := i_lt h3; have hat := hF.at_ hi3
          refine Tri.seq (Tri.drw hT hm 49 (by kernel_rfl) ?_)
          refine ⟨(by first | ((try simp only [decide_eq_true_eq, decide_eq_false_iff_not, toNat_cast] at *); omega) | decide), ?_⟩
          refine ⟨(by first | ((try simp only [decide_eq_true_eq, decide_eq_false_iff_not, toNat_cast] at *); omega) | decide), ?_⟩
          refine ⟨_, [], trivial, rfl, rfl, fun h => ⟨rfl, rfl, rfl⟩, ?_⟩
          refine ⟨_, [], trivial, rfl, rfl, fun h => ⟨rfl, rfl, rfl⟩, ?_⟩
          refine ⟨_, [], trivial, rfl, rfl, fun h => ⟨h, h, (by first | ((try simp only [decide_eq_true_eq, decide_eq_false_iff_not, toNat_cast] at *); omega) | decide), rfl, rfl, rfl⟩, ?_⟩
          refine ⟨_, [], trivial, rfl, rfl, fun h => ⟨h, rfl, rfl, rfl⟩, ?_⟩
          refine ⟨_, [], trivial, rfl, rfl, fun h => ⟨h, rfl, rfl, rfl⟩, ?_⟩
          refine ⟨_, [], trivial, rfl, rfl, fun h => ⟨rfl, rfl, rfl⟩, ?_⟩
          refine ⟨_, [], trivial, rfl, rfl, fun h => ⟨rfl, rfl, rfl⟩, ?_⟩
          refine ⟨_, [], trivial, rfl, rfl, fun h => ⟨h, h, (by first | ((try simp only [decide_eq_true_eq, decide_eq_false_iff_not, toNat_cast] at *); omega) | decide), rfl, rfl, rfl⟩, ?_⟩
          refine ⟨_, [], trivial, rfl, rfl, fun h => ⟨h, rfl, rfl, rfl⟩, ?_⟩
          refine ⟨_, [], trivial, rfl, rfl, fun h => ⟨h, rfl, rfl, rfl⟩, ?_⟩
          refine ⟨_, [], trivial, rfl, rfl, fun h => ⟨rfl, rfl, rfl⟩, ?_⟩
          refine ⟨_, [], trivial, rfl, rfl, fun h => ⟨rfl, rfl, rfl⟩, ?_⟩
          refine ⟨_, [], trivial, rfl, rfl, fun h => ⟨h, h, (by first | ((try simp only [decide_eq_true_eq, decide_eq_false_iff_not, toNat_cast] at *); omega) | decide), rfl, rfl, rfl⟩, ?_⟩
          refine ⟨_, [], trivial, rfl, rfl, fun h => ⟨h, rfl, rfl, rfl⟩, ?_⟩
          refine ⟨_, [], trivial, rfl, rfl, fun h => ⟨h, rfl, rfl, rfl⟩, ?_⟩
          refine ⟨_, [], trivial, rfl, rfl, fun h => ⟨h, rfl, rfl, rfl⟩, ?_⟩
          refine ⟨_, [], trivial, rfl, rfl, fun h => ⟨h, h, rfl, rfl, rfl⟩, ?_⟩
          refine ⟨_, [], trivial, rfl, rfl, fun h => ⟨h, h, rfl, rfl, rfl⟩, ?_⟩
          refine ⟨⟨fun _ => trivial, fun hc => (gn hc)⟩, ?_⟩
          refine ⟨_, [], trivial, rfl, rfl, fun h => ⟨rfl, rfl, rfl⟩, ?_⟩
          refine ⟨_, [], trivial, rfl, rfl, fun h => ⟨h, rfl, rfl, rfl⟩, ?_⟩
          refine ⟨_, [], trivial, rfl, rfl, fun h => ⟨h, rfl, rfl, rfl⟩, ?_⟩
          refine ⟨_, [], trivial, rfl, rfl, fun h => ⟨rfl, rfl, rfl⟩, ?_⟩
          refine ⟨_, [], trivial, rfl, rfl, fun h => ⟨rfl, rfl, rfl⟩, ?_⟩
          refine ⟨_, [], trivial, rfl, rfl, fun h => ⟨h, h, (by first | ((try simp only [decide_eq_true_eq, decide_eq_false_iff_not, toNat_cast] at *); omega) | decide), rfl, rfl, rfl⟩, ?_⟩
          refine ⟨_, [], trivial, rfl, rfl, fun h => ⟨h, rfl, rfl, rfl⟩, ?_⟩
          refine ⟨_, [], trivial, rfl, rfl, fun h => ⟨h, rfl, rfl, rfl⟩, ?_⟩
          refine ⟨_, [], trivial, rfl, rfl, fun h => ⟨rfl, rfl, rfl⟩, ?_⟩
          refine ⟨_, [], trivial, rfl, rfl, fun h => ⟨rfl, rfl, rfl⟩, ?_⟩
          refine ⟨_, [], trivial, rfl, rfl, fun h => ⟨h, rfl, rfl, rfl⟩, ?_⟩
          refine ⟨_, [], trivial, rfl, rfl, fun h => ⟨h, h, by have := of_decide_eq_true (gR h); rw [wrapId (by omega)]; omega, rfl, rfl, rfl⟩, ?_⟩
          refine ⟨_, [], trivial, rfl, rfl, fun h => ⟨h, rfl, rfl, rfl⟩, ?_⟩
          refine ⟨_, [], trivial, rfl, rfl, fun h => ⟨h, rfl, rfl, rfl⟩, ?_⟩
          refine ⟨_, [], trivial, rfl, rfl, fun h => ⟨h, h, rfl, rfl, rfl⟩, ?_⟩
          refine ⟨_, [], trivial, rfl, rfl, fun h => ⟨h, ⟨fun hc => ga h hc, fun _ => trivial⟩, rfl, rfl, rfl⟩, ?_⟩
          refine ⟨⟨fun _ => trivial, fun hc => (gn hc)⟩, ?_⟩
          refine ⟨by kernel_rfl, ?_⟩
          refine (Tri.cond ⟨fun h4 => ?_, fun h4 => ?_⟩)
          · have hB := foldB (p := (foldV l pol).getD i (Ty.dflt pT)) (q := (foldV l pol).getD (IntKind.i64.wrap ((i : Int) - 1)).toNat (Ty.dflt pT)) (i := i) hat.1 hat.2.1 hat.2.2.1 hat.2.2.2.1 (fun h0 => by rw [wrapId (by omega), show ((i : Int) - 1).toNat = i - 1 by omega]; exact hat.2.2.2.2 h0); rw [toNat_cast] at h4; exact absurd (h4.symm.trans hB) (by decide)
          · refine (Tri.skip ?_)
            refine (Tri.reg hT ?_)
            exact ⟨i + 1, hi3, (by omega), Le.weak rfl rfl rfl rfl ⟨(by first | rfl | exact iv1 (by (try simp only [decide_eq_true_eq, decide_eq_false_iff_not, toNat_cast] at *); omega)), (by first | rfl | exact iv1 (by (try simp only [decide_eq_true_eq, decide_eq_false_iff_not, toNat_cast] at *); omega)), (by first | rfl | exact iv1 (by (try simp only [decide_eq_true_eq, decide_eq_false_iff_not, toNat_cast] at *); omega)), (by first | rfl | exact iv1 (by (try simp only [decide_eq_true_eq, decide_eq_false_iff_not, toNat_cast] at *); omega)), iv1 (by omega), trivial⟩ trivial⟩
        · refine Tri.exit ?_
          refine Tri.seq (Tri.reg hT ?_)
          refine .inl (.inl ⟨_, fun _ => rfl, f47_spec (foldV l pol) (by omega), ?_⟩)
          refine ⟨_, [], trivial, rfl, rfl, fun h => ⟨rfl, rfl, rfl⟩, ?_⟩
          refine ⟨_, [], trivial, rfl, rfl, fun h => ⟨h, (.inl ⟨_, fun _ => rfl, f40_spec (foldV l pol) hF.small (by omega), rfl, rfl, rfl⟩)⟩, ?_⟩
          refine ⟨_, [], trivial, rfl, rfl, fun h => ⟨h, rfl, rfl, rfl⟩, ?_⟩
          refine ⟨⟨fun hc => hc, fun _ => trivial⟩, ?_⟩
          refine ⟨_, [], trivial, rfl, rfl, fun h => ⟨rfl, rfl, rfl⟩, ?_⟩
          refine ⟨_, [], trivial, rfl, rfl, fun h => ⟨rfl, rfl, rfl⟩, ?_⟩
          refine ⟨_, [], trivial, rfl, rfl, fun h => ⟨h, h, (.inl ⟨_, fun _ => rfl, f35_spec (foldV l pol) oth hF.small (by omega), rfl, rfl, rfl⟩)⟩, ?_⟩
          refine ⟨_, [], trivial, rfl, rfl, fun h => ⟨rfl, rfl, rfl⟩, ?_⟩
          refine ⟨_, [], trivial, rfl, rfl, fun h => ⟨rfl, rfl, rfl⟩, ?_⟩
          refine ⟨_, [], trivial, rfl, rfl, fun h => ⟨h, h, (.inl ⟨_, fun _ => rfl, f35_spec l pol hp hn, rfl, rfl, rfl⟩)⟩, ?_⟩
          refine ⟨_, [], trivial, rfl, rfl, fun h => ⟨h, h, rfl, rfl, rfl⟩, ?_⟩
          refine ⟨⟨fun hc => hc, fun _ => trivial⟩, ?_⟩
          refine ⟨_, [], trivial, rfl, rfl, fun h => ⟨rfl, rfl, rfl⟩, ?_⟩
          refine ⟨_, [], trivial, rfl, rfl, fun h => ⟨rfl, rfl, rfl⟩, ?_⟩
          refine ⟨_, [], trivial, rfl, rfl, fun h => ⟨h, h, (.inl ⟨_, fun _ => rfl, f38_spec (foldV l pol) oth hF.small (by omega), rfl, rfl, rfl⟩)⟩, ?_⟩
          refine ⟨_, [], trivial, rfl, rfl, fun h => ⟨rfl, rfl, rfl⟩, ?_⟩
          refine ⟨_, [], trivial, rfl, rfl, fun h => ⟨h, h, (.inl ⟨_, fun _ => rfl, f37_spec (foldV (foldV l pol) oth) (foldV l pol) (by rw [hF.fd oth hq.2.2.2.1 hq.2.2.2.2]; omega), rfl, rfl, rfl⟩)⟩, ?_⟩
          refine ⟨⟨fun hc => hc, fun _ => trivial⟩, ?_⟩
          refine Tri.ret ?_
          exact ⟨congrArg AV.bool (by rw [hF.fd oth hq.2.2.2.1 hq.2.2.2.2, hF.vr oth hq.2.2.2.1 hq.2.2.2.2, hF.same, decide_eq_true hF.ok.valid]; simp), trivial⟩
end Go.Proofs.Ytopnempdeopjfaa.Fx
