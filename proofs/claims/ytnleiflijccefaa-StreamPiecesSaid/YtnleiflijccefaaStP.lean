/- Chapter 20: StreamPieces. -/
import Derived.Test.YtnleiflijccefaaStW
import Derived.Test.YtnleiflijccefaaSt9
set_option linter.all false
namespace Go.Proofs.Ytnleiflijccefaa.Fx
open Go Go.Fw Go.Ov
set_option maxRecDepth 8000 in
theorem f9_spec (x : Stt) (l : List Ca) (hl : l.length ≤ 140737488351232) : PSpec P [] 9 [stv x, .list kT l] (.bool true) := by
  refine pspec_intro hT Try.func9 (by decide) rfl rfl (by kernel_rfl) rfl ?_
  refine Tri.seq (Tri.reg hT ?_)
  refine Tri.seq ?_
  refine Tri.seq (Tri.reg hT ?_)
  refine ⟨_, [], trivial, rfl, rfl, fun h => ⟨rfl, rfl, rfl⟩, ?_⟩
  refine ⟨_, [], trivial, rfl, rfl, fun h => ⟨h, (.inl ⟨_, fun _ => rfl, f31_spec l hl, rfl, rfl, rfl⟩)⟩, ?_⟩
  refine ⟨⟨fun _ => trivial, fun hc => (gn hc)⟩, ?_⟩
  refine (Tri.cond ⟨fun h1 => ?_, fun h1 => ?_⟩)
  · refine Tri.seq (Tri.reg hT ?_)
    refine .inl (.inl ⟨_, fun _ => rfl, f32_spec .., ?_⟩)
    refine Tri.ret ?_
    exact ⟨rfl, trivial⟩
  · refine (Tri.skip ?_)
    have h12 : l.length ≤ 12 := (by by_cases h9 : (l.length : Int) > 12; (simp [h9] at h1); omega); have hlg : longC l = false := (by by_cases h9 : (l.length : Int) > 12; (simp [h9] at h1); (simpa [h9] using h1)); have hlg := (longC_f hlg).2; have pinv := fun (i : Nat) (hi : i ≤ l.length) => pcs_inv x h12 hlg hi
    refine Tri.seq (Tri.reg hT ?_)
    refine .inl (.inr (.inr ⟨_, (by exact fun _ => rfl), f22_spec x.1 1000 x.2.2.1, ?_⟩))
    refine Tri.seq ?_
    refine Tri.seq (Tri.reg hT ?_)
    refine (Tri.cond ⟨fun h2 => ?_, fun h2 => ?_⟩)
    · exact absurd h2 (by decide)
    · refine (Tri.skip ?_)
      refine Tri.seq (Tri.reg hT ?_)
      refine Tri.seq (Tri.reg hT ?_)
      refine Tri.seq ?_
      refine Tri.seq (Tri.reg hT ?_)
      refine (Tri.block ?_)
      refine (Tri.loop (ι := Nat) (fun i => ⟨142, 0, 60, [(1, .list kT l), (2, .loc 0 0), (5, .loc 13 0), (6, .int .i64 (polX x)), (7, .list pT (pcsS x (l.take i))), (40, .list kT l), (41, .int .i64 l.length), (42, .int .i64 (i : Int))], [(0, .box [.int .u32 x.1, .int .i64 x.2.1, .int .i64 x.2.2.1]), (13, .box (bxS (sP x (pcsS x (l.take i)))))], []⟩) (fun i => i ≤ l.length) (fun i => l.length - i) (0) ?_ ?_ ?_)
      · exact Nat.zero_le _
      · exact Le.trans (Le.freeze 7 _ _ rfl rfl (Nat.le_refl _)) (Le.weak rfl rfl rfl rfl ⟨(by first | rfl | exact iv1 (by (try simp only [decide_eq_true_eq, decide_eq_false_iff_not, toNat_cast] at *); omega)), (by first | rfl | exact iv1 (by (try simp only [decide_eq_true_eq, decide_eq_false_iff_not, toNat_cast] at *); omega)), (by first | rfl | exact iv1 (by (try simp only [decide_eq_true_eq, decide_eq_false_iff_not, toNat_cast] at *); omega)), (by first | rfl | exact iv1 (by (try simp only [decide_eq_true_eq, decide_eq_false_iff_not, toNat_cast] at *); omega)), (by first | rfl | exact iv1 (by (try simp only [decide_eq_true_eq, decide_eq_false_iff_not, toNat_cast] at *); omega)), (by first | rfl | exact iv1 (by (try simp only [decide_eq_true_eq, decide_eq_false_iff_not, toNat_cast] at *); omega)), (by first | rfl | exact iv1 (by (try simp only [decide_eq_true_eq, decide_eq_false_iff_not, toNat_cast] at *); omega)), (by first | rfl | exact iv1 (by (try simp only [decide_eq_true_eq, decide_eq_false_iff_not, toNat_cast] at *); omega)), trivial⟩ ⟨rfl, rfl, trivial⟩)
      · intro i hi
        refine Tri.seq (Tri.reg hT ?_)
        refine Tri.seq (Tri.cond ⟨fun h3 => ?_, fun h3 => ?_⟩)
        · refine (Tri.skip ?_)
          refine Tri.seq (Tri.block ?_)
          have hi' := i_lt h3; have pi := pinv i hi; have en := pcs_next x hi'; have hlc := hlg i hi'; have hs := pi.s (x := x); have hsz := hs.size
          refine Tri.seq (Tri.reg hT ?_)
          refine Tri.seq ?_
          refine Tri.seq (Tri.reg hT ?_)
          refine ⟨by omega, ?_⟩
          refine ⟨_, [], trivial, rfl, rfl, fun h => ⟨rfl, rfl, rfl⟩, ?_⟩
          refine ⟨_, [], trivial, rfl, rfl, fun h => ⟨rfl, rfl, rfl⟩, ?_⟩
          refine ⟨_, [], trivial, rfl, rfl, fun h => ⟨h, h, by omega, rfl, rfl, rfl⟩, ?_⟩
          refine ⟨_, [], trivial, rfl, rfl, fun h => ⟨h, rfl, rfl, rfl⟩, ?_⟩
          refine ⟨_, [], trivial, rfl, rfl, fun h => ⟨h, rfl, rfl, rfl⟩, ?_⟩
          refine ⟨_, [], trivial, rfl, rfl, fun h => ⟨h, rfl, rfl, rfl⟩, ?_⟩
          refine ⟨⟨fun _ => trivial, fun hc => (gn hc)⟩, ?_⟩
          refine (Tri.cond ⟨fun h4 => ?_, fun h4 => ?_⟩)
          · refine Tri.exit ?_
            refine (Tri.reg hT ?_)
            have ec : pcsS x (l.take (i + 1)) = pcsS x (l.take i) := (by rw [en, mS]; rw [toNat_cast] at h4; exact if_pos (by simpa using h4))
            exact ⟨i + 1, hi', (by omega), Le.weak rfl rfl rfl rfl ⟨(by first | rfl | exact iv1 (by (try simp only [decide_eq_true_eq, decide_eq_false_iff_not, toNat_cast] at *); omega)), (by first | rfl | exact iv1 (by (try simp only [decide_eq_true_eq, decide_eq_false_iff_not, toNat_cast] at *); omega)), (by first | rfl | exact iv1 (by (try simp only [decide_eq_true_eq, decide_eq_false_iff_not, toNat_cast] at *); omega)), (by first | rfl | exact iv1 (by (try simp only [decide_eq_true_eq, decide_eq_false_iff_not, toNat_cast] at *); omega)), congrArg (AV.list pT) ec.symm, (by first | rfl | exact iv1 (by (try simp only [decide_eq_true_eq, decide_eq_false_iff_not, toNat_cast] at *); omega)), (by first | rfl | exact iv1 (by (try simp only [decide_eq_true_eq, decide_eq_false_iff_not, toNat_cast] at *); omega)), (by first | rfl | exact iv1 (by (try simp only [decide_eq_true_eq, decide_eq_false_iff_not, toNat_cast] at *); omega)), trivial⟩ ⟨rfl, congrArg (fun z => some (Chunk.box (bxS (sP x z)))) ec.symm, trivial⟩⟩
          · refine (Tri.skip ?_)
            have hc : ¬ ((l.getD i (Ty.dflt kT)).2.1 < 2 ∨ (l.getD i (Ty.dflt kT)).2.1 > 600) := (by rw [toNat_cast] at h4; intro hh; simp at h4 hh; omega); have kn := pi.next (x := x) (by omega) hc hlc; have w1 : IntKind.i64.wrap ((l.getD i (Ty.dflt kT)).2.1 - 1) = (l.getD i (Ty.dflt kT)).2.1 - 1 := wrapId (by omega); have em : mS (polX x) (pcsS x (l.take i)) (l.getD i (Ty.dflt kT)) = (insR (pcsS x (l.take i)) (pp (l.getD i (Ty.dflt kT))) (polX x)).1 := if_neg hc
            refine Tri.seq (Tri.drw hT hm 22 (by kernel_rfl) ?_)
            refine ⟨by omega, ?_⟩
            refine ⟨by omega, ?_⟩
            refine .inr (.inl ⟨_, _, (by exact ⟨rfl, trivial⟩), wAdd 0 hs (by decide) (by omega) kn.1 _, (by rfl), ?_⟩)
            refine ⟨by kernel_rfl, ?_⟩
            refine Tri.seq (Tri.drw hT hm 21 (by kernel_rfl) ?_)
            refine ⟨by omega, ?_⟩
            refine ⟨by omega, ?_⟩
            refine .inl ⟨_, fun _ => rfl, f35' (p := pp (l.getD i (Ty.dflt kT))) (p' := (IntKind.i64.wrap ((l.getD i (Ty.dflt kT)).2.1 - 1), (l.getD i (Ty.dflt kT)).2.2.1, 0, 0, ())) (by rw [w1]) (by have := pi.len; omega) pi.few.v (by show ((l.getD i (Ty.dflt kT)).2.2.1.length : Int) ≤ _; omega), ?_⟩
            refine ⟨by kernel_rfl, ?_⟩
            refine Tri.seq ?_
            refine Tri.seq (Tri.reg hT ?_)
            refine ⟨_, [], trivial, rfl, rfl, fun h => ⟨rfl, rfl, rfl⟩, ?_⟩
            refine ⟨_, [], trivial, rfl, rfl, fun h => ⟨h, rfl, rfl, rfl⟩, ?_⟩
            refine ⟨_, [], trivial, rfl, rfl, fun h => ⟨h, rfl, rfl, rfl⟩, ?_⟩
            refine ⟨_, [], trivial, rfl, rfl, fun h => ⟨rfl, rfl, rfl⟩, ?_⟩
            refine ⟨_, [], trivial, rfl, rfl, fun h => ⟨rfl, rfl, rfl⟩, ?_⟩
            refine ⟨_, [], trivial, rfl, rfl, fun h => ⟨h, h, rfl, rfl, rfl⟩, ?_⟩
            refine ⟨_, [], trivial, rfl, rfl, fun h => ⟨h, ⟨fun hc => ga h hc, fun _ => trivial⟩, rfl, rfl, rfl⟩, ?_⟩
            refine ⟨⟨fun _ => trivial, fun hc => (gn hc)⟩, ?_⟩
            refine ⟨_, [], trivial, rfl, rfl, fun h => ⟨rfl, rfl, rfl⟩, ?_⟩
            refine ⟨_, [], trivial, rfl, rfl, fun h => ⟨h, rfl, rfl, rfl⟩, ?_⟩
            refine ⟨_, [], trivial, rfl, rfl, fun h => ⟨h, rfl, rfl, rfl⟩, ?_⟩
            refine ⟨_, [], trivial, rfl, rfl, fun h => ⟨rfl, rfl, rfl⟩, ?_⟩
            refine ⟨_, [], trivial, rfl, rfl, fun h => ⟨h, rfl, rfl, rfl⟩, ?_⟩
            refine ⟨_, [], trivial, rfl, rfl, fun h => ⟨h, ⟨fun hc => ga h hc, fun _ => trivial⟩, rfl, rfl, rfl⟩, ?_⟩
            refine ⟨⟨fun _ => trivial, fun hc => (gn hc)⟩, ?_⟩
            refine (Tri.cond ⟨fun h5 => ?_, fun h5 => ?_⟩)
            · rw [kn.2.1] at h5; simp at h5
            · refine (Tri.skip ?_)
              refine Tri.seq (Tri.reg hT ?_)
              refine (Tri.cond ⟨fun h6 => ?_, fun h6 => ?_⟩)
              · refine (Tri.reg hT ?_)
                refine (Tri.reg hT ?_)
                exact ⟨i + 1, hi', (by omega), Le.weak rfl rfl rfl rfl ⟨(by first | rfl | exact iv1 (by (try simp only [decide_eq_true_eq, decide_eq_false_iff_not, toNat_cast] at *); omega)), (by first | rfl | exact iv1 (by (try simp only [decide_eq_true_eq, decide_eq_false_iff_not, toNat_cast] at *); omega)), (by first | rfl | exact iv1 (by (try simp only [decide_eq_true_eq, decide_eq_false_iff_not, toNat_cast] at *); omega)), (by first | rfl | exact iv1 (by (try simp only [decide_eq_true_eq, decide_eq_false_iff_not, toNat_cast] at *); omega)), congrArg (AV.list pT) (en.trans em).symm, (by first | rfl | exact iv1 (by (try simp only [decide_eq_true_eq, decide_eq_false_iff_not, toNat_cast] at *); omega)), (by first | rfl | exact iv1 (by (try simp only [decide_eq_true_eq, decide_eq_false_iff_not, toNat_cast] at *); omega)), (by first | rfl | exact iv1 (by (try simp only [decide_eq_true_eq, decide_eq_false_iff_not, toNat_cast] at *); omega)), trivial⟩ ⟨rfl, congrArg (fun z => some (Chunk.box (bxS (sP x z)))) en.symm, trivial⟩⟩
              · rw [kn.2.1] at h6; simp at h6
        · refine Tri.exit ?_
          have pi := pinv i hi; have hs := pi.s (x := x); have hsz := hs.size; have hln := pi.len; have hla := pi.last (x := x) (by omega); have htl := takeF_len (l := pcsS x (l.take i)) 1
          refine Tri.seq (Tri.reg hT ?_)
          refine .inl (.inl ⟨_, fun _ => rfl, f36_spec (pcsS x (l.take i)) 1 (by omega) (valid_inB pi.few.v) (by have e : (sP x (pcsS x (l.take i))).win = 1000 := rfl; have e2 : (sP x (pcsS x (l.take i))).l = pcsS x (l.take i) := rfl; rw [e, e2] at hsz; omega), ?_⟩)
          refine Tri.seq (Tri.reg hT ?_)
          refine .inl (.inr (.inl ⟨_, _, (by exact ⟨rfl, trivial⟩), f23_spec (sP x (pcsS x (l.take i))) 0 hs (by decide) _ _ (by decide) _, (by rfl), ?_⟩))
          refine Tri.seq (Tri.reg hT ?_)
          refine ⟨by have e : (sP x (pcsS x (l.take i))).win = 1000 := rfl; have e2 : (sP x (pcsS x (l.take i))).l = pcsS x (l.take i) := rfl; rw [e, e2] at hsz; show 1 + (takeF (pcsS x (l.take i)) 1).1.length ≤ _; omega, ?_⟩
          refine ⟨_, [], trivial, rfl, rfl, fun h => (.inl ⟨_, fun _ => rfl, f32_spec .., rfl, rfl, rfl⟩), ?_⟩
          refine ⟨⟨fun hc => hc, fun _ => trivial⟩, ?_⟩
          refine Tri.ret ?_
          exact ⟨congrArg AV.bool (if_pos (decide_eq_true hla)), trivial⟩
end Go.Proofs.Ytnleiflijccefaa.Fx
