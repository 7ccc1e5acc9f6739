import Derived.Test.YtopnempdeopjfaaEvN
import Derived.Test.YtopnempdeopjfaaGEv4
set_option linter.all false
/- Chapter 24: EvasionAgrees. -/
namespace Go.Proofs.Ytopnempdeopjfaa.Fx
open Go Go.Fw Go.Ov
set_option maxRecDepth 8000 in
theorem f12_spec (T : List UInt8) (cuts : List Cu) (hTl : T.length ≤ 140737488351232) (hcl : cuts.length ≤ 140737488351232) : PSpec P [] 12 [.str T, .list cuT cuts] (.bool true) := by
  refine pspec_intro hT Try.func12 (by decide) rfl rfl (by kernel_rfl) rfl ?_
  refine Tri.seq (Tri.reg hT ?_)
  refine Tri.seq ?_
  refine Tri.seq (Tri.reg hT ?_)
  refine .inl (.inl ⟨_, fun _ => rfl, f34_spec, ?_⟩)
  refine (Tri.cond ⟨fun h1 => ?_, fun h1 => ?_⟩)
  · cases h1
  · refine (Tri.skip ?_)
    refine Tri.seq ?_
    refine Tri.seq (Tri.reg hT ?_)
    refine ⟨_, [], trivial, rfl, rfl, fun h => ⟨rfl, rfl, rfl⟩, ?_⟩
    refine ⟨_, [], trivial, rfl, rfl, fun h => ⟨h, rfl, rfl, rfl⟩, ?_⟩
    refine ⟨_, [], trivial, rfl, rfl, fun h => ⟨h, rfl, rfl, rfl⟩, ?_⟩
    refine ⟨⟨fun _ => trivial, fun hc => (gn hc)⟩, ?_⟩
    refine (Tri.cond ⟨fun h2 => ?_, fun h2 => ?_⟩)
    · refine Tri.seq (Tri.reg hT ?_)
      refine Tri.ret ?_
      exact ⟨rfl, trivial⟩
    · refine (Tri.skip ?_)
      have hq : T.length ≤ 60 ∧ cuts.length ≤ 12 := (by simp at h2; omega)
      refine Tri.le (⟨118, 0, 11, [(0, .str T), (1, .list cuT cuts)], [], []⟩) (Le.weak rfl rfl rfl rfl ⟨(by first | rfl | exact iv1 (by (try simp only [decide_eq_true_eq, decide_eq_false_iff_not, toNat_cast] at *); omega)), (by first | rfl | exact iv1 (by (try simp only [decide_eq_true_eq, decide_eq_false_iff_not, toNat_cast] at *); omega)), trivial⟩ trivial) ?_
      refine Tri.seq (Tri.reg hT ?_)
      refine Tri.seq ?_
      refine Tri.seq (Tri.reg hT ?_)
      refine (Tri.block ?_)
      refine (Tri.loop (ι := Nat) (fun i => ⟨118, 0, 60, [(0, .str T), (1, .list cuT cuts), (5, .own 14 (qL T cuts i).length), (6, .nils), (7, .int .i64 (i : Int))], [(14, .arr pT (qL T cuts i))], []⟩) (fun i => i ≤ cuts.length ∧ ∀ j, j < i → CutOk T (cuts.getD j (Ty.dflt cuT))) (fun i => cuts.length - i) (0) ?_ ?_ ?_)
      · exact ⟨Nat.zero_le _, fun j hj => absurd hj (Nat.not_lt_zero j)⟩
      · exact Le.trans (Le.own 5 pT rfl) (Le.weak rfl rfl rfl rfl ⟨(by first | rfl | exact iv1 (by (try simp only [decide_eq_true_eq, decide_eq_false_iff_not, toNat_cast] at *); omega)), (by first | rfl | exact iv1 (by (try simp only [decide_eq_true_eq, decide_eq_false_iff_not, toNat_cast] at *); omega)), (by first | rfl | exact iv1 (by (try simp only [decide_eq_true_eq, decide_eq_false_iff_not, toNat_cast] at *); omega)), (by first | rfl | exact iv1 (by (try simp only [decide_eq_true_eq, decide_eq_false_iff_not, toNat_cast] at *); omega)), (by first | rfl | exact iv1 (by (try simp only [decide_eq_true_eq, decide_eq_false_iff_not, toNat_cast] at *); omega)), trivial⟩ ⟨rfl, trivial⟩)
      · intro i hi
        refine Tri.seq ?_
        refine Tri.seq (Tri.reg hT ?_)
        refine (Tri.cond ⟨fun h3 => ?_, fun h3 => ?_⟩)
        · refine (Tri.skip ?_)
          refine Tri.seq (Tri.block ?_)
          have hi3 := i_lt h3; have hql := qL_len T hi.1
          refine Tri.seq (Tri.drw hT hm 11 (by kernel_rfl) ?_)
          refine ⟨(by first | ((try simp only [decide_eq_true_eq, decide_eq_false_iff_not, toNat_cast] at *); omega) | decide), ?_⟩
          refine ⟨(by first | ((try simp only [decide_eq_true_eq, decide_eq_false_iff_not, toNat_cast] at *); omega) | decide), ?_⟩
          refine ⟨(by first | ((try simp only [decide_eq_true_eq, decide_eq_false_iff_not, toNat_cast] at *); omega) | decide), ?_⟩
          refine ⟨(by first | ((try simp only [decide_eq_true_eq, decide_eq_false_iff_not, toNat_cast] at *); omega) | decide), ?_⟩
          refine ⟨by kernel_rfl, ?_⟩
          refine Tri.seq ?_
          refine Tri.seq (Tri.reg hT ?_)
          refine ⟨_, [], trivial, rfl, rfl, fun h => ⟨rfl, rfl, rfl⟩, ?_⟩
          refine ⟨_, [], trivial, rfl, rfl, fun h => ⟨rfl, rfl, rfl⟩, ?_⟩
          refine ⟨_, [], trivial, rfl, rfl, fun h => ⟨h, rfl, rfl, rfl⟩, ?_⟩
          refine ⟨_, [], trivial, rfl, rfl, fun h => ⟨h, h, rfl, rfl, rfl⟩, ?_⟩
          refine ⟨⟨fun _ => trivial, fun hc => (gn hc)⟩, ?_⟩
          refine ⟨_, [], trivial, rfl, rfl, fun h => ⟨rfl, rfl, rfl⟩, ?_⟩
          refine ⟨_, [], trivial, rfl, rfl, fun h => ⟨rfl, rfl, rfl⟩, ?_⟩
          refine ⟨_, [], trivial, rfl, rfl, fun h => ⟨h, h, rfl, rfl, rfl⟩, ?_⟩
          refine ⟨⟨fun _ => trivial, fun hc => (gn hc)⟩, ?_⟩
          refine ⟨_, [], trivial, rfl, rfl, fun h => ⟨rfl, rfl, rfl⟩, ?_⟩
          refine ⟨_, [], trivial, rfl, rfl, fun h => ⟨rfl, rfl, rfl⟩, ?_⟩
          refine ⟨_, [], trivial, rfl, rfl, fun h => ⟨h, rfl, rfl, rfl⟩, ?_⟩
          refine ⟨_, [], trivial, rfl, rfl, fun h => ⟨h, h, rfl, rfl, rfl⟩, ?_⟩
          refine ⟨⟨fun _ => trivial, fun hc => (gn hc)⟩, ?_⟩
          refine (Tri.cond ⟨fun h4 => ?_, fun h4 => ?_⟩)
          · refine Tri.seq (Tri.reg hT ?_)
            refine Tri.ret ?_
            exact ⟨rfl, trivial⟩
          · refine (Tri.skip ?_)
            have hc4 := agrC h4; simp only [toNat_cast] at hc4
            refine (Tri.reg hT ?_)
            refine ⟨by simp only [toNat_cast]; omega, ?_⟩
            refine ⟨(Nat.le_refl _), (by show _ ≤ _ ∧ (_ + 1) * _ ≤ _ ∧ _ + 1 ≤ _; dsimp only; (try simp only [decide_eq_true_eq, decide_eq_false_iff_not, toNat_cast] at *); omega), ?_⟩
            refine (Tri.reg hT ?_)
            exact ⟨(i + 1), ⟨hi3, fun j hj => by rcases Nat.lt_succ_iff_lt_or_eq.1 hj with q | q; exact hi.2 j q; rw [q]; exact ⟨hc4.1, hc4.2.2.1, hc4.2.2.2⟩⟩, (by omega), Le.weak rfl rfl rfl rfl ⟨(by first | rfl | exact iv1 (by (try simp only [decide_eq_true_eq, decide_eq_false_iff_not, toNat_cast] at *); omega)), (by first | rfl | exact iv1 (by (try simp only [decide_eq_true_eq, decide_eq_false_iff_not, toNat_cast] at *); omega)), congrArg (AV.own 14) (by rw [(show qL T cuts (i + 1) = qL T cuts i ++ [qP T (cuts.getD i (Ty.dflt cuT))] from (qL_next T hi3).symm)]; exact List.length_append.symm), (by first | rfl | exact iv1 (by (try simp only [decide_eq_true_eq, decide_eq_false_iff_not, toNat_cast] at *); omega)), iv1 (by omega), trivial⟩ ⟨congrArg (fun l => some (Chunk.arr _ l)) (by rw [(show qL T cuts (i + 1) = qL T cuts i ++ [qP T (cuts.getD i (Ty.dflt cuT))] from (qL_next T hi3).symm)]; first | rfl | (rw [List.take_length]; rfl)), trivial⟩⟩
        · refine Tri.exit ?_
          refine Tri.seq ?_
          have hiN : i = cuts.length := (by have := of_decide_eq_false h3; have := hi.1; omega); subst hiN; have hA := agrok_q hq.1 hq.2 hi.2; have hql := qL_len T (Nat.le_refl cuts.length); generalize hL : qL T cuts cuts.length = L at *
          refine Tri.seq (Tri.reg hT ?_)
          refine (Tri.block ?_)
          refine (Tri.loop (ι := Nat) (fun k => ⟨118, 0, 90, [(0, .str T), (5, .list pT L), (6, .own 68 (L.reverse.take k).length), (10, .int .i64 ((L.length : Int) - 1 - k))], [(68, .arr pT (L.reverse.take k))], []⟩) (fun k => k ≤ L.length) (fun k => L.length - k) (0) ?_ ?_ ?_)
          · exact Nat.zero_le _
          · exact Le.trans (Le.own 6 pT rfl) (Le.trans (Le.freeze 5 14 _ rfl rfl (by omega)) (Le.weak rfl rfl rfl rfl ⟨(by first | rfl | exact iv1 (by (try simp only [decide_eq_true_eq, decide_eq_false_iff_not, toNat_cast] at *); omega)), congrArg (AV.list pT) (List.take_length), (by first | rfl | exact iv1 (by (try simp only [decide_eq_true_eq, decide_eq_false_iff_not, toNat_cast] at *); omega)), (show AV.int .i64 (IntKind.i64.wrap ((L.length : Int) - 1)) = AV.int .i64 ((L.length : Int) - 1 - ((0 : Nat) : Int)) from congrArg (AV.int .i64) (by rw [wrapId (by omega)]; omega)), trivial⟩ ⟨rfl, trivial⟩))
          · intro k hk
            refine Tri.seq ?_
            refine Tri.seq (Tri.reg hT ?_)
            refine (Tri.cond ⟨fun h5 => ?_, fun h5 => ?_⟩)
            · refine (Tri.skip ?_)
              refine Tri.seq (Tri.block ?_)
              have hk5 : k < L.length := (by have := of_decide_eq_true h5; omega); have hrl : (L.reverse.take k).length = k := (by rw [List.length_take, List.length_reverse]; omega); have ek : ((L.length : Int) - 1 - k).toNat = L.length - 1 - k := (by omega); have hrn := rev_next hk5; rw [← ek] at hrn
              refine (Tri.reg hT ?_)
              refine ⟨by omega, ?_⟩
              refine ⟨(Nat.le_refl _), (by show _ ≤ _ ∧ (_ + 1) * _ ≤ _ ∧ _ + 1 ≤ _; dsimp only; (try simp only [decide_eq_true_eq, decide_eq_false_iff_not, toNat_cast] at *); omega), ?_⟩
              refine (Tri.reg hT ?_)
              exact ⟨(k + 1), hk5, (by omega), Le.weak rfl rfl rfl rfl ⟨(by first | rfl | exact iv1 (by (try simp only [decide_eq_true_eq, decide_eq_false_iff_not, toNat_cast] at *); omega)), (by first | rfl | exact iv1 (by (try simp only [decide_eq_true_eq, decide_eq_false_iff_not, toNat_cast] at *); omega)), congrArg (AV.own 68) (by rw [(hrn.symm)]; exact List.length_append.symm), congrArg (AV.int .i64) (by rw [wrapId (by omega)]; omega), trivial⟩ ⟨congrArg (fun l => some (Chunk.arr _ l)) (by rw [(hrn.symm)]; first | rfl | (rw [List.take_length]; rfl)), trivial⟩⟩
            · refine Tri.exit ?_
              have hkN : k = L.length := (by have := of_decide_eq_false h5; omega); subst hkN; have hB := hA.rev; have hrl : L.reverse.take L.length = L.reverse := List.take_of_length_le (by rw [List.length_reverse]; exact Nat.le_refl _); rw [hrl]; have hsm := hA.small; have hsmB := hB.small; have hlenB : L.reverse.length ≤ 12 := hB.len; have hlenA := hA.len; have kA : PSpec P [] 40 [.list pT L] (.bool false) := (by have h := f40_spec L hsm (by omega); rw [decide_eq_true hA.all] at h; exact h); have kB : PSpec P [] 40 [.list pT L.reverse] (.bool false) := (by have h := f40_spec L.reverse hsmB (by omega); rw [decide_eq_true hB.all] at h; exact h); have kV2 : PSpec P [] 35 [.list pT L.reverse, .int .i64 2] (.str (varE L 1)) := (by have h := f35_spec L.reverse 2 hsmB (by omega); rw [hB.same hA (fun p => List.mem_reverse) (by decide) (by decide) (q := 1) (by decide) (by decide)] at h; exact h); have kW : PSpec P [] 42 [.list pT [(0, T, 0, 0, ())]] (.int .i64 (-1)) := (by have hO := agrok_one hq.1; have h := f42_spec [(0, T, 0, 0, ())] hO.small (by simp) (varE_len _ hO.small); rw [where_neg.2 hO.all] at h; exact h); have hpre := hA.prefix; refine Tri.le _ (Le.freeze 6 68 _ rfl rfl (Nat.le_refl _)) ?_; rw [List.take_length]
              refine Tri.seq (Tri.reg hT ?_)
              refine .inl (.inl ⟨_, fun _ => rfl, f35_spec L 1 hsm (by omega), ?_⟩)
              refine Tri.seq (Tri.regM hT [4, 5, 6, 9, 10, 11, 12, 15, 16, 17, 18, 19, 22, 23, 24, 25, 26, 27, 30, 31, 32, 33, 34] ?_)
              refine .inl (.inl ⟨_, fun _ => rfl, kA, ?_⟩)
              refine ⟨_, Le.refl _, .inr (.inl ⟨_, rfl, (by refine (congrArg some ?_ : some _ = some true); simp [gd, hpre]), .inl ?_⟩)⟩
              refine ⟨_, Le.refl _, .inr (.inl ⟨_, rfl, (by refine (congrArg some ?_ : some _ = some true); simp [gd, hpre]), .inl ?_⟩)⟩
              refine .inl (.inl ⟨_, fun _ => rfl, kB, ?_⟩)
              refine ⟨_, Le.refl _, .inr (.inl ⟨_, rfl, (by refine (congrArg some ?_ : some _ = some true); simp [gd, hpre]), .inl ?_⟩)⟩
              refine ⟨⟨fun _ => trivial, fun _ => trivial⟩, ?_⟩
              refine ⟨_, Le.refl _, .inr (.inl ⟨_, rfl, (by refine (congrArg some ?_ : some _ = some true); simp [gd, hpre]), .inl ?_⟩)⟩
              refine ⟨_, Le.refl _, .inr (.inl ⟨_, rfl, (by refine (congrArg some ?_ : some _ = some true); simp [gd, hpre]), .inl ?_⟩)⟩
              refine .inl (.inl ⟨_, fun _ => rfl, kV2, ?_⟩)
              refine ⟨_, Le.refl _, .inr (.inl ⟨_, rfl, (by refine (congrArg some ?_ : some _ = some true); simp [gd, hpre]), .inl ?_⟩)⟩
              refine ⟨_, Le.refl _, .inr (.inl ⟨_, rfl, (by refine (congrArg some ?_ : some _ = some true); simp [gd, hpre]), .inl ?_⟩)⟩
              refine ⟨⟨fun _ => trivial, fun _ => trivial⟩, ?_⟩
              refine ⟨_, Le.refl _, .inr (.inl ⟨_, rfl, (by refine (congrArg some ?_ : some _ = some true); simp [gd, hpre]), .inl ?_⟩)⟩
              refine ⟨_, Le.refl _, .inr (.inl ⟨_, rfl, (by refine (congrArg some ?_ : some _ = some true); simp [gd, hpre]), .inl ?_⟩)⟩
              refine ⟨_, Le.refl _, .inr (.inl ⟨_, rfl, (by refine (congrArg some ?_ : some _ = some true); simp [gd, hpre]), .inl ?_⟩)⟩
              refine ⟨_, Le.refl _, .inr (.inl ⟨_, rfl, (by refine (congrArg some ?_ : some _ = some true); simp [gd, hpre]), .inl ?_⟩)⟩
              refine ⟨_, Le.refl _, .inr (.inl ⟨_, rfl, (by refine (congrArg some ?_ : some _ = some true); simp [gd, hpre]), .inl ?_⟩)⟩
              refine ⟨⟨fun _ => trivial, fun _ => trivial⟩, ?_⟩
              refine ⟨_, Le.refl _, .inr (.inl ⟨_, rfl, (by refine (congrArg some ?_ : some _ = some true); simp [gd, hpre]), .inl ?_⟩)⟩
              refine ⟨_, Le.refl _, .inr (.inl ⟨_, rfl, (by refine (congrArg some ?_ : some _ = some true); simp [gd, hpre]), .inl ?_⟩)⟩
              refine ⟨_, Le.refl _, .inr (.inl ⟨_, rfl, (by refine (congrArg some ?_ : some _ = some true); simp [gd, hpre]), .inl ?_⟩)⟩
              refine ⟨_, Le.refl _, .inr (.inl ⟨_, rfl, (by refine (congrArg some ?_ : some _ = some true); simp [gd, hpre]), .inl ?_⟩)⟩
              refine ⟨by have := hpre.1; omega, ?_⟩
              refine ⟨_, Le.refl _, .inr (.inl ⟨_, rfl, (by refine (congrArg some ?_ : some _ = some true); simp [gd, hpre]), .inl ?_⟩)⟩
              refine ⟨_, Le.refl _, .inr (.inl ⟨_, rfl, (by refine (congrArg some ?_ : some _ = some true); simp [gd, hpre]), .inl ?_⟩)⟩
              refine ⟨⟨fun _ => trivial, fun _ => trivial⟩, ?_⟩
              refine ⟨_, Le.refl _, .inr (.inl ⟨_, rfl, (by refine (congrArg some ?_ : some _ = some true); simp [gd, hpre]), .inl ?_⟩)⟩
              refine ⟨_, Le.refl _, .inr (.inl ⟨_, rfl, (by refine (congrArg some ?_ : some _ = some true); simp [gd, hpre]), .inl ?_⟩)⟩
              refine ⟨_, Le.refl _, .inr (.inl ⟨_, rfl, (by refine (congrArg some ?_ : some _ = some true); simp [gd, hpre]), .inl ?_⟩)⟩
              refine ⟨_, (Le.freeze 114 127 1 rfl rfl (Nat.le_refl 1)), .inr (.inl ⟨_, rfl, (by refine (congrArg some ?_ : some _ = some true); simp [gd, hpre]), .inl ?_⟩)⟩
              refine .inl (.inl ⟨_, fun _ => rfl, kW, ?_⟩)
              refine ⟨_, Le.refl _, .inr (.inl ⟨_, rfl, (by refine (congrArg some ?_ : some _ = some true); simp [gd, hpre]), .inl ?_⟩)⟩
              refine ⟨⟨fun _ => trivial, fun _ => trivial⟩, ?_⟩
              refine Tri.ret ?_
              exact ⟨congrArg AV.bool (by simp [hpre]), trivial⟩
end Go.Proofs.Ytopnempdeopjfaa.Fx
