import Derived.Test.YtopnempdeopjfaaEvN
import Derived.Test.YtopnempdeopjfaaGEv5
set_option linter.all false
/- Chapter 24: EvasionSilent. -/
namespace Go.Proofs.Ytopnempdeopjfaa.Fx
open Go Go.Fw Go.Ov
set_option maxRecDepth 8000 in
theorem f11_spec (l : List Pc) (hl : l.length ≤ 140737488355328) : PSpec P [] 11 [.list pT l] (.bool true) := by
  have e : ∀ i, i < 4 → (vL (v4 l)).take i ++ [varE l ((i + 1 : Nat) : Int)] = (vL (v4 l)).take (i + 1) := fun i hi => by
    match i, hi with
    | 0, _ => rfl
    | 1, _ => rfl
    | 2, _ => rfl
    | 3, _ => rfl
  have el : ∀ i, i ≤ 4 → ((vL (v4 l)).take i).length = i := fun i hi => by rw [List.length_take]; show min i 4 = i; omega
  refine pspec_intro hT Try.func11 (by decide) rfl rfl (by kernel_rfl) rfl ?_
  refine Tri.seq (Tri.reg hT ?_)
  refine Tri.seq ?_
  refine Tri.seq (Tri.reg hT ?_)
  refine .inl (.inl ⟨_, fun _ => rfl, f34_spec, ?_⟩)
  refine (Tri.cond ⟨fun h1 => ?_, fun h1 => ?_⟩)
  · cases h1
  · refine (Tri.skip ?_)
    refine Tri.seq ?_
    refine Tri.seq (Tri.reg hT ?_)
    refine .inl (.inl ⟨_, fun _ => rfl, f33_spec l 70 400 hl (by decide) (by decide) (by decide) (by decide), ?_⟩)
    refine (Tri.cond ⟨fun h2 => ?_, fun h2 => ?_⟩)
    · refine Tri.seq (Tri.reg hT ?_)
      refine Tri.ret ?_
      exact ⟨rfl, trivial⟩
    · refine (Tri.skip ?_)
      have hf : l.length ≤ 70 ∧ lenSum l ≤ 400 ∧ (cells l).length ≤ 400 := few_of (by cases hb : fewR l 70 400 <;> simp_all); have hn : l.length ≤ 140737488351232 := (by have := hf.1; omega); have hp := few_pd hf.2.1; have hb := varE_len l hp
      refine Tri.seq (Tri.reg hT ?_)
      refine Tri.seq ?_
      refine Tri.seq (Tri.reg hT ?_)
      refine (Tri.block ?_)
      refine (Tri.loop (ι := Nat) (fun i => ⟨289, 0, 30, [(0, .list pT l), (3, .own 8 ((vL (v4 l)).take i).length), (4, .int .i64 ((i + 1 : Nat) : Int))], [(8, .arr .str ((vL (v4 l)).take i))], []⟩) (fun i => i ≤ 4) (fun i => 4 - i) (0) ?_ ?_ ?_)
      · exact Nat.zero_le _
      · exact Le.trans (Le.own 3 .str rfl) (Le.weak rfl rfl rfl rfl ⟨(by first | rfl | exact iv1 (by (try simp only [decide_eq_true_eq, decide_eq_false_iff_not, toNat_cast] at *); omega)), (by first | rfl | exact iv1 (by (try simp only [decide_eq_true_eq, decide_eq_false_iff_not, toNat_cast] at *); omega)), (by first | rfl | exact iv1 (by (try simp only [decide_eq_true_eq, decide_eq_false_iff_not, toNat_cast] at *); omega)), trivial⟩ ⟨rfl, trivial⟩)
      · intro i hi
        refine Tri.seq ?_
        refine Tri.seq (Tri.reg hT ?_)
        refine (Tri.cond ⟨fun h3 => ?_, fun h3 => ?_⟩)
        · refine (Tri.skip ?_)
          refine Tri.seq (Tri.block ?_)
          have hlt : i < 4 := (by have := of_decide_eq_true h3; omega); have w1 : IntKind.i64.wrap (((i + 1 : Nat) : Int) + 1) = ((i + 1 + 1 : Nat) : Int) := (by rw [wrapId (by omega)]; omega); have hel := el i (by omega)
          refine (Tri.reg hT ?_)
          refine .inl (.inl ⟨_, fun _ => rfl, f35_spec l _ hp hn, ?_⟩)
          refine ⟨(Nat.le_refl _), (by show _ ≤ _ ∧ (_ + 1) * _ ≤ _ ∧ _ + 1 ≤ _; dsimp only; (try simp only [decide_eq_true_eq, decide_eq_false_iff_not, toNat_cast] at *); omega), ?_⟩
          refine (Tri.reg hT ?_)
          exact ⟨i + 1, hlt, (by omega), Le.weak rfl rfl rfl rfl ⟨(by first | rfl | exact iv1 (by (try simp only [decide_eq_true_eq, decide_eq_false_iff_not, toNat_cast] at *); omega)), congrArg (AV.own 8) (by rw [(e i hlt).symm]; exact List.length_append.symm), congrArg (AV.int .i64) w1, trivial⟩ ⟨congrArg (fun l => some (Chunk.arr _ l)) (by rw [(e i hlt).symm]; first | rfl | (rw [List.take_length]; rfl)), trivial⟩⟩
        · refine Tri.exit ?_
          have hiN : i = 4 := (by have := of_decide_eq_false h3; omega); subst hiN; clear e el; obtain ⟨v, hv⟩ : ∃ v, v4 l = v := ⟨_, rfl⟩; have kA : PSpec P [] 40 [.list pT l] (.bool (!decide (AllEq v))) := (by have h := f40_spec l hp hn; rw [hv] at h; exact h); have kW : PSpec P [] 42 [.list pT l] (.int .i64 (whereM v)) := (by have h := f42_spec l hp hn hb; rw [hv] at h; exact h); have kK : PSpec P [] 45 [.list pT l] (.list (.list (.int .i64)) (kindsM v)) := (by have h := f45_spec l hp hn; rw [hv] at h; exact h); have hvb : v.1.length ≤ 4294967296 := (by rw [← hv]; exact hb 1); rw [hv]; clear hv; have hVl : (vL v).length = 4 := rfl; refine Tri.le _ (Le.freeze 3 8 _ rfl rfl (Nat.le_refl _)) ?_
          refine Tri.le (⟨289, 0, 40, [(0, .list pT l), (3, .list .str (vL v))], [], []⟩) (Le.weak rfl rfl rfl rfl ⟨(by first | rfl | exact iv1 (by (try simp only [decide_eq_true_eq, decide_eq_false_iff_not, toNat_cast] at *); omega)), (by first | rfl | exact iv1 (by (try simp only [decide_eq_true_eq, decide_eq_false_iff_not, toNat_cast] at *); omega)), trivial⟩ trivial) ?_
          refine Tri.seq (Tri.drw hT hm 25 (by kernel_rfl) ?_)
          refine ⟨(by first | ((try simp only [decide_eq_true_eq, decide_eq_false_iff_not, toNat_cast] at *); omega) | decide), ?_⟩
          refine ⟨(by first | ((try simp only [decide_eq_true_eq, decide_eq_false_iff_not, toNat_cast] at *); omega) | decide), ?_⟩
          refine ⟨_, [], trivial, rfl, rfl, fun h => ⟨rfl, rfl, rfl⟩, ?_⟩
          refine ⟨_, [], trivial, rfl, rfl, fun h => ⟨h, (by first | ((try simp only [decide_eq_true_eq, decide_eq_false_iff_not, toNat_cast] at *); omega) | decide), rfl, rfl, rfl⟩, ?_⟩
          refine ⟨_, [], trivial, rfl, rfl, fun h => ⟨h, rfl, rfl, rfl⟩, ?_⟩
          refine ⟨_, [], trivial, rfl, rfl, fun h => ⟨rfl, rfl, rfl⟩, ?_⟩
          refine ⟨_, [], trivial, rfl, rfl, fun h => ⟨h, (by first | ((try simp only [decide_eq_true_eq, decide_eq_false_iff_not, toNat_cast] at *); omega) | decide), rfl, rfl, rfl⟩, ?_⟩
          refine ⟨_, [], trivial, rfl, rfl, fun h => ⟨h, rfl, rfl, rfl⟩, ?_⟩
          refine ⟨_, [], trivial, rfl, rfl, fun h => ⟨h, h, rfl, rfl, rfl⟩, ?_⟩
          refine ⟨⟨fun hc => hc, fun _ => trivial⟩, ?_⟩
          refine ⟨_, [], trivial, rfl, rfl, fun h => ⟨rfl, rfl, rfl⟩, ?_⟩
          refine ⟨_, [], trivial, rfl, rfl, fun h => ⟨h, (by first | ((try simp only [decide_eq_true_eq, decide_eq_false_iff_not, toNat_cast] at *); omega) | decide), rfl, rfl, rfl⟩, ?_⟩
          refine ⟨_, [], trivial, rfl, rfl, fun h => ⟨h, rfl, rfl, rfl⟩, ?_⟩
          refine ⟨_, [], trivial, rfl, rfl, fun h => ⟨rfl, rfl, rfl⟩, ?_⟩
          refine ⟨_, [], trivial, rfl, rfl, fun h => ⟨h, (by first | ((try simp only [decide_eq_true_eq, decide_eq_false_iff_not, toNat_cast] at *); omega) | decide), rfl, rfl, rfl⟩, ?_⟩
          refine ⟨_, [], trivial, rfl, rfl, fun h => ⟨h, rfl, rfl, rfl⟩, ?_⟩
          refine ⟨_, [], trivial, rfl, rfl, fun h => ⟨h, h, rfl, rfl, rfl⟩, ?_⟩
          refine ⟨⟨fun hc => hc, fun _ => trivial⟩, ?_⟩
          refine ⟨by kernel_rfl, ?_⟩
          skip
          refine Tri.le (⟨289, 0, 80, [(0, .list pT l), (3, .list .str (vL v)), (5, .bool (decide (AllEq v)))], [], []⟩) (Le.weak rfl rfl rfl rfl ⟨(by first | rfl | exact iv1 (by (try simp only [decide_eq_true_eq, decide_eq_false_iff_not, toNat_cast] at *); omega)), (by first | rfl | exact iv1 (by (try simp only [decide_eq_true_eq, decide_eq_false_iff_not, toNat_cast] at *); omega)), congrArg AV.bool (eqv4 v.1 v.2.1 v.2.2.1 v.2.2.2), trivial⟩ trivial) ?_
          refine Tri.seq (Tri.reg hT ?_)
          refine .inl (.inl ⟨_, fun _ => rfl, kW, ?_⟩)
          refine Tri.seq ?_
          refine Tri.seq (Tri.reg hT ?_)
          refine .inl (.inl ⟨_, fun _ => rfl, kA, ?_⟩)
          refine ⟨_, [], trivial, rfl, rfl, fun h => ⟨rfl, rfl, rfl⟩, ?_⟩
          refine ⟨_, [], trivial, rfl, rfl, fun h => ⟨h, rfl, rfl, rfl⟩, ?_⟩
          refine ⟨_, [], trivial, rfl, rfl, fun h => ⟨rfl, rfl, rfl⟩, ?_⟩
          refine ⟨_, [], trivial, rfl, rfl, fun h => ⟨h, h, rfl, rfl, rfl⟩, ?_⟩
          refine ⟨⟨fun _ => trivial, fun hc => (gn hc)⟩, ?_⟩
          refine (Tri.cond ⟨fun h4 => ?_, fun h4 => ?_⟩)
          · exfalso; by_cases hA : AllEq v; (have hw := where_neg.2 hA; simp [hA, hw] at h4); (have hw : ¬ whereM v = -1 := fun h => hA (where_neg.1 h); simp [hA, hw] at h4)
          · refine (Tri.skip ?_)
            refine Tri.join (True) (⟨289, 0, 60, [(0, .list pT l), (3, .list .str (vL v))], [], []⟩) ?_ fun hp6 => ?_
            · refine Tri.seq (Tri.reg hT ?_)
              refine (Tri.cond ⟨fun h5 => ?_, fun h5 => ?_⟩)
              · have hA : ¬ AllEq v := (by simpa using h5); obtain ⟨n, hF⟩ := firstAt hA; have hlv : ∀ j, j < 4 → n ≤ (vAt v j).length := (fun j hj => hF.len hj); have hb4 : n ≤ 4294967296 := Nat.le_trans (hlv 0 (by decide)) hvb
                refine Tri.le (⟨289, 0, 110, [(0, .list pT l), (3, .list .str (vL v)), (6, .int .i64 (n : Int))], [], []⟩) (Le.weak rfl rfl rfl rfl ⟨(by first | rfl | exact iv1 (by (try simp only [decide_eq_true_eq, decide_eq_false_iff_not, toNat_cast] at *); omega)), (by first | rfl | exact iv1 (by (try simp only [decide_eq_true_eq, decide_eq_false_iff_not, toNat_cast] at *); omega)), congrArg (AV.int .i64) hF.w, trivial⟩ trivial) ?_
                refine Tri.seq (Tri.reg hT ?_)
                refine Tri.seq ?_
                refine Tri.seq (Tri.reg hT ?_)
                refine (Tri.block ?_)
                refine (Tri.loop (ι := Nat) (fun j => ⟨289, 0, 130, [(0, .list pT l), (3, .list .str (vL v)), (6, .int .i64 (n : Int)), (7, .bool (difN v n j)), (8, .int .i64 (j : Int))], [], []⟩) (fun j => j ≤ 4) (fun j => 4 - j) (0) ?_ ?_ ?_)
                · exact Nat.zero_le _
                · exact Le.weak rfl rfl rfl rfl ⟨(by first | rfl | exact iv1 (by (try simp only [decide_eq_true_eq, decide_eq_false_iff_not, toNat_cast] at *); omega)), (by first | rfl | exact iv1 (by (try simp only [decide_eq_true_eq, decide_eq_false_iff_not, toNat_cast] at *); omega)), (by first | rfl | exact iv1 (by (try simp only [decide_eq_true_eq, decide_eq_false_iff_not, toNat_cast] at *); omega)), (by first | rfl | exact iv1 (by (try simp only [decide_eq_true_eq, decide_eq_false_iff_not, toNat_cast] at *); omega)), (by first | rfl | exact iv1 (by (try simp only [decide_eq_true_eq, decide_eq_false_iff_not, toNat_cast] at *); omega)), trivial⟩ trivial
                · intro j hj
                  refine Tri.seq ?_
                  refine Tri.seq (Tri.reg hT ?_)
                  refine (Tri.cond ⟨fun h6 => ?_, fun h6 => ?_⟩)
                  · refine (Tri.skip ?_)
                    refine Tri.seq (Tri.block ?_)
                    refine Tri.seq ?_
                    have hj4 : j < 4 := (by have := of_decide_eq_true h6; omega); have hVj : (vL v).getD j [] = vAt v j := vL_at v hj4 []; have hV0 : (vL v).getD 0 [] = vAt v 0 := vL_at v (by decide) []; have hlj := hlv j hj4; have hl0 := hlv 0 (by decide)
                    refine Tri.seq (Tri.drw hT hm 25 (by kernel_rfl) ?_)
                    refine ⟨_, [], trivial, rfl, rfl, fun h => ⟨rfl, rfl, rfl⟩, ?_⟩
                    refine ⟨_, [], trivial, rfl, rfl, fun h => ⟨rfl, rfl, rfl⟩, ?_⟩
                    refine ⟨_, [], trivial, rfl, rfl, fun h => ⟨rfl, rfl, rfl⟩, ?_⟩
                    refine ⟨_, [], trivial, rfl, rfl, fun h => ⟨h, h, (by first | ((try simp only [decide_eq_true_eq, decide_eq_false_iff_not, toNat_cast] at *); omega) | decide), rfl, rfl, rfl⟩, ?_⟩
                    refine ⟨_, [], trivial, rfl, rfl, fun h => ⟨h, rfl, rfl, rfl⟩, ?_⟩
                    refine ⟨_, [], trivial, rfl, rfl, fun h => ⟨h, rfl, rfl, rfl⟩, ?_⟩
                    refine ⟨_, [], trivial, rfl, rfl, fun h => ⟨h, h, rfl, rfl, rfl⟩, ?_⟩
                    refine ⟨⟨fun _ => trivial, fun hc => (gn hc)⟩, ?_⟩
                    refine ⟨_, [], trivial, rfl, rfl, fun h => ⟨rfl, rfl, rfl⟩, ?_⟩
                    refine ⟨_, [], trivial, rfl, rfl, fun h => ⟨rfl, rfl, rfl⟩, ?_⟩
                    refine ⟨_, [], trivial, rfl, rfl, fun h => ⟨h, h, (by first | ((try simp only [decide_eq_true_eq, decide_eq_false_iff_not, toNat_cast] at *); omega) | decide), rfl, rfl, rfl⟩, ?_⟩
                    refine ⟨_, [], trivial, rfl, rfl, fun h => ⟨h, rfl, rfl, rfl⟩, ?_⟩
                    refine ⟨_, [], trivial, rfl, rfl, fun h => ⟨rfl, rfl, rfl⟩, ?_⟩
                    refine ⟨_, [], trivial, rfl, rfl, fun h => ⟨h, h, by have e9 : (vL v).getD ((j : Int)).toNat (Ty.dflt .str) = vAt v j := hVj; rw [e9]; omega, rfl, rfl, rfl⟩, ?_⟩
                    refine ⟨_, [], trivial, rfl, rfl, fun h => ⟨rfl, rfl, rfl⟩, ?_⟩
                    refine ⟨_, [], trivial, rfl, rfl, fun h => ⟨h, (by first | ((try simp only [decide_eq_true_eq, decide_eq_false_iff_not, toNat_cast] at *); omega) | decide), rfl, rfl, rfl⟩, ?_⟩
                    refine ⟨_, [], trivial, rfl, rfl, fun h => ⟨h, rfl, rfl, rfl⟩, ?_⟩
                    refine ⟨_, [], trivial, rfl, rfl, fun h => ⟨rfl, rfl, rfl⟩, ?_⟩
                    refine ⟨_, [], trivial, rfl, rfl, fun h => ⟨h, h, by have e9 : (vL v).getD (Int.toNat 0) (Ty.dflt .str) = vAt v 0 := hV0; rw [e9]; omega, rfl, rfl, rfl⟩, ?_⟩
                    refine ⟨_, [], trivial, rfl, rfl, fun h => ⟨h, h, rfl, rfl, rfl⟩, ?_⟩
                    refine ⟨⟨fun _ => trivial, fun hc => (gn hc)⟩, ?_⟩
                    refine ⟨by kernel_rfl, ?_⟩
                    refine (Tri.cond ⟨fun h7 => ?_, fun h7 => ?_⟩)
                    · exfalso; have e9 : (vL v).getD ((j : Int)).toNat (Ty.dflt .str) = vAt v j := hVj; have e8 : (vL v).getD (Int.toNat 0) (Ty.dflt .str) = vAt v 0 := hV0; rw [e9, e8, silP hlj (hF.pre hj4)] at h7; cases h7
                    · refine (Tri.skip ?_)
                      refine (Tri.drw hT hm 48 (by kernel_rfl) ?_)
                      refine ⟨_, [], trivial, rfl, rfl, fun h => ⟨rfl, rfl, rfl⟩, ?_⟩
                      refine ⟨_, [], trivial, rfl, rfl, fun h => ⟨rfl, rfl, rfl⟩, ?_⟩
                      refine ⟨_, [], trivial, rfl, rfl, fun h => ⟨rfl, rfl, rfl⟩, ?_⟩
                      refine ⟨_, [], trivial, rfl, rfl, fun h => ⟨h, h, (by first | ((try simp only [decide_eq_true_eq, decide_eq_false_iff_not, toNat_cast] at *); omega) | decide), rfl, rfl, rfl⟩, ?_⟩
                      refine ⟨_, [], trivial, rfl, rfl, fun h => ⟨h, rfl, rfl, rfl⟩, ?_⟩
                      refine ⟨_, [], trivial, rfl, rfl, fun h => ⟨h, rfl, rfl, rfl⟩, ?_⟩
                      refine ⟨_, [], trivial, rfl, rfl, fun h => ⟨h, h, rfl, rfl, rfl⟩, ?_⟩
                      refine ⟨_, [], trivial, rfl, rfl, fun h => ⟨rfl, rfl, rfl⟩, ?_⟩
                      refine ⟨_, [], trivial, rfl, rfl, fun h => ⟨rfl, rfl, rfl⟩, ?_⟩
                      refine ⟨_, [], trivial, rfl, rfl, fun h => ⟨h, (by first | ((try simp only [decide_eq_true_eq, decide_eq_false_iff_not, toNat_cast] at *); omega) | decide), rfl, rfl, rfl⟩, ?_⟩
                      refine ⟨_, [], trivial, rfl, rfl, fun h => ⟨h, rfl, rfl, rfl⟩, ?_⟩
                      refine ⟨_, [], trivial, rfl, rfl, fun h => ⟨h, rfl, rfl, rfl⟩, ?_⟩
                      refine ⟨_, [], trivial, rfl, rfl, fun h => ⟨h, h, rfl, rfl, rfl⟩, ?_⟩
                      refine ⟨_, [], trivial, rfl, rfl, fun h => ⟨h, h, rfl, rfl, rfl⟩, ?_⟩
                      refine ⟨⟨fun _ => trivial, fun hc => (gn hc)⟩, ?_⟩
                      refine ⟨_, [], trivial, rfl, rfl, fun h => ⟨rfl, rfl, rfl⟩, ?_⟩
                      refine ⟨_, [], trivial, rfl, rfl, fun h => ⟨rfl, rfl, rfl⟩, ?_⟩
                      refine ⟨_, [], trivial, rfl, rfl, fun h => ⟨rfl, rfl, rfl⟩, ?_⟩
                      refine ⟨_, [], trivial, rfl, rfl, fun h => ⟨h, h, (by first | ((try simp only [decide_eq_true_eq, decide_eq_false_iff_not, toNat_cast] at *); omega) | decide), rfl, rfl, rfl⟩, ?_⟩
                      refine ⟨_, [], trivial, rfl, rfl, fun h => ⟨h, rfl, rfl, rfl⟩, ?_⟩
                      refine ⟨_, [], trivial, rfl, rfl, fun h => ⟨h, rfl, rfl, rfl⟩, ?_⟩
                      refine ⟨_, [], trivial, rfl, rfl, fun h => ⟨h, h, rfl, rfl, rfl⟩, ?_⟩
                      refine ⟨_, [], trivial, rfl, rfl, fun h => ⟨h, rfl, rfl, rfl⟩, ?_⟩
                      refine ⟨_, [], trivial, rfl, rfl, fun h => ⟨rfl, rfl, rfl⟩, ?_⟩
                      refine ⟨_, [], trivial, rfl, rfl, fun h => ⟨rfl, rfl, rfl⟩, ?_⟩
                      refine ⟨_, [], trivial, rfl, rfl, fun h => ⟨h, (by first | ((try simp only [decide_eq_true_eq, decide_eq_false_iff_not, toNat_cast] at *); omega) | decide), rfl, rfl, rfl⟩, ?_⟩
                      refine ⟨_, [], trivial, rfl, rfl, fun h => ⟨h, rfl, rfl, rfl⟩, ?_⟩
                      refine ⟨_, [], trivial, rfl, rfl, fun h => ⟨h, rfl, rfl, rfl⟩, ?_⟩
                      refine ⟨_, [], trivial, rfl, rfl, fun h => ⟨h, h, rfl, rfl, rfl⟩, ?_⟩
                      refine ⟨_, [], trivial, rfl, rfl, fun h => ⟨h, ⟨fun hc => ga h hc, fun _ => trivial⟩, rfl, rfl, rfl⟩, ?_⟩
                      refine ⟨_, [], trivial, rfl, rfl, fun h => ⟨h, rfl, rfl, rfl⟩, ?_⟩
                      refine ⟨_, [], trivial, rfl, rfl, fun h => ⟨rfl, rfl, rfl⟩, ?_⟩
                      refine ⟨_, [], trivial, rfl, rfl, fun h => ⟨rfl, rfl, rfl⟩, ?_⟩
                      refine ⟨_, [], trivial, rfl, rfl, fun h => ⟨h, h, (by first | ((try simp only [decide_eq_true_eq, decide_eq_false_iff_not, toNat_cast] at *); omega) | decide), rfl, rfl, rfl⟩, ?_⟩
                      refine ⟨_, [], trivial, rfl, rfl, fun h => ⟨h, rfl, rfl, rfl⟩, ?_⟩
                      refine ⟨_, [], trivial, rfl, rfl, fun h => ⟨rfl, rfl, rfl⟩, ?_⟩
                      refine ⟨_, [], trivial, rfl, rfl, fun h => ⟨h, h, by have e9 : (vL v).getD ((j : Int)).toNat (Ty.dflt .str) = vAt v j := hVj; have := silG h; rw [e9] at this ⊢; omega, rfl, rfl, rfl⟩, ?_⟩
                      refine ⟨_, [], trivial, rfl, rfl, fun h => ⟨rfl, rfl, rfl⟩, ?_⟩
                      refine ⟨_, [], trivial, rfl, rfl, fun h => ⟨h, (by first | ((try simp only [decide_eq_true_eq, decide_eq_false_iff_not, toNat_cast] at *); omega) | decide), rfl, rfl, rfl⟩, ?_⟩
                      refine ⟨_, [], trivial, rfl, rfl, fun h => ⟨h, rfl, rfl, rfl⟩, ?_⟩
                      refine ⟨_, [], trivial, rfl, rfl, fun h => ⟨rfl, rfl, rfl⟩, ?_⟩
                      refine ⟨_, [], trivial, rfl, rfl, fun h => ⟨h, h, by have := silG h; omega, rfl, rfl, rfl⟩, ?_⟩
                      refine ⟨_, [], trivial, rfl, rfl, fun h => ⟨h, h, rfl, rfl, rfl⟩, ?_⟩
                      refine ⟨_, [], trivial, rfl, rfl, fun h => ⟨h, ⟨fun hc => ga h hc, fun _ => trivial⟩, rfl, rfl, rfl⟩, ?_⟩
                      refine ⟨⟨fun _ => trivial, fun hc => (gn hc)⟩, ?_⟩
                      refine ⟨by kernel_rfl, ?_⟩
                      refine (Tri.reg hT ?_)
                      exact ⟨j + 1, hj4, (by omega), Le.weak rfl rfl rfl rfl ⟨(by first | rfl | exact iv1 (by (try simp only [decide_eq_true_eq, decide_eq_false_iff_not, toNat_cast] at *); omega)), (by first | rfl | exact iv1 (by (try simp only [decide_eq_true_eq, decide_eq_false_iff_not, toNat_cast] at *); omega)), (by first | rfl | exact iv1 (by (try simp only [decide_eq_true_eq, decide_eq_false_iff_not, toNat_cast] at *); omega)), (by have e9 : (vL v).getD ((j : Int)).toNat (Ty.dflt .str) = vAt v j := hVj; have e8 : (vL v).getD (Int.toNat 0) (Ty.dflt .str) = vAt v 0 := hV0; rw [e9, e8]; exact congrArg AV.bool ((silD (difN v n j) (vAt v j) (vAt v 0) n).trans (difN_next v n j).symm)), iv1 (by omega), trivial⟩ trivial⟩
                  · refine Tri.exit ?_
                    refine Tri.seq (Tri.reg hT ?_)
                    refine (Tri.cond ⟨fun h8 => ?_, fun h8 => ?_⟩)
                    · exfalso; have hj9 : j = 4 := (by have := of_decide_eq_false h6; omega); rw [hj9, hF.dif] at h8; cases h8
                    · refine (Tri.skip ?_)
                      exact ⟨trivial, Le.weak rfl rfl rfl rfl ⟨(by first | rfl | exact iv1 (by (try simp only [decide_eq_true_eq, decide_eq_false_iff_not, toNat_cast] at *); omega)), (by first | rfl | exact iv1 (by (try simp only [decide_eq_true_eq, decide_eq_false_iff_not, toNat_cast] at *); omega)), trivial⟩ trivial⟩
              · refine (Tri.skip ?_)
                exact ⟨trivial, Le.weak rfl rfl rfl rfl ⟨(by first | rfl | exact iv1 (by (try simp only [decide_eq_true_eq, decide_eq_false_iff_not, toNat_cast] at *); omega)), (by first | rfl | exact iv1 (by (try simp only [decide_eq_true_eq, decide_eq_false_iff_not, toNat_cast] at *); omega)), trivial⟩ trivial⟩
            · refine Tri.seq (Tri.reg hT ?_)
              refine ⟨(by first | ((try simp only [decide_eq_true_eq, decide_eq_false_iff_not, toNat_cast] at *); omega) | decide), ?_⟩
              refine Tri.seq (Tri.reg hT ?_)
              refine .inl (.inl ⟨_, fun _ => rfl, kK, ?_⟩)
              refine Tri.seq ?_
              have hG := grps v; generalize kindsM v = gs at hG; have hn4 := hG.n4
              refine Tri.le (⟨289, 0, 90, [(0, .list pT l), (3, .list .str (vL v)), (9, .own 60 5), (10, .list (.list (.int .i64)) gs)], [(60, .arr .bool (seenL []))], []⟩) (Le.weak rfl rfl rfl rfl ⟨(by first | rfl | exact iv1 (by (try simp only [decide_eq_true_eq, decide_eq_false_iff_not, toNat_cast] at *); omega)), (by first | rfl | exact iv1 (by (try simp only [decide_eq_true_eq, decide_eq_false_iff_not, toNat_cast] at *); omega)), (by first | rfl | exact iv1 (by (try simp only [decide_eq_true_eq, decide_eq_false_iff_not, toNat_cast] at *); omega)), (by first | rfl | exact iv1 (by (try simp only [decide_eq_true_eq, decide_eq_false_iff_not, toNat_cast] at *); omega)), trivial⟩ ⟨rfl, trivial⟩) ?_
              refine Tri.seq (Tri.reg hT ?_)
              refine (Tri.block ?_)
              refine (Tri.loop (ι := Nat) (fun i => ⟨289, 0, 110, [(3, .list .str (vL v)), (9, .own 60 5), (10, .list (.list (.int .i64)) gs), (11, .int .i64 (i : Int))], [(60, .arr .bool (seenL (doneG gs i 0)))], []⟩) (fun i => i ≤ gs.length) (fun i => gs.length - i) (0) ?_ ?_ ?_)
              · exact Nat.zero_le _
              · exact Le.weak rfl rfl rfl rfl ⟨(by first | rfl | exact iv1 (by (try simp only [decide_eq_true_eq, decide_eq_false_iff_not, toNat_cast] at *); omega)), (by first | rfl | exact iv1 (by (try simp only [decide_eq_true_eq, decide_eq_false_iff_not, toNat_cast] at *); omega)), (by first | rfl | exact iv1 (by (try simp only [decide_eq_true_eq, decide_eq_false_iff_not, toNat_cast] at *); omega)), (by first | rfl | exact iv1 (by (try simp only [decide_eq_true_eq, decide_eq_false_iff_not, toNat_cast] at *); omega)), trivial⟩ ⟨rfl, trivial⟩
              · intro i hi
                refine Tri.seq ?_
                refine Tri.seq (Tri.reg hT ?_)
                refine (Tri.cond ⟨fun h9 => ?_, fun h9 => ?_⟩)
                · refine (Tri.skip ?_)
                  refine Tri.seq (Tri.block ?_)
                  refine Tri.seq ?_
                  have hi9 := i_lt h9; have hne := hG.ne i hi9; have hl4 := hG.l4 i hi9
                  refine Tri.seq (Tri.reg hT ?_)
                  refine (Tri.block ?_)
                  refine (Tri.loop (ι := Nat) (fun j => ⟨289, 0, 130, [(3, .list .str (vL v)), (9, .own 60 5), (10, .list (.list (.int .i64)) gs), (11, .int .i64 (i : Int)), (12, .int .i64 (j : Int))], [(60, .arr .bool (seenL (doneG gs i j)))], []⟩) (fun j => j ≤ (gs.getD i []).length) (fun j => (gs.getD i []).length - j) (0) ?_ ?_ ?_)
                  · exact Nat.zero_le _
                  · exact Le.weak rfl rfl rfl rfl ⟨(by first | rfl | exact iv1 (by (try simp only [decide_eq_true_eq, decide_eq_false_iff_not, toNat_cast] at *); omega)), (by first | rfl | exact iv1 (by (try simp only [decide_eq_true_eq, decide_eq_false_iff_not, toNat_cast] at *); omega)), (by first | rfl | exact iv1 (by (try simp only [decide_eq_true_eq, decide_eq_false_iff_not, toNat_cast] at *); omega)), (by first | rfl | exact iv1 (by (try simp only [decide_eq_true_eq, decide_eq_false_iff_not, toNat_cast] at *); omega)), (by first | rfl | exact iv1 (by (try simp only [decide_eq_true_eq, decide_eq_false_iff_not, toNat_cast] at *); omega)), trivial⟩ ⟨rfl, trivial⟩
                  · intro j hj
                    refine Tri.seq ?_
                    refine Tri.seq (Tri.reg hT ?_)
                    refine ⟨(by first | ((try simp only [decide_eq_true_eq, decide_eq_false_iff_not, toNat_cast] at *); omega) | decide), ?_⟩
                    refine (Tri.cond ⟨fun h10 => ?_, fun h10 => ?_⟩)
                    · refine (Tri.skip ?_)
                      refine Tri.seq (Tri.block ?_)
                      have hj10 : j < (gs.getD i []).length := i_lt h10; have hE := hG.el i j hi9 hj10; have hE0 := hG.el i 0 hi9 hne
                      refine Tri.seq (Tri.reg hT ?_)
                      refine ⟨(by first | ((try simp only [decide_eq_true_eq, decide_eq_false_iff_not, toNat_cast] at *); omega) | decide), ?_⟩
                      refine ⟨(by first | ((try simp only [decide_eq_true_eq, decide_eq_false_iff_not, toNat_cast] at *); omega) | decide), ?_⟩
                      refine Tri.seq ?_
                      refine Tri.seq (Tri.drw hT hm 46 (by kernel_rfl) ?_)
                      refine ⟨_, [], trivial, rfl, rfl, fun h => ⟨rfl, rfl, rfl⟩, ?_⟩
                      refine ⟨_, [], trivial, rfl, rfl, fun h => ⟨h, rfl, rfl, rfl⟩, ?_⟩
                      refine ⟨⟨fun _ => trivial, fun hc => (gn hc)⟩, ?_⟩
                      refine ⟨_, [], trivial, rfl, rfl, fun h => ⟨rfl, rfl, rfl⟩, ?_⟩
                      refine ⟨_, [], trivial, rfl, rfl, fun h => ⟨rfl, rfl, rfl⟩, ?_⟩
                      refine ⟨_, [], trivial, rfl, rfl, fun h => ⟨h, h, by show (0 : Int) ≤ (gs.getD i []).getD j 0 ∧ (gs.getD i []).getD j 0 < ((5 : Nat) : Int); omega, rfl, rfl, rfl⟩, ?_⟩
                      refine ⟨_, [], trivial, rfl, rfl, fun h => ⟨h, (by rw [seenL_len]; show ((gs.getD i []).getD j 0).toNat < 5; omega), rfl, rfl, rfl⟩, ?_⟩
                      refine ⟨⟨fun _ => trivial, fun hc => (gn hc)⟩, ?_⟩
                      refine ⟨_, [], trivial, rfl, rfl, fun h => ⟨rfl, rfl, rfl⟩, ?_⟩
                      refine ⟨_, [], trivial, rfl, rfl, fun h => ⟨rfl, rfl, rfl⟩, ?_⟩
                      refine ⟨_, [], trivial, rfl, rfl, fun h => ⟨h, rfl, rfl, rfl⟩, ?_⟩
                      refine ⟨_, [], trivial, rfl, rfl, fun h => ⟨h, h, (by show (0 : Int) ≤ IntKind.i64.wrap ((gs.getD i []).getD j 0 - 1) ∧ IntKind.i64.wrap ((gs.getD i []).getD j 0 - 1) < ((vL v).length : Int); rw [wrapId (by omega), hVl]; omega), rfl, rfl, rfl⟩, ?_⟩
                      refine ⟨_, [], trivial, rfl, rfl, fun h => ⟨h, rfl, rfl, rfl⟩, ?_⟩
                      refine ⟨_, [], trivial, rfl, rfl, fun h => ⟨rfl, rfl, rfl⟩, ?_⟩
                      refine ⟨_, [], trivial, rfl, rfl, fun h => ⟨rfl, rfl, rfl⟩, ?_⟩
                      refine ⟨_, [], trivial, rfl, rfl, fun h => ⟨rfl, rfl, rfl⟩, ?_⟩
                      refine ⟨_, [], trivial, rfl, rfl, fun h => ⟨h, h, (by first | ((try simp only [decide_eq_true_eq, decide_eq_false_iff_not, toNat_cast] at *); omega) | decide), rfl, rfl, rfl⟩, ?_⟩
                      refine ⟨_, [], trivial, rfl, rfl, fun h => ⟨h, rfl, rfl, rfl⟩, ?_⟩
                      refine ⟨_, [], trivial, rfl, rfl, fun h => ⟨h, (by first | ((try simp only [decide_eq_true_eq, decide_eq_false_iff_not, toNat_cast] at *); omega) | decide), rfl, rfl, rfl⟩, ?_⟩
                      refine ⟨_, [], trivial, rfl, rfl, fun h => ⟨h, rfl, rfl, rfl⟩, ?_⟩
                      refine ⟨_, [], trivial, rfl, rfl, fun h => ⟨h, rfl, rfl, rfl⟩, ?_⟩
                      refine ⟨_, [], trivial, rfl, rfl, fun h => ⟨h, h, (by show (0 : Int) ≤ IntKind.i64.wrap ((gs.getD i []).getD 0 0 - 1) ∧ IntKind.i64.wrap ((gs.getD i []).getD 0 0 - 1) < ((vL v).length : Int); rw [wrapId (by omega), hVl]; omega), rfl, rfl, rfl⟩, ?_⟩
                      refine ⟨_, [], trivial, rfl, rfl, fun h => ⟨h, rfl, rfl, rfl⟩, ?_⟩
                      refine ⟨_, [], trivial, rfl, rfl, fun h => ⟨h, h, rfl, rfl, rfl⟩, ?_⟩
                      refine ⟨⟨fun _ => trivial, fun hc => (gn hc)⟩, ?_⟩
                      refine ⟨_, [], trivial, rfl, rfl, fun h => ⟨rfl, rfl, rfl⟩, ?_⟩
                      refine ⟨_, [], trivial, rfl, rfl, fun h => ⟨h, rfl, rfl, rfl⟩, ?_⟩
                      refine ⟨_, [], trivial, rfl, rfl, fun h => ⟨h, rfl, rfl, rfl⟩, ?_⟩
                      refine ⟨_, [], trivial, rfl, rfl, fun h => ⟨rfl, rfl, rfl⟩, ?_⟩
                      refine ⟨_, [], trivial, rfl, rfl, fun h => ⟨rfl, rfl, rfl⟩, ?_⟩
                      refine ⟨_, [], trivial, rfl, rfl, fun h => ⟨h, h, (by first | ((try simp only [decide_eq_true_eq, decide_eq_false_iff_not, toNat_cast] at *); omega) | decide), rfl, rfl, rfl⟩, ?_⟩
                      refine ⟨_, [], trivial, rfl, rfl, fun h => ⟨h, rfl, rfl, rfl⟩, ?_⟩
                      refine ⟨_, [], trivial, rfl, rfl, fun h => ⟨rfl, rfl, rfl⟩, ?_⟩
                      refine ⟨_, [], trivial, rfl, rfl, fun h => ⟨h, rfl, rfl, rfl⟩, ?_⟩
                      refine ⟨_, [], trivial, rfl, rfl, fun h => ⟨h, h, (by rcases Nat.eq_zero_or_pos j with q | q; (exfalso; simp [gd, q] at h); show (0 : Int) ≤ IntKind.i64.wrap ((j : Int) - 1) ∧ IntKind.i64.wrap ((j : Int) - 1) < ((gs.getD i []).length : Int); rw [wrapId (by omega)]; omega), rfl, rfl, rfl⟩, ?_⟩
                      refine ⟨_, [], trivial, rfl, rfl, fun h => ⟨h, rfl, rfl, rfl⟩, ?_⟩
                      refine ⟨_, [], trivial, rfl, rfl, fun h => ⟨rfl, rfl, rfl⟩, ?_⟩
                      refine ⟨_, [], trivial, rfl, rfl, fun h => ⟨h, h, rfl, rfl, rfl⟩, ?_⟩
                      refine ⟨_, [], trivial, rfl, rfl, fun h => ⟨h, ⟨fun hc => ga h hc, fun _ => trivial⟩, rfl, rfl, rfl⟩, ?_⟩
                      refine ⟨⟨fun _ => trivial, fun hc => (gn hc)⟩, ?_⟩
                      refine ⟨by kernel_rfl, ?_⟩
                      refine (Tri.cond ⟨fun h11 => ?_, fun h11 => ?_⟩)
                      · exact absurd (h11.symm.trans (silK hE.1 hE.2.1 ((seenL_at (doneG gs i j) (p := (gs.getD i []).getD j 0) (by omega) (by omega) _).trans (hG.new i j hi9 hj10)) (by show (vL v).getD (IntKind.i64.wrap ((gs.getD i []).getD j 0 - 1)).toNat [] = (vL v).getD (IntKind.i64.wrap ((gs.getD i []).getD 0 0 - 1)).toNat []; rw [wrapId (by omega), wrapId (by omega), vL_at v (by omega), vL_at v (by omega)]; exact hE.2.2) (fun h0 => by show (gs.getD i []).getD (IntKind.i64.wrap ((j : Int) - 1)).toNat 0 < (gs.getD i []).getD j 0; rw [wrapId (by omega), show ((j : Int) - 1).toNat = j - 1 by omega]; exact hG.inc i j hi9 hj10 h0))) (by decide)
                      · refine (Tri.skip ?_)
                        refine (Tri.reg hT ?_)
                        refine ⟨by show (0 : Int) ≤ (gs.getD i []).getD j 0 ∧ (gs.getD i []).getD j 0 < ((5 : Nat) : Int); omega, ?_⟩
                        refine ⟨(by rw [seenL_len]; show ((gs.getD i []).getD j 0).toNat < 5; omega), _, rfl, ?_⟩
                        refine (Tri.reg hT ?_)
                        exact ⟨j + 1, hj10, (by omega), Le.weak rfl rfl rfl rfl ⟨(by first | rfl | exact iv1 (by (try simp only [decide_eq_true_eq, decide_eq_false_iff_not, toNat_cast] at *); omega)), (by first | rfl | exact iv1 (by (try simp only [decide_eq_true_eq, decide_eq_false_iff_not, toNat_cast] at *); omega)), (by first | rfl | exact iv1 (by (try simp only [decide_eq_true_eq, decide_eq_false_iff_not, toNat_cast] at *); omega)), (by first | rfl | exact iv1 (by (try simp only [decide_eq_true_eq, decide_eq_false_iff_not, toNat_cast] at *); omega)), iv1 (by omega), trivial⟩ ⟨congrArg (fun z => some (Chunk.arr .bool z)) ((seenL_set (doneG gs i j) (p := (gs.getD i []).getD j 0) (by omega) (by omega)).trans (congrArg seenL (doneG_j gs i hj10))), trivial⟩⟩
                    · refine Tri.exit ?_
                      have hjN : j = (gs.getD i []).length := (by have := of_decide_eq_false h10; have : ¬ ((j : Int) < ((gs.getD i []).length : Int)) := this; omega); have hE0 := hG.el i 0 hi9 hne
                      refine Tri.seq (Tri.drw hT hm 50 (by kernel_rfl) ?_)
                      refine ⟨(by first | ((try simp only [decide_eq_true_eq, decide_eq_false_iff_not, toNat_cast] at *); omega) | decide), ?_⟩
                      refine ⟨_, [], trivial, rfl, rfl, fun h => ⟨rfl, rfl, rfl⟩, ?_⟩
                      refine ⟨_, [], trivial, rfl, rfl, fun h => ⟨h, rfl, rfl, rfl⟩, ?_⟩
                      refine ⟨_, [], trivial, rfl, rfl, fun h => ⟨h, rfl, rfl, rfl⟩, ?_⟩
                      refine ⟨_, [], trivial, rfl, rfl, fun h => ⟨rfl, rfl, rfl⟩, ?_⟩
                      refine ⟨_, [], trivial, rfl, rfl, fun h => ⟨rfl, rfl, rfl⟩, ?_⟩
                      refine ⟨_, [], trivial, rfl, rfl, fun h => ⟨h, rfl, rfl, rfl⟩, ?_⟩
                      refine ⟨_, [], trivial, rfl, rfl, fun h => ⟨h, h, (by rcases Nat.eq_zero_or_pos i with q | q; (exfalso; simp [gd, q] at h); show (0 : Int) ≤ IntKind.i64.wrap ((i : Int) - 1) ∧ IntKind.i64.wrap ((i : Int) - 1) < (gs.length : Int); rw [wrapId (by omega)]; omega), rfl, rfl, rfl⟩, ?_⟩
                      refine ⟨_, [], trivial, rfl, rfl, fun h => ⟨h, rfl, rfl, rfl⟩, ?_⟩
                      refine ⟨_, [], trivial, rfl, rfl, fun h => ⟨h, (by rcases Nat.eq_zero_or_pos i with q | q; (exfalso; simp [gd, q] at h); have ew : (IntKind.i64.wrap ((i : Int) - 1)).toNat = i - 1 := (by rw [wrapId (by omega)]; omega); have hnp := hG.ne (i - 1) (by omega); have hEp := hG.el (i - 1) 0 (by omega) hnp; show (0 : Int) ≤ 0 ∧ (0 : Int) < ((gs.getD (IntKind.i64.wrap ((i : Int) - 1)).toNat []).length : Int); rw [ew]; omega), rfl, rfl, rfl⟩, ?_⟩
                      refine ⟨_, [], trivial, rfl, rfl, fun h => ⟨h, rfl, rfl, rfl⟩, ?_⟩
                      refine ⟨_, [], trivial, rfl, rfl, fun h => ⟨rfl, rfl, rfl⟩, ?_⟩
                      refine ⟨_, [], trivial, rfl, rfl, fun h => ⟨rfl, rfl, rfl⟩, ?_⟩
                      refine ⟨_, [], trivial, rfl, rfl, fun h => ⟨h, h, (by first | ((try simp only [decide_eq_true_eq, decide_eq_false_iff_not, toNat_cast] at *); omega) | decide), rfl, rfl, rfl⟩, ?_⟩
                      refine ⟨_, [], trivial, rfl, rfl, fun h => ⟨h, rfl, rfl, rfl⟩, ?_⟩
                      refine ⟨_, [], trivial, rfl, rfl, fun h => ⟨h, (by show (0 : Int) ≤ 0 ∧ (0 : Int) < ((gs.getD i []).length : Int); omega), rfl, rfl, rfl⟩, ?_⟩
                      refine ⟨_, [], trivial, rfl, rfl, fun h => ⟨h, rfl, rfl, rfl⟩, ?_⟩
                      refine ⟨_, [], trivial, rfl, rfl, fun h => ⟨h, h, rfl, rfl, rfl⟩, ?_⟩
                      refine ⟨_, [], trivial, rfl, rfl, fun h => ⟨h, rfl, rfl, rfl⟩, ?_⟩
                      refine ⟨_, [], trivial, rfl, rfl, fun h => ⟨rfl, rfl, rfl⟩, ?_⟩
                      refine ⟨_, [], trivial, rfl, rfl, fun h => ⟨rfl, rfl, rfl⟩, ?_⟩
                      refine ⟨_, [], trivial, rfl, rfl, fun h => ⟨rfl, rfl, rfl⟩, ?_⟩
                      refine ⟨_, [], trivial, rfl, rfl, fun h => ⟨h, rfl, rfl, rfl⟩, ?_⟩
                      refine ⟨_, [], trivial, rfl, rfl, fun h => ⟨h, h, (by rcases Nat.eq_zero_or_pos i with q | q; (exfalso; simp [gd, q] at h); show (0 : Int) ≤ IntKind.i64.wrap ((i : Int) - 1) ∧ IntKind.i64.wrap ((i : Int) - 1) < (gs.length : Int); rw [wrapId (by omega)]; omega), rfl, rfl, rfl⟩, ?_⟩
                      refine ⟨_, [], trivial, rfl, rfl, fun h => ⟨h, rfl, rfl, rfl⟩, ?_⟩
                      refine ⟨_, [], trivial, rfl, rfl, fun h => ⟨h, (by rcases Nat.eq_zero_or_pos i with q | q; (exfalso; simp [gd, q] at h); have ew : (IntKind.i64.wrap ((i : Int) - 1)).toNat = i - 1 := (by rw [wrapId (by omega)]; omega); have hnp := hG.ne (i - 1) (by omega); have hEp := hG.el (i - 1) 0 (by omega) hnp; show (0 : Int) ≤ 0 ∧ (0 : Int) < ((gs.getD (IntKind.i64.wrap ((i : Int) - 1)).toNat []).length : Int); rw [ew]; omega), rfl, rfl, rfl⟩, ?_⟩
                      refine ⟨_, [], trivial, rfl, rfl, fun h => ⟨h, rfl, rfl, rfl⟩, ?_⟩
                      refine ⟨_, [], trivial, rfl, rfl, fun h => ⟨h, rfl, rfl, rfl⟩, ?_⟩
                      refine ⟨_, [], trivial, rfl, rfl, fun h => ⟨h, h, (by rcases Nat.eq_zero_or_pos i with q | q; (exfalso; simp [gd, q] at h); have ew : (IntKind.i64.wrap ((i : Int) - 1)).toNat = i - 1 := (by rw [wrapId (by omega)]; omega); have hnp := hG.ne (i - 1) (by omega); have hEp := hG.el (i - 1) 0 (by omega) hnp; show (0 : Int) ≤ IntKind.i64.wrap ((gs.getD (IntKind.i64.wrap ((i : Int) - 1)).toNat []).getD 0 0 - 1) ∧ IntKind.i64.wrap ((gs.getD (IntKind.i64.wrap ((i : Int) - 1)).toNat []).getD 0 0 - 1) < ((vL v).length : Int); rw [ew, wrapId (by omega), hVl]; omega), rfl, rfl, rfl⟩, ?_⟩
                      refine ⟨_, [], trivial, rfl, rfl, fun h => ⟨h, rfl, rfl, rfl⟩, ?_⟩
                      refine ⟨_, [], trivial, rfl, rfl, fun h => ⟨rfl, rfl, rfl⟩, ?_⟩
                      refine ⟨_, [], trivial, rfl, rfl, fun h => ⟨rfl, rfl, rfl⟩, ?_⟩
                      refine ⟨_, [], trivial, rfl, rfl, fun h => ⟨rfl, rfl, rfl⟩, ?_⟩
                      refine ⟨_, [], trivial, rfl, rfl, fun h => ⟨h, h, (by first | ((try simp only [decide_eq_true_eq, decide_eq_false_iff_not, toNat_cast] at *); omega) | decide), rfl, rfl, rfl⟩, ?_⟩
                      refine ⟨_, [], trivial, rfl, rfl, fun h => ⟨h, rfl, rfl, rfl⟩, ?_⟩
                      refine ⟨_, [], trivial, rfl, rfl, fun h => ⟨h, (by show (0 : Int) ≤ 0 ∧ (0 : Int) < ((gs.getD i []).length : Int); omega), rfl, rfl, rfl⟩, ?_⟩
                      refine ⟨_, [], trivial, rfl, rfl, fun h => ⟨h, rfl, rfl, rfl⟩, ?_⟩
                      refine ⟨_, [], trivial, rfl, rfl, fun h => ⟨h, rfl, rfl, rfl⟩, ?_⟩
                      refine ⟨_, [], trivial, rfl, rfl, fun h => ⟨h, h, (by show (0 : Int) ≤ IntKind.i64.wrap ((gs.getD i []).getD 0 0 - 1) ∧ IntKind.i64.wrap ((gs.getD i []).getD 0 0 - 1) < ((vL v).length : Int); rw [wrapId (by omega), hVl]; omega), rfl, rfl, rfl⟩, ?_⟩
                      refine ⟨_, [], trivial, rfl, rfl, fun h => ⟨h, rfl, rfl, rfl⟩, ?_⟩
                      refine ⟨_, [], trivial, rfl, rfl, fun h => ⟨h, h, rfl, rfl, rfl⟩, ?_⟩
                      refine ⟨_, [], trivial, rfl, rfl, fun h => ⟨h, ⟨fun _ => trivial, fun hc => ga h (gn hc)⟩, rfl, rfl, rfl⟩, ?_⟩
                      refine ⟨_, [], trivial, rfl, rfl, fun h => ⟨h, ⟨fun hc => ga h hc, fun _ => trivial⟩, rfl, rfl, rfl⟩, ?_⟩
                      refine ⟨⟨fun _ => trivial, fun hc => (gn hc)⟩, ?_⟩
                      refine ⟨by kernel_rfl, ?_⟩
                      refine (Tri.cond ⟨fun h12 => ?_, fun h12 => ?_⟩)
                      · exact absurd (h12.symm.trans (silL hne (fun q => by have ew : (IntKind.i64.wrap ((i : Int) - 1)).toNat = i - 1 := (by rw [wrapId (by omega)]; omega); have hnp := hG.ne (i - 1) (by omega); have hEp := hG.el (i - 1) 0 (by omega) hnp; have hd := hG.hd i q hi9; refine ⟨?_, ?_⟩; (show (gs.getD (IntKind.i64.wrap ((i : Int) - 1)).toNat []).getD 0 0 < (gs.getD i []).getD 0 0; rw [ew]; exact hd.1); (show ¬ (vL v).getD (IntKind.i64.wrap ((gs.getD (IntKind.i64.wrap ((i : Int) - 1)).toNat []).getD 0 0 - 1)).toNat [] = (vL v).getD (IntKind.i64.wrap ((gs.getD i []).getD 0 0 - 1)).toNat []; rw [ew, wrapId (by omega), wrapId (by omega), vL_at v (by omega), vL_at v (by omega)]; exact hd.2)))) (by decide)
                      · refine (Tri.skip ?_)
                        refine (Tri.reg hT ?_)
                        exact ⟨i + 1, hi9, (by omega), Le.weak rfl rfl rfl rfl ⟨(by first | rfl | exact iv1 (by (try simp only [decide_eq_true_eq, decide_eq_false_iff_not, toNat_cast] at *); omega)), (by first | rfl | exact iv1 (by (try simp only [decide_eq_true_eq, decide_eq_false_iff_not, toNat_cast] at *); omega)), (by first | rfl | exact iv1 (by (try simp only [decide_eq_true_eq, decide_eq_false_iff_not, toNat_cast] at *); omega)), iv1 (by omega), trivial⟩ ⟨congrArg (fun z => some (Chunk.arr .bool (seenL z))) (by rw [hjN]; exact doneG_i gs hi9), trivial⟩⟩
                · refine Tri.exit ?_
                  have hiN : i = gs.length := (by have := of_decide_eq_false h9; omega); have hsn : ∀ p : Int, 1 ≤ p → p ≤ 4 → ∀ d, (seenL (doneG gs i 0)).getD p.toNat d = true := (fun p p1 p4 d => by rw [seenL_at _ (by omega) p4, hiN, doneG_all]; exact hG.all p p1 p4)
                  refine Tri.seq (Tri.reg hT ?_)
                  refine ⟨(by first | ((try simp only [decide_eq_true_eq, decide_eq_false_iff_not, toNat_cast] at *); omega) | decide), ?_⟩
                  refine ⟨(by rw [seenL_len]; decide), ?_⟩
                  refine ⟨_, [], trivial, rfl, rfl, fun h => ⟨rfl, rfl, rfl⟩, ?_⟩
                  refine ⟨_, [], trivial, rfl, rfl, fun h => ⟨h, (by first | ((try simp only [decide_eq_true_eq, decide_eq_false_iff_not, toNat_cast] at *); omega) | decide), rfl, rfl, rfl⟩, ?_⟩
                  refine ⟨_, [], trivial, rfl, rfl, fun h => ⟨h, (by rw [seenL_len]; decide), rfl, rfl, rfl⟩, ?_⟩
                  refine ⟨⟨fun hc => hc, fun _ => trivial⟩, ?_⟩
                  refine ⟨_, [], trivial, rfl, rfl, fun h => ⟨rfl, rfl, rfl⟩, ?_⟩
                  refine ⟨_, [], trivial, rfl, rfl, fun h => ⟨h, (by first | ((try simp only [decide_eq_true_eq, decide_eq_false_iff_not, toNat_cast] at *); omega) | decide), rfl, rfl, rfl⟩, ?_⟩
                  refine ⟨_, [], trivial, rfl, rfl, fun h => ⟨h, (by rw [seenL_len]; decide), rfl, rfl, rfl⟩, ?_⟩
                  refine ⟨⟨fun hc => hc, fun _ => trivial⟩, ?_⟩
                  refine ⟨_, [], trivial, rfl, rfl, fun h => ⟨rfl, rfl, rfl⟩, ?_⟩
                  refine ⟨_, [], trivial, rfl, rfl, fun h => ⟨h, (by first | ((try simp only [decide_eq_true_eq, decide_eq_false_iff_not, toNat_cast] at *); omega) | decide), rfl, rfl, rfl⟩, ?_⟩
                  refine ⟨_, [], trivial, rfl, rfl, fun h => ⟨h, (by rw [seenL_len]; decide), rfl, rfl, rfl⟩, ?_⟩
                  refine ⟨⟨fun hc => hc, fun _ => trivial⟩, ?_⟩
                  refine Tri.ret ?_
                  exact ⟨congrArg AV.bool (silE (hsn 1 (by decide) (by decide) _) (hsn 2 (by decide) (by decide) _) (hsn 3 (by decide) (by decide) _) (hsn 4 (by decide) (by decide) _)), trivial⟩
end Go.Proofs.Ytopnempdeopjfaa.Fx
