import Derived.Test.YtngmadndlmceoaaLxL
import Derived.Test.YtngmadndlmceoaaLxD
import Derived.Test.YtngmadndlmceoaaGLx2
set_option linter.all false
/- Contracts of chapter 04: Scan. -/
namespace Go.Proofs.Ytngmadndlmceoaa.Fx
open Go Go.Fw Go.Ov Go.Lx
abbrev scanAV (r : List Tk × Int × Nat) : AV := .tup [.list tT r.1, .int .i64 r.2.1, .int .i64 (r.2.2 : Int)]
set_option maxRecDepth 8000 in
theorem f12_spec (s : List UInt8) : PSpec P [] 12 [.str s] (scanAV (scanS s)) := by
  refine pspec_intro hT Try.func12 (by decide) rfl rfl (by kernel_rfl) rfl ?_
  refine Tri.seq (Tri.reg hT ?_)
  refine Tri.seq ?_
  refine Tri.seq (Tri.reg hT ?_)
  refine (Tri.cond ⟨fun h1 => ?_, fun h1 => ?_⟩)
  · have h1' := of_decide_eq_true h1; have e0 : scanS s = ([], 3, 0) := if_pos (by omega)
    refine Tri.seq (Tri.reg hT ?_)
    rw [e0]; refine Tri.le ⟨46, 0, 0, [(2, .list tT []), (3, .int .i64 3), (4, .int .i64 ((0 : Nat) : Int))], [], []⟩ (Le.weakV rfl rfl rfl rfl ⟨rfl, rfl, rfl, trivial⟩ trivial) ?_
    refine Tri.ret ?_
    exact ⟨rfl, trivial⟩
  · refine (Tri.skip ?_)
    have h1' := of_decide_eq_false h1; have e0 : scanS s = scanA s [] (skipS s 0) := if_neg (by omega); have hk := skipS_le s 0; rw [e0]
    refine Tri.seq (Tri.reg hT ?_)
    refine Tri.seq ?_
    refine Tri.seq (Tri.reg hT ?_)
    refine .inl (.inl ⟨_, fun _ => rfl, f31_spec s 0 (by omega) (by omega), ?_⟩)
    refine (Tri.block ?_)
    refine (Tri.loop (ι := List Tk × Nat) (fun x => ⟨46, 0, 20, [(0, .str s), (5, .own 10 x.1.length), (6, .int .i64 (x.2 : Int))], [(10, .arr tT x.1)], []⟩) (fun x => x.2 ≤ s.length ∧ x.1.length ≤ x.2 ∧ scanA s x.1 x.2 = scanA s [] (skipS s 0)) (fun x => s.length - x.2) (([], skipS s 0)) ?_ ?_ ?_)
    · exact ⟨hk.2 (by omega), by show 0 ≤ skipS s 0; omega, rfl⟩
    · exact Le.trans (Le.own 5 tT rfl) (Le.weak rfl rfl rfl rfl ⟨(by first | rfl | exact iv1 (by (try simp only [decide_eq_true_eq, decide_eq_false_iff_not, toNat_cast] at *); omega)), (by first | rfl | exact iv1 (by (try simp only [decide_eq_true_eq, decide_eq_false_iff_not, toNat_cast] at *); omega)), (by first | rfl | exact iv1 (by (try simp only [decide_eq_true_eq, decide_eq_false_iff_not, toNat_cast] at *); omega)), trivial⟩ ⟨rfl, trivial⟩)
    · intro ⟨acc, a⟩ hi; obtain ⟨hi1, hi2, hi3⟩ := hi; change a ≤ s.length at hi1; change acc.length ≤ a at hi2; change scanA s acc a = scanA s [] (skipS s 0) at hi3; have hg := scanA_eq (acc := acc) hi1; change Tri P _ _ ⟨46, 0, 20, [(0, .str s), (5, .own 10 acc.length), (6, .int .i64 (a : Int))], [(10, .arr tT acc)], []⟩
      refine Tri.seq ?_
      refine Tri.seq (Tri.reg hT ?_)
      refine (Tri.cond ⟨fun h2 => ?_, fun h2 => ?_⟩)
      · refine (Tri.skip ?_)
        refine Tri.seq (Tri.block ?_)
        have hlt : a < s.length := (by have := of_decide_eq_true h2; omega); rw [if_pos hlt] at hg
        refine Tri.seq (Tri.reg hT ?_)
        refine .inl (.inl ⟨_, fun _ => rfl, f32_spec s a hlt (by omega), ?_⟩)
        refine Tri.seq ?_
        refine Tri.seq (Tri.reg hT ?_)
        refine (Tri.cond ⟨fun h3 => ?_, fun h3 => ?_⟩)
        · refine Tri.seq (Tri.reg hT ?_)
          have k := of_decide_eq_true h3; rw [if_neg k] at hg; rw [← hi3, hg]; refine Tri.le ⟨46, 0, 0, [(2, .list tT []), (3, .int .i64 (tokM s a).2.1), (4, .int .i64 ((tokM s a).2.2 : Int))], [], []⟩ (Le.weakV rfl rfl rfl rfl ⟨rfl, rfl, rfl, trivial⟩ trivial) ?_
          refine Tri.ret ?_
          exact ⟨rfl, trivial⟩
        · refine (Tri.skip ?_)
          have k : (tokM s a).2.1 = 0 := Classical.not_not.1 (of_decide_eq_false h3); rw [if_pos k] at hg; have hok := tokM_ok hlt k; have hk2 := skipS_le s (tokM s a).1.2
          refine Tri.seq (Tri.reg hT ?_)
          refine ⟨(Nat.le_refl _), (by show _ ≤ _ ∧ (_ + 1) * _ ≤ _ ∧ _ + 1 ≤ _; dsimp only; (try simp only [decide_eq_true_eq, decide_eq_false_iff_not, toNat_cast] at *); omega), ?_⟩
          refine (Tri.reg hT ?_)
          refine (Tri.reg hT ?_)
          refine .inl (.inl ⟨_, fun _ => rfl, f31_spec s (tokM s a).1.2 hok.2 (by omega), ?_⟩)
          exact ⟨(acc ++ [(tokM s a).1.1], skipS s (tokM s a).1.2), ⟨hk2.2 hok.2, by show (acc ++ [(tokM s a).1.1]).length ≤ skipS s (tokM s a).1.2; rw [List.length_append]; show acc.length + 1 ≤ _; omega, hg.symm.trans hi3⟩, (by show s.length - skipS s (tokM s a).1.2 < s.length - a; omega), Le.weak rfl rfl rfl rfl ⟨(by first | rfl | exact iv1 (by (try simp only [decide_eq_true_eq, decide_eq_false_iff_not, toNat_cast] at *); omega)), congrArg (AV.own 10) (by rw [List.length_append]; rfl), (by first | rfl | exact iv1 (by (try simp only [decide_eq_true_eq, decide_eq_false_iff_not, toNat_cast] at *); omega)), trivial⟩ ⟨congrArg (fun l => some (Chunk.arr tT l)) (by rw [List.take_length, if_pos k]; rfl), trivial⟩⟩
      · refine Tri.exit ?_
        have hlt : ¬ a < s.length := (by have := of_decide_eq_false h2; omega); rw [if_neg hlt] at hg; rw [← hi3, hg]
        refine Tri.seq (Tri.reg hT ?_)
        refine ⟨(Nat.le_refl _), (by show _ ≤ _ ∧ (_ + 1) * _ ≤ _ ∧ _ + 1 ≤ _; dsimp only; (try simp only [decide_eq_true_eq, decide_eq_false_iff_not, toNat_cast] at *); omega), ?_⟩
        refine Tri.le ⟨46, 0, 0, [(2, .list tT (acc ++ [(0, [], (s.length : Int), ())])), (3, .int .i64 0), (4, .int .i64 ((0 : Nat) : Int))], [], []⟩ (Le.trans (Le.freeze 2 _ _ rfl rfl (by first | exact Nat.le_refl _ | (rw [List.length_append, List.length_take]; exact Nat.le_of_eq (by simp)))) (Le.weak rfl rfl rfl rfl ⟨congrArg (AV.list tT) ((by simp only [List.take_length]; exact List.take_of_length_le (by simp))), rfl, rfl, trivial⟩ trivial)) ?_
        refine Tri.ret ?_
        exact ⟨rfl, trivial⟩
set_option maxRecDepth 8000 in
theorem f13_spec (s : List UInt8) : PSpec P [] 13 [.str s] (scanAV (scanS s)) := by
  refine pspec_intro hT Try.func13 (by decide) rfl rfl (by kernel_rfl) rfl ?_
  refine Tri.seq (Tri.reg hT ?_)
  refine Tri.seq ?_
  refine Tri.seq (Tri.reg hT ?_)
  refine (Tri.cond ⟨fun h1 => ?_, fun h1 => ?_⟩)
  · have h1' := of_decide_eq_true h1; have e0 : scanS s = ([], 3, 0) := if_pos (by omega)
    refine Tri.seq (Tri.reg hT ?_)
    rw [e0]; refine Tri.le ⟨43, 0, 0, [(2, .list tT []), (3, .int .i64 3), (4, .int .i64 ((0 : Nat) : Int))], [], []⟩ (Le.weakV rfl rfl rfl rfl ⟨rfl, rfl, rfl, trivial⟩ trivial) ?_
    refine Tri.ret ?_
    exact ⟨rfl, trivial⟩
  · refine (Tri.skip ?_)
    have h1' := of_decide_eq_false h1; have e0 : scanS s = scanA s [] (skipS s 0) := if_neg (by omega); have hk := skipS_le s 0; rw [e0]
    refine Tri.seq (Tri.reg hT ?_)
    refine Tri.seq (Tri.reg hT ?_)
    refine .inl (.inl ⟨_, fun _ => rfl, f33_spec s 0 (by omega) (by omega), ?_⟩)
    refine Tri.seq (Tri.block ?_)
    refine (Tri.loop (ι := List Tk × Nat) (fun x => ⟨43, 0, 20, [(0, .str s), (5, .own 10 x.1.length), (6, .int .i64 (x.2 : Int))], [(10, .arr tT x.1)], []⟩) (fun x => x.2 ≤ s.length ∧ x.1.length ≤ x.2 ∧ scanA s x.1 x.2 = scanA s [] (skipS s 0)) (fun x => s.length - x.2) (([], skipS s 0)) ?_ ?_ ?_)
    · exact ⟨hk.2 (by omega), by show 0 ≤ skipS s 0; omega, rfl⟩
    · exact Le.trans (Le.own 5 tT rfl) (Le.weak rfl rfl rfl rfl ⟨(by first | rfl | exact iv1 (by (try simp only [decide_eq_true_eq, decide_eq_false_iff_not, toNat_cast] at *); omega)), (by first | rfl | exact iv1 (by (try simp only [decide_eq_true_eq, decide_eq_false_iff_not, toNat_cast] at *); omega)), (by first | rfl | exact iv1 (by (try simp only [decide_eq_true_eq, decide_eq_false_iff_not, toNat_cast] at *); omega)), trivial⟩ ⟨rfl, trivial⟩)
    · intro ⟨acc, a⟩ hi; obtain ⟨hi1, hi2, hi3⟩ := hi; change a ≤ s.length at hi1; change acc.length ≤ a at hi2; change scanA s acc a = scanA s [] (skipS s 0) at hi3; have hg := scanA_eq (acc := acc) hi1; change Tri P _ _ ⟨43, 0, 20, [(0, .str s), (5, .own 10 acc.length), (6, .int .i64 (a : Int))], [(10, .arr tT acc)], []⟩
      refine Tri.seq ?_
      refine Tri.seq (Tri.reg hT ?_)
      refine (Tri.cond ⟨fun h2 => ?_, fun h2 => ?_⟩)
      · refine (Tri.skip ?_)
        refine (Tri.block ?_)
        have hlt : a < s.length := (by have := of_decide_eq_true h2; omega); rw [if_pos hlt] at hg
        refine Tri.seq (Tri.reg hT ?_)
        refine .inl (.inl ⟨_, fun _ => rfl, f34_spec s a hlt (by omega), ?_⟩)
        refine Tri.seq ?_
        refine Tri.seq (Tri.reg hT ?_)
        refine (Tri.cond ⟨fun h3 => ?_, fun h3 => ?_⟩)
        · refine Tri.seq (Tri.reg hT ?_)
          have k := of_decide_eq_true h3; rw [if_neg k] at hg; rw [← hi3, hg]; refine Tri.le ⟨43, 0, 0, [(2, .list tT []), (3, .int .i64 (tokM s a).2.1), (4, .int .i64 ((tokM s a).2.2 : Int))], [], []⟩ (Le.weakV rfl rfl rfl rfl ⟨rfl, rfl, congrArg (AV.int .i64) (if_neg k), trivial⟩ trivial) ?_
          refine Tri.ret ?_
          exact ⟨rfl, trivial⟩
        · refine (Tri.skip ?_)
          have k : (tokM s a).2.1 = 0 := Classical.not_not.1 (of_decide_eq_false h3); rw [if_pos k] at hg; have hok := tokM_ok hlt k; have hk2 := skipS_le s (tokM s a).1.2; have k10 := f33_spec s (tokM s a).1.2 hok.2 (by omega)
          refine Tri.seq (Tri.reg hT ?_)
          refine ⟨(Nat.le_refl _), (by show _ ≤ _ ∧ (_ + 1) * _ ≤ _ ∧ _ + 1 ≤ _; dsimp only; (try simp only [decide_eq_true_eq, decide_eq_false_iff_not, toNat_cast] at *); omega), ?_⟩
          refine (Tri.reg hT ?_)
          refine .inl (.inl ⟨_, fun _ => rfl, (show PSpec P [] 33 [.str s, .int .i64 (if (tokM s a).2.1 = 0 then ((tokM s a).1.2 : Int) else ((tokM s a).2.2 : Int))] (.int .i64 ((skipS s (tokM s a).1.2 : Nat) : Int)) from by rw [if_pos k]; exact k10), ?_⟩)
          exact ⟨(acc ++ [(tokM s a).1.1], skipS s (tokM s a).1.2), ⟨hk2.2 hok.2, by show (acc ++ [(tokM s a).1.1]).length ≤ skipS s (tokM s a).1.2; rw [List.length_append]; show acc.length + 1 ≤ _; omega, hg.symm.trans hi3⟩, (by show s.length - skipS s (tokM s a).1.2 < s.length - a; omega), Le.weak rfl rfl rfl rfl ⟨(by first | rfl | exact iv1 (by (try simp only [decide_eq_true_eq, decide_eq_false_iff_not, toNat_cast] at *); omega)), congrArg (AV.own 10) (by rw [List.length_append]; rfl), (by first | rfl | exact iv1 (by (try simp only [decide_eq_true_eq, decide_eq_false_iff_not, toNat_cast] at *); omega)), trivial⟩ ⟨congrArg (fun l => some (Chunk.arr tT l)) (by rw [List.take_length]; rfl), trivial⟩⟩
      · refine Tri.exit ?_
        have hlt : ¬ a < s.length := (by have := of_decide_eq_false h2; omega); rw [if_neg hlt] at hg; rw [← hi3, hg]
        refine Tri.seq (Tri.reg hT ?_)
        refine ⟨(Nat.le_refl _), (by show _ ≤ _ ∧ (_ + 1) * _ ≤ _ ∧ _ + 1 ≤ _; dsimp only; (try simp only [decide_eq_true_eq, decide_eq_false_iff_not, toNat_cast] at *); omega), ?_⟩
        refine Tri.le ⟨43, 0, 0, [(2, .list tT (acc ++ [(0, [], (s.length : Int), ())])), (3, .int .i64 0), (4, .int .i64 ((0 : Nat) : Int))], [], []⟩ (Le.trans (Le.freeze 2 _ _ rfl rfl (by first | exact Nat.le_refl _ | (rw [List.length_append, List.length_take]; exact Nat.le_of_eq (by simp)))) (Le.weak rfl rfl rfl rfl ⟨congrArg (AV.list tT) ((by simp only [List.take_length]; exact List.take_of_length_le (by simp))), rfl, rfl, trivial⟩ trivial)) ?_
        refine Tri.ret ?_
        exact ⟨rfl, trivial⟩
end Go.Proofs.Ytngmadndlmceoaa.Fx
