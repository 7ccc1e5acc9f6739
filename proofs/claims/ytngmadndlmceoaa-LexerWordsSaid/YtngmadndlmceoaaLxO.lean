import Derived.Test.YtngmadndlmceoaaLxN
import Derived.Test.YtngmadndlmceoaaLxM
set_option linter.all false
/- Contracts of chapter 04: the texts of tokens. -/
namespace Go.Proofs.Ytngmadndlmceoaa.Fx
open Go Go.Fw Go.Ov Go.Lx
abbrev wrAV (t : Tk) : AV := .tup [.str (writtenS t).1, .bool (writtenS t).2]
theorem wr1 {t : Tk} (h : t.1 = 1) : writtenS t = (t.2.1, decide (t.2.1 ≠ []) && decide (t.2.1.length ≤ 80) && decide (whileS inWordB t.2.1 0 = t.2.1.length)) := if_pos h
theorem wr3 {t : Tk} (h1 : ¬ t.1 = 1) (h : t.1 = 3) : writtenS t = (36 :: t.2.1, nameB t.2.1) := (if_neg h1).trans (if_pos h)
theorem wr2 {t : Tk} (h1 : ¬ t.1 = 1) (h3 : ¬ t.1 = 3) (h : t.1 = 2) : writtenS t = (quoteS t.2.1, decide (t.2.1.length ≤ 256)) := (if_neg h1).trans ((if_neg h3).trans (if_pos h))
theorem wr4 {t : Tk} (h1 : ¬ t.1 = 1) (h3 : ¬ t.1 = 3) (h2 : ¬ t.1 = 2) (h : t.1 = 4) : writtenS t = (t.2.1, decide (t.2.1 ≠ []) && decide (markR t.2.1 = t.2.1)) := (if_neg h1).trans ((if_neg h3).trans ((if_neg h2).trans (if_pos h)))
theorem wr0 {t : Tk} (h1 : ¬ t.1 = 1) (h3 : ¬ t.1 = 3) (h2 : ¬ t.1 = 2) (h : ¬ t.1 = 4) : writtenS t = ([], false) := (if_neg h1).trans ((if_neg h3).trans ((if_neg h2).trans (if_neg h)))
theorem ifb (a b : Bool) : (if a = true then b else false) = (a && b) := by cases a <;> rfl
theorem ifo (a b : Bool) : (if a = true then true else b) = (a || b) := by cases a <;> rfl
theorem ineq (a b : Nat) : decide ((a : Int) = (b : Int)) = decide (a = b) := by rw [decide_eq_decide]; omega
theorem ile (a b : Nat) : decide ((a : Int) ≤ (b : Int)) = decide (a ≤ b) := by rw [decide_eq_decide]; omega
set_option maxRecDepth 8000 in
theorem f43_spec (t : Tk) (hs : t.2.1.length ≤ 1099511627776) : PSpec P [] 43 [tv t] (wrAV t) := by
  refine pspec_intro hT Try.func43 (by decide) rfl rfl (by kernel_rfl) rfl ?_
  refine Tri.seq (Tri.reg hT ?_)
  refine Tri.seq (Tri.reg hT ?_)
  refine Tri.seq ?_
  refine Tri.seq (Tri.reg hT ?_)
  refine (Tri.block ?_)
  refine Tri.seq (Tri.reg hT ?_)
  refine (Tri.cond ⟨fun h1 => ?_, fun h1 => ?_⟩)
  · refine Tri.seq (Tri.reg hT ?_)
    refine ⟨_, [], trivial, rfl, rfl, fun h => ⟨rfl, rfl, rfl⟩, ?_⟩
    refine ⟨_, [], trivial, rfl, rfl, fun h => ⟨h, rfl, rfl, rfl⟩, ?_⟩
    refine ⟨_, [], trivial, rfl, rfl, fun h => ⟨h, rfl, rfl, rfl⟩, ?_⟩
    refine ⟨⟨fun hc => hc, fun _ => trivial⟩, ?_⟩
    refine ⟨_, [], trivial, rfl, rfl, fun h => ⟨rfl, rfl, rfl⟩, ?_⟩
    refine ⟨_, [], trivial, rfl, rfl, fun h => ⟨h, (.inl ⟨_, fun _ => rfl, f38_spec 48 inWordB (fun c hc => f48_spec c hc) _ 0 (by omega) (by omega), rfl, rfl, rfl⟩)⟩, ?_⟩
    refine ⟨_, [], trivial, rfl, rfl, fun h => ⟨rfl, rfl, rfl⟩, ?_⟩
    refine ⟨_, [], trivial, rfl, rfl, fun h => ⟨h, rfl, rfl, rfl⟩, ?_⟩
    refine ⟨_, [], trivial, rfl, rfl, fun h => ⟨h, h, rfl, rfl, rfl⟩, ?_⟩
    refine ⟨⟨fun hc => hc, fun _ => trivial⟩, ?_⟩
    refine Tri.ret ?_
    have e := wr1 (of_decide_eq_true h1); exact ⟨by unfold wrAV; rw [e]; exact congrArg (fun b => AV.tup [AV.str t.2.1, AV.bool b]) (by rw [ifb, ifb, ineq]; exact congrArg (fun b => _ && b && _) (ile t.2.1.length 80)), trivial⟩
  · refine Tri.seq (Tri.reg hT ?_)
    refine (Tri.cond ⟨fun h2 => ?_, fun h2 => ?_⟩)
    · refine Tri.seq (Tri.reg hT ?_)
      refine ⟨(by first | (simp only [List.length_append, List.length_cons, List.length_nil]; omega) | omega), ?_⟩
      refine .inl (.inl ⟨_, fun _ => rfl, f18_spec _ (by omega), ?_⟩)
      refine Tri.ret ?_
      have e := wr3 (of_decide_eq_false h1) (of_decide_eq_true h2); exact ⟨by unfold wrAV; rw [e]; rfl, trivial⟩
    · refine Tri.seq (Tri.reg hT ?_)
      refine (Tri.cond ⟨fun h3 => ?_, fun h3 => ?_⟩)
      · refine Tri.seq (Tri.reg hT ?_)
        refine .inl (.inl ⟨_, fun _ => rfl, f10_spec _ hs, ?_⟩)
        refine Tri.ret ?_
        have e := wr2 (of_decide_eq_false h1) (of_decide_eq_false h2) (of_decide_eq_true h3); exact ⟨by unfold wrAV; rw [e]; exact congrArg (fun b => AV.tup [AV.str (quoteS t.2.1), AV.bool b]) (ile t.2.1.length 256), trivial⟩
      · refine Tri.seq (Tri.reg hT ?_)
        refine (Tri.cond ⟨fun h4 => ?_, fun h4 => ?_⟩)
        · refine Tri.seq (Tri.reg hT ?_)
          refine ⟨_, [], trivial, rfl, rfl, fun h => ⟨rfl, rfl, rfl⟩, ?_⟩
          refine ⟨_, [], trivial, rfl, rfl, fun h => ⟨h, (.inl ⟨_, fun _ => rfl, f50_spec _ 0 (by have h9 := of_decide_eq_true h; rcases t with ⟨a, l, b⟩; cases l with | nil => exact absurd rfl h9 | cons => exact Nat.succ_pos _) (by omega), rfl, rfl, rfl⟩)⟩, ?_⟩
          refine ⟨_, [], trivial, rfl, rfl, fun h => ⟨rfl, rfl, rfl⟩, ?_⟩
          refine ⟨_, [], trivial, rfl, rfl, fun h => ⟨h, h, rfl, rfl, rfl⟩, ?_⟩
          refine ⟨⟨fun hc => hc, fun _ => trivial⟩, ?_⟩
          refine Tri.ret ?_
          have e := wr4 (of_decide_eq_false h1) (of_decide_eq_false h2) (of_decide_eq_false h3) (of_decide_eq_true h4); exact ⟨by unfold wrAV; rw [e]; exact congrArg (fun b => AV.tup [AV.str t.2.1, AV.bool b]) (ifb _ _), trivial⟩
        · refine (Tri.skip ?_)
          refine Tri.seq (Tri.reg hT ?_)
          refine Tri.ret ?_
          have e := wr0 (of_decide_eq_false h1) (of_decide_eq_false h2) (of_decide_eq_false h3) (of_decide_eq_false h4); exact ⟨by unfold wrAV; rw [e]; rfl, trivial⟩
set_option maxRecDepth 8000 in
theorem f28_spec (t : Tk) (hs : t.2.1.length ≤ 1099511627776) : PSpec P [] 28 [tv t] (.bool (okT t)) := by
  refine pspec_intro hT Try.func28 (by decide) rfl rfl (by kernel_rfl) rfl ?_
  refine Tri.seq (Tri.reg hT ?_)
  refine Tri.seq ?_
  refine Tri.seq (Tri.reg hT ?_)
  refine (Tri.cond ⟨fun h1 => ?_, fun h1 => ?_⟩)
  · refine Tri.seq (Tri.reg hT ?_)
    refine Tri.ret ?_
    have k := of_decide_eq_true h1; have e := wr2 (by omega) (by omega) k; exact ⟨by unfold okT; rw [e]; exact congrArg AV.bool (ile t.2.1.length 256), trivial⟩
  · refine (Tri.skip ?_)
    refine Tri.seq ?_
    refine Tri.seq (Tri.reg hT ?_)
    refine (Tri.cond ⟨fun h2 => ?_, fun h2 => ?_⟩)
    · refine Tri.seq (Tri.reg hT ?_)
      refine .inl (.inl ⟨_, fun _ => rfl, f19_spec _ (by omega), ?_⟩)
      refine Tri.ret ?_
      have k := of_decide_eq_true h2; have e := wr3 (by omega) k; exact ⟨by unfold okT; rw [e]; rfl, trivial⟩
    · refine (Tri.skip ?_)
      refine Tri.seq ?_
      refine Tri.seq (Tri.reg hT ?_)
      refine (Tri.cond ⟨fun h3 => ?_, fun h3 => ?_⟩)
      · refine Tri.seq (Tri.drw hT hm 11 (by kernel_rfl) ?_)
        refine ⟨_, [], trivial, rfl, rfl, fun h => ⟨rfl, rfl, rfl⟩, ?_⟩
        refine ⟨_, [], trivial, rfl, rfl, fun h => ⟨h, rfl, rfl, rfl⟩, ?_⟩
        refine ⟨_, [], trivial, rfl, rfl, fun h => ⟨h, (.inl ⟨_, fun _ => rfl, f45_spec _ (by omega), rfl, rfl, rfl⟩)⟩, ?_⟩
        refine ⟨_, [], trivial, rfl, rfl, fun h => ⟨rfl, rfl, rfl⟩, ?_⟩
        refine ⟨_, [], trivial, rfl, rfl, fun h => ⟨h, rfl, rfl, rfl⟩, ?_⟩
        refine ⟨_, [], trivial, rfl, rfl, fun h => ⟨h, h, rfl, rfl, rfl⟩, ?_⟩
        refine ⟨⟨fun hc => hc, fun _ => trivial⟩, ?_⟩
        refine ⟨by kernel_rfl, ?_⟩
        refine Tri.ret ?_
        have k := of_decide_eq_true h3; have e := wr4 (by omega) (by omega) (by omega) k; exact ⟨by unfold okT; rw [e]; exact congrArg AV.bool (ifb _ _), trivial⟩
      · refine (Tri.skip ?_)
        skip
        refine Tri.le (⟨58, 0, 20, [(1, .loc 0 0)], [(0, .box [.int .i64 t.1, .str t.2.1, .int .i64 t.2.2.1])], []⟩) (Le.weak rfl rfl rfl rfl ⟨(by first | rfl | exact iv1 (by (try simp only [decide_eq_true_eq, decide_eq_false_iff_not, toNat_cast] at *); omega)), trivial⟩ ⟨rfl, trivial⟩) ?_
        refine Tri.seq ?_
        have q2 := of_decide_eq_false h1; have q3 := of_decide_eq_false h2; have q4 := of_decide_eq_false h3
        refine Tri.seq (Tri.reg hT ?_)
        refine ⟨_, [], trivial, rfl, rfl, fun h => ⟨rfl, rfl, rfl⟩, ?_⟩
        refine ⟨_, [], trivial, rfl, rfl, fun h => ⟨h, rfl, rfl, rfl⟩, ?_⟩
        refine ⟨_, [], trivial, rfl, rfl, fun h => ⟨h, rfl, rfl, rfl⟩, ?_⟩
        refine ⟨⟨fun _ => trivial, fun hc => (gn hc)⟩, ?_⟩
        refine ⟨_, [], trivial, rfl, rfl, fun h => ⟨rfl, rfl, rfl⟩, ?_⟩
        refine ⟨_, [], trivial, rfl, rfl, fun h => ⟨h, rfl, rfl, rfl⟩, ?_⟩
        refine ⟨_, [], trivial, rfl, rfl, fun h => ⟨h, rfl, rfl, rfl⟩, ?_⟩
        refine ⟨_, [], trivial, rfl, rfl, fun h => ⟨h, rfl, rfl, rfl⟩, ?_⟩
        refine ⟨⟨fun _ => trivial, fun hc => (gn hc)⟩, ?_⟩
        refine (Tri.cond ⟨fun h4 => ?_, fun h4 => ?_⟩)
        · have eF : okT t = false := (by unfold okT; by_cases q1 : t.1 = 1; rw [wr1 q1]; rw [ifo, ifo] at h4; simp only [q1, ne_eq, not_true_eq_false, decide_false, Bool.false_or, Bool.or_eq_true, decide_eq_true_eq] at h4; rcases h4 with h4 | h4; simp [h4]; simp; intro _ _; omega; rw [wr0 q1 q3 q2 q4])
          refine Tri.seq (Tri.reg hT ?_)
          refine Tri.ret ?_
          exact ⟨congrArg AV.bool eF.symm, trivial⟩
        · refine (Tri.skip ?_)
          rw [ifo, ifo] at h4; have k4 : t.1 = 1 ∧ ¬ t.2.1 = [] ∧ t.2.1.length ≤ 80 := (by rw [Bool.or_eq_false_iff, Bool.or_eq_false_iff, decide_eq_false_iff_not, decide_eq_false_iff_not, decide_eq_false_iff_not] at h4; exact ⟨Classical.not_not.1 h4.1.1, h4.1.2, by have := h4.2; omega⟩); have e1 := wr1 k4.1; have e2 : okT t = decide (whileS inWordB t.2.1 0 = t.2.1.length) := (by unfold okT; rw [e1]; simp [k4.2.1, k4.2.2])
          refine Tri.le (⟨58, 0, 40, [(1, .loc 0 0)], [(0, .box [.int .i64 t.1, .str t.2.1, .int .i64 t.2.2.1])], []⟩) (Le.weak rfl rfl rfl rfl ⟨(by first | rfl | exact iv1 (by (try simp only [decide_eq_true_eq, decide_eq_false_iff_not, toNat_cast] at *); omega)), trivial⟩ ⟨rfl, trivial⟩) ?_
          refine Tri.seq ?_
          refine Tri.seq (Tri.reg hT ?_)
          refine (Tri.block ?_)
          refine (Tri.loop (ι := Nat) (fun i => ⟨58, 0, 60, [(1, .loc 0 0), (3, .int .i64 (i : Int))], [(0, .box [.int .i64 t.1, .str t.2.1, .int .i64 t.2.2.1])], []⟩) (fun i => i ≤ t.2.1.length ∧ ∀ j, j < i → inWordB (ch t.2.1 j) = true) (fun i => t.2.1.length - i) (0) ?_ ?_ ?_)
          · exact ⟨Nat.zero_le _, fun j hj => absurd hj (Nat.not_lt_zero j)⟩
          · exact Le.weak rfl rfl rfl rfl ⟨(by first | rfl | exact iv1 (by (try simp only [decide_eq_true_eq, decide_eq_false_iff_not, toNat_cast] at *); omega)), (by first | rfl | exact iv1 (by (try simp only [decide_eq_true_eq, decide_eq_false_iff_not, toNat_cast] at *); omega)), trivial⟩ ⟨rfl, trivial⟩
          · intro i hi
            refine Tri.seq ?_
            refine Tri.seq (Tri.reg hT ?_)
            refine (Tri.cond ⟨fun h5 => ?_, fun h5 => ?_⟩)
            · refine (Tri.skip ?_)
              refine Tri.seq (Tri.block ?_)
              have hlt : i < t.2.1.length := i_lt h5
              refine Tri.seq (Tri.reg hT ?_)
              refine ⟨by omega, ?_⟩
              refine .inl (.inl ⟨_, fun _ => rfl, f46_spec (ch t.2.1 i), ?_⟩)
              refine (Tri.cond ⟨fun h6 => ?_, fun h6 => ?_⟩)
              · refine Tri.seq (Tri.reg hT ?_)
                refine Tri.ret ?_
                have k6 : inWordB (ch t.2.1 i) = false := (by simpa using h6); have := whileS_stop i 0 i rfl (Nat.zero_le _) hlt k6; exact ⟨congrArg AV.bool (by rw [e2]; exact (decide_eq_false (by omega)).symm), trivial⟩
              · refine (Tri.skip ?_)
                refine (Tri.reg hT ?_)
                have k6 : inWordB (ch t.2.1 i) = true := (by simpa using h6); have w1 : IntKind.i64.wrap ((i : Int) + 1) = ((i + 1 : Nat) : Int) := (by rw [wrapId (by omega)]; omega)
                exact ⟨i + 1, ⟨hlt, fun j hj => by rcases Nat.lt_succ_iff_lt_or_eq.1 hj with q | q; exact hi.2 j q; rw [q]; exact k6⟩, (by omega), Le.weak rfl rfl rfl rfl ⟨(by first | rfl | exact iv1 (by (try simp only [decide_eq_true_eq, decide_eq_false_iff_not, toNat_cast] at *); omega)), congrArg (AV.int .i64) w1, trivial⟩ ⟨rfl, trivial⟩⟩
            · refine Tri.exit ?_
              refine Tri.seq (Tri.reg hT ?_)
              refine Tri.ret ?_
              have k5 := of_decide_eq_false h5; have := whileS_all (p := inWordB) (s := t.2.1) _ 0 rfl (Nat.zero_le _) (fun j _ hj => hi.2 j (by omega)); exact ⟨congrArg AV.bool (by rw [e2]; exact (decide_eq_true this).symm), trivial⟩
end Go.Proofs.Ytngmadndlmceoaa.Fx
