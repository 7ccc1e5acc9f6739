import Derived.Test.YtngmadndlmceoaaLxB
import Derived.Test.YtngmadndlmceoaaGLx2
set_option linter.all false
/- Contracts of chapter 04: Quote. -/
namespace Go.Proofs.Ytngmadndlmceoaa.Fx
open Go Go.Fw Go.Ov Go.Lx
theorem pB_ch (s : List UInt8) (i : Nat) : pB (s.getD i 0) = plainB (ch s i) := rfl
theorem ints_take {acc : List UInt8} {n : Nat} (h : acc.length ≤ n) : (intsOf acc).take n = intsOf acc := List.take_of_length_le (by rw [intsOf_len]; exact h)
theorem hi_eq (c : UInt8) : ((c.toNat : Nat) : Int).fdiv (2 ^ min (Int.toNat 4) IntKind.u8.bits) = ((c.toNat / 16 : Nat) : Int) := by
  have e : (2 ^ min (Int.toNat 4) IntKind.u8.bits : Int) = 16 := by decide
  rw [e, Int.fdiv_eq_ediv_of_nonneg _ (by decide)]; omega
theorem lo_eq (c : UInt8) : bitop IntKind.u8 BinOp.and ((c.toNat : Nat) : Int) 15 = ((c.toNat % 16 : Nat) : Int) := by
  have h : ∀ n, n < 256 → bitop IntKind.u8 BinOp.and ((n : Nat) : Int) 15 = ((n % 16 : Nat) : Int) := by decide +kernel
  exact h _ c.toNat_lt
set_option maxRecDepth 8000 in
theorem f10_spec (s : List UInt8) (hs : s.length ≤ 1099511627776) : PSpec P [] 10 [.str s] (.str (quoteS s)) := by
  refine pspec_intro hT Try.func10 (by decide) rfl rfl (by kernel_rfl) rfl ?_
  refine Tri.seq (Tri.reg hT ?_)
  refine Tri.seq (Tri.reg hT ?_)
  refine Tri.seq (Tri.reg hT ?_)
  refine Tri.seq ?_
  refine Tri.seq (Tri.reg hT ?_)
  refine (Tri.block ?_)
  refine (Tri.loop (ι := Nat) (fun i => ⟨57, 0, 20, [(0, .str s), (3, .own 1 (qN s i).1.length), (4, .bool (qN s i).2), (5, .int .i64 (i : Int))], [(1, .arr (.int .u8) (intsOf (qN s i).1))], []⟩) (fun i => i ≤ s.length) (fun i => s.length - i) (0) ?_ ?_ ?_)
  · exact Nat.zero_le _
  · exact Le.weak rfl rfl rfl rfl ⟨(by first | rfl | exact iv1 (by (try simp only [decide_eq_true_eq, decide_eq_false_iff_not, toNat_cast] at *); omega)), (by first | rfl | exact iv1 (by (try simp only [decide_eq_true_eq, decide_eq_false_iff_not, toNat_cast] at *); omega)), (by first | rfl | exact iv1 (by (try simp only [decide_eq_true_eq, decide_eq_false_iff_not, toNat_cast] at *); omega)), (by first | rfl | exact iv1 (by (try simp only [decide_eq_true_eq, decide_eq_false_iff_not, toNat_cast] at *); omega)), trivial⟩ ⟨rfl, trivial⟩
  · intro i hi
    refine Tri.seq ?_
    refine Tri.seq (Tri.reg hT ?_)
    refine (Tri.cond ⟨fun h1 => ?_, fun h1 => ?_⟩)
    · refine (Tri.skip ?_)
      refine Tri.seq (Tri.block ?_)
      refine Tri.seq (Tri.block ?_)
      have hlt : i < s.length := i_lt h1; have hc := (s.getD i 0).toNat_lt; have w1 : IntKind.i64.wrap ((i : Int) + 1) = ((i + 1 : Nat) : Int) := (by rw [wrapId (by omega)]; omega); have hn := qN_next hlt; have hl := qN_len s i; generalize qN s i = x at hn hl ⊢; obtain ⟨acc, op⟩ := x; change acc.length ≤ _ at hl
      refine Tri.le (⟨57, 0, 30, [(0, .str s), (3, .own 1 acc.length), (4, .bool op), (5, .int .i64 (i : Int))], [(1, .arr (.int .u8) (intsOf acc))], []⟩) (Le.weak rfl rfl rfl rfl ⟨(by first | rfl | exact iv1 (by (try simp only [decide_eq_true_eq, decide_eq_false_iff_not, toNat_cast] at *); omega)), (by first | rfl | exact iv1 (by (try simp only [decide_eq_true_eq, decide_eq_false_iff_not, toNat_cast] at *); omega)), (by first | rfl | exact iv1 (by (try simp only [decide_eq_true_eq, decide_eq_false_iff_not, toNat_cast] at *); omega)), (by first | rfl | exact iv1 (by (try simp only [decide_eq_true_eq, decide_eq_false_iff_not, toNat_cast] at *); omega)), trivial⟩ ⟨rfl, trivial⟩) ?_
      refine Tri.seq (Tri.reg hT ?_)
      refine ⟨by omega, ?_⟩
      refine .inl (.inl ⟨_, fun _ => rfl, f29_spec (ch s i), ?_⟩)
      refine (Tri.cond ⟨fun h2 => ?_, fun h2 => ?_⟩)
      · refine Tri.seq ?_
        refine Tri.seq (Tri.reg hT ?_)
        refine (Tri.cond ⟨fun h3 => ?_, fun h3 => ?_⟩)
        · refine (Tri.reg hT ?_)
          refine ⟨(Nat.le_refl _), by show _ ≤ (intsOf acc).length ∧ (_ + 1) * 1 ≤ _ ∧ _ + 1 ≤ _; rw [intsOf_len]; omega, ?_⟩
          refine Tri.seq (Tri.reg hT ?_)
          change op = _ at h3; have e := hn.trans (if_pos h2)
          refine Tri.le (⟨57, 0, 60, [(0, .str s), (3, .own 1 (acc ++ (if op = true then [124] else [])).length), (4, .bool false), (5, .int .i64 (i : Int))], [(1, .arr (.int .u8) (intsOf (acc ++ (if op = true then [124] else []))))], []⟩) (Le.weak rfl rfl rfl rfl ⟨(by first | rfl | exact iv1 (by (try simp only [decide_eq_true_eq, decide_eq_false_iff_not, toNat_cast] at *); omega)), congrArg (AV.own 1) (by subst h3; rw [List.length_append]; rfl), (by first | rfl | exact iv1 (by (try simp only [decide_eq_true_eq, decide_eq_false_iff_not, toNat_cast] at *); omega)), (by first | rfl | exact iv1 (by (try simp only [decide_eq_true_eq, decide_eq_false_iff_not, toNat_cast] at *); omega)), trivial⟩ ⟨congrArg (fun l => some (Chunk.arr (.int .u8) l)) (by subst h3; first | exact own_more acc [124] | (show intsOf acc = intsOf (acc ++ []); rw [List.append_nil])), trivial⟩) ?_
          refine Tri.seq (Tri.reg hT ?_)
          refine ⟨by omega, ?_⟩
          refine ⟨(Nat.le_refl _), by show _ ≤ List.length (intsOf _) ∧ (_ + 1) * 1 ≤ _ ∧ _ + 1 ≤ _; rw [intsOf_len, List.length_append]; have : (if op = true then [124] else [] : List UInt8).length ≤ 1 := (by split <;> simp); omega, ?_⟩
          refine Tri.exit ?_
          refine (Tri.reg hT ?_)
          exact ⟨i + 1, hlt, (by omega), Le.weak rfl rfl rfl rfl ⟨(by first | rfl | exact iv1 (by (try simp only [decide_eq_true_eq, decide_eq_false_iff_not, toNat_cast] at *); omega)), congrArg (AV.own 1) (by rw [e]; simp only [List.length_append, Nat.add_assoc]; rfl), congrArg AV.bool (by rw [e]), (by first | rfl | exact iv1 (by (try simp only [decide_eq_true_eq, decide_eq_false_iff_not, toNat_cast] at *); omega)), trivial⟩ ⟨congrArg (fun l => some (Chunk.arr (.int .u8) l)) (by rw [e, ← List.append_assoc]; exact own_one _ _), trivial⟩⟩
        · refine (Tri.skip ?_)
          refine Tri.seq (Tri.reg hT ?_)
          change op = _ at h3; have e := hn.trans (if_pos h2)
          refine Tri.le (⟨57, 0, 60, [(0, .str s), (3, .own 1 (acc ++ (if op = true then [124] else [])).length), (4, .bool false), (5, .int .i64 (i : Int))], [(1, .arr (.int .u8) (intsOf (acc ++ (if op = true then [124] else []))))], []⟩) (Le.weak rfl rfl rfl rfl ⟨(by first | rfl | exact iv1 (by (try simp only [decide_eq_true_eq, decide_eq_false_iff_not, toNat_cast] at *); omega)), congrArg (AV.own 1) (by subst h3; rw [List.length_append]; rfl), (by first | rfl | exact iv1 (by (try simp only [decide_eq_true_eq, decide_eq_false_iff_not, toNat_cast] at *); omega)), (by first | rfl | exact iv1 (by (try simp only [decide_eq_true_eq, decide_eq_false_iff_not, toNat_cast] at *); omega)), trivial⟩ ⟨congrArg (fun l => some (Chunk.arr (.int .u8) l)) (by subst h3; first | exact own_more acc [124] | (show intsOf acc = intsOf (acc ++ []); rw [List.append_nil])), trivial⟩) ?_
          refine Tri.seq (Tri.reg hT ?_)
          refine ⟨by omega, ?_⟩
          refine ⟨(Nat.le_refl _), by show _ ≤ List.length (intsOf _) ∧ (_ + 1) * 1 ≤ _ ∧ _ + 1 ≤ _; rw [intsOf_len, List.length_append]; have : (if op = true then [124] else [] : List UInt8).length ≤ 1 := (by split <;> simp); omega, ?_⟩
          refine Tri.exit ?_
          refine (Tri.reg hT ?_)
          exact ⟨i + 1, hlt, (by omega), Le.weak rfl rfl rfl rfl ⟨(by first | rfl | exact iv1 (by (try simp only [decide_eq_true_eq, decide_eq_false_iff_not, toNat_cast] at *); omega)), congrArg (AV.own 1) (by rw [e]; simp only [List.length_append, Nat.add_assoc]; rfl), congrArg AV.bool (by rw [e]), (by first | rfl | exact iv1 (by (try simp only [decide_eq_true_eq, decide_eq_false_iff_not, toNat_cast] at *); omega)), trivial⟩ ⟨congrArg (fun l => some (Chunk.arr (.int .u8) l)) (by rw [e, ← List.append_assoc]; exact own_one _ _), trivial⟩⟩
      · have e := hn.trans (if_neg (fun k => by have k2 := h2.symm.trans k; cases k2))
        refine Tri.seq (Tri.reg hT ?_)
        refine (Tri.cond ⟨fun h4 => ?_, fun h4 => ?_⟩)
        · refine (Tri.reg hT ?_)
          refine ⟨(Nat.le_refl _), by show _ ≤ (intsOf acc).length ∧ (_ + 1) * 1 ≤ _ ∧ _ + 1 ≤ _; rw [intsOf_len]; omega, ?_⟩
          change op = _ at h4
          refine Tri.le (⟨57, 0, 60, [(0, .str s), (3, .own 1 (acc ++ [if op = true then 32 else 124]).length), (5, .int .i64 (i : Int))], [(1, .arr (.int .u8) (intsOf (acc ++ [if op = true then 32 else 124])))], []⟩) (Le.weak rfl rfl rfl rfl ⟨(by first | rfl | exact iv1 (by (try simp only [decide_eq_true_eq, decide_eq_false_iff_not, toNat_cast] at *); omega)), congrArg (AV.own 1) (by rw [List.length_append]; rfl), (by first | rfl | exact iv1 (by (try simp only [decide_eq_true_eq, decide_eq_false_iff_not, toNat_cast] at *); omega)), trivial⟩ ⟨congrArg (fun l => some (Chunk.arr (.int .u8) l)) (by subst h4; first | exact own_more acc [32] | exact own_more acc [124]), trivial⟩) ?_
          refine Tri.seq (Tri.reg hT ?_)
          refine (Tri.drw hT hm 12 (by kernel_rfl) ?_)
          refine ⟨by omega, ?_⟩
          refine ⟨(by decide), ?_⟩
          refine ⟨by rw [toNat_cast]; have := hi_eq (s.getD i 0); show 0 ≤ _ ∧ _ < ((16 : Nat) : Int); rw [this]; omega, ?_⟩
          refine ⟨by omega, ?_⟩
          refine ⟨by rw [toNat_cast]; have := lo_eq (s.getD i 0); show 0 ≤ _ ∧ _ < ((16 : Nat) : Int); rw [this]; omega, ?_⟩
          refine ⟨by kernel_rfl, ?_⟩
          refine ⟨(Nat.le_refl _), by show _ ≤ List.length (intsOf _) ∧ (_ + 2) * 1 ≤ _ ∧ _ + 2 ≤ _; rw [intsOf_len, List.length_append]; show acc.length + 1 ≤ acc.length + 1 ∧ (acc.length + 1 + 2) * 1 ≤ _ ∧ acc.length + 1 + 2 ≤ _; omega, ?_⟩
          refine (Tri.reg hT ?_)
          exact ⟨i + 1, hlt, (by omega), Le.weak rfl rfl rfl rfl ⟨(by first | rfl | exact iv1 (by (try simp only [decide_eq_true_eq, decide_eq_false_iff_not, toNat_cast] at *); omega)), congrArg (AV.own 1) (by rw [e]; simp only [List.length_append]; rfl), congrArg AV.bool (by rw [e]), (by first | rfl | exact iv1 (by (try simp only [decide_eq_true_eq, decide_eq_false_iff_not, toNat_cast] at *); omega)), trivial⟩ ⟨congrArg (fun l => some (Chunk.arr (.int .u8) l)) (by rw [e, toNat_cast]; have k1 := hi_eq (s.getD i 0); have k2 := lo_eq (s.getD i 0); rw [k1, k2, toNat_cast, toNat_cast]; exact (own_more (acc ++ [if op = true then 32 else 124]) [hexD ((s.getD i 0).toNat / 16), hexD ((s.getD i 0).toNat % 16)]).trans (by rw [List.append_assoc]; rfl)), trivial⟩⟩
        · refine (Tri.reg hT ?_)
          refine ⟨(Nat.le_refl _), by show _ ≤ (intsOf acc).length ∧ (_ + 1) * 1 ≤ _ ∧ _ + 1 ≤ _; rw [intsOf_len]; omega, ?_⟩
          change op = _ at h4
          refine Tri.le (⟨57, 0, 60, [(0, .str s), (3, .own 1 (acc ++ [if op = true then 32 else 124]).length), (5, .int .i64 (i : Int))], [(1, .arr (.int .u8) (intsOf (acc ++ [if op = true then 32 else 124])))], []⟩) (Le.weak rfl rfl rfl rfl ⟨(by first | rfl | exact iv1 (by (try simp only [decide_eq_true_eq, decide_eq_false_iff_not, toNat_cast] at *); omega)), congrArg (AV.own 1) (by rw [List.length_append]; rfl), (by first | rfl | exact iv1 (by (try simp only [decide_eq_true_eq, decide_eq_false_iff_not, toNat_cast] at *); omega)), trivial⟩ ⟨congrArg (fun l => some (Chunk.arr (.int .u8) l)) (by subst h4; first | exact own_more acc [32] | exact own_more acc [124]), trivial⟩) ?_
          refine Tri.seq (Tri.reg hT ?_)
          refine (Tri.drw hT hm 12 (by kernel_rfl) ?_)
          refine ⟨by omega, ?_⟩
          refine ⟨(by decide), ?_⟩
          refine ⟨by rw [toNat_cast]; have := hi_eq (s.getD i 0); show 0 ≤ _ ∧ _ < ((16 : Nat) : Int); rw [this]; omega, ?_⟩
          refine ⟨by omega, ?_⟩
          refine ⟨by rw [toNat_cast]; have := lo_eq (s.getD i 0); show 0 ≤ _ ∧ _ < ((16 : Nat) : Int); rw [this]; omega, ?_⟩
          refine ⟨by kernel_rfl, ?_⟩
          refine ⟨(Nat.le_refl _), by show _ ≤ List.length (intsOf _) ∧ (_ + 2) * 1 ≤ _ ∧ _ + 2 ≤ _; rw [intsOf_len, List.length_append]; show acc.length + 1 ≤ acc.length + 1 ∧ (acc.length + 1 + 2) * 1 ≤ _ ∧ acc.length + 1 + 2 ≤ _; omega, ?_⟩
          refine (Tri.reg hT ?_)
          exact ⟨i + 1, hlt, (by omega), Le.weak rfl rfl rfl rfl ⟨(by first | rfl | exact iv1 (by (try simp only [decide_eq_true_eq, decide_eq_false_iff_not, toNat_cast] at *); omega)), congrArg (AV.own 1) (by rw [e]; simp only [List.length_append]; rfl), congrArg AV.bool (by rw [e]), (by first | rfl | exact iv1 (by (try simp only [decide_eq_true_eq, decide_eq_false_iff_not, toNat_cast] at *); omega)), trivial⟩ ⟨congrArg (fun l => some (Chunk.arr (.int .u8) l)) (by rw [e, toNat_cast]; have k1 := hi_eq (s.getD i 0); have k2 := lo_eq (s.getD i 0); rw [k1, k2, toNat_cast, toNat_cast]; exact (own_more (acc ++ [if op = true then 32 else 124]) [hexD ((s.getD i 0).toNat / 16), hexD ((s.getD i 0).toNat % 16)]).trans (by rw [List.append_assoc]; rfl)), trivial⟩⟩
    · refine Tri.exit ?_
      refine Tri.seq ?_
      have hN : i = s.length := (by have := of_decide_eq_false h1; omega); subst hN; have hl := qN_len s s.length; have eQ : quoteS s = (qN s s.length).1 ++ ((if (qN s s.length).2 = true then [124] else []) ++ [34]) := rfl; rw [eQ]; generalize qN s s.length = x at hl ⊢; obtain ⟨acc, op⟩ := x; change acc.length ≤ _ at hl
      refine Tri.le (⟨57, 0, 30, [(0, .str s), (3, .own 1 acc.length), (4, .bool op)], [(1, .arr (.int .u8) (intsOf acc))], []⟩) (Le.weak rfl rfl rfl rfl ⟨(by first | rfl | exact iv1 (by (try simp only [decide_eq_true_eq, decide_eq_false_iff_not, toNat_cast] at *); omega)), (by first | rfl | exact iv1 (by (try simp only [decide_eq_true_eq, decide_eq_false_iff_not, toNat_cast] at *); omega)), (by first | rfl | exact iv1 (by (try simp only [decide_eq_true_eq, decide_eq_false_iff_not, toNat_cast] at *); omega)), trivial⟩ ⟨rfl, trivial⟩) ?_
      refine Tri.seq (Tri.reg hT ?_)
      refine (Tri.cond ⟨fun h5 => ?_, fun h5 => ?_⟩)
      · refine (Tri.reg hT ?_)
        refine ⟨(Nat.le_refl _), by show _ ≤ (intsOf acc).length ∧ (_ + 1) * 1 ≤ _ ∧ _ + 1 ≤ _; rw [intsOf_len]; omega, ?_⟩
        change op = _ at h5
        refine Tri.le (⟨57, 0, 60, [(3, .own 1 (acc ++ (if op = true then [124] else [])).length)], [(1, .arr (.int .u8) (intsOf (acc ++ (if op = true then [124] else []))))], []⟩) (Le.weak rfl rfl rfl rfl ⟨congrArg (AV.own 1) (by subst h5; rw [List.length_append]; rfl), trivial⟩ ⟨congrArg (fun l => some (Chunk.arr (.int .u8) l)) (by subst h5; first | exact own_more acc [124] | (show intsOf acc = intsOf (acc ++ []); rw [List.append_nil])), trivial⟩) ?_
        refine Tri.seq (Tri.reg hT ?_)
        refine ⟨(Nat.le_refl _), by show _ ≤ List.length (intsOf _) ∧ (_ + 1) * 1 ≤ _ ∧ _ + 1 ≤ _; rw [intsOf_len, List.length_append]; have : (if op = true then [124] else [] : List UInt8).length ≤ 1 := (by split <;> simp); omega, ?_⟩
        refine ⟨by generalize acc ++ (if op = true then [124] else []) = z; show z.length + 1 ≤ (List.take z.length (intsOf z) ++ [34]).length; rw [List.length_append, List.length_take, intsOf_len, Nat.min_self]; exact Nat.le_refl _, ?_⟩
        refine Tri.ret ?_
        exact ⟨congrArg AV.str (by show List.map Fw.byteOf (List.take _ (List.take _ (intsOf _) ++ intsOf [34])) = _; rw [own_more, List.take_of_length_le (by rw [intsOf_len]; simp; omega), bytes_back, List.append_assoc]), trivial⟩
      · refine (Tri.skip ?_)
        change op = _ at h5
        refine Tri.le (⟨57, 0, 60, [(3, .own 1 (acc ++ (if op = true then [124] else [])).length)], [(1, .arr (.int .u8) (intsOf (acc ++ (if op = true then [124] else []))))], []⟩) (Le.weak rfl rfl rfl rfl ⟨congrArg (AV.own 1) (by subst h5; rw [List.length_append]; rfl), trivial⟩ ⟨congrArg (fun l => some (Chunk.arr (.int .u8) l)) (by subst h5; first | exact own_more acc [124] | (show intsOf acc = intsOf (acc ++ []); rw [List.append_nil])), trivial⟩) ?_
        refine Tri.seq (Tri.reg hT ?_)
        refine ⟨(Nat.le_refl _), by show _ ≤ List.length (intsOf _) ∧ (_ + 1) * 1 ≤ _ ∧ _ + 1 ≤ _; rw [intsOf_len, List.length_append]; have : (if op = true then [124] else [] : List UInt8).length ≤ 1 := (by split <;> simp); omega, ?_⟩
        refine ⟨by generalize acc ++ (if op = true then [124] else []) = z; show z.length + 1 ≤ (List.take z.length (intsOf z) ++ [34]).length; rw [List.length_append, List.length_take, intsOf_len, Nat.min_self]; exact Nat.le_refl _, ?_⟩
        refine Tri.ret ?_
        exact ⟨congrArg AV.str (by show List.map Fw.byteOf (List.take _ (List.take _ (intsOf _) ++ intsOf [34])) = _; rw [own_more, List.take_of_length_le (by rw [intsOf_len]; simp; omega), bytes_back, List.append_assoc]), trivial⟩
theorem plain_ref (c : Int) : (if (if decide (c ≥ 32) = true then decide (c ≤ 126) else false) = true then !decide (c = 34 ∨ c = 92 ∨ c = 124) else false) = plainB c := by
  unfold plainB
  by_cases h1 : c ≥ 32 <;> by_cases h2 : c ≤ 126 <;> by_cases h3 : c = 34 <;> by_cases h4 : c = 92 <;> by_cases h5 : c = 124 <;> simp [h1, h2, h3, h4, h5] <;> omega
theorem slice_one {s : List UInt8} {i : Nat} (h : i < s.length) : List.drop i (List.take (i + 1) s) = [s.getD i 0] := by
  rw [take_next h, List.drop_append, List.drop_of_length_le (by rw [List.length_take]; omega), List.length_take, Nat.min_eq_left (by omega), Nat.sub_self]; rfl
theorem hex_slice {n : Nat} (h : n < 16) : List.drop ((n : Nat) : Int).toNat (List.take (IntKind.i64.wrap (((n : Nat) : Int) + 1)).toNat hexS) = [hexD n] := by
  revert n; decide +kernel
theorem td (n : Nat) : ((n : Nat) : Int).tdiv 16 = ((n / 16 : Nat) : Int) := rfl
theorem tm (n : Nat) : ((n : Nat) : Int).tmod 16 = ((n % 16 : Nat) : Int) := rfl
set_option maxRecDepth 8000 in
theorem f11_spec (s : List UInt8) (hs : s.length ≤ 1099511627776) : PSpec P [] 11 [.str s] (.str (quoteS s)) := by
  refine pspec_intro hT Try.func11 (by decide) rfl rfl (by kernel_rfl) rfl ?_
  refine Tri.seq (Tri.reg hT ?_)
  refine Tri.seq (Tri.reg hT ?_)
  refine Tri.seq (Tri.reg hT ?_)
  refine Tri.seq (Tri.reg hT ?_)
  refine Tri.seq ?_
  refine Tri.seq (Tri.reg hT ?_)
  refine (Tri.block ?_)
  refine (Tri.loop (ι := Nat) (fun i => ⟨73, 0, 20, [(0, .str s), (3, .str hexS), (4, .str (qN s i).1), (5, .bool (qN s i).2), (6, .int .i64 (i : Int))], [], []⟩) (fun i => i ≤ s.length) (fun i => s.length - i) (0) ?_ ?_ ?_)
  · exact Nat.zero_le _
  · exact Le.weak rfl rfl rfl rfl ⟨(by first | rfl | exact iv1 (by (try simp only [decide_eq_true_eq, decide_eq_false_iff_not, toNat_cast] at *); omega)), (by first | rfl | exact iv1 (by (try simp only [decide_eq_true_eq, decide_eq_false_iff_not, toNat_cast] at *); omega)), (by first | rfl | exact iv1 (by (try simp only [decide_eq_true_eq, decide_eq_false_iff_not, toNat_cast] at *); omega)), (by first | rfl | exact iv1 (by (try simp only [decide_eq_true_eq, decide_eq_false_iff_not, toNat_cast] at *); omega)), (by first | rfl | exact iv1 (by (try simp only [decide_eq_true_eq, decide_eq_false_iff_not, toNat_cast] at *); omega)), trivial⟩ trivial
  · intro i hi
    refine Tri.seq ?_
    refine Tri.seq (Tri.reg hT ?_)
    refine (Tri.cond ⟨fun h1 => ?_, fun h1 => ?_⟩)
    · refine (Tri.skip ?_)
      refine Tri.seq (Tri.block ?_)
      have hlt : i < s.length := i_lt h1; have hc := (s.getD i 0).toNat_lt; have w1 : IntKind.i64.wrap ((i : Int) + 1) = ((i + 1 : Nat) : Int) := (by rw [wrapId (by omega)]; omega); have hn := qN_next hlt; have hl := qN_len s i; generalize qN s i = x at hn hl ⊢; obtain ⟨acc, op⟩ := x; change acc.length ≤ _ at hl
      refine Tri.le (⟨73, 0, 30, [(0, .str s), (3, .str hexS), (4, .str acc), (5, .bool op), (6, .int .i64 (i : Int))], [], []⟩) (Le.weak rfl rfl rfl rfl ⟨(by first | rfl | exact iv1 (by (try simp only [decide_eq_true_eq, decide_eq_false_iff_not, toNat_cast] at *); omega)), (by first | rfl | exact iv1 (by (try simp only [decide_eq_true_eq, decide_eq_false_iff_not, toNat_cast] at *); omega)), (by first | rfl | exact iv1 (by (try simp only [decide_eq_true_eq, decide_eq_false_iff_not, toNat_cast] at *); omega)), (by first | rfl | exact iv1 (by (try simp only [decide_eq_true_eq, decide_eq_false_iff_not, toNat_cast] at *); omega)), (by first | rfl | exact iv1 (by (try simp only [decide_eq_true_eq, decide_eq_false_iff_not, toNat_cast] at *); omega)), trivial⟩ trivial) ?_
      refine Tri.seq (Tri.reg hT ?_)
      refine ⟨by omega, ?_⟩
      refine Tri.seq (Tri.reg hT ?_)
      refine ⟨_, [], trivial, rfl, rfl, fun h => ⟨rfl, rfl, rfl⟩, ?_⟩
      refine ⟨_, [], trivial, rfl, rfl, fun h => ⟨h, rfl, rfl, rfl⟩, ?_⟩
      refine ⟨⟨fun hc => hc, fun _ => trivial⟩, ?_⟩
      refine ⟨_, [], trivial, rfl, rfl, fun h => ⟨rfl, rfl, rfl⟩, ?_⟩
      refine ⟨_, [], trivial, rfl, rfl, fun h => ⟨h, (.inl ⟨_, fun _ => rfl, f30_spec (ch s i), rfl, rfl, rfl⟩)⟩, ?_⟩
      refine ⟨_, [], trivial, rfl, rfl, fun h => ⟨h, rfl, rfl, rfl⟩, ?_⟩
      refine ⟨⟨fun hc => hc, fun _ => trivial⟩, ?_⟩
      refine Tri.seq ?_
      skip
      refine Tri.le (⟨73, 0, 60, [(0, .str s), (3, .str hexS), (4, .str acc), (5, .bool op), (6, .int .i64 (i : Int)), (7, .int .u8 ((s.getD i 0).toNat : Int)), (8, .bool (pB (s.getD i 0)))], [], []⟩) (Le.weak rfl rfl rfl rfl ⟨(by first | rfl | exact iv1 (by (try simp only [decide_eq_true_eq, decide_eq_false_iff_not, toNat_cast] at *); omega)), (by first | rfl | exact iv1 (by (try simp only [decide_eq_true_eq, decide_eq_false_iff_not, toNat_cast] at *); omega)), (by first | rfl | exact iv1 (by (try simp only [decide_eq_true_eq, decide_eq_false_iff_not, toNat_cast] at *); omega)), (by first | rfl | exact iv1 (by (try simp only [decide_eq_true_eq, decide_eq_false_iff_not, toNat_cast] at *); omega)), (by first | rfl | exact iv1 (by (try simp only [decide_eq_true_eq, decide_eq_false_iff_not, toNat_cast] at *); omega)), (by first | rfl | exact iv1 (by (try simp only [decide_eq_true_eq, decide_eq_false_iff_not, toNat_cast] at *); omega)), congrArg AV.bool (plain_ref (ch s i)), trivial⟩ trivial) ?_
      refine Tri.seq (Tri.reg hT ?_)
      refine (Tri.cond ⟨fun h2 => ?_, fun h2 => ?_⟩)
      · refine Tri.seq ?_
        refine Tri.seq (Tri.reg hT ?_)
        refine (Tri.cond ⟨fun h3 => ?_, fun h3 => ?_⟩)
        · refine (Tri.reg hT ?_)
          refine ⟨(by first | (simp only [List.length_append, List.length_cons, List.length_nil]; omega) | omega), ?_⟩
          have e := hn.trans (if_pos h2); change op = _ at h3
          refine Tri.le (⟨73, 0, 70, [(0, .str s), (3, .str hexS), (4, .str (acc ++ (if op = true then [124] else []))), (6, .int .i64 (i : Int)), (8, .bool true)], [], []⟩) (Le.weak rfl rfl rfl rfl ⟨(by first | rfl | exact iv1 (by (try simp only [decide_eq_true_eq, decide_eq_false_iff_not, toNat_cast] at *); omega)), (by first | rfl | exact iv1 (by (try simp only [decide_eq_true_eq, decide_eq_false_iff_not, toNat_cast] at *); omega)), congrArg AV.str (by subst h3; first | rfl | (show acc = acc ++ []; rw [List.append_nil])), (by first | rfl | exact iv1 (by (try simp only [decide_eq_true_eq, decide_eq_false_iff_not, toNat_cast] at *); omega)), congrArg AV.bool h2, trivial⟩ trivial) ?_
          refine (Tri.reg hT ?_)
          refine ⟨by rw [w1]; omega, ?_⟩
          refine ⟨by rw [w1, toNat_cast, toNat_cast, slice_one hlt, List.length_append]; have : (if op = true then [124] else [] : List UInt8).length ≤ 1 := (by split <;> simp); show _ + _ + 1 ≤ _; omega, ?_⟩
          refine (Tri.reg hT ?_)
          refine (Tri.reg hT ?_)
          exact ⟨i + 1, hlt, (by omega), Le.weak rfl rfl rfl rfl ⟨(by first | rfl | exact iv1 (by (try simp only [decide_eq_true_eq, decide_eq_false_iff_not, toNat_cast] at *); omega)), (by first | rfl | exact iv1 (by (try simp only [decide_eq_true_eq, decide_eq_false_iff_not, toNat_cast] at *); omega)), congrArg AV.str (by rw [e, w1, toNat_cast, toNat_cast, slice_one hlt, List.append_assoc]), congrArg AV.bool (by rw [e]; rfl), (by first | rfl | exact iv1 (by (try simp only [decide_eq_true_eq, decide_eq_false_iff_not, toNat_cast] at *); omega)), trivial⟩ trivial⟩
        · refine (Tri.skip ?_)
          have e := hn.trans (if_pos h2); change op = _ at h3
          refine Tri.le (⟨73, 0, 70, [(0, .str s), (3, .str hexS), (4, .str (acc ++ (if op = true then [124] else []))), (6, .int .i64 (i : Int)), (8, .bool true)], [], []⟩) (Le.weak rfl rfl rfl rfl ⟨(by first | rfl | exact iv1 (by (try simp only [decide_eq_true_eq, decide_eq_false_iff_not, toNat_cast] at *); omega)), (by first | rfl | exact iv1 (by (try simp only [decide_eq_true_eq, decide_eq_false_iff_not, toNat_cast] at *); omega)), congrArg AV.str (by subst h3; first | rfl | (show acc = acc ++ []; rw [List.append_nil])), (by first | rfl | exact iv1 (by (try simp only [decide_eq_true_eq, decide_eq_false_iff_not, toNat_cast] at *); omega)), congrArg AV.bool h2, trivial⟩ trivial) ?_
          refine (Tri.reg hT ?_)
          refine ⟨by rw [w1]; omega, ?_⟩
          refine ⟨by rw [w1, toNat_cast, toNat_cast, slice_one hlt, List.length_append]; have : (if op = true then [124] else [] : List UInt8).length ≤ 1 := (by split <;> simp); show _ + _ + 1 ≤ _; omega, ?_⟩
          refine (Tri.reg hT ?_)
          refine (Tri.reg hT ?_)
          exact ⟨i + 1, hlt, (by omega), Le.weak rfl rfl rfl rfl ⟨(by first | rfl | exact iv1 (by (try simp only [decide_eq_true_eq, decide_eq_false_iff_not, toNat_cast] at *); omega)), (by first | rfl | exact iv1 (by (try simp only [decide_eq_true_eq, decide_eq_false_iff_not, toNat_cast] at *); omega)), congrArg AV.str (by rw [e, w1, toNat_cast, toNat_cast, slice_one hlt, List.append_assoc]), congrArg AV.bool (by rw [e]; rfl), (by first | rfl | exact iv1 (by (try simp only [decide_eq_true_eq, decide_eq_false_iff_not, toNat_cast] at *); omega)), trivial⟩ trivial⟩
      · refine Tri.seq ?_
        refine Tri.seq (Tri.reg hT ?_)
        refine (Tri.cond ⟨fun h4 => ?_, fun h4 => ?_⟩)
        · refine (Tri.reg hT ?_)
          refine ⟨(by first | (simp only [List.length_append, List.length_cons, List.length_nil]; omega) | omega), ?_⟩
          have e := hn.trans (if_neg (fun k => by have k2 := h2.symm.trans k; cases k2)); change op = _ at h4; have q1 : IntKind.i64.wrap (((s.getD i 0).toNat : Nat) : Int) = (((s.getD i 0).toNat : Nat) : Int) := wrapId (by omega)
          refine Tri.le (⟨73, 0, 70, [(0, .str s), (3, .str hexS), (4, .str (acc ++ [if op = true then 32 else 124])), (6, .int .i64 (i : Int)), (7, .int .u8 ((s.getD i 0).toNat : Int)), (8, .bool false)], [], []⟩) (Le.weak rfl rfl rfl rfl ⟨(by first | rfl | exact iv1 (by (try simp only [decide_eq_true_eq, decide_eq_false_iff_not, toNat_cast] at *); omega)), (by first | rfl | exact iv1 (by (try simp only [decide_eq_true_eq, decide_eq_false_iff_not, toNat_cast] at *); omega)), congrArg AV.str (by subst h4; rfl), (by first | rfl | exact iv1 (by (try simp only [decide_eq_true_eq, decide_eq_false_iff_not, toNat_cast] at *); omega)), (by first | rfl | exact iv1 (by (try simp only [decide_eq_true_eq, decide_eq_false_iff_not, toNat_cast] at *); omega)), congrArg AV.bool h2, trivial⟩ trivial) ?_
          refine Tri.seq (Tri.reg hT ?_)
          refine ⟨(by decide), ?_⟩
          refine Tri.seq (Tri.reg hT ?_)
          refine ⟨(by decide), ?_⟩
          have x1 := hex_slice (show (s.getD i 0).toNat / 16 < 16 by omega); have x2 := hex_slice (show (s.getD i 0).toNat % 16 < 16 by omega)
          refine Tri.le (⟨73, 0, 90, [(0, .str s), (3, .str hexS), (4, .str (acc ++ [if op = true then 32 else 124])), (6, .int .i64 (i : Int)), (8, .bool false), (9, .int .i64 ((s.getD i 0).toNat / 16 : Nat)), (10, .int .i64 ((s.getD i 0).toNat % 16 : Nat))], [], []⟩) (Le.weak rfl rfl rfl rfl ⟨(by first | rfl | exact iv1 (by (try simp only [decide_eq_true_eq, decide_eq_false_iff_not, toNat_cast] at *); omega)), (by first | rfl | exact iv1 (by (try simp only [decide_eq_true_eq, decide_eq_false_iff_not, toNat_cast] at *); omega)), (by first | rfl | exact iv1 (by (try simp only [decide_eq_true_eq, decide_eq_false_iff_not, toNat_cast] at *); omega)), (by first | rfl | exact iv1 (by (try simp only [decide_eq_true_eq, decide_eq_false_iff_not, toNat_cast] at *); omega)), (by first | rfl | exact iv1 (by (try simp only [decide_eq_true_eq, decide_eq_false_iff_not, toNat_cast] at *); omega)), congrArg (AV.int .i64) (by rw [q1, td]; exact wrapId (by omega)), congrArg (AV.int .i64) (by rw [q1, tm]), trivial⟩ trivial) ?_
          refine (Tri.drw hT hm 13 (by kernel_rfl) ?_)
          refine ⟨by show _ ∧ _ ∧ _ ≤ ((16 : Nat) : Int); rw [wrapId (by omega)]; omega, ?_⟩
          refine ⟨by rw [x1, List.length_append]; show acc.length + 1 + 1 ≤ _; omega, ?_⟩
          refine ⟨by show _ ∧ _ ∧ _ ≤ ((16 : Nat) : Int); rw [wrapId (by omega)]; omega, ?_⟩
          refine ⟨by rw [x1, x2, List.length_append, List.length_append]; show acc.length + 1 + 1 + 1 ≤ _; omega, ?_⟩
          refine ⟨by kernel_rfl, ?_⟩
          refine (Tri.reg hT ?_)
          refine (Tri.reg hT ?_)
          exact ⟨i + 1, hlt, (by omega), Le.weak rfl rfl rfl rfl ⟨(by first | rfl | exact iv1 (by (try simp only [decide_eq_true_eq, decide_eq_false_iff_not, toNat_cast] at *); omega)), (by first | rfl | exact iv1 (by (try simp only [decide_eq_true_eq, decide_eq_false_iff_not, toNat_cast] at *); omega)), congrArg AV.str (by rw [e, x1, x2, List.append_assoc, List.append_assoc]; rfl), congrArg AV.bool (by rw [e]; rfl), (by first | rfl | exact iv1 (by (try simp only [decide_eq_true_eq, decide_eq_false_iff_not, toNat_cast] at *); omega)), trivial⟩ trivial⟩
        · refine (Tri.reg hT ?_)
          refine ⟨(by first | (simp only [List.length_append, List.length_cons, List.length_nil]; omega) | omega), ?_⟩
          have e := hn.trans (if_neg (fun k => by have k2 := h2.symm.trans k; cases k2)); change op = _ at h4; have q1 : IntKind.i64.wrap (((s.getD i 0).toNat : Nat) : Int) = (((s.getD i 0).toNat : Nat) : Int) := wrapId (by omega)
          refine Tri.le (⟨73, 0, 70, [(0, .str s), (3, .str hexS), (4, .str (acc ++ [if op = true then 32 else 124])), (6, .int .i64 (i : Int)), (7, .int .u8 ((s.getD i 0).toNat : Int)), (8, .bool false)], [], []⟩) (Le.weak rfl rfl rfl rfl ⟨(by first | rfl | exact iv1 (by (try simp only [decide_eq_true_eq, decide_eq_false_iff_not, toNat_cast] at *); omega)), (by first | rfl | exact iv1 (by (try simp only [decide_eq_true_eq, decide_eq_false_iff_not, toNat_cast] at *); omega)), congrArg AV.str (by subst h4; rfl), (by first | rfl | exact iv1 (by (try simp only [decide_eq_true_eq, decide_eq_false_iff_not, toNat_cast] at *); omega)), (by first | rfl | exact iv1 (by (try simp only [decide_eq_true_eq, decide_eq_false_iff_not, toNat_cast] at *); omega)), congrArg AV.bool h2, trivial⟩ trivial) ?_
          refine Tri.seq (Tri.reg hT ?_)
          refine ⟨(by decide), ?_⟩
          refine Tri.seq (Tri.reg hT ?_)
          refine ⟨(by decide), ?_⟩
          have x1 := hex_slice (show (s.getD i 0).toNat / 16 < 16 by omega); have x2 := hex_slice (show (s.getD i 0).toNat % 16 < 16 by omega)
          refine Tri.le (⟨73, 0, 90, [(0, .str s), (3, .str hexS), (4, .str (acc ++ [if op = true then 32 else 124])), (6, .int .i64 (i : Int)), (8, .bool false), (9, .int .i64 ((s.getD i 0).toNat / 16 : Nat)), (10, .int .i64 ((s.getD i 0).toNat % 16 : Nat))], [], []⟩) (Le.weak rfl rfl rfl rfl ⟨(by first | rfl | exact iv1 (by (try simp only [decide_eq_true_eq, decide_eq_false_iff_not, toNat_cast] at *); omega)), (by first | rfl | exact iv1 (by (try simp only [decide_eq_true_eq, decide_eq_false_iff_not, toNat_cast] at *); omega)), (by first | rfl | exact iv1 (by (try simp only [decide_eq_true_eq, decide_eq_false_iff_not, toNat_cast] at *); omega)), (by first | rfl | exact iv1 (by (try simp only [decide_eq_true_eq, decide_eq_false_iff_not, toNat_cast] at *); omega)), (by first | rfl | exact iv1 (by (try simp only [decide_eq_true_eq, decide_eq_false_iff_not, toNat_cast] at *); omega)), congrArg (AV.int .i64) (by rw [q1, td]; exact wrapId (by omega)), congrArg (AV.int .i64) (by rw [q1, tm]), trivial⟩ trivial) ?_
          refine (Tri.drw hT hm 13 (by kernel_rfl) ?_)
          refine ⟨by show _ ∧ _ ∧ _ ≤ ((16 : Nat) : Int); rw [wrapId (by omega)]; omega, ?_⟩
          refine ⟨by rw [x1, List.length_append]; show acc.length + 1 + 1 ≤ _; omega, ?_⟩
          refine ⟨by show _ ∧ _ ∧ _ ≤ ((16 : Nat) : Int); rw [wrapId (by omega)]; omega, ?_⟩
          refine ⟨by rw [x1, x2, List.length_append, List.length_append]; show acc.length + 1 + 1 + 1 ≤ _; omega, ?_⟩
          refine ⟨by kernel_rfl, ?_⟩
          refine (Tri.reg hT ?_)
          refine (Tri.reg hT ?_)
          exact ⟨i + 1, hlt, (by omega), Le.weak rfl rfl rfl rfl ⟨(by first | rfl | exact iv1 (by (try simp only [decide_eq_true_eq, decide_eq_false_iff_not, toNat_cast] at *); omega)), (by first | rfl | exact iv1 (by (try simp only [decide_eq_true_eq, decide_eq_false_iff_not, toNat_cast] at *); omega)), congrArg AV.str (by rw [e, x1, x2, List.append_assoc, List.append_assoc]; rfl), congrArg AV.bool (by rw [e]; rfl), (by first | rfl | exact iv1 (by (try simp only [decide_eq_true_eq, decide_eq_false_iff_not, toNat_cast] at *); omega)), trivial⟩ trivial⟩
    · refine Tri.exit ?_
      refine Tri.seq ?_
      have hN : i = s.length := (by have := of_decide_eq_false h1; omega); subst hN; have hl := qN_len s s.length; have eQ : quoteS s = (qN s s.length).1 ++ ((if (qN s s.length).2 = true then [124] else []) ++ [34]) := rfl; rw [eQ]; generalize qN s s.length = x at hl ⊢; obtain ⟨acc, op⟩ := x; change acc.length ≤ _ at hl
      refine Tri.le (⟨73, 0, 30, [(4, .str acc), (5, .bool op)], [], []⟩) (Le.weak rfl rfl rfl rfl ⟨(by first | rfl | exact iv1 (by (try simp only [decide_eq_true_eq, decide_eq_false_iff_not, toNat_cast] at *); omega)), (by first | rfl | exact iv1 (by (try simp only [decide_eq_true_eq, decide_eq_false_iff_not, toNat_cast] at *); omega)), trivial⟩ trivial) ?_
      refine Tri.seq (Tri.reg hT ?_)
      refine (Tri.cond ⟨fun h5 => ?_, fun h5 => ?_⟩)
      · refine (Tri.reg hT ?_)
        refine ⟨(by first | (simp only [List.length_append, List.length_cons, List.length_nil]; omega) | omega), ?_⟩
        change op = _ at h5
        refine Tri.le (⟨73, 0, 60, [(4, .str (acc ++ (if op = true then [124] else [])))], [], []⟩) (Le.weak rfl rfl rfl rfl ⟨congrArg AV.str (by subst h5; first | rfl | (show acc = acc ++ []; rw [List.append_nil])), trivial⟩ trivial) ?_
        refine Tri.seq (Tri.reg hT ?_)
        refine ⟨by rw [List.length_append]; have : (if op = true then [124] else [] : List UInt8).length ≤ 1 := (by split <;> simp); show _ + _ + 1 ≤ _; omega, ?_⟩
        refine Tri.ret ?_
        exact ⟨congrArg AV.str (List.append_assoc ..), trivial⟩
      · refine (Tri.skip ?_)
        change op = _ at h5
        refine Tri.le (⟨73, 0, 60, [(4, .str (acc ++ (if op = true then [124] else [])))], [], []⟩) (Le.weak rfl rfl rfl rfl ⟨congrArg AV.str (by subst h5; first | rfl | (show acc = acc ++ []; rw [List.append_nil])), trivial⟩ trivial) ?_
        refine Tri.seq (Tri.reg hT ?_)
        refine ⟨by rw [List.length_append]; have : (if op = true then [124] else [] : List UInt8).length ≤ 1 := (by split <;> simp); show _ + _ + 1 ≤ _; omega, ?_⟩
        refine Tri.ret ?_
        exact ⟨congrArg AV.str (List.append_assoc ..), trivial⟩
end Go.Proofs.Ytngmadndlmceoaa.Fx
