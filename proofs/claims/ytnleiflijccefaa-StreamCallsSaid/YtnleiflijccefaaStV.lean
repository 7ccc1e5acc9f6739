import Derived.Test.YtnleiflijccefaaStU
import Derived.Test.YtnleiflijccefaaGSt1
set_option linter.all false
/- Contracts of chapter 20: nil streams, long, program. -/
namespace Go.Proofs.Ytnleiflijccefaa.Fx
open Go Go.Fw Go.Ov
theorem f34_nil : PSpec P [] 34 [.nilp] (.int .u32 0) := by
  refine pspec_intro hT Try.func34 (by decide) rfl rfl (by kernel_rfl) rfl ?_
  refine Tri.seq (Tri.reg hT ?_)
  refine Tri.seq ?_
  refine Tri.seq (Tri.reg hT ?_)
  refine (Tri.cond ⟨fun h1 => ?_, fun h1 => ?_⟩)
  · refine Tri.seq (Tri.reg hT ?_)
    refine Tri.ret ?_
    exact ⟨rfl, trivial⟩
  · cases h1
theorem f41_nil : PSpec P [] 41 [.nilp] (.int .i64 0) := by
  refine pspec_intro hT Try.func41 (by decide) rfl rfl (by kernel_rfl) rfl ?_
  refine Tri.seq (Tri.reg hT ?_)
  refine Tri.seq ?_
  refine Tri.seq (Tri.reg hT ?_)
  refine (Tri.cond ⟨fun h1 => ?_, fun h1 => ?_⟩)
  · refine Tri.seq (Tri.reg hT ?_)
    refine Tri.ret ?_
    exact ⟨rfl, trivial⟩
  · cases h1
theorem f43_nil : PSpec P [] 43 [.nilp] (.int .i64 0) := by
  refine pspec_intro hT Try.func43 (by decide) rfl rfl (by kernel_rfl) rfl ?_
  refine Tri.seq (Tri.reg hT ?_)
  refine Tri.seq ?_
  refine Tri.seq (Tri.reg hT ?_)
  refine (Tri.cond ⟨fun h1 => ?_, fun h1 => ?_⟩)
  · refine Tri.seq (Tri.reg hT ?_)
    refine Tri.ret ?_
    exact ⟨rfl, trivial⟩
  · cases h1
theorem f45_nil : PSpec P [] 45 [.nilp] (.bool false) := by
  refine pspec_intro hT Try.func45 (by decide) rfl rfl (by kernel_rfl) rfl ?_
  refine Tri.seq (Tri.reg hT ?_)
  refine Tri.seq (Tri.drw hT hm 14 (by kernel_rfl) ?_)
  refine ⟨_, [], trivial, rfl, rfl, fun h => ⟨rfl, rfl, rfl⟩, ?_⟩
  refine ⟨.nilp, [], trivial, rfl, rfl, fun h => absurd h (by decide), ?_⟩
  refine ⟨.nilp, [], trivial, rfl, rfl, fun h => absurd h (by decide), ?_⟩
  refine ⟨.int .i64 0, [], trivial, rfl, rfl, fun h => absurd h (by decide), ?_⟩
  refine ⟨_, [], trivial, rfl, rfl, fun h => ⟨rfl, rfl, rfl⟩, ?_⟩
  refine ⟨.nilp, [], trivial, rfl, rfl, fun h => absurd h (by decide), ?_⟩
  refine ⟨.nilp, [], trivial, rfl, rfl, fun h => absurd h (by decide), ?_⟩
  refine ⟨.nilp, [], trivial, rfl, rfl, fun h => absurd h (by decide), ?_⟩
  refine ⟨.int .i64 0, [], trivial, rfl, rfl, fun h => absurd h (by decide), ?_⟩
  refine ⟨.bool false, [], trivial, rfl, rfl, fun h => absurd h (by decide), ?_⟩
  refine ⟨⟨fun hc => hc, fun _ => trivial⟩, ?_⟩
  refine ⟨by kernel_rfl, ?_⟩
  refine Tri.ret ?_
  exact ⟨rfl, trivial⟩
theorem f47_nil (seq : Int) : PSpec P [] 47 [.nilp, .int .u32 seq] (.bool false) := by
  refine pspec_intro hT Try.func47 (by decide) rfl rfl (by kernel_rfl) rfl ?_
  refine Tri.seq (Tri.reg hT ?_)
  refine Tri.seq ?_
  refine Tri.seq (Tri.reg hT ?_)
  refine ⟨_, [], trivial, rfl, rfl, fun h => ⟨rfl, rfl, rfl⟩, ?_⟩
  refine ⟨.nilp, [], trivial, rfl, rfl, fun h => absurd h (by decide), ?_⟩
  refine ⟨.nilp, [], trivial, rfl, rfl, fun h => absurd h (by decide), ?_⟩
  refine ⟨.int .i64 0, [], trivial, rfl, rfl, fun h => absurd h (by decide), ?_⟩
  refine ⟨.bool false, [], trivial, rfl, rfl, fun h => absurd h (by decide), ?_⟩
  refine ⟨⟨fun _ => trivial, fun hc => (gn hc)⟩, ?_⟩
  refine (Tri.cond ⟨fun h1 => ?_, fun h1 => ?_⟩)
  · refine Tri.seq (Tri.reg hT ?_)
    refine Tri.ret ?_
    exact ⟨rfl, trivial⟩
  · cases h1
theorem f57_nil (seq : Int) : PSpec P [] 57 [.nilp, .int .u32 seq] (.tup [.int .i64 0, .str []]) := by
  refine pspec_intro hT Try.func57 (by decide) rfl rfl (by kernel_rfl) rfl ?_
  refine Tri.seq (Tri.reg hT ?_)
  refine Tri.seq ?_
  refine Tri.seq (Tri.reg hT ?_)
  refine (Tri.cond ⟨fun h1 => ?_, fun h1 => ?_⟩)
  · refine Tri.seq (Tri.reg hT ?_)
    refine Tri.ret ?_
    exact ⟨rfl, trivial⟩
  · cases h1
theorem f23_nil (seq : Int) (d : List UInt8) : PSpec P [] 23 [.nilp, .int .u32 seq, .str d] (.tup [.str [], .int .i64 0, .int .i64 0]) := by
  refine pspec_intro hT Try.func23 (by decide) rfl rfl (by kernel_rfl) rfl ?_
  refine Tri.seq (Tri.reg hT ?_)
  refine Tri.seq ?_
  refine Tri.seq (Tri.reg hT ?_)
  refine (Tri.cond ⟨fun h1 => ?_, fun h1 => ?_⟩)
  · refine Tri.seq (Tri.reg hT ?_)
    refine Tri.ret ?_
    exact ⟨rfl, trivial⟩
  · cases h1
theorem f31_spec (l : List Ca) (hl : l.length ≤ 140737488351232) : PSpec P [] 31 [.list kT l] (.bool (longC l)) := by
  refine pspec_intro hT Try.func31 (by decide) rfl rfl (by kernel_rfl) rfl ?_
  refine Tri.seq (Tri.reg hT ?_)
  refine Tri.seq ?_
  refine Tri.seq (Tri.reg hT ?_)
  refine (Tri.block ?_)
  refine (Tri.loop (ι := Nat) (fun i => ⟨24, 0, 0, [(0, .list kT l), (3, .int .i64 (i : Int))], [], []⟩) (fun i => i ≤ l.length ∧ i ≤ 60 ∧ ∀ j, j < i → (l.getD j (Ty.dflt kT)).2.2.1.length ≤ 300) (fun i => 60 - i) (0) ?_ ?_ ?_)
  · exact ⟨Nat.zero_le _, by omega, fun j hj => by omega⟩
  · exact Le.weak rfl rfl rfl rfl ⟨(by first | rfl | exact iv1 (by (try simp only [decide_eq_true_eq, decide_eq_false_iff_not, toNat_cast] at *); omega)), (by first | rfl | exact iv1 (by (try simp only [decide_eq_true_eq, decide_eq_false_iff_not, toNat_cast] at *); omega)), trivial⟩ trivial
  · intro i hi
    refine Tri.seq ?_
    refine Tri.seq (Tri.reg hT ?_)
    refine ⟨_, [], trivial, rfl, rfl, fun h => ⟨rfl, rfl, rfl⟩, ?_⟩
    refine ⟨_, [], trivial, rfl, rfl, fun h => ⟨h, rfl, rfl, rfl⟩, ?_⟩
    refine ⟨⟨fun hc => hc, fun _ => trivial⟩, ?_⟩
    refine (Tri.cond ⟨fun h1 => ?_, fun h1 => ?_⟩)
    · refine (Tri.skip ?_)
      refine Tri.seq (Tri.block ?_)
      refine Tri.seq (Tri.reg hT ?_)
      refine ⟨by have := gand_t h1; omega, ?_⟩
      refine (Tri.cond ⟨fun h2 => ?_, fun h2 => ?_⟩)
      · refine Tri.seq (Tri.reg hT ?_)
        refine Tri.ret ?_
        have h2' := of_decide_eq_true h2; rw [toNat_cast] at h2'; have h1' := gand_t h1; exact ⟨congrArg AV.bool (longC_t (i := i) (by omega) (by omega) (by omega)).symm, trivial⟩
      · refine (Tri.skip ?_)
        refine (Tri.reg hT ?_)
        have h2' := of_decide_eq_false h2; rw [toNat_cast] at h2'; have h1' := gand_t h1
        exact ⟨i + 1, ⟨by omega, by omega, fun j hj => by rcases Nat.lt_or_ge j i with h9 | h9; exact hi.2.2 j h9; obtain rfl : j = i := (by omega); omega⟩, (by omega), Le.weak rfl rfl rfl rfl ⟨(by first | rfl | exact iv1 (by (try simp only [decide_eq_true_eq, decide_eq_false_iff_not, toNat_cast] at *); omega)), (by first | rfl | exact iv1 (by (try simp only [decide_eq_true_eq, decide_eq_false_iff_not, toNat_cast] at *); omega)), trivial⟩ trivial⟩
    · refine Tri.exit ?_
      refine Tri.seq (Tri.reg hT ?_)
      refine Tri.ret ?_
      have h1' := gand_f h1; have h9 := hi.1; have h8 := hi.2.1; exact ⟨congrArg AV.bool (longC_e (i := i) (by omega) hi.2.2).symm, trivial⟩
theorem f33_nil (isn : Int) (c : Ca) : PSpec P [] 33 [.nilp, .int .u32 isn, kv c] (rsv ([], 0, 0, false)) := by
  refine pspec_intro hT Try.func33 (by decide) rfl rfl (by kernel_rfl) rfl ?_
  refine Tri.seq (Tri.reg hT ?_)
  refine Tri.seq (Tri.reg hT ?_)
  refine Tri.seq ?_
  refine Tri.seq (Tri.reg hT ?_)
  refine (Tri.block ?_)
  refine Tri.seq (Tri.reg hT ?_)
  refine (Tri.cond ⟨fun h1 => ?_, fun h1 => ?_⟩)
  · refine Tri.seq (Tri.reg hT ?_)
    refine .inl (.inl ⟨_, fun _ => rfl, f47_nil _, ?_⟩)
    refine Tri.ret ?_
    exact ⟨rfl, trivial⟩
  · refine Tri.seq (Tri.reg hT ?_)
    refine (Tri.cond ⟨fun h2 => ?_, fun h2 => ?_⟩)
    · refine Tri.seq (Tri.reg hT ?_)
      refine .inl (.inl ⟨_, fun _ => rfl, f57_nil _, ?_⟩)
      refine Tri.seq (Tri.reg hT ?_)
      refine Tri.ret ?_
      exact ⟨rfl, trivial⟩
    · refine (Tri.skip ?_)
      refine Tri.seq (Tri.reg hT ?_)
      refine .inl (.inl ⟨_, fun _ => rfl, f23_nil _ _, ?_⟩)
      refine Tri.seq (Tri.reg hT ?_)
      refine Tri.ret ?_
      exact ⟨rfl, trivial⟩
set_option maxRecDepth 8000 in
theorem f33_spec (s : SS) (B : Int) (h : SInv s B) (hB : B ≤ 1099511618000) (isn : Int) (c : Ca) (hd : c.2.2.1.length ≤ 1099511627776) (id : Nat) :
    CSpec P [] 33 [.loc id 0, .int .u32 isn, kv c] (oneU id (bxS s) (some (bxS (progS s isn c).2))) (rsv (progS s isn c).1) := by
  refine cspec_intro hT Try.func33 (by decide) rfl rfl (by kernel_rfl) rfl (fun _ => rfl) (fun _ => rfl) (fun _ => rfl) (fun _ => rfl) ?_ id
  refine Tri.seq (Tri.reg hT ?_)
  refine Tri.seq (Tri.reg hT ?_)
  refine Tri.seq ?_
  refine Tri.seq (Tri.reg hT ?_)
  refine (Tri.block ?_)
  refine Tri.seq (Tri.reg hT ?_)
  refine (Tri.cond ⟨fun h1 => ?_, fun h1 => ?_⟩)
  · refine Tri.seq (Tri.reg hT ?_)
    refine .inl (.inr (.inl ⟨_, _, (by exact ⟨rfl, trivial⟩), f47_spec s B h (by omega) _ _, (by rfl), ?_⟩))
    refine Tri.ret ?_
    have e : progS s isn c = (([], 0, 0, (endS s (seqS isn c)).1), (endS s (seqS isn c)).2) := if_pos (of_decide_eq_true h1); exact ⟨congrArg (fun z : Rs × SS => rsv z.1) e.symm, congrArg (fun z : Rs × SS => some (Chunk.box (bxS z.2))) e.symm, trivial⟩
  · refine Tri.seq (Tri.reg hT ?_)
    refine (Tri.cond ⟨fun h2 => ?_, fun h2 => ?_⟩)
    · refine Tri.seq (Tri.reg hT ?_)
      refine .inl (.inr (.inl ⟨_, _, (by exact ⟨rfl, trivial⟩), f57_spec s B h hB _ _, (by rfl), ?_⟩))
      refine Tri.seq (Tri.reg hT ?_)
      refine Tri.ret ?_
      have e : progS s isn c = (((lostS s (seqS isn c)).1.2, (lostS s (seqS isn c)).1.1, 0, false), (lostS s (seqS isn c)).2) := (if_neg (of_decide_eq_false h1)).trans (if_pos (of_decide_eq_true h2)); exact ⟨congrArg (fun z : Rs × SS => rsv z.1) e.symm, congrArg (fun z : Rs × SS => some (Chunk.box (bxS z.2))) e.symm, trivial⟩
    · refine (Tri.skip ?_)
      refine Tri.seq (Tri.reg hT ?_)
      refine .inl (.inr (.inl ⟨_, _, (by exact ⟨rfl, trivial⟩), f23_spec s B h (by omega) _ _ hd _, (by rfl), ?_⟩))
      refine Tri.seq (Tri.reg hT ?_)
      refine Tri.ret ?_
      have e : progS s isn c = (((addS s (seqS isn c) c.2.2.1).1.1, (addS s (seqS isn c) c.2.2.1).1.2.1, (addS s (seqS isn c) c.2.2.1).1.2.2, false), (addS s (seqS isn c) c.2.2.1).2) := (if_neg (of_decide_eq_false h1)).trans (if_neg (of_decide_eq_false h2)); exact ⟨congrArg (fun z : Rs × SS => rsv z.1) e.symm, congrArg (fun z : Rs × SS => some (Chunk.box (bxS z.2))) e.symm, trivial⟩
end Go.Proofs.Ytnleiflijccefaa.Fx
