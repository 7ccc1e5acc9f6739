import Derived.Test.YtngmadndlmceoaaLxQ
import Derived.Test.YtngmadndlmceoaaLxP
import Derived.Test.YtngmadndlmceoaaLxJ
import Derived.Test.YtngmadndlmceoaaGLx3
set_option linter.all false
/- Contracts of chapter 04: the example, the laws. -/
namespace Go.Proofs.Ytngmadndlmceoaa.Fx
open Go Go.Fw Go.Ov Go.Lx
theorem awA : scanS [97, 61, 36, 66] = ([(1, [97], 0, ()), (4, [61], 1, ()), (3, [66], 2, ()), (0, [], 4, ())], 0, 0) := by decide +kernel
theorem awB : scanS [97, 32, 45, 32, 98] = ([], 14, 2) := by decide +kernel
theorem awQ : quoteS [97, 34, 10, 98] = [34, 97, 124, 50, 50, 32, 48, 97, 124, 98, 34] := by decide +kernel
theorem wA : PSpec P [] 12 [.str [97, 61, 36, 66]] (scanAV ([(1, [97], 0, ()), (4, [61], 1, ()), (3, [66], 2, ()), (0, [], 4, ())], 0, 0)) := awA ▸ f12_spec [97, 61, 36, 66]
theorem wB : PSpec P [] 12 [.str [97, 32, 45, 32, 98]] (scanAV ([], 14, 2)) := awB ▸ f12_spec [97, 32, 45, 32, 98]
theorem wQ : PSpec P [] 10 [.str [97, 34, 10, 98]] (.str [34, 97, 124, 50, 50, 32, 48, 97, 124, 98, 34]) := awQ ▸ f10_spec [97, 34, 10, 98] (by decide)
set_option maxRecDepth 8000 in
theorem f9_spec : PSpec P [] 9 [] (.bool true) := by
  refine pspec_intro hT Try.func9 (by decide) rfl rfl (by kernel_rfl) rfl ?_
  refine Tri.seq (Tri.reg hT ?_)
  refine Tri.seq (Tri.reg hT ?_)
  refine .inl (.inl ⟨_, fun _ => rfl, wA, ?_⟩)
  refine Tri.seq (Tri.reg hT ?_)
  refine .inl (.inl ⟨_, fun _ => rfl, wB, ?_⟩)
  refine Tri.seq (Tri.reg hT ?_)
  refine ⟨_, [], trivial, rfl, rfl, fun h => ⟨rfl, rfl, rfl⟩, ?_⟩
  refine ⟨_, [], trivial, rfl, rfl, fun h => ⟨h, rfl, rfl, rfl⟩, ?_⟩
  refine ⟨⟨fun hc => hc, fun _ => trivial⟩, ?_⟩
  refine ⟨_, [], trivial, rfl, rfl, fun h => ⟨rfl, rfl, rfl⟩, ?_⟩
  refine ⟨_, [], trivial, rfl, rfl, fun h => ⟨h, rfl, rfl, rfl⟩, ?_⟩
  refine ⟨_, [], trivial, rfl, rfl, fun h => ⟨h, rfl, rfl, rfl⟩, ?_⟩
  refine ⟨⟨fun hc => hc, fun _ => trivial⟩, ?_⟩
  refine ⟨_, [], trivial, rfl, rfl, fun h => ⟨rfl, rfl, rfl⟩, ?_⟩
  refine ⟨_, [], trivial, rfl, rfl, fun h => ⟨h, (by first | ((try simp only [decide_eq_true_eq, decide_eq_false_iff_not, toNat_cast] at *); omega) | decide), rfl, rfl, rfl⟩, ?_⟩
  refine ⟨_, [], trivial, rfl, rfl, fun h => ⟨h, rfl, rfl, rfl⟩, ?_⟩
  refine ⟨_, [], trivial, rfl, rfl, fun h => ⟨rfl, rfl, rfl⟩, ?_⟩
  refine ⟨_, [], trivial, rfl, rfl, fun h => ⟨h, h, rfl, rfl, rfl⟩, ?_⟩
  refine ⟨⟨fun hc => hc, fun _ => trivial⟩, ?_⟩
  refine ⟨_, [], trivial, rfl, rfl, fun h => ⟨rfl, rfl, rfl⟩, ?_⟩
  refine ⟨_, [], trivial, rfl, rfl, fun h => ⟨h, (by first | ((try simp only [decide_eq_true_eq, decide_eq_false_iff_not, toNat_cast] at *); omega) | decide), rfl, rfl, rfl⟩, ?_⟩
  refine ⟨_, [], trivial, rfl, rfl, fun h => ⟨h, rfl, rfl, rfl⟩, ?_⟩
  refine ⟨_, [], trivial, rfl, rfl, fun h => ⟨rfl, rfl, rfl⟩, ?_⟩
  refine ⟨_, [], trivial, rfl, rfl, fun h => ⟨h, h, rfl, rfl, rfl⟩, ?_⟩
  refine ⟨⟨fun hc => hc, fun _ => trivial⟩, ?_⟩
  refine ⟨_, [], trivial, rfl, rfl, fun h => ⟨rfl, rfl, rfl⟩, ?_⟩
  refine ⟨_, [], trivial, rfl, rfl, fun h => ⟨h, (by first | ((try simp only [decide_eq_true_eq, decide_eq_false_iff_not, toNat_cast] at *); omega) | decide), rfl, rfl, rfl⟩, ?_⟩
  refine ⟨_, [], trivial, rfl, rfl, fun h => ⟨h, rfl, rfl, rfl⟩, ?_⟩
  refine ⟨_, [], trivial, rfl, rfl, fun h => ⟨rfl, rfl, rfl⟩, ?_⟩
  refine ⟨_, [], trivial, rfl, rfl, fun h => ⟨h, h, rfl, rfl, rfl⟩, ?_⟩
  refine ⟨⟨fun hc => hc, fun _ => trivial⟩, ?_⟩
  refine ⟨_, [], trivial, rfl, rfl, fun h => ⟨rfl, rfl, rfl⟩, ?_⟩
  refine ⟨_, [], trivial, rfl, rfl, fun h => ⟨h, rfl, rfl, rfl⟩, ?_⟩
  refine ⟨⟨fun hc => hc, fun _ => trivial⟩, ?_⟩
  refine ⟨_, [], trivial, rfl, rfl, fun h => ⟨rfl, rfl, rfl⟩, ?_⟩
  refine ⟨_, [], trivial, rfl, rfl, fun h => ⟨h, rfl, rfl, rfl⟩, ?_⟩
  refine ⟨⟨fun hc => hc, fun _ => trivial⟩, ?_⟩
  refine ⟨_, [], trivial, rfl, rfl, fun h => (.inl ⟨_, fun _ => rfl, wQ, rfl, rfl, rfl⟩), ?_⟩
  refine ⟨_, [], trivial, rfl, rfl, fun h => ⟨h, rfl, rfl, rfl⟩, ?_⟩
  refine ⟨⟨fun hc => hc, fun _ => trivial⟩, ?_⟩
  refine Tri.ret ?_
  exact ⟨rfl, trivial⟩
set_option maxRecDepth 8000 in
theorem f3_spec (s : List UInt8) : PSpec P [] 3 [.str s] (.bool true) := by
  refine pspec_intro hT Try.func3 (by decide) rfl rfl (by kernel_rfl) rfl ?_
  refine Tri.seq (Tri.reg hT ?_)
  refine Tri.seq ?_
  refine Tri.seq (Tri.reg hT ?_)
  refine (Tri.cond ⟨fun h1 => ?_, fun h1 => ?_⟩)
  · refine Tri.seq (Tri.reg hT ?_)
    refine .inl (.inl ⟨_, fun _ => rfl, f9_spec, ?_⟩)
    refine Tri.ret ?_
    exact ⟨rfl, trivial⟩
  · refine (Tri.skip ?_)
    have hs := of_decide_eq_false h1; have eS := quote_read s (by omega)
    refine Tri.seq (Tri.reg hT ?_)
    refine .inl (.inl ⟨_, fun _ => rfl, f10_spec s (by omega), ?_⟩)
    refine Tri.seq ?_
    refine Tri.seq (Tri.reg hT ?_)
    refine .inl (.inl ⟨_, fun _ => rfl, f11_spec s (by omega), ?_⟩)
    refine (Tri.cond ⟨fun h2 => ?_, fun h2 => ?_⟩)
    · exact absurd rfl (of_decide_eq_true h2)
    · refine (Tri.skip ?_)
      refine Tri.seq (Tri.reg hT ?_)
      refine .inl (.inl ⟨_, fun _ => rfl, f12_spec _, ?_⟩)
      refine Tri.seq ?_
      refine Tri.seq (Tri.reg hT ?_)
      refine (Tri.cond ⟨fun h3 => ?_, fun h3 => ?_⟩)
      · rw [if_pos (by have := of_decide_eq_true h3; omega)] at eS
        refine Tri.seq (Tri.reg hT ?_)
        refine ⟨_, [], trivial, rfl, rfl, fun h => ⟨rfl, rfl, rfl⟩, ?_⟩
        refine ⟨_, [], trivial, rfl, rfl, fun h => ⟨h, rfl, rfl, rfl⟩, ?_⟩
        refine ⟨⟨fun hc => hc, fun _ => trivial⟩, ?_⟩
        refine ⟨_, [], trivial, rfl, rfl, fun h => (.inl ⟨_, fun _ => rfl, f9_spec, rfl, rfl, rfl⟩), ?_⟩
        refine ⟨⟨fun hc => hc, fun _ => trivial⟩, ?_⟩
        refine Tri.ret ?_
        exact ⟨congrArg AV.bool (by rw [eS]; rfl), trivial⟩
      · refine (Tri.skip ?_)
        rw [if_neg (by have := of_decide_eq_false h3; omega)] at eS
        refine Tri.seq (Tri.reg hT ?_)
        refine ⟨_, [], trivial, rfl, rfl, fun h => ⟨rfl, rfl, rfl⟩, ?_⟩
        refine ⟨_, [], trivial, rfl, rfl, fun h => ⟨h, rfl, rfl, rfl⟩, ?_⟩
        refine ⟨_, [], trivial, rfl, rfl, fun h => ⟨h, rfl, rfl, rfl⟩, ?_⟩
        refine ⟨⟨fun hc => hc, fun _ => trivial⟩, ?_⟩
        refine ⟨_, [], trivial, rfl, rfl, fun h => ⟨rfl, rfl, rfl⟩, ?_⟩
        refine ⟨_, [], trivial, rfl, rfl, fun h => ⟨h, by rw [eS]; show (0 : Int) ≤ 0 ∧ (0 : Int) < ((2 : Nat) : Int); decide, rfl, rfl, rfl⟩, ?_⟩
        refine ⟨_, [], trivial, rfl, rfl, fun h => ⟨h, rfl, rfl, rfl⟩, ?_⟩
        refine ⟨_, [], trivial, rfl, rfl, fun h => ⟨rfl, rfl, rfl⟩, ?_⟩
        refine ⟨_, [], trivial, rfl, rfl, fun h => ⟨h, rfl, rfl, rfl⟩, ?_⟩
        refine ⟨_, [], trivial, rfl, rfl, fun h => ⟨h, h, rfl, rfl, rfl⟩, ?_⟩
        refine ⟨⟨fun hc => hc, fun _ => trivial⟩, ?_⟩
        refine ⟨_, [], trivial, rfl, rfl, fun h => (.inl ⟨_, fun _ => rfl, f9_spec, rfl, rfl, rfl⟩), ?_⟩
        refine ⟨⟨fun hc => hc, fun _ => trivial⟩, ?_⟩
        refine Tri.ret ?_
        exact ⟨congrArg AV.bool (by rw [eS]; simp), trivial⟩
abbrev newVb (k : Nat) : Bool → AV
  | true => .loc k 0
  | false => .nilp
abbrev newHb (k : Nat) (l : List Tk) : Bool → List (Nat × Chunk)
  | true => [(k, .box (curC l 0))]
  | false => []
theorem newCur_b (s : List UInt8) (k : Nat) {b : Bool} (hb : decide ((scanS s).2.1 = 0) = b) : HSpec P [] 14 [.str s] [] (.tup [newVb k b, .int .i64 (scanS s).2.1, .int .i64 ((scanS s).2.2 : Int)]) (newHb k (scanS s).1 b) := by
  have h := newCur s k
  cases b with
  | true =>
    have q := of_decide_eq_true hb
    rw [show newAV k (scanS s) = .tup [newVb k true, .int .i64 (scanS s).2.1, .int .i64 ((scanS s).2.2 : Int)] from by unfold newAV; rw [if_pos q], show newH k (scanS s) = newHb k (scanS s).1 true from if_pos q] at h
    exact h
  | false =>
    have q := of_decide_eq_false hb
    rw [show newAV k (scanS s) = .tup [newVb k false, .int .i64 (scanS s).2.1, .int .i64 ((scanS s).2.2 : Int)] from by unfold newAV; rw [if_neg q], show newH k (scanS s) = newHb k (scanS s).1 false from if_neg q] at h
    exact h
set_option maxRecDepth 8000 in
theorem f4_spec (s : List UInt8) : PSpec P [] 4 [.str s] (.bool true) := by
  have hl := scanS_len s
  refine pspec_intro hT Try.func4 (by decide) rfl rfl (by kernel_rfl) rfl ?_
  refine Tri.seq (Tri.reg hT ?_)
  refine Tri.seq ?_
  refine Tri.seq (Tri.reg hT ?_)
  refine ⟨_, [], trivial, rfl, rfl, fun h => ⟨rfl, rfl, rfl⟩, ?_⟩
  refine ⟨_, [], trivial, rfl, rfl, fun h => ⟨h, rfl, rfl, rfl⟩, ?_⟩
  refine ⟨_, [], trivial, rfl, rfl, fun h => ⟨h, rfl, rfl, rfl⟩, ?_⟩
  refine ⟨⟨fun hc => hc, fun _ => trivial⟩, ?_⟩
  refine (Tri.cond ⟨fun h1 => ?_, fun h1 => ?_⟩)
  · refine Tri.seq (Tri.reg hT ?_)
    refine .inl (.inl ⟨_, fun _ => rfl, f9_spec, ?_⟩)
    refine Tri.ret ?_
    exact ⟨rfl, trivial⟩
  · refine (Tri.skip ?_)
    refine Tri.seq (Tri.reg hT ?_)
    refine .inl (.inl ⟨_, fun _ => rfl, f12_spec s, ?_⟩)
    refine Tri.seq (Tri.reg hT ?_)
    refine .inl (.inl ⟨_, fun _ => rfl, f13_spec s, ?_⟩)
    cases hE : decide ((scanS s).2.1 = 0)
    · refine Tri.seq (Tri.regM hT [1] ?_)
      refine ⟨_, Le.refl _, .inl (.inr (OpTri.hcall 60 rfl rfl rfl (newCur_b s 40 hE) trivial trivial rfl ?_))⟩
      refine Tri.seq (Tri.reg hT ?_)
      refine .inl (.inl ⟨_, fun _ => rfl, f15_spec _ _ (by omega), ?_⟩)
      refine ⟨_, [], trivial, rfl, rfl, fun h => ⟨rfl, rfl, rfl⟩, ?_⟩
      refine ⟨_, [], trivial, rfl, rfl, fun h => ⟨rfl, rfl, rfl⟩, ?_⟩
      refine ⟨_, [], trivial, rfl, rfl, fun h => ⟨h, h, rfl, rfl, rfl⟩, ?_⟩
      refine ⟨⟨fun hc => hc, fun _ => trivial⟩, ?_⟩
      refine ⟨_, [], trivial, rfl, rfl, fun h => ⟨rfl, rfl, rfl⟩, ?_⟩
      refine ⟨_, [], trivial, rfl, rfl, fun h => ⟨rfl, rfl, rfl⟩, ?_⟩
      refine ⟨_, [], trivial, rfl, rfl, fun h => ⟨h, h, rfl, rfl, rfl⟩, ?_⟩
      refine ⟨⟨fun hc => hc, fun _ => trivial⟩, ?_⟩
      refine ⟨_, [], trivial, rfl, rfl, fun h => ⟨rfl, rfl, rfl⟩, ?_⟩
      refine ⟨_, [], trivial, rfl, rfl, fun h => ⟨rfl, rfl, rfl⟩, ?_⟩
      refine ⟨_, [], trivial, rfl, rfl, fun h => ⟨h, h, rfl, rfl, rfl⟩, ?_⟩
      refine ⟨⟨fun hc => hc, fun _ => trivial⟩, ?_⟩
      refine ⟨_, [], trivial, rfl, rfl, fun h => ⟨rfl, rfl, rfl⟩, ?_⟩
      refine ⟨_, [], trivial, rfl, rfl, fun h => ⟨rfl, rfl, rfl⟩, ?_⟩
      refine ⟨_, [], trivial, rfl, rfl, fun h => ⟨h, h, rfl, rfl, rfl⟩, ?_⟩
      refine ⟨⟨fun hc => hc, fun _ => trivial⟩, ?_⟩
      refine ⟨_, [], trivial, rfl, rfl, fun h => ⟨rfl, rfl, rfl⟩, ?_⟩
      refine ⟨_, [], trivial, rfl, rfl, fun h => ⟨h, rfl, rfl, rfl⟩, ?_⟩
      refine ⟨_, [], trivial, rfl, rfl, fun h => ⟨rfl, rfl, rfl⟩, ?_⟩
      refine ⟨_, [], trivial, rfl, rfl, fun h => ⟨h, rfl, rfl, rfl⟩, ?_⟩
      refine ⟨_, [], trivial, rfl, rfl, fun h => ⟨h, h, rfl, rfl, rfl⟩, ?_⟩
      refine ⟨⟨fun hc => hc, fun _ => trivial⟩, ?_⟩
      refine ⟨_, [], trivial, rfl, rfl, fun h => (.inl ⟨_, fun _ => rfl, f9_spec, rfl, rfl, rfl⟩), ?_⟩
      refine ⟨⟨fun hc => hc, fun _ => trivial⟩, ?_⟩
      refine Tri.ret ?_
      have q := of_decide_eq_false hE; exact ⟨congrArg AV.bool (by simp [q]), trivial⟩
    · refine Tri.seq (Tri.regM hT [1] ?_)
      refine ⟨_, Le.refl _, .inl (.inr (OpTri.hcall 60 rfl rfl rfl (newCur_b s 40 hE) trivial trivial rfl ?_))⟩
      refine Tri.seq (Tri.reg hT ?_)
      refine .inl (.inl ⟨_, fun _ => rfl, f15_spec _ _ (by omega), ?_⟩)
      refine ⟨_, [], trivial, rfl, rfl, fun h => ⟨rfl, rfl, rfl⟩, ?_⟩
      refine ⟨_, [], trivial, rfl, rfl, fun h => ⟨rfl, rfl, rfl⟩, ?_⟩
      refine ⟨_, [], trivial, rfl, rfl, fun h => ⟨h, h, rfl, rfl, rfl⟩, ?_⟩
      refine ⟨⟨fun hc => hc, fun _ => trivial⟩, ?_⟩
      refine ⟨_, [], trivial, rfl, rfl, fun h => ⟨rfl, rfl, rfl⟩, ?_⟩
      refine ⟨_, [], trivial, rfl, rfl, fun h => ⟨rfl, rfl, rfl⟩, ?_⟩
      refine ⟨_, [], trivial, rfl, rfl, fun h => ⟨h, h, rfl, rfl, rfl⟩, ?_⟩
      refine ⟨⟨fun hc => hc, fun _ => trivial⟩, ?_⟩
      refine ⟨_, [], trivial, rfl, rfl, fun h => ⟨rfl, rfl, rfl⟩, ?_⟩
      refine ⟨_, [], trivial, rfl, rfl, fun h => ⟨rfl, rfl, rfl⟩, ?_⟩
      refine ⟨_, [], trivial, rfl, rfl, fun h => ⟨h, h, rfl, rfl, rfl⟩, ?_⟩
      refine ⟨⟨fun hc => hc, fun _ => trivial⟩, ?_⟩
      refine ⟨_, [], trivial, rfl, rfl, fun h => ⟨rfl, rfl, rfl⟩, ?_⟩
      refine ⟨_, [], trivial, rfl, rfl, fun h => ⟨rfl, rfl, rfl⟩, ?_⟩
      refine ⟨_, [], trivial, rfl, rfl, fun h => ⟨h, h, rfl, rfl, rfl⟩, ?_⟩
      refine ⟨⟨fun hc => hc, fun _ => trivial⟩, ?_⟩
      refine ⟨_, [], trivial, rfl, rfl, fun h => ⟨rfl, rfl, rfl⟩, ?_⟩
      refine ⟨_, [], trivial, rfl, rfl, fun h => ⟨h, rfl, rfl, rfl⟩, ?_⟩
      refine ⟨_, [], trivial, rfl, rfl, fun h => ⟨rfl, rfl, rfl⟩, ?_⟩
      refine ⟨_, [], trivial, rfl, rfl, fun h => ⟨h, rfl, rfl, rfl⟩, ?_⟩
      refine ⟨_, [], trivial, rfl, rfl, fun h => ⟨h, h, rfl, rfl, rfl⟩, ?_⟩
      refine ⟨⟨fun hc => hc, fun _ => trivial⟩, ?_⟩
      refine ⟨_, [], trivial, rfl, rfl, fun h => (.inl ⟨_, fun _ => rfl, f9_spec, rfl, rfl, rfl⟩), ?_⟩
      refine ⟨⟨fun hc => hc, fun _ => trivial⟩, ?_⟩
      refine Tri.ret ?_
      have q := of_decide_eq_true hE; exact ⟨congrArg AV.bool (by simp [q]), trivial⟩
set_option maxRecDepth 8000 in
theorem f5_spec (s : List UInt8) : PSpec P [] 5 [.str s] (.bool true) := by
  refine pspec_intro hT Try.func5 (by decide) rfl rfl (by kernel_rfl) rfl ?_
  refine Tri.seq (Tri.reg hT ?_)
  refine Tri.seq ?_
  refine Tri.seq (Tri.reg hT ?_)
  refine (Tri.cond ⟨fun h1 => ?_, fun h1 => ?_⟩)
  · refine Tri.seq (Tri.reg hT ?_)
    refine .inl (.inl ⟨_, fun _ => rfl, f9_spec, ?_⟩)
    refine Tri.ret ?_
    exact ⟨rfl, trivial⟩
  · refine (Tri.skip ?_)
    have hs := of_decide_eq_false h1
    refine Tri.seq (Tri.reg hT ?_)
    refine .inl (.inl ⟨_, fun _ => rfl, f16_spec s (by omega), ?_⟩)
    refine Tri.seq (Tri.reg hT ?_)
    refine .inl (.inl ⟨_, fun _ => rfl, f17_spec s (by omega), ?_⟩)
    refine Tri.seq (Tri.reg hT ?_)
    refine ⟨_, [], trivial, rfl, rfl, fun h => ⟨rfl, rfl, rfl⟩, ?_⟩
    refine ⟨_, [], trivial, rfl, rfl, fun h => ⟨rfl, rfl, rfl⟩, ?_⟩
    refine ⟨_, [], trivial, rfl, rfl, fun h => ⟨h, h, rfl, rfl, rfl⟩, ?_⟩
    refine ⟨⟨fun hc => hc, fun _ => trivial⟩, ?_⟩
    refine ⟨_, [], trivial, rfl, rfl, fun h => ⟨rfl, rfl, rfl⟩, ?_⟩
    refine ⟨_, [], trivial, rfl, rfl, fun h => ⟨h, (.inl ⟨_, fun _ => rfl, f18_spec s (by omega), rfl, rfl, rfl⟩)⟩, ?_⟩
    refine ⟨_, [], trivial, rfl, rfl, fun h => ⟨rfl, rfl, rfl⟩, ?_⟩
    refine ⟨_, [], trivial, rfl, rfl, fun h => ⟨h, (.inl ⟨_, fun _ => rfl, f19_spec s (by omega), rfl, rfl, rfl⟩)⟩, ?_⟩
    refine ⟨_, [], trivial, rfl, rfl, fun h => ⟨h, h, rfl, rfl, rfl⟩, ?_⟩
    refine ⟨⟨fun hc => hc, fun _ => trivial⟩, ?_⟩
    refine ⟨_, [], trivial, rfl, rfl, fun h => (.inl ⟨_, fun _ => rfl, f9_spec, rfl, rfl, rfl⟩), ?_⟩
    refine ⟨⟨fun hc => hc, fun _ => trivial⟩, ?_⟩
    refine Tri.ret ?_
    exact ⟨congrArg AV.bool (by simp), trivial⟩
set_option maxRecDepth 8000 in
theorem f7_spec (l : List Tk) (hl : l.length ≤ 140737488355328) : PSpec P [] 7 [.list tT l] (.bool true) := by
  refine pspec_intro hT Try.func7 (by decide) rfl rfl (by kernel_rfl) rfl ?_
  refine Tri.seq (Tri.reg hT ?_)
  refine Tri.seq ?_
  refine Tri.seq (Tri.reg hT ?_)
  refine .inl (.inl ⟨_, fun _ => rfl, f25_spec l hl, ?_⟩)
  refine (Tri.cond ⟨fun h1 => ?_, fun h1 => ?_⟩)
  · refine Tri.seq (Tri.reg hT ?_)
    refine .inl (.inl ⟨_, fun _ => rfl, f9_spec, ?_⟩)
    refine Tri.ret ?_
    exact ⟨rfl, trivial⟩
  · refine (Tri.skip ?_)
    refine Tri.seq (Tri.reg hT ?_)
    refine .inl (.inl ⟨_, fun _ => rfl, f26_spec l h1, ?_⟩)
    refine .inl (.inl ⟨_, fun _ => rfl, f27_spec l h1, ?_⟩)
    refine ⟨_, [], trivial, rfl, rfl, fun h => (.inl ⟨_, fun _ => rfl, f9_spec, rfl, rfl, rfl⟩), ?_⟩
    refine ⟨⟨fun hc => hc, fun _ => trivial⟩, ?_⟩
    refine Tri.ret ?_
    exact ⟨congrArg AV.bool (by simp), trivial⟩
end Go.Proofs.Ytngmadndlmceoaa.Fx
