import Derived.Test.YtgbmbihajkjbmaaFxT
import Derived.Test.YtgbmbihajkjbmaaGTl1
import Derived.Test.YtgbmbihajkjbmaaGFw8
set_option linter.all false
/- Contracts of chapter 32: the program's reader. -/
namespace Go.Proofs.Ytgbmbihajkjbmaa.Fx
open Go Go.Fw Go.Ov Go.Tl
theorem ints_getD (l : List UInt8) (i : Nat) (d : Int) (h : i < l.length) : (intsOf l).getD i d = ((l.getD i 0).toNat : Int) := by
  unfold intsOf
  rw [List.getD_eq_getElem?_getD, List.getD_eq_getElem?_getD, List.getElem?_map]
  simp [h]
abbrev rdC (r : Rd) : List AV := [.str r.1, .bool r.2]
set_option maxRecDepth 8000 in
theorem f57_spec (r : Rd) (n : Nat) (hr : r.1.length ≤ 1099511627776) (hn : n ≤ 1099511627776) (id : Nat) : CSpec P [] 57 [.loc id 0, .int .i64 (n : Int)] (oneU id (rdC r) (some (rdC (takeM n r).2))) (.str (takeM n r).1) := by
  refine cspec_intro hT Try.func57 (by decide) rfl rfl (by kernel_rfl) rfl (fun _ => rfl) (fun _ => rfl) (fun _ => rfl) (fun _ => rfl) ?_ id
  refine Tri.seq (Tri.reg hT ?_)
  refine Tri.seq ?_
  refine Tri.seq (Tri.reg hT ?_)
  refine (Tri.cond ⟨fun h1 => ?_, fun h1 => ?_⟩)
  · have h1' := of_decide_eq_true h1; have e : takeM n r = ([], ([], true)) := if_pos (by omega); rw [e]
    refine Tri.seq (Tri.reg hT ?_)
    refine Tri.seq (Tri.reg hT ?_)
    refine Tri.ret ?_
    exact ⟨rfl, rfl, trivial⟩
  · refine (Tri.skip ?_)
    have h1' := of_decide_eq_false h1; have e : takeM n r = (r.1.take n, (r.1.drop n, r.2)) := if_neg (by omega); rw [e]
    refine Tri.seq (Tri.reg hT ?_)
    refine ⟨by omega, ?_⟩
    refine Tri.seq (Tri.reg hT ?_)
    refine ⟨by omega, ?_⟩
    refine Tri.seq (Tri.reg hT ?_)
    refine Tri.ret ?_
    exact ⟨rfl, congrArg (fun x => some (Chunk.box [.str x, .bool r.2])) (by show List.drop _ (List.take _ r.1) = r.1.drop n; rw [toNat_cast, toNat_cast, List.take_length]), trivial⟩
set_option maxRecDepth 8000 in
theorem f56_spec (r : Rd) (k : Nat) (hr : r.1.length ≤ 1099511627776) (hk : k ≤ 3) (id : Nat) : CSpec P [] 56 [.loc id 0, .int .i64 (k : Int)] (oneU id (rdC r) (some (rdC (numM k r).2))) (.int .i64 ((numM k r).1 : Int)) := by
  have hlen := (takeM_len k r).1
  refine cspec_intro hT Try.func56 (by decide) rfl rfl (by kernel_rfl) rfl (fun _ => rfl) (fun _ => rfl) (fun _ => rfl) (fun _ => rfl) ?_ id
  refine Tri.seq (Tri.reg hT ?_)
  refine Tri.seq (Tri.reg hT ?_)
  skip
  refine Tri.seq ?_
  refine Tri.seq (Tri.reg hT ?_)
  refine .inl (.inr (.inl ⟨_, _, (by exact ⟨rfl, trivial⟩), f57_spec r k hr (by omega) _, (by rfl), ?_⟩))
  refine ⟨⟨_, rfl⟩, (by omega), ?_⟩
  refine (Tri.block ?_)
  refine (Tri.loop (ι := Nat) (fun i => ⟨24, 1, 20, [(5, .int .i64 (numP (takeM k r).1 i : Int)), (11, .own 6 (takeM k r).1.length), (12, .int .i64 (takeM k r).1.length), (13, .int .i64 (i : Int))], [(0, .box (rdC (takeM k r).2)), (6, .arr (.int .u8) (intsOf (takeM k r).1))], []⟩) (fun i => i ≤ (takeM k r).1.length) (fun i => (takeM k r).1.length - i) (0) ?_ ?_ ?_)
  · exact Nat.zero_le _
  · exact Le.weak rfl rfl rfl rfl ⟨(by first | rfl | exact iv1 (by (try simp only [decide_eq_true_eq, decide_eq_false_iff_not, toNat_cast] at *); omega)), (by first | rfl | exact iv1 (by (try simp only [decide_eq_true_eq, decide_eq_false_iff_not, toNat_cast] at *); omega)), (by first | rfl | exact iv1 (by (try simp only [decide_eq_true_eq, decide_eq_false_iff_not, toNat_cast] at *); omega)), (by first | rfl | exact iv1 (by (try simp only [decide_eq_true_eq, decide_eq_false_iff_not, toNat_cast] at *); omega)), trivial⟩ ⟨rfl, rfl, trivial⟩
  · intro i hi
    refine Tri.seq (Tri.reg hT ?_)
    refine Tri.seq (Tri.cond ⟨fun h1 => ?_, fun h1 => ?_⟩)
    · refine (Tri.skip ?_)
      refine Tri.seq (Tri.block ?_)
      have hlt : i < (takeM k r).1.length := (by have := of_decide_eq_true h1; omega); have w1 : IntKind.i64.wrap ((i : Int) + 1) = ((i + 1 : Nat) : Int) := (by rw [wrapId (by omega)]; omega); have hp := numP3 (Nat.le_trans hlen hk) i
      refine Tri.seq (Tri.reg hT ?_)
      refine ⟨by omega, ?_⟩
      refine ⟨by rw [toNat_cast, intsOf_len]; exact hlt, ?_⟩
      refine (Tri.reg hT ?_)
      refine ⟨(by decide), ?_⟩
      refine (Tri.reg hT ?_)
      exact ⟨i + 1, hlt, (by omega), Le.weak rfl rfl rfl rfl ⟨congrArg (AV.int .i64) (by rw [ints_getD _ _ _ (show ((i : Nat) : Int).toNat < _ from hlt), toNat_cast, numP_next hlt, ← or_byte hp]), (by first | rfl | exact iv1 (by (try simp only [decide_eq_true_eq, decide_eq_false_iff_not, toNat_cast] at *); omega)), (by first | rfl | exact iv1 (by (try simp only [decide_eq_true_eq, decide_eq_false_iff_not, toNat_cast] at *); omega)), congrArg (AV.int .i64) w1, trivial⟩ ⟨rfl, rfl, trivial⟩⟩
    · refine Tri.exit ?_
      refine Tri.seq (Tri.reg hT ?_)
      refine Tri.ret ?_
      have hN : i = (takeM k r).1.length := (by have := of_decide_eq_false h1; omega); exact ⟨congrArg (fun n : Nat => AV.int .i64 (n : Int)) (by show numP _ i = numB _; rw [hN]; unfold numP; rw [List.take_length]), rfl, trivial⟩
theorem f58_spec (r : Rd) (k : Nat) (hr : r.1.length ≤ 1099511627776) (hk : k ≤ 3) (id : Nat) : CSpec P [] 58 [.loc id 0, .int .i64 (k : Int)] (oneU id (rdC r) (some (rdC (listM k r).2))) (.str (listM k r).1) := by
  have h1 := numM_lt hk r
  have h2 := numM_len k r
  refine cspec_intro hT Try.func58 (by decide) rfl rfl (by kernel_rfl) rfl (fun _ => rfl) (fun _ => rfl) (fun _ => rfl) (fun _ => rfl) ?_ id
  refine Tri.seq (Tri.reg hT ?_)
  refine Tri.seq (Tri.reg hT ?_)
  refine .inl (.inr (.inl ⟨_, _, (by exact ⟨rfl, trivial⟩), f56_spec r k hr hk _, (by rfl), ?_⟩))
  refine .inl (.inr (.inl ⟨_, _, (by exact ⟨rfl, trivial⟩), f57_spec (numM k r).2 (numM k r).1 (by omega) (by omega) _, (by rfl), ?_⟩))
  refine Tri.ret ?_
  exact ⟨rfl, rfl, trivial⟩
set_option maxRecDepth 8000 in
theorem all_at (r : Rd) (k : Nat) (hr : r.1.length ≤ 1099511627776) (hk : k ≤ 3) : HSpec P [] 64 [.loc 0 0, .int .i64 (k : Int)] [(0, .box (rdC r))] (.loc 6 0) [(0, .box (rdC (allM k r).2)), (6, .box (rdC (allM k r).1))] := by
  refine fspec_intro hT [(0, .box (rdC r))] [(0, .box (rdC (allM k r).2)), (6, .box (rdC (allM k r).1))] 1 1 Try.func64 (by decide) rfl rfl (by kernel_rfl) rfl rfl ?_
  refine Tri.seq (Tri.reg hT ?_)
  refine Tri.seq (Tri.reg hT ?_)
  refine .inl (.inr (.inl ⟨_, _, (by exact ⟨rfl, trivial⟩), f58_spec r k hr hk _, (by rfl), ?_⟩))
  refine Tri.seq (Tri.reg hT ?_)
  refine ⟨_, [], trivial, rfl, rfl, fun h => ⟨rfl, rfl, rfl⟩, ?_⟩
  refine ⟨_, [], trivial, rfl, rfl, fun h => ⟨h, rfl, rfl, rfl⟩, ?_⟩
  refine ⟨_, [], trivial, rfl, rfl, fun h => ⟨h, rfl, rfl, rfl⟩, ?_⟩
  refine ⟨_, [], trivial, rfl, rfl, fun h => ⟨h, rfl, rfl, rfl⟩, ?_⟩
  refine ⟨_, [], trivial, rfl, rfl, fun h => ⟨h, rfl, rfl, rfl⟩, ?_⟩
  refine ⟨⟨fun _ => trivial, fun hc => (gn hc)⟩, ?_⟩
  refine Tri.seq (Tri.reg hT ?_)
  refine Tri.ret ?_
  exact ⟨rfl, congrArg (fun b => some (Chunk.box [.str (listM k r).2.1, .bool b])) (ifo (listM k r).2.2 (decide ((listM k r).2.1 ≠ []))), rfl, trivial⟩
theorem f64_spec (r : Rd) (k : Nat) (hr : r.1.length ≤ 1099511627776) (hk : k ≤ 3) (i j : Nat) (hij : i ≠ j) : HSpec P [] 64 [.loc i 0, .int .i64 (k : Int)] [(i, .box (rdC r))] (.loc j 0) [(i, .box (rdC (allM k r).2)), (j, .box (rdC (allM k r).1))] :=
  HSpec.at2 (all_at r k hr hk) 0 6 i j (by simp only [AV.renL, AV.ren, two_a (show 0 ≠ 6 by decide) hij]) (by simp only [renH, Chunk.ren, AV.renL, AV.ren, two_a (show 0 ≠ 6 by decide) hij]) (by simp only [AV.ren, two_b (show 0 ≠ 6 by decide) hij])
    (by simp only [renH, Chunk.ren, AV.renL, AV.ren, two_a (show 0 ≠ 6 by decide) hij, two_b (show 0 ≠ 6 by decide) hij])
end Go.Proofs.Ytgbmbihajkjbmaa.Fx
