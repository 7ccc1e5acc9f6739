import Derived.Test.YtgbmbihajkjbmaaTlS
import Derived.Test.YtgbmbihajkjbmaaGTl4
set_option linter.all false
/- Contracts of chapter 32: the reference's reader. -/
namespace Go.Proofs.Ytgbmbihajkjbmaa.Fx
open Go Go.Fw Go.Ov Go.Tl Go.Shelf
theorem f65_spec (s : List UInt8) (hs : s.length ≤ 3) : PSpec P [] 65 [.str s] (.int .i64 (numB s : Int)) := by
  refine pspec_intro hT Try.func65 (by decide) rfl rfl (by kernel_rfl) rfl ?_
  refine Tri.seq (Tri.reg hT ?_)
  refine Tri.seq (Tri.reg hT ?_)
  refine Tri.seq ?_
  refine Tri.seq (Tri.reg hT ?_)
  refine (Tri.block ?_)
  refine (Tri.loop (ι := Nat) (fun i => ⟨19, 0, 20, [(0, .str s), (3, .int .i64 (numP s i : Int)), (4, .int .i64 (i : Int))], [], []⟩) (fun i => i ≤ s.length) (fun i => s.length - i) (0) ?_ ?_ ?_)
  · exact Nat.zero_le _
  · exact Le.weak rfl rfl rfl rfl ⟨(by first | rfl | exact iv1 (by (try simp only [decide_eq_true_eq, decide_eq_false_iff_not, toNat_cast] at *); omega)), (by first | rfl | exact iv1 (by (try simp only [decide_eq_true_eq, decide_eq_false_iff_not, toNat_cast] at *); omega)), (by first | rfl | exact iv1 (by (try simp only [decide_eq_true_eq, decide_eq_false_iff_not, toNat_cast] at *); omega)), trivial⟩ trivial
  · intro i hi
    refine Tri.seq ?_
    refine Tri.seq (Tri.reg hT ?_)
    refine (Tri.cond ⟨fun h1 => ?_, fun h1 => ?_⟩)
    · refine (Tri.skip ?_)
      refine Tri.seq (Tri.block ?_)
      have hlt : i < s.length := (by have := of_decide_eq_true h1; omega); have w1 : IntKind.i64.wrap ((i : Int) + 1) = ((i + 1 : Nat) : Int) := (by rw [wrapId (by omega)]; omega); have hp := numP3 hs i; have hc := (s.getD i 0).toNat_lt
      refine (Tri.reg hT ?_)
      refine ⟨by omega, ?_⟩
      refine (Tri.reg hT ?_)
      exact ⟨i + 1, hlt, (by omega), Le.weak rfl rfl rfl rfl ⟨(by first | rfl | exact iv1 (by (try simp only [decide_eq_true_eq, decide_eq_false_iff_not, toNat_cast] at *); omega)), congrArg (AV.int .i64) (by rw [toNat_cast, numP_next hlt, wrapB]; rw [wrapId (x := (numP s i : Int) * 256) (by omega), wrapId (by omega)]; omega), congrArg (AV.int .i64) w1, trivial⟩ trivial⟩
    · refine Tri.exit ?_
      refine Tri.seq (Tri.reg hT ?_)
      refine Tri.ret ?_
      have hN : i = s.length := (by have := of_decide_eq_false h1; omega); exact ⟨congrArg (fun n : Nat => AV.int .i64 (n : Int)) (by rw [hN]; unfold numP; rw [List.take_length]), trivial⟩
theorem f47_spec (s : List UInt8) (at_ k : Nat) (x : List UInt8) (hk : 1 ≤ k ∧ k ≤ 3) (hb : at_ + k ≤ s.length) (hs : s.length ≤ 1099511627776) (hx : (s.drop at_).take k = x) : PSpec P [] 47 [.str s, .int .i64 (at_ : Int), .int .i64 (k : Int)] (.tup [.int .i64 (numB x : Int), .int .i64 0]) := by
  have w1 : IntKind.i64.wrap ((at_ : Int) + (k : Int)) = ((at_ + k : Nat) : Int) := by rw [wrapId (by omega)]; omega
  have hy : List.drop ((at_ : Int)).toNat (List.take (IntKind.i64.wrap ((at_ : Int) + (k : Int))).toNat s) = x := by rw [w1, toNat_cast, toNat_cast, ← hx, List.take_drop]
  have hxl : x.length ≤ 3 := by rw [← hx, List.length_take]; omega
  refine pspec_intro hT Try.func47 (by decide) rfl rfl (by kernel_rfl) rfl ?_
  refine Tri.seq (Tri.reg hT ?_)
  refine Tri.seq ?_
  refine Tri.seq (Tri.reg hT ?_)
  refine ⟨_, [], trivial, rfl, rfl, fun h => ⟨rfl, rfl, rfl⟩, ?_⟩
  refine ⟨_, [], trivial, rfl, rfl, fun h => ⟨h, rfl, rfl, rfl⟩, ?_⟩
  refine ⟨⟨fun _ => trivial, fun hc => (gn hc)⟩, ?_⟩
  refine ⟨_, [], trivial, rfl, rfl, fun h => ⟨rfl, rfl, rfl⟩, ?_⟩
  refine ⟨_, [], trivial, rfl, rfl, fun h => ⟨h, rfl, rfl, rfl⟩, ?_⟩
  refine ⟨⟨fun _ => trivial, fun hc => (gn hc)⟩, ?_⟩
  refine (Tri.cond ⟨fun h1 => ?_, fun h1 => ?_⟩)
  · exfalso; rw [ifo, ifo] at h1; simp only [Bool.or_eq_true, decide_eq_true_eq] at h1; omega
  · refine (Tri.skip ?_)
    refine Tri.seq ?_
    refine Tri.seq (Tri.reg hT ?_)
    refine ⟨_, [], trivial, rfl, rfl, fun h => ⟨rfl, rfl, rfl⟩, ?_⟩
    refine ⟨_, [], trivial, rfl, rfl, fun h => ⟨h, rfl, rfl, rfl⟩, ?_⟩
    refine ⟨_, [], trivial, rfl, rfl, fun h => ⟨rfl, rfl, rfl⟩, ?_⟩
    refine ⟨_, [], trivial, rfl, rfl, fun h => ⟨h, h, rfl, rfl, rfl⟩, ?_⟩
    refine ⟨_, [], trivial, rfl, rfl, fun h => ⟨rfl, rfl, rfl⟩, ?_⟩
    refine ⟨_, [], trivial, rfl, rfl, fun h => ⟨h, h, rfl, rfl, rfl⟩, ?_⟩
    refine ⟨⟨fun _ => trivial, fun hc => (gn hc)⟩, ?_⟩
    refine (Tri.cond ⟨fun h2 => ?_, fun h2 => ?_⟩)
    · exfalso; rw [ifo] at h2; simp only [Bool.or_eq_true, decide_eq_true_eq] at h2; rcases h2 with h2 | h2; omega; rw [wrapId (by omega)] at h2; omega
    · refine (Tri.skip ?_)
      refine Tri.seq (Tri.reg hT ?_)
      refine ⟨by rw [w1]; omega, ?_⟩
      refine .inl (.inl ⟨_, fun _ => rfl, f65_spec _ (by rw [hy]; exact hxl), ?_⟩)
      refine Tri.ret ?_
      exact ⟨congrArg (fun y => AV.tup [.int .i64 (numB y : Int), .int .i64 0]) hy, trivial⟩
theorem f30_spec (s : List UInt8) (at_ k : Nat) (x : List UInt8) (hk : 1 ≤ k ∧ k ≤ 3) (hb : at_ + k ≤ s.length) (hs : s.length ≤ 1099511627776) (hx : (s.drop at_).take k = x) : PSpec P [] 30 [.str s, .int .i64 (at_ : Int), .int .i64 (k : Int)] (.int .i64 (numB x : Int)) := by
  refine pspec_intro hT Try.func30 (by decide) rfl rfl (by kernel_rfl) rfl ?_
  refine Tri.seq (Tri.reg hT ?_)
  refine Tri.seq (Tri.reg hT ?_)
  refine .inl (.inl ⟨_, fun _ => rfl, f47_spec s at_ k x hk hb hs hx, ?_⟩)
  refine Tri.seq (Tri.reg hT ?_)
  refine Tri.ret ?_
  exact ⟨rfl, trivial⟩
set_option maxRecDepth 8000 in
theorem f74_spec (r : Rd) (n : Nat) (hr : r.1.length ≤ 1099511627776) (hn : n ≤ 1099511627776) (id : Nat) : CSpec P [] 74 [.loc id 0, .int .i64 (n : Int)] (oneU id (rdC r) (some (rdC (takeM n r).2))) (.str (takeM n r).1) := by
  refine cspec_intro hT Try.func74 (by decide) rfl rfl (by kernel_rfl) rfl (fun _ => rfl) (fun _ => rfl) (fun _ => rfl) (fun _ => rfl) ?_ id
  refine Tri.seq (Tri.reg hT ?_)
  refine Tri.seq ?_
  refine Tri.seq (Tri.reg hT ?_)
  refine (Tri.cond ⟨fun h1 => ?_, fun h1 => ?_⟩)
  · have h1' := of_decide_eq_true h1; have e : takeM n r = ([], ([], true)) := if_pos (by omega); rw [e]
    refine Tri.seq (Tri.reg hT ?_)
    refine Tri.seq (Tri.reg hT ?_)
    refine Tri.seq (Tri.reg hT ?_)
    refine Tri.ret ?_
    exact ⟨rfl, rfl, trivial⟩
  · refine (Tri.skip ?_)
    have h1' := of_decide_eq_false h1; have e : takeM n r = (r.1.take n, (r.1.drop n, r.2)) := if_neg (by omega); rw [e]
    refine Tri.seq (Tri.reg hT ?_)
    refine ⟨by omega, ?_⟩
    refine Tri.seq (Tri.reg hT ?_)
    refine ⟨by omega, ?_⟩
    refine Tri.seq (Tri.reg hT ?_)
    refine Tri.ret ?_
    exact ⟨rfl, congrArg (fun x => some (Chunk.box [.str x, .bool r.2])) (by show List.drop _ (List.take _ r.1) = r.1.drop n; rw [toNat_cast, toNat_cast, List.take_length]), trivial⟩
theorem f75_spec (r : Rd) (k : Nat) (hr : r.1.length ≤ 1099511627776) (hk : 1 ≤ k ∧ k ≤ 3) (ho : Ok r) (id : Nat) : CSpec P [] 75 [.loc id 0, .int .i64 (k : Int)] (oneU id (rdC r) (some (rdC (listM k r).2))) (.str (listM k r).1) := by
  have hlen := takeM_len k r
  have hnl := numM_lt hk.2 r
  refine cspec_intro hT Try.func75 (by decide) rfl rfl (by kernel_rfl) rfl (fun _ => rfl) (fun _ => rfl) (fun _ => rfl) (fun _ => rfl) ?_ id
  refine Tri.seq (Tri.reg hT ?_)
  refine Tri.seq (Tri.reg hT ?_)
  refine .inl (.inr (.inl ⟨_, _, (by exact ⟨rfl, trivial⟩), f74_spec r k hr (by omega) _, (by rfl), ?_⟩))
  refine Tri.seq ?_
  refine Tri.seq (Tri.reg hT ?_)
  refine (Tri.cond ⟨fun h1 => ?_, fun h1 => ?_⟩)
  · have eM := list_miss (k := k) (by omega) ho h1; rw [eM]
    refine Tri.seq (Tri.reg hT ?_)
    refine Tri.ret ?_
    exact ⟨rfl, rfl, trivial⟩
  · refine (Tri.skip ?_)
    have hg : (takeM k r).1.length = k := take_good h1
    refine Tri.seq (Tri.reg hT ?_)
    refine .inl (.inl ⟨_, fun _ => rfl, f30_spec (takeM k r).1 0 k (takeM k r).1 hk (by omega) (by omega) (by rw [List.drop_zero, List.take_of_length_le (by omega)]), ?_⟩)
    refine .inl (.inr (.inl ⟨_, _, (by exact ⟨rfl, trivial⟩), f74_spec (takeM k r).2 (numB (takeM k r).1) (by omega) (by change numB (takeM k r).1 < _ at hnl; omega) _, (by rfl), ?_⟩))
    refine Tri.ret ?_
    exact ⟨rfl, rfl, trivial⟩
set_option maxRecDepth 8000 in
theorem f76_spec (r : Rd) (hr : r.1.length ≤ 1099511627776) (ho : Ok r) (id : Nat) : CSpec P [] 76 [.loc id 0] (oneU id (rdC r) (some (rdC (xrM r).1))) (.tup [.str (xrM r).2.1, .str (xrM r).2.2.1, .bool (xrM r).2.2.2.1, .bool (xrM r).2.2.2.2]) := by
  have hal := allM_len 2 r
  refine cspec_intro hT Try.func76 (by decide) rfl rfl (by kernel_rfl) rfl (fun _ => rfl) (fun _ => rfl) (fun _ => rfl) (fun _ => rfl) ?_ id
  refine Tri.seq (Tri.reg hT ?_)
  refine Tri.seq ?_
  refine Tri.seq (Tri.reg hT ?_)
  refine ⟨_, [], trivial, rfl, rfl, fun h => ⟨rfl, rfl, rfl⟩, ?_⟩
  refine ⟨_, [], trivial, rfl, rfl, fun h => ⟨h, rfl, rfl, rfl⟩, ?_⟩
  refine ⟨_, [], trivial, rfl, rfl, fun h => ⟨h, rfl, rfl, rfl⟩, ?_⟩
  refine ⟨_, [], trivial, rfl, rfl, fun h => ⟨h, rfl, rfl, rfl⟩, ?_⟩
  refine ⟨⟨fun _ => trivial, fun hc => (gn hc)⟩, ?_⟩
  refine (Tri.cond ⟨fun h1 => ?_, fun h1 => ?_⟩)
  · have eM : xrM r = (r, nv0) := if_pos (by rw [ifo] at h1; rcases Bool.or_eq_true_iff.1 h1 with h1 | h1; exact .inl (of_decide_eq_true h1); exact .inr h1); rw [eM]
    refine Tri.seq (Tri.reg hT ?_)
    refine Tri.ret ?_
    exact ⟨rfl, rfl, trivial⟩
  · refine (Tri.skip ?_)
    have eM : xrM r = (((allM 2 r).2.1, (xrE r).2.2), (xrE r).2.1) := if_neg (by rw [ifo] at h1; have q := Bool.or_eq_false_iff.1 h1; rintro (k | k); exact of_decide_eq_false q.1 k; rw [k] at q; exact Bool.noConfusion q.2); rw [eM]
    refine Tri.seq (Tri.reg hT ?_)
    refine .inl (.inr (.inl ⟨_, _, (by exact ⟨rfl, trivial⟩), f75_spec r 2 hr (by decide) ho _, (by rfl), ?_⟩))
    refine Tri.seq (Tri.reg hT ?_)
    refine ⟨_, [], trivial, rfl, rfl, fun h => ⟨rfl, rfl, rfl⟩, ?_⟩
    refine ⟨_, [], trivial, rfl, rfl, fun h => ⟨h, rfl, rfl, rfl⟩, ?_⟩
    refine ⟨_, [], trivial, rfl, rfl, fun h => ⟨h, rfl, rfl, rfl⟩, ?_⟩
    refine ⟨_, [], trivial, rfl, rfl, fun h => ⟨h, rfl, rfl, rfl⟩, ?_⟩
    refine ⟨_, [], trivial, rfl, rfl, fun h => ⟨h, rfl, rfl, rfl⟩, ?_⟩
    refine ⟨⟨fun _ => trivial, fun hc => (gn hc)⟩, ?_⟩
    refine Tri.seq (Tri.block ?_)
    refine (Tri.loop (ι := XN) (fun s => ⟨77, 1, 60, [(0, .loc 0 0), (2, .str s.2.1.1), (3, .str s.2.1.2.1), (4, .bool s.2.1.2.2.1), (5, .bool s.2.1.2.2.2), (6, .loc 19 0)], [(0, .box [.str (allM 2 r).2.1, .bool s.2.2]), (19, .box (rdC s.1))], []⟩) (fun s => s.1.1.length ≤ 1099511627776 ∧ Ok s.1 ∧ xrI s = xrE r) (fun s => s.1.1.length) (((allM 2 r).1, nv0, (allM 2 r).2.2)) ?_ ?_ ?_)
    · exact ⟨Nat.le_trans hal.1 hr, ok_false _, rfl⟩
    · exact Le.weak rfl rfl rfl rfl ⟨(by first | rfl | exact iv1 (by (try simp only [decide_eq_true_eq, decide_eq_false_iff_not, toNat_cast] at *); omega)), (by first | rfl | exact iv1 (by (try simp only [decide_eq_true_eq, decide_eq_false_iff_not, toNat_cast] at *); omega)), (by first | rfl | exact iv1 (by (try simp only [decide_eq_true_eq, decide_eq_false_iff_not, toNat_cast] at *); omega)), (by first | rfl | exact iv1 (by (try simp only [decide_eq_true_eq, decide_eq_false_iff_not, toNat_cast] at *); omega)), (by first | rfl | exact iv1 (by (try simp only [decide_eq_true_eq, decide_eq_false_iff_not, toNat_cast] at *); omega)), (by first | rfl | exact iv1 (by (try simp only [decide_eq_true_eq, decide_eq_false_iff_not, toNat_cast] at *); omega)), trivial⟩ ⟨congrArg (fun b => some (Chunk.box [.str (allM 2 r).2.1, .bool b])) (ifo _ _), rfl, trivial⟩
    · intro ⟨t, ⟨n, v, bn, bv⟩, rb⟩ hi; obtain ⟨hl, hok, hi2⟩ := hi; change t.1.length ≤ _ at hl; change Ok t at hok; change xrI (t, (n, v, bn, bv), rb) = _ at hi2; have h1l := (takeM_len 2 t).2.2; have h2l := listM_len 2 (takeM 2 t).2
      refine Tri.seq ?_
      refine Tri.seq (Tri.reg hT ?_)
      refine ⟨_, [], trivial, rfl, rfl, fun h => ⟨rfl, rfl, rfl⟩, ?_⟩
      refine ⟨_, [], trivial, rfl, rfl, fun h => ⟨h, rfl, rfl, rfl⟩, ?_⟩
      refine ⟨_, [], trivial, rfl, rfl, fun h => ⟨h, rfl, rfl, rfl⟩, ?_⟩
      refine ⟨_, [], trivial, rfl, rfl, fun h => ⟨h, rfl, rfl, rfl⟩, ?_⟩
      refine ⟨_, [], trivial, rfl, rfl, fun h => ⟨h, rfl, rfl, rfl⟩, ?_⟩
      refine ⟨⟨fun hc => hc, fun _ => trivial⟩, ?_⟩
      refine (Tri.cond ⟨fun h2 => ?_, fun h2 => ?_⟩)
      · refine (Tri.skip ?_)
        refine (Tri.block ?_)
        have hmo : xrGo (t, (n, v, bn, bv), rb) = true := (by unfold xrGo; rw [← ifb]; exact h2); have hgo := xr_go hmo; have hdec := xr_dec (t, (n, v, bn, bv), rb) hmo; have hrb : rb = false := (by unfold xrGo at hmo; simp at hmo; exact hmo.2); subst hrb
        refine Tri.le (⟨77, 1, 80, [(0, .loc 0 0), (2, .str n), (3, .str v), (4, .bool bn), (5, .bool bv), (6, .loc 19 0)], [(0, .box [.str (allM 2 r).2.1, .bool false]), (19, .box (rdC t))], []⟩) (Le.weak rfl rfl rfl rfl ⟨(by first | rfl | exact iv1 (by (try simp only [decide_eq_true_eq, decide_eq_false_iff_not, toNat_cast] at *); omega)), (by first | rfl | exact iv1 (by (try simp only [decide_eq_true_eq, decide_eq_false_iff_not, toNat_cast] at *); omega)), (by first | rfl | exact iv1 (by (try simp only [decide_eq_true_eq, decide_eq_false_iff_not, toNat_cast] at *); omega)), (by first | rfl | exact iv1 (by (try simp only [decide_eq_true_eq, decide_eq_false_iff_not, toNat_cast] at *); omega)), (by first | rfl | exact iv1 (by (try simp only [decide_eq_true_eq, decide_eq_false_iff_not, toNat_cast] at *); omega)), (by first | rfl | exact iv1 (by (try simp only [decide_eq_true_eq, decide_eq_false_iff_not, toNat_cast] at *); omega)), trivial⟩ ⟨rfl, rfl, trivial⟩) ?_
        refine Tri.seq (Tri.reg hT ?_)
        refine .inl (.inr (.inl ⟨_, _, (by exact ⟨rfl, trivial⟩), f74_spec t 2 hl (by decide) _, (by rfl), ?_⟩))
        refine Tri.seq (Tri.reg hT ?_)
        refine .inl (.inr (.inl ⟨_, _, (by exact ⟨rfl, trivial⟩), f75_spec (takeM 2 t).2 2 (by omega) (by decide) (take_ok 2 hok) _, (by rfl), ?_⟩))
        refine Tri.seq ?_
        refine Tri.seq (Tri.reg hT ?_)
        refine (Tri.cond ⟨fun h3 => ?_, fun h3 => ?_⟩)
        · have hst : xrStep (t, (n, v, bn, bv), false) = ((extD t).2, (n, v, bn, bv), true) := if_pos h3; rw [hst] at hgo; have e0 : xrE r = ((extD t).2, (n, v, bn, bv), true) := (hgo.trans hi2).symm.trans (xr_stop (by unfold xrGo; simp)); rw [e0]
          refine Tri.seq (Tri.reg hT ?_)
          refine Tri.exit ?_
          refine Tri.seq (Tri.reg hT ?_)
          refine Tri.ret ?_
          exact ⟨rfl, rfl, trivial⟩
        · refine (Tri.skip ?_)
          have hst : xrStep (t, (n, v, bn, bv), false) = ((extD t).2, nvAdd (numM 2 t).1 (extD t).1 (n, v, bn, bv), false) := if_neg (by show ¬ (listM 2 (takeM 2 t).2).2.2 = true; rw [show (listM 2 (takeM 2 t).2).2.2 = false from h3]; decide); rw [hst] at hgo hdec; have hg2 : (takeM 2 t).1.length = 2 := take_good (by cases q : (takeM 2 t).2.2 with | false => rfl | true => exact absurd ((list_bad 2 q).symm.trans h3) (by decide))
          refine Tri.le (⟨77, 1, 120, [(0, .loc 0 0), (2, .str n), (3, .str v), (4, .bool bn), (5, .bool bv), (6, .loc 19 0), (7, .str (takeM 2 t).1), (8, .str (extD t).1)], [(0, .box [.str (allM 2 r).2.1, .bool false]), (19, .box (rdC (extD t).2))], []⟩) (Le.weak rfl rfl rfl rfl ⟨(by first | rfl | exact iv1 (by (try simp only [decide_eq_true_eq, decide_eq_false_iff_not, toNat_cast] at *); omega)), (by first | rfl | exact iv1 (by (try simp only [decide_eq_true_eq, decide_eq_false_iff_not, toNat_cast] at *); omega)), (by first | rfl | exact iv1 (by (try simp only [decide_eq_true_eq, decide_eq_false_iff_not, toNat_cast] at *); omega)), (by first | rfl | exact iv1 (by (try simp only [decide_eq_true_eq, decide_eq_false_iff_not, toNat_cast] at *); omega)), (by first | rfl | exact iv1 (by (try simp only [decide_eq_true_eq, decide_eq_false_iff_not, toNat_cast] at *); omega)), (by first | rfl | exact iv1 (by (try simp only [decide_eq_true_eq, decide_eq_false_iff_not, toNat_cast] at *); omega)), (by first | rfl | exact iv1 (by (try simp only [decide_eq_true_eq, decide_eq_false_iff_not, toNat_cast] at *); omega)), (by first | rfl | exact iv1 (by (try simp only [decide_eq_true_eq, decide_eq_false_iff_not, toNat_cast] at *); omega)), trivial⟩ ⟨rfl, rfl, trivial⟩) ?_
          refine Tri.seq (Tri.reg hT ?_)
          refine .inl (.inl ⟨_, fun _ => rfl, f30_spec (takeM 2 t).1 0 2 (takeM 2 t).1 (by decide) (by omega) (by omega) (by rw [List.drop_zero, List.take_of_length_le (by omega)]), ?_⟩)
          refine (Tri.block ?_)
          refine Tri.seq (Tri.reg hT ?_)
          refine (Tri.cond ⟨fun h4 => ?_, fun h4 => ?_⟩)
          · refine Tri.seq (Tri.reg hT ?_)
            refine (Tri.cond ⟨fun h5 => ?_, fun h5 => ?_⟩)
            · refine Tri.seq (Tri.reg hT ?_)
              refine (Tri.reg hT ?_)
              have k0 : (numM 2 t).1 = 0 := (by have := of_decide_eq_true h4; change ((numM 2 t).1 : Int) = 0 at this; omega); have hbn : bn = false := (by simpa using h5); have e := nv_a (d := (extD t).1) (z := (n, v, bn, bv)) k0 hbn; rw [e] at hgo hdec
              exact ⟨((extD t).2, ((extD t).1, v, true, bv), false), ⟨Nat.le_trans h2l.2 (Nat.le_trans h1l hl), list_ok 2 (take_ok 2 hok), hgo.trans hi2⟩, hdec, Le.weak rfl rfl rfl rfl ⟨(by first | rfl | exact iv1 (by (try simp only [decide_eq_true_eq, decide_eq_false_iff_not, toNat_cast] at *); omega)), (by first | rfl | exact iv1 (by (try simp only [decide_eq_true_eq, decide_eq_false_iff_not, toNat_cast] at *); omega)), (by first | rfl | exact iv1 (by (try simp only [decide_eq_true_eq, decide_eq_false_iff_not, toNat_cast] at *); omega)), (by first | rfl | exact iv1 (by (try simp only [decide_eq_true_eq, decide_eq_false_iff_not, toNat_cast] at *); omega)), (by first | rfl | exact iv1 (by (try simp only [decide_eq_true_eq, decide_eq_false_iff_not, toNat_cast] at *); omega)), (by first | rfl | exact iv1 (by (try simp only [decide_eq_true_eq, decide_eq_false_iff_not, toNat_cast] at *); omega)), trivial⟩ ⟨rfl, rfl, trivial⟩⟩
            · refine (Tri.skip ?_)
              have k0 : (numM 2 t).1 = 0 := (by have := of_decide_eq_true h4; change ((numM 2 t).1 : Int) = 0 at this; omega); have hbn : bn = true := (by simpa using h5); have e := nv_b (d := (extD t).1) (z := (n, v, bn, bv)) k0 hbn; rw [e] at hgo hdec
              exact ⟨((extD t).2, (n, v, bn, bv), false), ⟨Nat.le_trans h2l.2 (Nat.le_trans h1l hl), list_ok 2 (take_ok 2 hok), hgo.trans hi2⟩, hdec, Le.weak rfl rfl rfl rfl ⟨(by first | rfl | exact iv1 (by (try simp only [decide_eq_true_eq, decide_eq_false_iff_not, toNat_cast] at *); omega)), (by first | rfl | exact iv1 (by (try simp only [decide_eq_true_eq, decide_eq_false_iff_not, toNat_cast] at *); omega)), (by first | rfl | exact iv1 (by (try simp only [decide_eq_true_eq, decide_eq_false_iff_not, toNat_cast] at *); omega)), (by first | rfl | exact iv1 (by (try simp only [decide_eq_true_eq, decide_eq_false_iff_not, toNat_cast] at *); omega)), (by first | rfl | exact iv1 (by (try simp only [decide_eq_true_eq, decide_eq_false_iff_not, toNat_cast] at *); omega)), (by first | rfl | exact iv1 (by (try simp only [decide_eq_true_eq, decide_eq_false_iff_not, toNat_cast] at *); omega)), trivial⟩ ⟨rfl, rfl, trivial⟩⟩
          · refine Tri.seq (Tri.reg hT ?_)
            refine (Tri.cond ⟨fun h6 => ?_, fun h6 => ?_⟩)
            · refine Tri.seq (Tri.reg hT ?_)
              refine (Tri.cond ⟨fun h7 => ?_, fun h7 => ?_⟩)
              · refine Tri.seq (Tri.reg hT ?_)
                refine (Tri.reg hT ?_)
                have k0 : ¬ (numM 2 t).1 = 0 := (by have := of_decide_eq_false h4; change ¬ ((numM 2 t).1 : Int) = 0 at this; omega); have k1 : (numM 2 t).1 = 43 := (by have := of_decide_eq_true h6; change ((numM 2 t).1 : Int) = 43 at this; omega); have hbv : bv = false := (by simpa using h7); have e := nv_c (d := (extD t).1) (z := (n, v, bn, bv)) k0 k1 hbv; rw [e] at hgo hdec
                exact ⟨((extD t).2, (n, (extD t).1, bn, true), false), ⟨Nat.le_trans h2l.2 (Nat.le_trans h1l hl), list_ok 2 (take_ok 2 hok), hgo.trans hi2⟩, hdec, Le.weak rfl rfl rfl rfl ⟨(by first | rfl | exact iv1 (by (try simp only [decide_eq_true_eq, decide_eq_false_iff_not, toNat_cast] at *); omega)), (by first | rfl | exact iv1 (by (try simp only [decide_eq_true_eq, decide_eq_false_iff_not, toNat_cast] at *); omega)), (by first | rfl | exact iv1 (by (try simp only [decide_eq_true_eq, decide_eq_false_iff_not, toNat_cast] at *); omega)), (by first | rfl | exact iv1 (by (try simp only [decide_eq_true_eq, decide_eq_false_iff_not, toNat_cast] at *); omega)), (by first | rfl | exact iv1 (by (try simp only [decide_eq_true_eq, decide_eq_false_iff_not, toNat_cast] at *); omega)), (by first | rfl | exact iv1 (by (try simp only [decide_eq_true_eq, decide_eq_false_iff_not, toNat_cast] at *); omega)), trivial⟩ ⟨rfl, rfl, trivial⟩⟩
              · refine (Tri.skip ?_)
                have k0 : ¬ (numM 2 t).1 = 0 := (by have := of_decide_eq_false h4; change ¬ ((numM 2 t).1 : Int) = 0 at this; omega); have k1 : (numM 2 t).1 = 43 := (by have := of_decide_eq_true h6; change ((numM 2 t).1 : Int) = 43 at this; omega); have hbv : bv = true := (by simpa using h7); have e := nv_d (d := (extD t).1) (z := (n, v, bn, bv)) k0 k1 hbv; rw [e] at hgo hdec
                exact ⟨((extD t).2, (n, v, bn, bv), false), ⟨Nat.le_trans h2l.2 (Nat.le_trans h1l hl), list_ok 2 (take_ok 2 hok), hgo.trans hi2⟩, hdec, Le.weak rfl rfl rfl rfl ⟨(by first | rfl | exact iv1 (by (try simp only [decide_eq_true_eq, decide_eq_false_iff_not, toNat_cast] at *); omega)), (by first | rfl | exact iv1 (by (try simp only [decide_eq_true_eq, decide_eq_false_iff_not, toNat_cast] at *); omega)), (by first | rfl | exact iv1 (by (try simp only [decide_eq_true_eq, decide_eq_false_iff_not, toNat_cast] at *); omega)), (by first | rfl | exact iv1 (by (try simp only [decide_eq_true_eq, decide_eq_false_iff_not, toNat_cast] at *); omega)), (by first | rfl | exact iv1 (by (try simp only [decide_eq_true_eq, decide_eq_false_iff_not, toNat_cast] at *); omega)), (by first | rfl | exact iv1 (by (try simp only [decide_eq_true_eq, decide_eq_false_iff_not, toNat_cast] at *); omega)), trivial⟩ ⟨rfl, rfl, trivial⟩⟩
            · refine (Tri.skip ?_)
              have k0 : ¬ (numM 2 t).1 = 0 := (by have := of_decide_eq_false h4; change ¬ ((numM 2 t).1 : Int) = 0 at this; omega); have k1 : ¬ (numM 2 t).1 = 43 := (by have := of_decide_eq_false h6; change ¬ ((numM 2 t).1 : Int) = 43 at this; omega); have e := nv_e (d := (extD t).1) (z := (n, v, bn, bv)) k0 k1; rw [e] at hgo hdec
              exact ⟨((extD t).2, (n, v, bn, bv), false), ⟨Nat.le_trans h2l.2 (Nat.le_trans h1l hl), list_ok 2 (take_ok 2 hok), hgo.trans hi2⟩, hdec, Le.weak rfl rfl rfl rfl ⟨(by first | rfl | exact iv1 (by (try simp only [decide_eq_true_eq, decide_eq_false_iff_not, toNat_cast] at *); omega)), (by first | rfl | exact iv1 (by (try simp only [decide_eq_true_eq, decide_eq_false_iff_not, toNat_cast] at *); omega)), (by first | rfl | exact iv1 (by (try simp only [decide_eq_true_eq, decide_eq_false_iff_not, toNat_cast] at *); omega)), (by first | rfl | exact iv1 (by (try simp only [decide_eq_true_eq, decide_eq_false_iff_not, toNat_cast] at *); omega)), (by first | rfl | exact iv1 (by (try simp only [decide_eq_true_eq, decide_eq_false_iff_not, toNat_cast] at *); omega)), (by first | rfl | exact iv1 (by (try simp only [decide_eq_true_eq, decide_eq_false_iff_not, toNat_cast] at *); omega)), trivial⟩ ⟨rfl, rfl, trivial⟩⟩
      · refine Tri.exit ?_
        refine Tri.seq (Tri.reg hT ?_)
        have hmo : xrGo (t, (n, v, bn, bv), rb) = false := (by unfold xrGo; rw [← ifb]; exact h2); have e0 : xrE r = (t, (n, v, bn, bv), rb) := hi2.symm.trans (xr_stop hmo); rw [e0]
        refine Tri.ret ?_
        exact ⟨rfl, rfl, trivial⟩
set_option maxRecDepth 8000 in
theorem f77_spec (s : List UInt8) (hs : s.length ≤ 1099511627776) : PSpec P [] 77 [.str s] (.tup [.str (if nameOk s = true then nameV s else []), .bool (nameOk s)]) := by
  have hal := allM_len 2 (s, false)
  refine pspec_intro hT Try.func77 (by decide) rfl rfl (by kernel_rfl) rfl ?_
  refine Tri.seq (Tri.reg hT ?_)
  refine Tri.seq (Tri.reg hT ?_)
  refine Tri.seq (Tri.reg hT ?_)
  refine .inl (.inr (.inl ⟨_, _, (by exact ⟨rfl, trivial⟩), f75_spec (s, false) 2 hs (by decide) (ok_false _) _, (by rfl), ?_⟩))
  refine Tri.seq ?_
  refine Tri.seq (Tri.reg hT ?_)
  refine ⟨_, [], trivial, rfl, rfl, fun h => ⟨rfl, rfl, rfl⟩, ?_⟩
  refine ⟨_, [], trivial, rfl, rfl, fun h => ⟨h, rfl, rfl, rfl⟩, ?_⟩
  refine ⟨_, [], trivial, rfl, rfl, fun h => ⟨h, rfl, rfl, rfl⟩, ?_⟩
  refine ⟨_, [], trivial, rfl, rfl, fun h => ⟨h, rfl, rfl, rfl⟩, ?_⟩
  refine ⟨_, [], trivial, rfl, rfl, fun h => ⟨h, rfl, rfl, rfl⟩, ?_⟩
  refine ⟨⟨fun _ => trivial, fun hc => (gn hc)⟩, ?_⟩
  refine (Tri.cond ⟨fun h1 => ?_, fun h1 => ?_⟩)
  · have hb : nameOk s = false := (by rw [ifo] at h1; unfold nameOk; rw [show (allM 2 (s, false)).2.2 = true from h1]; rfl); rw [hb]
    refine Tri.seq (Tri.reg hT ?_)
    refine Tri.ret ?_
    exact ⟨rfl, trivial⟩
  · refine (Tri.skip ?_)
    have hb : (allM 2 (s, false)).2.2 = false := (by rw [ifo] at h1; exact h1)
    refine Tri.le (⟨49, 0, 40, [(5, .loc 9 0)], [(9, .box (rdC (allM 2 (s, false)).1))], []⟩) (Le.weak rfl rfl rfl rfl ⟨(by first | rfl | exact iv1 (by (try simp only [decide_eq_true_eq, decide_eq_false_iff_not, toNat_cast] at *); omega)), trivial⟩ ⟨rfl, trivial⟩) ?_
    refine Tri.seq (Tri.reg hT ?_)
    refine Tri.seq (Tri.reg hT ?_)
    refine Tri.seq (Tri.block ?_)
    refine (Tri.loop (ι := NSt) (fun x => ⟨49, 0, 60, [(5, .loc 9 0), (6, .str x.2.2), (7, .bool x.2.1)], [(9, .box (rdC x.1))], []⟩) (fun x => x.1.1.length ≤ 1099511627776 ∧ x.1.2 = false ∧ nameI x = nameN s) (fun x => x.1.1.length) (((allM 2 (s, false)).1, false, [])) ?_ ?_ ?_)
    · exact ⟨Nat.le_trans hal.1 hs, rfl, rfl⟩
    · exact Le.weak rfl rfl rfl rfl ⟨(by first | rfl | exact iv1 (by (try simp only [decide_eq_true_eq, decide_eq_false_iff_not, toNat_cast] at *); omega)), (by first | rfl | exact iv1 (by (try simp only [decide_eq_true_eq, decide_eq_false_iff_not, toNat_cast] at *); omega)), (by first | rfl | exact iv1 (by (try simp only [decide_eq_true_eq, decide_eq_false_iff_not, toNat_cast] at *); omega)), trivial⟩ ⟨rfl, trivial⟩
    · intro ⟨l, found, nm⟩ hi; obtain ⟨hl, hl2, hi2⟩ := hi; change l.1.length ≤ _ at hl; change l.2 = false at hl2; change nameI (l, found, nm) = _ at hi2; have h1l := numM_len 1 l; have h2l := listM_len 2 (numM 1 l).2
      refine Tri.seq ?_
      refine Tri.seq (Tri.reg hT ?_)
      refine (Tri.cond ⟨fun h2 => ?_, fun h2 => ?_⟩)
      · refine (Tri.skip ?_)
        refine (Tri.block ?_)
        have hne : l.1 ≠ [] := of_decide_eq_true h2; have hmo : more l = true := (by unfold more; rw [decide_eq_true hne, hl2]; rfl); have hgo := name_go (s := (l, found, nm)) hmo; have hdec := name_dec (l, found, nm) hmo; have ho : Ok l := (fun q => by rw [hl2] at q; cases q)
        refine Tri.le (⟨49, 0, 80, [(5, .loc 9 0), (6, .str nm), (7, .bool found)], [(9, .box (rdC l))], []⟩) (Le.weak rfl rfl rfl rfl ⟨(by first | rfl | exact iv1 (by (try simp only [decide_eq_true_eq, decide_eq_false_iff_not, toNat_cast] at *); omega)), (by first | rfl | exact iv1 (by (try simp only [decide_eq_true_eq, decide_eq_false_iff_not, toNat_cast] at *); omega)), (by first | rfl | exact iv1 (by (try simp only [decide_eq_true_eq, decide_eq_false_iff_not, toNat_cast] at *); omega)), trivial⟩ ⟨rfl, trivial⟩) ?_
        refine Tri.seq (Tri.reg hT ?_)
        refine .inl (.inr (.inl ⟨_, _, (by exact ⟨rfl, trivial⟩), f74_spec l 1 hl (by decide) _, (by rfl), ?_⟩))
        refine Tri.seq (Tri.reg hT ?_)
        refine .inl (.inr (.inl ⟨_, _, (by exact ⟨rfl, trivial⟩), f75_spec (takeM 1 l).2 2 (by change (numM 1 l).2.1.length ≤ _; omega) (by decide) (take_ok 1 ho) _, (by rfl), ?_⟩))
        refine Tri.seq ?_
        refine Tri.seq (Tri.reg hT ?_)
        refine (Tri.cond ⟨fun h3 => ?_, fun h3 => ?_⟩)
        · have hb2 : nameOk s = false := (by have q := name_bad (found := found) (nm := nm) (show (listM 2 (numM 1 l).2).2.2 = true from h3); rw [hgo, hi2] at q; unfold nameOk; rw [q]; simp); rw [hb2]
          refine Tri.seq (Tri.reg hT ?_)
          refine Tri.ret ?_
          exact ⟨rfl, trivial⟩
        · refine (Tri.skip ?_)
          have hst := name_good (found := found) (nm := nm) (show (listM 2 (numM 1 l).2).2.2 = false from h3); have hz := zero_byte (take1 hne)
          refine Tri.le (⟨49, 0, 100, [(5, .loc 9 0), (6, .str nm), (7, .bool found), (8, .str (takeM 1 l).1), (9, .str (listM 2 (numM 1 l).2).1)], [(9, .box (rdC (listM 2 (numM 1 l).2).2))], []⟩) (Le.weak rfl rfl rfl rfl ⟨(by first | rfl | exact iv1 (by (try simp only [decide_eq_true_eq, decide_eq_false_iff_not, toNat_cast] at *); omega)), (by first | rfl | exact iv1 (by (try simp only [decide_eq_true_eq, decide_eq_false_iff_not, toNat_cast] at *); omega)), (by first | rfl | exact iv1 (by (try simp only [decide_eq_true_eq, decide_eq_false_iff_not, toNat_cast] at *); omega)), (by first | rfl | exact iv1 (by (try simp only [decide_eq_true_eq, decide_eq_false_iff_not, toNat_cast] at *); omega)), (by first | rfl | exact iv1 (by (try simp only [decide_eq_true_eq, decide_eq_false_iff_not, toNat_cast] at *); omega)), trivial⟩ ⟨rfl, trivial⟩) ?_
          refine Tri.seq (Tri.reg hT ?_)
          refine ⟨_, [], trivial, rfl, rfl, fun h => ⟨rfl, rfl, rfl⟩, ?_⟩
          refine ⟨_, [], trivial, rfl, rfl, fun h => ⟨h, rfl, rfl, rfl⟩, ?_⟩
          refine ⟨⟨fun hc => hc, fun _ => trivial⟩, ?_⟩
          refine (Tri.cond ⟨fun h4 => ?_, fun h4 => ?_⟩)
          · refine Tri.seq (Tri.reg hT ?_)
            refine (Tri.reg hT ?_)
            have hc : (decide ((numM 1 l).1 = 0) && !found) = true := (by rw [← ifb]; rw [show decide ((numM 1 l).1 = 0) = decide ((takeM 1 l).1 = [0]) from hz.symm]; exact h4); rw [if_pos hc] at hst; rw [hst] at hgo hdec
            exact ⟨((listM 2 (numM 1 l).2).2, true, (listM 2 (numM 1 l).2).1), ⟨Nat.le_trans h2l.2 (Nat.le_trans h1l hl), h3, hgo.trans hi2⟩, hdec, Le.weak rfl rfl rfl rfl ⟨(by first | rfl | exact iv1 (by (try simp only [decide_eq_true_eq, decide_eq_false_iff_not, toNat_cast] at *); omega)), (by first | rfl | exact iv1 (by (try simp only [decide_eq_true_eq, decide_eq_false_iff_not, toNat_cast] at *); omega)), (by first | rfl | exact iv1 (by (try simp only [decide_eq_true_eq, decide_eq_false_iff_not, toNat_cast] at *); omega)), trivial⟩ ⟨rfl, trivial⟩⟩
          · refine (Tri.skip ?_)
            have hc : ¬ (decide ((numM 1 l).1 = 0) && !found) = true := (by rw [← ifb]; rw [show decide ((numM 1 l).1 = 0) = decide ((takeM 1 l).1 = [0]) from hz.symm]; exact fun q => by have := h4.symm.trans q; cases this); rw [if_neg hc] at hst; rw [hst] at hgo hdec
            exact ⟨((listM 2 (numM 1 l).2).2, found, nm), ⟨Nat.le_trans h2l.2 (Nat.le_trans h1l hl), h3, hgo.trans hi2⟩, hdec, Le.weak rfl rfl rfl rfl ⟨(by first | rfl | exact iv1 (by (try simp only [decide_eq_true_eq, decide_eq_false_iff_not, toNat_cast] at *); omega)), (by first | rfl | exact iv1 (by (try simp only [decide_eq_true_eq, decide_eq_false_iff_not, toNat_cast] at *); omega)), (by first | rfl | exact iv1 (by (try simp only [decide_eq_true_eq, decide_eq_false_iff_not, toNat_cast] at *); omega)), trivial⟩ ⟨rfl, trivial⟩⟩
      · refine Tri.exit ?_
        refine Tri.seq (Tri.reg hT ?_)
        have hmo : more l = false := (by unfold more; rw [show decide (l.1 ≠ []) = false from h2]; rfl); have e0 : nameN s = (l, found, nm) := hi2.symm.trans (name_stop (s := (l, found, nm)) hmo); have hb2 : nameOk s = true := (by unfold nameOk; rw [hb, e0]; show (!false && !l.2) = true; rw [hl2]; rfl); rw [hb2]
        refine Tri.ret ?_
        exact ⟨congrArg (fun x => AV.tup [.str x, .bool true]) (by rw [if_pos rfl]; unfold nameV; rw [e0]), trivial⟩
end Go.Proofs.Ytgbmbihajkjbmaa.Fx
