import Derived.Test.YtopnempdeopjfaaEvH
import Derived.Test.YtopnempdeopjfaaGEv2
set_option linter.all false
/- Contracts of chapter 24: the four variants, ambiguity. -/
namespace Go.Proofs.Ytopnempdeopjfaa.Fx
open Go Go.Fw Go.Ov
theorem nd_t {p : Prop} [Decidable p] (e : true = !decide p) : ¬ p := by intro q; rw [decide_eq_true q] at e; cases e
theorem nd_f {p : Prop} [Decidable p] (e : false = !decide p) : p := by
  by_cases q : p
  · exact q
  · rw [decide_eq_false q] at e; cases e
abbrev pI (b : Bool) (x : List UInt8) : AV := .str (if b = true then x else [])
set_option maxRecDepth 8000 in
theorem f68_spec (l : List Pc) (hl : ∀ p ∈ l, ((pd p).length : Int) ≤ 1073741824) (hn : l.length ≤ 140737488351232) : PSpec P [] 68 [.list pT l] (.agg [.str (varE l 1), .str (varE l 2), .str (varE l 3), .str (varE l 4)]) := by
  refine pspec_intro hT Try.func68 (by decide) rfl rfl (by kernel_rfl) rfl ?_
  refine Tri.seq (Tri.reg hT ?_)
  refine Tri.seq (Tri.reg hT ?_)
  refine Tri.seq ?_
  refine Tri.seq (Tri.reg hT ?_)
  refine (Tri.block ?_)
  refine (Tri.loop (ι := Nat) (fun i => ⟨16, 0, 20, [(0, .list pT l), (2, .loc 0 0), (3, .loc 1 0), (5, .int .i64 (i : Int))], [(0, .box [.str [], .str [], .str [], .str []]), (1, .box [pI (decide (0 < i)) (varE l 1), pI (decide (1 < i)) (varE l 2), pI (decide (2 < i)) (varE l 3), pI (decide (3 < i)) (varE l 4)])], []⟩) (fun i => i ≤ 4) (fun i => 4 - i) (0) ?_ ?_ ?_)
  · exact Nat.zero_le _
  · exact Le.weak rfl rfl rfl rfl ⟨(by first | rfl | exact iv1 (by (try simp only [decide_eq_true_eq, decide_eq_false_iff_not, toNat_cast] at *); omega)), (by first | rfl | exact iv1 (by (try simp only [decide_eq_true_eq, decide_eq_false_iff_not, toNat_cast] at *); omega)), (by first | rfl | exact iv1 (by (try simp only [decide_eq_true_eq, decide_eq_false_iff_not, toNat_cast] at *); omega)), (by first | rfl | exact iv1 (by (try simp only [decide_eq_true_eq, decide_eq_false_iff_not, toNat_cast] at *); omega)), trivial⟩ ⟨rfl, rfl, trivial⟩
  · intro i hi
    refine Tri.seq (Tri.reg hT ?_)
    refine Tri.seq (Tri.cond ⟨fun h1 => ?_, fun h1 => ?_⟩)
    · refine (Tri.skip ?_)
      refine Tri.seq (Tri.block ?_)
      have hlt : i < 4 := (by have := of_decide_eq_true h1; omega)
      refine Tri.seq (Tri.reg hT ?_)
      obtain rfl | rfl | rfl | rfl : i = 0 ∨ i = 1 ∨ i = 2 ∨ i = 3 := by omega
      · refine (Tri.reg hT ?_)
        refine .inl (.inl ⟨_, fun _ => rfl, f35_spec l _ hl hn, ?_⟩)
        refine ⟨by decide, ?_⟩
        refine (Tri.reg hT ?_)
        exact ⟨1, (by decide), (by decide), Le.weak rfl rfl rfl rfl ⟨(by first | rfl | exact iv1 (by (try simp only [decide_eq_true_eq, decide_eq_false_iff_not, toNat_cast] at *); omega)), (by first | rfl | exact iv1 (by (try simp only [decide_eq_true_eq, decide_eq_false_iff_not, toNat_cast] at *); omega)), (by first | rfl | exact iv1 (by (try simp only [decide_eq_true_eq, decide_eq_false_iff_not, toNat_cast] at *); omega)), (by first | rfl | exact iv1 (by (try simp only [decide_eq_true_eq, decide_eq_false_iff_not, toNat_cast] at *); omega)), trivial⟩ ⟨rfl, rfl, trivial⟩⟩
      · refine (Tri.reg hT ?_)
        refine .inl (.inl ⟨_, fun _ => rfl, f35_spec l _ hl hn, ?_⟩)
        refine ⟨by decide, ?_⟩
        refine (Tri.reg hT ?_)
        exact ⟨2, (by decide), (by decide), Le.weak rfl rfl rfl rfl ⟨(by first | rfl | exact iv1 (by (try simp only [decide_eq_true_eq, decide_eq_false_iff_not, toNat_cast] at *); omega)), (by first | rfl | exact iv1 (by (try simp only [decide_eq_true_eq, decide_eq_false_iff_not, toNat_cast] at *); omega)), (by first | rfl | exact iv1 (by (try simp only [decide_eq_true_eq, decide_eq_false_iff_not, toNat_cast] at *); omega)), (by first | rfl | exact iv1 (by (try simp only [decide_eq_true_eq, decide_eq_false_iff_not, toNat_cast] at *); omega)), trivial⟩ ⟨rfl, rfl, trivial⟩⟩
      · refine (Tri.reg hT ?_)
        refine .inl (.inl ⟨_, fun _ => rfl, f35_spec l _ hl hn, ?_⟩)
        refine ⟨by decide, ?_⟩
        refine (Tri.reg hT ?_)
        exact ⟨3, (by decide), (by decide), Le.weak rfl rfl rfl rfl ⟨(by first | rfl | exact iv1 (by (try simp only [decide_eq_true_eq, decide_eq_false_iff_not, toNat_cast] at *); omega)), (by first | rfl | exact iv1 (by (try simp only [decide_eq_true_eq, decide_eq_false_iff_not, toNat_cast] at *); omega)), (by first | rfl | exact iv1 (by (try simp only [decide_eq_true_eq, decide_eq_false_iff_not, toNat_cast] at *); omega)), (by first | rfl | exact iv1 (by (try simp only [decide_eq_true_eq, decide_eq_false_iff_not, toNat_cast] at *); omega)), trivial⟩ ⟨rfl, rfl, trivial⟩⟩
      · refine (Tri.reg hT ?_)
        refine .inl (.inl ⟨_, fun _ => rfl, f35_spec l _ hl hn, ?_⟩)
        refine ⟨by decide, ?_⟩
        refine (Tri.reg hT ?_)
        exact ⟨4, (by decide), (by decide), Le.weak rfl rfl rfl rfl ⟨(by first | rfl | exact iv1 (by (try simp only [decide_eq_true_eq, decide_eq_false_iff_not, toNat_cast] at *); omega)), (by first | rfl | exact iv1 (by (try simp only [decide_eq_true_eq, decide_eq_false_iff_not, toNat_cast] at *); omega)), (by first | rfl | exact iv1 (by (try simp only [decide_eq_true_eq, decide_eq_false_iff_not, toNat_cast] at *); omega)), (by first | rfl | exact iv1 (by (try simp only [decide_eq_true_eq, decide_eq_false_iff_not, toNat_cast] at *); omega)), trivial⟩ ⟨rfl, rfl, trivial⟩⟩
    · refine Tri.exit ?_
      have hN : i = 4 := (by have := of_decide_eq_false h1; omega); subst hN
      refine Tri.seq (Tri.reg hT ?_)
      refine Tri.ret ?_
      exact ⟨rfl, trivial⟩
set_option maxRecDepth 8000 in
theorem f40_spec (l : List Pc) (hl : ∀ p ∈ l, ((pd p).length : Int) ≤ 1073741824) (hn : l.length ≤ 140737488351232) : PSpec P [] 40 [.list pT l] (.bool (!decide (AllEq (v4 l)))) := by
  refine pspec_intro hT Try.func40 (by decide) rfl rfl (by kernel_rfl) rfl ?_
  refine Tri.seq (Tri.reg hT ?_)
  refine Tri.seq (Tri.reg hT ?_)
  refine .inl (.inl ⟨_, fun _ => rfl, f68_spec l hl hn, ?_⟩)
  refine Tri.seq (Tri.reg hT ?_)
  refine ⟨(by first | ((try simp only [decide_eq_true_eq, decide_eq_false_iff_not, toNat_cast] at *); omega) | decide), ?_⟩
  refine ⟨(by first | ((try simp only [decide_eq_true_eq, decide_eq_false_iff_not, toNat_cast] at *); omega) | decide), ?_⟩
  refine ⟨(by first | ((try simp only [decide_eq_true_eq, decide_eq_false_iff_not, toNat_cast] at *); omega) | decide), ?_⟩
  refine ⟨(by first | ((try simp only [decide_eq_true_eq, decide_eq_false_iff_not, toNat_cast] at *); omega) | decide), ?_⟩
  refine Tri.ret ?_
  exact ⟨congrArg AV.bool (congrArg not (amb_eq (v4 l))), trivial⟩
set_option maxRecDepth 8000 in
theorem f42_spec (l : List Pc) (hl : ∀ p ∈ l, ((pd p).length : Int) ≤ 1073741824) (hn : l.length ≤ 140737488351232) (hb : ∀ k, (varE l k).length ≤ 4294967296) : PSpec P [] 42 [.list pT l] (.int .i64 (whereM (v4 l))) := by
  refine pspec_intro hT Try.func42 (by decide) rfl rfl (by kernel_rfl) rfl ?_
  refine Tri.seq (Tri.reg hT ?_)
  refine Tri.seq (Tri.reg hT ?_)
  refine .inl (.inl ⟨_, fun _ => rfl, f68_spec l hl hn, ?_⟩)
  refine Tri.seq ?_
  refine Tri.seq (Tri.reg hT ?_)
  refine .inl (.inl ⟨_, fun _ => rfl, f40_spec l hl hn, ?_⟩)
  refine (Tri.cond ⟨fun h1 => ?_, fun h1 => ?_⟩)
  · refine Tri.seq (Tri.reg hT ?_)
    refine Tri.ret ?_
    exact ⟨congrArg (AV.int .i64) (where_neg.2 (by simpa using h1)).symm, trivial⟩
  · refine (Tri.skip ?_)
    have hne : ¬ AllEq (v4 l) := (by simpa using h1); have b1 := hb 1; have b2 := hb 2; have b3 := hb 3; have b4 := hb 4; clear hb; have hvd : v4 l = (varE l 1, varE l 2, varE l 3, varE l 4) := rfl; rw [hvd] at hne ⊢; clear hvd; generalize varE l 1 = s0 at *; generalize varE l 2 = s1 at *; generalize varE l 3 = s2 at *; generalize varE l 4 = s3 at *; have hvm : vMax (s0, s1, s2, s3) = s0.length + s1.length + s2.length + s3.length := rfl
    refine Tri.seq (Tri.reg hT ?_)
    refine (Tri.block ?_)
    refine (Tri.loop (ι := Nat) (fun a => ⟨50, 0, 20, [(3, .loc 3 0), (4, .int .i64 (a : Int))], [(3, .box [.str s0, .str s1, .str s2, .str s3])], []⟩) (fun a => ∀ b, b < a → SameAt (s0, s1, s2, s3) b) (fun a => vMax (s0, s1, s2, s3) - a) (0) ?_ ?_ ?_)
    · exact fun b hb => absurd hb (Nat.not_lt_zero b)
    · exact Le.weak rfl rfl rfl rfl ⟨(by first | rfl | exact iv1 (by (try simp only [decide_eq_true_eq, decide_eq_false_iff_not, toNat_cast] at *); omega)), (by first | rfl | exact iv1 (by (try simp only [decide_eq_true_eq, decide_eq_false_iff_not, toNat_cast] at *); omega)), trivial⟩ ⟨rfl, trivial⟩
    · intro a ha; have hnear := differ_near hne ha
      refine Tri.seq (Tri.block ?_)
      refine Tri.seq (Tri.reg hT ?_)
      refine (Tri.block ?_)
      refine (Tri.loop (ι := Nat) (fun j => ⟨50, 0, 30, [(3, .loc 3 0), (4, .int .i64 (a : Int)), (14, .agg [.str s0, .str s1, .str s2, .str s3]), (15, .int .i64 (j : Int))], [(3, .box [.str s0, .str s1, .str s2, .str s3])], []⟩) (fun j => j ≤ 4 ∧ ∀ k, k < j → (vAt (s0, s1, s2, s3) k)[a]? = s0[a]?) (fun j => 4 - j) (0) ?_ ?_ ?_)
      · exact ⟨Nat.zero_le _, fun k hk => absurd hk (Nat.not_lt_zero k)⟩
      · exact Le.weak rfl rfl rfl rfl ⟨(by first | rfl | exact iv1 (by (try simp only [decide_eq_true_eq, decide_eq_false_iff_not, toNat_cast] at *); omega)), (by first | rfl | exact iv1 (by (try simp only [decide_eq_true_eq, decide_eq_false_iff_not, toNat_cast] at *); omega)), (by first | rfl | exact iv1 (by (try simp only [decide_eq_true_eq, decide_eq_false_iff_not, toNat_cast] at *); omega)), (by first | rfl | exact iv1 (by (try simp only [decide_eq_true_eq, decide_eq_false_iff_not, toNat_cast] at *); omega)), trivial⟩ ⟨rfl, trivial⟩
      · intro j hj
        have hj1 := hj.1; have hj2 := hj.2
        refine Tri.seq (Tri.reg hT ?_)
        refine Tri.seq (Tri.cond ⟨fun h2 => ?_, fun h2 => ?_⟩)
        · refine (Tri.skip ?_)
          refine Tri.seq (Tri.block ?_)
          have hlt : j < 4 := (by have := of_decide_eq_true h2; omega); obtain rfl | rfl | rfl | rfl : j = 0 ∨ j = 1 ∨ j = 2 ∨ j = 3 := by omega
          · skip
            refine Tri.seq (Tri.reg hT ?_)
            refine ⟨by decide, ?_⟩
            refine Tri.seq ?_
            refine Tri.seq (Tri.reg hT ?_)
            refine ⟨_, [], trivial, rfl, rfl, fun h => ⟨(by first | ((try simp only [decide_eq_true_eq, decide_eq_false_iff_not, toNat_cast] at *); omega) | decide), rfl, rfl, rfl⟩, ?_⟩
            refine ⟨_, [], trivial, rfl, rfl, fun h => ⟨h, rfl, rfl, rfl⟩, ?_⟩
            refine ⟨_, [], trivial, rfl, rfl, fun h => ⟨h, rfl, rfl, rfl⟩, ?_⟩
            refine ⟨_, [], trivial, rfl, rfl, fun h => ⟨rfl, rfl, rfl⟩, ?_⟩
            refine ⟨_, [], trivial, rfl, rfl, fun h => ⟨h, h, rfl, rfl, rfl⟩, ?_⟩
            refine ⟨⟨fun _ => trivial, fun hc => (gn hc)⟩, ?_⟩
            refine (Tri.cond ⟨fun h3 => ?_, fun h3 => ?_⟩)
            · refine Tri.seq ?_
              refine Tri.seq (Tri.reg hT ?_)
              refine ⟨(by first | ((try simp only [decide_eq_true_eq, decide_eq_false_iff_not, toNat_cast] at *); omega) | decide), ?_⟩
              refine (Tri.cond ⟨fun h4 => ?_, fun h4 => ?_⟩)
              · refine Tri.seq (Tri.reg hT ?_)
                refine Tri.ret ?_
                have e := diff_end (s := s0) (t := s0) (a := a) h3; rw [h4] at e; have hd : ¬ (vAt (s0, s1, s2, s3) 0)[a]? = s0[a]? := nd_t e; exact ⟨congrArg (AV.int .i64) (whereM_eq (.inr ⟨a, rfl, ha, not_same (j := 0) hd⟩)).symm, trivial⟩
              · refine (Tri.skip ?_)
                refine Tri.exit ?_
                refine (Tri.reg hT ?_)
                have e := diff_end (s := s0) (t := s0) (a := a) h3; rw [h4] at e; have hd : (vAt (s0, s1, s2, s3) 0)[a]? = s0[a]? := nd_f e
                exact ⟨1, ⟨by decide, fun k hk => by rcases Nat.lt_succ_iff_lt_or_eq.1 hk with q | q; exact hj2 k q; rw [q]; exact hd⟩, (by decide), Le.weak rfl rfl rfl rfl ⟨(by first | rfl | exact iv1 (by (try simp only [decide_eq_true_eq, decide_eq_false_iff_not, toNat_cast] at *); omega)), (by first | rfl | exact iv1 (by (try simp only [decide_eq_true_eq, decide_eq_false_iff_not, toNat_cast] at *); omega)), (by first | rfl | exact iv1 (by (try simp only [decide_eq_true_eq, decide_eq_false_iff_not, toNat_cast] at *); omega)), (by first | rfl | exact iv1 (by (try simp only [decide_eq_true_eq, decide_eq_false_iff_not, toNat_cast] at *); omega)), trivial⟩ ⟨rfl, trivial⟩⟩
            · refine (Tri.skip ?_)
              refine Tri.seq (Tri.drw hT hm 8 (by kernel_rfl) ?_)
              refine ⟨by have := in_both (a := a) (by assumption); omega, ?_⟩
              refine ⟨(by first | ((try simp only [decide_eq_true_eq, decide_eq_false_iff_not, toNat_cast] at *); omega) | decide), ?_⟩
              refine ⟨by have := in_both (a := a) (by assumption); omega, ?_⟩
              refine ⟨by kernel_rfl, ?_⟩
              refine (Tri.cond ⟨fun h5 => ?_, fun h5 => ?_⟩)
              · refine Tri.seq (Tri.reg hT ?_)
                refine Tri.ret ?_
                have hin := in_both (s := s0) (t := s0) (a := a) h3; have e := diff_byte hin; have hC' := h5; rw [toNat_cast] at hC'; rw [hC'] at e; have hd : ¬ (vAt (s0, s1, s2, s3) 0)[a]? = s0[a]? := nd_t e; exact ⟨congrArg (AV.int .i64) (whereM_eq (.inr ⟨a, rfl, ha, not_same (j := 0) hd⟩)).symm, trivial⟩
              · refine (Tri.skip ?_)
                refine (Tri.reg hT ?_)
                have hin := in_both (s := s0) (t := s0) (a := a) h3; have e := diff_byte hin; have hC' := h5; rw [toNat_cast] at hC'; rw [hC'] at e; have hd : (vAt (s0, s1, s2, s3) 0)[a]? = s0[a]? := nd_f e
                exact ⟨1, ⟨by decide, fun k hk => by rcases Nat.lt_succ_iff_lt_or_eq.1 hk with q | q; exact hj2 k q; rw [q]; exact hd⟩, (by decide), Le.weak rfl rfl rfl rfl ⟨(by first | rfl | exact iv1 (by (try simp only [decide_eq_true_eq, decide_eq_false_iff_not, toNat_cast] at *); omega)), (by first | rfl | exact iv1 (by (try simp only [decide_eq_true_eq, decide_eq_false_iff_not, toNat_cast] at *); omega)), (by first | rfl | exact iv1 (by (try simp only [decide_eq_true_eq, decide_eq_false_iff_not, toNat_cast] at *); omega)), (by first | rfl | exact iv1 (by (try simp only [decide_eq_true_eq, decide_eq_false_iff_not, toNat_cast] at *); omega)), trivial⟩ ⟨rfl, trivial⟩⟩
          · skip
            refine Tri.seq (Tri.reg hT ?_)
            refine ⟨by decide, ?_⟩
            refine Tri.seq ?_
            refine Tri.seq (Tri.reg hT ?_)
            refine ⟨_, [], trivial, rfl, rfl, fun h => ⟨(by first | ((try simp only [decide_eq_true_eq, decide_eq_false_iff_not, toNat_cast] at *); omega) | decide), rfl, rfl, rfl⟩, ?_⟩
            refine ⟨_, [], trivial, rfl, rfl, fun h => ⟨h, rfl, rfl, rfl⟩, ?_⟩
            refine ⟨_, [], trivial, rfl, rfl, fun h => ⟨h, rfl, rfl, rfl⟩, ?_⟩
            refine ⟨_, [], trivial, rfl, rfl, fun h => ⟨rfl, rfl, rfl⟩, ?_⟩
            refine ⟨_, [], trivial, rfl, rfl, fun h => ⟨h, h, rfl, rfl, rfl⟩, ?_⟩
            refine ⟨⟨fun _ => trivial, fun hc => (gn hc)⟩, ?_⟩
            refine (Tri.cond ⟨fun h6 => ?_, fun h6 => ?_⟩)
            · refine Tri.seq ?_
              refine Tri.seq (Tri.reg hT ?_)
              refine ⟨(by first | ((try simp only [decide_eq_true_eq, decide_eq_false_iff_not, toNat_cast] at *); omega) | decide), ?_⟩
              refine (Tri.cond ⟨fun h7 => ?_, fun h7 => ?_⟩)
              · refine Tri.seq (Tri.reg hT ?_)
                refine Tri.ret ?_
                have e := diff_end (s := s1) (t := s0) (a := a) h6; rw [h7] at e; have hd : ¬ (vAt (s0, s1, s2, s3) 1)[a]? = s0[a]? := nd_t e; exact ⟨congrArg (AV.int .i64) (whereM_eq (.inr ⟨a, rfl, ha, not_same (j := 1) hd⟩)).symm, trivial⟩
              · refine (Tri.skip ?_)
                refine Tri.exit ?_
                refine (Tri.reg hT ?_)
                have e := diff_end (s := s1) (t := s0) (a := a) h6; rw [h7] at e; have hd : (vAt (s0, s1, s2, s3) 1)[a]? = s0[a]? := nd_f e
                exact ⟨2, ⟨by decide, fun k hk => by rcases Nat.lt_succ_iff_lt_or_eq.1 hk with q | q; exact hj2 k q; rw [q]; exact hd⟩, (by decide), Le.weak rfl rfl rfl rfl ⟨(by first | rfl | exact iv1 (by (try simp only [decide_eq_true_eq, decide_eq_false_iff_not, toNat_cast] at *); omega)), (by first | rfl | exact iv1 (by (try simp only [decide_eq_true_eq, decide_eq_false_iff_not, toNat_cast] at *); omega)), (by first | rfl | exact iv1 (by (try simp only [decide_eq_true_eq, decide_eq_false_iff_not, toNat_cast] at *); omega)), (by first | rfl | exact iv1 (by (try simp only [decide_eq_true_eq, decide_eq_false_iff_not, toNat_cast] at *); omega)), trivial⟩ ⟨rfl, trivial⟩⟩
            · refine (Tri.skip ?_)
              refine Tri.seq (Tri.drw hT hm 8 (by kernel_rfl) ?_)
              refine ⟨by have := in_both (a := a) (by assumption); omega, ?_⟩
              refine ⟨(by first | ((try simp only [decide_eq_true_eq, decide_eq_false_iff_not, toNat_cast] at *); omega) | decide), ?_⟩
              refine ⟨by have := in_both (a := a) (by assumption); omega, ?_⟩
              refine ⟨by kernel_rfl, ?_⟩
              refine (Tri.cond ⟨fun h8 => ?_, fun h8 => ?_⟩)
              · refine Tri.seq (Tri.reg hT ?_)
                refine Tri.ret ?_
                have hin := in_both (s := s1) (t := s0) (a := a) h6; have e := diff_byte hin; have hC' := h8; rw [toNat_cast] at hC'; rw [hC'] at e; have hd : ¬ (vAt (s0, s1, s2, s3) 1)[a]? = s0[a]? := nd_t e; exact ⟨congrArg (AV.int .i64) (whereM_eq (.inr ⟨a, rfl, ha, not_same (j := 1) hd⟩)).symm, trivial⟩
              · refine (Tri.skip ?_)
                refine (Tri.reg hT ?_)
                have hin := in_both (s := s1) (t := s0) (a := a) h6; have e := diff_byte hin; have hC' := h8; rw [toNat_cast] at hC'; rw [hC'] at e; have hd : (vAt (s0, s1, s2, s3) 1)[a]? = s0[a]? := nd_f e
                exact ⟨2, ⟨by decide, fun k hk => by rcases Nat.lt_succ_iff_lt_or_eq.1 hk with q | q; exact hj2 k q; rw [q]; exact hd⟩, (by decide), Le.weak rfl rfl rfl rfl ⟨(by first | rfl | exact iv1 (by (try simp only [decide_eq_true_eq, decide_eq_false_iff_not, toNat_cast] at *); omega)), (by first | rfl | exact iv1 (by (try simp only [decide_eq_true_eq, decide_eq_false_iff_not, toNat_cast] at *); omega)), (by first | rfl | exact iv1 (by (try simp only [decide_eq_true_eq, decide_eq_false_iff_not, toNat_cast] at *); omega)), (by first | rfl | exact iv1 (by (try simp only [decide_eq_true_eq, decide_eq_false_iff_not, toNat_cast] at *); omega)), trivial⟩ ⟨rfl, trivial⟩⟩
          · skip
            refine Tri.seq (Tri.reg hT ?_)
            refine ⟨by decide, ?_⟩
            refine Tri.seq ?_
            refine Tri.seq (Tri.reg hT ?_)
            refine ⟨_, [], trivial, rfl, rfl, fun h => ⟨(by first | ((try simp only [decide_eq_true_eq, decide_eq_false_iff_not, toNat_cast] at *); omega) | decide), rfl, rfl, rfl⟩, ?_⟩
            refine ⟨_, [], trivial, rfl, rfl, fun h => ⟨h, rfl, rfl, rfl⟩, ?_⟩
            refine ⟨_, [], trivial, rfl, rfl, fun h => ⟨h, rfl, rfl, rfl⟩, ?_⟩
            refine ⟨_, [], trivial, rfl, rfl, fun h => ⟨rfl, rfl, rfl⟩, ?_⟩
            refine ⟨_, [], trivial, rfl, rfl, fun h => ⟨h, h, rfl, rfl, rfl⟩, ?_⟩
            refine ⟨⟨fun _ => trivial, fun hc => (gn hc)⟩, ?_⟩
            refine (Tri.cond ⟨fun h9 => ?_, fun h9 => ?_⟩)
            · refine Tri.seq ?_
              refine Tri.seq (Tri.reg hT ?_)
              refine ⟨(by first | ((try simp only [decide_eq_true_eq, decide_eq_false_iff_not, toNat_cast] at *); omega) | decide), ?_⟩
              refine (Tri.cond ⟨fun h10 => ?_, fun h10 => ?_⟩)
              · refine Tri.seq (Tri.reg hT ?_)
                refine Tri.ret ?_
                have e := diff_end (s := s2) (t := s0) (a := a) h9; rw [h10] at e; have hd : ¬ (vAt (s0, s1, s2, s3) 2)[a]? = s0[a]? := nd_t e; exact ⟨congrArg (AV.int .i64) (whereM_eq (.inr ⟨a, rfl, ha, not_same (j := 2) hd⟩)).symm, trivial⟩
              · refine (Tri.skip ?_)
                refine Tri.exit ?_
                refine (Tri.reg hT ?_)
                have e := diff_end (s := s2) (t := s0) (a := a) h9; rw [h10] at e; have hd : (vAt (s0, s1, s2, s3) 2)[a]? = s0[a]? := nd_f e
                exact ⟨3, ⟨by decide, fun k hk => by rcases Nat.lt_succ_iff_lt_or_eq.1 hk with q | q; exact hj2 k q; rw [q]; exact hd⟩, (by decide), Le.weak rfl rfl rfl rfl ⟨(by first | rfl | exact iv1 (by (try simp only [decide_eq_true_eq, decide_eq_false_iff_not, toNat_cast] at *); omega)), (by first | rfl | exact iv1 (by (try simp only [decide_eq_true_eq, decide_eq_false_iff_not, toNat_cast] at *); omega)), (by first | rfl | exact iv1 (by (try simp only [decide_eq_true_eq, decide_eq_false_iff_not, toNat_cast] at *); omega)), (by first | rfl | exact iv1 (by (try simp only [decide_eq_true_eq, decide_eq_false_iff_not, toNat_cast] at *); omega)), trivial⟩ ⟨rfl, trivial⟩⟩
            · refine (Tri.skip ?_)
              refine Tri.seq (Tri.drw hT hm 8 (by kernel_rfl) ?_)
              refine ⟨by have := in_both (a := a) (by assumption); omega, ?_⟩
              refine ⟨(by first | ((try simp only [decide_eq_true_eq, decide_eq_false_iff_not, toNat_cast] at *); omega) | decide), ?_⟩
              refine ⟨by have := in_both (a := a) (by assumption); omega, ?_⟩
              refine ⟨by kernel_rfl, ?_⟩
              refine (Tri.cond ⟨fun h11 => ?_, fun h11 => ?_⟩)
              · refine Tri.seq (Tri.reg hT ?_)
                refine Tri.ret ?_
                have hin := in_both (s := s2) (t := s0) (a := a) h9; have e := diff_byte hin; have hC' := h11; rw [toNat_cast] at hC'; rw [hC'] at e; have hd : ¬ (vAt (s0, s1, s2, s3) 2)[a]? = s0[a]? := nd_t e; exact ⟨congrArg (AV.int .i64) (whereM_eq (.inr ⟨a, rfl, ha, not_same (j := 2) hd⟩)).symm, trivial⟩
              · refine (Tri.skip ?_)
                refine (Tri.reg hT ?_)
                have hin := in_both (s := s2) (t := s0) (a := a) h9; have e := diff_byte hin; have hC' := h11; rw [toNat_cast] at hC'; rw [hC'] at e; have hd : (vAt (s0, s1, s2, s3) 2)[a]? = s0[a]? := nd_f e
                exact ⟨3, ⟨by decide, fun k hk => by rcases Nat.lt_succ_iff_lt_or_eq.1 hk with q | q; exact hj2 k q; rw [q]; exact hd⟩, (by decide), Le.weak rfl rfl rfl rfl ⟨(by first | rfl | exact iv1 (by (try simp only [decide_eq_true_eq, decide_eq_false_iff_not, toNat_cast] at *); omega)), (by first | rfl | exact iv1 (by (try simp only [decide_eq_true_eq, decide_eq_false_iff_not, toNat_cast] at *); omega)), (by first | rfl | exact iv1 (by (try simp only [decide_eq_true_eq, decide_eq_false_iff_not, toNat_cast] at *); omega)), (by first | rfl | exact iv1 (by (try simp only [decide_eq_true_eq, decide_eq_false_iff_not, toNat_cast] at *); omega)), trivial⟩ ⟨rfl, trivial⟩⟩
          · skip
            refine Tri.seq (Tri.reg hT ?_)
            refine ⟨by decide, ?_⟩
            refine Tri.seq ?_
            refine Tri.seq (Tri.reg hT ?_)
            refine ⟨_, [], trivial, rfl, rfl, fun h => ⟨(by first | ((try simp only [decide_eq_true_eq, decide_eq_false_iff_not, toNat_cast] at *); omega) | decide), rfl, rfl, rfl⟩, ?_⟩
            refine ⟨_, [], trivial, rfl, rfl, fun h => ⟨h, rfl, rfl, rfl⟩, ?_⟩
            refine ⟨_, [], trivial, rfl, rfl, fun h => ⟨h, rfl, rfl, rfl⟩, ?_⟩
            refine ⟨_, [], trivial, rfl, rfl, fun h => ⟨rfl, rfl, rfl⟩, ?_⟩
            refine ⟨_, [], trivial, rfl, rfl, fun h => ⟨h, h, rfl, rfl, rfl⟩, ?_⟩
            refine ⟨⟨fun _ => trivial, fun hc => (gn hc)⟩, ?_⟩
            refine (Tri.cond ⟨fun h12 => ?_, fun h12 => ?_⟩)
            · refine Tri.seq ?_
              refine Tri.seq (Tri.reg hT ?_)
              refine ⟨(by first | ((try simp only [decide_eq_true_eq, decide_eq_false_iff_not, toNat_cast] at *); omega) | decide), ?_⟩
              refine (Tri.cond ⟨fun h13 => ?_, fun h13 => ?_⟩)
              · refine Tri.seq (Tri.reg hT ?_)
                refine Tri.ret ?_
                have e := diff_end (s := s3) (t := s0) (a := a) h12; rw [h13] at e; have hd : ¬ (vAt (s0, s1, s2, s3) 3)[a]? = s0[a]? := nd_t e; exact ⟨congrArg (AV.int .i64) (whereM_eq (.inr ⟨a, rfl, ha, not_same (j := 3) hd⟩)).symm, trivial⟩
              · refine (Tri.skip ?_)
                refine Tri.exit ?_
                refine (Tri.reg hT ?_)
                have e := diff_end (s := s3) (t := s0) (a := a) h12; rw [h13] at e; have hd : (vAt (s0, s1, s2, s3) 3)[a]? = s0[a]? := nd_f e
                exact ⟨4, ⟨by decide, fun k hk => by rcases Nat.lt_succ_iff_lt_or_eq.1 hk with q | q; exact hj2 k q; rw [q]; exact hd⟩, (by decide), Le.weak rfl rfl rfl rfl ⟨(by first | rfl | exact iv1 (by (try simp only [decide_eq_true_eq, decide_eq_false_iff_not, toNat_cast] at *); omega)), (by first | rfl | exact iv1 (by (try simp only [decide_eq_true_eq, decide_eq_false_iff_not, toNat_cast] at *); omega)), (by first | rfl | exact iv1 (by (try simp only [decide_eq_true_eq, decide_eq_false_iff_not, toNat_cast] at *); omega)), (by first | rfl | exact iv1 (by (try simp only [decide_eq_true_eq, decide_eq_false_iff_not, toNat_cast] at *); omega)), trivial⟩ ⟨rfl, trivial⟩⟩
            · refine (Tri.skip ?_)
              refine Tri.seq (Tri.drw hT hm 8 (by kernel_rfl) ?_)
              refine ⟨by have := in_both (a := a) (by assumption); omega, ?_⟩
              refine ⟨(by first | ((try simp only [decide_eq_true_eq, decide_eq_false_iff_not, toNat_cast] at *); omega) | decide), ?_⟩
              refine ⟨by have := in_both (a := a) (by assumption); omega, ?_⟩
              refine ⟨by kernel_rfl, ?_⟩
              refine (Tri.cond ⟨fun h14 => ?_, fun h14 => ?_⟩)
              · refine Tri.seq (Tri.reg hT ?_)
                refine Tri.ret ?_
                have hin := in_both (s := s3) (t := s0) (a := a) h12; have e := diff_byte hin; have hC' := h14; rw [toNat_cast] at hC'; rw [hC'] at e; have hd : ¬ (vAt (s0, s1, s2, s3) 3)[a]? = s0[a]? := nd_t e; exact ⟨congrArg (AV.int .i64) (whereM_eq (.inr ⟨a, rfl, ha, not_same (j := 3) hd⟩)).symm, trivial⟩
              · refine (Tri.skip ?_)
                refine (Tri.reg hT ?_)
                have hin := in_both (s := s3) (t := s0) (a := a) h12; have e := diff_byte hin; have hC' := h14; rw [toNat_cast] at hC'; rw [hC'] at e; have hd : (vAt (s0, s1, s2, s3) 3)[a]? = s0[a]? := nd_f e
                exact ⟨4, ⟨by decide, fun k hk => by rcases Nat.lt_succ_iff_lt_or_eq.1 hk with q | q; exact hj2 k q; rw [q]; exact hd⟩, (by decide), Le.weak rfl rfl rfl rfl ⟨(by first | rfl | exact iv1 (by (try simp only [decide_eq_true_eq, decide_eq_false_iff_not, toNat_cast] at *); omega)), (by first | rfl | exact iv1 (by (try simp only [decide_eq_true_eq, decide_eq_false_iff_not, toNat_cast] at *); omega)), (by first | rfl | exact iv1 (by (try simp only [decide_eq_true_eq, decide_eq_false_iff_not, toNat_cast] at *); omega)), (by first | rfl | exact iv1 (by (try simp only [decide_eq_true_eq, decide_eq_false_iff_not, toNat_cast] at *); omega)), trivial⟩ ⟨rfl, trivial⟩⟩
        · refine Tri.exit ?_
          have hjN : j = 4 := (by have := of_decide_eq_false h2; omega); subst hjN; have w1 : IntKind.i64.wrap ((a : Int) + 1) = ((a + 1 : Nat) : Int) := (by rw [wrapId (by omega)]; omega)
          refine (Tri.reg hT ?_)
          exact ⟨a + 1, (fun b hb => by rcases Nat.lt_succ_iff_lt_or_eq.1 hb with q | q; exact ha b q; rw [q]; exact same_four (hj2 1 (by decide)) (hj2 2 (by decide)) (hj2 3 (by decide))), (by omega), Le.weak rfl rfl rfl rfl ⟨(by first | rfl | exact iv1 (by (try simp only [decide_eq_true_eq, decide_eq_false_iff_not, toNat_cast] at *); omega)), congrArg (AV.int .i64) w1, trivial⟩ ⟨rfl, trivial⟩⟩
end Go.Proofs.Ytopnempdeopjfaa.Fx
