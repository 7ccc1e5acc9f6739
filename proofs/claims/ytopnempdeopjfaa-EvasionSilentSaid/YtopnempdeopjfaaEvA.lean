import Derived.Test.YtopnempdeopjfaaOvR4
import Derived.Test.YtopnempdeopjfaaOvI
import Derived.Test.YtopnempdeopjfaaGEv1
import Derived.Test.YtopnempdeopjfaaGEv2
set_option linter.all false
/- Contracts of chapter 24: buffers, variants. -/
namespace Go.Proofs.Ytopnempdeopjfaa.Fx
open Go Go.Fw Go.Ov
theorem f63_spec (l : List Pc) (pol : Int) (hl : ∀ p ∈ l, ((pd p).length : Int) ≤ 1073741824) (hn : l.length ≤ 140737488351232) : PSpec P [] 63 [.list pT l, .int .i64 pol] (.list pT (bufE l pol)) := by
  have hln : (l.take 64).length ≤ 64 := List.length_take_le ..
  have hll : ∀ p ∈ l.take 64, ((pd p).length : Int) ≤ 1073741824 := fun p hp => hl p (List.mem_of_mem_take hp)
  have e64 : List.drop (Int.toNat 0) (l.take (min (l.length : Int) 64).toNat) = l.take 64 := by
    rcases Nat.le_total l.length 64 with q | q
    · rw [show (min (l.length : Int) 64).toNat = l.length by omega, List.take_length, List.take_of_length_le q]; rfl
    · rw [show (min (l.length : Int) 64).toNat = 64 by omega]; rfl
  generalize hL : l.take 64 = L at *
  refine pspec_intro hT Try.func63 (by decide) rfl rfl (by kernel_rfl) rfl ?_
  refine Tri.seq (Tri.reg hT ?_)
  refine Tri.seq (Tri.reg hT ?_)
  refine Tri.seq ?_
  refine Tri.seq (Tri.reg hT ?_)
  refine ⟨by omega, ?_⟩
  refine (Tri.block ?_)
  refine (Tri.loop (ι := Nat) (fun i => ⟨34, 0, 40, [(1, .int .i64 pol), (5, .list pT ((L.take i).foldl (stepE pol) [])), (15, .list pT L), (16, .int .i64 L.length), (17, .int .i64 (i : Int))], [], []⟩) (fun i => i ≤ L.length) (fun i => L.length - i) (0) ?_ ?_ ?_)
  · exact Nat.zero_le _
  · exact Le.trans (Le.own 5 pT rfl) (Le.trans (Le.freeze 5 _ _ rfl rfl (Nat.le_refl _)) (Le.weak rfl rfl rfl rfl ⟨(by first | rfl | exact iv1 (by (try simp only [decide_eq_true_eq, decide_eq_false_iff_not, toNat_cast] at *); omega)), (by first | rfl | exact iv1 (by (try simp only [decide_eq_true_eq, decide_eq_false_iff_not, toNat_cast] at *); omega)), congrArg (AV.list pT) e64, congrArg (fun z : List Pc => AV.int .i64 (z.length : Int)) e64, (by first | rfl | exact iv1 (by (try simp only [decide_eq_true_eq, decide_eq_false_iff_not, toNat_cast] at *); omega)), trivial⟩ trivial))
  · intro i hi
    refine Tri.seq (Tri.reg hT ?_)
    refine Tri.seq (Tri.cond ⟨fun h1 => ?_, fun h1 => ?_⟩)
    · refine (Tri.skip ?_)
      refine Tri.seq (Tri.block ?_)
      refine Tri.seq (Tri.reg hT ?_)
      refine ⟨by have := of_decide_eq_true h1; omega, ?_⟩
      have hi' := i_lt h1; have hb := foldE_ok pol (L.take i) [] bufOk_nil (fun p hp => by have := hll p (List.mem_of_mem_take hp); omega); have hp := hll _ (getD_mem (d := (Ty.dflt pT : Pc)) hi'); have en := foldE_next pol hi'
      refine Tri.seq (Tri.reg hT ?_)
      refine .inl (.inl ⟨_, fun _ => rfl, f21_spec ((L.take i).foldl (stepE pol) []) (L.getD i (Ty.dflt pT)) pol (by have := hb.len; omega) hb.v (by omega), ?_⟩)
      refine Tri.seq (Tri.reg hT ?_)
      refine (Tri.cond ⟨fun h2 => ?_, fun h2 => ?_⟩)
      · refine (Tri.reg hT ?_)
        refine (Tri.reg hT ?_)
        rw [stepE, if_pos (of_decide_eq_true h2)] at en
        exact ⟨i + 1, hi', (by omega), Le.weak rfl rfl rfl rfl ⟨(by first | rfl | exact iv1 (by (try simp only [decide_eq_true_eq, decide_eq_false_iff_not, toNat_cast] at *); omega)), congrArg (AV.list pT) en.symm, (by first | rfl | exact iv1 (by (try simp only [decide_eq_true_eq, decide_eq_false_iff_not, toNat_cast] at *); omega)), (by first | rfl | exact iv1 (by (try simp only [decide_eq_true_eq, decide_eq_false_iff_not, toNat_cast] at *); omega)), (by first | rfl | exact iv1 (by (try simp only [decide_eq_true_eq, decide_eq_false_iff_not, toNat_cast] at *); omega)), trivial⟩ trivial⟩
      · refine (Tri.skip ?_)
        refine (Tri.reg hT ?_)
        rw [stepE, if_neg (of_decide_eq_false h2)] at en
        exact ⟨i + 1, hi', (by omega), Le.weak rfl rfl rfl rfl ⟨(by first | rfl | exact iv1 (by (try simp only [decide_eq_true_eq, decide_eq_false_iff_not, toNat_cast] at *); omega)), congrArg (AV.list pT) en.symm, (by first | rfl | exact iv1 (by (try simp only [decide_eq_true_eq, decide_eq_false_iff_not, toNat_cast] at *); omega)), (by first | rfl | exact iv1 (by (try simp only [decide_eq_true_eq, decide_eq_false_iff_not, toNat_cast] at *); omega)), (by first | rfl | exact iv1 (by (try simp only [decide_eq_true_eq, decide_eq_false_iff_not, toNat_cast] at *); omega)), trivial⟩ trivial⟩
    · refine Tri.exit ?_
      refine Tri.seq (Tri.reg hT ?_)
      refine Tri.ret ?_
      have h9 := of_decide_eq_false h1; exact ⟨congrArg (AV.list pT) (by unfold bufE; rw [hL, List.take_of_length_le (by omega)]), trivial⟩
theorem f35_spec (l : List Pc) (pol : Int) (hl : ∀ p ∈ l, ((pd p).length : Int) ≤ 1073741824) (hn : l.length ≤ 140737488351232) : PSpec P [] 35 [.list pT l, .int .i64 pol] (.str (varE l pol)) := by
  have hb := bufE_ok l pol (fun p hp => by have := hl p hp; omega)
  have hls := lenSum_le hb.v
  refine pspec_intro hT Try.func35 (by decide) rfl rfl (by kernel_rfl) rfl ?_
  refine Tri.seq (Tri.reg hT ?_)
  refine Tri.seq ?_
  refine Tri.seq (Tri.reg hT ?_)
  refine ⟨_, [], trivial, rfl, rfl, fun h => ⟨rfl, rfl, rfl⟩, ?_⟩
  refine ⟨_, [], trivial, rfl, rfl, fun h => ⟨h, rfl, rfl, rfl⟩, ?_⟩
  refine ⟨⟨fun _ => trivial, fun hc => (gn hc)⟩, ?_⟩
  refine (Tri.cond ⟨fun h1 => ?_, fun h1 => ?_⟩)
  · refine Tri.seq (Tri.reg hT ?_)
    refine Tri.ret ?_
    exact ⟨congrArg AV.str (if_pos (by simpa using h1)).symm, trivial⟩
  · refine (Tri.skip ?_)
    refine Tri.seq (Tri.reg hT ?_)
    refine .inl (.inl ⟨_, fun _ => rfl, f63_spec l pol hl hn, ?_⟩)
    refine .inl (.inl ⟨_, fun _ => rfl, f22_spec (bufE l pol) 0 (by have := hb.len; omega) (valid_inB hb.v) (by omega), ?_⟩)
    refine Tri.seq (Tri.reg hT ?_)
    refine Tri.ret ?_
    exact ⟨congrArg AV.str (if_neg (by simpa using h1)).symm, trivial⟩
end Go.Proofs.Ytopnempdeopjfaa.Fx
