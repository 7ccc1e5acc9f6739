import Derived.Test.YtopnempdeopjfaaGEv2
import Derived.Test.YtopnempdeopjfaaGOv2
set_option linter.all false
/- Chapter 24, plain: the groups of equal variants, case by case (printed by genK.py). -/
namespace Go.Ov
def kB (d : Nat → Nat → Bool) : List (List Int) := ((List.range 4).filter fun i => (List.range i).all fun k => !d k i).map fun i => ((List.range 4).filter fun k => decide (i ≤ k) && d k i).map fun k => ((k + 1 : Nat) : Int)
theorem kB_congr {d d' : Nat → Nat → Bool} (h : ∀ k i, k < 4 → i < 4 → d k i = d' k i) : kB d = kB d' := by
  have e1 : ((List.range 4).filter fun i => (List.range i).all fun k => !d k i) = ((List.range 4).filter fun i => (List.range i).all fun k => !d' k i) := by
    refine List.filter_congr fun i hi => ?_
    have hi := List.mem_range.1 hi
    have : ∀ n, n ≤ i → ((List.range n).all fun k => !d k i) = ((List.range n).all fun k => !d' k i) := fun n => by
      induction n with
      | zero => intro _; rfl
      | succ n ih =>
        intro hn
        rw [List.range_succ, List.all_append, List.all_append, ih (by omega)]
        simp [h n i (by omega) hi]
    exact this i (Nat.le_refl _)
  unfold kB
  rw [e1]
  refine List.map_congr_left fun i hi => ?_
  have hi := List.mem_range.1 (List.mem_filter.1 hi).1
  refine congrArg _ (List.filter_congr fun k hk => ?_)
  rw [h k i (List.mem_range.1 hk) hi]
theorem kinds_b (v : V4) : kindsM v = kB fun k i => decide (vAt v k = vAt v i) := rfl
theorem kinds_1234 {s0 s1 s2 s3 : List UInt8} (h01 : s0 = s1) (h02 : s0 = s2) (h03 : s0 = s3) : kindsM (s0, s1, s2, s3) = [[1, 2, 3, 4]] := by
  subst h01
  subst h02
  subst h03
  rw [kinds_b, kB_congr (d' := fun k i => decide (([0, 0, 0, 0] : List Nat).getD k 9 = ([0, 0, 0, 0] : List Nat).getD i 9))]
  · rfl
  intro k i hk hi
  obtain rfl | rfl | rfl | rfl : k = 0 ∨ k = 1 ∨ k = 2 ∨ k = 3 := by omega
  all_goals obtain rfl | rfl | rfl | rfl : i = 0 ∨ i = 1 ∨ i = 2 ∨ i = 3 := by omega
  all_goals simp [vAt]
theorem kinds_123_4 {s0 s1 s2 s3 : List UInt8} (h01 : s0 = s1) (h02 : s0 = s2) (h03 : ¬ s0 = s3) : kindsM (s0, s1, s2, s3) = [[1, 2, 3], [4]] := by
  subst h01
  subst h02
  have g03 : ¬ s3 = s0 := fun h => h03 (Eq.symm h)
  rw [kinds_b, kB_congr (d' := fun k i => decide (([0, 0, 0, 3] : List Nat).getD k 9 = ([0, 0, 0, 3] : List Nat).getD i 9))]
  · rfl
  intro k i hk hi
  obtain rfl | rfl | rfl | rfl : k = 0 ∨ k = 1 ∨ k = 2 ∨ k = 3 := by omega
  all_goals obtain rfl | rfl | rfl | rfl : i = 0 ∨ i = 1 ∨ i = 2 ∨ i = 3 := by omega
  all_goals simp [vAt, h03, g03]
theorem kinds_124_3 {s0 s1 s2 s3 : List UInt8} (h01 : s0 = s1) (h02 : ¬ s0 = s2) (h03 : s0 = s3) : kindsM (s0, s1, s2, s3) = [[1, 2, 4], [3]] := by
  subst h01
  subst h03
  have g02 : ¬ s2 = s0 := fun h => h02 (Eq.symm h)
  rw [kinds_b, kB_congr (d' := fun k i => decide (([0, 0, 2, 0] : List Nat).getD k 9 = ([0, 0, 2, 0] : List Nat).getD i 9))]
  · rfl
  intro k i hk hi
  obtain rfl | rfl | rfl | rfl : k = 0 ∨ k = 1 ∨ k = 2 ∨ k = 3 := by omega
  all_goals obtain rfl | rfl | rfl | rfl : i = 0 ∨ i = 1 ∨ i = 2 ∨ i = 3 := by omega
  all_goals simp [vAt, h02, g02]
theorem kinds_12_34 {s0 s1 s2 s3 : List UInt8} (h01 : s0 = s1) (h02 : ¬ s0 = s2) (h03 : ¬ s0 = s3) (h23 : s2 = s3) : kindsM (s0, s1, s2, s3) = [[1, 2], [3, 4]] := by
  subst h01
  subst h23
  have g02 : ¬ s2 = s0 := fun h => h02 (Eq.symm h)
  have g03 : ¬ s2 = s0 := fun h => h03 (Eq.symm h)
  rw [kinds_b, kB_congr (d' := fun k i => decide (([0, 0, 2, 2] : List Nat).getD k 9 = ([0, 0, 2, 2] : List Nat).getD i 9))]
  · rfl
  intro k i hk hi
  obtain rfl | rfl | rfl | rfl : k = 0 ∨ k = 1 ∨ k = 2 ∨ k = 3 := by omega
  all_goals obtain rfl | rfl | rfl | rfl : i = 0 ∨ i = 1 ∨ i = 2 ∨ i = 3 := by omega
  all_goals simp [vAt, h02, h03, g02, g03]
theorem kinds_12_3_4 {s0 s1 s2 s3 : List UInt8} (h01 : s0 = s1) (h02 : ¬ s0 = s2) (h03 : ¬ s0 = s3) (h23 : ¬ s2 = s3) : kindsM (s0, s1, s2, s3) = [[1, 2], [3], [4]] := by
  subst h01
  have g02 : ¬ s2 = s0 := fun h => h02 (Eq.symm h)
  have g03 : ¬ s3 = s0 := fun h => h03 (Eq.symm h)
  have g23 : ¬ s3 = s2 := fun h => h23 (Eq.symm h)
  rw [kinds_b, kB_congr (d' := fun k i => decide (([0, 0, 2, 3] : List Nat).getD k 9 = ([0, 0, 2, 3] : List Nat).getD i 9))]
  · rfl
  intro k i hk hi
  obtain rfl | rfl | rfl | rfl : k = 0 ∨ k = 1 ∨ k = 2 ∨ k = 3 := by omega
  all_goals obtain rfl | rfl | rfl | rfl : i = 0 ∨ i = 1 ∨ i = 2 ∨ i = 3 := by omega
  all_goals simp [vAt, h02, h03, h23, g02, g03, g23]
theorem kinds_134_2 {s0 s1 s2 s3 : List UInt8} (h01 : ¬ s0 = s1) (h02 : s0 = s2) (h03 : s0 = s3) : kindsM (s0, s1, s2, s3) = [[1, 3, 4], [2]] := by
  subst h02
  subst h03
  have g01 : ¬ s1 = s0 := fun h => h01 (Eq.symm h)
  rw [kinds_b, kB_congr (d' := fun k i => decide (([0, 1, 0, 0] : List Nat).getD k 9 = ([0, 1, 0, 0] : List Nat).getD i 9))]
  · rfl
  intro k i hk hi
  obtain rfl | rfl | rfl | rfl : k = 0 ∨ k = 1 ∨ k = 2 ∨ k = 3 := by omega
  all_goals obtain rfl | rfl | rfl | rfl : i = 0 ∨ i = 1 ∨ i = 2 ∨ i = 3 := by omega
  all_goals simp [vAt, h01, g01]
theorem kinds_13_24 {s0 s1 s2 s3 : List UInt8} (h01 : ¬ s0 = s1) (h02 : s0 = s2) (h03 : ¬ s0 = s3) (h13 : s1 = s3) : kindsM (s0, s1, s2, s3) = [[1, 3], [2, 4]] := by
  subst h02
  subst h13
  have g01 : ¬ s1 = s0 := fun h => h01 (Eq.symm h)
  have g03 : ¬ s1 = s0 := fun h => h03 (Eq.symm h)
  rw [kinds_b, kB_congr (d' := fun k i => decide (([0, 1, 0, 1] : List Nat).getD k 9 = ([0, 1, 0, 1] : List Nat).getD i 9))]
  · rfl
  intro k i hk hi
  obtain rfl | rfl | rfl | rfl : k = 0 ∨ k = 1 ∨ k = 2 ∨ k = 3 := by omega
  all_goals obtain rfl | rfl | rfl | rfl : i = 0 ∨ i = 1 ∨ i = 2 ∨ i = 3 := by omega
  all_goals simp [vAt, h01, h03, g01, g03]
theorem kinds_13_2_4 {s0 s1 s2 s3 : List UInt8} (h01 : ¬ s0 = s1) (h02 : s0 = s2) (h03 : ¬ s0 = s3) (h13 : ¬ s1 = s3) : kindsM (s0, s1, s2, s3) = [[1, 3], [2], [4]] := by
  subst h02
  have g01 : ¬ s1 = s0 := fun h => h01 (Eq.symm h)
  have g03 : ¬ s3 = s0 := fun h => h03 (Eq.symm h)
  have g13 : ¬ s3 = s1 := fun h => h13 (Eq.symm h)
  rw [kinds_b, kB_congr (d' := fun k i => decide (([0, 1, 0, 3] : List Nat).getD k 9 = ([0, 1, 0, 3] : List Nat).getD i 9))]
  · rfl
  intro k i hk hi
  obtain rfl | rfl | rfl | rfl : k = 0 ∨ k = 1 ∨ k = 2 ∨ k = 3 := by omega
  all_goals obtain rfl | rfl | rfl | rfl : i = 0 ∨ i = 1 ∨ i = 2 ∨ i = 3 := by omega
  all_goals simp [vAt, h01, h03, h13, g01, g03, g13]
theorem kinds_14_23 {s0 s1 s2 s3 : List UInt8} (h01 : ¬ s0 = s1) (h02 : ¬ s0 = s2) (h12 : s1 = s2) (h03 : s0 = s3) : kindsM (s0, s1, s2, s3) = [[1, 4], [2, 3]] := by
  subst h12
  subst h03
  have g01 : ¬ s1 = s0 := fun h => h01 (Eq.symm h)
  have g02 : ¬ s1 = s0 := fun h => h02 (Eq.symm h)
  rw [kinds_b, kB_congr (d' := fun k i => decide (([0, 1, 1, 0] : List Nat).getD k 9 = ([0, 1, 1, 0] : List Nat).getD i 9))]
  · rfl
  intro k i hk hi
  obtain rfl | rfl | rfl | rfl : k = 0 ∨ k = 1 ∨ k = 2 ∨ k = 3 := by omega
  all_goals obtain rfl | rfl | rfl | rfl : i = 0 ∨ i = 1 ∨ i = 2 ∨ i = 3 := by omega
  all_goals simp [vAt, h01, h02, g01, g02]
theorem kinds_1_234 {s0 s1 s2 s3 : List UInt8} (h01 : ¬ s0 = s1) (h02 : ¬ s0 = s2) (h12 : s1 = s2) (h03 : ¬ s0 = s3) (h13 : s1 = s3) : kindsM (s0, s1, s2, s3) = [[1], [2, 3, 4]] := by
  subst h12
  subst h13
  have g01 : ¬ s1 = s0 := fun h => h01 (Eq.symm h)
  have g02 : ¬ s1 = s0 := fun h => h02 (Eq.symm h)
  have g03 : ¬ s1 = s0 := fun h => h03 (Eq.symm h)
  rw [kinds_b, kB_congr (d' := fun k i => decide (([0, 1, 1, 1] : List Nat).getD k 9 = ([0, 1, 1, 1] : List Nat).getD i 9))]
  · rfl
  intro k i hk hi
  obtain rfl | rfl | rfl | rfl : k = 0 ∨ k = 1 ∨ k = 2 ∨ k = 3 := by omega
  all_goals obtain rfl | rfl | rfl | rfl : i = 0 ∨ i = 1 ∨ i = 2 ∨ i = 3 := by omega
  all_goals simp [vAt, h01, h02, h03, g01, g02, g03]
theorem kinds_1_23_4 {s0 s1 s2 s3 : List UInt8} (h01 : ¬ s0 = s1) (h02 : ¬ s0 = s2) (h12 : s1 = s2) (h03 : ¬ s0 = s3) (h13 : ¬ s1 = s3) : kindsM (s0, s1, s2, s3) = [[1], [2, 3], [4]] := by
  subst h12
  have g01 : ¬ s1 = s0 := fun h => h01 (Eq.symm h)
  have g02 : ¬ s1 = s0 := fun h => h02 (Eq.symm h)
  have g03 : ¬ s3 = s0 := fun h => h03 (Eq.symm h)
  have g13 : ¬ s3 = s1 := fun h => h13 (Eq.symm h)
  rw [kinds_b, kB_congr (d' := fun k i => decide (([0, 1, 1, 3] : List Nat).getD k 9 = ([0, 1, 1, 3] : List Nat).getD i 9))]
  · rfl
  intro k i hk hi
  obtain rfl | rfl | rfl | rfl : k = 0 ∨ k = 1 ∨ k = 2 ∨ k = 3 := by omega
  all_goals obtain rfl | rfl | rfl | rfl : i = 0 ∨ i = 1 ∨ i = 2 ∨ i = 3 := by omega
  all_goals simp [vAt, h01, h02, h03, h13, g01, g02, g03, g13]
theorem kinds_14_2_3 {s0 s1 s2 s3 : List UInt8} (h01 : ¬ s0 = s1) (h02 : ¬ s0 = s2) (h12 : ¬ s1 = s2) (h03 : s0 = s3) : kindsM (s0, s1, s2, s3) = [[1, 4], [2], [3]] := by
  subst h03
  have g01 : ¬ s1 = s0 := fun h => h01 (Eq.symm h)
  have g02 : ¬ s2 = s0 := fun h => h02 (Eq.symm h)
  have g12 : ¬ s2 = s1 := fun h => h12 (Eq.symm h)
  rw [kinds_b, kB_congr (d' := fun k i => decide (([0, 1, 2, 0] : List Nat).getD k 9 = ([0, 1, 2, 0] : List Nat).getD i 9))]
  · rfl
  intro k i hk hi
  obtain rfl | rfl | rfl | rfl : k = 0 ∨ k = 1 ∨ k = 2 ∨ k = 3 := by omega
  all_goals obtain rfl | rfl | rfl | rfl : i = 0 ∨ i = 1 ∨ i = 2 ∨ i = 3 := by omega
  all_goals simp [vAt, h01, h02, h12, g01, g02, g12]
theorem kinds_1_24_3 {s0 s1 s2 s3 : List UInt8} (h01 : ¬ s0 = s1) (h02 : ¬ s0 = s2) (h12 : ¬ s1 = s2) (h03 : ¬ s0 = s3) (h13 : s1 = s3) : kindsM (s0, s1, s2, s3) = [[1], [2, 4], [3]] := by
  subst h13
  have g01 : ¬ s1 = s0 := fun h => h01 (Eq.symm h)
  have g02 : ¬ s2 = s0 := fun h => h02 (Eq.symm h)
  have g12 : ¬ s2 = s1 := fun h => h12 (Eq.symm h)
  have g03 : ¬ s1 = s0 := fun h => h03 (Eq.symm h)
  rw [kinds_b, kB_congr (d' := fun k i => decide (([0, 1, 2, 1] : List Nat).getD k 9 = ([0, 1, 2, 1] : List Nat).getD i 9))]
  · rfl
  intro k i hk hi
  obtain rfl | rfl | rfl | rfl : k = 0 ∨ k = 1 ∨ k = 2 ∨ k = 3 := by omega
  all_goals obtain rfl | rfl | rfl | rfl : i = 0 ∨ i = 1 ∨ i = 2 ∨ i = 3 := by omega
  all_goals simp [vAt, h01, h02, h12, h03, g01, g02, g12, g03]
theorem kinds_1_2_34 {s0 s1 s2 s3 : List UInt8} (h01 : ¬ s0 = s1) (h02 : ¬ s0 = s2) (h12 : ¬ s1 = s2) (h03 : ¬ s0 = s3) (h13 : ¬ s1 = s3) (h23 : s2 = s3) : kindsM (s0, s1, s2, s3) = [[1], [2], [3, 4]] := by
  subst h23
  have g01 : ¬ s1 = s0 := fun h => h01 (Eq.symm h)
  have g02 : ¬ s2 = s0 := fun h => h02 (Eq.symm h)
  have g12 : ¬ s2 = s1 := fun h => h12 (Eq.symm h)
  have g03 : ¬ s2 = s0 := fun h => h03 (Eq.symm h)
  have g13 : ¬ s2 = s1 := fun h => h13 (Eq.symm h)
  rw [kinds_b, kB_congr (d' := fun k i => decide (([0, 1, 2, 2] : List Nat).getD k 9 = ([0, 1, 2, 2] : List Nat).getD i 9))]
  · rfl
  intro k i hk hi
  obtain rfl | rfl | rfl | rfl : k = 0 ∨ k = 1 ∨ k = 2 ∨ k = 3 := by omega
  all_goals obtain rfl | rfl | rfl | rfl : i = 0 ∨ i = 1 ∨ i = 2 ∨ i = 3 := by omega
  all_goals simp [vAt, h01, h02, h12, h03, h13, g01, g02, g12, g03, g13]
theorem kinds_1_2_3_4 {s0 s1 s2 s3 : List UInt8} (h01 : ¬ s0 = s1) (h02 : ¬ s0 = s2) (h12 : ¬ s1 = s2) (h03 : ¬ s0 = s3) (h13 : ¬ s1 = s3) (h23 : ¬ s2 = s3) : kindsM (s0, s1, s2, s3) = [[1], [2], [3], [4]] := by
  have g01 : ¬ s1 = s0 := fun h => h01 (Eq.symm h)
  have g02 : ¬ s2 = s0 := fun h => h02 (Eq.symm h)
  have g12 : ¬ s2 = s1 := fun h => h12 (Eq.symm h)
  have g03 : ¬ s3 = s0 := fun h => h03 (Eq.symm h)
  have g13 : ¬ s3 = s1 := fun h => h13 (Eq.symm h)
  have g23 : ¬ s3 = s2 := fun h => h23 (Eq.symm h)
  rw [kinds_b, kB_congr (d' := fun k i => decide (([0, 1, 2, 3] : List Nat).getD k 9 = ([0, 1, 2, 3] : List Nat).getD i 9))]
  · rfl
  intro k i hk hi
  obtain rfl | rfl | rfl | rfl : k = 0 ∨ k = 1 ∨ k = 2 ∨ k = 3 := by omega
  all_goals obtain rfl | rfl | rfl | rfl : i = 0 ∨ i = 1 ∨ i = 2 ∨ i = 3 := by omega
  all_goals simp [vAt, h01, h02, h12, h03, h13, h23, g01, g02, g12, g03, g13, g23]
end Go.Ov

/- Chapter 24, plain: the example of the document; bounds. -/
namespace Go.Ov
theorem varE_len (l : List Pc) (hl : ∀ p ∈ l, ((pd p).length : Int) ≤ 1073741824) (k : Int) : (varE l k).length ≤ 4294967296 := by
  unfold varE
  split
  · simp
  · have h1 := takeF_len (l := bufE l k) 0
    have h2 := lenSum_le (bufE_ok l k (fun p hp => by have := hl p hp; omega)).v
    omega
theorem few_pd {l : List Pc} (h : lenSum l ≤ 400) : ∀ p ∈ l, ((pd p).length : Int) ≤ 1073741824 := fun p hp => by
  obtain ⟨i, hi, rfl⟩ := Fw.mem_getD (Fw.Ty.dflt pT : Pc) hp
  have := lenSum_ge l i hi
  omega
def lx : List Pc := [(0, [97, 98], 0, 0, ()), (0, [120, 121, 122], 0, 0, ())]
def fx : List Pc := [(0, [120, 121, 122], 0, 3, ())]
theorem lx_v1 : varE lx 1 = [97, 98, 122] := by kernel_rfl
theorem lx_v2 : varE lx 2 = [120, 121, 122] := by kernel_rfl
theorem lx_v3 : varE lx 3 = [97, 98, 122] := by kernel_rfl
theorem lx_v4 : varE lx 4 = [120, 121, 122] := by kernel_rfl
theorem lx_f : foldV lx 4 = fx := by kernel_rfl
theorem fx_v (k : Int) (h : k = 1 ∨ k = 2 ∨ k = 3 ∨ k = 4) : varE fx k = [120, 121, 122] := by
  rcases h with rfl | rfl | rfl | rfl
  · kernel_rfl
  · kernel_rfl
  · kernel_rfl
  · kernel_rfl
theorem lx_4 : v4 lx = ([97, 98, 122], [120, 121, 122], [97, 98, 122], [120, 121, 122]) := by unfold v4; rw [lx_v1, lx_v2, lx_v3, lx_v4]
theorem fx_4 : v4 fx = ([120, 121, 122], [120, 121, 122], [120, 121, 122], [120, 121, 122]) := by unfold v4; rw [fx_v 1 (by decide), fx_v 2 (by decide), fx_v 3 (by decide), fx_v 4 (by decide)]
theorem lx_amb : (!decide (AllEq (v4 lx))) = true := by rw [lx_4]; decide
theorem lx_where : whereM (v4 lx) = 0 := by
  rw [lx_4]
  exact whereM_eq (.inr ⟨0, rfl, fun a h => absurd h (Nat.not_lt_zero a), fun h => absurd h.1 (by decide)⟩)
theorem lx_kinds : kindsM (v4 lx) = [[1, 3], [2, 4]] := by
  rw [lx_4]
  exact kinds_13_24 (by decide) rfl (by decide) rfl
theorem fx_where : whereM (v4 fx) = -1 := by
  rw [fx_4]
  exact where_neg.2 ⟨rfl, rfl, rfl⟩
theorem foldV_len (l : List Pc) (pol : Int) (hl : ∀ p ∈ l, ((pd p).length : Int) ≤ 1073741824) : (foldV l pol).length ≤ 1000 := by
  unfold foldV
  split
  · simp
  · have h1 := foldZ_len (bufE l pol) (bufE l pol).length
    have h2 := (bufE_ok l pol (fun p hp => by have := hl p hp; omega)).len
    simp only [foldF, List.length_map]
    omega
theorem kindsM_len (v : V4) : (kindsM v).length ≤ 1099511627776 ∧ ∀ x ∈ kindsM v, x.length ≤ 1099511627776 := by
  refine ⟨?_, fun x hx => ?_⟩
  · have := kinP_len v 4
    exact Nat.le_trans this (by decide)
  · obtain ⟨i, _, rfl⟩ := List.mem_map.1 hx
    exact Nat.le_trans (grpP_len v i 4) (by decide)
end Go.Ov

