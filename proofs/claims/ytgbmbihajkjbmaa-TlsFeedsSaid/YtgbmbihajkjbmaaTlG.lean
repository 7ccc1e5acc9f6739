import Derived.Test.YtgbmbihajkjbmaaTlA
import Derived.Test.YtgbmbihajkjbmaaSh
import Derived.Test.YtgbmbihajkjbmaaGTl1
set_option linter.all false
/- Contracts of chapter 32: what is built. -/
namespace Go.Proofs.Ytgbmbihajkjbmaa.Fx
open Go Go.Fw Go.Ov Go.Tl Go.Shelf
theorem f43_spec (k : Nat) (h : 1 ≤ k ∧ k ≤ 7) : PSpec P [] 43 [.int .i64 (k : Int)] (.bool true) := by
  refine pspec_intro hT Try.func43 (by decide) rfl rfl (by kernel_rfl) rfl ?_
  refine Tri.seq (Tri.reg hT ?_)
  refine Tri.seq (Tri.reg hT ?_)
  refine ⟨_, [], trivial, rfl, rfl, fun h => ⟨rfl, rfl, rfl⟩, ?_⟩
  refine ⟨_, [], trivial, rfl, rfl, fun h => ⟨h, rfl, rfl, rfl⟩, ?_⟩
  refine ⟨⟨fun hc => hc, fun _ => trivial⟩, ?_⟩
  refine Tri.ret ?_
  exact ⟨congrArg AV.bool (by rw [ifb, decide_eq_true (by omega), decide_eq_true (by omega)]; rfl), trivial⟩
set_option maxRecDepth 8000 in
theorem f28_spec (n k : Nat) (hk : 1 ≤ k ∧ k ≤ 7) (hn : n ≤ 4611686018427387904) : PSpec P [] 28 [.int .i64 (n : Int), .int .i64 (k : Int)] (.str (putM n k)) := by
  refine pspec_intro hT Try.func28 (by decide) rfl rfl (by kernel_rfl) rfl ?_
  refine Tri.seq (Tri.reg hT ?_)
  refine Tri.seq ?_
  refine Tri.seq (Tri.reg hT ?_)
  refine .inl (.inl ⟨_, fun _ => rfl, f43_spec k hk, ?_⟩)
  refine ⟨_, [], trivial, rfl, rfl, fun h => ⟨rfl, rfl, rfl⟩, ?_⟩
  refine ⟨_, [], trivial, rfl, rfl, fun h => ⟨h, rfl, rfl, rfl⟩, ?_⟩
  refine ⟨⟨fun _ => trivial, fun hc => (gn hc)⟩, ?_⟩
  refine ⟨_, [], trivial, rfl, rfl, fun h => ⟨rfl, rfl, rfl⟩, ?_⟩
  refine ⟨_, [], trivial, rfl, rfl, fun h => ⟨rfl, rfl, rfl⟩, ?_⟩
  refine ⟨_, [], trivial, rfl, rfl, fun h => ⟨h, rfl, rfl, rfl⟩, ?_⟩
  refine ⟨_, [], trivial, rfl, rfl, fun h => ⟨h, h, by rw [wrapId (by omega)]; omega, rfl, rfl, rfl⟩, ?_⟩
  refine ⟨_, [], trivial, rfl, rfl, fun h => ⟨h, rfl, rfl, rfl⟩, ?_⟩
  refine ⟨⟨fun _ => trivial, fun hc => (gn hc)⟩, ?_⟩
  refine (Tri.cond ⟨fun h1 => ?_, fun h1 => ?_⟩)
  · have q : ¬ n < 256 ^ k := (by rw [ifo, ifo, Bool.or_eq_true, Bool.or_eq_true] at h1; rcases h1 with (h1 | h1) | h1; cases h1; exact absurd (of_decide_eq_true h1) (by omega); rw [shr_nat hk.2] at h1; exact (putM_ok n k).1 h1); have eM : putM n k = [] := if_neg q; rw [eM]
    refine Tri.seq (Tri.reg hT ?_)
    refine Tri.ret ?_
    exact ⟨rfl, trivial⟩
  · refine (Tri.skip ?_)
    have q : n < 256 ^ k := Classical.byContradiction (fun q => by have := (putM_ok n k).2 q; rw [ifo, ifo, shr_nat hk.2, this, Bool.or_true] at h1; cases h1); have eM : putM n k = putB n k := if_pos q; rw [eM]
    refine Tri.seq (Tri.reg hT ?_)
    refine ⟨(by first | ((try simp only [decide_eq_true_eq, decide_eq_false_iff_not, toNat_cast] at *); omega) | decide), ?_⟩
    refine Tri.seq ?_
    refine Tri.seq (Tri.reg hT ?_)
    refine (Tri.block ?_)
    refine (Tri.loop (ι := Nat) (fun i => ⟨41, 0, 60, [(0, .int .i64 (n : Int)), (1, .int .i64 (k : Int)), (5, .own 16 k), (23, .int .i64 (k : Int)), (24, .int .i64 (i : Int))], [(16, .arr (.int .u8) (putP n k i))], []⟩) (fun i => i ≤ k) (fun i => k - i) (0) ?_ ?_ ?_)
    · exact Nat.zero_le _
    · exact Le.weak rfl rfl rfl rfl ⟨(by first | rfl | exact iv1 (by (try simp only [decide_eq_true_eq, decide_eq_false_iff_not, toNat_cast] at *); omega)), (by first | rfl | exact iv1 (by (try simp only [decide_eq_true_eq, decide_eq_false_iff_not, toNat_cast] at *); omega)), (by first | rfl | exact iv1 (by (try simp only [decide_eq_true_eq, decide_eq_false_iff_not, toNat_cast] at *); omega)), (by first | rfl | exact iv1 (by (try simp only [decide_eq_true_eq, decide_eq_false_iff_not, toNat_cast] at *); omega)), (by first | rfl | exact iv1 (by (try simp only [decide_eq_true_eq, decide_eq_false_iff_not, toNat_cast] at *); omega)), trivial⟩ ⟨congrArg (fun l => some (Chunk.arr (.int .u8) l)) (putP_zero n k).symm, trivial⟩
    · intro i hi
      refine Tri.seq (Tri.reg hT ?_)
      refine Tri.seq (Tri.cond ⟨fun h2 => ?_, fun h2 => ?_⟩)
      · refine (Tri.skip ?_)
        refine Tri.seq (Tri.block ?_)
        refine Tri.seq (Tri.reg hT ?_)
        have hlt : i < k := (by have := of_decide_eq_true h2; omega); have w1 : IntKind.i64.wrap (IntKind.i64.wrap ((k : Int) - 1) - (i : Int)) = ((k - 1 - i : Nat) : Int) := (by rw [show IntKind.i64.wrap ((k : Int) - 1) = (k : Int) - 1 from wrapId (by omega), wrapId (by omega)]; omega); have w2 : IntKind.i64.wrap ((i : Int) + 1) = ((i + 1 : Nat) : Int) := (by rw [wrapId (by omega)]; omega)
        refine (Tri.reg hT ?_)
        refine ⟨by rw [wrapId (by omega)]; omega, ?_⟩
        refine ⟨by rw [w1]; omega, ?_⟩
        refine ⟨(by rw [w1, toNat_cast, putP_len]; omega), _, rfl, ?_⟩
        refine (Tri.reg hT ?_)
        exact ⟨i + 1, hlt, (by omega), Le.weak rfl rfl rfl rfl ⟨(by first | rfl | exact iv1 (by (try simp only [decide_eq_true_eq, decide_eq_false_iff_not, toNat_cast] at *); omega)), (by first | rfl | exact iv1 (by (try simp only [decide_eq_true_eq, decide_eq_false_iff_not, toNat_cast] at *); omega)), (by first | rfl | exact iv1 (by (try simp only [decide_eq_true_eq, decide_eq_false_iff_not, toNat_cast] at *); omega)), (by first | rfl | exact iv1 (by (try simp only [decide_eq_true_eq, decide_eq_false_iff_not, toNat_cast] at *); omega)), congrArg (AV.int .i64) w2, trivial⟩ ⟨congrArg (fun l => some (Chunk.arr (.int .u8) l)) (by rw [w1, toNat_cast, shr_nat (by omega), wrap8]; exact putP_next hlt), trivial⟩⟩
      · refine Tri.exit ?_
        refine Tri.seq (Tri.reg hT ?_)
        refine ⟨by rw [putP_len]; exact Nat.le_refl _, ?_⟩
        refine Tri.ret ?_
        have hN : i = k := (by have := of_decide_eq_false h2; omega); exact ⟨congrArg AV.str (by show List.map Fw.byteOf ((putP n k i).take k) = _; rw [hN, List.take_of_length_le (by rw [putP_len]; exact Nat.le_refl _), putP_all]), trivial⟩
theorem bx105 : Go.Proofs.Builder.Extra Try.prog Try.lays105_ren := {
  sizeBuilder := by kernel_rfl
  liesBuilder := by kernel_rfl
  t5 := Try.underlying5
  a5 := Try.isAgg5
  z5 := Try.sizeOf5
  v5 := Try.zeroValue5
  infoByte := by kernel_rfl
  cellsByte := by kernel_rfl
  sizeByte := by kernel_rfl
  neB5 := by decide }
theorem f41_spec (c : Nat) (hc : c ≤ 140737488355328) : PSpec P [] 41 [.str [0], .int .i64 (c : Int)] (.str (List.replicate c 0)) :=
  PSpec.of_calls (entered_of Try.lays105.f105 (by kernel_rfl) rfl) fun φ R w vs hr hR => by
    simp only [RepVs, RepV] at hr
    obtain ⟨_, _, rfl, rfl, _, _, rfl, rfl, rfl⟩ := hr
    rcases (by omega : c = 0 ∨ c = 1 ∨ 2 ≤ c) with h | h | h
    · subst h
      refine (Go.Proofs.Any.strings_Repeat_zero Try.lays105 (bs [0]) w).mono ?_
      rintro e w' ⟨rfl, rfl⟩
      exact ⟨_, rfl, Go.RowKit.Below.refl _ _, by simp only [RepV]; rfl⟩
    · subst h
      refine (Go.Proofs.Any.strings_Repeat_one Try.lays105 (bs [0]) w).mono ?_
      rintro e w' ⟨rfl, rfl⟩
      exact ⟨_, rfl, Go.RowKit.Below.refl _ _, by simp only [RepV]; rfl⟩
    · refine (Go.Proofs.Any.strings_Repeat_main Try.lays105 bx105 (bs [0]) c w h (by omega) (by rw [show (bs [0]).size = 1 from rfl]; omega) (by decide)).mono ?_
      rintro e w' ⟨rfl, hb⟩
      exact ⟨_, rfl, hb, by simp only [RepV]; rw [show (bs [0]).data.toList = [0] from rfl, repZ_eq]; rfl⟩
set_option maxRecDepth 8000 in
theorem counted_at (s : List UInt8) (k : Nat) (ok : Bool) (hk : 1 ≤ k ∧ k ≤ 3) (hs : s.length ≤ 1099511627776) : HSpec P [] 33 [.str s, .int .i64 (k : Int), .loc 0 0] [(0, .box [.bool ok])] (.str (cntM s k ok).1) [(0, .box [.bool (cntM s k ok).2])] := by
  have w8 : IntKind.i64.wrap (8 * (k : Int)) = ((8 * k : Nat) : Int) := by rw [wrapId (by omega)]; omega
  have key : ∀ k : Nat, k < 4 → IntKind.i64.wrap (1 * 2 ^ min (((8 * k : Nat) : Int)).toNat IntKind.i64.bits) = ((256 ^ k : Nat) : Int) := by decide
  refine fspec_intro hT [(0, .box [.bool ok])] [(0, .box [.bool (cntM s k ok).2])] 1 1 Try.func33 (by decide) rfl rfl (by kernel_rfl) rfl rfl ?_
  refine Tri.seq (Tri.reg hT ?_)
  refine Tri.seq ?_
  refine Tri.seq (Tri.reg hT ?_)
  refine ⟨by rw [w8]; omega, ?_⟩
  refine (Tri.cond ⟨fun h1 => ?_, fun h1 => ?_⟩)
  · have q : s.length ≥ 256 ^ k := (by rw [w8, key k (by omega)] at h1; have := of_decide_eq_true h1; omega); have eM : cntM s k ok = ([], false) := if_pos q; rw [eM]
    refine Tri.seq (Tri.reg hT ?_)
    refine Tri.seq (Tri.reg hT ?_)
    refine Tri.ret ?_
    exact ⟨rfl, rfl, trivial⟩
  · refine (Tri.skip ?_)
    have q : ¬ s.length ≥ 256 ^ k := (by rw [w8, key k (by omega)] at h1; have := of_decide_eq_false h1; omega); have eM : cntM s k ok = (putM s.length k ++ s, ok) := if_neg q; rw [eM]; have hp := putM_len s.length k
    refine Tri.seq (Tri.reg hT ?_)
    refine .inl (.inl ⟨_, fun _ => rfl, f28_spec s.length k ⟨hk.1, by omega⟩ (by omega), ?_⟩)
    refine ⟨by omega, ?_⟩
    refine Tri.ret ?_
    exact ⟨rfl, rfl, trivial⟩
theorem f33_spec (s : List UInt8) (k : Nat) (ok : Bool) (hk : 1 ≤ k ∧ k ≤ 3) (hs : s.length ≤ 1099511627776) (i : Nat) : HSpec P [] 33 [.str s, .int .i64 (k : Int), .loc i 0] [(i, .box [.bool ok])] (.str (cntM s k ok).1) [(i, .box [.bool (cntM s k ok).2])] :=
  HSpec.at2 (counted_at s k ok hk hs) 0 1 i (i + 1) (by simp only [AV.renL, AV.ren, one_a]) (by simp only [renH, Chunk.ren, AV.renL, AV.ren, one_a]) (by simp only [AV.ren]) (by simp only [renH, Chunk.ren, AV.renL, AV.ren, one_a])
theorem cntM_len (s : List UInt8) (k : Nat) (ok : Bool) : (cntM s k ok).1.length ≤ k + s.length := by
  have := putM_len s.length k
  unfold cntM
  split
  · simp
  · rw [List.length_append]; omega
set_option maxRecDepth 8000 in
theorem ext0_at (kind : Nat) (s : List UInt8) (ok : Bool) (hk : kind ≤ 100000) (hs : s.length ≤ 1099511627776) : HSpec P [] 34 [.int .i64 (kind : Int), .str s, .loc 0 0] [(0, .box [.bool ok])] (.str (extB kind s ok).1) [(0, .box [.bool (extB kind s ok).2])] := by
  have hp := putM_len kind 2
  have hc := cntM_len s 2 ok
  refine fspec_intro hT [(0, .box [.bool ok])] [(0, .box [.bool (extB kind s ok).2])] 1 1 Try.func34 (by decide) rfl rfl (by kernel_rfl) rfl rfl ?_
  refine Tri.seq (Tri.reg hT ?_)
  refine Tri.seq (Tri.regM hT [4] ?_)
  refine .inl (.inl ⟨_, fun _ => rfl, f28_spec kind 2 (by decide) (by omega), ?_⟩)
  refine ⟨_, Le.refl _, .inl (.inr (OpTri.hcall 1 rfl rfl rfl (f33_spec s 2 ok (by decide) hs 0) trivial ⟨rfl, trivial⟩ rfl ?_))⟩
  refine ⟨by omega, ?_⟩
  refine Tri.ret ?_
  exact ⟨rfl, rfl, trivial⟩
theorem f34_spec (kind : Nat) (s : List UInt8) (ok : Bool) (hk : kind ≤ 100000) (hs : s.length ≤ 1099511627776) (i : Nat) : HSpec P [] 34 [.int .i64 (kind : Int), .str s, .loc i 0] [(i, .box [.bool ok])] (.str (extB kind s ok).1) [(i, .box [.bool (extB kind s ok).2])] :=
  HSpec.at2 (ext0_at kind s ok hk hs) 0 1 i (i + 1) (by simp only [AV.renL, AV.ren, one_a]) (by simp only [renH, Chunk.ren, AV.renL, AV.ren, one_a]) (by simp only [AV.ren]) (by simp only [renH, Chunk.ren, AV.renL, AV.ren, one_a])
theorem f35_spec (v : Nat) (hv : v ≤ 100000) : PSpec P [] 35 [.int .i64 (v : Int)] (.str (verB v)) := by
  have hp := putM_len v 2
  refine pspec_intro hT Try.func35 (by decide) rfl rfl (by kernel_rfl) rfl ?_
  refine Tri.seq (Tri.reg hT ?_)
  skip
  refine Tri.le (⟨9, 0, 5, [(0, .int .i64 (v : Int)), (2, .str [])], [], []⟩) (Le.weak rfl rfl rfl rfl ⟨(by first | rfl | exact iv1 (by (try simp only [decide_eq_true_eq, decide_eq_false_iff_not, toNat_cast] at *); omega)), (by first | rfl | exact iv1 (by (try simp only [decide_eq_true_eq, decide_eq_false_iff_not, toNat_cast] at *); omega)), trivial⟩ trivial) ?_
  refine Tri.seq ?_
  refine Tri.seq (Tri.reg hT ?_)
  refine (Tri.cond ⟨fun h1 => ?_, fun h1 => ?_⟩)
  · refine (Tri.reg hT ?_)
    skip
    refine Tri.le (⟨9, 0, 20, [(0, .int .i64 ((if v = 772 then 771 else v : Nat) : Int))], [], []⟩) (Le.weak rfl rfl rfl rfl ⟨congrArg (AV.int .i64) (by first | (rw [if_pos (by have := of_decide_eq_true h1; omega)]; rfl) | rw [if_neg (by have := of_decide_eq_false h1; omega)]), trivial⟩ trivial) ?_
    refine Tri.seq (Tri.reg hT ?_)
    refine .inl (.inl ⟨_, fun _ => rfl, f28_spec (if v = 772 then 771 else v) 2 (by decide) (by split <;> omega), ?_⟩)
    refine .inl (.inl ⟨_, fun _ => rfl, f41_spec 33 (by decide), ?_⟩)
    refine ⟨by have := putM_len (if v = 772 then 771 else v) 2; rw [List.length_replicate]; omega, ?_⟩
    refine Tri.ret ?_
    exact ⟨rfl, trivial⟩
  · refine (Tri.skip ?_)
    skip
    refine Tri.le (⟨9, 0, 20, [(0, .int .i64 ((if v = 772 then 771 else v : Nat) : Int))], [], []⟩) (Le.weak rfl rfl rfl rfl ⟨congrArg (AV.int .i64) (by first | (rw [if_pos (by have := of_decide_eq_true h1; omega)]; rfl) | rw [if_neg (by have := of_decide_eq_false h1; omega)]), trivial⟩ trivial) ?_
    refine Tri.seq (Tri.reg hT ?_)
    refine .inl (.inl ⟨_, fun _ => rfl, f28_spec (if v = 772 then 771 else v) 2 (by decide) (by split <;> omega), ?_⟩)
    refine .inl (.inl ⟨_, fun _ => rfl, f41_spec 33 (by decide), ?_⟩)
    refine ⟨by have := putM_len (if v = 772 then 771 else v) 2; rw [List.length_replicate]; omega, ?_⟩
    refine Tri.ret ?_
    exact ⟨rfl, trivial⟩
end Go.Proofs.Ytgbmbihajkjbmaa.Fx
