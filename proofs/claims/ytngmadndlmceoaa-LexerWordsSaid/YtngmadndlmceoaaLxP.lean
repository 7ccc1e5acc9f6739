import Derived.Test.YtngmadndlmceoaaLxO
import Derived.Test.YtngmadndlmceoaaLxK
import Derived.Test.YtngmadndlmceoaaGLx2
set_option linter.all false
/- Contracts of chapter 04: strings.Join, Print. -/
namespace Go.Proofs.Ytngmadndlmceoaa.Fx
open Go Go.Fw Go.Ov Go.Lx Go.Shelf
theorem bx156 : Builder.Extra Try.prog Try.lays156_ren := {
  sizeBuilder := by kernel_rfl
  liesBuilder := by kernel_rfl
  t5 := Try.underlying5
  a5 := Try.isAgg5
  z5 := Try.sizeOf5
  v5 := Try.zeroValue5
  infoByte := by kernel_rfl
  cellsByte := by kernel_rfl
  sizeByte := by kernel_rfl
  neB5 := by decide }
theorem map_bs : ∀ (xs : List (List UInt8)), (xs.map bs).map (fun b : ByteArray => b.data.toList) = xs
  | [] => rfl
  | x :: r => by rw [List.map_cons, List.map_cons, map_bs r]; congr 1
theorem f44_spec (xs : List (List UInt8)) (sep : List UInt8) (h : (Go.Lib.join xs sep).length ≤ 140737488355328) (hx : xs.length ≤ 140737488355328) :
    PSpec P [] 44 [.list .str xs, .str sep] (.str (Go.Lib.join xs sep)) :=
  PSpec.of_calls (entered_of Try.lays156.f156 (by kernel_rfl) rfl) fun φ R w vs hr hR => by
    simp only [RepVs, RepV, Rep] at hr
    obtain ⟨_, _, rfl, ⟨p, cap, hv, hcap, hc⟩, _, _, rfl, rfl, rfl⟩ := hr
    simp only [List.cons.injEq, and_true] at hv
    subst hv
    cases xs with
    | nil =>
      refine (Go.Proofs.Any.strings_Join_none Try.lays156 bx156 p cap (bs sep) w).mono ?_
      rintro e w' ⟨rfl, rfl⟩
      exact ⟨_, rfl, Go.RowKit.Below.refl _ _, by simp only [RepV, Go.Lib.join_nil]; rfl⟩
    | cons x r =>
      rcases hc with ⟨h0, _⟩ | ⟨b, o, rfl, hc⟩
      · cases h0
      · have hb : b < w.heap.size := by
          obtain ⟨us, hl, hat, _⟩ := hc 0 (by simp)
          cases us with
          | nil => simp [Ty.size] at hl
          | cons u us => exact hR b _ (hat 0 u rfl).1
        have k := Go.Proofs.Any.strings_Join Try.lays156 bx156 b o cap ((x :: r).map bs) (bs sep) w (fun j y hj => by
          rw [List.getElem?_map] at hj
          obtain ⟨z, hz, rfl⟩ := Option.map_eq_some_iff.1 hj
          obtain ⟨hj2, hz2⟩ := List.getElem?_eq_some_iff.1 hz
          obtain ⟨us, hl, hat, hrep⟩ := hc j hj2
          have e1 : us = [.string (bs z)] := by rw [← hz2]; exact hrep
          subst e1
          have := (hat 0 _ rfl).2
          simpa [Ty.size] using this) hb (by simpa using hx) (by simpa using hcap) (by rw [map_bs]; exact h)
        rw [List.length_map, map_bs] at k
        refine k.mono ?_
        rintro e w' ⟨rfl, hbel⟩
        exact ⟨_, rfl, hbel, by simp only [RepV]; rfl⟩
theorem notLong {l : List Tk} (h : longT l = false) : l.length ≤ 40 ∧ ∀ i, i < l.length → (l.getD i (Ty.dflt tT)).2.1.length ≤ 300 := by
  unfold longT at h
  rw [Bool.or_eq_false_iff, decide_eq_false_iff_not] at h
  refine ⟨by omega, fun i hi => Nat.le_of_not_lt fun h2 => ?_⟩
  have h3 := List.any_eq_false.1 h.2 _ (getD_mem (d := (Ty.dflt tT : Tk)) hi)
  exact h3 (decide_eq_true h2)
set_option maxRecDepth 8000 in
theorem f26_spec (l : List Tk) (hl : longT l = false) : PSpec P [] 26 [.list tT l] (.str (printS l)) := by
  have hl1 := (notLong hl).1
  have hl2 := (notLong hl).2
  refine pspec_intro hT Try.func26 (by decide) rfl rfl (by kernel_rfl) rfl ?_
  refine Tri.seq (Tri.reg hT ?_)
  refine Tri.seq (Tri.reg hT ?_)
  refine Tri.seq ?_
  refine Tri.seq (Tri.reg hT ?_)
  refine (Tri.block ?_)
  refine (Tri.loop (ι := Nat) (fun i => ⟨27, 0, 20, [(3, .own 5 (partsN l i).length), (8, .list tT l), (9, .int .i64 l.length), (10, .int .i64 (i : Int))], [(5, .arr .str (partsN l i))], []⟩) (fun i => i ≤ l.length) (fun i => l.length - i) (0) ?_ ?_ ?_)
  · exact Nat.zero_le _
  · exact Le.trans (Le.own 3 .str rfl) (Le.weak rfl rfl rfl rfl ⟨(by first | rfl | exact iv1 (by (try simp only [decide_eq_true_eq, decide_eq_false_iff_not, toNat_cast] at *); omega)), (by first | rfl | exact iv1 (by (try simp only [decide_eq_true_eq, decide_eq_false_iff_not, toNat_cast] at *); omega)), (by first | rfl | exact iv1 (by (try simp only [decide_eq_true_eq, decide_eq_false_iff_not, toNat_cast] at *); omega)), (by first | rfl | exact iv1 (by (try simp only [decide_eq_true_eq, decide_eq_false_iff_not, toNat_cast] at *); omega)), trivial⟩ ⟨rfl, trivial⟩)
  · intro i hi
    refine Tri.seq (Tri.reg hT ?_)
    refine Tri.seq (Tri.cond ⟨fun h1 => ?_, fun h1 => ?_⟩)
    · refine (Tri.skip ?_)
      refine Tri.seq (Tri.block ?_)
      have hlt : i < l.length := (by have := of_decide_eq_true h1; omega); have w1 : IntKind.i64.wrap ((i : Int) + 1) = ((i + 1 : Nat) : Int) := (by rw [wrapId (by omega)]; omega); have hn := partsN_next hlt; have hpl := partsN_len l i
      refine Tri.le (⟨27, 0, 30, [(3, .own 5 (partsN l i).length), (8, .list tT l), (9, .int .i64 l.length), (10, .int .i64 (i : Int))], [(5, .arr .str (partsN l i))], []⟩) (Le.weak rfl rfl rfl rfl ⟨(by first | rfl | exact iv1 (by (try simp only [decide_eq_true_eq, decide_eq_false_iff_not, toNat_cast] at *); omega)), (by first | rfl | exact iv1 (by (try simp only [decide_eq_true_eq, decide_eq_false_iff_not, toNat_cast] at *); omega)), (by first | rfl | exact iv1 (by (try simp only [decide_eq_true_eq, decide_eq_false_iff_not, toNat_cast] at *); omega)), (by first | rfl | exact iv1 (by (try simp only [decide_eq_true_eq, decide_eq_false_iff_not, toNat_cast] at *); omega)), trivial⟩ ⟨rfl, trivial⟩) ?_
      refine Tri.seq (Tri.reg hT ?_)
      refine ⟨by omega, ?_⟩
      refine Tri.seq (Tri.reg hT ?_)
      refine .inl (.inl ⟨_, fun _ => rfl, f43_spec _ (by have := hl2 i hlt; rw [toNat_cast]; omega), ?_⟩)
      refine Tri.seq (Tri.reg hT ?_)
      refine (Tri.cond ⟨fun h2 => ?_, fun h2 => ?_⟩)
      · rw [toNat_cast] at h2; change okT _ = true at h2; rw [if_pos h2] at hn
        refine (Tri.reg hT ?_)
        refine ⟨(Nat.le_refl _), by show _ ≤ _ ∧ (_ + 1) * 16 ≤ _ ∧ _ + 1 ≤ _; omega, ?_⟩
        refine (Tri.reg hT ?_)
        exact ⟨i + 1, hlt, (by omega), Le.weak rfl rfl rfl rfl ⟨congrArg (AV.own 5) (by rw [hn, List.length_append]; rfl), (by first | rfl | exact iv1 (by (try simp only [decide_eq_true_eq, decide_eq_false_iff_not, toNat_cast] at *); omega)), (by first | rfl | exact iv1 (by (try simp only [decide_eq_true_eq, decide_eq_false_iff_not, toNat_cast] at *); omega)), congrArg (AV.int .i64) w1, trivial⟩ ⟨congrArg (fun x => some (Chunk.arr .str x)) (by rw [hn, List.take_length, toNat_cast]; rfl), trivial⟩⟩
      · refine (Tri.skip ?_)
        refine (Tri.reg hT ?_)
        rw [toNat_cast] at h2; change okT _ = false at h2; rw [if_neg (fun k => by have k2 := h2.symm.trans k; cases k2), List.append_nil] at hn
        exact ⟨i + 1, hlt, (by omega), Le.weak rfl rfl rfl rfl ⟨congrArg (AV.own 5) (by rw [hn]), (by first | rfl | exact iv1 (by (try simp only [decide_eq_true_eq, decide_eq_false_iff_not, toNat_cast] at *); omega)), (by first | rfl | exact iv1 (by (try simp only [decide_eq_true_eq, decide_eq_false_iff_not, toNat_cast] at *); omega)), congrArg (AV.int .i64) w1, trivial⟩ ⟨congrArg (fun x => some (Chunk.arr .str x)) (by rw [hn]), trivial⟩⟩
    · refine Tri.exit ?_
      have hN : i = l.length := (by have := of_decide_eq_false h1; omega); subst hN; have ej := print_join l; have eL := prN_len l 300 hl2 l.length (Nat.le_refl _); have eP := partsN_len l l.length; refine Tri.le ⟨27, 0, 0, [(3, .list .str (partsN l l.length))], [], []⟩ (Le.trans (Le.freeze 3 _ _ rfl rfl (Nat.le_refl _)) (Le.weak rfl rfl rfl rfl ⟨congrArg (AV.list .str) List.take_length, trivial⟩ trivial)) ?_
      refine Tri.seq (Tri.reg hT ?_)
      refine .inl (.inl ⟨_, fun _ => rfl, f44_spec _ _ (by show (Go.Lib.join (partsN l l.length) [32]).length ≤ _; rw [← ej]; have : (printS l).length ≤ l.length * (4 + 3 * 300) := eL; omega) (by omega), ?_⟩)
      refine Tri.ret ?_
      exact ⟨congrArg AV.str ej.symm, trivial⟩
theorem wrElse {t : Tk} (h : okT t = true) (h2 : ¬ t.1 = 2) (h3 : ¬ t.1 = 3) : (writtenS t).1 = t.2.1 := by
  by_cases h1 : t.1 = 1
  · rw [wr1 h1]
  · by_cases h4 : t.1 = 4
    · rw [wr4 h1 h3 h2 h4]
    · unfold okT at h; rw [wr0 h1 h3 h2 h4] at h; cases h
set_option maxRecDepth 8000 in
theorem f27_spec (l : List Tk) (hl : longT l = false) : PSpec P [] 27 [.list tT l] (.str (printS l)) := by
  have hl1 := (notLong hl).1
  have hl2 := (notLong hl).2
  have eL := prN_len l 300 hl2
  refine pspec_intro hT Try.func27 (by decide) rfl rfl (by kernel_rfl) rfl ?_
  refine Tri.seq (Tri.reg hT ?_)
  refine Tri.seq (Tri.reg hT ?_)
  refine Tri.seq ?_
  refine Tri.seq (Tri.reg hT ?_)
  refine (Tri.block ?_)
  refine (Tri.loop (ι := Nat) (fun i => ⟨57, 0, 20, [(0, .list tT l), (3, .str (prN l i)), (4, .int .i64 (i : Int))], [], []⟩) (fun i => i ≤ l.length) (fun i => l.length - i) (0) ?_ ?_ ?_)
  · exact Nat.zero_le _
  · exact Le.weak rfl rfl rfl rfl ⟨(by first | rfl | exact iv1 (by (try simp only [decide_eq_true_eq, decide_eq_false_iff_not, toNat_cast] at *); omega)), (by first | rfl | exact iv1 (by (try simp only [decide_eq_true_eq, decide_eq_false_iff_not, toNat_cast] at *); omega)), (by first | rfl | exact iv1 (by (try simp only [decide_eq_true_eq, decide_eq_false_iff_not, toNat_cast] at *); omega)), trivial⟩ trivial
  · intro i hi
    refine Tri.seq ?_
    refine Tri.seq (Tri.reg hT ?_)
    refine (Tri.cond ⟨fun h1 => ?_, fun h1 => ?_⟩)
    · refine (Tri.skip ?_)
      refine Tri.seq (Tri.block ?_)
      refine Tri.seq ?_
      have hlt : i < l.length := (by have := of_decide_eq_true h1; omega); have w1 : IntKind.i64.wrap ((i : Int) + 1) = ((i + 1 : Nat) : Int) := (by rw [wrapId (by omega)]; omega); have hn := prN_next hlt; have hL : (prN l i).length ≤ 40 * 904 := (by have h5 := eL i hi; have h6 : i * (4 + 3 * 300) ≤ 40 * 904 := Nat.mul_le_mul (by omega) (by omega); omega); have hx := hl2 i hlt; have hw := written_len (l.getD i (Ty.dflt tT))
      refine Tri.le (⟨57, 0, 30, [(0, .list tT l), (3, .str (prN l i)), (4, .int .i64 (i : Int))], [], []⟩) (Le.weak rfl rfl rfl rfl ⟨(by first | rfl | exact iv1 (by (try simp only [decide_eq_true_eq, decide_eq_false_iff_not, toNat_cast] at *); omega)), (by first | rfl | exact iv1 (by (try simp only [decide_eq_true_eq, decide_eq_false_iff_not, toNat_cast] at *); omega)), (by first | rfl | exact iv1 (by (try simp only [decide_eq_true_eq, decide_eq_false_iff_not, toNat_cast] at *); omega)), trivial⟩ trivial) ?_
      refine Tri.seq (Tri.reg hT ?_)
      refine ⟨by omega, ?_⟩
      refine .inl (.inl ⟨_, fun _ => rfl, f28_spec _ (by rw [toNat_cast]; omega), ?_⟩)
      refine (Tri.cond ⟨fun h2 => ?_, fun h2 => ?_⟩)
      · refine Tri.exit ?_
        refine (Tri.reg hT ?_)
        rw [toNat_cast] at h2; have h2' : okT (l.getD i (Ty.dflt tT)) = false := (by simpa using h2); unfold prStep at hn; rw [if_neg (by rw [h2']; decide)] at hn
        exact ⟨i + 1, hlt, (by omega), Le.weak rfl rfl rfl rfl ⟨(by first | rfl | exact iv1 (by (try simp only [decide_eq_true_eq, decide_eq_false_iff_not, toNat_cast] at *); omega)), congrArg AV.str hn.symm, congrArg (AV.int .i64) w1, trivial⟩ trivial⟩
      · refine (Tri.skip ?_)
        refine Tri.seq ?_
        refine Tri.seq (Tri.reg hT ?_)
        refine (Tri.cond ⟨fun h3 => ?_, fun h3 => ?_⟩)
        · refine (Tri.reg hT ?_)
          refine ⟨(by first | (simp only [List.length_append, List.length_cons, List.length_nil]; omega) | omega), ?_⟩
          rw [toNat_cast] at h2; have h2' : okT (l.getD i (Ty.dflt tT)) = true := (by simpa using h2); unfold prStep at hn; rw [if_pos h2'] at hn; have hM : (if prN l i ≠ [] then prN l i ++ [32] else prN l i).length ≤ 40 * 904 + 1 := (by split; rw [List.length_append]; show _ + 1 ≤ _; omega; omega)
          refine Tri.le (⟨57, 0, 50, [(0, .list tT l), (3, .str (if prN l i ≠ [] then prN l i ++ [32] else prN l i)), (4, .int .i64 (i : Int))], [], []⟩) (Le.weak rfl rfl rfl rfl ⟨(by first | rfl | exact iv1 (by (try simp only [decide_eq_true_eq, decide_eq_false_iff_not, toNat_cast] at *); omega)), congrArg AV.str (by first | exact (if_pos (of_decide_eq_true h3)).symm | exact (if_neg (of_decide_eq_false h3)).symm), (by first | rfl | exact iv1 (by (try simp only [decide_eq_true_eq, decide_eq_false_iff_not, toNat_cast] at *); omega)), trivial⟩ trivial) ?_
          refine Tri.seq (Tri.reg hT ?_)
          refine ⟨by omega, ?_⟩
          refine (Tri.cond ⟨fun h4 => ?_, fun h4 => ?_⟩)
          · refine (Tri.reg hT ?_)
            refine ⟨by omega, ?_⟩
            refine .inl (.inl ⟨_, fun _ => rfl, f11_spec _ (by rw [toNat_cast]; omega), ?_⟩)
            refine ⟨by rw [toNat_cast]; have := quote_len (l.getD i (Ty.dflt tT)).2.1; omega, ?_⟩
            refine (Tri.reg hT ?_)
            rw [toNat_cast] at h4; have q2 := of_decide_eq_true h4; have e := wr2 (by omega) (by omega) q2
            exact ⟨i + 1, hlt, (by omega), Le.weak rfl rfl rfl rfl ⟨(by first | rfl | exact iv1 (by (try simp only [decide_eq_true_eq, decide_eq_false_iff_not, toNat_cast] at *); omega)), congrArg AV.str (by rw [hn, e, toNat_cast]), congrArg (AV.int .i64) w1, trivial⟩ trivial⟩
          · refine Tri.seq (Tri.reg hT ?_)
            refine ⟨by omega, ?_⟩
            refine (Tri.cond ⟨fun h5 => ?_, fun h5 => ?_⟩)
            · refine (Tri.reg hT ?_)
              refine ⟨by show _ + 1 ≤ _; omega, ?_⟩
              refine ⟨by omega, ?_⟩
              refine ⟨by rw [toNat_cast, List.length_append]; show _ + 1 + _ ≤ _; omega, ?_⟩
              refine (Tri.reg hT ?_)
              rw [toNat_cast] at h4 h5; have q2 := of_decide_eq_false h4; have q3 := of_decide_eq_true h5; have e := wr3 (by omega) q3
              exact ⟨i + 1, hlt, (by omega), Le.weak rfl rfl rfl rfl ⟨(by first | rfl | exact iv1 (by (try simp only [decide_eq_true_eq, decide_eq_false_iff_not, toNat_cast] at *); omega)), congrArg AV.str (by rw [hn, e, toNat_cast, List.append_assoc]; rfl), congrArg (AV.int .i64) w1, trivial⟩ trivial⟩
            · refine (Tri.reg hT ?_)
              refine ⟨by omega, ?_⟩
              refine ⟨by rw [toNat_cast]; omega, ?_⟩
              refine (Tri.reg hT ?_)
              rw [toNat_cast] at h4 h5; have q2 := of_decide_eq_false h4; have q3 := of_decide_eq_false h5; have e := wrElse h2' q2 q3
              exact ⟨i + 1, hlt, (by omega), Le.weak rfl rfl rfl rfl ⟨(by first | rfl | exact iv1 (by (try simp only [decide_eq_true_eq, decide_eq_false_iff_not, toNat_cast] at *); omega)), congrArg AV.str (by rw [hn, e, toNat_cast]), congrArg (AV.int .i64) w1, trivial⟩ trivial⟩
        · refine (Tri.skip ?_)
          rw [toNat_cast] at h2; have h2' : okT (l.getD i (Ty.dflt tT)) = true := (by simpa using h2); unfold prStep at hn; rw [if_pos h2'] at hn; have hM : (if prN l i ≠ [] then prN l i ++ [32] else prN l i).length ≤ 40 * 904 + 1 := (by split; rw [List.length_append]; show _ + 1 ≤ _; omega; omega)
          refine Tri.le (⟨57, 0, 50, [(0, .list tT l), (3, .str (if prN l i ≠ [] then prN l i ++ [32] else prN l i)), (4, .int .i64 (i : Int))], [], []⟩) (Le.weak rfl rfl rfl rfl ⟨(by first | rfl | exact iv1 (by (try simp only [decide_eq_true_eq, decide_eq_false_iff_not, toNat_cast] at *); omega)), congrArg AV.str (by first | exact (if_pos (of_decide_eq_true h3)).symm | exact (if_neg (of_decide_eq_false h3)).symm), (by first | rfl | exact iv1 (by (try simp only [decide_eq_true_eq, decide_eq_false_iff_not, toNat_cast] at *); omega)), trivial⟩ trivial) ?_
          refine Tri.seq (Tri.reg hT ?_)
          refine ⟨by omega, ?_⟩
          refine (Tri.cond ⟨fun h6 => ?_, fun h6 => ?_⟩)
          · refine (Tri.reg hT ?_)
            refine ⟨by omega, ?_⟩
            refine .inl (.inl ⟨_, fun _ => rfl, f11_spec _ (by rw [toNat_cast]; omega), ?_⟩)
            refine ⟨by rw [toNat_cast]; have := quote_len (l.getD i (Ty.dflt tT)).2.1; omega, ?_⟩
            refine (Tri.reg hT ?_)
            rw [toNat_cast] at h6; have q2 := of_decide_eq_true h6; have e := wr2 (by omega) (by omega) q2
            exact ⟨i + 1, hlt, (by omega), Le.weak rfl rfl rfl rfl ⟨(by first | rfl | exact iv1 (by (try simp only [decide_eq_true_eq, decide_eq_false_iff_not, toNat_cast] at *); omega)), congrArg AV.str (by rw [hn, e, toNat_cast]), congrArg (AV.int .i64) w1, trivial⟩ trivial⟩
          · refine Tri.seq (Tri.reg hT ?_)
            refine ⟨by omega, ?_⟩
            refine (Tri.cond ⟨fun h7 => ?_, fun h7 => ?_⟩)
            · refine (Tri.reg hT ?_)
              refine ⟨by show _ + 1 ≤ _; omega, ?_⟩
              refine ⟨by omega, ?_⟩
              refine ⟨by rw [toNat_cast, List.length_append]; show _ + 1 + _ ≤ _; omega, ?_⟩
              refine (Tri.reg hT ?_)
              rw [toNat_cast] at h6 h7; have q2 := of_decide_eq_false h6; have q3 := of_decide_eq_true h7; have e := wr3 (by omega) q3
              exact ⟨i + 1, hlt, (by omega), Le.weak rfl rfl rfl rfl ⟨(by first | rfl | exact iv1 (by (try simp only [decide_eq_true_eq, decide_eq_false_iff_not, toNat_cast] at *); omega)), congrArg AV.str (by rw [hn, e, toNat_cast, List.append_assoc]; rfl), congrArg (AV.int .i64) w1, trivial⟩ trivial⟩
            · refine (Tri.reg hT ?_)
              refine ⟨by omega, ?_⟩
              refine ⟨by rw [toNat_cast]; omega, ?_⟩
              refine (Tri.reg hT ?_)
              rw [toNat_cast] at h6 h7; have q2 := of_decide_eq_false h6; have q3 := of_decide_eq_false h7; have e := wrElse h2' q2 q3
              exact ⟨i + 1, hlt, (by omega), Le.weak rfl rfl rfl rfl ⟨(by first | rfl | exact iv1 (by (try simp only [decide_eq_true_eq, decide_eq_false_iff_not, toNat_cast] at *); omega)), congrArg AV.str (by rw [hn, e, toNat_cast]), congrArg (AV.int .i64) w1, trivial⟩ trivial⟩
    · refine Tri.exit ?_
      refine Tri.seq (Tri.reg hT ?_)
      refine Tri.ret ?_
      have hN : i = l.length := (by have := of_decide_eq_false h1; omega); exact ⟨congrArg AV.str (by rw [hN]; rfl), trivial⟩
end Go.Proofs.Ytngmadndlmceoaa.Fx
