import Derived.Test.YtgbmbihajkjbmaaTlG
import Derived.Test.YtgbmbihajkjbmaaGFw8
set_option linter.all false
/- Contracts of chapter 32: records, builders. -/
namespace Go.Proofs.Ytgbmbihajkjbmaa.Fx
open Go Go.Fw Go.Ov Go.Tl Go.Shelf
theorem wStr_spec (i j : Nat) (hij : i ≠ j) (s t : List UInt8) (hlen : s.length + t.length ≤ 140737488355328) : HSpec P [] 50 [.loc i 0, .str t] (bldH Try.bldT Try.byteT i j s) .any (bldH Try.bldT Try.byteT i j (s ++ t)) :=
  bld_WriteString Try.lays166 Try.bx166 [] i j hij s t hlen
theorem bStr_spec (i j : Nat) (hij : i ≠ j) (s : List UInt8) : HSpec P [] 51 [.loc i 0] (bldH Try.bldT Try.byteT i j s) (.str s) [(i, .ext (.top true))] :=
  bld_String Try.lays169 Try.bx169 [] i j hij s
set_option maxRecDepth 8000 in
theorem f40_spec (kind size : Nat) (s : List UInt8) (hk : kind < 256) (hz : 0 < size ∧ size ≤ 16384) (hs : s.length ≤ 1099511627776) : PSpec P [] 40 [.int .i64 (kind : Int), .str s, .int .i64 (size : Int)] (.str (cutM kind size s)) := by
  refine pspec_intro hT Try.func40 (by decide) rfl rfl (by kernel_rfl) rfl ?_
  refine Tri.seq (Tri.reg hT ?_)
  refine Tri.seq (Tri.regM hT [0] ?_)
  refine ⟨_, Le.nilX (rowX Try.byteT []) rfl rfl, .inl (.inr (OpTri.allocX hT (bldX Try.bldT 1 0) rfl rfl rfl (fun φ R w b z h => bldX_zero _ 0 _ _ rfl φ R w b z h) rfl ?_))⟩
  refine Tri.seq (Tri.block ?_)
  refine (Tri.loop (ι := List UInt8 × List UInt8) (fun x => ⟨31, 0, 40, [(0, .int .i64 (kind : Int)), (1, .str x.1), (2, .int .i64 (size : Int)), (7, .loc 2 0)], [(2, .ext (bldX Try.bldT 1 x.2.length)), (1, .ext (rowX Try.byteT x.2))], []⟩) (fun x => x.1.length ≤ s.length ∧ x.2.length + 6 * x.1.length ≤ 6 * s.length ∧ x.2 ++ cutM kind size x.1 = cutM kind size s) (fun x => x.1.length) ((s, [])) ?_ ?_ ?_)
  · exact ⟨Nat.le_refl _, by show 0 + 6 * s.length ≤ _; omega, rfl⟩
  · exact Le.weak rfl rfl rfl rfl ⟨(by first | rfl | exact iv1 (by (try simp only [decide_eq_true_eq, decide_eq_false_iff_not, toNat_cast] at *); omega)), (by first | rfl | exact iv1 (by (try simp only [decide_eq_true_eq, decide_eq_false_iff_not, toNat_cast] at *); omega)), (by first | rfl | exact iv1 (by (try simp only [decide_eq_true_eq, decide_eq_false_iff_not, toNat_cast] at *); omega)), (by first | rfl | exact iv1 (by (try simp only [decide_eq_true_eq, decide_eq_false_iff_not, toNat_cast] at *); omega)), trivial⟩ ⟨rfl, rfl, trivial⟩
  · intro ⟨r, out⟩ hi; obtain ⟨hl, hlen, hi2⟩ := hi; change r.length ≤ _ at hl; change out.length + 6 * r.length ≤ _ at hlen; change out ++ cutM kind size r = _ at hi2
    refine Tri.seq ?_
    refine Tri.seq (Tri.reg hT ?_)
    refine (Tri.cond ⟨fun h1 => ?_, fun h1 => ?_⟩)
    · refine (Tri.skip ?_)
      refine (Tri.block ?_)
      refine Tri.seq (Tri.reg hT ?_)
      have hne : r ≠ [] := of_decide_eq_true h1; have hp := List.length_pos_iff.2 hne; have hq := cutM_eq kind size hz.1 r; rw [if_neg hne] at hq; have hpl := putM_len (min r.length size) 2; have wk : IntKind.u8.wrap (kind : Int) = (kind : Int) := (by rw [wrap8, Nat.mod_eq_of_lt hk]); have htl : (r.take (min r.length size)).length = min r.length size := (by rw [List.length_take]; omega)
      refine Tri.le (⟨31, 0, 60, [(0, .int .i64 (kind : Int)), (1, .str r), (2, .int .i64 (size : Int)), (7, .loc 2 0), (8, .int .i64 ((min r.length size : Nat) : Int))], [(2, .ext (bldX Try.bldT 1 out.length)), (1, .ext (rowX Try.byteT out))], []⟩) (Le.weak rfl rfl rfl rfl ⟨(by first | rfl | exact iv1 (by (try simp only [decide_eq_true_eq, decide_eq_false_iff_not, toNat_cast] at *); omega)), (by first | rfl | exact iv1 (by (try simp only [decide_eq_true_eq, decide_eq_false_iff_not, toNat_cast] at *); omega)), (by first | rfl | exact iv1 (by (try simp only [decide_eq_true_eq, decide_eq_false_iff_not, toNat_cast] at *); omega)), (by first | rfl | exact iv1 (by (try simp only [decide_eq_true_eq, decide_eq_false_iff_not, toNat_cast] at *); omega)), congrArg (AV.int .i64) (by show min (r.length : Int) (size : Int) = _; omega), trivial⟩ ⟨rfl, rfl, trivial⟩) ?_
      refine Tri.seq (Tri.drwM hT hm 11 [11] (by kernel_rfl) ?_)
      refine ⟨by exact Nat.le_refl _, ?_⟩
      refine .inl ⟨_, fun _ => rfl, f28_spec (min r.length size) 2 (by decide) (by omega), ?_⟩
      refine ⟨by show 3 + _ ≤ _; omega, ?_⟩
      refine ⟨by omega, ?_⟩
      refine ⟨by rw [List.length_append]; show 3 + _ + _ ≤ _; rw [toNat_cast, List.length_drop, List.length_take]; omega, ?_⟩
      refine ⟨by kernel_rfl, ?_⟩
      have hpc : ([UInt8.ofNat kind, 3, 3] ++ putM (min r.length size) 2 ++ r.take (min r.length size)).length ≤ 5 + min r.length size := (by simp only [List.length_append, List.length_cons, List.length_nil, htl]; omega)
      refine ⟨⟨31, 0, 90, [(0, .int .i64 (kind : Int)), (1, .str r), (2, .int .i64 (size : Int)), (7, .loc 2 0), (8, .int .i64 ((min r.length size : Nat) : Int)), (25, .str ([UInt8.ofNat kind, 3, 3] ++ putM (min r.length size) 2 ++ r.take (min r.length size)))], [(2, .ext (bldX Try.bldT 1 out.length)), (1, .ext (rowX Try.byteT out))], []⟩, Le.weak rfl rfl rfl rfl ⟨(by first | rfl | exact iv1 (by (try simp only [decide_eq_true_eq, decide_eq_false_iff_not, toNat_cast] at *); omega)), (by first | rfl | exact iv1 (by (try simp only [decide_eq_true_eq, decide_eq_false_iff_not, toNat_cast] at *); omega)), (by first | rfl | exact iv1 (by (try simp only [decide_eq_true_eq, decide_eq_false_iff_not, toNat_cast] at *); omega)), (by first | rfl | exact iv1 (by (try simp only [decide_eq_true_eq, decide_eq_false_iff_not, toNat_cast] at *); omega)), (by first | rfl | exact iv1 (by (try simp only [decide_eq_true_eq, decide_eq_false_iff_not, toNat_cast] at *); omega)), congrArg AV.str (by rw [wk]; rfl), trivial⟩ ⟨rfl, rfl, trivial⟩, .inl (.inr (OpTri.hcall 1 rfl rfl rfl (wStr_spec 2 1 (by decide) out ([UInt8.ofNat kind, 3, 3] ++ putM (min r.length size) 2 ++ r.take (min r.length size)) (by omega)) trivial ⟨rfl, rfl, trivial⟩ rfl ?_))⟩
      refine (Tri.reg hT ?_)
      refine ⟨by omega, ?_⟩
      exact ⟨(r.drop (min r.length size), out ++ ([UInt8.ofNat kind, 3, 3] ++ putM (min r.length size) 2 ++ r.take (min r.length size))), ⟨by show (r.drop (min r.length size)).length ≤ _; rw [List.length_drop]; omega, by show (out ++ ([UInt8.ofNat kind, 3, 3] ++ putM (min r.length size) 2 ++ r.take (min r.length size))).length + 6 * (r.drop (min r.length size)).length ≤ _; rw [List.length_append, List.length_drop]; omega, by show (out ++ ([UInt8.ofNat kind, 3, 3] ++ putM (min r.length size) 2 ++ r.take (min r.length size))) ++ _ = _; rw [List.append_assoc, ← hq]; exact hi2⟩, (by show (r.drop (min r.length size)).length < r.length; rw [List.length_drop]; omega), Le.weak rfl rfl rfl rfl ⟨(by first | rfl | exact iv1 (by (try simp only [decide_eq_true_eq, decide_eq_false_iff_not, toNat_cast] at *); omega)), congrArg AV.str (by rw [toNat_cast, toNat_cast, List.take_length]), (by first | rfl | exact iv1 (by (try simp only [decide_eq_true_eq, decide_eq_false_iff_not, toNat_cast] at *); omega)), (by first | rfl | exact iv1 (by (try simp only [decide_eq_true_eq, decide_eq_false_iff_not, toNat_cast] at *); omega)), trivial⟩ ⟨rfl, rfl, trivial⟩⟩
    · refine Tri.exit ?_
      have hr0 : r = [] := Classical.not_not.1 (of_decide_eq_false h1); rw [hr0] at hi2; have e0 : cutM kind size [] = [] := (by rw [cutM_eq kind size hz.1, if_pos rfl]); rw [e0, List.append_nil] at hi2; rw [← hi2]
      refine Tri.seq (Tri.regM hT [0] ?_)
      refine ⟨_, Le.refl _, .inl (.inr (OpTri.hcall 1 rfl rfl rfl (bStr_spec 2 1 (by decide) out) trivial ⟨rfl, rfl, trivial⟩ rfl ?_))⟩
      refine Tri.ret ?_
      exact ⟨rfl, trivial⟩
theorem f25_spec (s : List UInt8) (size : Int) (hs : s.length ≤ 1099511627776) : PSpec P [] 25 [.str s, .int .i64 size] (.str (cutM 22 (min (max size 1) 16384).toNat s)) := by
  have e : ((min (max size 1) 16384).toNat : Int) = min (max size 1) 16384 := by omega
  have k := f40_spec 22 (min (max size 1) 16384).toNat s (by decide) (by omega) hs
  rw [e] at k
  refine pspec_intro hT Try.func25 (by decide) rfl rfl (by kernel_rfl) rfl ?_
  refine Tri.seq (Tri.reg hT ?_)
  refine Tri.seq (Tri.reg hT ?_)
  refine .inl (.inl ⟨_, fun _ => rfl, k, ?_⟩)
  refine Tri.ret ?_
  exact ⟨rfl, trivial⟩
theorem f23_spec (n : Int) : PSpec P [] 23 [.int .i64 n] (.str (cutM 23 16384 (List.replicate (min (max n 0) 1048576).toNat 0))) := by
  have e : ((min (max n 0) 1048576).toNat : Int) = min (max n 0) 1048576 := by omega
  have k := f41_spec (min (max n 0) 1048576).toNat (by omega)
  rw [e] at k
  refine pspec_intro hT Try.func23 (by decide) rfl rfl (by kernel_rfl) rfl ?_
  refine Tri.seq (Tri.reg hT ?_)
  refine Tri.seq (Tri.reg hT ?_)
  refine .inl (.inl ⟨_, fun _ => rfl, k, ?_⟩)
  refine .inl (.inl ⟨_, fun _ => rfl, f40_spec 23 16384 _ (by decide) (by decide) (by rw [List.length_replicate]; omega), ?_⟩)
  refine Tri.ret ?_
  exact ⟨rfl, trivial⟩
theorem f36_spec (kind : Nat) (body : List UInt8) (ok : Bool) (hk : kind ≤ 100000) (hs : body.length ≤ 549755813888) : PSpec P [] 36 [.int .i64 (kind : Int), .str body, .bool ok] (.str (msgBl kind body ok)) := by
  have hp := putM_len kind 1
  have hc := cntM_len body 3 ok
  refine pspec_intro hT Try.func36 (by decide) rfl rfl (by kernel_rfl) rfl ?_
  refine Tri.seq (Tri.reg hT ?_)
  refine Tri.seq (Tri.regM hT [3] ?_)
  refine .inl (.inl ⟨_, fun _ => rfl, f28_spec kind 1 (by decide) (by omega), ?_⟩)
  refine ⟨_, Le.refl _, .inl (.inr (OpTri.hcall 1 rfl rfl rfl (f33_spec body 3 ok (by decide) (by omega) 0) trivial ⟨rfl, trivial⟩ rfl ?_))⟩
  refine ⟨by omega, ?_⟩
  refine Tri.seq ?_
  refine Tri.seq (Tri.reg hT ?_)
  refine (Tri.cond ⟨fun h1 => ?_, fun h1 => ?_⟩)
  · have q : (cntM body 3 ok).2 = false := (by simpa using h1); have eM : msgBl kind body ok = [] := (by unfold msgBl; rw [q]; rfl); rw [eM]
    refine Tri.seq (Tri.reg hT ?_)
    refine Tri.ret ?_
    exact ⟨rfl, trivial⟩
  · refine (Tri.skip ?_)
    have q : (cntM body 3 ok).2 = true := (by simpa using h1); have eM : msgBl kind body ok = cutM 22 16384 (putM kind 1 ++ (cntM body 3 ok).1) := if_pos q; rw [eM]
    refine Tri.seq (Tri.reg hT ?_)
    refine .inl (.inl ⟨_, fun _ => rfl, f25_spec _ 16384 (by rw [List.length_append]; omega), ?_⟩)
    refine Tri.ret ?_
    exact ⟨rfl, trivial⟩
end Go.Proofs.Ytgbmbihajkjbmaa.Fx
