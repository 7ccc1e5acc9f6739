import Derived.Test.YtchiagnggnblaaaDoorOvA
set_option linter.all false
/- Contracts of chapter 15: who wins, equal lists, few pieces, buffers recognized, bytes taken. -/
namespace Go.Proofs.YtchiagnggnblaaaDoor.Fx
open Go Go.Fw Go.Ov
theorem f60_spec (pol : Int) (o n : Pc) : PSpec P [] 60 [.int .i64 pol, pv o, pv n] (.bool (winsB pol o n)) := by
  refine pspec_intro hT Tryd.func60 (by decide) rfl rfl (by kernel_rfl) rfl ?_
  refine Tri.seq (Tri.reg hT ?_)
  refine Tri.seq ?_
  refine Tri.seq (Tri.reg hT ?_)
  refine (Tri.block ?_)
  refine Tri.seq (Tri.reg hT ?_)
  refine (Tri.cond ⟨fun h1 => ?_, fun h1 => ?_⟩)
  · refine Tri.seq (Tri.reg hT ?_)
    refine Tri.ret ?_
    exact ⟨congrArg AV.bool (by simp only [decide_eq_true_eq, decide_eq_false_iff_not] at *; simp [winsB, *]), trivial⟩
  · refine Tri.seq (Tri.reg hT ?_)
    refine (Tri.cond ⟨fun h2 => ?_, fun h2 => ?_⟩)
    · refine Tri.seq (Tri.reg hT ?_)
      refine Tri.ret ?_
      exact ⟨congrArg AV.bool (by simp only [decide_eq_true_eq, decide_eq_false_iff_not] at *; simp [winsB, *]), trivial⟩
    · refine Tri.seq (Tri.reg hT ?_)
      refine (Tri.cond ⟨fun h3 => ?_, fun h3 => ?_⟩)
      · refine Tri.seq (Tri.reg hT ?_)
        refine ⟨_, [], trivial, rfl, rfl, fun h => ⟨rfl, rfl, rfl⟩, ?_⟩
        refine ⟨_, [], trivial, rfl, rfl, fun h => ⟨h, rfl, rfl, rfl⟩, ?_⟩
        refine ⟨_, [], trivial, rfl, rfl, fun h => ⟨rfl, rfl, rfl⟩, ?_⟩
        refine ⟨_, [], trivial, rfl, rfl, fun h => ⟨h, rfl, rfl, rfl⟩, ?_⟩
        refine ⟨_, [], trivial, rfl, rfl, fun h => ⟨h, h, rfl, rfl, rfl⟩, ?_⟩
        refine ⟨_, [], trivial, rfl, rfl, fun h => ⟨h, rfl, rfl, rfl⟩, ?_⟩
        refine ⟨_, [], trivial, rfl, rfl, fun h => ⟨rfl, rfl, rfl⟩, ?_⟩
        refine ⟨_, [], trivial, rfl, rfl, fun h => ⟨h, rfl, rfl, rfl⟩, ?_⟩
        refine ⟨_, [], trivial, rfl, rfl, fun h => ⟨rfl, rfl, rfl⟩, ?_⟩
        refine ⟨_, [], trivial, rfl, rfl, fun h => ⟨h, rfl, rfl, rfl⟩, ?_⟩
        refine ⟨_, [], trivial, rfl, rfl, fun h => ⟨h, h, rfl, rfl, rfl⟩, ?_⟩
        refine ⟨_, [], trivial, rfl, rfl, fun h => ⟨h, ⟨fun hc => ga h hc, fun _ => trivial⟩, rfl, rfl, rfl⟩, ?_⟩
        refine ⟨⟨fun _ => trivial, fun hc => (gn hc)⟩, ?_⟩
        refine Tri.ret ?_
        exact ⟨congrArg AV.bool (by simp only [decide_eq_true_eq, decide_eq_false_iff_not] at *; simp [winsB, *]), trivial⟩
      · refine (Tri.skip ?_)
        refine Tri.seq (Tri.reg hT ?_)
        refine Tri.ret ?_
        exact ⟨congrArg AV.bool (by simp only [decide_eq_true_eq, decide_eq_false_iff_not] at *; simp [winsB, *]), trivial⟩
theorem f61_spec (xs : List Pc) (a : Int) (hl : xs.length ≤ 1099511627776) (hx : ∀ x ∈ xs, InB x) (hs : lenSum xs ≤ 1099511627776) :
    PSpec P [] 61 [.list pT xs, .int .i64 a] (.tup [.str (takeF xs a).1, .list pT (cutL xs (takeF xs a).2)]) := by
  refine pspec_intro hT Tryd.func61 (by decide) rfl rfl (by kernel_rfl) rfl ?_
  refine Tri.seq (Tri.reg hT ?_)
  refine Tri.seq (Tri.reg hT ?_)
  refine Tri.seq (Tri.reg hT ?_)
  refine Tri.seq ?_
  refine Tri.seq (Tri.reg hT ?_)
  refine (Tri.block ?_)
  refine (Tri.loop (ι := Nat) (fun i => ⟨44, 0, 9, [(0, .list pT xs), (6, .own 8 (takeF (xs.take i) a).1.length), (7, .int .i64 (takeF (xs.take i) a).2), (11, .list pT xs), (12, .int .i64 xs.length), (13, .int .i64 (i : Int))], [(8, .arr (.int .u8) (intsOf (takeF (xs.take i) a).1))], []⟩) (fun i => i ≤ xs.length) (fun i => xs.length - i) (0) ?_ ?_ ?_)
  · exact Nat.zero_le _
  · exact Le.trans (Le.own 6 (.int .u8) rfl) (Le.weak rfl rfl rfl rfl ⟨rfl, rfl, rfl, rfl, rfl, rfl, trivial⟩ ⟨rfl, trivial⟩)
  · intro i hi
    refine Tri.seq (Tri.reg hT ?_)
    refine Tri.seq (Tri.cond ⟨fun h1 => ?_, fun h1 => ?_⟩)
    · refine (Tri.skip ?_)
      refine Tri.seq (Tri.block ?_)
      refine Tri.seq (Tri.reg hT ?_)
      refine ⟨by have := of_decide_eq_true h1; omega, ?_⟩
      refine Tri.seq (Tri.reg hT ?_)
      refine ⟨_, [], trivial, rfl, rfl, fun h => ⟨rfl, rfl, rfl⟩, ?_⟩
      refine ⟨_, [], trivial, rfl, rfl, fun h => ⟨h, (.inl ⟨_, fun _ => rfl, f56_spec _ (hx _ (getD_mem (by have := of_decide_eq_true h1; omega))), rfl, rfl, rfl⟩)⟩, ?_⟩
      refine ⟨_, [], trivial, rfl, rfl, fun h => ⟨rfl, rfl, rfl⟩, ?_⟩
      refine ⟨_, [], trivial, rfl, rfl, fun h => ⟨h, h, rfl, rfl, rfl⟩, ?_⟩
      refine ⟨⟨fun hc => hc, fun _ => trivial⟩, ?_⟩
      refine (Tri.cond ⟨fun h2 => ?_, fun h2 => ?_⟩)
      · refine Tri.seq (Tri.reg hT ?_)
        refine ⟨by have h1' := of_decide_eq_true h1; have q1 : pa (xs.getD i (Ty.dflt pT)) ≤ (takeF (xs.take i) a).2 := of_decide_eq_true (gl' h2); have q2 : endP (xs.getD i (Ty.dflt pT)) > (takeF (xs.take i) a).2 := of_decide_eq_true (gr' h2); have hb := hx _ (getD_mem (d := Ty.dflt pT) (show i < xs.length by omega)); have tp := take_piece hb q1 q2; show 0 ≤ IntKind.i64.wrap ((takeF (xs.take i) a).2 - pa (xs.getD i (Ty.dflt pT))) ∧ IntKind.i64.wrap ((takeF (xs.take i) a).2 - pa (xs.getD i (Ty.dflt pT))) ≤ ((pd (xs.getD i (Ty.dflt pT))).length : Int) ∧ ((pd (xs.getD i (Ty.dflt pT))).length : Int) ≤ ((pd (xs.getD i (Ty.dflt pT))).length : Int); rw [tp.1]; exact ⟨tp.2.1, tp.2.2.1, Int.le_refl _⟩, ?_⟩
        refine ⟨by have h1' := of_decide_eq_true h1; have q1 : pa (xs.getD i (Ty.dflt pT)) ≤ (takeF (xs.take i) a).2 := of_decide_eq_true (gl' h2); have q2 : endP (xs.getD i (Ty.dflt pT)) > (takeF (xs.take i) a).2 := of_decide_eq_true (gr' h2); have hb := hx _ (getD_mem (d := Ty.dflt pT) (show i < xs.length by omega)); have tp := take_piece hb q1 q2; have hL := take_len a (xs.take i) ([], a); have hM := lenSum_mono xs (i + 1); have hE := lenSum_take xs i (by omega); simp only [List.length_nil] at hL; have hL' : ((takeF (xs.take i) a).1.length : Int) ≤ lenSum (xs.take i) := (by unfold takeF; omega); show _ ≤ (intsOf _).length ∧ (_ + (intsOf (((pd (xs.getD i (Ty.dflt pT))).take (((pd (xs.getD i (Ty.dflt pT))).length : Nat) : Int).toNat).drop (IntKind.i64.wrap ((takeF (xs.take i) a).2 - pa (xs.getD i (Ty.dflt pT)))).toNat)).length) * 1 ≤ _ ∧ _ + (intsOf (((pd (xs.getD i (Ty.dflt pT))).take (((pd (xs.getD i (Ty.dflt pT))).length : Nat) : Int).toNat).drop (IntKind.i64.wrap ((takeF (xs.take i) a).2 - pa (xs.getD i (Ty.dflt pT)))).toNat)).length ≤ _; rw [tp.2.2.2, intsOf_len, intsOf_len, List.length_drop]; omega, ?_⟩
        refine (Tri.reg hT ?_)
        refine .inl (.inl ⟨_, fun _ => rfl, f56_spec _ (hx _ (getD_mem (by have := of_decide_eq_true h1; omega))), ?_⟩)
        refine (Tri.reg hT ?_)
        have h1' := of_decide_eq_true h1; have q1 : pa (xs.getD i (Ty.dflt pT)) ≤ (takeF (xs.take i) a).2 := of_decide_eq_true (gl' h2); have q2 : endP (xs.getD i (Ty.dflt pT)) > (takeF (xs.take i) a).2 := of_decide_eq_true (gr' h2); have hb := hx _ (getD_mem (d := Ty.dflt pT) (show i < xs.length by omega)); have tp := take_piece hb q1 q2; have e := take_next xs a i (by omega); rw [takeS, if_pos ⟨q1, q2⟩] at e; exact ⟨i + 1, by omega, by omega, Le.weak rfl rfl rfl rfl ⟨rfl, congrArg (AV.own 8) (by show (takeF (xs.take i) a).1.length + (intsOf (((pd (xs.getD i (Ty.dflt pT))).take (((pd (xs.getD i (Ty.dflt pT))).length : Nat) : Int).toNat).drop (IntKind.i64.wrap ((takeF (xs.take i) a).2 - pa (xs.getD i (Ty.dflt pT)))).toNat)).length = _; rw [tp.2.2.2, intsOf_len, e, List.length_append]), congrArg (AV.int .i64) (by rw [e]; rfl), rfl, rfl, iv1 (by omega), trivial⟩ ⟨congrArg (fun l => some (Chunk.arr (.int .u8) l)) (by show (intsOf (takeF (xs.take i) a).1).take (takeF (xs.take i) a).1.length ++ intsOf (((pd (xs.getD i (Ty.dflt pT))).take (((pd (xs.getD i (Ty.dflt pT))).length : Nat) : Int).toNat).drop (IntKind.i64.wrap ((takeF (xs.take i) a).2 - pa (xs.getD i (Ty.dflt pT)))).toNat) = _; rw [tp.2.2.2, e, intsOf_app, ← intsOf_len, List.take_length]), trivial⟩⟩
      · refine (Tri.skip ?_)
        refine (Tri.reg hT ?_)
        have h1' := of_decide_eq_true h1; have e := take_next xs a i (by omega); rw [takeS, if_neg (fun hc => by have : decide (pa (xs.getD i (Ty.dflt pT)) ≤ (takeF (xs.take i) a).2) = true := decide_eq_true hc.1; have h3 : (if decide (pa (xs.getD i (Ty.dflt pT)) ≤ (takeF (xs.take i) a).2) = true then decide (endP (xs.getD i (Ty.dflt pT)) > (takeF (xs.take i) a).2) else false) = false := h2; rw [this, if_pos rfl, decide_eq_true hc.2] at h3; cases h3)] at e; exact ⟨i + 1, by omega, by omega, Le.weak rfl rfl rfl rfl ⟨rfl, congrArg (AV.own 8) (by rw [e]), congrArg (AV.int .i64) (by rw [e]), rfl, rfl, iv1 (by omega), trivial⟩ ⟨congrArg (fun l => some (Chunk.arr (.int .u8) l)) (by rw [e]), trivial⟩⟩
    · refine Tri.exit ?_
      refine Tri.seq (Tri.drw hT hm 6 (by kernel_rfl) ?_)
      refine ⟨by rw [intsOf_len]; exact Nat.le_refl _, ?_⟩
      refine .inl ⟨_, fun _ => rfl, f62_spec _ _ hl hx, ?_⟩
      refine ⟨by kernel_rfl, ?_⟩
      refine Tri.ret ?_
      have h1' := of_decide_eq_false h1; have e : takeF (xs.take i) a = takeF xs a := (by rw [List.take_of_length_le (by omega)]); have e2 : List.map Fw.byteOf ((intsOf (takeF (xs.take i) a).1).take (takeF (xs.take i) a).1.length) = (takeF xs a).1 := (by rw [← intsOf_len, List.take_length, bytes_back, e]); exact ⟨by show AV.tup [.str (List.map Fw.byteOf ((intsOf (takeF (xs.take i) a).1).take (takeF (xs.take i) a).1.length)), .list pT (cutL xs (takeF (xs.take i) a).2)] = _; rw [e2, e], trivial⟩
end Go.Proofs.YtchiagnggnblaaaDoor.Fx
