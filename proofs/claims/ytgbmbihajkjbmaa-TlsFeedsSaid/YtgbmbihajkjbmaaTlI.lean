import Derived.Test.YtgbmbihajkjbmaaTlH
set_option linter.all false
/- Contracts of chapter 32: hellos and chains that are built. -/
namespace Go.Proofs.Ytgbmbihajkjbmaa.Fx
open Go Go.Fw Go.Ov Go.Tl Go.Shelf
theorem verB_len (v : Nat) : (verB v).length ≤ 35 := by
  unfold verB
  rw [List.length_append, List.length_replicate]
  have := putM_len (if v = 772 then 771 else v) 2
  omega
theorem extB_len (k : Nat) (s : List UInt8) (ok : Bool) : (extB k s ok).1.length ≤ 4 + s.length := by
  unfold extB
  rw [List.length_append]
  have := putM_len k 2
  have := cntM_len s 2 ok
  omega
theorem srv1_len (v : Nat) : (srv1 v).1.length ≤ 549755813888 := by
  have hl := verB_len v
  have hp := putM_len v 2
  have hx := extB_len 43 (putM v 2) true
  have hc := cntM_len (extB 43 (putM v 2) true).1 2 (extB 43 (putM v 2) true).2
  have h0 : (srv0 v).length = (verB v).length + 3 := by unfold srv0; rw [List.length_append]; rfl
  unfold srv1
  split
  · rw [List.length_append]; omega
  · show (srv0 v).length ≤ _; omega
set_option maxRecDepth 8000 in
theorem f19_spec (version : Int) : PSpec P [] 19 [.int .i64 version] (.str (serverB version)) := by
  have hv := clampV_rng version
  have he := clampV_eq version
  have hl := verB_len (clampV version)
  refine pspec_intro hT Try.func19 (by decide) rfl rfl (by kernel_rfl) rfl ?_
  refine Tri.seq (Tri.reg hT ?_)
  refine Tri.seq (Tri.reg hT ?_)
  skip
  refine Tri.le (⟨22, 0, 20, [(0, .int .i64 ((clampV version : Nat) : Int))], [], []⟩) (Le.weak rfl rfl rfl rfl ⟨congrArg (AV.int .i64) he.symm, trivial⟩ trivial) ?_
  refine Tri.seq (Tri.reg hT ?_)
  refine Tri.seq (Tri.reg hT ?_)
  refine .inl (.inl ⟨_, fun _ => rfl, f35_spec (clampV version) (by omega), ?_⟩)
  refine ⟨by show _ + 3 ≤ _; omega, ?_⟩
  refine Tri.seq ?_
  refine Tri.seq (Tri.reg hT ?_)
  refine (Tri.cond ⟨fun h1 => ?_, fun h1 => ?_⟩)
  · have q : clampV version = 772 := (by have := of_decide_eq_true h1; omega); have hp := putM_len (clampV version) 2; have hx := extB_len 43 (putM (clampV version) 2) true; have hc := cntM_len (extB 43 (putM (clampV version) 2) true).1 2 (extB 43 (putM (clampV version) 2) true).2
    refine Tri.le (⟨22, 0, 60, [(0, .int .i64 ((clampV version : Nat) : Int)), (3, .loc 20 0), (4, .str (srv0 (clampV version)))], [(20, .box [.bool true])], []⟩) (Le.weak rfl rfl rfl rfl ⟨(by first | rfl | exact iv1 (by (try simp only [decide_eq_true_eq, decide_eq_false_iff_not, toNat_cast] at *); omega)), (by first | rfl | exact iv1 (by (try simp only [decide_eq_true_eq, decide_eq_false_iff_not, toNat_cast] at *); omega)), (by first | rfl | exact iv1 (by (try simp only [decide_eq_true_eq, decide_eq_false_iff_not, toNat_cast] at *); omega)), trivial⟩ ⟨rfl, trivial⟩) ?_
    refine (Tri.regM hT [3, 4] ?_)
    refine .inl (.inl ⟨_, fun _ => rfl, f28_spec (clampV version) 2 (by decide) (by omega), ?_⟩)
    refine ⟨_, Le.refl _, .inl (.inr (OpTri.hcall 1 rfl rfl rfl (f34_spec 43 (putM (clampV version) 2) true (by decide) (by omega) 20) trivial ⟨rfl, trivial⟩ rfl ?_))⟩
    refine ⟨_, Le.refl _, .inl (.inr (OpTri.hcall 1 rfl rfl rfl (f33_spec (extB 43 (putM (clampV version) 2) true).1 2 (extB 43 (putM (clampV version) 2) true).2 (by decide) (by omega) 20) trivial ⟨rfl, trivial⟩ rfl ?_))⟩
    refine ⟨by unfold srv0; rw [List.length_append]; show _ + 3 + _ ≤ _; omega, ?_⟩
    have eS : srv1 (clampV version) = srv1 (clampV version) := rfl
    refine Tri.le (⟨22, 0, 90, [(3, .loc 20 0), (4, .str (srv1 (clampV version)).1)], [(20, .box [.bool (srv1 (clampV version)).2])], []⟩) (Le.weak rfl rfl rfl rfl ⟨(by first | rfl | exact iv1 (by (try simp only [decide_eq_true_eq, decide_eq_false_iff_not, toNat_cast] at *); omega)), congrArg AV.str (by unfold srv1; first | rw [if_pos (by have := of_decide_eq_true h1; omega)] | (rw [if_neg (by have := of_decide_eq_false h1; omega)]; rfl)), trivial⟩ ⟨congrArg (fun b => some (Chunk.box [.bool b])) (by unfold srv1; first | rw [if_pos (by have := of_decide_eq_true h1; omega)] | rw [if_neg (by have := of_decide_eq_false h1; omega)]), trivial⟩) ?_
    refine Tri.seq (Tri.reg hT ?_)
    refine .inl (.inl ⟨_, fun _ => rfl, f36_spec 2 (srv1 (clampV version)).1 (srv1 (clampV version)).2 (by decide) (srv1_len _), ?_⟩)
    refine Tri.ret ?_
    exact ⟨rfl, trivial⟩
  · refine (Tri.skip ?_)
    have eS : srv1 (clampV version) = srv1 (clampV version) := rfl
    refine Tri.le (⟨22, 0, 90, [(3, .loc 20 0), (4, .str (srv1 (clampV version)).1)], [(20, .box [.bool (srv1 (clampV version)).2])], []⟩) (Le.weak rfl rfl rfl rfl ⟨(by first | rfl | exact iv1 (by (try simp only [decide_eq_true_eq, decide_eq_false_iff_not, toNat_cast] at *); omega)), congrArg AV.str (by unfold srv1; first | rw [if_pos (by have := of_decide_eq_true h1; omega)] | (rw [if_neg (by have := of_decide_eq_false h1; omega)]; rfl)), trivial⟩ ⟨congrArg (fun b => some (Chunk.box [.bool b])) (by unfold srv1; first | rw [if_pos (by have := of_decide_eq_true h1; omega)] | rw [if_neg (by have := of_decide_eq_false h1; omega)]), trivial⟩) ?_
    refine Tri.seq (Tri.reg hT ?_)
    refine .inl (.inl ⟨_, fun _ => rfl, f36_spec 2 (srv1 (clampV version)).1 (srv1 (clampV version)).2 (by decide) (srv1_len _), ?_⟩)
    refine Tri.ret ?_
    exact ⟨rfl, trivial⟩
theorem cl0_len (name : List UInt8) : (cl0 name).1.length ≤ 5 + name.length := by
  have h1 := cntM_len name 2 true
  have h2 := cntM_len ([0] ++ (cntM name 2 true).1) 2 (cntM name 2 true).2
  rw [List.length_append] at h2
  unfold cl0
  simp only [List.length_cons, List.length_nil] at h2
  omega
theorem cl1_len (name : List UInt8) : (cl1 name).1.length ≤ 9 + name.length := by
  have h0 := cl0_len name
  have h1 := extB_len 0 (cl0 name).1 (cl0 name).2
  unfold cl1
  split
  · omega
  · simp
theorem clv_len (v : Nat) (x : List UInt8 × Bool) : (clv v x).1.length ≤ 7 := by
  have h0 := putM_len v 2
  have h1 := cntM_len (putM v 2) 1 x.2
  have h2 := extB_len 43 (cntM (putM v 2) 1 x.2).1 (cntM (putM v 2) 1 x.2).2
  unfold clv
  omega
theorem cl2_len (v : Nat) (x : List UInt8 × Bool) : (cl2 v x).1.length ≤ 7 + x.1.length := by
  have := clv_len v x
  unfold cl2
  split
  · rw [List.length_append]; omega
  · omega
theorem cl3_len (v : Nat) : (cl3 v).length ≤ 41 := by
  have := verB_len v
  unfold cl3
  simp only [List.length_append, List.length_cons, List.length_nil]
  omega
theorem cl4_len (v : Nat) (x : List UInt8 × Bool) : (cl4 v x).1.length ≤ 43 + x.1.length := by
  have h1 := cl3_len v
  have h2 := cntM_len x.1 2 x.2
  unfold cl4
  split
  · rw [List.length_append]; omega
  · dsimp only; omega
theorem cv {n : Nat} (h : decide ((n : Int) = 772) = true) : n = 772 := by have := of_decide_eq_true h; omega
theorem cw {n : Nat} (h : decide ((n : Int) = 772) = false) : ¬ n = 772 := by have := of_decide_eq_false h; omega
set_option maxRecDepth 8000 in
theorem f17_spec (version : Int) (name : List UInt8) (hn : name.length ≤ 1073741824) : PSpec P [] 17 [.int .i64 version, .str name] (.str (clientB version name)) := by
  have hv := clampV_rng version
  have he := clampV_eq version
  have hl := verB_len (clampV version)
  have q0 := cl0_len name
  have q1 := cl1_len name
  have q2 := cl2_len (clampV version) (cl1 name)
  have q4 := cl4_len (clampV version) (cl2 (clampV version) (cl1 name))
  have q5 := cntM_len name 2 true
  refine pspec_intro hT Try.func17 (by decide) rfl rfl (by kernel_rfl) rfl ?_
  refine Tri.seq (Tri.reg hT ?_)
  refine Tri.seq (Tri.reg hT ?_)
  skip
  refine Tri.le (⟨41, 0, 20, [(0, .int .i64 ((clampV version : Nat) : Int)), (1, .str name)], [], []⟩) (Le.weak rfl rfl rfl rfl ⟨congrArg (AV.int .i64) he.symm, (by first | rfl | exact iv1 (by (try simp only [decide_eq_true_eq, decide_eq_false_iff_not, toNat_cast] at *); omega)), trivial⟩ trivial) ?_
  refine Tri.seq (Tri.reg hT ?_)
  refine Tri.seq (Tri.reg hT ?_)
  refine Tri.seq ?_
  refine Tri.seq (Tri.reg hT ?_)
  refine (Tri.cond ⟨fun h1 => ?_, fun h1 => ?_⟩)
  · refine Tri.seq (Tri.regM hT [1] ?_)
    refine ⟨_, Le.refl _, .inl (.inr (OpTri.hcall 1 rfl rfl rfl (f33_spec name 2 true (by decide) (by omega) 20) trivial ⟨rfl, trivial⟩ rfl ?_))⟩
    refine ⟨by show 1 + _ ≤ _; omega, ?_⟩
    skip
    refine Tri.le (⟨41, 0, 60, [(0, .int .i64 ((clampV version : Nat) : Int)), (1, .str name), (5, .loc 20 0), (7, .str ([0] ++ (cntM name 2 true).1))], [(20, .box [.bool (cntM name 2 true).2])], []⟩) (Le.weak rfl rfl rfl rfl ⟨(by first | rfl | exact iv1 (by (try simp only [decide_eq_true_eq, decide_eq_false_iff_not, toNat_cast] at *); omega)), (by first | rfl | exact iv1 (by (try simp only [decide_eq_true_eq, decide_eq_false_iff_not, toNat_cast] at *); omega)), (by first | rfl | exact iv1 (by (try simp only [decide_eq_true_eq, decide_eq_false_iff_not, toNat_cast] at *); omega)), (by first | rfl | exact iv1 (by (try simp only [decide_eq_true_eq, decide_eq_false_iff_not, toNat_cast] at *); omega)), trivial⟩ ⟨rfl, trivial⟩) ?_
    refine (Tri.regM hT [1, 2] ?_)
    refine ⟨_, Le.refl _, .inl (.inr (OpTri.hcall 1 rfl rfl rfl (f33_spec ([0] ++ (cntM name 2 true).1) 2 (cntM name 2 true).2 (by decide) (by rw [List.length_append]; show 1 + _ ≤ _; omega) 20) trivial ⟨rfl, trivial⟩ rfl ?_))⟩
    refine ⟨_, Le.refl _, .inl (.inr (OpTri.hcall 1 rfl rfl rfl (f34_spec 0 (cl0 name).1 (cl0 name).2 (by decide) (by omega) 20) trivial ⟨rfl, trivial⟩ rfl ?_))⟩
    refine Tri.seq ?_
    skip
    refine Tri.le (⟨41, 0, 90, [(0, .int .i64 ((clampV version : Nat) : Int)), (5, .loc 20 0), (6, .str (cl1 name).1)], [(20, .box [.bool (cl1 name).2])], []⟩) (Le.weak rfl rfl rfl rfl ⟨(by first | rfl | exact iv1 (by (try simp only [decide_eq_true_eq, decide_eq_false_iff_not, toNat_cast] at *); omega)), (by first | rfl | exact iv1 (by (try simp only [decide_eq_true_eq, decide_eq_false_iff_not, toNat_cast] at *); omega)), congrArg AV.str (by unfold cl1; first | rw [if_pos (of_decide_eq_true h1)] | (rw [if_neg (of_decide_eq_false h1)]; try rfl)), trivial⟩ ⟨congrArg (fun b => some (Chunk.box [.bool b])) (by unfold cl1; first | rw [if_pos (of_decide_eq_true h1)] | rw [if_neg (of_decide_eq_false h1)]), trivial⟩) ?_
    refine Tri.seq (Tri.reg hT ?_)
    refine (Tri.cond ⟨fun h2 => ?_, fun h2 => ?_⟩)
    · have hp := putM_len (clampV version) 2; have hcc := cntM_len (putM (clampV version) 2) 1 (cl1 name).2; have hcv := clv_len (clampV version) (cl1 name)
      refine (Tri.regM hT [3, 4] ?_)
      refine .inl (.inl ⟨_, fun _ => rfl, f28_spec (clampV version) 2 (by decide) (by omega), ?_⟩)
      refine ⟨_, Le.refl _, .inl (.inr (OpTri.hcall 1 rfl rfl rfl (f33_spec (putM (clampV version) 2) 1 (cl1 name).2 (by decide) (by omega) 20) trivial ⟨rfl, trivial⟩ rfl ?_))⟩
      refine ⟨_, Le.refl _, .inl (.inr (OpTri.hcall 1 rfl rfl rfl (f34_spec 43 (cntM (putM (clampV version) 2) 1 (cl1 name).2).1 (cntM (putM (clampV version) 2) 1 (cl1 name).2).2 (by decide) (by omega) 20) trivial ⟨rfl, trivial⟩ rfl ?_))⟩
      refine ⟨by have : (extB 43 (cntM (putM (clampV version) 2) 1 (cl1 name).2).1 (cntM (putM (clampV version) 2) 1 (cl1 name).2).2).1.length ≤ 7 := hcv; omega, ?_⟩
      have q9 := True.intro
      refine Tri.le (⟨41, 0, 120, [(0, .int .i64 ((clampV version : Nat) : Int)), (5, .loc 20 0), (6, .str (cl2 (clampV version) (cl1 name)).1)], [(20, .box [.bool (cl2 (clampV version) (cl1 name)).2])], []⟩) (Le.weak rfl rfl rfl rfl ⟨(by first | rfl | exact iv1 (by (try simp only [decide_eq_true_eq, decide_eq_false_iff_not, toNat_cast] at *); omega)), (by first | rfl | exact iv1 (by (try simp only [decide_eq_true_eq, decide_eq_false_iff_not, toNat_cast] at *); omega)), congrArg AV.str (by unfold cl2; first | (rw [if_pos (cv h2)]; try rfl) | (rw [if_neg (cw h2)]) | (rw [if_pos (cv h5)]; try rfl) | (rw [if_neg (cw h5)])), trivial⟩ ⟨congrArg (fun b => some (Chunk.box [.bool b])) (by unfold cl2; first | (rw [if_pos (cv h2)]; try rfl) | (rw [if_neg (cw h2)]) | (rw [if_pos (cv h5)]; try rfl) | (rw [if_neg (cw h5)])), trivial⟩) ?_
      refine Tri.seq (Tri.reg hT ?_)
      refine .inl (.inl ⟨_, fun _ => rfl, f35_spec (clampV version) (by omega), ?_⟩)
      refine ⟨by show _ + 4 ≤ _; omega, ?_⟩
      refine ⟨by rw [List.length_append]; show _ + 4 + 2 ≤ _; omega, ?_⟩
      refine Tri.seq ?_
      have q3 := cl3_len (clampV version)
      refine Tri.le (⟨41, 0, 150, [(5, .loc 20 0), (6, .str (cl2 (clampV version) (cl1 name)).1), (8, .str (cl3 (clampV version)))], [(20, .box [.bool (cl2 (clampV version) (cl1 name)).2])], []⟩) (Le.weak rfl rfl rfl rfl ⟨(by first | rfl | exact iv1 (by (try simp only [decide_eq_true_eq, decide_eq_false_iff_not, toNat_cast] at *); omega)), (by first | rfl | exact iv1 (by (try simp only [decide_eq_true_eq, decide_eq_false_iff_not, toNat_cast] at *); omega)), (by first | rfl | exact iv1 (by (try simp only [decide_eq_true_eq, decide_eq_false_iff_not, toNat_cast] at *); omega)), trivial⟩ ⟨rfl, trivial⟩) ?_
      refine Tri.seq (Tri.reg hT ?_)
      refine (Tri.cond ⟨fun h3 => ?_, fun h3 => ?_⟩)
      · refine (Tri.regM hT [2] ?_)
        refine ⟨_, Le.refl _, .inl (.inr (OpTri.hcall 1 rfl rfl rfl (f33_spec (cl2 (clampV version) (cl1 name)).1 2 (cl2 (clampV version) (cl1 name)).2 (by decide) (by omega) 20) trivial ⟨rfl, trivial⟩ rfl ?_))⟩
        refine ⟨by have := cntM_len (cl2 (clampV version) (cl1 name)).1 2 (cl2 (clampV version) (cl1 name)).2; omega, ?_⟩
        skip
        refine Tri.le (⟨41, 0, 200, [(5, .loc 20 0), (8, .str (cl4 (clampV version) (cl2 (clampV version) (cl1 name))).1)], [(20, .box [.bool (cl4 (clampV version) (cl2 (clampV version) (cl1 name))).2])], []⟩) (Le.weak rfl rfl rfl rfl ⟨(by first | rfl | exact iv1 (by (try simp only [decide_eq_true_eq, decide_eq_false_iff_not, toNat_cast] at *); omega)), congrArg AV.str (by unfold cl4; first | rw [if_pos (of_decide_eq_true h3)] | rw [if_neg (of_decide_eq_false h3)] | rw [if_pos (of_decide_eq_true h4)] | rw [if_neg (of_decide_eq_false h4)] | rw [if_pos (of_decide_eq_true h6)] | rw [if_neg (of_decide_eq_false h6)] | rw [if_pos (of_decide_eq_true h7)] | rw [if_neg (of_decide_eq_false h7)]), trivial⟩ ⟨congrArg (fun b => some (Chunk.box [.bool b])) (by unfold cl4; first | rw [if_pos (of_decide_eq_true h3)] | rw [if_neg (of_decide_eq_false h3)] | rw [if_pos (of_decide_eq_true h4)] | rw [if_neg (of_decide_eq_false h4)] | rw [if_pos (of_decide_eq_true h6)] | rw [if_neg (of_decide_eq_false h6)] | rw [if_pos (of_decide_eq_true h7)] | rw [if_neg (of_decide_eq_false h7)]), trivial⟩) ?_
        refine Tri.seq (Tri.reg hT ?_)
        refine .inl (.inl ⟨_, fun _ => rfl, f36_spec 1 (cl4 (clampV version) (cl2 (clampV version) (cl1 name))).1 (cl4 (clampV version) (cl2 (clampV version) (cl1 name))).2 (by decide) (by omega), ?_⟩)
        refine Tri.ret ?_
        exact ⟨rfl, trivial⟩
      · refine (Tri.skip ?_)
        skip
        refine Tri.le (⟨41, 0, 200, [(5, .loc 20 0), (8, .str (cl4 (clampV version) (cl2 (clampV version) (cl1 name))).1)], [(20, .box [.bool (cl4 (clampV version) (cl2 (clampV version) (cl1 name))).2])], []⟩) (Le.weak rfl rfl rfl rfl ⟨(by first | rfl | exact iv1 (by (try simp only [decide_eq_true_eq, decide_eq_false_iff_not, toNat_cast] at *); omega)), congrArg AV.str (by unfold cl4; first | rw [if_pos (of_decide_eq_true h3)] | rw [if_neg (of_decide_eq_false h3)] | rw [if_pos (of_decide_eq_true h4)] | rw [if_neg (of_decide_eq_false h4)] | rw [if_pos (of_decide_eq_true h6)] | rw [if_neg (of_decide_eq_false h6)] | rw [if_pos (of_decide_eq_true h7)] | rw [if_neg (of_decide_eq_false h7)]), trivial⟩ ⟨congrArg (fun b => some (Chunk.box [.bool b])) (by unfold cl4; first | rw [if_pos (of_decide_eq_true h3)] | rw [if_neg (of_decide_eq_false h3)] | rw [if_pos (of_decide_eq_true h4)] | rw [if_neg (of_decide_eq_false h4)] | rw [if_pos (of_decide_eq_true h6)] | rw [if_neg (of_decide_eq_false h6)] | rw [if_pos (of_decide_eq_true h7)] | rw [if_neg (of_decide_eq_false h7)]), trivial⟩) ?_
        refine Tri.seq (Tri.reg hT ?_)
        refine .inl (.inl ⟨_, fun _ => rfl, f36_spec 1 (cl4 (clampV version) (cl2 (clampV version) (cl1 name))).1 (cl4 (clampV version) (cl2 (clampV version) (cl1 name))).2 (by decide) (by omega), ?_⟩)
        refine Tri.ret ?_
        exact ⟨rfl, trivial⟩
    · refine (Tri.skip ?_)
      have q9 := True.intro
      refine Tri.le (⟨41, 0, 120, [(0, .int .i64 ((clampV version : Nat) : Int)), (5, .loc 20 0), (6, .str (cl2 (clampV version) (cl1 name)).1)], [(20, .box [.bool (cl2 (clampV version) (cl1 name)).2])], []⟩) (Le.weak rfl rfl rfl rfl ⟨(by first | rfl | exact iv1 (by (try simp only [decide_eq_true_eq, decide_eq_false_iff_not, toNat_cast] at *); omega)), (by first | rfl | exact iv1 (by (try simp only [decide_eq_true_eq, decide_eq_false_iff_not, toNat_cast] at *); omega)), congrArg AV.str (by unfold cl2; first | (rw [if_pos (cv h2)]; try rfl) | (rw [if_neg (cw h2)]) | (rw [if_pos (cv h5)]; try rfl) | (rw [if_neg (cw h5)])), trivial⟩ ⟨congrArg (fun b => some (Chunk.box [.bool b])) (by unfold cl2; first | (rw [if_pos (cv h2)]; try rfl) | (rw [if_neg (cw h2)]) | (rw [if_pos (cv h5)]; try rfl) | (rw [if_neg (cw h5)])), trivial⟩) ?_
      refine Tri.seq (Tri.reg hT ?_)
      refine .inl (.inl ⟨_, fun _ => rfl, f35_spec (clampV version) (by omega), ?_⟩)
      refine ⟨by show _ + 4 ≤ _; omega, ?_⟩
      refine ⟨by rw [List.length_append]; show _ + 4 + 2 ≤ _; omega, ?_⟩
      refine Tri.seq ?_
      have q3 := cl3_len (clampV version)
      refine Tri.le (⟨41, 0, 150, [(5, .loc 20 0), (6, .str (cl2 (clampV version) (cl1 name)).1), (8, .str (cl3 (clampV version)))], [(20, .box [.bool (cl2 (clampV version) (cl1 name)).2])], []⟩) (Le.weak rfl rfl rfl rfl ⟨(by first | rfl | exact iv1 (by (try simp only [decide_eq_true_eq, decide_eq_false_iff_not, toNat_cast] at *); omega)), (by first | rfl | exact iv1 (by (try simp only [decide_eq_true_eq, decide_eq_false_iff_not, toNat_cast] at *); omega)), (by first | rfl | exact iv1 (by (try simp only [decide_eq_true_eq, decide_eq_false_iff_not, toNat_cast] at *); omega)), trivial⟩ ⟨rfl, trivial⟩) ?_
      refine Tri.seq (Tri.reg hT ?_)
      refine (Tri.cond ⟨fun h4 => ?_, fun h4 => ?_⟩)
      · refine (Tri.regM hT [2] ?_)
        refine ⟨_, Le.refl _, .inl (.inr (OpTri.hcall 1 rfl rfl rfl (f33_spec (cl2 (clampV version) (cl1 name)).1 2 (cl2 (clampV version) (cl1 name)).2 (by decide) (by omega) 20) trivial ⟨rfl, trivial⟩ rfl ?_))⟩
        refine ⟨by have := cntM_len (cl2 (clampV version) (cl1 name)).1 2 (cl2 (clampV version) (cl1 name)).2; omega, ?_⟩
        skip
        refine Tri.le (⟨41, 0, 200, [(5, .loc 20 0), (8, .str (cl4 (clampV version) (cl2 (clampV version) (cl1 name))).1)], [(20, .box [.bool (cl4 (clampV version) (cl2 (clampV version) (cl1 name))).2])], []⟩) (Le.weak rfl rfl rfl rfl ⟨(by first | rfl | exact iv1 (by (try simp only [decide_eq_true_eq, decide_eq_false_iff_not, toNat_cast] at *); omega)), congrArg AV.str (by unfold cl4; first | rw [if_pos (of_decide_eq_true h3)] | rw [if_neg (of_decide_eq_false h3)] | rw [if_pos (of_decide_eq_true h4)] | rw [if_neg (of_decide_eq_false h4)] | rw [if_pos (of_decide_eq_true h6)] | rw [if_neg (of_decide_eq_false h6)] | rw [if_pos (of_decide_eq_true h7)] | rw [if_neg (of_decide_eq_false h7)]), trivial⟩ ⟨congrArg (fun b => some (Chunk.box [.bool b])) (by unfold cl4; first | rw [if_pos (of_decide_eq_true h3)] | rw [if_neg (of_decide_eq_false h3)] | rw [if_pos (of_decide_eq_true h4)] | rw [if_neg (of_decide_eq_false h4)] | rw [if_pos (of_decide_eq_true h6)] | rw [if_neg (of_decide_eq_false h6)] | rw [if_pos (of_decide_eq_true h7)] | rw [if_neg (of_decide_eq_false h7)]), trivial⟩) ?_
        refine Tri.seq (Tri.reg hT ?_)
        refine .inl (.inl ⟨_, fun _ => rfl, f36_spec 1 (cl4 (clampV version) (cl2 (clampV version) (cl1 name))).1 (cl4 (clampV version) (cl2 (clampV version) (cl1 name))).2 (by decide) (by omega), ?_⟩)
        refine Tri.ret ?_
        exact ⟨rfl, trivial⟩
      · refine (Tri.skip ?_)
        skip
        refine Tri.le (⟨41, 0, 200, [(5, .loc 20 0), (8, .str (cl4 (clampV version) (cl2 (clampV version) (cl1 name))).1)], [(20, .box [.bool (cl4 (clampV version) (cl2 (clampV version) (cl1 name))).2])], []⟩) (Le.weak rfl rfl rfl rfl ⟨(by first | rfl | exact iv1 (by (try simp only [decide_eq_true_eq, decide_eq_false_iff_not, toNat_cast] at *); omega)), congrArg AV.str (by unfold cl4; first | rw [if_pos (of_decide_eq_true h3)] | rw [if_neg (of_decide_eq_false h3)] | rw [if_pos (of_decide_eq_true h4)] | rw [if_neg (of_decide_eq_false h4)] | rw [if_pos (of_decide_eq_true h6)] | rw [if_neg (of_decide_eq_false h6)] | rw [if_pos (of_decide_eq_true h7)] | rw [if_neg (of_decide_eq_false h7)]), trivial⟩ ⟨congrArg (fun b => some (Chunk.box [.bool b])) (by unfold cl4; first | rw [if_pos (of_decide_eq_true h3)] | rw [if_neg (of_decide_eq_false h3)] | rw [if_pos (of_decide_eq_true h4)] | rw [if_neg (of_decide_eq_false h4)] | rw [if_pos (of_decide_eq_true h6)] | rw [if_neg (of_decide_eq_false h6)] | rw [if_pos (of_decide_eq_true h7)] | rw [if_neg (of_decide_eq_false h7)]), trivial⟩) ?_
        refine Tri.seq (Tri.reg hT ?_)
        refine .inl (.inl ⟨_, fun _ => rfl, f36_spec 1 (cl4 (clampV version) (cl2 (clampV version) (cl1 name))).1 (cl4 (clampV version) (cl2 (clampV version) (cl1 name))).2 (by decide) (by omega), ?_⟩)
        refine Tri.ret ?_
        exact ⟨rfl, trivial⟩
  · refine (Tri.skip ?_)
    refine Tri.seq ?_
    skip
    refine Tri.le (⟨41, 0, 90, [(0, .int .i64 ((clampV version : Nat) : Int)), (5, .loc 20 0), (6, .str (cl1 name).1)], [(20, .box [.bool (cl1 name).2])], []⟩) (Le.weak rfl rfl rfl rfl ⟨(by first | rfl | exact iv1 (by (try simp only [decide_eq_true_eq, decide_eq_false_iff_not, toNat_cast] at *); omega)), (by first | rfl | exact iv1 (by (try simp only [decide_eq_true_eq, decide_eq_false_iff_not, toNat_cast] at *); omega)), congrArg AV.str (by unfold cl1; first | rw [if_pos (of_decide_eq_true h1)] | (rw [if_neg (of_decide_eq_false h1)]; try rfl)), trivial⟩ ⟨congrArg (fun b => some (Chunk.box [.bool b])) (by unfold cl1; first | rw [if_pos (of_decide_eq_true h1)] | rw [if_neg (of_decide_eq_false h1)]), trivial⟩) ?_
    refine Tri.seq (Tri.reg hT ?_)
    refine (Tri.cond ⟨fun h5 => ?_, fun h5 => ?_⟩)
    · have hp := putM_len (clampV version) 2; have hcc := cntM_len (putM (clampV version) 2) 1 (cl1 name).2; have hcv := clv_len (clampV version) (cl1 name)
      refine (Tri.regM hT [3, 4] ?_)
      refine .inl (.inl ⟨_, fun _ => rfl, f28_spec (clampV version) 2 (by decide) (by omega), ?_⟩)
      refine ⟨_, Le.refl _, .inl (.inr (OpTri.hcall 1 rfl rfl rfl (f33_spec (putM (clampV version) 2) 1 (cl1 name).2 (by decide) (by omega) 20) trivial ⟨rfl, trivial⟩ rfl ?_))⟩
      refine ⟨_, Le.refl _, .inl (.inr (OpTri.hcall 1 rfl rfl rfl (f34_spec 43 (cntM (putM (clampV version) 2) 1 (cl1 name).2).1 (cntM (putM (clampV version) 2) 1 (cl1 name).2).2 (by decide) (by omega) 20) trivial ⟨rfl, trivial⟩ rfl ?_))⟩
      refine ⟨by have : (extB 43 (cntM (putM (clampV version) 2) 1 (cl1 name).2).1 (cntM (putM (clampV version) 2) 1 (cl1 name).2).2).1.length ≤ 7 := hcv; omega, ?_⟩
      have q9 := True.intro
      refine Tri.le (⟨41, 0, 120, [(0, .int .i64 ((clampV version : Nat) : Int)), (5, .loc 20 0), (6, .str (cl2 (clampV version) (cl1 name)).1)], [(20, .box [.bool (cl2 (clampV version) (cl1 name)).2])], []⟩) (Le.weak rfl rfl rfl rfl ⟨(by first | rfl | exact iv1 (by (try simp only [decide_eq_true_eq, decide_eq_false_iff_not, toNat_cast] at *); omega)), (by first | rfl | exact iv1 (by (try simp only [decide_eq_true_eq, decide_eq_false_iff_not, toNat_cast] at *); omega)), congrArg AV.str (by unfold cl2; first | (rw [if_pos (cv h2)]; try rfl) | (rw [if_neg (cw h2)]) | (rw [if_pos (cv h5)]; try rfl) | (rw [if_neg (cw h5)])), trivial⟩ ⟨congrArg (fun b => some (Chunk.box [.bool b])) (by unfold cl2; first | (rw [if_pos (cv h2)]; try rfl) | (rw [if_neg (cw h2)]) | (rw [if_pos (cv h5)]; try rfl) | (rw [if_neg (cw h5)])), trivial⟩) ?_
      refine Tri.seq (Tri.reg hT ?_)
      refine .inl (.inl ⟨_, fun _ => rfl, f35_spec (clampV version) (by omega), ?_⟩)
      refine ⟨by show _ + 4 ≤ _; omega, ?_⟩
      refine ⟨by rw [List.length_append]; show _ + 4 + 2 ≤ _; omega, ?_⟩
      refine Tri.seq ?_
      have q3 := cl3_len (clampV version)
      refine Tri.le (⟨41, 0, 150, [(5, .loc 20 0), (6, .str (cl2 (clampV version) (cl1 name)).1), (8, .str (cl3 (clampV version)))], [(20, .box [.bool (cl2 (clampV version) (cl1 name)).2])], []⟩) (Le.weak rfl rfl rfl rfl ⟨(by first | rfl | exact iv1 (by (try simp only [decide_eq_true_eq, decide_eq_false_iff_not, toNat_cast] at *); omega)), (by first | rfl | exact iv1 (by (try simp only [decide_eq_true_eq, decide_eq_false_iff_not, toNat_cast] at *); omega)), (by first | rfl | exact iv1 (by (try simp only [decide_eq_true_eq, decide_eq_false_iff_not, toNat_cast] at *); omega)), trivial⟩ ⟨rfl, trivial⟩) ?_
      refine Tri.seq (Tri.reg hT ?_)
      refine (Tri.cond ⟨fun h6 => ?_, fun h6 => ?_⟩)
      · refine (Tri.regM hT [2] ?_)
        refine ⟨_, Le.refl _, .inl (.inr (OpTri.hcall 1 rfl rfl rfl (f33_spec (cl2 (clampV version) (cl1 name)).1 2 (cl2 (clampV version) (cl1 name)).2 (by decide) (by omega) 20) trivial ⟨rfl, trivial⟩ rfl ?_))⟩
        refine ⟨by have := cntM_len (cl2 (clampV version) (cl1 name)).1 2 (cl2 (clampV version) (cl1 name)).2; omega, ?_⟩
        skip
        refine Tri.le (⟨41, 0, 200, [(5, .loc 20 0), (8, .str (cl4 (clampV version) (cl2 (clampV version) (cl1 name))).1)], [(20, .box [.bool (cl4 (clampV version) (cl2 (clampV version) (cl1 name))).2])], []⟩) (Le.weak rfl rfl rfl rfl ⟨(by first | rfl | exact iv1 (by (try simp only [decide_eq_true_eq, decide_eq_false_iff_not, toNat_cast] at *); omega)), congrArg AV.str (by unfold cl4; first | rw [if_pos (of_decide_eq_true h3)] | rw [if_neg (of_decide_eq_false h3)] | rw [if_pos (of_decide_eq_true h4)] | rw [if_neg (of_decide_eq_false h4)] | rw [if_pos (of_decide_eq_true h6)] | rw [if_neg (of_decide_eq_false h6)] | rw [if_pos (of_decide_eq_true h7)] | rw [if_neg (of_decide_eq_false h7)]), trivial⟩ ⟨congrArg (fun b => some (Chunk.box [.bool b])) (by unfold cl4; first | rw [if_pos (of_decide_eq_true h3)] | rw [if_neg (of_decide_eq_false h3)] | rw [if_pos (of_decide_eq_true h4)] | rw [if_neg (of_decide_eq_false h4)] | rw [if_pos (of_decide_eq_true h6)] | rw [if_neg (of_decide_eq_false h6)] | rw [if_pos (of_decide_eq_true h7)] | rw [if_neg (of_decide_eq_false h7)]), trivial⟩) ?_
        refine Tri.seq (Tri.reg hT ?_)
        refine .inl (.inl ⟨_, fun _ => rfl, f36_spec 1 (cl4 (clampV version) (cl2 (clampV version) (cl1 name))).1 (cl4 (clampV version) (cl2 (clampV version) (cl1 name))).2 (by decide) (by omega), ?_⟩)
        refine Tri.ret ?_
        exact ⟨rfl, trivial⟩
      · refine (Tri.skip ?_)
        skip
        refine Tri.le (⟨41, 0, 200, [(5, .loc 20 0), (8, .str (cl4 (clampV version) (cl2 (clampV version) (cl1 name))).1)], [(20, .box [.bool (cl4 (clampV version) (cl2 (clampV version) (cl1 name))).2])], []⟩) (Le.weak rfl rfl rfl rfl ⟨(by first | rfl | exact iv1 (by (try simp only [decide_eq_true_eq, decide_eq_false_iff_not, toNat_cast] at *); omega)), congrArg AV.str (by unfold cl4; first | rw [if_pos (of_decide_eq_true h3)] | rw [if_neg (of_decide_eq_false h3)] | rw [if_pos (of_decide_eq_true h4)] | rw [if_neg (of_decide_eq_false h4)] | rw [if_pos (of_decide_eq_true h6)] | rw [if_neg (of_decide_eq_false h6)] | rw [if_pos (of_decide_eq_true h7)] | rw [if_neg (of_decide_eq_false h7)]), trivial⟩ ⟨congrArg (fun b => some (Chunk.box [.bool b])) (by unfold cl4; first | rw [if_pos (of_decide_eq_true h3)] | rw [if_neg (of_decide_eq_false h3)] | rw [if_pos (of_decide_eq_true h4)] | rw [if_neg (of_decide_eq_false h4)] | rw [if_pos (of_decide_eq_true h6)] | rw [if_neg (of_decide_eq_false h6)] | rw [if_pos (of_decide_eq_true h7)] | rw [if_neg (of_decide_eq_false h7)]), trivial⟩) ?_
        refine Tri.seq (Tri.reg hT ?_)
        refine .inl (.inl ⟨_, fun _ => rfl, f36_spec 1 (cl4 (clampV version) (cl2 (clampV version) (cl1 name))).1 (cl4 (clampV version) (cl2 (clampV version) (cl1 name))).2 (by decide) (by omega), ?_⟩)
        refine Tri.ret ?_
        exact ⟨rfl, trivial⟩
    · refine (Tri.skip ?_)
      have q9 := True.intro
      refine Tri.le (⟨41, 0, 120, [(0, .int .i64 ((clampV version : Nat) : Int)), (5, .loc 20 0), (6, .str (cl2 (clampV version) (cl1 name)).1)], [(20, .box [.bool (cl2 (clampV version) (cl1 name)).2])], []⟩) (Le.weak rfl rfl rfl rfl ⟨(by first | rfl | exact iv1 (by (try simp only [decide_eq_true_eq, decide_eq_false_iff_not, toNat_cast] at *); omega)), (by first | rfl | exact iv1 (by (try simp only [decide_eq_true_eq, decide_eq_false_iff_not, toNat_cast] at *); omega)), congrArg AV.str (by unfold cl2; first | (rw [if_pos (cv h2)]; try rfl) | (rw [if_neg (cw h2)]) | (rw [if_pos (cv h5)]; try rfl) | (rw [if_neg (cw h5)])), trivial⟩ ⟨congrArg (fun b => some (Chunk.box [.bool b])) (by unfold cl2; first | (rw [if_pos (cv h2)]; try rfl) | (rw [if_neg (cw h2)]) | (rw [if_pos (cv h5)]; try rfl) | (rw [if_neg (cw h5)])), trivial⟩) ?_
      refine Tri.seq (Tri.reg hT ?_)
      refine .inl (.inl ⟨_, fun _ => rfl, f35_spec (clampV version) (by omega), ?_⟩)
      refine ⟨by show _ + 4 ≤ _; omega, ?_⟩
      refine ⟨by rw [List.length_append]; show _ + 4 + 2 ≤ _; omega, ?_⟩
      refine Tri.seq ?_
      have q3 := cl3_len (clampV version)
      refine Tri.le (⟨41, 0, 150, [(5, .loc 20 0), (6, .str (cl2 (clampV version) (cl1 name)).1), (8, .str (cl3 (clampV version)))], [(20, .box [.bool (cl2 (clampV version) (cl1 name)).2])], []⟩) (Le.weak rfl rfl rfl rfl ⟨(by first | rfl | exact iv1 (by (try simp only [decide_eq_true_eq, decide_eq_false_iff_not, toNat_cast] at *); omega)), (by first | rfl | exact iv1 (by (try simp only [decide_eq_true_eq, decide_eq_false_iff_not, toNat_cast] at *); omega)), (by first | rfl | exact iv1 (by (try simp only [decide_eq_true_eq, decide_eq_false_iff_not, toNat_cast] at *); omega)), trivial⟩ ⟨rfl, trivial⟩) ?_
      refine Tri.seq (Tri.reg hT ?_)
      refine (Tri.cond ⟨fun h7 => ?_, fun h7 => ?_⟩)
      · refine (Tri.regM hT [2] ?_)
        refine ⟨_, Le.refl _, .inl (.inr (OpTri.hcall 1 rfl rfl rfl (f33_spec (cl2 (clampV version) (cl1 name)).1 2 (cl2 (clampV version) (cl1 name)).2 (by decide) (by omega) 20) trivial ⟨rfl, trivial⟩ rfl ?_))⟩
        refine ⟨by have := cntM_len (cl2 (clampV version) (cl1 name)).1 2 (cl2 (clampV version) (cl1 name)).2; omega, ?_⟩
        skip
        refine Tri.le (⟨41, 0, 200, [(5, .loc 20 0), (8, .str (cl4 (clampV version) (cl2 (clampV version) (cl1 name))).1)], [(20, .box [.bool (cl4 (clampV version) (cl2 (clampV version) (cl1 name))).2])], []⟩) (Le.weak rfl rfl rfl rfl ⟨(by first | rfl | exact iv1 (by (try simp only [decide_eq_true_eq, decide_eq_false_iff_not, toNat_cast] at *); omega)), congrArg AV.str (by unfold cl4; first | rw [if_pos (of_decide_eq_true h3)] | rw [if_neg (of_decide_eq_false h3)] | rw [if_pos (of_decide_eq_true h4)] | rw [if_neg (of_decide_eq_false h4)] | rw [if_pos (of_decide_eq_true h6)] | rw [if_neg (of_decide_eq_false h6)] | rw [if_pos (of_decide_eq_true h7)] | rw [if_neg (of_decide_eq_false h7)]), trivial⟩ ⟨congrArg (fun b => some (Chunk.box [.bool b])) (by unfold cl4; first | rw [if_pos (of_decide_eq_true h3)] | rw [if_neg (of_decide_eq_false h3)] | rw [if_pos (of_decide_eq_true h4)] | rw [if_neg (of_decide_eq_false h4)] | rw [if_pos (of_decide_eq_true h6)] | rw [if_neg (of_decide_eq_false h6)] | rw [if_pos (of_decide_eq_true h7)] | rw [if_neg (of_decide_eq_false h7)]), trivial⟩) ?_
        refine Tri.seq (Tri.reg hT ?_)
        refine .inl (.inl ⟨_, fun _ => rfl, f36_spec 1 (cl4 (clampV version) (cl2 (clampV version) (cl1 name))).1 (cl4 (clampV version) (cl2 (clampV version) (cl1 name))).2 (by decide) (by omega), ?_⟩)
        refine Tri.ret ?_
        exact ⟨rfl, trivial⟩
      · refine (Tri.skip ?_)
        skip
        refine Tri.le (⟨41, 0, 200, [(5, .loc 20 0), (8, .str (cl4 (clampV version) (cl2 (clampV version) (cl1 name))).1)], [(20, .box [.bool (cl4 (clampV version) (cl2 (clampV version) (cl1 name))).2])], []⟩) (Le.weak rfl rfl rfl rfl ⟨(by first | rfl | exact iv1 (by (try simp only [decide_eq_true_eq, decide_eq_false_iff_not, toNat_cast] at *); omega)), congrArg AV.str (by unfold cl4; first | rw [if_pos (of_decide_eq_true h3)] | rw [if_neg (of_decide_eq_false h3)] | rw [if_pos (of_decide_eq_true h4)] | rw [if_neg (of_decide_eq_false h4)] | rw [if_pos (of_decide_eq_true h6)] | rw [if_neg (of_decide_eq_false h6)] | rw [if_pos (of_decide_eq_true h7)] | rw [if_neg (of_decide_eq_false h7)]), trivial⟩ ⟨congrArg (fun b => some (Chunk.box [.bool b])) (by unfold cl4; first | rw [if_pos (of_decide_eq_true h3)] | rw [if_neg (of_decide_eq_false h3)] | rw [if_pos (of_decide_eq_true h4)] | rw [if_neg (of_decide_eq_false h4)] | rw [if_pos (of_decide_eq_true h6)] | rw [if_neg (of_decide_eq_false h6)] | rw [if_pos (of_decide_eq_true h7)] | rw [if_neg (of_decide_eq_false h7)]), trivial⟩) ?_
        refine Tri.seq (Tri.reg hT ?_)
        refine .inl (.inl ⟨_, fun _ => rfl, f36_spec 1 (cl4 (clampV version) (cl2 (clampV version) (cl1 name))).1 (cl4 (clampV version) (cl2 (clampV version) (cl1 name))).2 (by decide) (by omega), ?_⟩)
        refine Tri.ret ?_
        exact ⟨rfl, trivial⟩
theorem chN_len (l : List (List UInt8)) (n : Nat) (hl : ∀ i, i < l.length → (l.getD i []).length ≤ n) : ∀ i, i ≤ l.length → (chN l i).1.length ≤ i * (3 + n)
  | 0, _ => by simp [chN]
  | i + 1, h => by
    have ih := chN_len l n hl i (by omega)
    rw [chN_next (by omega)]
    have h1 := hl i (by omega)
    have h2 := cntM_len (l.getD i []) 3 (chN l i).2
    unfold chStep
    rw [List.length_append, Nat.succ_mul]
    omega
theorem take6 (l : List (List UInt8)) : List.drop (Int.toNat 0) (l.take (min (l.length : Int) 6).toNat) = l.take 6 := by
  rcases Nat.le_total l.length 6 with q | q
  · rw [show (min (l.length : Int) 6).toNat = l.length by omega, List.take_length, List.take_of_length_le q]; rfl
  · rw [show (min (l.length : Int) 6).toNat = 6 by omega]; rfl
set_option maxRecDepth 8000 in
theorem f21_spec (l : List (List UInt8)) (hl : l.length ≤ 1099511627776) (hb : ∀ i, i < l.length → (l.getD i []).length ≤ 1073741824) : PSpec P [] 21 [.list .str l] (.str (chainB l)) := by
  have e6 : (l.take 6).length ≤ 6 := List.length_take_le ..
  have hb6 : ∀ i, i < (l.take 6).length → ((l.take 6).getD i []).length ≤ 1073741824 := fun i hi => by
    have h1 : i < l.length := by rw [List.length_take] at hi; omega
    have h2 : (l.take 6).getD i [] = l.getD i [] := by
      rw [List.getD_eq_getElem?_getD, List.getD_eq_getElem?_getD, List.getElem?_take, if_pos (by omega)]
    rw [h2]; exact hb i h1
  have hch := chN_len (l.take 6) 1073741824 hb6
  refine pspec_intro hT Try.func21 (by decide) rfl rfl (by kernel_rfl) rfl ?_
  refine Tri.seq (Tri.reg hT ?_)
  refine Tri.seq (Tri.reg hT ?_)
  refine Tri.seq (Tri.reg hT ?_)
  refine Tri.seq ?_
  refine Tri.seq (Tri.reg hT ?_)
  refine ⟨by omega, ?_⟩
  refine (Tri.block ?_)
  refine (Tri.loop (ι := Nat) (fun i => ⟨27, 0, 40, [(3, .loc 1 0), (4, .str (chN (l.take 6) i).1), (11, .list .str (l.take 6)), (12, .int .i64 ((l.take 6).length : Int)), (13, .int .i64 (i : Int))], [(1, .box [.bool (chN (l.take 6) i).2])], []⟩) (fun i => i ≤ (l.take 6).length) (fun i => (l.take 6).length - i) (0) ?_ ?_ ?_)
  · exact Nat.zero_le _
  · exact Le.weak rfl rfl rfl rfl ⟨(by first | rfl | exact iv1 (by (try simp only [decide_eq_true_eq, decide_eq_false_iff_not, toNat_cast] at *); omega)), (by first | rfl | exact iv1 (by (try simp only [decide_eq_true_eq, decide_eq_false_iff_not, toNat_cast] at *); omega)), congrArg (AV.list .str) (take6 l), congrArg (fun x : List (List UInt8) => AV.int .i64 (x.length : Int)) (take6 l), (by first | rfl | exact iv1 (by (try simp only [decide_eq_true_eq, decide_eq_false_iff_not, toNat_cast] at *); omega)), trivial⟩ ⟨rfl, trivial⟩
  · intro i hi
    refine Tri.seq (Tri.reg hT ?_)
    refine Tri.seq (Tri.cond ⟨fun h1 => ?_, fun h1 => ?_⟩)
    · refine (Tri.skip ?_)
      refine Tri.seq (Tri.block ?_)
      have hlt : i < (l.take 6).length := (by have := of_decide_eq_true h1; omega); have w1 : IntKind.i64.wrap ((i : Int) + 1) = ((i + 1 : Nat) : Int) := (by rw [wrapId (by omega)]; omega); have hn := chN_next hlt; have hc := hch i hi; have hi6 : i * (3 + 1073741824) ≤ 6 * (3 + 1073741824) := Nat.mul_le_mul_right _ (by omega); have hx := hb6 i hlt; have hcc := cntM_len ((l.take 6).getD i []) 3 (chN (l.take 6) i).2
      refine Tri.le (⟨27, 0, 60, [(3, .loc 1 0), (4, .str (chN (l.take 6) i).1), (11, .list .str (l.take 6)), (12, .int .i64 ((l.take 6).length : Int)), (13, .int .i64 (i : Int))], [(1, .box [.bool (chN (l.take 6) i).2])], []⟩) (Le.weak rfl rfl rfl rfl ⟨(by first | rfl | exact iv1 (by (try simp only [decide_eq_true_eq, decide_eq_false_iff_not, toNat_cast] at *); omega)), (by first | rfl | exact iv1 (by (try simp only [decide_eq_true_eq, decide_eq_false_iff_not, toNat_cast] at *); omega)), (by first | rfl | exact iv1 (by (try simp only [decide_eq_true_eq, decide_eq_false_iff_not, toNat_cast] at *); omega)), (by first | rfl | exact iv1 (by (try simp only [decide_eq_true_eq, decide_eq_false_iff_not, toNat_cast] at *); omega)), (by first | rfl | exact iv1 (by (try simp only [decide_eq_true_eq, decide_eq_false_iff_not, toNat_cast] at *); omega)), trivial⟩ ⟨rfl, trivial⟩) ?_
      refine Tri.seq (Tri.reg hT ?_)
      refine ⟨by omega, ?_⟩
      refine (Tri.regM hT [2] ?_)
      refine ⟨_, Le.refl _, .inl (.inr (OpTri.hcall 1 rfl rfl rfl (f33_spec ((l.take 6).getD i []) 3 (chN (l.take 6) i).2 (by decide) (by omega) 1) trivial ⟨rfl, trivial⟩ rfl ?_))⟩
      refine ⟨by omega, ?_⟩
      refine (Tri.reg hT ?_)
      exact ⟨i + 1, hlt, (by omega), Le.weak rfl rfl rfl rfl ⟨(by first | rfl | exact iv1 (by (try simp only [decide_eq_true_eq, decide_eq_false_iff_not, toNat_cast] at *); omega)), congrArg AV.str (by rw [hn]; rfl), (by first | rfl | exact iv1 (by (try simp only [decide_eq_true_eq, decide_eq_false_iff_not, toNat_cast] at *); omega)), (by first | rfl | exact iv1 (by (try simp only [decide_eq_true_eq, decide_eq_false_iff_not, toNat_cast] at *); omega)), congrArg (AV.int .i64) w1, trivial⟩ ⟨congrArg (fun b => some (Chunk.box [.bool b])) (by rw [hn]; rfl), trivial⟩⟩
    · refine Tri.exit ?_
      have hN : i = (l.take 6).length := (by have := of_decide_eq_false h1; omega); have hc := hch _ (Nat.le_refl _); have hi6 : (l.take 6).length * (3 + 1073741824) ≤ 6 * (3 + 1073741824) := Nat.mul_le_mul_right _ e6; rw [hN]; have hcc := cntM_len (chN (l.take 6) (l.take 6).length).1 3 (chN (l.take 6) (l.take 6).length).2
      refine Tri.le (⟨27, 0, 80, [(3, .loc 1 0), (4, .str (chN (l.take 6) (l.take 6).length).1)], [(1, .box [.bool (chN (l.take 6) (l.take 6).length).2])], []⟩) (Le.weak rfl rfl rfl rfl ⟨(by first | rfl | exact iv1 (by (try simp only [decide_eq_true_eq, decide_eq_false_iff_not, toNat_cast] at *); omega)), (by first | rfl | exact iv1 (by (try simp only [decide_eq_true_eq, decide_eq_false_iff_not, toNat_cast] at *); omega)), trivial⟩ ⟨rfl, trivial⟩) ?_
      refine Tri.seq (Tri.regM hT [1] ?_)
      refine ⟨_, Le.refl _, .inl (.inr (OpTri.hcall 1 rfl rfl rfl (f33_spec (chN (l.take 6) (l.take 6).length).1 3 (chN (l.take 6) (l.take 6).length).2 (by decide) (by omega) 1) trivial ⟨rfl, trivial⟩ rfl ?_))⟩
      refine Tri.seq (Tri.reg hT ?_)
      refine .inl (.inl ⟨_, fun _ => rfl, f36_spec 11 _ _ (by decide) (by omega), ?_⟩)
      refine Tri.ret ?_
      exact ⟨rfl, trivial⟩
end Go.Proofs.Ytgbmbihajkjbmaa.Fx
