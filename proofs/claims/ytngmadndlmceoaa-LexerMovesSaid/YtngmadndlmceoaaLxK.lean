import Derived.Test.YtngmadndlmceoaaLxF
import Derived.Test.YtngmadndlmceoaaLxB
import Derived.Test.YtngmadndlmceoaaGLx1
import Derived.Test.YtngmadndlmceoaaSh
import Derived.Test.YtngmadndlmceoaaGFw7
set_option linter.all false
/- Contracts of chapter 04: the program's strings (over strings.Builder). -/
namespace Go.Proofs.Ytngmadndlmceoaa.Fx
open Go Go.Fw Go.Ov Go.Lx Go.Shelf
theorem wByte_spec (i j : Nat) (hij : i ≠ j) (s : List UInt8) (c : UInt8) (hlen : s.length + 1 ≤ 140737488355328) : HSpec P [] 55 [.loc i 0, .int .u8 c.toNat] (bldH Try.bldT Try.byteT i j s) .any (bldH Try.bldT Try.byteT i j (s ++ [c])) :=
  bld_WriteByte Try.lays167 Try.bx167 [] i j hij s c hlen
theorem wStr_spec (i j : Nat) (hij : i ≠ j) (s t : List UInt8) (hlen : s.length + t.length ≤ 140737488355328) : HSpec P [] 53 [.loc i 0, .str t] (bldH Try.bldT Try.byteT i j s) .any (bldH Try.bldT Try.byteT i j (s ++ t)) :=
  bld_WriteString Try.lays166 Try.bx166 [] i j hij s t hlen
theorem bStr_spec (i j : Nat) (hij : i ≠ j) (s : List UInt8) : HSpec P [] 54 [.loc i 0] (bldH Try.bldT Try.byteT i j s) (.str s) [(i, .ext (.top true))] :=
  bld_String Try.lays169 Try.bx169 [] i j hij s
abbrev bS (n : Nat) (a : List UInt8) : List (Nat × Chunk) := [(n + 1, .ext (bldX Try.bldT n a.length)), (n, .ext (rowX Try.byteT a))]
theorem esc_iff {s : List UInt8} {a : Nat} {b : Bool} (h : (if (if (if decide (((a + 1 : Nat) : Int) ≥ (s.length : Int)) = true then true else plainB (ch s (a + 1))) = true then true else decide (ch s (a + 1) < 32)) = true then true else decide (ch s (a + 1) > 126)) = b) :
    b = decide (a + 1 ≥ s.length ∨ ¬ special (ch s (a + 1))) := by
  subst h
  have hc : 0 ≤ ch s (a + 1) := by unfold ch; omega
  generalize ch s (a + 1) = c at *
  have e : (((a + 1 : Nat) : Int) ≥ (s.length : Int)) = (a + 1 ≥ s.length) := propext (by omega)
  simp only [e]
  unfold plainB special
  by_cases q : a + 1 ≥ s.length
  · simp [q]
  · by_cases q1 : c = 34
    · subst q1; simp [q]
    · by_cases q2 : c = 92
      · subst q2; simp [q]
      · by_cases q3 : c = 124
        · subst q3; simp [q]
        · by_cases q4 : 32 ≤ c <;> by_cases q5 : c ≤ 126 <;> simp [q, q1, q2, q3, q4, q5] <;> omega
set_option maxRecDepth 8000 in
theorem f49_spec (s : List UInt8) (a0 : Nat) (ha : a0 ≤ s.length) (hs : s.length ≤ 1099511627776) : PSpec P [] 49 [.str s, .int .i64 (a0 : Int)] (.tup [.str (litS s [] a0).1, .int .i64 ((litS s [] a0).2.1 : Int), .bool (litS s [] a0).2.2]) := by
  refine pspec_intro hT Try.func49 (by decide) rfl rfl (by kernel_rfl) rfl ?_
  refine Tri.seq (Tri.reg hT ?_)
  refine Tri.seq (Tri.regM hT [0] ?_)
  refine ⟨_, Le.nilX (rowX Try.byteT []) rfl rfl, .inl (.inr (OpTri.allocX hT (bldX Try.bldT 3 0) rfl rfl rfl (fun φ R w b z h => bldX_zero _ 0 _ _ rfl φ R w b z h) rfl ?_))⟩
  refine Tri.seq (Tri.block ?_)
  refine (Tri.loop (ι := List UInt8 × Nat) (fun x => ⟨85, 0, 20, [(0, .str s), (1, .int .i64 (x.2 : Int)), (7, .loc 4 0)], [(4, .ext (bldX Try.bldT 3 x.1.length)), (3, .ext (rowX Try.byteT x.1))], []⟩) (fun x => x.2 ≤ s.length ∧ x.1.length ≤ x.2 ∧ litS s x.1 x.2 = litS s [] a0) (fun x => s.length - x.2) (([], a0)) ?_ ?_ ?_)
  · exact ⟨ha, Nat.zero_le _, rfl⟩
  · exact Le.weak rfl rfl rfl rfl ⟨(by first | rfl | exact iv1 (by (try simp only [decide_eq_true_eq, decide_eq_false_iff_not, toNat_cast] at *); omega)), (by first | rfl | exact iv1 (by (try simp only [decide_eq_true_eq, decide_eq_false_iff_not, toNat_cast] at *); omega)), (by first | rfl | exact iv1 (by (try simp only [decide_eq_true_eq, decide_eq_false_iff_not, toNat_cast] at *); omega)), trivial⟩ ⟨rfl, rfl, trivial⟩
  · intro ⟨acc, a⟩ hi; obtain ⟨hi1, hi2, hi3⟩ := hi; change a ≤ s.length at hi1; change acc.length ≤ a at hi2; change litS s acc a = litS s [] a0 at hi3; have hg := litS_eq (acc := acc) hi1; change Tri P _ _ ⟨85, 0, 20, [(0, .str s), (1, .int .i64 (a : Int)), (7, .loc 4 0)], [(4, .ext (bldX Try.bldT 3 acc.length)), (3, .ext (rowX Try.byteT acc))], []⟩
    refine Tri.seq ?_
    refine Tri.seq (Tri.reg hT ?_)
    refine (Tri.cond ⟨fun h1 => ?_, fun h1 => ?_⟩)
    · refine (Tri.skip ?_)
      refine (Tri.block ?_)
      have hlt : a < s.length := i_lt h1; have w1 : IntKind.i64.wrap ((a : Int) + 1) = ((a + 1 : Nat) : Int) := (by rw [wrapId (by omega)]; omega); rw [if_neg (by omega)] at hg
      refine Tri.seq (Tri.reg hT ?_)
      refine ⟨by omega, ?_⟩
      refine (Tri.block ?_)
      refine Tri.seq (Tri.reg hT ?_)
      refine (Tri.cond ⟨fun h2 => ?_, fun h2 => ?_⟩)
      · have c2 : ch s a = 34 := of_decide_eq_true h2; rw [if_pos c2] at hg; have e0 := hi3.symm.trans hg
        refine Tri.seq (Tri.regM hT [0] ?_)
        refine ⟨_, Le.refl _, .inl (.inr (OpTri.hcall 1 rfl rfl rfl (bStr_spec 4 3 (by decide) acc) trivial ⟨rfl, rfl, trivial⟩ rfl ?_))⟩
        refine Tri.ret ?_
        exact ⟨by rw [e0, w1]; rfl, trivial⟩
      · have c2 : ¬ ch s a = 34 := of_decide_eq_false h2; rw [if_neg c2] at hg
        refine Tri.seq (Tri.reg hT ?_)
        refine .inl (.inl ⟨_, fun _ => rfl, f29_spec _, ?_⟩)
        refine (Tri.cond ⟨fun h3 => ?_, fun h3 => ?_⟩)
        · have c3 : plainB (ch s a) = true := h3; have n92 : ¬ ch s a = 92 := (fun e => by rw [e] at c3; exact absurd c3 (by decide)); have n124 : ¬ ch s a = 124 := (fun e => by rw [e] at c3; exact absurd c3 (by decide)); have nrg : ¬ (ch s a < 32 ∨ ch s a > 126) := (by unfold plainB at c3; simp at c3; omega); rw [if_neg n92, if_neg n124, if_neg nrg] at hg
          refine Tri.seq (Tri.regM hT [1] ?_)
          refine ⟨_, Le.refl _, .inl (.inr (OpTri.hcall 1 rfl rfl rfl (wByte_spec 4 3 (by decide) acc (s.getD a 0) (by omega)) trivial ⟨rfl, rfl, trivial⟩ rfl ?_))⟩
          refine (Tri.reg hT ?_)
          exact ⟨(acc ++ [s.getD a 0], a + 1), ⟨by show a + 1 ≤ s.length; omega, by show (acc ++ [s.getD a 0]).length ≤ a + 1; rw [List.length_append]; show acc.length + 1 ≤ a + 1; omega, hg.symm.trans hi3⟩, (by show s.length - (a + 1) < s.length - a; omega), Le.weak rfl rfl rfl rfl ⟨(by first | rfl | exact iv1 (by (try simp only [decide_eq_true_eq, decide_eq_false_iff_not, toNat_cast] at *); omega)), congrArg (AV.int .i64) w1, (by first | rfl | exact iv1 (by (try simp only [decide_eq_true_eq, decide_eq_false_iff_not, toNat_cast] at *); omega)), trivial⟩ ⟨rfl, rfl, trivial⟩⟩
        · have c3 : ¬ plainB (ch s a) = true := (by have h3' : plainB (ch s a) = false := h3; rw [h3']; decide)
          refine Tri.seq (Tri.reg hT ?_)
          refine (Tri.cond ⟨fun h4 => ?_, fun h4 => ?_⟩)
          · have c4 : ch s a = 92 := of_decide_eq_true h4; rw [if_pos c4] at hg
            refine Tri.seq (Tri.reg hT ?_)
            refine Tri.seq ?_
            refine Tri.seq (Tri.reg hT ?_)
            refine ⟨_, [], trivial, rfl, rfl, fun h => ⟨rfl, rfl, rfl⟩, ?_⟩
            refine ⟨_, [], trivial, rfl, rfl, fun h => ⟨rfl, rfl, rfl⟩, ?_⟩
            refine ⟨_, [], trivial, rfl, rfl, fun h => ⟨h, h, by simp [gd] at h; rw [w1] at h ⊢; omega, rfl, rfl, rfl⟩, ?_⟩
            refine ⟨_, [], trivial, rfl, rfl, fun h => ⟨h, (.inl ⟨_, fun _ => rfl, f29_spec _, rfl, rfl, rfl⟩)⟩, ?_⟩
            refine ⟨⟨fun _ => trivial, fun hc => (gn hc)⟩, ?_⟩
            refine ⟨_, [], trivial, rfl, rfl, fun h => ⟨rfl, rfl, rfl⟩, ?_⟩
            refine ⟨_, [], trivial, rfl, rfl, fun h => ⟨rfl, rfl, rfl⟩, ?_⟩
            refine ⟨_, [], trivial, rfl, rfl, fun h => ⟨h, h, by simp [gd] at h; rw [w1] at h ⊢; omega, rfl, rfl, rfl⟩, ?_⟩
            refine ⟨_, [], trivial, rfl, rfl, fun h => ⟨h, rfl, rfl, rfl⟩, ?_⟩
            refine ⟨⟨fun _ => trivial, fun hc => (gn hc)⟩, ?_⟩
            refine ⟨_, [], trivial, rfl, rfl, fun h => ⟨rfl, rfl, rfl⟩, ?_⟩
            refine ⟨_, [], trivial, rfl, rfl, fun h => ⟨rfl, rfl, rfl⟩, ?_⟩
            refine ⟨_, [], trivial, rfl, rfl, fun h => ⟨h, h, by simp [gd] at h; rw [w1] at h ⊢; omega, rfl, rfl, rfl⟩, ?_⟩
            refine ⟨_, [], trivial, rfl, rfl, fun h => ⟨h, rfl, rfl, rfl⟩, ?_⟩
            refine ⟨⟨fun _ => trivial, fun hc => (gn hc)⟩, ?_⟩
            refine (Tri.cond ⟨fun h5 => ?_, fun h5 => ?_⟩)
            · refine Tri.seq (Tri.reg hT ?_)
              refine Tri.ret ?_
              rw [w1, toNat_cast] at h5; have k := of_decide_eq_true (esc_iff h5).symm; rw [if_pos k] at hg; have e := hi3.symm.trans hg; exact ⟨by rw [e, w1]; rfl, trivial⟩
            · refine (Tri.skip ?_)
              rw [w1, toNat_cast] at h5; have k := of_decide_eq_false (esc_iff h5).symm; rw [if_neg k] at hg; have w2 : IntKind.i64.wrap (((a + 1 : Nat) : Int) + 1) = ((a + 2 : Nat) : Int) := (by rw [wrapId (by omega)]; omega)
              refine Tri.seq (Tri.regM hT [3] ?_)
              refine ⟨by rw [w1]; omega, ?_⟩
              refine ⟨_, Le.refl _, .inl (.inr (OpTri.hcall 1 rfl rfl rfl (wByte_spec 4 3 (by decide) acc (s.getD (IntKind.i64.wrap ((a : Int) + 1)).toNat 0) (by omega)) trivial ⟨rfl, rfl, trivial⟩ rfl ?_))⟩
              refine (Tri.reg hT ?_)
              have e1 : acc ++ [s.getD (IntKind.i64.wrap ((a : Int) + 1)).toNat 0] = acc ++ [s.getD (a + 1) 0] := (by rw [w1, toNat_cast])
              exact ⟨(acc ++ [s.getD (a + 1) 0], a + 2), ⟨by show a + 2 ≤ s.length; omega, by show (acc ++ [s.getD (a + 1) 0]).length ≤ a + 2; rw [List.length_append]; show acc.length + 1 ≤ a + 2; omega, hg.symm.trans hi3⟩, (by show s.length - (a + 2) < s.length - a; omega), Le.weak rfl rfl rfl rfl ⟨(by first | rfl | exact iv1 (by (try simp only [decide_eq_true_eq, decide_eq_false_iff_not, toNat_cast] at *); omega)), congrArg (AV.int .i64) (by rw [w1, w2]), (by first | rfl | exact iv1 (by (try simp only [decide_eq_true_eq, decide_eq_false_iff_not, toNat_cast] at *); omega)), trivial⟩ ⟨congrArg (fun z : List UInt8 => some (Chunk.ext (bldX Try.bldT 3 z.length))) e1, congrArg (fun z : List UInt8 => some (Chunk.ext (rowX Try.byteT z))) e1, trivial⟩⟩
          · have c4 : ¬ ch s a = 92 := of_decide_eq_false h4; rw [if_neg c4] at hg
            refine Tri.seq (Tri.reg hT ?_)
            refine (Tri.cond ⟨fun h6 => ?_, fun h6 => ?_⟩)
            · have c6 : ch s a = 124 := of_decide_eq_true h6; rw [if_pos c6] at hg; have kc := f56_spec s (a + 1) (by omega) hs; rw [← w1] at kc
              refine Tri.seq (Tri.reg hT ?_)
              refine .inl (.inl ⟨_, fun _ => rfl, kc, ?_⟩)
              refine Tri.seq ?_
              refine Tri.seq (Tri.reg hT ?_)
              refine (Tri.cond ⟨fun h7 => ?_, fun h7 => ?_⟩)
              · refine Tri.seq (Tri.reg hT ?_)
                refine Tri.ret ?_
                have g7 : (grpS s [] (a + 1)).2.2 = false := (by simpa using h7); rw [if_pos g7] at hg; have e := hi3.symm.trans hg; exact ⟨by rw [e]; rfl, trivial⟩
              · refine (Tri.skip ?_)
                have g7 : (grpS s [] (a + 1)).2.2 = true := (by simpa using h7); rw [if_neg (by rw [g7]; decide)] at hg; have gk := grpS_ok (by omega) g7
                refine Tri.seq (Tri.regM hT [1] ?_)
                refine ⟨_, Le.refl _, .inl (.inr (OpTri.hcall 1 rfl rfl rfl (wStr_spec 4 3 (by decide) acc (grpS s [] (a + 1)).1 (by omega)) trivial ⟨rfl, rfl, trivial⟩ rfl ?_))⟩
                refine (Tri.reg hT ?_)
                exact ⟨(acc ++ (grpS s [] (a + 1)).1, (grpS s [] (a + 1)).2.1), ⟨gk.2.1, by show (acc ++ (grpS s [] (a + 1)).1).length ≤ (grpS s [] (a + 1)).2.1; rw [List.length_append]; omega, hg.symm.trans hi3⟩, (by show s.length - (grpS s [] (a + 1)).2.1 < s.length - a; omega), Le.weak rfl rfl rfl rfl ⟨(by first | rfl | exact iv1 (by (try simp only [decide_eq_true_eq, decide_eq_false_iff_not, toNat_cast] at *); omega)), (by first | rfl | exact iv1 (by (try simp only [decide_eq_true_eq, decide_eq_false_iff_not, toNat_cast] at *); omega)), (by first | rfl | exact iv1 (by (try simp only [decide_eq_true_eq, decide_eq_false_iff_not, toNat_cast] at *); omega)), trivial⟩ ⟨rfl, rfl, trivial⟩⟩
            · have c6 : ¬ ch s a = 124 := of_decide_eq_false h6; rw [if_neg c6] at hg
              refine Tri.seq (Tri.reg hT ?_)
              refine Tri.ret ?_
              have b : ch s a < 32 ∨ ch s a > 126 := (Classical.byContradiction fun q => c3 (by unfold plainB; simp; omega)); rw [if_pos b] at hg; have e := hi3.symm.trans hg; exact ⟨by rw [e]; rfl, trivial⟩
    · refine Tri.exit ?_
      refine Tri.seq (Tri.reg hT ?_)
      refine Tri.ret ?_
      have h9 := of_decide_eq_false h1; rw [if_pos (by omega)] at hg; have e := hi3.symm.trans hg; exact ⟨by rw [e]; rfl, trivial⟩
end Go.Proofs.Ytngmadndlmceoaa.Fx
