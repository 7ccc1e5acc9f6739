/- Proved: for every policy and every two segments, the statement OverlapWins of intrusionlaw15 returns true and does not panic. No condition beyond those of the given statement. -/
-- Written by a program of the proof's own workplace (gprint.py over the kit's print): a law's row.
import Derived.Test.YtjdjgabahkcjeaaRows
import Derived.Test.YtjdjgabahkcjeaaPx10w
import Derived.Test.YtjdjgabahkcjeaaPureOverlapWins
import Derived.Test.YtjdjgabahkcjeaaRowLib
import Derived.WalkKit
import Derived.ProofKit
import Derived.OpenShut
import Derived.ShutString
import Derived.ChangeOld
import Derived.Below
import Derived.SizedLaws
namespace Go.Proofs.Ytjdjgabahkcjeaa.overlapWins
open Go.ChangeShapes Go.WideShapes Go.ChangeAt Go.RowKit Go.Proofs.Ytjdjgabahkcjeaa.P Go.Proofs.Ytjdjgabahkcjeaa.RowLib Go.Proofs.YtjdjgabahkcjeaaW.PrintWords
open Go.ChangeMaps (open_string shut_string)
set_option linter.unusedVariables false
set_option linter.unusedSimpArgs false
theorem own : ownKnob Try.prog.godebug = none := by kernel_rfl
theorem laidOut : laidOutB Try.prog = true := by kernel_rfl
theorem opens1 : Opens Try.prog 23 k23 (fun x_ => ((Lit.int .i64 x_.f0).wf = true ∧ x_.f1.size ≤ 140737488351232 ∧ (Lit.int .i64 x_.f2).wf = true ∧ (Lit.int .i64 x_.f3).wf = true)) := (opens_iso (fun x_ : S23 => (x_.f0, x_.f1, x_.f2, x_.f3)) (fun p_ => (⟨p_.1, p_.2.1, p_.2.2.1, p_.2.2.2⟩ : S23)) (fun _ => rfl) (opens_struct Try.underlying23 (by kernel_rfl) (by kernel_rfl) (opensF_cons (by kernel_rfl) rfl (opens_int Try.underlying3) (opensF_cons (by kernel_rfl) rfl (opens_string Try.underlying9) (opensF_cons (by kernel_rfl) rfl (opens_int Try.underlying3) (opensF_one (by kernel_rfl) (opens_int Try.underlying3)))))))
theorem opens2 : Opens Try.prog 23 k23 (fun x_ => ((Lit.int .i64 x_.f0).wf = true ∧ x_.f1.size ≤ 140737488351232 ∧ (Lit.int .i64 x_.f2).wf = true ∧ (Lit.int .i64 x_.f3).wf = true)) := (opens_iso (fun x_ : S23 => (x_.f0, x_.f1, x_.f2, x_.f3)) (fun p_ => (⟨p_.1, p_.2.1, p_.2.2.1, p_.2.2.2⟩ : S23)) (fun _ => rfl) (opens_struct Try.underlying23 (by kernel_rfl) (by kernel_rfl) (opensF_cons (by kernel_rfl) rfl (opens_int Try.underlying3) (opensF_cons (by kernel_rfl) rfl (opens_string Try.underlying9) (opensF_cons (by kernel_rfl) rfl (opens_int Try.underlying3) (opensF_one (by kernel_rfl) (opens_int Try.underlying3)))))))
set_option maxRecDepth 100000 in
theorem lifted (os : Os) (started : os.Started) (H : Type) (enc : TypeId × Value → H) :
    ReturnsInHanded {} Try.checked os 3 .any (Rows.overlapWinsSpec.pre6 enc Try.prog Try.f3 Rows.overlapWinsRow.domain false) (Rows.overlapWinsSpec.post enc Try.prog Try.f3 false true false false) := by
  refine returnsInHanded_of_change_sized (C := Try.checked) own started (by kernel_rfl) Try.func3
    (ChangeSpec.witness6 (enc := enc) (C := Try.checked) false ⟨#[], #[.int .i64 0, .agg #[.int .i64 0, .string ByteArray.empty, .int .i64 0, .int .i64 0], .agg #[.int .i64 0, .string ByteArray.empty, .int .i64 0, .int .i64 0]], []⟩ 8 (by kernel_rfl) (by kernel_rfl) (by kernel_rfl) (by kernel_rfl)) ?_
  intro W base args ds gs before hval0 hW hcnd hsz0 _
  have hsz : (DataW.weightsEach Try.prog (Try.f3.params.toList ++ Rows.overlapWinsSpec.plain.varTypes Try.prog) (ds ++ gs)).all (· ≤ reachBytes) = true := hsz0
  have hval : ∀ (j : Nat) t v, Try.f3.params[j]? = some t → args[j]? = some v → Value.okWide Try.prog W .any base t v := hval0
  have hW' := hW
  obtain ⟨p, q, hA0, hV, rfl, hfz, hnd⟩ := hW
  have hA : DataW.TrodAll enc Try.prog W 0 (fun _ => true) true Try.f3.params.toList args.toList ds p := hA0
  rw [Try.params3] at hA hval hsz
  obtain ⟨v0, vs0, d0, ds0, p0, q0, hargs, rfl, rfl, h0, r0⟩ := trodAll_cons hA
  obtain ⟨v1, vs1, d1, ds1, p1, q1, rfl, rfl, rfl, h1, r1⟩ := trodAll_cons r0
  obtain ⟨v2, vs2, d2, ds2, p2, q2, rfl, rfl, rfl, h2, r2⟩ := trodAll_cons r1
  obtain ⟨rfl, rfl, rfl⟩ := trodAll_nil r2
  obtain rfl : args = #[v0, v1, v2] := by cases args; simp_all
  obtain ⟨rfl, rfl⟩ := trodVars_none hV
  obtain ⟨a0, rfl, rfl, rfl, w0⟩ := open_int Try.underlying3 (hval 0 3 v0 rfl rfl) h0
  have k1 := h1
  have lt1 : ∀ x ∈ p1, x.block < W.heap.size := by obtain ⟨m, hm⟩ := k1; exact DataW.trod_lt m _ _ _ hm
  obtain ⟨a1, hk1, hg1⟩ := opened opens1 h1 hsz (fun n hn => by simp [DataW.weightsEach, hn])
  have ek1 := k23_open hk1
  obtain rfl := agg_of Try.underlying23 (hval 1 23 v1 rfl rfl) ek1
  have k2 := h2
  have lt2 : ∀ x ∈ p2, x.block < W.heap.size := by obtain ⟨m, hm⟩ := k2; exact DataW.trod_lt m _ _ _ hm
  obtain ⟨a2, hk2, hg2⟩ := opened opens2 h2 hsz (fun n hn => by simp [DataW.weightsEach, hn])
  have ek2 := k23_open hk2
  obtain rfl := agg_of Try.underlying23 (hval 2 23 v2 rfl rfl) ek2
  clear hA0 hval0 hsz0 hsz
  obtain ⟨kk, hpure⟩ := Pure.OverlapWins a0 a1 a2 w0 hg1 hg2
  refine (intrusionlaw15_OverlapWins.calls kk a0 a1.f0 a1.f1 a1.f2 a1.f3 a2.f0 a2.f1 a2.f2 a2.f3 true W  hpure).mono fun e W' ⟨he, bel0⟩ => ?_
  have bel := bel0
  subst he
  exact ⟨_, rfl, _, _, _, [], _, [], hW', trodAll_mk1 (shut_bool Try.underlying4 _), (trodAll_cons_mk (shut_int Try.underlying3 w0) (trodAll_cons_mk (Below.trod laidOut (by kernel_rfl) (of_decide_eq_true (by kernel_rfl)) k1 bel lt1) (trodAll_cons_mk (Below.trod laidOut (by kernel_rfl) (of_decide_eq_true (by kernel_rfl)) k2 bel lt2) trodAll_mk0))), rfl, bel.frame _, fun h => by cases h⟩
theorem over : Rows.overlapWinsRow.holds Try.pinned (OpenSpec.ofChange Rows.overlapWinsSpec) :=
  OpenClaim.holds_of_wide 3 Try.f3 rfl rfl rfl rfl rfl rfl rfl ⟨rfl, rfl, rfl, rfl, rfl⟩ rfl rfl rfl rfl rfl (by kernel_rfl) Try.func3 (by kernel_rfl)
    (of_decide_eq_true (by kernel_rfl)) (by unfold Func.isWrapper; first | (rw [if_pos (by decide +kernel)]; kernel_rfl) | (rw [if_neg (by decide +kernel)]; exact ⟨rfl, rfl⟩))
    (fun os started H enc _ => lifted os started H enc)
theorem proved : Rows.OverlapWinsSaid := over
#print axioms proved
end Go.Proofs.Ytjdjgabahkcjeaa.overlapWins
namespace Go.Proofs.Ytjdjgabahkcjeaa
/-- The row, under a short name, for the claim. -/
theorem overlapWins_holds : Rows.OverlapWinsSaid := overlapWins.proved
end Go.Proofs.Ytjdjgabahkcjeaa
