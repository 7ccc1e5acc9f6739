import Derived.Test.YtgbmbihajkjbmaaTlC
import Derived.Test.YtgbmbihajkjbmaaGFw8
set_option linter.all false
/- Contracts of chapter 32: chains. -/
namespace Go.Proofs.Ytgbmbihajkjbmaa.Fx
open Go Go.Fw Go.Ov Go.Tl
abbrev evL (l : List (List UInt8)) : AV := .agg [.int .i64 3, .int .i64 0, .str [], .list .str l]
set_option maxRecDepth 8000 in
theorem f46_spec (r : Rd) (hr : r.1.length ≤ 1099511627776) (id : Nat) : CSpec P [] 46 [.loc id 0] (oneU id (rdC r) (some (rdC (chnM r).1))) (evL (chnM r).2) := by
  have hal := allM_len 3 r
  refine cspec_intro hT Try.func46 (by decide) rfl rfl (by kernel_rfl) rfl (fun _ => rfl) (fun _ => rfl) (fun _ => rfl) (fun _ => rfl) ?_ id
  refine Tri.seq (Tri.reg hT ?_)
  refine Tri.seq (Tri.reg hT ?_)
  refine Tri.seq (Tri.regM hT [1] ?_)
  refine ⟨_, Le.refl _, .inl (.inr (OpTri.hcall 10 rfl rfl rfl (f64_spec r 3 hr (by decide) 0 7 (by decide)) trivial ⟨rfl, trivial⟩ rfl ?_))⟩
  refine Tri.seq (Tri.block ?_)
  refine (Tri.loop (ι := CSt) (fun s => ⟨47, 1, 60, [(0, .loc 0 0), (2, .loc 1 0), (3, .loc 3 0), (4, .loc 7 0)], [(0, .box (rdC (allM 3 r).2)), (1, .box [.int .i64 0, .int .i64 0, .str [], .nils]), (3, .box [.int .i64 3, .int .i64 0, .str [], .own 17 s.2.length]), (7, .box (rdC s.1)), (17, .arr .str s.2)], []⟩) (fun s => s.1.1.length ≤ 1099511627776 ∧ s.2.length + s.1.1.length ≤ 1099511627776 ∧ chnI s = chnI ((allM 3 r).1, [])) (fun s => s.1.1.length) (((allM 3 r).1, [])) ?_ ?_ ?_)
  · exact ⟨Nat.le_trans hal.1 hr, by show 0 + _ ≤ _; rw [Nat.zero_add]; exact Nat.le_trans hal.1 hr, rfl⟩
  · exact Le.trans ((Le.ownB 3 [.int .i64 3, .int .i64 0, .str []] [] .str rfl)) (Le.weak rfl rfl rfl rfl ⟨(by first | rfl | exact iv1 (by (try simp only [decide_eq_true_eq, decide_eq_false_iff_not, toNat_cast] at *); omega)), (by first | rfl | exact iv1 (by (try simp only [decide_eq_true_eq, decide_eq_false_iff_not, toNat_cast] at *); omega)), (by first | rfl | exact iv1 (by (try simp only [decide_eq_true_eq, decide_eq_false_iff_not, toNat_cast] at *); omega)), (by first | rfl | exact iv1 (by (try simp only [decide_eq_true_eq, decide_eq_false_iff_not, toNat_cast] at *); omega)), trivial⟩ ⟨rfl, rfl, rfl, rfl, rfl, trivial⟩)
  · intro ⟨l, L⟩ hi; obtain ⟨hl, hlen, hi2⟩ := hi; change l.1.length ≤ _ at hl; change L.length + l.1.length ≤ _ at hlen; have h2l := listM_len 3 l
    refine Tri.seq ?_
    refine Tri.seq (Tri.reg hT ?_)
    refine ⟨_, [], trivial, rfl, rfl, fun h => ⟨rfl, rfl, rfl⟩, ?_⟩
    refine ⟨_, [], trivial, rfl, rfl, fun h => ⟨h, rfl, rfl, rfl⟩, ?_⟩
    refine ⟨_, [], trivial, rfl, rfl, fun h => ⟨h, rfl, rfl, rfl⟩, ?_⟩
    refine ⟨_, [], trivial, rfl, rfl, fun h => ⟨h, rfl, rfl, rfl⟩, ?_⟩
    refine ⟨_, [], trivial, rfl, rfl, fun h => ⟨h, rfl, rfl, rfl⟩, ?_⟩
    refine ⟨⟨fun hc => hc, fun _ => trivial⟩, ?_⟩
    refine (Tri.cond ⟨fun h1 => ?_, fun h1 => ?_⟩)
    · refine (Tri.skip ?_)
      refine (Tri.block ?_)
      have hmo : more l = true := (more_if l).symm.trans h1; have hgo := chn_go (s := (l, L)) hmo; have hdec := chn_dec (l, L) hmo; have hdec2 : (listM 3 l).2.1.length < l.1.length := hdec
      refine Tri.le (⟨47, 1, 80, [(0, .loc 0 0), (2, .loc 1 0), (3, .loc 3 0), (4, .loc 7 0)], [(0, .box (rdC (allM 3 r).2)), (1, .box [.int .i64 0, .int .i64 0, .str [], .nils]), (3, .box [.int .i64 3, .int .i64 0, .str [], .own 17 L.length]), (7, .box (rdC l)), (17, .arr .str L)], []⟩) (Le.weak rfl rfl rfl rfl ⟨(by first | rfl | exact iv1 (by (try simp only [decide_eq_true_eq, decide_eq_false_iff_not, toNat_cast] at *); omega)), (by first | rfl | exact iv1 (by (try simp only [decide_eq_true_eq, decide_eq_false_iff_not, toNat_cast] at *); omega)), (by first | rfl | exact iv1 (by (try simp only [decide_eq_true_eq, decide_eq_false_iff_not, toNat_cast] at *); omega)), (by first | rfl | exact iv1 (by (try simp only [decide_eq_true_eq, decide_eq_false_iff_not, toNat_cast] at *); omega)), trivial⟩ ⟨rfl, rfl, rfl, rfl, rfl, trivial⟩) ?_
      refine (Tri.drw hT hm 5 (by kernel_rfl) ?_)
      refine .inr (.inl ⟨_, _, (by exact ⟨rfl, trivial⟩), f58_spec l 3 hl (by decide) _, (by rfl), ?_⟩)
      refine ⟨by kernel_rfl, ?_⟩
      refine ⟨(Nat.le_refl _), by show _ ≤ _ ∧ (_ + 1) * 16 ≤ _ ∧ _ + 1 ≤ _; omega, ?_⟩
      exact ⟨chnStep (l, L), ⟨Nat.le_trans h2l.2 hl, by show (L ++ [(listM 3 l).1]).length + (listM 3 l).2.1.length ≤ _; rw [List.length_append]; show L.length + 1 + _ ≤ _; omega, hgo.trans hi2⟩, hdec, Le.weak rfl rfl rfl rfl ⟨(by first | rfl | exact iv1 (by (try simp only [decide_eq_true_eq, decide_eq_false_iff_not, toNat_cast] at *); omega)), (by first | rfl | exact iv1 (by (try simp only [decide_eq_true_eq, decide_eq_false_iff_not, toNat_cast] at *); omega)), (by first | rfl | exact iv1 (by (try simp only [decide_eq_true_eq, decide_eq_false_iff_not, toNat_cast] at *); omega)), (by first | rfl | exact iv1 (by (try simp only [decide_eq_true_eq, decide_eq_false_iff_not, toNat_cast] at *); omega)), trivial⟩ ⟨rfl, rfl, congrArg (fun n => some (Chunk.box [.int .i64 3, .int .i64 0, .str [], .own 17 n])) (by show _ = (L ++ [(listM 3 l).1]).length; rw [List.length_append]; rfl), rfl, congrArg (fun x => some (Chunk.arr .str x)) (by rw [List.take_length]; rfl), trivial⟩⟩
    · refine Tri.exit ?_
      have hmo : more l = false := (more_if l).symm.trans h1; have e0 : chnI ((allM 3 r).1, []) = (l, L) := hi2.symm.trans (chn_stop (s := (l, L)) hmo); have eM : chnM r = (((allM 3 r).2.1, or (or (allM 3 r).2.2 l.2) (decide (L.length > 6))), L) := (by unfold chnM; rw [e0]); rw [eM]
      refine Tri.seq (Tri.reg hT ?_)
      refine ⟨_, [], trivial, rfl, rfl, fun h => ⟨rfl, rfl, rfl⟩, ?_⟩
      refine ⟨_, [], trivial, rfl, rfl, fun h => ⟨h, rfl, rfl, rfl⟩, ?_⟩
      refine ⟨_, [], trivial, rfl, rfl, fun h => ⟨h, rfl, rfl, rfl⟩, ?_⟩
      refine ⟨_, [], trivial, rfl, rfl, fun h => ⟨h, rfl, rfl, rfl⟩, ?_⟩
      refine ⟨⟨fun _ => trivial, fun hc => (gn hc)⟩, ?_⟩
      refine ⟨_, [], trivial, rfl, rfl, fun h => ⟨rfl, rfl, rfl⟩, ?_⟩
      refine ⟨_, [], trivial, rfl, rfl, fun h => ⟨h, rfl, rfl, rfl⟩, ?_⟩
      refine ⟨_, [], trivial, rfl, rfl, fun h => ⟨h, rfl, rfl, rfl⟩, ?_⟩
      refine ⟨_, [], trivial, rfl, rfl, fun h => ⟨h, rfl, rfl, rfl⟩, ?_⟩
      refine ⟨⟨fun _ => trivial, fun hc => (gn hc)⟩, ?_⟩
      refine Tri.seq (Tri.reg hT ?_)
      refine Tri.le _ (Le.freezeB 1 17 L.length [.int .i64 3, .int .i64 0, .str []] [] rfl rfl (Nat.le_refl _) rfl) ?_
      refine Tri.ret ?_
      exact ⟨congrArg (fun x => AV.agg [.int .i64 3, .int .i64 0, .str [], .list .str x]) List.take_length, congrArg (fun b => some (Chunk.box [.str (allM 3 r).2.1, .bool b])) (by rw [ifo, ifo]; congr 1; rw [decide_eq_decide]; show (L.length : Int) > 6 ↔ _; omega), trivial⟩
end Go.Proofs.Ytgbmbihajkjbmaa.Fx
