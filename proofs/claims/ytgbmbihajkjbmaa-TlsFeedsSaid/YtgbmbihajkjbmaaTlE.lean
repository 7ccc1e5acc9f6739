import Derived.Test.YtgbmbihajkjbmaaTlD
import Derived.Test.YtgbmbihajkjbmaaGTl1
set_option linter.all false
/- Contracts of chapter 32: handshake messages. -/
namespace Go.Proofs.Ytgbmbihajkjbmaa.Fx
open Go Go.Fw Go.Ov Go.Tl
abbrev prC (recs h : List UInt8) (sl dead : Bool) : List AV := [.str recs, .str h, .bool sl, .bool dead]
set_option maxRecDepth 8000 in
theorem f29_spec (recs h0 : List UInt8) (sl : Bool) (hb : h0.length ≤ 1099511627776) (id : Nat) : CSpec P [] 29 [.loc id 0] (oneU id (prC recs h0 sl false) (some (prC recs (msgA h0 []).1 sl (msgA h0 []).2.2))) (.list eT (msgA h0 []).2.1) := by
  refine cspec_intro hT Try.func29 (by decide) rfl rfl (by kernel_rfl) rfl (fun _ => rfl) (fun _ => rfl) (fun _ => rfl) (fun _ => rfl) ?_ id
  refine Tri.seq (Tri.reg hT ?_)
  refine Tri.seq (Tri.reg hT ?_)
  refine Tri.seq (Tri.block ?_)
  refine (Tri.loop (ι := List UInt8 × List EvD) (fun x => ⟨108, 1, 60, [(0, .loc 0 0), (3, .own 3 x.2.length)], [(0, .box (prC recs x.1 sl false)), (3, .arr eT x.2)], []⟩) (fun x => x.1.length ≤ 1099511627776 ∧ x.2.length + x.1.length ≤ 1099511627776 ∧ msgA x.1 x.2 = msgA h0 []) (fun x => x.1.length) ((h0, [])) ?_ ?_ ?_)
  · exact ⟨hb, by show 0 + h0.length ≤ _; omega, rfl⟩
  · exact Le.trans (Le.own 3 eT rfl) (Le.weak rfl rfl rfl rfl ⟨(by first | rfl | exact iv1 (by (try simp only [decide_eq_true_eq, decide_eq_false_iff_not, toNat_cast] at *); omega)), (by first | rfl | exact iv1 (by (try simp only [decide_eq_true_eq, decide_eq_false_iff_not, toNat_cast] at *); omega)), trivial⟩ ⟨rfl, rfl, trivial⟩)
  · intro ⟨h, out⟩ hi; obtain ⟨hl, hlen, hi2⟩ := hi; change h.length ≤ _ at hl; change out.length + h.length ≤ _ at hlen
    refine Tri.seq ?_
    refine Tri.seq (Tri.reg hT ?_)
    refine (Tri.cond ⟨fun h1 => ?_, fun h1 => ?_⟩)
    · refine (Tri.skip ?_)
      refine (Tri.block ?_)
      have hq4 : ¬ h.length < 4 := (by have := of_decide_eq_true h1; change (h.length : Int) ≥ 4 at this; omega); have hrl := msgR_len hq4
      refine Tri.le (⟨108, 1, 80, [(0, .loc 0 0), (3, .own 3 out.length)], [(0, .box (prC recs h sl false)), (3, .arr eT out)], []⟩) (Le.weak rfl rfl rfl rfl ⟨(by first | rfl | exact iv1 (by (try simp only [decide_eq_true_eq, decide_eq_false_iff_not, toNat_cast] at *); omega)), (by first | rfl | exact iv1 (by (try simp only [decide_eq_true_eq, decide_eq_false_iff_not, toNat_cast] at *); omega)), trivial⟩ ⟨rfl, rfl, trivial⟩) ?_
      refine Tri.seq (Tri.drw hT hm 22 (by kernel_rfl) ?_)
      refine ⟨by omega, ?_⟩
      refine ⟨(by decide), ?_⟩
      refine ⟨by omega, ?_⟩
      refine ⟨(by decide), ?_⟩
      refine ⟨by omega, ?_⟩
      refine ⟨by kernel_rfl, ?_⟩
      refine Tri.seq ?_
      skip
      refine Tri.le (⟨108, 1, 110, [(0, .loc 0 0), (3, .own 3 out.length), (4, .int .i64 (msgL h : Int))], [(0, .box (prC recs h sl false)), (3, .arr eT out)], []⟩) (Le.weak rfl rfl rfl rfl ⟨(by first | rfl | exact iv1 (by (try simp only [decide_eq_true_eq, decide_eq_false_iff_not, toNat_cast] at *); omega)), (by first | rfl | exact iv1 (by (try simp only [decide_eq_true_eq, decide_eq_false_iff_not, toNat_cast] at *); omega)), congrArg (AV.int .i64) (or3 (h.getD 1 0) (h.getD 2 0) (h.getD 3 0)), trivial⟩ ⟨rfl, rfl, trivial⟩) ?_
      refine Tri.seq (Tri.reg hT ?_)
      refine (Tri.cond ⟨fun h2 => ?_, fun h2 => ?_⟩)
      · have q2 : msgL h > 8188 := (by have := of_decide_eq_true h2; omega); have eM := msg_err (out := out) hq4 q2; rw [← hi2, eM]
        refine Tri.seq (Tri.reg hT ?_)
        refine Tri.seq (Tri.reg hT ?_)
        refine ⟨(Nat.le_refl _), by show _ ≤ _ ∧ (_ + 1) * 56 ≤ _ ∧ _ + 1 ≤ _; omega, ?_⟩
        refine Tri.le _ (Le.freeze 2 3 (out.length + 1) rfl rfl (by rw [List.take_length, List.length_append]; exact Nat.le_refl _)) ?_
        refine Tri.ret ?_
        exact ⟨congrArg (AV.list eT) (by rw [List.take_length]; exact List.take_of_length_le (by rw [List.length_append]; exact Nat.le_refl _)), rfl, trivial⟩
      · refine (Tri.skip ?_)
        refine Tri.seq ?_
        have q2 : ¬ msgL h > 8188 := (by have := of_decide_eq_false h2; omega); have w4 : IntKind.i64.wrap (4 + (msgL h : Int)) = ((4 + msgL h : Nat) : Int) := (by rw [wrapId (by omega)]; omega)
        refine Tri.le (⟨108, 1, 120, [(0, .loc 0 0), (3, .own 3 out.length), (4, .int .i64 (msgL h : Int))], [(0, .box (prC recs h sl false)), (3, .arr eT out)], []⟩) (Le.weak rfl rfl rfl rfl ⟨(by first | rfl | exact iv1 (by (try simp only [decide_eq_true_eq, decide_eq_false_iff_not, toNat_cast] at *); omega)), (by first | rfl | exact iv1 (by (try simp only [decide_eq_true_eq, decide_eq_false_iff_not, toNat_cast] at *); omega)), (by first | rfl | exact iv1 (by (try simp only [decide_eq_true_eq, decide_eq_false_iff_not, toNat_cast] at *); omega)), trivial⟩ ⟨rfl, rfl, trivial⟩) ?_
        refine Tri.seq (Tri.reg hT ?_)
        refine (Tri.cond ⟨fun h3 => ?_, fun h3 => ?_⟩)
        · refine Tri.exit ?_
          refine Tri.seq (Tri.reg hT ?_)
          have q3 : h.length < 4 + msgL h := (by rw [w4] at h3; have := of_decide_eq_true h3; omega); rw [← hi2, msg_wait hq4 q2 q3]; refine Tri.le _ (Le.freeze 2 3 out.length rfl rfl (Nat.le_refl _)) ?_
          refine Tri.ret ?_
          exact ⟨congrArg (AV.list eT) List.take_length, rfl, trivial⟩
        · refine (Tri.skip ?_)
          have q3 : ¬ h.length < 4 + msgL h := (by rw [w4] at h3; have := of_decide_eq_false h3; omega)
          refine Tri.le (⟨108, 1, 200, [(0, .loc 0 0), (3, .own 3 out.length), (4, .int .i64 (msgL h : Int))], [(0, .box (prC recs h sl false)), (3, .arr eT out)], []⟩) (Le.weak rfl rfl rfl rfl ⟨(by first | rfl | exact iv1 (by (try simp only [decide_eq_true_eq, decide_eq_false_iff_not, toNat_cast] at *); omega)), (by first | rfl | exact iv1 (by (try simp only [decide_eq_true_eq, decide_eq_false_iff_not, toNat_cast] at *); omega)), (by first | rfl | exact iv1 (by (try simp only [decide_eq_true_eq, decide_eq_false_iff_not, toNat_cast] at *); omega)), trivial⟩ ⟨rfl, rfl, trivial⟩) ?_
          refine Tri.seq (Tri.drw hT hm 16 (by kernel_rfl) ?_)
          refine ⟨by omega, ?_⟩
          refine ⟨by rw [w4]; omega, ?_⟩
          refine ⟨by kernel_rfl, ?_⟩
          skip
          refine Tri.le (⟨108, 1, 300, [(0, .loc 0 0), (3, .own 3 out.length), (4, .int .i64 (msgL h : Int)), (5, .int .i64 ((h.getD 0 0).toNat : Int)), (6, .loc 214 0)], [(0, .box (prC recs h sl false)), (3, .arr eT out), (214, .box (rdC (msgB h, false)))], []⟩) (Le.weak rfl rfl rfl rfl ⟨(by first | rfl | exact iv1 (by (try simp only [decide_eq_true_eq, decide_eq_false_iff_not, toNat_cast] at *); omega)), (by first | rfl | exact iv1 (by (try simp only [decide_eq_true_eq, decide_eq_false_iff_not, toNat_cast] at *); omega)), (by first | rfl | exact iv1 (by (try simp only [decide_eq_true_eq, decide_eq_false_iff_not, toNat_cast] at *); omega)), congrArg (AV.int .i64) (wrapB (h.getD 0 0)), (by first | rfl | exact iv1 (by (try simp only [decide_eq_true_eq, decide_eq_false_iff_not, toNat_cast] at *); omega)), trivial⟩ ⟨rfl, rfl, congrArg (fun x => some (Chunk.box [.str x, .bool false])) (by rw [w4]; rfl), trivial⟩) ?_
          refine Tri.seq (Tri.reg hT ?_)
          refine ⟨by rw [w4]; omega, ?_⟩
          have hbl : (msgB h).length ≤ 1099511627776 := (by unfold msgB; rw [List.length_drop, List.length_take]; omega)
          refine Tri.le (⟨108, 1, 400, [(0, .loc 0 0), (3, .own 3 out.length), (5, .int .i64 ((h.getD 0 0).toNat : Int)), (6, .loc 214 0)], [(0, .box (prC recs (msgR h) sl false)), (3, .arr eT out), (214, .box (rdC (msgB h, false)))], []⟩) (Le.weak rfl rfl rfl rfl ⟨(by first | rfl | exact iv1 (by (try simp only [decide_eq_true_eq, decide_eq_false_iff_not, toNat_cast] at *); omega)), (by first | rfl | exact iv1 (by (try simp only [decide_eq_true_eq, decide_eq_false_iff_not, toNat_cast] at *); omega)), (by first | rfl | exact iv1 (by (try simp only [decide_eq_true_eq, decide_eq_false_iff_not, toNat_cast] at *); omega)), (by first | rfl | exact iv1 (by (try simp only [decide_eq_true_eq, decide_eq_false_iff_not, toNat_cast] at *); omega)), trivial⟩ ⟨congrArg (fun x => some (Chunk.box [.str recs, .str x, .bool sl, .bool false])) (by rw [w4, toNat_cast, toNat_cast, List.take_length]; rfl), rfl, rfl, trivial⟩) ?_
          refine Tri.seq (Tri.reg hT ?_)
          refine Tri.seq ?_
          refine Tri.seq (Tri.reg hT ?_)
          refine (Tri.block ?_)
          refine Tri.seq (Tri.reg hT ?_)
          refine (Tri.cond ⟨fun h4 => ?_, fun h4 => ?_⟩)
          · refine (Tri.reg hT ?_)
            refine .inl (.inr (.inl ⟨_, _, (by exact ⟨rfl, trivial⟩), f44_spec (msgB h, false) hbl _, (by rfl), ?_⟩))
            refine Tri.seq ?_
            refine Tri.seq (Tri.reg hT ?_)
            refine (Tri.cond ⟨fun h5 => ?_, fun h5 => ?_⟩)
            · refine Tri.seq (Tri.reg hT ?_)
              refine Tri.seq (Tri.reg hT ?_)
              refine ⟨(Nat.le_refl _), by show _ ≤ _ ∧ (_ + 1) * 56 ≤ _ ∧ _ + 1 ≤ _; omega, ?_⟩
              have k1 : (h.getD 0 0).toNat = 1 := (by have := of_decide_eq_true h4; omega); have hbo := body1 (b := msgB h) k1; rw [show (cliM (msgB h, false)).1.2 = true from h5] at hbo; rw [← hi2, msg_bad hq4 q2 q3 hbo]; refine Tri.le _ (Le.freeze 2 3 (out.length + 1) rfl rfl (by rw [List.take_length, List.length_append]; exact Nat.le_refl _)) ?_
              refine Tri.ret ?_
              exact ⟨congrArg (AV.list eT) (by rw [List.take_length]; exact List.take_of_length_le (by rw [List.length_append]; exact Nat.le_refl _)), rfl, trivial⟩
            · refine (Tri.skip ?_)
              refine (Tri.reg hT ?_)
              refine ⟨(Nat.le_refl _), by show _ ≤ _ ∧ (_ + 1) * 56 ≤ _ ∧ _ + 1 ≤ _; omega, ?_⟩
              have k1 : (h.getD 0 0).toNat = 1 := (by have := of_decide_eq_true h4; omega); have hbo := body1 (b := msgB h) k1; rw [show (cliM (msgB h, false)).1.2 = false from h5] at hbo; have eM := msg_ok (out := out) hq4 q2 q3 hbo
              exact ⟨(msgR h, out ++ [toD (cliM (msgB h, false)).2]), ⟨by show (msgR h).length ≤ _; omega, by show (out ++ [toD (cliM (msgB h, false)).2]).length + (msgR h).length ≤ _; rw [List.length_append]; show out.length + 1 + _ ≤ _; omega, eM.symm.trans hi2⟩, hrl, Le.weak rfl rfl rfl rfl ⟨(by first | rfl | exact iv1 (by (try simp only [decide_eq_true_eq, decide_eq_false_iff_not, toNat_cast] at *); omega)), congrArg (AV.own 3) (by show _ = (out ++ [toD (cliM (msgB h, false)).2]).length; rw [List.length_append]; rfl), trivial⟩ ⟨rfl, congrArg (fun x => some (Chunk.arr eT x)) (by rw [List.take_length]; rfl), trivial⟩⟩
          · refine Tri.seq (Tri.reg hT ?_)
            refine (Tri.cond ⟨fun h6 => ?_, fun h6 => ?_⟩)
            · refine (Tri.reg hT ?_)
              refine .inl (.inr (.inl ⟨_, _, (by exact ⟨rfl, trivial⟩), f45_spec (msgB h, false) hbl _, (by rfl), ?_⟩))
              refine Tri.seq ?_
              refine Tri.seq (Tri.reg hT ?_)
              refine (Tri.cond ⟨fun h7 => ?_, fun h7 => ?_⟩)
              · refine Tri.seq (Tri.reg hT ?_)
                refine Tri.seq (Tri.reg hT ?_)
                refine ⟨(Nat.le_refl _), by show _ ≤ _ ∧ (_ + 1) * 56 ≤ _ ∧ _ + 1 ≤ _; omega, ?_⟩
                have k1 : ¬ (h.getD 0 0).toNat = 1 := (by have := of_decide_eq_false h4; omega); have k2 : (h.getD 0 0).toNat = 2 := (by have := of_decide_eq_true h6; omega); have hbo := body2 (b := msgB h) k1 k2; rw [show (srvM (msgB h, false)).1.2 = true from h7] at hbo; rw [← hi2, msg_bad hq4 q2 q3 hbo]; refine Tri.le _ (Le.freeze 2 3 (out.length + 1) rfl rfl (by rw [List.take_length, List.length_append]; exact Nat.le_refl _)) ?_
                refine Tri.ret ?_
                exact ⟨congrArg (AV.list eT) (by rw [List.take_length]; exact List.take_of_length_le (by rw [List.length_append]; exact Nat.le_refl _)), rfl, trivial⟩
              · refine (Tri.skip ?_)
                refine (Tri.reg hT ?_)
                refine ⟨(Nat.le_refl _), by show _ ≤ _ ∧ (_ + 1) * 56 ≤ _ ∧ _ + 1 ≤ _; omega, ?_⟩
                have k1 : ¬ (h.getD 0 0).toNat = 1 := (by have := of_decide_eq_false h4; omega); have k2 : (h.getD 0 0).toNat = 2 := (by have := of_decide_eq_true h6; omega); have hbo := body2 (b := msgB h) k1 k2; rw [show (srvM (msgB h, false)).1.2 = false from h7] at hbo; have eM := msg_ok (out := out) hq4 q2 q3 hbo
                exact ⟨(msgR h, out ++ [toD (srvM (msgB h, false)).2]), ⟨by show (msgR h).length ≤ _; omega, by show (out ++ [toD (srvM (msgB h, false)).2]).length + (msgR h).length ≤ _; rw [List.length_append]; show out.length + 1 + _ ≤ _; omega, eM.symm.trans hi2⟩, hrl, Le.weak rfl rfl rfl rfl ⟨(by first | rfl | exact iv1 (by (try simp only [decide_eq_true_eq, decide_eq_false_iff_not, toNat_cast] at *); omega)), congrArg (AV.own 3) (by show _ = (out ++ [toD (srvM (msgB h, false)).2]).length; rw [List.length_append]; rfl), trivial⟩ ⟨rfl, congrArg (fun x => some (Chunk.arr eT x)) (by rw [List.take_length]; rfl), trivial⟩⟩
            · refine Tri.seq (Tri.reg hT ?_)
              refine (Tri.cond ⟨fun h8 => ?_, fun h8 => ?_⟩)
              · refine (Tri.reg hT ?_)
                refine .inl (.inr (.inl ⟨_, _, (by exact ⟨rfl, trivial⟩), f46_spec (msgB h, false) hbl _, (by rfl), ?_⟩))
                refine Tri.seq ?_
                refine Tri.seq (Tri.reg hT ?_)
                refine (Tri.cond ⟨fun h9 => ?_, fun h9 => ?_⟩)
                · refine Tri.seq (Tri.reg hT ?_)
                  refine Tri.seq (Tri.reg hT ?_)
                  refine ⟨(Nat.le_refl _), by show _ ≤ _ ∧ (_ + 1) * 56 ≤ _ ∧ _ + 1 ≤ _; omega, ?_⟩
                  have k1 : ¬ (h.getD 0 0).toNat = 1 := (by have := of_decide_eq_false h4; omega); have k2 : ¬ (h.getD 0 0).toNat = 2 := (by have := of_decide_eq_false h6; omega); have k3 : (h.getD 0 0).toNat = 11 := (by have := of_decide_eq_true h8; omega); have hbo := body11 (b := msgB h) k1 k2 k3; rw [show (chnM (msgB h, false)).1.2 = true from h9] at hbo; rw [← hi2, msg_bad hq4 q2 q3 hbo]; refine Tri.le _ (Le.freeze 2 3 (out.length + 1) rfl rfl (by rw [List.take_length, List.length_append]; exact Nat.le_refl _)) ?_
                  refine Tri.ret ?_
                  exact ⟨congrArg (AV.list eT) (by rw [List.take_length]; exact List.take_of_length_le (by rw [List.length_append]; exact Nat.le_refl _)), rfl, trivial⟩
                · refine (Tri.skip ?_)
                  refine (Tri.reg hT ?_)
                  refine ⟨(Nat.le_refl _), by show _ ≤ _ ∧ (_ + 1) * 56 ≤ _ ∧ _ + 1 ≤ _; omega, ?_⟩
                  have k1 : ¬ (h.getD 0 0).toNat = 1 := (by have := of_decide_eq_false h4; omega); have k2 : ¬ (h.getD 0 0).toNat = 2 := (by have := of_decide_eq_false h6; omega); have k3 : (h.getD 0 0).toNat = 11 := (by have := of_decide_eq_true h8; omega); have hbo := body11 (b := msgB h) k1 k2 k3; rw [show (chnM (msgB h, false)).1.2 = false from h9] at hbo; have eM := msg_ok (out := out) hq4 q2 q3 hbo
                  exact ⟨(msgR h, out ++ [(3, 0, [], (chnM (msgB h, false)).2, ())]), ⟨by show (msgR h).length ≤ _; omega, by show (out ++ [(3, 0, [], (chnM (msgB h, false)).2, ())]).length + (msgR h).length ≤ _; rw [List.length_append]; show out.length + 1 + _ ≤ _; omega, eM.symm.trans hi2⟩, hrl, Le.weak rfl rfl rfl rfl ⟨(by first | rfl | exact iv1 (by (try simp only [decide_eq_true_eq, decide_eq_false_iff_not, toNat_cast] at *); omega)), congrArg (AV.own 3) (by show _ = (out ++ [(3, 0, [], (chnM (msgB h, false)).2, ())]).length; rw [List.length_append]; rfl), trivial⟩ ⟨rfl, congrArg (fun x => some (Chunk.arr eT x)) (by rw [List.take_length]; rfl), trivial⟩⟩
              · refine Tri.exit ?_
                have k1 : ¬ (h.getD 0 0).toNat = 1 := (by have := of_decide_eq_false h4; omega); have k2 : ¬ (h.getD 0 0).toNat = 2 := (by have := of_decide_eq_false h6; omega); have k3 : ¬ (h.getD 0 0).toNat = 11 := (by have := of_decide_eq_false h8; omega); have eM := msg_none (out := out) hq4 q2 q3 (body0 (b := msgB h) k1 k2 k3)
                exact ⟨(msgR h, out), ⟨by show (msgR h).length ≤ _; omega, by show out.length + (msgR h).length ≤ _; omega, eM.symm.trans hi2⟩, hrl, Le.weak rfl rfl rfl rfl ⟨(by first | rfl | exact iv1 (by (try simp only [decide_eq_true_eq, decide_eq_false_iff_not, toNat_cast] at *); omega)), (by first | rfl | exact iv1 (by (try simp only [decide_eq_true_eq, decide_eq_false_iff_not, toNat_cast] at *); omega)), trivial⟩ ⟨rfl, rfl, trivial⟩⟩
    · refine Tri.exit ?_
      refine Tri.seq (Tri.reg hT ?_)
      have q1 : h.length < 4 := (by have := of_decide_eq_false h1; change ¬ (h.length : Int) ≥ 4 at this; omega); rw [← hi2, msg_end q1]; refine Tri.le _ (Le.freeze 2 3 out.length rfl rfl (Nat.le_refl _)) ?_
      refine Tri.ret ?_
      exact ⟨congrArg (AV.list eT) List.take_length, rfl, trivial⟩
end Go.Proofs.Ytgbmbihajkjbmaa.Fx
