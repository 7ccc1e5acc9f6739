import Derived.Test.YtgbmbihajkjbmaaTlU
set_option linter.all false
/- Contracts of chapter 32: the reference's parser. -/
namespace Go.Proofs.Ytgbmbihajkjbmaa.Fx
open Go Go.Fw Go.Ov Go.Tl Go.Shelf
theorem f13_spec : NSpec P [] 13 [] (pC ([], [], false, false)) := by
  refine nspec_intro hT 2 Try.func13 (by decide) rfl rfl (by kernel_rfl) rfl ?_
  refine Tri.seq (Tri.reg hT ?_)
  refine Tri.seq (Tri.reg hT ?_)
  refine Tri.ret ?_
  exact ⟨rfl, rfl, trivial⟩
theorem f31_spec (r h : List UInt8) (s d : Bool) (id : Nat) : CSpec P [] 31 [.loc id 0] (oneU id (prC r h s d) (some (prC r h s true))) (.agg [.int .i64 6, .int .i64 0, .str [], .nils]) := by
  refine cspec_intro hT Try.func31 (by decide) rfl rfl (by kernel_rfl) rfl (fun _ => rfl) (fun _ => rfl) (fun _ => rfl) (fun _ => rfl) ?_ id
  refine Tri.seq (Tri.reg hT ?_)
  refine Tri.seq (Tri.reg hT ?_)
  refine Tri.seq (Tri.reg hT ?_)
  refine Tri.ret ?_
  exact ⟨rfl, rfl, trivial⟩
set_option maxRecDepth 8000 in
theorem f48_spec (recs h0 : List UInt8) (sl : Bool) (hb : h0.length ≤ 1099511627776) (id : Nat) : CSpec P [] 48 [.loc id 0] (oneU id (prC recs h0 sl false) (some (prC recs (msgA h0 []).1 sl (msgA h0 []).2.2))) (.list eT (msgA h0 []).2.1) := by
  refine cspec_intro hT Try.func48 (by decide) rfl rfl (by kernel_rfl) rfl (fun _ => rfl) (fun _ => rfl) (fun _ => rfl) (fun _ => rfl) ?_ id
  refine Tri.seq (Tri.reg hT ?_)
  refine Tri.seq (Tri.reg hT ?_)
  refine Tri.seq (Tri.block ?_)
  refine (Tri.loop (ι := List UInt8 × List EvD) (fun x => ⟨96, 1, 60, [(0, .loc 0 0), (3, .own 2 x.2.length)], [(0, .box (prC recs x.1 sl false)), (2, .arr eT x.2)], []⟩) (fun x => x.1.length ≤ 1099511627776 ∧ x.2.length + x.1.length ≤ 1099511627776 ∧ msgA x.1 x.2 = msgA h0 []) (fun x => x.1.length) ((h0, [])) ?_ ?_ ?_)
  · exact ⟨hb, by show 0 + h0.length ≤ _; omega, rfl⟩
  · exact Le.weak rfl rfl rfl rfl ⟨(by first | rfl | exact iv1 (by (try simp only [decide_eq_true_eq, decide_eq_false_iff_not, toNat_cast] at *); omega)), (by first | rfl | exact iv1 (by (try simp only [decide_eq_true_eq, decide_eq_false_iff_not, toNat_cast] at *); omega)), trivial⟩ ⟨rfl, rfl, trivial⟩
  · intro ⟨h, out⟩ hi; obtain ⟨hl, hlen, hi2⟩ := hi; change h.length ≤ _ at hl; change out.length + h.length ≤ _ at hlen
    refine Tri.seq ?_
    refine Tri.seq (Tri.reg hT ?_)
    refine (Tri.cond ⟨fun h1 => ?_, fun h1 => ?_⟩)
    · refine (Tri.skip ?_)
      refine (Tri.block ?_)
      have hq4 : ¬ h.length < 4 := (by have := of_decide_eq_true h1; change (h.length : Int) ≥ 4 at this; omega); have hrl := msgR_len hq4
      refine Tri.le (⟨96, 1, 80, [(0, .loc 0 0), (3, .own 2 out.length)], [(0, .box (prC recs h sl false)), (2, .arr eT out)], []⟩) (Le.weak rfl rfl rfl rfl ⟨(by first | rfl | exact iv1 (by (try simp only [decide_eq_true_eq, decide_eq_false_iff_not, toNat_cast] at *); omega)), (by first | rfl | exact iv1 (by (try simp only [decide_eq_true_eq, decide_eq_false_iff_not, toNat_cast] at *); omega)), trivial⟩ ⟨rfl, rfl, trivial⟩) ?_
      refine Tri.seq (Tri.reg hT ?_)
      refine .inl (.inl ⟨_, fun _ => rfl, f30_spec h 1 3 ((h.drop 1).take 3) (by decide) (by omega) hl rfl, ?_⟩)
      have hn := num3 (h := h) (by omega); have hml : msgL h < 16777216 := (by rw [← hn]; exact numB3 (by rw [List.length_take]; omega))
      refine Tri.le (⟨96, 1, 100, [(0, .loc 0 0), (3, .own 2 out.length), (4, .int .i64 (msgL h : Int))], [(0, .box (prC recs h sl false)), (2, .arr eT out)], []⟩) (Le.weak rfl rfl rfl rfl ⟨(by first | rfl | exact iv1 (by (try simp only [decide_eq_true_eq, decide_eq_false_iff_not, toNat_cast] at *); omega)), (by first | rfl | exact iv1 (by (try simp only [decide_eq_true_eq, decide_eq_false_iff_not, toNat_cast] at *); omega)), congrArg (fun n : Nat => AV.int .i64 (n : Int)) hn, trivial⟩ ⟨rfl, rfl, trivial⟩) ?_
      refine Tri.seq ?_
      refine Tri.seq (Tri.reg hT ?_)
      refine (Tri.cond ⟨fun h2 => ?_, fun h2 => ?_⟩)
      · have q2 : msgL h > 8188 := (by have := of_decide_eq_true h2; omega); have eM := msg_err (out := out) hq4 q2; rw [← hi2, eM]
        refine Tri.seq (Tri.reg hT ?_)
        refine .inl (.inr (.inl ⟨_, _, (by exact ⟨rfl, trivial⟩), f31_spec recs h sl false _, (by rfl), ?_⟩))
        refine ⟨(Nat.le_refl _), by show _ ≤ _ ∧ (_ + 1) * 56 ≤ _ ∧ _ + 1 ≤ _; omega, ?_⟩
        refine Tri.le _ (Le.freeze 2 2 (out.length + 1) rfl rfl (by rw [List.take_length, List.length_append]; exact Nat.le_refl _)) ?_
        refine Tri.ret ?_
        exact ⟨congrArg (AV.list eT) (by rw [List.take_length]; exact List.take_of_length_le (by rw [List.length_append]; exact Nat.le_refl _)), rfl, trivial⟩
      · refine (Tri.skip ?_)
        refine Tri.seq ?_
        have q2 : ¬ msgL h > 8188 := (by have := of_decide_eq_false h2; omega); have w4 : IntKind.i64.wrap (4 + (msgL h : Int)) = ((4 + msgL h : Nat) : Int) := (by rw [wrapId (by omega)]; omega)
        refine Tri.le (⟨96, 1, 120, [(0, .loc 0 0), (3, .own 2 out.length), (4, .int .i64 (msgL h : Int))], [(0, .box (prC recs h sl false)), (2, .arr eT out)], []⟩) (Le.weak rfl rfl rfl rfl ⟨(by first | rfl | exact iv1 (by (try simp only [decide_eq_true_eq, decide_eq_false_iff_not, toNat_cast] at *); omega)), (by first | rfl | exact iv1 (by (try simp only [decide_eq_true_eq, decide_eq_false_iff_not, toNat_cast] at *); omega)), (by first | rfl | exact iv1 (by (try simp only [decide_eq_true_eq, decide_eq_false_iff_not, toNat_cast] at *); omega)), trivial⟩ ⟨rfl, rfl, trivial⟩) ?_
        refine Tri.seq (Tri.reg hT ?_)
        refine (Tri.cond ⟨fun h3 => ?_, fun h3 => ?_⟩)
        · refine Tri.exit ?_
          refine Tri.seq (Tri.reg hT ?_)
          have q3 : h.length < 4 + msgL h := (by rw [w4] at h3; have := of_decide_eq_true h3; change (h.length : Int) < _ at this; omega); rw [← hi2, msg_wait hq4 q2 q3]; refine Tri.le _ (Le.freeze 2 2 out.length rfl rfl (Nat.le_refl _)) ?_
          refine Tri.ret ?_
          exact ⟨congrArg (AV.list eT) List.take_length, rfl, trivial⟩
        · refine (Tri.skip ?_)
          have q3 : ¬ h.length < 4 + msgL h := (by rw [w4] at h3; have := of_decide_eq_false h3; change ¬ (h.length : Int) < _ at this; omega)
          refine Tri.le (⟨96, 1, 200, [(0, .loc 0 0), (3, .own 2 out.length), (4, .int .i64 (msgL h : Int))], [(0, .box (prC recs h sl false)), (2, .arr eT out)], []⟩) (Le.weak rfl rfl rfl rfl ⟨(by first | rfl | exact iv1 (by (try simp only [decide_eq_true_eq, decide_eq_false_iff_not, toNat_cast] at *); omega)), (by first | rfl | exact iv1 (by (try simp only [decide_eq_true_eq, decide_eq_false_iff_not, toNat_cast] at *); omega)), (by first | rfl | exact iv1 (by (try simp only [decide_eq_true_eq, decide_eq_false_iff_not, toNat_cast] at *); omega)), trivial⟩ ⟨rfl, rfl, trivial⟩) ?_
          refine Tri.seq (Tri.reg hT ?_)
          refine ⟨by omega, ?_⟩
          refine Tri.seq (Tri.reg hT ?_)
          refine ⟨by rw [w4]; omega, ?_⟩
          refine Tri.seq (Tri.reg hT ?_)
          refine ⟨by rw [w4]; omega, ?_⟩
          have hbl : (msgB h).length ≤ 1099511627776 := (by unfold msgB; rw [List.length_drop, List.length_take]; omega)
          refine Tri.le (⟨96, 1, 400, [(0, .loc 0 0), (3, .own 2 out.length), (5, .int .u8 ((h.getD 0 0).toNat : Int)), (6, .str (msgB h))], [(0, .box (prC recs (msgR h) sl false)), (2, .arr eT out)], []⟩) (Le.weak rfl rfl rfl rfl ⟨(by first | rfl | exact iv1 (by (try simp only [decide_eq_true_eq, decide_eq_false_iff_not, toNat_cast] at *); omega)), (by first | rfl | exact iv1 (by (try simp only [decide_eq_true_eq, decide_eq_false_iff_not, toNat_cast] at *); omega)), (by first | rfl | exact iv1 (by (try simp only [decide_eq_true_eq, decide_eq_false_iff_not, toNat_cast] at *); omega)), congrArg AV.str (by rw [w4]; rfl), trivial⟩ ⟨congrArg (fun x => some (Chunk.box [.str recs, .str x, .bool sl, .bool false])) (by rw [w4, toNat_cast, toNat_cast, List.take_length]; rfl), rfl, trivial⟩) ?_
          refine Tri.seq (Tri.reg hT ?_)
          refine Tri.join (True) (⟨96, 1, 500, [(0, .loc 0 0), (3, .own 2 out.length), (7, .loc 401 0), (8, .bool (bodyF (h.getD 0 0).toNat (msgB h)).1)], [(0, .box (prC recs (msgR h) sl false)), (2, .arr eT out), (401, .box [.int .i64 (bodyF (h.getD 0 0).toNat (msgB h)).2.1, .int .i64 (bodyF (h.getD 0 0).toNat (msgB h)).2.2.1, .str (bodyF (h.getD 0 0).toNat (msgB h)).2.2.2.1, .list .str (bodyF (h.getD 0 0).toNat (msgB h)).2.2.2.2.1])], []⟩) ?_ fun hp4 => ?_
          · refine Tri.seq (Tri.reg hT ?_)
            refine (Tri.block ?_)
            refine Tri.seq (Tri.reg hT ?_)
            refine (Tri.cond ⟨fun h4 => ?_, fun h4 => ?_⟩)
            · refine (Tri.reg hT ?_)
              refine .inl (.inl ⟨_, fun _ => rfl, f66_spec (msgB h) hbl, ?_⟩)
              have k1 : (h.getD 0 0).toNat = 1 := (by have := of_decide_eq_true h4; omega); have eF := bodyF1 (b := msgB h) k1; rw [eF]; generalize cliZ (msgB h) = z; obtain ⟨⟨z1, z2, z3⟩, z4⟩ := z; exact ⟨trivial, Le.weakV rfl rfl rfl rfl ⟨rfl, rfl, rfl, rfl, trivial⟩ ⟨⟨rfl, rfl, rfl, rfl, trivial⟩, rfl, ⟨rfl, rfl, rfl, rfl, trivial⟩, trivial⟩⟩
            · refine Tri.seq (Tri.reg hT ?_)
              refine (Tri.cond ⟨fun h5 => ?_, fun h5 => ?_⟩)
              · refine (Tri.reg hT ?_)
                refine .inl (.inl ⟨_, fun _ => rfl, f67_spec (msgB h) hbl, ?_⟩)
                have k1 : ¬ (h.getD 0 0).toNat = 1 := (by have := of_decide_eq_false h4; omega); have k2 : (h.getD 0 0).toNat = 2 := (by have := of_decide_eq_true h5; omega); have eF := bodyF2 (b := msgB h) k1 k2; rw [eF]; generalize srvZ (msgB h) = z; obtain ⟨⟨z1, z2, z3⟩, z4⟩ := z; exact ⟨trivial, Le.weakV rfl rfl rfl rfl ⟨rfl, rfl, rfl, rfl, trivial⟩ ⟨⟨rfl, rfl, rfl, rfl, trivial⟩, rfl, ⟨rfl, rfl, rfl, rfl, trivial⟩, trivial⟩⟩
              · refine Tri.seq (Tri.reg hT ?_)
                refine (Tri.cond ⟨fun h6 => ?_, fun h6 => ?_⟩)
                · refine (Tri.reg hT ?_)
                  refine .inl (.inl ⟨_, fun _ => rfl, f68_spec (msgB h) hbl, ?_⟩)
                  have k1 : ¬ (h.getD 0 0).toNat = 1 := (by have := of_decide_eq_false h4; omega); have k2 : ¬ (h.getD 0 0).toNat = 2 := (by have := of_decide_eq_false h5; omega); have k3 : (h.getD 0 0).toNat = 11 := (by have := of_decide_eq_true h6; omega); have eF := bodyF11 (b := msgB h) k1 k2 k3; rw [eF]; generalize chnE (msgB h) = z; generalize (chnM (msgB h, false)).1.2 = y; obtain ⟨z1, z2⟩ := z; exact ⟨trivial, Le.weakV rfl rfl rfl rfl ⟨rfl, rfl, rfl, rfl, trivial⟩ ⟨⟨rfl, rfl, rfl, rfl, trivial⟩, rfl, ⟨rfl, rfl, rfl, rfl, trivial⟩, trivial⟩⟩
                · refine (Tri.skip ?_)
                  have k1 : ¬ (h.getD 0 0).toNat = 1 := (by have := of_decide_eq_false h4; omega); have k2 : ¬ (h.getD 0 0).toNat = 2 := (by have := of_decide_eq_false h5; omega); have k3 : ¬ (h.getD 0 0).toNat = 11 := (by have := of_decide_eq_false h6; omega); have eF := bodyF0 (b := msgB h) k1 k2 k3; rw [eF]; exact ⟨trivial, Le.weakV rfl rfl rfl rfl ⟨rfl, rfl, rfl, rfl, trivial⟩ ⟨⟨rfl, rfl, rfl, rfl, trivial⟩, rfl, ⟨rfl, rfl, rfl, rfl, trivial⟩, trivial⟩⟩
          · refine Tri.seq ?_
            refine Tri.seq (Tri.reg hT ?_)
            refine (Tri.cond ⟨fun h7 => ?_, fun h7 => ?_⟩)
            · have hz : (bodyF (h.getD 0 0).toNat (msgB h)).1 = false := (by simpa using h7); obtain ⟨e, hbo⟩ := bodyF_bad hz; rw [← hi2, msg_bad hq4 q2 q3 hbo]
              refine Tri.seq (Tri.reg hT ?_)
              refine .inl (.inr (.inl ⟨_, _, (by exact ⟨rfl, trivial⟩), f31_spec recs (msgR h) sl false _, (by rfl), ?_⟩))
              refine ⟨(Nat.le_refl _), by show _ ≤ _ ∧ (_ + 1) * 56 ≤ _ ∧ _ + 1 ≤ _; omega, ?_⟩
              refine Tri.le _ (Le.freeze 2 2 (out.length + 1) rfl rfl (by rw [List.take_length, List.length_append]; exact Nat.le_refl _)) ?_
              refine Tri.ret ?_
              exact ⟨congrArg (AV.list eT) (by rw [List.take_length]; exact List.take_of_length_le (by rw [List.length_append]; exact Nat.le_refl _)), rfl, trivial⟩
            · refine (Tri.skip ?_)
              have hz : (bodyF (h.getD 0 0).toNat (msgB h)).1 = true := (by simpa using h7)
              refine Tri.seq (Tri.reg hT ?_)
              refine (Tri.cond ⟨fun h8 => ?_, fun h8 => ?_⟩)
              · refine (Tri.reg hT ?_)
                refine ⟨(Nat.le_refl _), by show _ ≤ _ ∧ (_ + 1) * 56 ≤ _ ∧ _ + 1 ≤ _; omega, ?_⟩
                have hk0 := of_decide_eq_true h8; have hbo := bodyF_ok hz hk0; have eM := msg_ok (out := out) hq4 q2 q3 hbo; generalize (bodyF (h.getD 0 0).toNat (msgB h)).2 = e at *
                exact ⟨(msgR h, out ++ [e]), ⟨by show (msgR h).length ≤ _; omega, by show (out ++ [e]).length + (msgR h).length ≤ _; rw [List.length_append]; show out.length + 1 + _ ≤ _; omega, eM.symm.trans hi2⟩, hrl, Le.weak rfl rfl rfl rfl ⟨(by first | rfl | exact iv1 (by (try simp only [decide_eq_true_eq, decide_eq_false_iff_not, toNat_cast] at *); omega)), congrArg (AV.own 2) (by show _ = (out ++ [e]).length; rw [List.length_append]; rfl), trivial⟩ ⟨rfl, congrArg (fun x => some (Chunk.arr eT x)) (by rw [List.take_length]; rfl), trivial⟩⟩
              · refine (Tri.skip ?_)
                have hk0 := Classical.not_not.1 (of_decide_eq_false h8); have hbo := bodyF_none hz hk0; have eM := msg_none (out := out) hq4 q2 q3 hbo
                exact ⟨(msgR h, out), ⟨by show (msgR h).length ≤ _; omega, by show out.length + (msgR h).length ≤ _; omega, eM.symm.trans hi2⟩, hrl, Le.weak rfl rfl rfl rfl ⟨(by first | rfl | exact iv1 (by (try simp only [decide_eq_true_eq, decide_eq_false_iff_not, toNat_cast] at *); omega)), (by first | rfl | exact iv1 (by (try simp only [decide_eq_true_eq, decide_eq_false_iff_not, toNat_cast] at *); omega)), trivial⟩ ⟨rfl, rfl, trivial⟩⟩
    · refine Tri.exit ?_
      refine Tri.seq (Tri.reg hT ?_)
      have q1 : h.length < 4 := (by have := of_decide_eq_false h1; change ¬ (h.length : Int) ≥ 4 at this; omega); rw [← hi2, msg_end q1]; refine Tri.le _ (Le.freeze 2 2 out.length rfl rfl (Nat.le_refl _)) ?_
      refine Tri.ret ?_
      exact ⟨congrArg (AV.list eT) List.take_length, rfl, trivial⟩
end Go.Proofs.Ytgbmbihajkjbmaa.Fx
