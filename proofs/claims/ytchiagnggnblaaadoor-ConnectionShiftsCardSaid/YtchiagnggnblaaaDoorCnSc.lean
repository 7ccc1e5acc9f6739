import Derived.Test.YtchiagnggnblaaaDoorCnSb
set_option linter.all false
/- Chapter 21: only differences of sequence numbers count (printed by genSc.py). -/
namespace Go.Proofs.YtchiagnggnblaaaDoor.Ac
open Go Go.Fw Go.Ov Go.Proofs.YtchiagnggnblaaaDoor.Fx
theorem nodP : [17, 23, 24].Nodup := by decide
theorem nodQ : [20, 25, 26].Nodup := by decide
theorem segX_n {c : Cnn} {B : Int} (hi : CInv c B) (h0 : 0 ≤ B) (hB : B ≤ 1099511600000) {dir a b q k f w u : Int} {o : List optT.D} {x : List UInt8} (ho : o.length ≤ 10) (hx : x.length ≤ 200) {ev : List Evt} {st : Int} {p g : Hf} (hr : segC dir c q k f o x = (ev, ⟨st, p, g, none⟩)) {i j n : Nat} (hn : [i, j, n].Nodup) :
    HSpec P G 11 [.loc i 0, .int .i64 dir, tcpV a b q k f w u o x] (cnU c i j n) (.list evT ev) [(i, .box (cnC st p g .nilp .nilp)), (j, .ext (strX none)), (n, .ext (strX none))] := by
  have := at_U (f11_u c B hi h0 hB dir a b q k f w u o x (by omega) (by omega)) i j n hn rfl rfl
  rw [hr] at this
  exact seg_n hn this rfl
theorem segX_s {c : Cnn} {B : Int} (hi : CInv c B) (h0 : 0 ≤ B) (hB : B ≤ 1099511600000) {dir a b q k f w u : Int} {o : List optT.D} {x : List UInt8} (ho : o.length ≤ 10) (hx : x.length ≤ 200) {ev : List Evt} {st : Int} {p g : Hf} {s t : SS} (hr : segC dir c q k f o x = (ev, ⟨st, p, g, some (s, t)⟩)) {i j n : Nat} (hn : [i, j, n].Nodup) :
    HSpec P G 11 [.loc i 0, .int .i64 dir, tcpV a b q k f w u o x] (cnU c i j n) (.list evT ev) [(i, .box (cnC st p g (.loc j 0) (.loc n 0))), (j, .box (bxS s)), (n, .box (bxS t))] := by
  have := at_U (f11_u c B hi h0 hB dir a b q k f w u o x (by omega) (by omega)) i j n hn rfl rfl
  rw [hr] at this
  exact seg_s hn this rfl
theorem seg_len' (c : Cnn) (d q k f : Int) (o : List optT.D) (x : List UInt8) : (segC d c q k f o x).1.length ≤ 7 := by
  obtain ⟨st, p, g, ss⟩ := c
  have key : ∀ (d e : Int) (p g : Hf) (s t : SS), (sgH d e st p g s t q k f o x).1.length ≤ 7 := by
    intro d e p g s t
    have := tkE_len d e s t q k f x
    unfold sgH prM
    (repeat' split) <;> simp <;> omega
  unfold segC
  split
  · unfold seg1
    cases ss with
    | none =>
      have := tkE_len 1 2 (nwS p) (nwS g) q k f x
      dsimp only
      split
      · simp only [List.length_cons]; omega
      · unfold sgN1
        (repeat' split) <;> simp
    | some y =>
      dsimp only
      split
      · exact key ..
      · split <;> simp
  · split
    · unfold seg2
      cases ss with
      | none =>
        dsimp only
        unfold sgN2
        (repeat' split) <;> simp
      | some y =>
        dsimp only
        split
        · exact key ..
        · simp
    · simp
theorem shView {b0 b1 st : Int} {p g : Hf} {s t : SS} : (if decide (IntKind.u32.wrap ((vwC ⟨st, p, g, some (s, t)⟩ 1).2.1 + b0) = (vwC ⟨st, shH b0 p, shH b1 g, some (shS b0 s, shS b1 t)⟩ 1).2.1) = true then true else if (!(vwC ⟨st, p, g, some (s, t)⟩ 1).1) = true then !(vwC ⟨st, shH b0 p, shH b1 g, some (shS b0 s, shS b1 t)⟩ 1).1 else false) = true := by
  rw [show vwC ⟨st, p, g, some (s, t)⟩ 1 = (if opB st = true then vw1 p g s else (false, 0, 0, 0, false, 0)) from rfl,
    show vwC ⟨st, shH b0 p, shH b1 g, some (shS b0 s, shS b1 t)⟩ 1 = (if opB st = true then vw1 (shH b0 p) (shH b1 g) (shS b0 s) else (false, 0, 0, 0, false, 0)) from rfl]
  cases opB st
  · simp
  · simp [vw1, nextS_sh]
set_option maxRecDepth 16000 in
set_option maxHeartbeats 4000000 in
theorem f6_spec (p g : Hf) (hp : p.isn = 0 ∧ p.high = 0 ∧ p.stamped = false ∧ p.stamp = 0) (hg : g.isn = 0 ∧ g.high = 0 ∧ g.stamped = false ∧ g.stamp = 0) (l : List Sg) (hl : l.length ≤ 140737488351232) (b0 b1 : Int) (hu : ∀ e ∈ l, U32 (tqS e) ∧ U32 (tkK e)) :
    PSpec P G 6 [.agg (asA g), .agg (asA p), .agg [.list sgT l, .int .u32 b0, .int .u32 b1]] (.bool true) := by
  refine pspec_intro hT Tryd.func6 (by decide) rfl rfl (by kernel_rfl) rfl ?_
  refine Tri.seq (Tri.reg hT ?_)
  refine Tri.seq (Tri.drw hT hm 6 (by kernel_rfl) ?_)
  refine ⟨by kernel_rfl, ?_⟩
  refine Tri.seq ?_
  refine Tri.seq (Tri.reg hT ?_)
  refine .inl (.inl ⟨_, fun _ => rfl, f7_spec, ?_⟩)
  refine (Tri.cond ⟨fun h1 => ?_, fun h1 => ?_⟩)
  · cases h1
  · refine (Tri.skip ?_)
    refine Tri.seq ?_
    refine Tri.seq (Tri.reg hT ?_)
    refine .inl (.inl ⟨_, fun _ => rfl, f15_spec l hl, ?_⟩)
    refine (Tri.cond ⟨fun h2 => ?_, fun h2 => ?_⟩)
    · refine Tri.seq (Tri.reg hT ?_)
      refine Tri.ret ?_
      exact ⟨rfl, trivial⟩
    · refine (Tri.skip ?_)
      refine Tri.seq (Tri.drw hT hm 6 (by kernel_rfl) ?_)
      refine .inr (.inr ⟨_, (by exact fun _ => rfl), (f8_spec p g hp hg), ?_⟩)
      refine .inr (.inr ⟨_, (by exact fun _ => rfl), (f8_spec p g hp hg), ?_⟩)
      refine ⟨by kernel_rfl, ?_⟩
      refine Tri.seq ?_
      obtain ⟨hl40, hbig⟩ := longL_f h2; refine Tri.le _ (Le.none (X := strX none) rfl rfl) ?_; refine Tri.le _ (Le.none (X := strX none) rfl rfl) ?_; refine Tri.le _ (Le.none (X := strX none) rfl rfl) ?_; refine Tri.le _ (Le.none (X := strX none) rfl rfl) ?_; refine Tri.le ⟨119, 0, 30, [(7, .list sgT l), (8, .loc 8 0), (9, .loc 17 0), (10, .loc 20 0)], [(8, .box [.int .u32 b0, .int .u32 b1]), (17, .ext (conX (new0 p g) 23 24)), (23, .ext (strX (new0 p g).s1)), (24, .ext (strX (new0 p g).s2)), (20, .ext (conX (new0 p g) 25 26)), (25, .ext (strX (new0 p g).s1)), (26, .ext (strX (new0 p g).s2))], G⟩ (Le.weakX rfl rfl rfl rfl ⟨rfl, rfl, rfl, rfl, trivial⟩ ⟨⟨_, rfl, Conv.refl _⟩, ⟨_, rfl, Conv.conX (new0 p g) 23 24⟩, ⟨_, rfl, Conv.refl _⟩, ⟨_, rfl, Conv.refl _⟩, ⟨_, rfl, Conv.conX (new0 p g) 25 26⟩, ⟨_, rfl, Conv.refl _⟩, ⟨_, rfl, Conv.refl _⟩, trivial⟩) ?_
      refine Tri.seq (Tri.reg hT ?_)
      refine (Tri.block ?_)
      refine (Tri.loop (ι := Nat × Cnn × Cnn) (fun i => ⟨119, 0, 40, [(7, .list sgT l), (8, .loc 8 0), (9, .loc 17 0), (10, .loc 20 0), (11, .int .i64 ((i.1 : Nat) : Int))], [(8, .box [.int .u32 b0, .int .u32 b1]), (17, .ext (conX i.2.1 23 24)), (23, .ext (strX i.2.1.s1)), (24, .ext (strX i.2.1.s2)), (20, .ext (conX i.2.2 25 26)), (25, .ext (strX i.2.2.s1)), (26, .ext (strX i.2.2.s2))], G⟩) (fun i => i.1 ≤ l.length ∧ CInv i.2.1 (8192 * (i.1 : Int)) ∧ CInv i.2.2 (8192 * (i.1 : Int)) ∧ ShC b0 b1 i.2.1 i.2.2) (fun i => l.length - i.1) ((0, new0 p g, new0 p g)) ?_ ?_ ?_)
      · exact ⟨Nat.zero_le _, new0_inv p g, new0_inv p g, ShC.new b0 b1 p g⟩
      · exact Le.weak rfl rfl rfl rfl ⟨(by first | rfl | exact iv1 (by (try simp only [decide_eq_true_eq, decide_eq_false_iff_not, toNat_cast] at *); omega)), (by first | rfl | exact iv1 (by (try simp only [decide_eq_true_eq, decide_eq_false_iff_not, toNat_cast] at *); omega)), (by first | rfl | exact iv1 (by (try simp only [decide_eq_true_eq, decide_eq_false_iff_not, toNat_cast] at *); omega)), (by first | rfl | exact iv1 (by (try simp only [decide_eq_true_eq, decide_eq_false_iff_not, toNat_cast] at *); omega)), (by first | rfl | exact iv1 (by (try simp only [decide_eq_true_eq, decide_eq_false_iff_not, toNat_cast] at *); omega)), trivial⟩ ⟨rfl, rfl, rfl, rfl, rfl, rfl, rfl, trivial⟩
      · intro i hi
        refine Tri.seq ?_
        refine Tri.seq (Tri.reg hT ?_)
        refine (Tri.cond ⟨fun h3 => ?_, fun h3 => ?_⟩)
        · refine (Tri.skip ?_)
          refine Tri.seq (Tri.block ?_)
          have h3' := of_decide_eq_true h3; obtain ⟨hi0, hci, hdi, hsc⟩ := hi; have hi' : i.1 < l.length := (by omega); have hbg := bigE_f (hbig i.1 hi'); have huu := hu _ (getD_mem (d := (Ty.dflt sgT : Sg)) hi'); have hbg : (txX (l.getD (Int.toNat ((i.1 : Nat) : Int)) (Ty.dflt sgT))).length ≤ 200 ∧ (toO (l.getD (Int.toNat ((i.1 : Nat) : Int)) (Ty.dflt sgT))).length ≤ 10 := (by rw [toNat_cast]; exact hbg); have huu : U32 (tqS (l.getD (Int.toNat ((i.1 : Nat) : Int)) (Ty.dflt sgT))) ∧ U32 (tkK (l.getD (Int.toNat ((i.1 : Nat) : Int)) (Ty.dflt sgT))) := (by rw [toNat_cast]; exact huu)
          refine Tri.seq (Tri.reg hT ?_)
          refine ⟨(by first | ((try simp only [decide_eq_true_eq, decide_eq_false_iff_not, toNat_cast] at *); omega) | decide), ?_⟩
          refine Tri.join (True) (⟨119, 0, 100, [(7, .list sgT l), (8, .loc 8 0), (9, .loc 17 0), (10, .loc 20 0), (11, .int .i64 ((i.1 : Nat) : Int)), (12, .loc 49 0)], [(8, .box [.int .u32 b0, .int .u32 b1]), (17, .ext (conX i.2.1 23 24)), (23, .ext (strX i.2.1.s1)), (24, .ext (strX i.2.1.s2)), (20, .ext (conX i.2.2 25 26)), (25, .ext (strX i.2.2.s1)), (26, .ext (strX i.2.2.s2)), (49, .box (tcC (l.getD (Int.toNat ((i.1 : Nat) : Int)) (Ty.dflt sgT)).2.1.1 (l.getD (Int.toNat ((i.1 : Nat) : Int)) (Ty.dflt sgT)).2.1.2.1 (IntKind.u32.wrap (tqS (l.getD (Int.toNat ((i.1 : Nat) : Int)) (Ty.dflt sgT)) + if (l.getD (Int.toNat ((i.1 : Nat) : Int)) (Ty.dflt sgT)).1 = 1 then b0 else b1)) (IntKind.u32.wrap (tkK (l.getD (Int.toNat ((i.1 : Nat) : Int)) (Ty.dflt sgT)) + if (l.getD (Int.toNat ((i.1 : Nat) : Int)) (Ty.dflt sgT)).1 = 1 then b1 else b0)) (tfF (l.getD (Int.toNat ((i.1 : Nat) : Int)) (Ty.dflt sgT))) (l.getD (Int.toNat ((i.1 : Nat) : Int)) (Ty.dflt sgT)).2.1.2.2.2.2.2.1 (l.getD (Int.toNat ((i.1 : Nat) : Int)) (Ty.dflt sgT)).2.1.2.2.2.2.2.2.1 (toO (l.getD (Int.toNat ((i.1 : Nat) : Int)) (Ty.dflt sgT))) (txX (l.getD (Int.toNat ((i.1 : Nat) : Int)) (Ty.dflt sgT)))))], G⟩) ?_ fun hp5 => ?_
          · refine Tri.seq (Tri.reg hT ?_)
            refine ⟨(by first | ((try simp only [decide_eq_true_eq, decide_eq_false_iff_not, toNat_cast] at *); omega) | decide), ?_⟩
            refine (Tri.cond ⟨fun h4 => ?_, fun h4 => ?_⟩)
            · refine Tri.seq (Tri.reg hT ?_)
              refine ⟨(by first | ((try simp only [decide_eq_true_eq, decide_eq_false_iff_not, toNat_cast] at *); omega) | decide), ?_⟩
              refine (Tri.reg hT ?_)
              refine ⟨(by first | ((try simp only [decide_eq_true_eq, decide_eq_false_iff_not, toNat_cast] at *); omega) | decide), ?_⟩
              have e4 : (l.getD (Int.toNat ((i.1 : Nat) : Int)) (Ty.dflt sgT)).1 = 1 := of_decide_eq_true h4
              exact ⟨trivial, Le.weak rfl rfl rfl rfl ⟨(by first | rfl | exact iv1 (by (try simp only [decide_eq_true_eq, decide_eq_false_iff_not, toNat_cast] at *); omega)), (by first | rfl | exact iv1 (by (try simp only [decide_eq_true_eq, decide_eq_false_iff_not, toNat_cast] at *); omega)), (by first | rfl | exact iv1 (by (try simp only [decide_eq_true_eq, decide_eq_false_iff_not, toNat_cast] at *); omega)), (by first | rfl | exact iv1 (by (try simp only [decide_eq_true_eq, decide_eq_false_iff_not, toNat_cast] at *); omega)), (by first | rfl | exact iv1 (by (try simp only [decide_eq_true_eq, decide_eq_false_iff_not, toNat_cast] at *); omega)), (by first | rfl | exact iv1 (by (try simp only [decide_eq_true_eq, decide_eq_false_iff_not, toNat_cast] at *); omega)), trivial⟩ ⟨rfl, rfl, rfl, rfl, rfl, rfl, rfl, (show some (Chunk.box (tcC (l.getD (Int.toNat ((i.1 : Nat) : Int)) (Ty.dflt sgT)).2.1.1 (l.getD (Int.toNat ((i.1 : Nat) : Int)) (Ty.dflt sgT)).2.1.2.1 (IntKind.u32.wrap (tqS (l.getD (Int.toNat ((i.1 : Nat) : Int)) (Ty.dflt sgT)) + b0)) (IntKind.u32.wrap (tkK (l.getD (Int.toNat ((i.1 : Nat) : Int)) (Ty.dflt sgT)) + b1)) (tfF (l.getD (Int.toNat ((i.1 : Nat) : Int)) (Ty.dflt sgT))) (l.getD (Int.toNat ((i.1 : Nat) : Int)) (Ty.dflt sgT)).2.1.2.2.2.2.2.1 (l.getD (Int.toNat ((i.1 : Nat) : Int)) (Ty.dflt sgT)).2.1.2.2.2.2.2.2.1 (toO (l.getD (Int.toNat ((i.1 : Nat) : Int)) (Ty.dflt sgT))) (txX (l.getD (Int.toNat ((i.1 : Nat) : Int)) (Ty.dflt sgT))))) = some (Chunk.box (tcC (l.getD (Int.toNat ((i.1 : Nat) : Int)) (Ty.dflt sgT)).2.1.1 (l.getD (Int.toNat ((i.1 : Nat) : Int)) (Ty.dflt sgT)).2.1.2.1 (IntKind.u32.wrap (tqS (l.getD (Int.toNat ((i.1 : Nat) : Int)) (Ty.dflt sgT)) + if (l.getD (Int.toNat ((i.1 : Nat) : Int)) (Ty.dflt sgT)).1 = 1 then b0 else b1)) (IntKind.u32.wrap (tkK (l.getD (Int.toNat ((i.1 : Nat) : Int)) (Ty.dflt sgT)) + if (l.getD (Int.toNat ((i.1 : Nat) : Int)) (Ty.dflt sgT)).1 = 1 then b1 else b0)) (tfF (l.getD (Int.toNat ((i.1 : Nat) : Int)) (Ty.dflt sgT))) (l.getD (Int.toNat ((i.1 : Nat) : Int)) (Ty.dflt sgT)).2.1.2.2.2.2.2.1 (l.getD (Int.toNat ((i.1 : Nat) : Int)) (Ty.dflt sgT)).2.1.2.2.2.2.2.2.1 (toO (l.getD (Int.toNat ((i.1 : Nat) : Int)) (Ty.dflt sgT))) (txX (l.getD (Int.toNat ((i.1 : Nat) : Int)) (Ty.dflt sgT))))) from by rw [if_pos e4, if_pos e4]), trivial⟩⟩
            · refine Tri.seq (Tri.reg hT ?_)
              refine ⟨(by first | ((try simp only [decide_eq_true_eq, decide_eq_false_iff_not, toNat_cast] at *); omega) | decide), ?_⟩
              refine (Tri.reg hT ?_)
              refine ⟨(by first | ((try simp only [decide_eq_true_eq, decide_eq_false_iff_not, toNat_cast] at *); omega) | decide), ?_⟩
              have e4 : ¬ (l.getD (Int.toNat ((i.1 : Nat) : Int)) (Ty.dflt sgT)).1 = 1 := of_decide_eq_false h4
              exact ⟨trivial, Le.weak rfl rfl rfl rfl ⟨(by first | rfl | exact iv1 (by (try simp only [decide_eq_true_eq, decide_eq_false_iff_not, toNat_cast] at *); omega)), (by first | rfl | exact iv1 (by (try simp only [decide_eq_true_eq, decide_eq_false_iff_not, toNat_cast] at *); omega)), (by first | rfl | exact iv1 (by (try simp only [decide_eq_true_eq, decide_eq_false_iff_not, toNat_cast] at *); omega)), (by first | rfl | exact iv1 (by (try simp only [decide_eq_true_eq, decide_eq_false_iff_not, toNat_cast] at *); omega)), (by first | rfl | exact iv1 (by (try simp only [decide_eq_true_eq, decide_eq_false_iff_not, toNat_cast] at *); omega)), (by first | rfl | exact iv1 (by (try simp only [decide_eq_true_eq, decide_eq_false_iff_not, toNat_cast] at *); omega)), trivial⟩ ⟨rfl, rfl, rfl, rfl, rfl, rfl, rfl, (show some (Chunk.box (tcC (l.getD (Int.toNat ((i.1 : Nat) : Int)) (Ty.dflt sgT)).2.1.1 (l.getD (Int.toNat ((i.1 : Nat) : Int)) (Ty.dflt sgT)).2.1.2.1 (IntKind.u32.wrap (tqS (l.getD (Int.toNat ((i.1 : Nat) : Int)) (Ty.dflt sgT)) + b1)) (IntKind.u32.wrap (tkK (l.getD (Int.toNat ((i.1 : Nat) : Int)) (Ty.dflt sgT)) + b0)) (tfF (l.getD (Int.toNat ((i.1 : Nat) : Int)) (Ty.dflt sgT))) (l.getD (Int.toNat ((i.1 : Nat) : Int)) (Ty.dflt sgT)).2.1.2.2.2.2.2.1 (l.getD (Int.toNat ((i.1 : Nat) : Int)) (Ty.dflt sgT)).2.1.2.2.2.2.2.2.1 (toO (l.getD (Int.toNat ((i.1 : Nat) : Int)) (Ty.dflt sgT))) (txX (l.getD (Int.toNat ((i.1 : Nat) : Int)) (Ty.dflt sgT))))) = some (Chunk.box (tcC (l.getD (Int.toNat ((i.1 : Nat) : Int)) (Ty.dflt sgT)).2.1.1 (l.getD (Int.toNat ((i.1 : Nat) : Int)) (Ty.dflt sgT)).2.1.2.1 (IntKind.u32.wrap (tqS (l.getD (Int.toNat ((i.1 : Nat) : Int)) (Ty.dflt sgT)) + if (l.getD (Int.toNat ((i.1 : Nat) : Int)) (Ty.dflt sgT)).1 = 1 then b0 else b1)) (IntKind.u32.wrap (tkK (l.getD (Int.toNat ((i.1 : Nat) : Int)) (Ty.dflt sgT)) + if (l.getD (Int.toNat ((i.1 : Nat) : Int)) (Ty.dflt sgT)).1 = 1 then b1 else b0)) (tfF (l.getD (Int.toNat ((i.1 : Nat) : Int)) (Ty.dflt sgT))) (l.getD (Int.toNat ((i.1 : Nat) : Int)) (Ty.dflt sgT)).2.1.2.2.2.2.2.1 (l.getD (Int.toNat ((i.1 : Nat) : Int)) (Ty.dflt sgT)).2.1.2.2.2.2.2.2.1 (toO (l.getD (Int.toNat ((i.1 : Nat) : Int)) (Ty.dflt sgT))) (txX (l.getD (Int.toNat ((i.1 : Nat) : Int)) (Ty.dflt sgT))))) from by rw [if_neg e4, if_neg e4]), trivial⟩⟩
          · obtain ⟨hev, hsc2⟩ := sh_step hci hsc (l.getD (Int.toNat ((i.1 : Nat) : Int)) (Ty.dflt sgT)).1 (tqS (l.getD (Int.toNat ((i.1 : Nat) : Int)) (Ty.dflt sgT))) (tkK (l.getD (Int.toNat ((i.1 : Nat) : Int)) (Ty.dflt sgT))) (tfF (l.getD (Int.toNat ((i.1 : Nat) : Int)) (Ty.dflt sgT))) (toO (l.getD (Int.toNat ((i.1 : Nat) : Int)) (Ty.dflt sgT))) (txX (l.getD (Int.toNat ((i.1 : Nat) : Int)) (Ty.dflt sgT))) huu.1 huu.2; have hcn := segC_inv hci (by omega) (l.getD (Int.toNat ((i.1 : Nat) : Int)) (Ty.dflt sgT)).1 (tqS (l.getD (Int.toNat ((i.1 : Nat) : Int)) (Ty.dflt sgT))) (tkK (l.getD (Int.toNat ((i.1 : Nat) : Int)) (Ty.dflt sgT))) (tfF (l.getD (Int.toNat ((i.1 : Nat) : Int)) (Ty.dflt sgT))) (toO (l.getD (Int.toNat ((i.1 : Nat) : Int)) (Ty.dflt sgT))) (txX (l.getD (Int.toNat ((i.1 : Nat) : Int)) (Ty.dflt sgT))); have hdn := segC_inv hdi (by omega) (l.getD (Int.toNat ((i.1 : Nat) : Int)) (Ty.dflt sgT)).1 (IntKind.u32.wrap (tqS (l.getD (Int.toNat ((i.1 : Nat) : Int)) (Ty.dflt sgT)) + if (l.getD (Int.toNat ((i.1 : Nat) : Int)) (Ty.dflt sgT)).1 = 1 then b0 else b1)) (IntKind.u32.wrap (tkK (l.getD (Int.toNat ((i.1 : Nat) : Int)) (Ty.dflt sgT)) + if (l.getD (Int.toNat ((i.1 : Nat) : Int)) (Ty.dflt sgT)).1 = 1 then b1 else b0)) (tfF (l.getD (Int.toNat ((i.1 : Nat) : Int)) (Ty.dflt sgT))) (toO (l.getD (Int.toNat ((i.1 : Nat) : Int)) (Ty.dflt sgT))) (txX (l.getD (Int.toNat ((i.1 : Nat) : Int)) (Ty.dflt sgT))); have hlen := seg_len' i.2.1 (l.getD (Int.toNat ((i.1 : Nat) : Int)) (Ty.dflt sgT)).1 (tqS (l.getD (Int.toNat ((i.1 : Nat) : Int)) (Ty.dflt sgT))) (tkK (l.getD (Int.toNat ((i.1 : Nat) : Int)) (Ty.dflt sgT))) (tfF (l.getD (Int.toNat ((i.1 : Nat) : Int)) (Ty.dflt sgT))) (toO (l.getD (Int.toNat ((i.1 : Nat) : Int)) (Ty.dflt sgT))) (txX (l.getD (Int.toNat ((i.1 : Nat) : Int)) (Ty.dflt sgT))); generalize hr : segC (l.getD (Int.toNat ((i.1 : Nat) : Int)) (Ty.dflt sgT)).1 i.2.1 (tqS (l.getD (Int.toNat ((i.1 : Nat) : Int)) (Ty.dflt sgT))) (tkK (l.getD (Int.toNat ((i.1 : Nat) : Int)) (Ty.dflt sgT))) (tfF (l.getD (Int.toNat ((i.1 : Nat) : Int)) (Ty.dflt sgT))) (toO (l.getD (Int.toNat ((i.1 : Nat) : Int)) (Ty.dflt sgT))) (txX (l.getD (Int.toNat ((i.1 : Nat) : Int)) (Ty.dflt sgT))) = r at *; generalize hr2 : segC (l.getD (Int.toNat ((i.1 : Nat) : Int)) (Ty.dflt sgT)).1 i.2.2 (IntKind.u32.wrap (tqS (l.getD (Int.toNat ((i.1 : Nat) : Int)) (Ty.dflt sgT)) + if (l.getD (Int.toNat ((i.1 : Nat) : Int)) (Ty.dflt sgT)).1 = 1 then b0 else b1)) (IntKind.u32.wrap (tkK (l.getD (Int.toNat ((i.1 : Nat) : Int)) (Ty.dflt sgT)) + if (l.getD (Int.toNat ((i.1 : Nat) : Int)) (Ty.dflt sgT)).1 = 1 then b1 else b0)) (tfF (l.getD (Int.toNat ((i.1 : Nat) : Int)) (Ty.dflt sgT))) (toO (l.getD (Int.toNat ((i.1 : Nat) : Int)) (Ty.dflt sgT))) (txX (l.getD (Int.toNat ((i.1 : Nat) : Int)) (Ty.dflt sgT))) = r2 at *; obtain ⟨ev, ⟨cst, cp, cg, css⟩⟩ := r; obtain ⟨ev2, ⟨dst, dp, dg, dss⟩⟩ := r2; have hev : ev2 = ev := hev; subst hev; have hstt : dst = cst := hsc2.st; subst hstt; have hss : dss = css.map (fun y => (shS b0 y.1, shS b1 y.2)) := hsc2.ss; subst hss; have hlen : ev2.length ≤ 7 := hlen; rcases css with _ | ⟨cs, ct⟩
            · refine Tri.seq (Hv.Tri.drwH hT hm 28 [([23, 24], [17, 23, 24]), ([25, 26], [20, 25, 26])] [] (by kernel_rfl) ?_)
              refine ⟨(by first | ((try simp only [decide_eq_true_eq, decide_eq_false_iff_not, toNat_cast] at *); omega) | decide), ?_⟩
              refine ⟨(by first | ((try simp only [decide_eq_true_eq, decide_eq_false_iff_not, toNat_cast] at *); omega) | decide), ?_⟩
              refine .inr ⟨_, _, _, Hv.hv_fact rfl rfl rfl (segX_n hci (by omega) (by omega) hbg.2 hbg.1 hr nodP) trivial ⟨rfl, rfl, rfl, trivial⟩ rfl (fun _ => rfl) rfl (fun q => by cases q), (List.mem_cons_self ..), ?_⟩
              refine ⟨(by first | ((try simp only [decide_eq_true_eq, decide_eq_false_iff_not, toNat_cast] at *); omega) | decide), ?_⟩
              refine .inr ⟨_, _, _, Hv.hv_fact rfl rfl rfl (segX_n hdi (by omega) (by omega) hbg.2 hbg.1 hr2 nodQ) trivial ⟨rfl, rfl, rfl, trivial⟩ rfl (fun _ => rfl) rfl (fun q => by cases q), (List.mem_cons_of_mem _ (List.mem_cons_self ..)), ?_⟩
              refine .inl (.inl ⟨_, fun _ => rfl, f17_self ev2 (by omega), ?_⟩)
              refine ⟨_, [], trivial, rfl, rfl, fun h => ⟨rfl, rfl, rfl⟩, ?_⟩
              refine ⟨_, [(17, cnC dst cp cg .nilp .nilp, none)], (by exact ⟨rfl, trivial⟩), rfl, (by rfl), fun h => ⟨h, (.inr (.inl ⟨_, _, (by exact ⟨rfl, trivial⟩), (CSpec.ofH (u := [(17, cnC dst cp cg .nilp .nilp, none)]) (FSpec.at (f12_n dst cp cg) [17] (by decide) rfl rfl rfl rfl)), (by rfl), rfl, rfl, rfl⟩))⟩, ?_⟩
              refine ⟨_, [], trivial, rfl, rfl, fun h => ⟨rfl, rfl, rfl⟩, ?_⟩
              refine ⟨_, [(20, cnC dst dp dg .nilp .nilp, none)], (by exact ⟨rfl, trivial⟩), rfl, (by rfl), fun h => ⟨h, (.inr (.inl ⟨_, _, (by exact ⟨rfl, trivial⟩), (CSpec.ofH (u := [(20, cnC dst dp dg .nilp .nilp, none)]) (FSpec.at (f12_n dst dp dg) [20] (by decide) rfl rfl rfl rfl)), (by rfl), rfl, rfl, rfl⟩))⟩, ?_⟩
              refine ⟨_, [], trivial, rfl, rfl, fun h => ⟨h, h, rfl, rfl, rfl⟩, ?_⟩
              refine ⟨by kernel_rfl, by kernel_rfl, ?_⟩
              refine ⟨⟨fun _ => trivial, fun hc => (gn hc)⟩, ?_⟩
              refine (Tri.cond ⟨fun h5 => ?_, fun h5 => ?_⟩)
              · exact absurd h5 (by simp)
              · refine (Tri.skip ?_)
                refine (Tri.reg hT ?_)
                exact ⟨(i.1 + 1, (Cnn.mk dst cp cg none), (Cnn.mk dst dp dg none)), ⟨(by show i.1 + 1 ≤ l.length; omega), hcn.mono (by show 8192 * (i.1 : Int) + 8192 ≤ 8192 * ((i.1 + 1 : Nat) : Int); omega), hdn.mono (by show 8192 * (i.1 : Int) + 8192 ≤ 8192 * ((i.1 + 1 : Nat) : Int); omega), hsc2⟩, (by show l.length - (i.1 + 1) < l.length - i.1; omega), Le.weakX rfl rfl rfl rfl ⟨rfl, rfl, rfl, rfl, iv1 (by omega), trivial⟩ ⟨⟨_, rfl, Conv.refl _⟩, ⟨_, rfl, Conv.conX (Cnn.mk dst cp cg none) 23 24⟩, ⟨_, rfl, Conv.refl _⟩, ⟨_, rfl, Conv.refl _⟩, ⟨_, rfl, Conv.conX (Cnn.mk dst dp dg none) 25 26⟩, ⟨_, rfl, Conv.refl _⟩, ⟨_, rfl, Conv.refl _⟩, trivial⟩⟩
            · refine Tri.seq (Hv.Tri.drwH hT hm 28 [([23, 24], [17, 23, 24]), ([25, 26], [20, 25, 26])] [] (by kernel_rfl) ?_)
              refine ⟨(by first | ((try simp only [decide_eq_true_eq, decide_eq_false_iff_not, toNat_cast] at *); omega) | decide), ?_⟩
              refine ⟨(by first | ((try simp only [decide_eq_true_eq, decide_eq_false_iff_not, toNat_cast] at *); omega) | decide), ?_⟩
              refine .inr ⟨_, _, _, Hv.hv_fact rfl rfl rfl (segX_s hci (by omega) (by omega) hbg.2 hbg.1 hr nodP) trivial ⟨rfl, rfl, rfl, trivial⟩ rfl (fun _ => rfl) rfl (fun q => by cases q), (List.mem_cons_self ..), ?_⟩
              refine ⟨(by first | ((try simp only [decide_eq_true_eq, decide_eq_false_iff_not, toNat_cast] at *); omega) | decide), ?_⟩
              refine .inr ⟨_, _, _, Hv.hv_fact rfl rfl rfl (segX_s hdi (by omega) (by omega) hbg.2 hbg.1 hr2 nodQ) trivial ⟨rfl, rfl, rfl, trivial⟩ rfl (fun _ => rfl) rfl (fun q => by cases q), (List.mem_cons_of_mem _ (List.mem_cons_self ..)), ?_⟩
              refine .inl (.inl ⟨_, fun _ => rfl, f17_self ev2 (by omega), ?_⟩)
              refine ⟨_, [], trivial, rfl, rfl, fun h => ⟨rfl, rfl, rfl⟩, ?_⟩
              refine ⟨_, [(17, cnC dst cp cg (.loc 23 0) (.loc 24 0), none), (23, bxS cs, none), (24, bxS ct, none)], (by exact ⟨rfl, rfl, rfl, trivial⟩), rfl, (by rfl), fun h => ⟨h, (.inr (.inl ⟨_, _, (by exact ⟨rfl, rfl, rfl, trivial⟩), (CSpec.ofH (u := [(17, cnC dst cp cg (.loc 23 0) (.loc 24 0), none), (23, bxS cs, none), (24, bxS ct, none)]) (FSpec.at (f12_h dst cp cg cs ct) [17, 23, 24] (by decide) rfl rfl rfl rfl)), (by rfl), rfl, rfl, rfl⟩))⟩, ?_⟩
              refine ⟨_, [], trivial, rfl, rfl, fun h => ⟨rfl, rfl, rfl⟩, ?_⟩
              refine ⟨_, [(20, cnC dst dp dg (.loc 25 0) (.loc 26 0), none), (25, bxS (shS b0 cs), none), (26, bxS (shS b1 ct), none)], (by exact ⟨rfl, rfl, rfl, trivial⟩), rfl, (by rfl), fun h => ⟨h, (.inr (.inl ⟨_, _, (by exact ⟨rfl, rfl, rfl, trivial⟩), (CSpec.ofH (u := [(20, cnC dst dp dg (.loc 25 0) (.loc 26 0), none), (25, bxS (shS b0 cs), none), (26, bxS (shS b1 ct), none)]) (FSpec.at (f12_h dst dp dg (shS b0 cs) (shS b1 ct)) [20, 25, 26] (by decide) rfl rfl rfl rfl)), (by rfl), rfl, rfl, rfl⟩))⟩, ?_⟩
              refine ⟨_, [], trivial, rfl, rfl, fun h => ⟨h, h, rfl, rfl, rfl⟩, ?_⟩
              refine ⟨by kernel_rfl, by kernel_rfl, ?_⟩
              refine ⟨⟨fun _ => trivial, fun hc => (gn hc)⟩, ?_⟩
              refine (Tri.cond ⟨fun h6 => ?_, fun h6 => ?_⟩)
              · exact absurd h6 (by simp)
              · refine (Tri.skip ?_)
                refine (Tri.reg hT ?_)
                exact ⟨(i.1 + 1, (Cnn.mk dst cp cg (some (cs, ct))), (Cnn.mk dst dp dg (some (shS b0 cs, shS b1 ct)))), ⟨(by show i.1 + 1 ≤ l.length; omega), hcn.mono (by show 8192 * (i.1 : Int) + 8192 ≤ 8192 * ((i.1 + 1 : Nat) : Int); omega), hdn.mono (by show 8192 * (i.1 : Int) + 8192 ≤ 8192 * ((i.1 + 1 : Nat) : Int); omega), hsc2⟩, (by show l.length - (i.1 + 1) < l.length - i.1; omega), Le.weakX rfl rfl rfl rfl ⟨rfl, rfl, rfl, rfl, iv1 (by omega), trivial⟩ ⟨⟨_, rfl, Conv.refl _⟩, ⟨_, rfl, Conv.conX (Cnn.mk dst cp cg (some (cs, ct))) 23 24⟩, ⟨_, rfl, Conv.strX cs⟩, ⟨_, rfl, Conv.strX ct⟩, ⟨_, rfl, Conv.conX (Cnn.mk dst dp dg (some (shS b0 cs, shS b1 ct))) 25 26⟩, ⟨_, rfl, Conv.strX (shS b0 cs)⟩, ⟨_, rfl, Conv.strX (shS b1 ct)⟩, trivial⟩⟩
        · refine Tri.exit ?_
          obtain ⟨n, ⟨cst, cp, cg, css⟩, ⟨dst, dp, dg, dss⟩⟩ := i; obtain ⟨hi0, hci, hdi, hsc⟩ := hi; have hstt : dst = cst := hsc.st; subst hstt; have hss : dss = css.map (fun y => (shS b0 y.1, shS b1 y.2)) := hsc.ss; subst hss; rcases css with _ | ⟨cs, ct⟩
          · have hci : dst = 0 ∨ dst = 1 ∨ dst = 2 := hci; refine Tri.le ⟨119, 0, 600, [(7, .list sgT l), (8, .loc 8 0), (9, .loc 17 0), (10, .loc 20 0)], [(8, .box [.int .u32 b0, .int .u32 b1]), (17, .box (cnC dst cp cg .nilp .nilp)), (23, .ext (strX none)), (24, .ext (strX none)), (20, .box (cnC dst dp dg .nilp .nilp)), (25, .ext (strX none)), (26, .ext (strX none))], G⟩ (Le.weakX rfl rfl rfl rfl ⟨rfl, rfl, rfl, rfl, trivial⟩ ⟨⟨_, rfl, Conv.refl _⟩, ⟨_, rfl, Conv.conB (Cnn.mk dst cp cg none) 23 24⟩, ⟨_, rfl, Conv.refl _⟩, ⟨_, rfl, Conv.refl _⟩, ⟨_, rfl, Conv.conB (Cnn.mk dst dp dg none) 25 26⟩, ⟨_, rfl, Conv.refl _⟩, ⟨_, rfl, Conv.refl _⟩, trivial⟩) ?_
            refine Tri.seq (Tri.drw hT hm 22 (by kernel_rfl) ?_)
            refine .inr (.inl ⟨_, _, (by exact ⟨rfl, trivial⟩), (CSpec.ofH (u := [(17, cnC dst cp cg .nilp .nilp, none)]) (FSpec.at (f16_n1 dst cp cg (opB_n hci)) [17] (by decide) rfl rfl rfl rfl)), (by rfl), ?_⟩)
            refine ⟨(by first | ((try simp only [decide_eq_true_eq, decide_eq_false_iff_not, toNat_cast] at *); omega) | decide), ?_⟩
            refine .inr (.inl ⟨_, _, (by exact ⟨rfl, trivial⟩), (CSpec.ofH (u := [(20, cnC dst dp dg .nilp .nilp, none)]) (FSpec.at (f16_n1 dst dp dg (opB_n hci)) [20] (by decide) rfl rfl rfl rfl)), (by rfl), ?_⟩)
            refine ⟨_, [], trivial, rfl, rfl, fun h => ⟨rfl, rfl, rfl⟩, ?_⟩
            refine ⟨_, [(17, cnC dst cp cg .nilp .nilp, none)], (by exact ⟨rfl, trivial⟩), rfl, (by rfl), fun h => ⟨h, (.inr (.inl ⟨_, _, (by exact ⟨rfl, trivial⟩), (CSpec.ofH (u := [(17, cnC dst cp cg .nilp .nilp, none)]) (FSpec.at (f16_n1 dst cp cg (opB_n hci)) [17] (by decide) rfl rfl rfl rfl)), (by rfl), rfl, rfl, rfl⟩))⟩, ?_⟩
            refine ⟨_, [], trivial, rfl, rfl, fun h => ⟨h, rfl, rfl, rfl⟩, ?_⟩
            refine ⟨_, [], trivial, rfl, rfl, fun h => ⟨h, rfl, rfl, rfl⟩, ?_⟩
            refine ⟨_, [], trivial, rfl, rfl, fun h => ⟨h, rfl, rfl, rfl⟩, ?_⟩
            refine ⟨_, [], trivial, rfl, rfl, fun h => ⟨rfl, rfl, rfl⟩, ?_⟩
            refine ⟨_, [(20, cnC dst dp dg .nilp .nilp, none)], (by exact ⟨rfl, trivial⟩), rfl, (by rfl), fun h => ⟨h, (.inr (.inl ⟨_, _, (by exact ⟨rfl, trivial⟩), (CSpec.ofH (u := [(20, cnC dst dp dg .nilp .nilp, none)]) (FSpec.at (f16_n1 dst dp dg (opB_n hci)) [20] (by decide) rfl rfl rfl rfl)), (by rfl), rfl, rfl, rfl⟩))⟩, ?_⟩
            refine ⟨_, [], trivial, rfl, rfl, fun h => ⟨h, rfl, rfl, rfl⟩, ?_⟩
            refine ⟨_, [], trivial, rfl, rfl, fun h => ⟨h, rfl, rfl, rfl⟩, ?_⟩
            refine ⟨_, [], trivial, rfl, rfl, fun h => ⟨h, ⟨fun hc => ga h hc, fun _ => trivial⟩, rfl, rfl, rfl⟩, ?_⟩
            refine ⟨⟨fun _ => trivial, fun hc => (gn hc)⟩, ?_⟩
            refine ⟨by kernel_rfl, ?_⟩
            refine Tri.ret ?_
            exact ⟨congrArg AV.bool (by simp), trivial⟩
          · have hpe : dp = shH b0 cp := hsc.p (.inl (by simp)); have hge : dg = shH b1 cg := hsc.g (.inl (by simp)); subst hpe; subst hge; refine Tri.le ⟨119, 0, 600, [(7, .list sgT l), (8, .loc 8 0), (9, .loc 17 0), (10, .loc 20 0)], [(8, .box [.int .u32 b0, .int .u32 b1]), (17, .box (cnC dst cp cg (.loc 23 0) (.loc 24 0))), (23, .box (bxS cs)), (24, .box (bxS ct)), (20, .box (cnC dst (shH b0 cp) (shH b1 cg) (.loc 25 0) (.loc 26 0))), (25, .box (bxS (shS b0 cs))), (26, .box (bxS (shS b1 ct)))], G⟩ (Le.weakX rfl rfl rfl rfl ⟨rfl, rfl, rfl, rfl, trivial⟩ ⟨⟨_, rfl, Conv.refl _⟩, ⟨_, rfl, Conv.conB (Cnn.mk dst cp cg (some (cs, ct))) 23 24⟩, ⟨_, rfl, Conv.strB cs⟩, ⟨_, rfl, Conv.strB ct⟩, ⟨_, rfl, Conv.conB (Cnn.mk dst (shH b0 cp) (shH b1 cg) (some (shS b0 cs, shS b1 ct))) 25 26⟩, ⟨_, rfl, Conv.strB (shS b0 cs)⟩, ⟨_, rfl, Conv.strB (shS b1 ct)⟩, trivial⟩) ?_
            refine Tri.seq (Tri.drw hT hm 22 (by kernel_rfl) ?_)
            refine .inr (.inl ⟨_, _, (by exact ⟨rfl, rfl, rfl, trivial⟩), (CSpec.ofH (u := [(17, cnC dst cp cg (.loc 23 0) (.loc 24 0), none), (23, bxS cs, none), (24, bxS ct, none)]) (FSpec.at (f16_w1 dst cp cg cs ct) [17, 23, 24] (by decide) rfl rfl rfl rfl)), (by rfl), ?_⟩)
            refine ⟨(by first | ((try simp only [decide_eq_true_eq, decide_eq_false_iff_not, toNat_cast] at *); omega) | decide), ?_⟩
            refine .inr (.inl ⟨_, _, (by exact ⟨rfl, rfl, rfl, trivial⟩), (CSpec.ofH (u := [(20, cnC dst (shH b0 cp) (shH b1 cg) (.loc 25 0) (.loc 26 0), none), (25, bxS (shS b0 cs), none), (26, bxS (shS b1 ct), none)]) (FSpec.at (f16_w1 dst (shH b0 cp) (shH b1 cg) (shS b0 cs) (shS b1 ct)) [20, 25, 26] (by decide) rfl rfl rfl rfl)), (by rfl), ?_⟩)
            refine ⟨_, [], trivial, rfl, rfl, fun h => ⟨rfl, rfl, rfl⟩, ?_⟩
            refine ⟨_, [(17, cnC dst cp cg (.loc 23 0) (.loc 24 0), none), (23, bxS cs, none), (24, bxS ct, none)], (by exact ⟨rfl, rfl, rfl, trivial⟩), rfl, (by rfl), fun h => ⟨h, (.inr (.inl ⟨_, _, (by exact ⟨rfl, rfl, rfl, trivial⟩), (CSpec.ofH (u := [(17, cnC dst cp cg (.loc 23 0) (.loc 24 0), none), (23, bxS cs, none), (24, bxS ct, none)]) (FSpec.at (f16_w1 dst cp cg cs ct) [17, 23, 24] (by decide) rfl rfl rfl rfl)), (by rfl), rfl, rfl, rfl⟩))⟩, ?_⟩
            refine ⟨_, [], trivial, rfl, rfl, fun h => ⟨h, rfl, rfl, rfl⟩, ?_⟩
            refine ⟨_, [], trivial, rfl, rfl, fun h => ⟨h, rfl, rfl, rfl⟩, ?_⟩
            refine ⟨_, [], trivial, rfl, rfl, fun h => ⟨h, rfl, rfl, rfl⟩, ?_⟩
            refine ⟨_, [], trivial, rfl, rfl, fun h => ⟨rfl, rfl, rfl⟩, ?_⟩
            refine ⟨_, [(20, cnC dst (shH b0 cp) (shH b1 cg) (.loc 25 0) (.loc 26 0), none), (25, bxS (shS b0 cs), none), (26, bxS (shS b1 ct), none)], (by exact ⟨rfl, rfl, rfl, trivial⟩), rfl, (by rfl), fun h => ⟨h, (.inr (.inl ⟨_, _, (by exact ⟨rfl, rfl, rfl, trivial⟩), (CSpec.ofH (u := [(20, cnC dst (shH b0 cp) (shH b1 cg) (.loc 25 0) (.loc 26 0), none), (25, bxS (shS b0 cs), none), (26, bxS (shS b1 ct), none)]) (FSpec.at (f16_w1 dst (shH b0 cp) (shH b1 cg) (shS b0 cs) (shS b1 ct)) [20, 25, 26] (by decide) rfl rfl rfl rfl)), (by rfl), rfl, rfl, rfl⟩))⟩, ?_⟩
            refine ⟨_, [], trivial, rfl, rfl, fun h => ⟨h, rfl, rfl, rfl⟩, ?_⟩
            refine ⟨_, [], trivial, rfl, rfl, fun h => ⟨h, rfl, rfl, rfl⟩, ?_⟩
            refine ⟨_, [], trivial, rfl, rfl, fun h => ⟨h, ⟨fun hc => ga h hc, fun _ => trivial⟩, rfl, rfl, rfl⟩, ?_⟩
            refine ⟨⟨fun _ => trivial, fun hc => (gn hc)⟩, ?_⟩
            refine ⟨by kernel_rfl, ?_⟩
            refine Tri.ret ?_
            exact ⟨congrArg AV.bool shView, trivial⟩
end Go.Proofs.YtchiagnggnblaaaDoor.Ac
