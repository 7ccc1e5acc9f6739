/- Chapter 15: the statement OverlapMirrors. -/
import Derived.Test.YtjdjgabahkcjeaaOvL
import Derived.Test.YtjdjgabahkcjeaaOv11
set_option linter.all false
namespace Go.Proofs.Ytjdjgabahkcjeaa.Fx
open Go Go.Fw Go.Ov
theorem f25_spec (l : List Pc) (hl : l.length ≤ 140737488355328) : PSpec P [] 25 [.list pT l] (.bool (withinR l)) := by
  refine pspec_intro hT Try.func25 (by decide) rfl rfl (by kernel_rfl) rfl ?_
  refine Tri.seq (Tri.reg hT ?_)
  refine Tri.seq ?_
  refine Tri.seq (Tri.reg hT ?_)
  refine (Tri.block ?_)
  refine (Tri.loop (ι := Nat) (fun i => ⟨40, 0, 0, [(0, .list pT l), (3, .int .i64 (i : Int))], [], []⟩) (fun i => i ≤ l.length ∧ ∀ j, j < i → Seg (l.getD j (Ty.dflt pT))) (fun i => l.length - i) (0) ?_ ?_ ?_)
  · exact ⟨Nat.zero_le _, fun j hj => by omega⟩
  · exact Le.weak rfl rfl rfl rfl ⟨(by first | rfl | exact iv1 (by (try simp only [decide_eq_true_eq, decide_eq_false_iff_not, toNat_cast] at *); omega)), (by first | rfl | exact iv1 (by (try simp only [decide_eq_true_eq, decide_eq_false_iff_not, toNat_cast] at *); omega)), trivial⟩ trivial
  · intro i hi
    refine Tri.seq ?_
    refine Tri.seq (Tri.reg hT ?_)
    refine ⟨_, [], trivial, rfl, rfl, fun h => ⟨rfl, rfl, rfl⟩, ?_⟩
    refine ⟨_, [], trivial, rfl, rfl, fun h => ⟨h, rfl, rfl, rfl⟩, ?_⟩
    refine ⟨⟨fun hc => hc, fun _ => trivial⟩, ?_⟩
    refine (Tri.cond ⟨fun h1 => ?_, fun h1 => ?_⟩)
    · refine (Tri.skip ?_)
      refine Tri.seq (Tri.block ?_)
      have hlt := gand_t h1; have hi1 := hi.1
      refine Tri.seq (Tri.reg hT ?_)
      refine ⟨(by first | ((try simp only [decide_eq_true_eq, decide_eq_false_iff_not, toNat_cast] at *); omega) | decide), ?_⟩
      refine ⟨_, [], trivial, rfl, rfl, fun h => ⟨rfl, rfl, rfl⟩, ?_⟩
      refine ⟨_, [], trivial, rfl, rfl, fun h => ⟨rfl, rfl, rfl⟩, ?_⟩
      refine ⟨_, [], trivial, rfl, rfl, fun h => ⟨h, h, (by first | ((try simp only [decide_eq_true_eq, decide_eq_false_iff_not, toNat_cast] at *); omega) | decide), rfl, rfl, rfl⟩, ?_⟩
      refine ⟨_, [], trivial, rfl, rfl, fun h => ⟨h, rfl, rfl, rfl⟩, ?_⟩
      refine ⟨_, [], trivial, rfl, rfl, fun h => ⟨h, rfl, rfl, rfl⟩, ?_⟩
      refine ⟨_, [], trivial, rfl, rfl, fun h => ⟨h, rfl, rfl, rfl⟩, ?_⟩
      refine ⟨⟨fun _ => trivial, fun hc => (gn hc)⟩, ?_⟩
      refine ⟨_, [], trivial, rfl, rfl, fun h => ⟨rfl, rfl, rfl⟩, ?_⟩
      refine ⟨_, [], trivial, rfl, rfl, fun h => ⟨rfl, rfl, rfl⟩, ?_⟩
      refine ⟨_, [], trivial, rfl, rfl, fun h => ⟨h, h, (by first | ((try simp only [decide_eq_true_eq, decide_eq_false_iff_not, toNat_cast] at *); omega) | decide), rfl, rfl, rfl⟩, ?_⟩
      refine ⟨_, [], trivial, rfl, rfl, fun h => ⟨h, rfl, rfl, rfl⟩, ?_⟩
      refine ⟨_, [], trivial, rfl, rfl, fun h => ⟨h, rfl, rfl, rfl⟩, ?_⟩
      refine ⟨_, [], trivial, rfl, rfl, fun h => ⟨h, rfl, rfl, rfl⟩, ?_⟩
      refine ⟨_, [], trivial, rfl, rfl, fun h => ⟨h, rfl, rfl, rfl⟩, ?_⟩
      refine ⟨⟨fun _ => trivial, fun hc => (gn hc)⟩, ?_⟩
      refine (Tri.cond ⟨fun h2 => ?_, fun h2 => ?_⟩)
      · refine Tri.seq (Tri.reg hT ?_)
        refine Tri.ret ?_
        exact ⟨congrArg AV.bool (within_no (i := i) (by omega) (by omega) (seg_t h2)).symm, trivial⟩
      · refine (Tri.skip ?_)
        refine (Tri.reg hT ?_)
        exact ⟨i + 1, ⟨by omega, fun j hj => by rcases Nat.lt_or_ge j i with h | h; exact hi.2 j h; obtain rfl : j = i := (by omega); exact seg_f h2⟩, by (try simp only [decide_eq_true_eq, decide_eq_false_iff_not, toNat_cast] at *); omega, Le.weak rfl rfl rfl rfl ⟨(by first | rfl | exact iv1 (by (try simp only [decide_eq_true_eq, decide_eq_false_iff_not, toNat_cast] at *); omega)), (by first | rfl | exact iv1 (by (try simp only [decide_eq_true_eq, decide_eq_false_iff_not, toNat_cast] at *); omega)), trivial⟩ trivial⟩
    · refine Tri.exit ?_
      refine Tri.seq (Tri.reg hT ?_)
      refine Tri.ret ?_
      exact ⟨congrArg AV.bool (within_end hi.2 (gand_f h1) hi.1).symm, trivial⟩
theorem ins1_spec {a : Pc} (ha : Seg a) {pol : Int} (h1 : 1 ≤ pol) (h4 : pol ≤ 4) : PSpec P [] 15 [.nils, pv a, .int .i64 pol] (.tup [.list pT (J (insM [] pol a)), .int .i64 (conS [] a : Nat), .int .i64 0]) := by
  have hp := ha.2.2
  have := (f15_spec [] a pol (by decide) (by decide) (by omega)).le (args := [.nils, pv a, .int .i64 pol]) ⟨rfl, ⟨rfl, rfl, rfl, rfl, trivial⟩, rfl, trivial⟩
  rw [show insR [] a pol = _ from insR_step mg_nil (by decide) h1 h4 ha] at this
  exact this
theorem ins2_spec {m : List Cl} {n : Nat} (hm : MG m n) (hn : n ≤ 60) {b : Pc} (hb : Seg b) {pol : Int} (h1 : 1 ≤ pol) (h4 : pol ≤ 4) : PSpec P [] 15 [.list pT (J m), pv b, .int .i64 pol] (.tup [.list pT (J (insM m pol b)), .int .i64 (conS m b : Nat), .int .i64 0]) := by
  have hp := hb.2.2
  have := hm.len
  have := f15_spec (J m) b pol (by omega) hm.valid (by omega)
  rw [insR_step hm hn h1 h4 hb] at this
  exact this
abbrev bxP (p : Pc) : Chunk := .box [.int .i64 p.1, .str p.2.1, .int .i64 p.2.2.1, .int .i64 p.2.2.2.1]
abbrev arr4 (p q : Pc) (i : Nat) : Chunk := .box [.str (upto4 p q i 0), .str (upto4 p q i 1), .str (upto4 p q i 2), .str (upto4 p q i 3)]
theorem f9_spec (p q : Pc) : PSpec P [] 9 [pv p, pv q] (.bool true) := by
  refine pspec_intro hT Try.func9 (by decide) rfl rfl (by kernel_rfl) rfl ?_
  refine Tri.seq (Tri.reg hT ?_)
  refine Tri.seq ?_
  refine Tri.seq (Tri.reg hT ?_)
  refine .inl (.inl ⟨_, fun _ => rfl, f12_spec, ?_⟩)
  refine (Tri.cond ⟨fun h1 => ?_, fun h1 => ?_⟩)
  · exact absurd h1 (by simp)
  · refine (Tri.skip ?_)
    refine Tri.seq ?_
    refine Tri.seq (Tri.regM hT [3] ?_)
    refine ⟨⟨93, 0, 8, [(2, .loc 0 0), (3, .loc 1 0), (22, .list pT [p, q])], [(0, bxP p), (1, bxP q)], []⟩, Le.trans (Le.freeze 22 _ _ rfl rfl (Nat.le_refl _)) (Le.weak rfl rfl rfl rfl ⟨(by first | rfl | exact iv1 (by (try simp only [decide_eq_true_eq, decide_eq_false_iff_not, toNat_cast] at *); omega)), (by first | rfl | exact iv1 (by (try simp only [decide_eq_true_eq, decide_eq_false_iff_not, toNat_cast] at *); omega)), (by first | rfl | exact iv1 (by (try simp only [decide_eq_true_eq, decide_eq_false_iff_not, toNat_cast] at *); omega)), trivial⟩ ⟨rfl, rfl, trivial⟩), ?_⟩
    refine .inl (.inl ⟨_, fun _ => rfl, f25_spec [p, q] (by decide : 2 ≤ 140737488355328), ?_⟩)
    refine (Tri.cond ⟨fun h2 => ?_, fun h2 => ?_⟩)
    · refine Tri.seq (Tri.reg hT ?_)
      refine Tri.ret ?_
      exact ⟨rfl, trivial⟩
    · refine (Tri.skip ?_)
      have hw := within_of (l := [p, q]) (by simpa using h2); have hp : Seg p := hw.2 p (by simp); have hq : Seg q := hw.2 q (by simp)
      refine Tri.seq (Tri.reg hT ?_)
      refine Tri.seq ?_
      refine Tri.seq (Tri.reg hT ?_)
      refine (Tri.block ?_)
      refine (Tri.loop (ι := Nat) (fun i => ⟨93, 0, 12, [(2, .loc 0 0), (3, .loc 1 0), (5, .loc 10 0), (6, .int .i64 (i : Int))], [(0, bxP p), (1, bxP q), (10, arr4 p q i)], []⟩) (fun i => i ≤ 4) (fun i => 4 - i) (0) ?_ ?_ ?_)
      · exact Nat.zero_le _
      · exact Le.weak rfl rfl rfl rfl ⟨(by first | rfl | exact iv1 (by (try simp only [decide_eq_true_eq, decide_eq_false_iff_not, toNat_cast] at *); omega)), (by first | rfl | exact iv1 (by (try simp only [decide_eq_true_eq, decide_eq_false_iff_not, toNat_cast] at *); omega)), (by first | rfl | exact iv1 (by (try simp only [decide_eq_true_eq, decide_eq_false_iff_not, toNat_cast] at *); omega)), (by first | rfl | exact iv1 (by (try simp only [decide_eq_true_eq, decide_eq_false_iff_not, toNat_cast] at *); omega)), trivial⟩ ⟨rfl, rfl, rfl, trivial⟩
      · intro i hi
        refine Tri.seq ?_
        refine Tri.seq (Tri.reg hT ?_)
        refine (Tri.cond ⟨fun h3 => ?_, fun h3 => ?_⟩)
        · refine (Tri.skip ?_)
          refine Tri.seq (Tri.block ?_)
          have hi4 : i < 4 := (by have := of_decide_eq_true h3; omega); have hf : Seg (fst4 p q i) := (by unfold fst4; split <;> assumption); have hs : Seg (snd4 p q i) := (by unfold snd4; split <;> assumption); have hpol : 1 ≤ pol4 i ∧ pol4 i ≤ 4 := (by unfold pol4 polA; split <;> (try split) <;> omega); have G := mg_duo (pol4 i) hf hs
          refine Tri.seq (Tri.drw hT hm 5 (by kernel_rfl) ?_)
          refine ⟨by kernel_rfl, ?_⟩
          refine Tri.join (True) (⟨93, 0, 18, [(2, .loc 0 0), (3, .loc 1 0), (5, .loc 10 0), (6, .int .i64 (i : Int)), (7, .loc 16 0), (8, .loc 17 0)], [(0, bxP p), (1, bxP q), (10, arr4 p q i), (16, bxP (fst4 p q i)), (17, bxP (snd4 p q i))], []⟩) ?_ fun hp5 => ?_
          · refine Tri.seq (Tri.reg hT ?_)
            refine ⟨(by decide), ?_⟩
            refine (Tri.cond ⟨fun h4 => ?_, fun h4 => ?_⟩)
            · refine (Tri.drw hT hm 3 (by kernel_rfl) ?_)
              refine ⟨by kernel_rfl, ?_⟩
              have hm : i % 2 = 1 := of_decide_eq_true (tmod2 ▸ h4); have e1 : q = fst4 p q i := (if_pos hm).symm; have e2 : p = snd4 p q i := (if_pos hm).symm
              exact ⟨trivial, Le.weak rfl rfl rfl rfl ⟨(by first | rfl | exact iv1 (by (try simp only [decide_eq_true_eq, decide_eq_false_iff_not, toNat_cast] at *); omega)), (by first | rfl | exact iv1 (by (try simp only [decide_eq_true_eq, decide_eq_false_iff_not, toNat_cast] at *); omega)), (by first | rfl | exact iv1 (by (try simp only [decide_eq_true_eq, decide_eq_false_iff_not, toNat_cast] at *); omega)), (by first | rfl | exact iv1 (by (try simp only [decide_eq_true_eq, decide_eq_false_iff_not, toNat_cast] at *); omega)), (by first | rfl | exact iv1 (by (try simp only [decide_eq_true_eq, decide_eq_false_iff_not, toNat_cast] at *); omega)), (by first | rfl | exact iv1 (by (try simp only [decide_eq_true_eq, decide_eq_false_iff_not, toNat_cast] at *); omega)), trivial⟩ ⟨rfl, rfl, rfl, congrArg (fun z => some (bxP z)) e1, congrArg (fun z => some (bxP z)) e2, trivial⟩⟩
            · refine (Tri.skip ?_)
              have hm : ¬ i % 2 = 1 := of_decide_eq_false (tmod2 ▸ h4); have e1 : p = fst4 p q i := (if_neg hm).symm; have e2 : q = snd4 p q i := (if_neg hm).symm
              exact ⟨trivial, Le.weak rfl rfl rfl rfl ⟨(by first | rfl | exact iv1 (by (try simp only [decide_eq_true_eq, decide_eq_false_iff_not, toNat_cast] at *); omega)), (by first | rfl | exact iv1 (by (try simp only [decide_eq_true_eq, decide_eq_false_iff_not, toNat_cast] at *); omega)), (by first | rfl | exact iv1 (by (try simp only [decide_eq_true_eq, decide_eq_false_iff_not, toNat_cast] at *); omega)), (by first | rfl | exact iv1 (by (try simp only [decide_eq_true_eq, decide_eq_false_iff_not, toNat_cast] at *); omega)), (by first | rfl | exact iv1 (by (try simp only [decide_eq_true_eq, decide_eq_false_iff_not, toNat_cast] at *); omega)), (by first | rfl | exact iv1 (by (try simp only [decide_eq_true_eq, decide_eq_false_iff_not, toNat_cast] at *); omega)), trivial⟩ ⟨rfl, rfl, rfl, congrArg (fun z => some (bxP z)) e1, congrArg (fun z => some (bxP z)) e2, trivial⟩⟩
          · refine Tri.seq (Tri.reg hT ?_)
            refine Tri.join (True) (⟨93, 0, 18, [(2, .loc 0 0), (3, .loc 1 0), (5, .loc 10 0), (6, .int .i64 (i : Int)), (7, .loc 16 0), (8, .loc 17 0), (9, .int .i64 (polA i))], [(0, bxP p), (1, bxP q), (10, arr4 p q i), (16, bxP (fst4 p q i)), (17, bxP (snd4 p q i))], []⟩) ?_ fun hp6 => ?_
            · refine Tri.seq (Tri.reg hT ?_)
              refine (Tri.cond ⟨fun h5 => ?_, fun h5 => ?_⟩)
              · refine (Tri.reg hT ?_)
                have e : polA i = 1 := if_pos (by have := of_decide_eq_true h5; omega)
                exact ⟨trivial, Le.weak rfl rfl rfl rfl ⟨(by first | rfl | exact iv1 (by (try simp only [decide_eq_true_eq, decide_eq_false_iff_not, toNat_cast] at *); omega)), (by first | rfl | exact iv1 (by (try simp only [decide_eq_true_eq, decide_eq_false_iff_not, toNat_cast] at *); omega)), (by first | rfl | exact iv1 (by (try simp only [decide_eq_true_eq, decide_eq_false_iff_not, toNat_cast] at *); omega)), (by first | rfl | exact iv1 (by (try simp only [decide_eq_true_eq, decide_eq_false_iff_not, toNat_cast] at *); omega)), (by first | rfl | exact iv1 (by (try simp only [decide_eq_true_eq, decide_eq_false_iff_not, toNat_cast] at *); omega)), (by first | rfl | exact iv1 (by (try simp only [decide_eq_true_eq, decide_eq_false_iff_not, toNat_cast] at *); omega)), congrArg (AV.int .i64) e.symm, trivial⟩ ⟨rfl, rfl, rfl, rfl, rfl, trivial⟩⟩
              · refine (Tri.skip ?_)
                have e : polA i = 3 := if_neg (by have := of_decide_eq_false h5; omega)
                exact ⟨trivial, Le.weak rfl rfl rfl rfl ⟨(by first | rfl | exact iv1 (by (try simp only [decide_eq_true_eq, decide_eq_false_iff_not, toNat_cast] at *); omega)), (by first | rfl | exact iv1 (by (try simp only [decide_eq_true_eq, decide_eq_false_iff_not, toNat_cast] at *); omega)), (by first | rfl | exact iv1 (by (try simp only [decide_eq_true_eq, decide_eq_false_iff_not, toNat_cast] at *); omega)), (by first | rfl | exact iv1 (by (try simp only [decide_eq_true_eq, decide_eq_false_iff_not, toNat_cast] at *); omega)), (by first | rfl | exact iv1 (by (try simp only [decide_eq_true_eq, decide_eq_false_iff_not, toNat_cast] at *); omega)), (by first | rfl | exact iv1 (by (try simp only [decide_eq_true_eq, decide_eq_false_iff_not, toNat_cast] at *); omega)), congrArg (AV.int .i64) e.symm, trivial⟩ ⟨rfl, rfl, rfl, rfl, rfl, trivial⟩⟩
            · refine Tri.join (True) (⟨93, 0, 18, [(2, .loc 0 0), (3, .loc 1 0), (5, .loc 10 0), (6, .int .i64 (i : Int)), (7, .loc 16 0), (8, .loc 17 0), (9, .int .i64 (pol4 i))], [(0, bxP p), (1, bxP q), (10, arr4 p q i), (16, bxP (fst4 p q i)), (17, bxP (snd4 p q i))], []⟩) ?_ fun hp7 => ?_
              · refine Tri.seq (Tri.reg hT ?_)
                refine (Tri.cond ⟨fun h6 => ?_, fun h6 => ?_⟩)
                · refine (Tri.reg hT ?_)
                  have e : pol4 i = 2 := if_pos (by have := of_decide_eq_true h6; omega)
                  exact ⟨trivial, Le.weak rfl rfl rfl rfl ⟨(by first | rfl | exact iv1 (by (try simp only [decide_eq_true_eq, decide_eq_false_iff_not, toNat_cast] at *); omega)), (by first | rfl | exact iv1 (by (try simp only [decide_eq_true_eq, decide_eq_false_iff_not, toNat_cast] at *); omega)), (by first | rfl | exact iv1 (by (try simp only [decide_eq_true_eq, decide_eq_false_iff_not, toNat_cast] at *); omega)), (by first | rfl | exact iv1 (by (try simp only [decide_eq_true_eq, decide_eq_false_iff_not, toNat_cast] at *); omega)), (by first | rfl | exact iv1 (by (try simp only [decide_eq_true_eq, decide_eq_false_iff_not, toNat_cast] at *); omega)), (by first | rfl | exact iv1 (by (try simp only [decide_eq_true_eq, decide_eq_false_iff_not, toNat_cast] at *); omega)), congrArg (AV.int .i64) e.symm, trivial⟩ ⟨rfl, rfl, rfl, rfl, rfl, trivial⟩⟩
                · refine (Tri.skip ?_)
                  have e : pol4 i = polA i := if_neg (by have := of_decide_eq_false h6; omega)
                  exact ⟨trivial, Le.weak rfl rfl rfl rfl ⟨(by first | rfl | exact iv1 (by (try simp only [decide_eq_true_eq, decide_eq_false_iff_not, toNat_cast] at *); omega)), (by first | rfl | exact iv1 (by (try simp only [decide_eq_true_eq, decide_eq_false_iff_not, toNat_cast] at *); omega)), (by first | rfl | exact iv1 (by (try simp only [decide_eq_true_eq, decide_eq_false_iff_not, toNat_cast] at *); omega)), (by first | rfl | exact iv1 (by (try simp only [decide_eq_true_eq, decide_eq_false_iff_not, toNat_cast] at *); omega)), (by first | rfl | exact iv1 (by (try simp only [decide_eq_true_eq, decide_eq_false_iff_not, toNat_cast] at *); omega)), (by first | rfl | exact iv1 (by (try simp only [decide_eq_true_eq, decide_eq_false_iff_not, toNat_cast] at *); omega)), congrArg (AV.int .i64) e.symm, trivial⟩ ⟨rfl, rfl, rfl, rfl, rfl, trivial⟩⟩
              · refine Tri.seq (Tri.reg hT ?_)
                refine .inl (.inl ⟨_, fun _ => rfl, ins1_spec hf hpol.1 hpol.2, ?_⟩)
                refine Tri.seq (Tri.reg hT ?_)
                refine .inl (.inl ⟨_, fun _ => rfl, ins2_spec G.1 (by decide) hs hpol.1 hpol.2, ?_⟩)
                refine Tri.seq (Tri.reg hT ?_)
                refine .inl (.inl ⟨_, fun _ => rfl, f19_spec (J (duo (pol4 i) (fst4 p q i) (snd4 p q i))) (min (pa p) (pa q)) (by have := G.2.len; omega) (valid_inB G.2.valid) (duo_lenSum p q i hf hs), ?_⟩)
                refine Tri.seq ?_
                refine Tri.seq (Tri.reg hT ?_)
                refine ⟨_, [], trivial, rfl, rfl, fun h => ⟨rfl, rfl, rfl⟩, ?_⟩
                refine ⟨_, [], trivial, rfl, rfl, fun h => ⟨h, rfl, rfl, rfl⟩, ?_⟩
                refine ⟨⟨fun _ => trivial, fun hc => (gn hc)⟩, ?_⟩
                refine (Tri.cond ⟨fun h7 => ?_, fun h7 => ?_⟩)
                · exact absurd h7 (by decide)
                · refine (Tri.skip ?_)
                  obtain rfl | rfl | rfl | rfl : i = 0 ∨ i = 1 ∨ i = 2 ∨ i = 3 := (by omega)
                  · refine (Tri.reg hT ?_)
                    refine ⟨(by first | ((try simp only [decide_eq_true_eq, decide_eq_false_iff_not, toNat_cast] at *); omega) | decide), ?_⟩
                    refine (Tri.reg hT ?_)
                    exact ⟨1, by decide, by (try simp only [decide_eq_true_eq, decide_eq_false_iff_not, toNat_cast] at *); omega, Le.weak rfl rfl rfl rfl ⟨(by first | rfl | exact iv1 (by (try simp only [decide_eq_true_eq, decide_eq_false_iff_not, toNat_cast] at *); omega)), (by first | rfl | exact iv1 (by (try simp only [decide_eq_true_eq, decide_eq_false_iff_not, toNat_cast] at *); omega)), (by first | rfl | exact iv1 (by (try simp only [decide_eq_true_eq, decide_eq_false_iff_not, toNat_cast] at *); omega)), rfl, trivial⟩ ⟨rfl, rfl, rfl, trivial⟩⟩
                  · refine (Tri.reg hT ?_)
                    refine ⟨(by first | ((try simp only [decide_eq_true_eq, decide_eq_false_iff_not, toNat_cast] at *); omega) | decide), ?_⟩
                    refine (Tri.reg hT ?_)
                    exact ⟨2, by decide, by (try simp only [decide_eq_true_eq, decide_eq_false_iff_not, toNat_cast] at *); omega, Le.weak rfl rfl rfl rfl ⟨(by first | rfl | exact iv1 (by (try simp only [decide_eq_true_eq, decide_eq_false_iff_not, toNat_cast] at *); omega)), (by first | rfl | exact iv1 (by (try simp only [decide_eq_true_eq, decide_eq_false_iff_not, toNat_cast] at *); omega)), (by first | rfl | exact iv1 (by (try simp only [decide_eq_true_eq, decide_eq_false_iff_not, toNat_cast] at *); omega)), rfl, trivial⟩ ⟨rfl, rfl, rfl, trivial⟩⟩
                  · refine (Tri.reg hT ?_)
                    refine ⟨(by first | ((try simp only [decide_eq_true_eq, decide_eq_false_iff_not, toNat_cast] at *); omega) | decide), ?_⟩
                    refine (Tri.reg hT ?_)
                    exact ⟨3, by decide, by (try simp only [decide_eq_true_eq, decide_eq_false_iff_not, toNat_cast] at *); omega, Le.weak rfl rfl rfl rfl ⟨(by first | rfl | exact iv1 (by (try simp only [decide_eq_true_eq, decide_eq_false_iff_not, toNat_cast] at *); omega)), (by first | rfl | exact iv1 (by (try simp only [decide_eq_true_eq, decide_eq_false_iff_not, toNat_cast] at *); omega)), (by first | rfl | exact iv1 (by (try simp only [decide_eq_true_eq, decide_eq_false_iff_not, toNat_cast] at *); omega)), rfl, trivial⟩ ⟨rfl, rfl, rfl, trivial⟩⟩
                  · refine (Tri.reg hT ?_)
                    refine ⟨(by first | ((try simp only [decide_eq_true_eq, decide_eq_false_iff_not, toNat_cast] at *); omega) | decide), ?_⟩
                    refine (Tri.reg hT ?_)
                    exact ⟨4, by decide, by (try simp only [decide_eq_true_eq, decide_eq_false_iff_not, toNat_cast] at *); omega, Le.weak rfl rfl rfl rfl ⟨(by first | rfl | exact iv1 (by (try simp only [decide_eq_true_eq, decide_eq_false_iff_not, toNat_cast] at *); omega)), (by first | rfl | exact iv1 (by (try simp only [decide_eq_true_eq, decide_eq_false_iff_not, toNat_cast] at *); omega)), (by first | rfl | exact iv1 (by (try simp only [decide_eq_true_eq, decide_eq_false_iff_not, toNat_cast] at *); omega)), rfl, trivial⟩ ⟨rfl, rfl, rfl, trivial⟩⟩
        · refine Tri.exit ?_
          obtain rfl : i = 4 := (by have := of_decide_eq_false h3; omega)
          refine Tri.seq (Tri.reg hT ?_)
          refine ⟨(by first | ((try simp only [decide_eq_true_eq, decide_eq_false_iff_not, toNat_cast] at *); omega) | decide), ?_⟩
          refine ⟨(by first | ((try simp only [decide_eq_true_eq, decide_eq_false_iff_not, toNat_cast] at *); omega) | decide), ?_⟩
          refine ⟨_, [], trivial, rfl, rfl, fun h => ⟨(by first | ((try simp only [decide_eq_true_eq, decide_eq_false_iff_not, toNat_cast] at *); omega) | decide), rfl, rfl, rfl⟩, ?_⟩
          refine ⟨_, [], trivial, rfl, rfl, fun h => ⟨h, rfl, rfl, rfl⟩, ?_⟩
          refine ⟨_, [], trivial, rfl, rfl, fun h => ⟨(by first | ((try simp only [decide_eq_true_eq, decide_eq_false_iff_not, toNat_cast] at *); omega) | decide), rfl, rfl, rfl⟩, ?_⟩
          refine ⟨_, [], trivial, rfl, rfl, fun h => ⟨h, rfl, rfl, rfl⟩, ?_⟩
          refine ⟨_, [], trivial, rfl, rfl, fun h => ⟨h, h, rfl, rfl, rfl⟩, ?_⟩
          refine ⟨_, [], trivial, rfl, rfl, fun h => ⟨h, rfl, rfl, rfl⟩, ?_⟩
          refine ⟨_, [], trivial, rfl, rfl, fun h => ⟨rfl, rfl, rfl⟩, ?_⟩
          refine ⟨_, [], trivial, rfl, rfl, fun h => ⟨h, rfl, rfl, rfl⟩, ?_⟩
          refine ⟨_, [], trivial, rfl, rfl, fun h => ⟨rfl, rfl, rfl⟩, ?_⟩
          refine ⟨_, [], trivial, rfl, rfl, fun h => ⟨h, rfl, rfl, rfl⟩, ?_⟩
          refine ⟨_, [], trivial, rfl, rfl, fun h => ⟨h, h, rfl, rfl, rfl⟩, ?_⟩
          refine ⟨_, [], trivial, rfl, rfl, fun h => ⟨h, ⟨fun _ => trivial, fun hc => ga h (gn hc)⟩, rfl, rfl, rfl⟩, ?_⟩
          refine ⟨⟨fun hc => hc, fun _ => trivial⟩, ?_⟩
          refine Tri.ret ?_
          exact ⟨congrArg AV.bool (mirrors_end p q hp hq), trivial⟩
end Go.Proofs.Ytjdjgabahkcjeaa.Fx
