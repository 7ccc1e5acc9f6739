import Derived.Test.YtchiagnggnblaaaDoorCnF
set_option linter.all false
/- Chapter 21: what an accepted segment to the client does (printed by swap.py). -/
namespace Go.Proofs.YtchiagnggnblaaaDoor.Ac
open Go Go.Fw Go.Ov Go.Proofs.YtchiagnggnblaaaDoor.Fx
set_option maxRecDepth 16000 in
theorem f30_h2 (st : Int) (p g : Hf) (s t : SS) (B : Int) (is : SInv s B) (it : SInv t B) (hB : B ≤ 1099511600000) (a b q k f w u : Int) (o : List optT.D) (x : List UInt8) (ho : o.length < 9223372036854775807) (hx : x.length ≤ 1000000) :
    HSpec P G 30 [.loc 0 0, .int .i64 2, tcpV a b q k f w u o x] (cnH st g p t s) (.list evT (tkE 2 1 s t q k f x))
      [(0, .box (cnC (stM (tkS s q f x) (tkT t k)) g (tkH p s q f o x) (.loc 1 0) (.loc 2 0))), (1, .box (bxS (tkT t k))), (2, .box (bxS (tkS s q f x)))] := by
  refine fspec_intro hT (cnH st g p t s) [(0, .box (cnC (stM (tkS s q f x) (tkT t k)) g (tkH p s q f o x) (.loc 1 0) (.loc 2 0))), (1, .box (bxS (tkT t k))), (2, .box (bxS (tkS s q f x)))] 3 3 Tryd.func30 (by decide) rfl rfl (by kernel_rfl) rfl rfl ?_
  refine Tri.seq (Tri.reg hT ?_)
  refine Tri.seq (Tri.drw hT hm 12 (by kernel_rfl) ?_)
  refine ⟨(by first | ((try simp only [decide_eq_true_eq, decide_eq_false_iff_not, toNat_cast] at *); omega) | decide), ?_⟩
  refine .inl ⟨_, fun _ => rfl, f34_two, ?_⟩
  refine ⟨(by first | ((try simp only [decide_eq_true_eq, decide_eq_false_iff_not, toNat_cast] at *); omega) | decide), ?_⟩
  refine ⟨by kernel_rfl, ?_⟩
  refine Tri.join (True) (⟨186, 3, 60, [(0, .loc 0 0), (1, .int .i64 2), (5, .loc 3 0), (7, .loc 0 35), (8, .loc 0 18)], [(0, .box (cnC st g (Hf.stm p (stpM p s q o)) (.loc 1 0) (.loc 2 0))), (1, .box (bxS t)), (2, .box (bxS s)), (3, .box (tcC a b q k f w u o x))], G⟩) ?_ fun hp1 => ?_
  · refine Tri.seq (Tri.reg hT ?_)
    refine .inl (.inl ⟨_, fun _ => rfl, f31_spec a b q k f w u o x ho, ?_⟩)
    refine Tri.seq (Tri.drw hT hm 12 (by kernel_rfl) ?_)
    refine ⟨_, [], trivial, rfl, rfl, fun h => ⟨rfl, rfl, rfl⟩, ?_⟩
    refine ⟨_, [], trivial, rfl, rfl, fun h => ⟨h, rfl, rfl, rfl⟩, ?_⟩
    refine ⟨_, [], trivial, rfl, rfl, fun h => ⟨h, rfl, rfl, rfl⟩, ?_⟩
    refine ⟨_, [], trivial, rfl, rfl, fun h => ⟨h, rfl, rfl, rfl⟩, ?_⟩
    refine ⟨_, [(2, bxS s, none)], (by exact ⟨rfl, trivial⟩), rfl, (by rfl), fun h => ⟨h, (.inr (.inl ⟨_, _, (by exact ⟨rfl, trivial⟩), (CSpec.gw (f35_spec s 2)), (by rfl), rfl, rfl, rfl⟩))⟩, ?_⟩
    refine ⟨_, [], trivial, rfl, rfl, fun h => ⟨rfl, rfl, rfl⟩, ?_⟩
    refine ⟨_, [], trivial, rfl, rfl, fun h => ⟨h, rfl, rfl, rfl⟩, ?_⟩
    refine ⟨_, [], trivial, rfl, rfl, fun h => ⟨h, h, (.inl ⟨_, fun _ => rfl, f36_spec (nextS s) q, rfl, rfl, rfl⟩)⟩, ?_⟩
    refine ⟨_, [], trivial, rfl, rfl, fun h => ⟨h, rfl, rfl, rfl⟩, ?_⟩
    refine ⟨⟨fun hc => hc, fun _ => trivial⟩, ?_⟩
    refine ⟨by kernel_rfl, ?_⟩
    refine (Tri.cond ⟨fun h1 => ?_, fun h1 => ?_⟩)
    · refine (Tri.reg hT ?_)
      exact ⟨trivial, Le.weak rfl rfl rfl rfl ⟨(by first | rfl | exact iv1 (by (try simp only [decide_eq_true_eq, decide_eq_false_iff_not, toNat_cast] at *); omega)), (by first | rfl | exact iv1 (by (try simp only [decide_eq_true_eq, decide_eq_false_iff_not, toNat_cast] at *); omega)), (by first | rfl | exact iv1 (by (try simp only [decide_eq_true_eq, decide_eq_false_iff_not, toNat_cast] at *); omega)), (by first | rfl | exact iv1 (by (try simp only [decide_eq_true_eq, decide_eq_false_iff_not, toNat_cast] at *); omega)), (by first | rfl | exact iv1 (by (try simp only [decide_eq_true_eq, decide_eq_false_iff_not, toNat_cast] at *); omega)), trivial⟩ ⟨congrArg (fun z => some (Chunk.box (cnC st g (Hf.stm p z) (.loc 1 0) (.loc 2 0)))) (spM_t h1), rfl, rfl, rfl, trivial⟩⟩
    · refine (Tri.skip ?_)
      exact ⟨trivial, Le.weak rfl rfl rfl rfl ⟨(by first | rfl | exact iv1 (by (try simp only [decide_eq_true_eq, decide_eq_false_iff_not, toNat_cast] at *); omega)), (by first | rfl | exact iv1 (by (try simp only [decide_eq_true_eq, decide_eq_false_iff_not, toNat_cast] at *); omega)), (by first | rfl | exact iv1 (by (try simp only [decide_eq_true_eq, decide_eq_false_iff_not, toNat_cast] at *); omega)), (by first | rfl | exact iv1 (by (try simp only [decide_eq_true_eq, decide_eq_false_iff_not, toNat_cast] at *); omega)), (by first | rfl | exact iv1 (by (try simp only [decide_eq_true_eq, decide_eq_false_iff_not, toNat_cast] at *); omega)), trivial⟩ ⟨congrArg (fun z => some (Chunk.box (cnC st g (Hf.stm p z) (.loc 1 0) (.loc 2 0)))) (spM_f h1), rfl, rfl, rfl, trivial⟩⟩
  · refine Tri.join (True) (⟨186, 3, 120, [(0, .loc 0 0), (1, .int .i64 2), (5, .loc 3 0), (7, .loc 0 35), (8, .loc 0 18)], [(0, .box (cnC st g (Hf.hig (Hf.stm p (stpM p s q o)) (higM p q f x)) (.loc 1 0) (.loc 2 0))), (1, .box (bxS t)), (2, .box (bxS s)), (3, .box (tcC a b q k f w u o x))], G⟩) ?_ fun hp2 => ?_
    · refine Tri.seq (Tri.drw hT hm 6 (by kernel_rfl) ?_)
      refine .inl ⟨_, fun _ => rfl, f39_spec a b q k f w u o x (by omega), ?_⟩
      refine ⟨by kernel_rfl, ?_⟩
      refine Tri.seq (Tri.reg hT ?_)
      refine .inl (.inl ⟨_, fun _ => rfl, f36_spec p.high (edgM q f x), ?_⟩)
      refine (Tri.cond ⟨fun h2 => ?_, fun h2 => ?_⟩)
      · refine (Tri.reg hT ?_)
        exact ⟨trivial, Le.weak rfl rfl rfl rfl ⟨(by first | rfl | exact iv1 (by (try simp only [decide_eq_true_eq, decide_eq_false_iff_not, toNat_cast] at *); omega)), (by first | rfl | exact iv1 (by (try simp only [decide_eq_true_eq, decide_eq_false_iff_not, toNat_cast] at *); omega)), (by first | rfl | exact iv1 (by (try simp only [decide_eq_true_eq, decide_eq_false_iff_not, toNat_cast] at *); omega)), (by first | rfl | exact iv1 (by (try simp only [decide_eq_true_eq, decide_eq_false_iff_not, toNat_cast] at *); omega)), (by first | rfl | exact iv1 (by (try simp only [decide_eq_true_eq, decide_eq_false_iff_not, toNat_cast] at *); omega)), trivial⟩ ⟨congrArg (fun z => some (Chunk.box (cnC st g (Hf.hig (Hf.stm p (stpM p s q o)) z) (.loc 1 0) (.loc 2 0)))) (hig_t h2), rfl, rfl, rfl, trivial⟩⟩
      · refine (Tri.skip ?_)
        exact ⟨trivial, Le.weak rfl rfl rfl rfl ⟨(by first | rfl | exact iv1 (by (try simp only [decide_eq_true_eq, decide_eq_false_iff_not, toNat_cast] at *); omega)), (by first | rfl | exact iv1 (by (try simp only [decide_eq_true_eq, decide_eq_false_iff_not, toNat_cast] at *); omega)), (by first | rfl | exact iv1 (by (try simp only [decide_eq_true_eq, decide_eq_false_iff_not, toNat_cast] at *); omega)), (by first | rfl | exact iv1 (by (try simp only [decide_eq_true_eq, decide_eq_false_iff_not, toNat_cast] at *); omega)), (by first | rfl | exact iv1 (by (try simp only [decide_eq_true_eq, decide_eq_false_iff_not, toNat_cast] at *); omega)), trivial⟩ ⟨congrArg (fun z => some (Chunk.box (cnC st g (Hf.hig (Hf.stm p (stpM p s q o)) z) (.loc 1 0) (.loc 2 0)))) (hig_f h2), rfl, rfl, rfl, trivial⟩⟩
    · refine Tri.seq (Tri.reg hT ?_)
      refine Tri.seq (Tri.regM hT [4] ?_)
      refine ⟨_, Le.refl _, .inl (.inr (OpTri.meth rfl rfl rfl rfl ?_))⟩
      refine Tri.seq (Tri.reg hT ?_)
      refine .inl (.inr (.inl ⟨_, _, (by exact ⟨rfl, trivial⟩), (CSpec.gw (f41_spec s 2)), (by rfl), ?_⟩))
      refine .inl (.inr (.inl ⟨_, _, (by exact ⟨rfl, rfl, rfl, trivial⟩), (CSpec.ofH (u := [(0, (cnC st g (Hf.hig (Hf.stm p (stpM p s q o)) (higM p q f x)) (.loc 1 0) (.loc 2 0)), none), (1, bxS t, none), (2, bxS s, none)]) (f28_h2 st g _ t s 6 0)), (by rfl), ?_⟩))
      refine Tri.seq (Tri.regM hT [5] ?_)
      refine ⟨_, Le.refl _, .inl (.inr (OpTri.mcall 1 rfl rfl rfl (CSpec.toH (CSpec.gw (f40_spec s B is (by omega) q x (by omega) 2))) trivial ⟨rfl, trivial⟩ rfl ?_))⟩
      refine Tri.le _ (Le.own 13 evT rfl) ?_
      refine Tri.join (True) (⟨186, 3, 200, [(0, .loc 0 0), (1, .int .i64 2), (5, .loc 3 0), (7, .loc 0 35), (8, .loc 0 18), (13, .own 151 (tkE1 2 s q x).length), (15, .bool (endedS s)), (17, .str (addS s q x).1.1), (16, .loc 135 0)], [(0, .box (cnC st g (tkH p s q f o x) (.loc 1 0) (.loc 2 0))), (1, .box (bxS t)), (2, .box (bxS (addS s q x).2)), (3, .box (tcC a b q k f w u o x)), (135, .box [.int .i64 6, .int .i64 2, .int .i64 s.pos, .int .i64 (addS s q x).1.2.2, .str []]), (151, .arr evT (tkE1 2 s q x))], G⟩) ?_ fun hp3 => ?_
      · refine Tri.seq (Tri.reg hT ?_)
        refine (Tri.cond ⟨fun h3 => ?_, fun h3 => ?_⟩)
        · refine Tri.seq (Tri.reg hT ?_)
          refine (Tri.reg hT ?_)
          refine ⟨(Nat.le_refl _), (by show _ ≤ _ ∧ (_ + 1) * _ ≤ _ ∧ _ + 1 ≤ _; dsimp only; (try simp only [decide_eq_true_eq, decide_eq_false_iff_not, toNat_cast] at *); omega), ?_⟩
          have hE := num_t (c := 6) (d := 2) (pos := s.pos) h3
          exact ⟨trivial, Le.weak rfl rfl rfl rfl ⟨(by first | rfl | exact iv1 (by (try simp only [decide_eq_true_eq, decide_eq_false_iff_not, toNat_cast] at *); omega)), (by first | rfl | exact iv1 (by (try simp only [decide_eq_true_eq, decide_eq_false_iff_not, toNat_cast] at *); omega)), (by first | rfl | exact iv1 (by (try simp only [decide_eq_true_eq, decide_eq_false_iff_not, toNat_cast] at *); omega)), (by first | rfl | exact iv1 (by (try simp only [decide_eq_true_eq, decide_eq_false_iff_not, toNat_cast] at *); omega)), (by first | rfl | exact iv1 (by (try simp only [decide_eq_true_eq, decide_eq_false_iff_not, toNat_cast] at *); omega)), (show AV.own 151 1 = AV.own 151 (tkE1 2 s q x).length from by unfold tkE1; rw [hE]; rfl), (by first | rfl | exact iv1 (by (try simp only [decide_eq_true_eq, decide_eq_false_iff_not, toNat_cast] at *); omega)), (by first | rfl | exact iv1 (by (try simp only [decide_eq_true_eq, decide_eq_false_iff_not, toNat_cast] at *); omega)), (by first | rfl | exact iv1 (by (try simp only [decide_eq_true_eq, decide_eq_false_iff_not, toNat_cast] at *); omega)), trivial⟩ ⟨rfl, rfl, rfl, rfl, rfl, (show some (Chunk.arr evT [((6 : Int), (2 : Int), s.pos, (addS s q x).1.2.2, ([] : List UInt8), ())]) = some (Chunk.arr evT (tkE1 2 s q x)) from by unfold tkE1; rw [hE]), trivial⟩⟩
        · refine (Tri.skip ?_)
          have hE := num_f (c := 6) (d := 2) (pos := s.pos) h3; have hz := num_z h3
          exact ⟨trivial, Le.weak rfl rfl rfl rfl ⟨(by first | rfl | exact iv1 (by (try simp only [decide_eq_true_eq, decide_eq_false_iff_not, toNat_cast] at *); omega)), (by first | rfl | exact iv1 (by (try simp only [decide_eq_true_eq, decide_eq_false_iff_not, toNat_cast] at *); omega)), (by first | rfl | exact iv1 (by (try simp only [decide_eq_true_eq, decide_eq_false_iff_not, toNat_cast] at *); omega)), (by first | rfl | exact iv1 (by (try simp only [decide_eq_true_eq, decide_eq_false_iff_not, toNat_cast] at *); omega)), (by first | rfl | exact iv1 (by (try simp only [decide_eq_true_eq, decide_eq_false_iff_not, toNat_cast] at *); omega)), (show AV.own 151 0 = AV.own 151 (tkE1 2 s q x).length from by unfold tkE1; rw [hE]; rfl), (by first | rfl | exact iv1 (by (try simp only [decide_eq_true_eq, decide_eq_false_iff_not, toNat_cast] at *); omega)), (by first | rfl | exact iv1 (by (try simp only [decide_eq_true_eq, decide_eq_false_iff_not, toNat_cast] at *); omega)), (by first | rfl | exact iv1 (by (try simp only [decide_eq_true_eq, decide_eq_false_iff_not, toNat_cast] at *); omega)), trivial⟩ ⟨rfl, rfl, rfl, rfl, (show some (Chunk.box [.int .i64 6, .int .i64 2, .int .i64 s.pos, .int .i64 0, .str []]) = some (Chunk.box [.int .i64 6, .int .i64 2, .int .i64 s.pos, .int .i64 (addS s q x).1.2.2, .str []]) from by rw [hz]), (show some (Chunk.arr evT []) = some (Chunk.arr evT (tkE1 2 s q x)) from by unfold tkE1; rw [hE]), trivial⟩⟩
      · refine Tri.join (True) (⟨186, 3, 240, [(0, .loc 0 0), (1, .int .i64 2), (5, .loc 3 0), (7, .loc 0 35), (8, .loc 0 18), (13, .own 151 (tkE1 2 s q x).length), (15, .bool (endedS s)), (17, .str (addS s q x).1.1), (16, .loc 135 0)], [(0, .box (cnC st g (tkH p s q f o x) (.loc 1 0) (.loc 2 0))), (1, .box (bxS t)), (2, .box (bxS (tkS s q f x))), (3, .box (tcC a b q k f w u o x)), (135, .box [.int .i64 6, .int .i64 2, .int .i64 s.pos, .int .i64 (addS s q x).1.2.2, .str []]), (151, .arr evT (tkE1 2 s q x))], G⟩) ?_ fun hp4 => ?_
        · refine Tri.seq (Tri.reg hT ?_)
          refine (Tri.cond ⟨fun h4 => ?_, fun h4 => ?_⟩)
          · refine (Tri.drw hT hm 12 (by kernel_rfl) ?_)
            refine .inr (.inl ⟨_, _, (by exact ⟨rfl, trivial⟩), (CSpec.gw (f42_spec (addS s q x).2 (B + 8192) (addS_inv is q x) (by omega) (IntKind.u32.wrap (q + IntKind.u32.wrap x.length)) 2)), (by rfl), ?_⟩)
            refine ⟨by kernel_rfl, ?_⟩
            exact ⟨trivial, Le.weak rfl rfl rfl rfl ⟨(by first | rfl | exact iv1 (by (try simp only [decide_eq_true_eq, decide_eq_false_iff_not, toNat_cast] at *); omega)), (by first | rfl | exact iv1 (by (try simp only [decide_eq_true_eq, decide_eq_false_iff_not, toNat_cast] at *); omega)), (by first | rfl | exact iv1 (by (try simp only [decide_eq_true_eq, decide_eq_false_iff_not, toNat_cast] at *); omega)), (by first | rfl | exact iv1 (by (try simp only [decide_eq_true_eq, decide_eq_false_iff_not, toNat_cast] at *); omega)), (by first | rfl | exact iv1 (by (try simp only [decide_eq_true_eq, decide_eq_false_iff_not, toNat_cast] at *); omega)), (by first | rfl | exact iv1 (by (try simp only [decide_eq_true_eq, decide_eq_false_iff_not, toNat_cast] at *); omega)), (by first | rfl | exact iv1 (by (try simp only [decide_eq_true_eq, decide_eq_false_iff_not, toNat_cast] at *); omega)), (by first | rfl | exact iv1 (by (try simp only [decide_eq_true_eq, decide_eq_false_iff_not, toNat_cast] at *); omega)), (by first | rfl | exact iv1 (by (try simp only [decide_eq_true_eq, decide_eq_false_iff_not, toNat_cast] at *); omega)), trivial⟩ ⟨rfl, rfl, congrArg (fun z => some (Chunk.box (bxS z))) (fin_t h4), rfl, rfl, rfl, trivial⟩⟩
          · refine (Tri.skip ?_)
            exact ⟨trivial, Le.weak rfl rfl rfl rfl ⟨(by first | rfl | exact iv1 (by (try simp only [decide_eq_true_eq, decide_eq_false_iff_not, toNat_cast] at *); omega)), (by first | rfl | exact iv1 (by (try simp only [decide_eq_true_eq, decide_eq_false_iff_not, toNat_cast] at *); omega)), (by first | rfl | exact iv1 (by (try simp only [decide_eq_true_eq, decide_eq_false_iff_not, toNat_cast] at *); omega)), (by first | rfl | exact iv1 (by (try simp only [decide_eq_true_eq, decide_eq_false_iff_not, toNat_cast] at *); omega)), (by first | rfl | exact iv1 (by (try simp only [decide_eq_true_eq, decide_eq_false_iff_not, toNat_cast] at *); omega)), (by first | rfl | exact iv1 (by (try simp only [decide_eq_true_eq, decide_eq_false_iff_not, toNat_cast] at *); omega)), (by first | rfl | exact iv1 (by (try simp only [decide_eq_true_eq, decide_eq_false_iff_not, toNat_cast] at *); omega)), (by first | rfl | exact iv1 (by (try simp only [decide_eq_true_eq, decide_eq_false_iff_not, toNat_cast] at *); omega)), (by first | rfl | exact iv1 (by (try simp only [decide_eq_true_eq, decide_eq_false_iff_not, toNat_cast] at *); omega)), trivial⟩ ⟨rfl, rfl, congrArg (fun z => some (Chunk.box (bxS z))) (fin_f h4), rfl, rfl, rfl, trivial⟩⟩
        · have is1 := tkS_inv is q f x; have ip0 := is1.pos0; have ip1 := is1.posB; have ip2 := add_len s q x; have ip3 := tkS_pos s q f x; have iq0 := is.pos0; have hl1 := numM_len 6 2 s.pos (addS s q x).1.2.2; have hl2 := repM_len 2 (tkS s q f x) (addS s q x).1.1 (endedS s)
          refine Tri.seq (Tri.reg hT ?_)
          refine .inl (.inr (.inl ⟨_, _, (by exact ⟨rfl, rfl, rfl, trivial⟩), (CSpec.ofH (u := [(0, (cnC st g (tkH p s q f o x) (.loc 1 0) (.loc 2 0)), none), (1, bxS t, none), (2, bxS (tkS s q f x), none)]) (f43_h2 st g (tkH p s q f o x) t (tkS s q f x) (addS s q x).1.1 (endedS s) (by omega) ip0 (by omega))), (by rfl), ?_⟩))
          refine ⟨(by show _ ≤ _ ∧ ((numM 6 2 s.pos (addS s q x).1.2.2).length + (repM 2 (tkS s q f x) (addS s q x).1.1 (endedS s)).length) * 48 ≤ 140737488355328 ∧ (numM 6 2 s.pos (addS s q x).1.2.2).length + (repM 2 (tkS s q f x) (addS s q x).1.1 (endedS s)).length ≤ 140737488355328; refine ⟨Nat.le_refl _, ?_, ?_⟩ <;> omega), ?_⟩
          refine Tri.le (⟨186, 3, 300, [(0, .loc 0 0), (1, .int .i64 2), (5, .loc 3 0), (7, .loc 0 35), (8, .loc 0 18), (13, .own 151 (tkE2 2 s q f x).length), (16, .loc 135 0)], [(0, .box (cnC st g (tkH p s q f o x) (.loc 1 0) (.loc 2 0))), (1, .box (bxS t)), (2, .box (bxS (tkS s q f x))), (3, .box (tcC a b q k f w u o x)), (135, .box [.int .i64 6, .int .i64 2, .int .i64 s.pos, .int .i64 (addS s q x).1.2.2, .str []]), (151, .arr evT (tkE2 2 s q f x))], G⟩) (Le.weak rfl rfl rfl rfl ⟨(by first | rfl | exact iv1 (by (try simp only [decide_eq_true_eq, decide_eq_false_iff_not, toNat_cast] at *); omega)), (by first | rfl | exact iv1 (by (try simp only [decide_eq_true_eq, decide_eq_false_iff_not, toNat_cast] at *); omega)), (by first | rfl | exact iv1 (by (try simp only [decide_eq_true_eq, decide_eq_false_iff_not, toNat_cast] at *); omega)), (by first | rfl | exact iv1 (by (try simp only [decide_eq_true_eq, decide_eq_false_iff_not, toNat_cast] at *); omega)), (by first | rfl | exact iv1 (by (try simp only [decide_eq_true_eq, decide_eq_false_iff_not, toNat_cast] at *); omega)), (congrArg (AV.own 151) (by unfold tkE2; rw [List.length_append])), (by first | rfl | exact iv1 (by (try simp only [decide_eq_true_eq, decide_eq_false_iff_not, toNat_cast] at *); omega)), trivial⟩ ⟨rfl, rfl, rfl, rfl, rfl, (congrArg (fun l => some (Chunk.arr evT l)) (by unfold tkE2; rw [List.take_length])), trivial⟩) ?_
          refine Tri.seq (Tri.reg hT ?_)
          refine .inl (.inr (.inl ⟨_, _, (by exact ⟨rfl, trivial⟩), (CSpec.gw (f41_spec t 1)), (by rfl), ?_⟩))
          refine .inl (.inl ⟨_, fun _ => rfl, f34_two, ?_⟩)
          refine .inl (.inr (.inl ⟨_, _, (by exact ⟨rfl, rfl, rfl, trivial⟩), (CSpec.ofH (u := [(0, (cnC st g (tkH p s q f o x) (.loc 1 0) (.loc 2 0)), none), (1, bxS t, none), (2, bxS (tkS s q f x), none)]) (f28_h1 st g (tkH p s q f o x) t (tkS s q f x) 3 0)), (by rfl), ?_⟩))
          have hl3 : (tkE2 2 s q f x).length ≤ 3 := (by unfold tkE2 tkE1; rw [List.length_append]; omega); have hl4 := numM_len 3 1 t.pos (lostS t k).1.1
          refine Tri.seq (Tri.drw hT hm 11 (by kernel_rfl) ?_)
          refine .inr (.inl ⟨_, _, (by exact ⟨rfl, trivial⟩), (CSpec.gw (f44_spec t B it (by omega) k 1)), (by rfl), ?_⟩)
          refine ⟨by kernel_rfl, ?_⟩
          refine Tri.join (True) (⟨186, 3, 340, [(0, .loc 0 0), (1, .int .i64 2), (5, .loc 3 0), (7, .loc 0 35), (8, .loc 0 18), (13, .own 151 (tkE3 2 1 s t q k f x).length), (15, .bool (endedS t)), (17, .str (lostS t k).1.2), (16, .loc 135 0)], [(0, .box (cnC st g (tkH p s q f o x) (.loc 1 0) (.loc 2 0))), (1, .box (bxS (tkT t k))), (2, .box (bxS (tkS s q f x))), (3, .box (tcC a b q k f w u o x)), (135, .box [.int .i64 3, .int .i64 1, .int .i64 t.pos, .int .i64 (lostS t k).1.1, .str []]), (151, .arr evT (tkE3 2 1 s t q k f x))], G⟩) ?_ fun hp5 => ?_
          · refine Tri.seq (Tri.reg hT ?_)
            refine (Tri.cond ⟨fun h5 => ?_, fun h5 => ?_⟩)
            · refine Tri.seq (Tri.reg hT ?_)
              refine (Tri.reg hT ?_)
              refine ⟨(Nat.le_refl _), (by show _ ≤ _ ∧ (_ + 1) * _ ≤ _ ∧ _ + 1 ≤ _; dsimp only; (try simp only [decide_eq_true_eq, decide_eq_false_iff_not, toNat_cast] at *); omega), ?_⟩
              have hE := num_t (c := 3) (d := 1) (pos := t.pos) h5
              exact ⟨trivial, Le.weak rfl rfl rfl rfl ⟨(by first | rfl | exact iv1 (by (try simp only [decide_eq_true_eq, decide_eq_false_iff_not, toNat_cast] at *); omega)), (by first | rfl | exact iv1 (by (try simp only [decide_eq_true_eq, decide_eq_false_iff_not, toNat_cast] at *); omega)), (by first | rfl | exact iv1 (by (try simp only [decide_eq_true_eq, decide_eq_false_iff_not, toNat_cast] at *); omega)), (by first | rfl | exact iv1 (by (try simp only [decide_eq_true_eq, decide_eq_false_iff_not, toNat_cast] at *); omega)), (by first | rfl | exact iv1 (by (try simp only [decide_eq_true_eq, decide_eq_false_iff_not, toNat_cast] at *); omega)), (congrArg (AV.own 151) (by unfold tkE3; rw [hE, List.length_append]; rfl)), (by first | rfl | exact iv1 (by (try simp only [decide_eq_true_eq, decide_eq_false_iff_not, toNat_cast] at *); omega)), (by first | rfl | exact iv1 (by (try simp only [decide_eq_true_eq, decide_eq_false_iff_not, toNat_cast] at *); omega)), (by first | rfl | exact iv1 (by (try simp only [decide_eq_true_eq, decide_eq_false_iff_not, toNat_cast] at *); omega)), trivial⟩ ⟨rfl, rfl, rfl, rfl, rfl, (congrArg (fun l => some (Chunk.arr evT l)) (by unfold tkE3; rw [hE, List.take_length]; rfl)), trivial⟩⟩
            · refine (Tri.skip ?_)
              have hE := num_f (c := 3) (d := 1) (pos := t.pos) h5; have hz := num_z h5
              exact ⟨trivial, Le.weak rfl rfl rfl rfl ⟨(by first | rfl | exact iv1 (by (try simp only [decide_eq_true_eq, decide_eq_false_iff_not, toNat_cast] at *); omega)), (by first | rfl | exact iv1 (by (try simp only [decide_eq_true_eq, decide_eq_false_iff_not, toNat_cast] at *); omega)), (by first | rfl | exact iv1 (by (try simp only [decide_eq_true_eq, decide_eq_false_iff_not, toNat_cast] at *); omega)), (by first | rfl | exact iv1 (by (try simp only [decide_eq_true_eq, decide_eq_false_iff_not, toNat_cast] at *); omega)), (by first | rfl | exact iv1 (by (try simp only [decide_eq_true_eq, decide_eq_false_iff_not, toNat_cast] at *); omega)), (congrArg (AV.own 151) (by unfold tkE3; rw [hE, List.append_nil])), (by first | rfl | exact iv1 (by (try simp only [decide_eq_true_eq, decide_eq_false_iff_not, toNat_cast] at *); omega)), (by first | rfl | exact iv1 (by (try simp only [decide_eq_true_eq, decide_eq_false_iff_not, toNat_cast] at *); omega)), (by first | rfl | exact iv1 (by (try simp only [decide_eq_true_eq, decide_eq_false_iff_not, toNat_cast] at *); omega)), trivial⟩ ⟨rfl, rfl, rfl, rfl, (show some (Chunk.box [.int .i64 3, .int .i64 1, .int .i64 t.pos, .int .i64 0, .str []]) = some (Chunk.box [.int .i64 3, .int .i64 1, .int .i64 t.pos, .int .i64 (lostS t k).1.1, .str []]) from by rw [hz]), (congrArg (fun l => some (Chunk.arr evT l)) (by unfold tkE3; rw [hE, List.append_nil])), trivial⟩⟩
          · have it1 := tkT_inv it k; have jp0 := it1.pos0; have jp1 := it1.posB; have jl := lostS_inv it k; have jl2 := jl.sum; have jl3 : (tkT t k).pos = (lostS t k).2.pos := rfl; dsimp only at jl2; have jq0 := it.pos0
            refine Tri.seq (Tri.reg hT ?_)
            refine .inl (.inl ⟨_, fun _ => rfl, f34_two, ?_⟩)
            refine .inl (.inr (.inl ⟨_, _, (by exact ⟨rfl, rfl, rfl, trivial⟩), (CSpec.ofH (u := [(0, (cnC st g (tkH p s q f o x) (.loc 1 0) (.loc 2 0)), none), (1, bxS (tkT t k), none), (2, bxS (tkS s q f x), none)]) (f43_h1 st g (tkH p s q f o x) (tkT t k) (tkS s q f x) (lostS t k).1.2 (endedS t) (by omega) jp0 (by omega))), (by rfl), ?_⟩))
            refine ⟨(by show _ ≤ _ ∧ ((tkE3 2 1 s t q k f x).length + (repM 1 (tkT t k) (lostS t k).1.2 (endedS t)).length) * 48 ≤ 140737488355328 ∧ (tkE3 2 1 s t q k f x).length + (repM 1 (tkT t k) (lostS t k).1.2 (endedS t)).length ≤ 140737488355328; have h9 : (tkE3 2 1 s t q k f x).length ≤ 4 := (by unfold tkE3; rw [List.length_append]; omega); have h10 := repM_len 1 (tkT t k) (lostS t k).1.2 (endedS t); refine ⟨Nat.le_refl _, ?_, ?_⟩ <;> omega), ?_⟩
            refine Tri.le (⟨186, 3, 400, [(0, .loc 0 0), (7, .loc 0 35), (8, .loc 0 18), (13, .own 151 (tkE 2 1 s t q k f x).length)], [(0, .box (cnC st g (tkH p s q f o x) (.loc 1 0) (.loc 2 0))), (1, .box (bxS (tkT t k))), (2, .box (bxS (tkS s q f x))), (151, .arr evT (tkE 2 1 s t q k f x))], G⟩) (Le.weak rfl rfl rfl rfl ⟨(by first | rfl | exact iv1 (by (try simp only [decide_eq_true_eq, decide_eq_false_iff_not, toNat_cast] at *); omega)), (by first | rfl | exact iv1 (by (try simp only [decide_eq_true_eq, decide_eq_false_iff_not, toNat_cast] at *); omega)), (by first | rfl | exact iv1 (by (try simp only [decide_eq_true_eq, decide_eq_false_iff_not, toNat_cast] at *); omega)), (congrArg (AV.own 151) (by unfold tkE; rw [List.length_append])), trivial⟩ ⟨rfl, rfl, rfl, (congrArg (fun l => some (Chunk.arr evT l)) (by unfold tkE; rw [List.take_length])), trivial⟩) ?_
            refine Tri.seq (Tri.reg hT ?_)
            refine Tri.seq ?_
            refine Tri.seq (Tri.regM hT [2] ?_)
            refine ⟨_, Le.refl _, .inl (.inr (OpTri.buildM hT rfl rfl rfl rfl rfl rfl rfl rfl rfl rfl rfl ?_))⟩
            refine Tri.block ?_
            refine Tri.loopN 3 ?_
            refine TriL.go (Tri.le (S := ⟨186, 3, 500, [(0, .loc 0 0), (7, .loc 0 35), (8, .loc 0 18), (13, .own 151 (tkE 2 1 s t q k f x).length), (166, .own 406 2), (167, .int .i64 2), (168, .int .i64 0)], [(0, .box (cnC 3 g (tkH p s q f o x) (.loc 1 0) (.loc 2 0))), (1, .box (bxS (tkT t k))), (2, .box (bxS (tkS s q f x))), (406, .ext (boxS [.loc 0 35, .loc 0 18])), (151, .arr evT (tkE 2 1 s t q k f x))], G⟩) (Le.weak rfl rfl rfl rfl ⟨rfl, rfl, rfl, rfl, rfl, rfl, rfl, trivial⟩ ⟨rfl, rfl, rfl, rfl, rfl, trivial⟩) ?_)
            refine Tri.seq (Tri.reg hT ?_)
            refine Tri.seq (Tri.cond ⟨fun h => ?_, fun h => absurd h (by decide)⟩)
            refine Tri.skip ?_
            refine Tri.seq (Tri.block ?_)
            refine Tri.seq (Tri.regM hT [0, 1] ?_)
            refine ⟨_, Le.refl _, .inl (.inr (OpTri.idxS hT rfl rfl rfl rfl rfl rfl ⟨trivial, rfl⟩ ⟨trivial, rfl⟩ rfl (by decide) ?_))⟩
            refine ⟨_, Le.refl _, .inl (.inr (OpTri.loadS hT rfl rfl ⟨trivial, rfl⟩ rfl ?_))⟩
            refine Tri.seq (Tri.reg hT ?_)
            refine .inl (.inr (.inl ⟨_, _, (by exact ⟨rfl, trivial⟩), (CSpec.gw (f41_spec (tkS s q f x) 2)), (by rfl), ?_⟩))
            refine Tri.cond ⟨fun e0 => ?_, fun e0 => ?_⟩
            · refine Tri.reg hT ?_
              refine Tri.reg hT ?_
              refine TriL.go (Tri.le (S := ⟨186, 3, 500, [(0, .loc 0 0), (7, .loc 0 35), (8, .loc 0 18), (13, .own 151 (tkE 2 1 s t q k f x).length), (166, .own 406 2), (167, .int .i64 2), (168, .int .i64 1)], [(0, .box (cnC (3 + b01 (endedS (tkS s q f x))) g (tkH p s q f o x) (.loc 1 0) (.loc 2 0))), (1, .box (bxS (tkT t k))), (2, .box (bxS (tkS s q f x))), (406, .ext (boxS [.loc 0 35, .loc 0 18])), (151, .arr evT (tkE 2 1 s t q k f x))], G⟩) (Le.weak rfl rfl rfl rfl ⟨rfl, rfl, rfl, rfl, rfl, rfl, rfl, trivial⟩ ⟨congrArg (fun z => some (Chunk.box (cnC z g (tkH p s q f o x) (.loc 1 0) (.loc 2 0)))) (show IntKind.i64.wrap (3 + 1) = 3 + b01 (endedS (tkS s q f x)) from by rw [e0]; rfl), rfl, rfl, rfl, rfl, trivial⟩) ?_)
              refine Tri.seq (Tri.reg hT ?_)
              refine Tri.seq (Tri.cond ⟨fun h => ?_, fun h => absurd h (by decide)⟩)
              refine Tri.skip ?_
              refine Tri.seq (Tri.block ?_)
              refine Tri.seq (Tri.regM hT [0, 1] ?_)
              refine ⟨_, Le.refl _, .inl (.inr (OpTri.idxS hT rfl rfl rfl rfl rfl rfl ⟨trivial, rfl⟩ ⟨trivial, rfl⟩ rfl (by decide) ?_))⟩
              refine ⟨_, Le.refl _, .inl (.inr (OpTri.loadS hT rfl rfl ⟨trivial, rfl⟩ rfl ?_))⟩
              refine Tri.seq (Tri.reg hT ?_)
              refine .inl (.inr (.inl ⟨_, _, (by exact ⟨rfl, trivial⟩), (CSpec.gw (f41_spec (tkT t k) 1)), (by rfl), ?_⟩))
              refine Tri.cond ⟨fun e1 => ?_, fun e1 => ?_⟩
              · refine Tri.reg hT ?_
                refine Tri.reg hT ?_
                refine TriL.go (Tri.le (S := ⟨186, 3, 500, [(0, .loc 0 0), (7, .loc 0 35), (8, .loc 0 18), (13, .own 151 (tkE 2 1 s t q k f x).length), (166, .own 406 2), (167, .int .i64 2), (168, .int .i64 2)], [(0, .box (cnC (stM (tkS s q f x) (tkT t k)) g (tkH p s q f o x) (.loc 1 0) (.loc 2 0))), (1, .box (bxS (tkT t k))), (2, .box (bxS (tkS s q f x))), (406, .ext (boxS [.loc 0 35, .loc 0 18])), (151, .arr evT (tkE 2 1 s t q k f x))], G⟩) (Le.weak rfl rfl rfl rfl ⟨rfl, rfl, rfl, rfl, rfl, rfl, rfl, trivial⟩ ⟨congrArg (fun z => some (Chunk.box (cnC z g (tkH p s q f o x) (.loc 1 0) (.loc 2 0)))) (by unfold stM b01; rw [e1]; cases endedS (tkS s q f x) <;> rfl), rfl, rfl, rfl, rfl, trivial⟩) ?_)
                refine Tri.seq (Tri.reg hT ?_)
                refine Tri.seq (Tri.cond ⟨fun h => absurd h (by decide), fun h => ?_⟩)
                refine Tri.exit ?_
                refine Tri.seq (Tri.reg hT ?_)
                refine Tri.le ⟨186, 3, 600, [(6, .list evT (tkE 2 1 s t q k f x))], [(0, .box (cnC (stM (tkS s q f x) (tkT t k)) g (tkH p s q f o x) (.loc 1 0) (.loc 2 0))), (1, .box (bxS (tkT t k))), (2, .box (bxS (tkS s q f x)))], G⟩ (Le.trans (Le.freeze 6 151 _ rfl rfl (Nat.le_refl _)) (Le.weak rfl rfl rfl rfl ⟨congrArg (AV.list evT) (List.take_length ..), trivial⟩ ⟨rfl, rfl, rfl, trivial⟩)) ?_
                refine Tri.ret ?_
                exact ⟨rfl, rfl, rfl, rfl, trivial⟩
              · refine Tri.skip ?_
                refine Tri.reg hT ?_
                refine TriL.go (Tri.le (S := ⟨186, 3, 500, [(0, .loc 0 0), (7, .loc 0 35), (8, .loc 0 18), (13, .own 151 (tkE 2 1 s t q k f x).length), (166, .own 406 2), (167, .int .i64 2), (168, .int .i64 2)], [(0, .box (cnC (stM (tkS s q f x) (tkT t k)) g (tkH p s q f o x) (.loc 1 0) (.loc 2 0))), (1, .box (bxS (tkT t k))), (2, .box (bxS (tkS s q f x))), (406, .ext (boxS [.loc 0 35, .loc 0 18])), (151, .arr evT (tkE 2 1 s t q k f x))], G⟩) (Le.weak rfl rfl rfl rfl ⟨rfl, rfl, rfl, rfl, rfl, rfl, rfl, trivial⟩ ⟨congrArg (fun z => some (Chunk.box (cnC z g (tkH p s q f o x) (.loc 1 0) (.loc 2 0)))) (by unfold stM b01; rw [e1]; cases endedS (tkS s q f x) <;> rfl), rfl, rfl, rfl, rfl, trivial⟩) ?_)
                refine Tri.seq (Tri.reg hT ?_)
                refine Tri.seq (Tri.cond ⟨fun h => absurd h (by decide), fun h => ?_⟩)
                refine Tri.exit ?_
                refine Tri.seq (Tri.reg hT ?_)
                refine Tri.le ⟨186, 3, 600, [(6, .list evT (tkE 2 1 s t q k f x))], [(0, .box (cnC (stM (tkS s q f x) (tkT t k)) g (tkH p s q f o x) (.loc 1 0) (.loc 2 0))), (1, .box (bxS (tkT t k))), (2, .box (bxS (tkS s q f x)))], G⟩ (Le.trans (Le.freeze 6 151 _ rfl rfl (Nat.le_refl _)) (Le.weak rfl rfl rfl rfl ⟨congrArg (AV.list evT) (List.take_length ..), trivial⟩ ⟨rfl, rfl, rfl, trivial⟩)) ?_
                refine Tri.ret ?_
                exact ⟨rfl, rfl, rfl, rfl, trivial⟩
            · refine Tri.skip ?_
              refine Tri.reg hT ?_
              refine TriL.go (Tri.le (S := ⟨186, 3, 500, [(0, .loc 0 0), (7, .loc 0 35), (8, .loc 0 18), (13, .own 151 (tkE 2 1 s t q k f x).length), (166, .own 406 2), (167, .int .i64 2), (168, .int .i64 1)], [(0, .box (cnC (3 + b01 (endedS (tkS s q f x))) g (tkH p s q f o x) (.loc 1 0) (.loc 2 0))), (1, .box (bxS (tkT t k))), (2, .box (bxS (tkS s q f x))), (406, .ext (boxS [.loc 0 35, .loc 0 18])), (151, .arr evT (tkE 2 1 s t q k f x))], G⟩) (Le.weak rfl rfl rfl rfl ⟨rfl, rfl, rfl, rfl, rfl, rfl, rfl, trivial⟩ ⟨congrArg (fun z => some (Chunk.box (cnC z g (tkH p s q f o x) (.loc 1 0) (.loc 2 0)))) (show (3 : Int) = 3 + b01 (endedS (tkS s q f x)) from by rw [e0]; rfl), rfl, rfl, rfl, rfl, trivial⟩) ?_)
              refine Tri.seq (Tri.reg hT ?_)
              refine Tri.seq (Tri.cond ⟨fun h => ?_, fun h => absurd h (by decide)⟩)
              refine Tri.skip ?_
              refine Tri.seq (Tri.block ?_)
              refine Tri.seq (Tri.regM hT [0, 1] ?_)
              refine ⟨_, Le.refl _, .inl (.inr (OpTri.idxS hT rfl rfl rfl rfl rfl rfl ⟨trivial, rfl⟩ ⟨trivial, rfl⟩ rfl (by decide) ?_))⟩
              refine ⟨_, Le.refl _, .inl (.inr (OpTri.loadS hT rfl rfl ⟨trivial, rfl⟩ rfl ?_))⟩
              refine Tri.seq (Tri.reg hT ?_)
              refine .inl (.inr (.inl ⟨_, _, (by exact ⟨rfl, trivial⟩), (CSpec.gw (f41_spec (tkT t k) 1)), (by rfl), ?_⟩))
              refine Tri.cond ⟨fun e1 => ?_, fun e1 => ?_⟩
              · refine Tri.reg hT ?_
                refine Tri.reg hT ?_
                refine TriL.go (Tri.le (S := ⟨186, 3, 500, [(0, .loc 0 0), (7, .loc 0 35), (8, .loc 0 18), (13, .own 151 (tkE 2 1 s t q k f x).length), (166, .own 406 2), (167, .int .i64 2), (168, .int .i64 2)], [(0, .box (cnC (stM (tkS s q f x) (tkT t k)) g (tkH p s q f o x) (.loc 1 0) (.loc 2 0))), (1, .box (bxS (tkT t k))), (2, .box (bxS (tkS s q f x))), (406, .ext (boxS [.loc 0 35, .loc 0 18])), (151, .arr evT (tkE 2 1 s t q k f x))], G⟩) (Le.weak rfl rfl rfl rfl ⟨rfl, rfl, rfl, rfl, rfl, rfl, rfl, trivial⟩ ⟨congrArg (fun z => some (Chunk.box (cnC z g (tkH p s q f o x) (.loc 1 0) (.loc 2 0)))) (by unfold stM b01; rw [e1]; cases endedS (tkS s q f x) <;> rfl), rfl, rfl, rfl, rfl, trivial⟩) ?_)
                refine Tri.seq (Tri.reg hT ?_)
                refine Tri.seq (Tri.cond ⟨fun h => absurd h (by decide), fun h => ?_⟩)
                refine Tri.exit ?_
                refine Tri.seq (Tri.reg hT ?_)
                refine Tri.le ⟨186, 3, 600, [(6, .list evT (tkE 2 1 s t q k f x))], [(0, .box (cnC (stM (tkS s q f x) (tkT t k)) g (tkH p s q f o x) (.loc 1 0) (.loc 2 0))), (1, .box (bxS (tkT t k))), (2, .box (bxS (tkS s q f x)))], G⟩ (Le.trans (Le.freeze 6 151 _ rfl rfl (Nat.le_refl _)) (Le.weak rfl rfl rfl rfl ⟨congrArg (AV.list evT) (List.take_length ..), trivial⟩ ⟨rfl, rfl, rfl, trivial⟩)) ?_
                refine Tri.ret ?_
                exact ⟨rfl, rfl, rfl, rfl, trivial⟩
              · refine Tri.skip ?_
                refine Tri.reg hT ?_
                refine TriL.go (Tri.le (S := ⟨186, 3, 500, [(0, .loc 0 0), (7, .loc 0 35), (8, .loc 0 18), (13, .own 151 (tkE 2 1 s t q k f x).length), (166, .own 406 2), (167, .int .i64 2), (168, .int .i64 2)], [(0, .box (cnC (stM (tkS s q f x) (tkT t k)) g (tkH p s q f o x) (.loc 1 0) (.loc 2 0))), (1, .box (bxS (tkT t k))), (2, .box (bxS (tkS s q f x))), (406, .ext (boxS [.loc 0 35, .loc 0 18])), (151, .arr evT (tkE 2 1 s t q k f x))], G⟩) (Le.weak rfl rfl rfl rfl ⟨rfl, rfl, rfl, rfl, rfl, rfl, rfl, trivial⟩ ⟨congrArg (fun z => some (Chunk.box (cnC z g (tkH p s q f o x) (.loc 1 0) (.loc 2 0)))) (by unfold stM b01; rw [e1]; cases endedS (tkS s q f x) <;> rfl), rfl, rfl, rfl, rfl, trivial⟩) ?_)
                refine Tri.seq (Tri.reg hT ?_)
                refine Tri.seq (Tri.cond ⟨fun h => absurd h (by decide), fun h => ?_⟩)
                refine Tri.exit ?_
                refine Tri.seq (Tri.reg hT ?_)
                refine Tri.le ⟨186, 3, 600, [(6, .list evT (tkE 2 1 s t q k f x))], [(0, .box (cnC (stM (tkS s q f x) (tkT t k)) g (tkH p s q f o x) (.loc 1 0) (.loc 2 0))), (1, .box (bxS (tkT t k))), (2, .box (bxS (tkS s q f x)))], G⟩ (Le.trans (Le.freeze 6 151 _ rfl rfl (Nat.le_refl _)) (Le.weak rfl rfl rfl rfl ⟨congrArg (AV.list evT) (List.take_length ..), trivial⟩ ⟨rfl, rfl, rfl, trivial⟩)) ?_
                refine Tri.ret ?_
                exact ⟨rfl, rfl, rfl, rfl, trivial⟩
end Go.Proofs.YtchiagnggnblaaaDoor.Ac
