import Derived.Test.YtchiagnggnblaaaDoorCnH
set_option linter.all false
/- Chapter 21: a segment of an open connection to the client (printed by swap.py). -/
namespace Go.Proofs.YtchiagnggnblaaaDoor.Ac
open Go Go.Fw Go.Ov Go.Proofs.YtchiagnggnblaaaDoor.Fx
set_option maxRecDepth 16000 in
theorem f22_h2 (st : Int) (p g : Hf) (s t : SS) (B : Int) (is : SInv s B) (it : SInv t B) (hB : B ≤ 1099511600000) (a b q k f w u : Int) (o : List optT.D) (x : List UInt8) (ho : o.length < 9223372036854775807) (hx : x.length ≤ 1000000) :
    HSpec P G 22 [.loc 0 0, .int .i64 2, tcpV a b q k f w u o x] (cnH st g p t s) (.list evT (prM 2 1 st p g s t q k f o x).1)
      [(0, .box (cnC (prM 2 1 st p g s t q k f o x).2.1 g (prM 2 1 st p g s t q k f o x).2.2.1 (.loc 1 0) (.loc 2 0))), (1, .box (bxS (prM 2 1 st p g s t q k f o x).2.2.2.2)), (2, .box (bxS (prM 2 1 st p g s t q k f o x).2.2.2.1))] := by
  generalize hz : prM 2 1 st p g s t q k f o x = z; refine fspec_intro hT (cnH st g p t s) [(0, .box (cnC z.2.1 g z.2.2.1 (.loc 1 0) (.loc 2 0))), (1, .box (bxS z.2.2.2.2)), (2, .box (bxS z.2.2.2.1))] 3 3 Tryd.func22 (by decide) rfl rfl (by kernel_rfl) rfl rfl ?_
  refine Tri.seq (Tri.reg hT ?_)
  refine Tri.seq ?_
  refine Tri.seq (Tri.drw hT hm 12 (by kernel_rfl) ?_)
  refine .inr (.inl ⟨_, _, (by exact ⟨rfl, rfl, rfl, trivial⟩), (CSpec.ofH (u := [(0, cnC st g p (.loc 1 0) (.loc 2 0), none), (1, bxS t, none), (2, bxS s, none)]) (f27_h2 st g p t s)), (by rfl), ?_⟩)
  refine ⟨(by first | ((try simp only [decide_eq_true_eq, decide_eq_false_iff_not, toNat_cast] at *); omega) | decide), ?_⟩
  refine .inl ⟨_, fun _ => rfl, f29_spec a b q k f w u o x true (nextS s) g.high p.win (p.stamped && g.stamped) (if (p.stamped && g.stamped) = true then p.stamp else 0) _ _ _ _ _ _ _ _ _ p.stamps _ _ ho, ?_⟩
  refine ⟨by kernel_rfl, ?_⟩
  refine Tri.seq (Tri.reg hT ?_)
  refine (Tri.cond ⟨fun h1 => ?_, fun h1 => ?_⟩)
  · refine Tri.seq (Tri.reg hT ?_)
    refine .inl (.inr (.inl ⟨_, _, (by exact ⟨rfl, rfl, rfl, trivial⟩), (CSpec.ofH (u := [(0, cnC st g p (.loc 1 0) (.loc 2 0), none), (1, bxS t, none), (2, bxS s, none)]) (f20_h2 st g p t s (rsnM p g s q k f o x))), (by rfl), ?_⟩))
    refine Tri.ret ?_
    have e := (if_pos (of_decide_eq_true h1)).symm.trans hz; exact ⟨congrArg (fun z : List Evt × Int × Hf × SS × SS => AV.list evT z.1) e, congrArg (fun z : List Evt × Int × Hf × SS × SS => some (Chunk.box (cnC z.2.1 g z.2.2.1 (.loc 1 0) (.loc 2 0)))) e, congrArg (fun z : List Evt × Int × Hf × SS × SS => some (Chunk.box (bxS z.2.2.2.2))) e, congrArg (fun z : List Evt × Int × Hf × SS × SS => some (Chunk.box (bxS z.2.2.2.1))) e, trivial⟩
  · refine (Tri.skip ?_)
    refine Tri.seq ?_
    refine Tri.seq (Tri.reg hT ?_)
    refine (Tri.cond ⟨fun h2 => ?_, fun h2 => ?_⟩)
    · refine Tri.seq (Tri.reg hT ?_)
      refine Tri.seq (Tri.reg hT ?_)
      refine .inl (.inr (.inl ⟨_, _, (by exact ⟨rfl, rfl, rfl, trivial⟩), (CSpec.ofH (u := [(0, cnC 6 g p (.loc 1 0) (.loc 2 0), none), (1, bxS t, none), (2, bxS s, none)]) (f28_h2 6 g p t s 5 0)), (by rfl), ?_⟩))
      refine Tri.le _ (Le.freeze 6 31 1 rfl rfl (Nat.le_refl 1)) ?_
      refine Tri.ret ?_
      have e := ((if_neg (of_decide_eq_false h1)).trans (if_pos (of_decide_eq_true h2))).symm.trans hz; exact ⟨congrArg (fun z : List Evt × Int × Hf × SS × SS => AV.list evT z.1) e, congrArg (fun z : List Evt × Int × Hf × SS × SS => some (Chunk.box (cnC z.2.1 g z.2.2.1 (.loc 1 0) (.loc 2 0)))) e, congrArg (fun z : List Evt × Int × Hf × SS × SS => some (Chunk.box (bxS z.2.2.2.2))) e, congrArg (fun z : List Evt × Int × Hf × SS × SS => some (Chunk.box (bxS z.2.2.2.1))) e, trivial⟩
    · refine (Tri.skip ?_)
      refine Tri.seq (Tri.reg hT ?_)
      refine .inl (.inr (.inl ⟨_, _, (by exact ⟨rfl, rfl, rfl, trivial⟩), (CSpec.ofH (u := [(0, cnC st g p (.loc 1 0) (.loc 2 0), some (cnC (stM (tkS s q f x) (tkT t k)) g (tkH p s q f o x) (.loc 1 0) (.loc 2 0))), (1, bxS t, some (bxS (tkT t k))), (2, bxS s, some (bxS (tkS s q f x)))]) (f30_h2 st p g s t B is it hB a b q k f w u o x ho hx)), (by rfl), ?_⟩))
      refine Tri.ret ?_
      have e := ((if_neg (of_decide_eq_false h1)).trans (if_neg (of_decide_eq_false h2))).symm.trans hz; exact ⟨congrArg (fun z : List Evt × Int × Hf × SS × SS => AV.list evT z.1) e, congrArg (fun z : List Evt × Int × Hf × SS × SS => some (Chunk.box (cnC z.2.1 g z.2.2.1 (.loc 1 0) (.loc 2 0)))) e, congrArg (fun z : List Evt × Int × Hf × SS × SS => some (Chunk.box (bxS z.2.2.2.2))) e, congrArg (fun z : List Evt × Int × Hf × SS × SS => some (Chunk.box (bxS z.2.2.2.1))) e, trivial⟩
end Go.Proofs.YtchiagnggnblaaaDoor.Ac
