import Derived.Test.YtchiagnggnblaaaDoorStT
import Derived.Test.YtchiagnggnblaaaDoorGSt1
set_option linter.all false
/- Contracts of chapter 20: the program's End and Lost. -/
namespace Go.Proofs.YtchiagnggnblaaaDoor.Fx
open Go Go.Fw Go.Ov
set_option maxRecDepth 8000 in
theorem f42_spec (s : SS) (B : Int) (h : SInv s B) (hB : B ≤ 1099511627776) (seq : Int) (id : Nat) :
    CSpec P [] 42 [.loc id 0, .int .u32 seq] (oneU id (bxS s) (some (bxS (endS s seq).2))) (.bool (endS s seq).1) := by
  have hp0 := h.pos0
  have hpB := h.posB
  have hw := h.win
  have hlen := h.len
  have hr := sdiff_rng seq (IntKind.u32.wrap (s.first + IntKind.u32.wrap s.pos))
  have hat : offS s seq = s.pos + sdiff seq (IntKind.u32.wrap (s.first + IntKind.u32.wrap s.pos)) := rfl
  have w2 : IntKind.i64.wrap (s.pos + s.win) = s.pos + s.win := wrapId (by omega)
  refine cspec_intro hT Tryd.func42 (by decide) rfl rfl (by kernel_rfl) rfl (fun _ => rfl) (fun _ => rfl) (fun _ => rfl) (fun _ => rfl) ?_ id
  refine Tri.seq (Tri.reg hT ?_)
  refine Tri.seq ?_
  refine Tri.seq (Tri.reg hT ?_)
  refine ⟨_, [], trivial, rfl, rfl, fun h => ⟨rfl, rfl, rfl⟩, ?_⟩
  refine ⟨_, [], trivial, rfl, rfl, fun h => ⟨h, rfl, rfl, rfl⟩, ?_⟩
  refine ⟨_, [], trivial, rfl, rfl, fun h => ⟨h, rfl, rfl, rfl⟩, ?_⟩
  refine ⟨_, [], trivial, rfl, rfl, fun h => ⟨h, rfl, rfl, rfl⟩, ?_⟩
  refine ⟨_, [], trivial, rfl, rfl, fun h => ⟨h, rfl, rfl, rfl⟩, ?_⟩
  refine ⟨⟨fun _ => trivial, fun hc => (gn hc)⟩, ?_⟩
  refine (Tri.cond ⟨fun h1 => ?_, fun h1 => ?_⟩)
  · refine Tri.seq (Tri.reg hT ?_)
    refine Tri.ret ?_
    have e : endS s seq = (false, s) := if_pos (of_decide_eq_true (show decide (s.end_ ≠ -1) = true from h1)); exact ⟨congrArg (fun z : Bool × SS => AV.bool z.1) e.symm, congrArg (fun z : Bool × SS => some (Chunk.box (bxS z.2))) e.symm, trivial⟩
  · refine (Tri.skip ?_)
    refine Tri.seq (Tri.reg hT ?_)
    refine .inl (.inr (.inl ⟨_, _, (by exact ⟨rfl, trivial⟩), f49_spec s seq hp0 (by omega) _, (by rfl), ?_⟩))
    refine Tri.seq ?_
    refine Tri.seq (Tri.drw hT hm 21 (by kernel_rfl) ?_)
    refine ⟨_, [], trivial, rfl, rfl, fun h => ⟨rfl, rfl, rfl⟩, ?_⟩
    refine ⟨_, [], trivial, rfl, rfl, fun h => ⟨rfl, rfl, rfl⟩, ?_⟩
    refine ⟨_, [], trivial, rfl, rfl, fun h => ⟨h, rfl, rfl, rfl⟩, ?_⟩
    refine ⟨_, [], trivial, rfl, rfl, fun h => ⟨h, rfl, rfl, rfl⟩, ?_⟩
    refine ⟨_, [], trivial, rfl, rfl, fun h => ⟨h, rfl, rfl, rfl⟩, ?_⟩
    refine ⟨_, [], trivial, rfl, rfl, fun h => ⟨h, rfl, rfl, rfl⟩, ?_⟩
    refine ⟨_, [], trivial, rfl, rfl, fun h => ⟨rfl, rfl, rfl⟩, ?_⟩
    refine ⟨_, [], trivial, rfl, rfl, fun h => ⟨h, rfl, rfl, rfl⟩, ?_⟩
    refine ⟨_, [], trivial, rfl, rfl, fun h => ⟨h, rfl, rfl, rfl⟩, ?_⟩
    refine ⟨_, [], trivial, rfl, rfl, fun h => ⟨h, rfl, rfl, rfl⟩, ?_⟩
    refine ⟨_, [], trivial, rfl, rfl, fun h => ⟨h, h, rfl, rfl, rfl⟩, ?_⟩
    refine ⟨_, [], trivial, rfl, rfl, fun h => ⟨h, h, rfl, rfl, rfl⟩, ?_⟩
    refine ⟨⟨fun _ => trivial, fun hc => (gn hc)⟩, ?_⟩
    refine ⟨by kernel_rfl, ?_⟩
    refine (Tri.cond ⟨fun h2 => ?_, fun h2 => ?_⟩)
    · refine Tri.seq (Tri.reg hT ?_)
      refine Tri.ret ?_
      have h1' := of_decide_eq_false (show decide (s.end_ ≠ -1) = false from h1); rw [w2] at h2; have e : endS s seq = (false, s) := (if_neg h1').trans (if_pos (by simpa using h2)); exact ⟨congrArg (fun z : Bool × SS => AV.bool z.1) e.symm, congrArg (fun z : Bool × SS => some (Chunk.box (bxS z.2))) e.symm, trivial⟩
    · refine (Tri.skip ?_)
      refine Tri.seq (Tri.reg hT ?_)
      refine Tri.seq (Tri.reg hT ?_)
      refine Tri.seq ?_
      refine Tri.seq (Tri.reg hT ?_)
      refine (Tri.block ?_)
      refine (Tri.loop (ι := Nat) (fun i => ⟨82, 1, 50, [(0, .loc 0 0), (5, .int .i64 (offS s seq)), (6, .own 49 ((s.l.take i).map (truncP (offS s seq))).length), (50, .list pT s.l), (51, .int .i64 s.l.length), (52, .int .i64 (i : Int))], [(0, .box (bxS { s with end_ := offS s seq })), (49, .arr pT ((s.l.take i).map (truncP (offS s seq))))], []⟩) (fun i => i ≤ s.l.length ∧ ∀ j, j < i → pa (s.l.getD j (Ty.dflt pT)) < offS s seq) (fun i => s.l.length - i) (0) ?_ ?_ ?_)
      · exact ⟨Nat.zero_le _, fun j hj => by omega⟩
      · exact Le.trans (Le.own 6 pT rfl) (Le.weak rfl rfl rfl rfl ⟨(by first | rfl | exact iv1 (by (try simp only [decide_eq_true_eq, decide_eq_false_iff_not, toNat_cast] at *); omega)), (by first | rfl | exact iv1 (by (try simp only [decide_eq_true_eq, decide_eq_false_iff_not, toNat_cast] at *); omega)), (by first | rfl | exact iv1 (by (try simp only [decide_eq_true_eq, decide_eq_false_iff_not, toNat_cast] at *); omega)), (by first | rfl | exact iv1 (by (try simp only [decide_eq_true_eq, decide_eq_false_iff_not, toNat_cast] at *); omega)), (by first | rfl | exact iv1 (by (try simp only [decide_eq_true_eq, decide_eq_false_iff_not, toNat_cast] at *); omega)), (by first | rfl | exact iv1 (by (try simp only [decide_eq_true_eq, decide_eq_false_iff_not, toNat_cast] at *); omega)), trivial⟩ ⟨rfl, rfl, trivial⟩)
      · intro i hi
        refine Tri.seq (Tri.reg hT ?_)
        refine Tri.seq (Tri.cond ⟨fun h3 => ?_, fun h3 => ?_⟩)
        · refine (Tri.skip ?_)
          refine Tri.seq (Tri.block ?_)
          have hi' := i_lt h3; have hb := vInB h.v hi'; have hlen2 := hb.len; have hpa := hb.1; have hml : ((s.l.take i).map (truncP (offS s seq))).length = i := (by rw [List.length_map, List.length_take]; omega)
          refine Tri.seq (Tri.reg hT ?_)
          refine ⟨(by first | ((try simp only [decide_eq_true_eq, decide_eq_false_iff_not, toNat_cast] at *); omega) | decide), ?_⟩
          refine Tri.seq ?_
          refine Tri.seq (Tri.reg hT ?_)
          refine (Tri.cond ⟨fun h4 => ?_, fun h4 => ?_⟩)
          · refine Tri.exit ?_
            have e : (s.l.take i).map (truncP (offS s seq)) = keptL s.l (offS s seq) := (keptL_eq hi.1 hi.2 (by first | exact .inr (by have h9 : pa (s.l.getD i (Ty.dflt pT)) ≥ offS s seq := of_decide_eq_true h4; omega) | exact .inl (by have := of_decide_eq_false h3; have := hi.1; omega))).symm
            refine Tri.le (⟨82, 1, 60, [(0, .loc 0 0), (6, .list pT (keptL s.l (offS s seq)))], [(0, .box (bxS { s with end_ := offS s seq }))], []⟩) (Le.trans (Le.freeze 6 _ _ rfl rfl (Nat.le_refl _)) (Le.weak rfl rfl rfl rfl ⟨(by first | rfl | exact iv1 (by (try simp only [decide_eq_true_eq, decide_eq_false_iff_not, toNat_cast] at *); omega)), congrArg (AV.list pT) ((List.take_length ..).trans e), trivial⟩ ⟨rfl, trivial⟩)) ?_
            refine Tri.seq (Tri.reg hT ?_)
            refine Tri.seq (Tri.reg hT ?_)
            refine Tri.ret ?_
            have h1' := of_decide_eq_false (show decide (s.end_ ≠ -1) = false from h1); rw [w2] at h2; have e : endS s seq = (true, { s with end_ := offS s seq, l := keptL s.l (offS s seq) }) := (if_neg h1').trans (if_neg (by intro hh; simp at h2; omega)); exact ⟨congrArg (fun z : Bool × SS => AV.bool z.1) e.symm, congrArg (fun z : Bool × SS => some (Chunk.box (bxS z.2))) e.symm, trivial⟩
          · refine (Tri.skip ?_)
            have h4' : ¬ pa (s.l.getD i (Ty.dflt pT)) ≥ offS s seq := of_decide_eq_false h4; have w3 : IntKind.i64.wrap (offS s seq - (s.l.getD i (Ty.dflt pT)).1) = offS s seq - pa (s.l.getD i (Ty.dflt pT)) := wrapId (by have : pa (s.l.getD i (Ty.dflt pT)) = (s.l.getD i (Ty.dflt pT)).1 := rfl; omega)
            refine Tri.seq (Tri.reg hT ?_)
            refine ⟨by rw [toNat_cast, w3]; show 0 ≤ 0 ∧ 0 ≤ min ((pd (s.l.getD i (Ty.dflt pT))).length : Int) (offS s seq - pa (s.l.getD i (Ty.dflt pT))) ∧ min ((pd (s.l.getD i (Ty.dflt pT))).length : Int) (offS s seq - pa (s.l.getD i (Ty.dflt pT))) ≤ ((pd (s.l.getD i (Ty.dflt pT))).length : Int); omega, ?_⟩
            have e := map_next (truncP (offS s seq)) (Ty.dflt pT) hi'; have e2 : truncP (offS s seq) (s.l.getD i (Ty.dflt pT)) = ((s.l.getD i (Ty.dflt pT)).1, List.drop (Int.toNat 0) ((s.l.getD i (Ty.dflt pT)).2.1.take (min ((s.l.getD i (Ty.dflt pT)).2.1.length : Int) (IntKind.i64.wrap (offS s seq - (s.l.getD i (Ty.dflt pT)).1))).toNat), (s.l.getD i (Ty.dflt pT)).2.2.1, (s.l.getD i (Ty.dflt pT)).2.2.2.1, ()) := (by rw [w3]; rfl); rw [e2] at e
            refine (Tri.reg hT ?_)
            refine ⟨(Nat.le_refl _), (by show _ ≤ _ ∧ (_ + 1) * _ ≤ _ ∧ _ + 1 ≤ _; dsimp only; (try simp only [decide_eq_true_eq, decide_eq_false_iff_not, toNat_cast] at *); omega), ?_⟩
            refine (Tri.reg hT ?_)
            exact ⟨i + 1, ⟨hi', fun j hj => by rcases Nat.lt_or_ge j i with h9 | h9; exact hi.2 j h9; obtain rfl : j = i := (by omega); omega⟩, by (try simp only [decide_eq_true_eq, decide_eq_false_iff_not, toNat_cast] at *); omega, Le.weak rfl rfl rfl rfl ⟨(by first | rfl | exact iv1 (by (try simp only [decide_eq_true_eq, decide_eq_false_iff_not, toNat_cast] at *); omega)), (by first | rfl | exact iv1 (by (try simp only [decide_eq_true_eq, decide_eq_false_iff_not, toNat_cast] at *); omega)), congrArg (AV.own 49) (by rw [e]; exact List.length_append.symm), (by first | rfl | exact iv1 (by (try simp only [decide_eq_true_eq, decide_eq_false_iff_not, toNat_cast] at *); omega)), (by first | rfl | exact iv1 (by (try simp only [decide_eq_true_eq, decide_eq_false_iff_not, toNat_cast] at *); omega)), (by first | rfl | exact iv1 (by (try simp only [decide_eq_true_eq, decide_eq_false_iff_not, toNat_cast] at *); omega)), trivial⟩ ⟨rfl, congrArg (fun l => some (Chunk.arr _ l)) (by rw [e]; first | rfl | (rw [List.take_length]; rfl)), trivial⟩⟩
        · refine Tri.exit ?_
          have e : (s.l.take i).map (truncP (offS s seq)) = keptL s.l (offS s seq) := (keptL_eq hi.1 hi.2 (by first | exact .inr (by have h9 : pa (s.l.getD i (Ty.dflt pT)) ≥ offS s seq := of_decide_eq_true h4; omega) | exact .inl (by have := of_decide_eq_false h3; have := hi.1; omega))).symm
          refine Tri.le (⟨82, 1, 60, [(0, .loc 0 0), (6, .list pT (keptL s.l (offS s seq)))], [(0, .box (bxS { s with end_ := offS s seq }))], []⟩) (Le.trans (Le.freeze 6 _ _ rfl rfl (Nat.le_refl _)) (Le.weak rfl rfl rfl rfl ⟨(by first | rfl | exact iv1 (by (try simp only [decide_eq_true_eq, decide_eq_false_iff_not, toNat_cast] at *); omega)), congrArg (AV.list pT) ((List.take_length ..).trans e), trivial⟩ ⟨rfl, trivial⟩)) ?_
          refine Tri.seq (Tri.reg hT ?_)
          refine Tri.seq (Tri.reg hT ?_)
          refine Tri.ret ?_
          have h1' := of_decide_eq_false (show decide (s.end_ ≠ -1) = false from h1); rw [w2] at h2; have e : endS s seq = (true, { s with end_ := offS s seq, l := keptL s.l (offS s seq) }) := (if_neg h1').trans (if_neg (by intro hh; simp at h2; omega)); exact ⟨congrArg (fun z : Bool × SS => AV.bool z.1) e.symm, congrArg (fun z : Bool × SS => some (Chunk.box (bxS z.2))) e.symm, trivial⟩
abbrev lostAV (r : (Int × List UInt8) × SS) : AV := .tup [.int .i64 r.1.1, .str r.1.2]
set_option maxRecDepth 8000 in
theorem f44_spec (s : SS) (B : Int) (h : SInv s B) (hB : B ≤ 1099511618000) (seq : Int) (id : Nat) :
    CSpec P [] 44 [.loc id 0, .int .u32 seq] (oneU id (bxS s) (some (bxS (lostS s seq).2))) (lostAV (lostS s seq)) := by
  have hp0 := h.pos0
  have hpB := h.posB
  have hw := h.win
  have hr := sdiff_rng seq (IntKind.u32.wrap (s.first + IntKind.u32.wrap s.pos))
  have hat : offS s seq = s.pos + sdiff seq (IntKind.u32.wrap (s.first + IntKind.u32.wrap s.pos)) := rfl
  have w2 : IntKind.i64.wrap (s.pos + s.win) = s.pos + s.win := wrapId (by omega)
  have hlm := limS_ok s seq
  refine cspec_intro hT Tryd.func44 (by decide) rfl rfl (by kernel_rfl) rfl (fun _ => rfl) (fun _ => rfl) (fun _ => rfl) (fun _ => rfl) ?_ id
  refine Tri.seq (Tri.reg hT ?_)
  refine Tri.seq ?_
  refine Tri.seq (Tri.reg hT ?_)
  refine (Tri.cond ⟨fun h1 => ?_, fun h1 => ?_⟩)
  · cases h1
  · refine (Tri.skip ?_)
    refine Tri.seq (Tri.drw hT hm 14 (by kernel_rfl) ?_)
    refine .inr (.inl ⟨_, _, (by exact ⟨rfl, trivial⟩), f49_spec s seq hp0 (by omega) _, (by rfl), ?_⟩)
    refine ⟨by kernel_rfl, ?_⟩
    refine Tri.join (True) (⟨82, 1, 60, [(0, .loc 0 0), (4, .int .i64 0), (5, .str []), (6, .int .i64 (limS s seq))], [(0, .box (bxS s))], []⟩) ?_ fun hp2 => ?_
    · refine Tri.seq (Tri.reg hT ?_)
      refine (Tri.cond ⟨fun h2 => ?_, fun h2 => ?_⟩)
      · refine (Tri.reg hT ?_)
        exact ⟨trivial, Le.weak rfl rfl rfl rfl ⟨(by first | rfl | exact iv1 (by (try simp only [decide_eq_true_eq, decide_eq_false_iff_not, toNat_cast] at *); omega)), (by first | rfl | exact iv1 (by (try simp only [decide_eq_true_eq, decide_eq_false_iff_not, toNat_cast] at *); omega)), (by first | rfl | exact iv1 (by (try simp only [decide_eq_true_eq, decide_eq_false_iff_not, toNat_cast] at *); omega)), congrArg (AV.int .i64) (by rw [w2]; exact (if_pos (of_decide_eq_true h2)).symm), trivial⟩ ⟨rfl, trivial⟩⟩
      · refine (Tri.skip ?_)
        exact ⟨trivial, Le.weak rfl rfl rfl rfl ⟨(by first | rfl | exact iv1 (by (try simp only [decide_eq_true_eq, decide_eq_false_iff_not, toNat_cast] at *); omega)), (by first | rfl | exact iv1 (by (try simp only [decide_eq_true_eq, decide_eq_false_iff_not, toNat_cast] at *); omega)), (by first | rfl | exact iv1 (by (try simp only [decide_eq_true_eq, decide_eq_false_iff_not, toNat_cast] at *); omega)), congrArg (AV.int .i64) (by rw [w2]; exact (if_neg (of_decide_eq_false h2)).symm), trivial⟩ ⟨rfl, trivial⟩⟩
    · refine Tri.seq (Tri.block ?_)
      refine (Tri.loop (ι := SS × Int × List UInt8) (fun x => ⟨82, 1, 60, [(0, .loc 0 0), (4, .int .i64 x.2.1), (5, .str x.2.2), (6, .int .i64 (limS s seq))], [(0, .box (bxS x.1))], []⟩) (fun x => LInv s B x ∧ lostL (limS s seq - x.1.pos).toNat (limS s seq) x = lostL (limS s seq - s.pos).toNat (limS s seq) (s, 0, [])) (fun x => (limS s seq - x.1.pos).toNat) ((s, 0, [])) ?_ ?_ ?_)
      · exact ⟨linv_start h, rfl⟩
      · exact Le.weak rfl rfl rfl rfl ⟨(by first | rfl | exact iv1 (by (try simp only [decide_eq_true_eq, decide_eq_false_iff_not, toNat_cast] at *); omega)), (by first | rfl | exact iv1 (by (try simp only [decide_eq_true_eq, decide_eq_false_iff_not, toNat_cast] at *); omega)), (by first | rfl | exact iv1 (by (try simp only [decide_eq_true_eq, decide_eq_false_iff_not, toNat_cast] at *); omega)), (by first | rfl | exact iv1 (by (try simp only [decide_eq_true_eq, decide_eq_false_iff_not, toNat_cast] at *); omega)), trivial⟩ ⟨rfl, trivial⟩
      · intro x hi; obtain ⟨hi, hx⟩ := hi
        refine Tri.seq ?_
        refine Tri.seq (Tri.reg hT ?_)
        refine (Tri.cond ⟨fun h3 => ?_, fun h3 => ?_⟩)
        · refine (Tri.skip ?_)
          refine (Tri.block ?_)
          refine Tri.seq (Tri.reg hT ?_)
          refine Tri.join (True) (⟨82, 1, 60, [(0, .loc 0 0), (4, .int .i64 x.2.1), (5, .str x.2.2), (6, .int .i64 (limS s seq)), (7, .int .i64 (lostTo x.1 (limS s seq)))], [(0, .box (bxS x.1))], []⟩) ?_ fun hp4 => ?_
          · refine Tri.seq (Tri.reg hT ?_)
            refine (Tri.cond ⟨fun h4 => ?_, fun h4 => ?_⟩)
            · refine (Tri.reg hT ?_)
              refine ⟨by have := of_decide_eq_true h4; omega, ?_⟩
              exact ⟨trivial, Le.weak rfl rfl rfl rfl ⟨(by first | rfl | exact iv1 (by (try simp only [decide_eq_true_eq, decide_eq_false_iff_not, toNat_cast] at *); omega)), (by first | rfl | exact iv1 (by (try simp only [decide_eq_true_eq, decide_eq_false_iff_not, toNat_cast] at *); omega)), (by first | rfl | exact iv1 (by (try simp only [decide_eq_true_eq, decide_eq_false_iff_not, toNat_cast] at *); omega)), (by first | rfl | exact iv1 (by (try simp only [decide_eq_true_eq, decide_eq_false_iff_not, toNat_cast] at *); omega)), congrArg (AV.int .i64) (lostTo_ne (of_decide_eq_true h4)).symm, trivial⟩ ⟨rfl, trivial⟩⟩
            · refine (Tri.skip ?_)
              exact ⟨trivial, Le.weak rfl rfl rfl rfl ⟨(by first | rfl | exact iv1 (by (try simp only [decide_eq_true_eq, decide_eq_false_iff_not, toNat_cast] at *); omega)), (by first | rfl | exact iv1 (by (try simp only [decide_eq_true_eq, decide_eq_false_iff_not, toNat_cast] at *); omega)), (by first | rfl | exact iv1 (by (try simp only [decide_eq_true_eq, decide_eq_false_iff_not, toNat_cast] at *); omega)), (by first | rfl | exact iv1 (by (try simp only [decide_eq_true_eq, decide_eq_false_iff_not, toNat_cast] at *); omega)), congrArg (AV.int .i64) (lostTo_nil (of_decide_eq_false h4)).symm, trivial⟩ ⟨rfl, trivial⟩⟩
          · have h3' := of_decide_eq_true h3; have kn := lost_next hpB hw.2 hi h3' hlm.1 hlm.2; have kt := lostTo_rng hi.inv h3'; have kz := hi.inv.size; have kw := hi.win; have kp := hi.inv.pos0; have kq := hi.inv.posB; have kl := hi.inv.len; have kn3 := kn.1.sum; have w5 : IntKind.i64.wrap (lostTo x.1 (limS s seq) - x.1.pos) = lostTo x.1 (limS s seq) - x.1.pos := wrapId (by omega); have w6 : IntKind.i64.wrap (x.2.1 + (lostTo x.1 (limS s seq) - x.1.pos)) = x.2.1 + (lostTo x.1 (limS s seq) - x.1.pos) := wrapId (by have := hi.sum; omega)
            refine Tri.seq (Tri.reg hT ?_)
            refine Tri.seq (Tri.reg hT ?_)
            refine (Tri.reg hT ?_)
            refine .inl (.inr (.inl ⟨_, _, (by exact ⟨rfl, trivial⟩), f51_spec { x.1 with pos := lostTo x.1 (limS s seq) } (by show x.1.l.length ≤ _; omega) hi.inv.v (by show lenSum x.1.l ≤ _; omega) (by show 0 ≤ lostTo x.1 (limS s seq); omega) (by show lostTo x.1 (limS s seq) ≤ _; omega) _, (by rfl), ?_⟩))
            refine ⟨by have a1 := kn.1.sum; have a2 := kn.1.top; have a3 : ((lostStep (limS s seq) x).2.2.length : Int) = (x.2.2.length + (takeF x.1.l (lostTo x.1 (limS s seq))).1.length : Nat) := congrArg Nat.cast (List.length_append ..); show x.2.2.length + (takeF x.1.l (lostTo x.1 (limS s seq))).1.length ≤ _; omega, ?_⟩
            exact ⟨lostStep (limS s seq) x, ⟨kn.1, (lostL_next hpB hw.2 hlm.1 hlm.2 hi h3').symm.trans hx⟩, (by have := kn.2; omega), Le.weak rfl rfl rfl rfl ⟨(by first | rfl | exact iv1 (by (try simp only [decide_eq_true_eq, decide_eq_false_iff_not, toNat_cast] at *); omega)), congrArg (AV.int .i64) (by rw [w5, w6]; rfl), (by first | rfl | exact iv1 (by (try simp only [decide_eq_true_eq, decide_eq_false_iff_not, toNat_cast] at *); omega)), (by first | rfl | exact iv1 (by (try simp only [decide_eq_true_eq, decide_eq_false_iff_not, toNat_cast] at *); omega)), trivial⟩ ⟨rfl, trivial⟩⟩
        · refine Tri.exit ?_
          refine Tri.seq (Tri.reg hT ?_)
          refine Tri.ret ?_
          have e : lostS s seq = ((x.2.1, x.2.2), x.1) := (by have e2 := lostL_end (of_decide_eq_false h3); rw [hx] at e2; unfold lostS; simp only [e2]); exact ⟨congrArg lostAV e.symm, congrArg (fun z : (Int × List UInt8) × SS => some (Chunk.box (bxS z.2))) e.symm, trivial⟩
end Go.Proofs.YtchiagnggnblaaaDoor.Fx
