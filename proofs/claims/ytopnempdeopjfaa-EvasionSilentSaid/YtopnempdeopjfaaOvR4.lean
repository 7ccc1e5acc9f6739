import Derived.Test.YtopnempdeopjfaaOvR3
set_option linter.all false
/- Contracts of chapter 15: the reference's Insert. -/
namespace Go.Proofs.Ytopnempdeopjfaa.Fx
open Go Go.Fw Go.Ov
theorem f75' {c : List Cl} {a a' : Int} (h : a' = a) (hl : c.length ≤ 4611686018427387904) : PSpec P [] 75 [.list cT c, .int .i64 a'] (.int .i64 (atI c a 0)) := by
  rw [h]; exact f75_spec c a hl
theorem f79' {c : List Cl} {x x' : Cl} (h : x' = x) (hl : c.length ≤ 1099511627776) : PSpec P [] 79 [.list cT c, cv x'] (.list cT (putC x c)) := by
  rw [h]; exact f79_spec c x hl
abbrev RS (l : List Pc) (p : Pc) (pol : Int) (k : Nat) : St :=
  ⟨153, 0, 46, [(0, .list pT l), (2, .int .i64 pol), (4, .loc 0 0), (9, .list cT (cells l)), (10, .loc 39 0), (11, .int .i64 (covN l p k : Nat)), (12, .int .i64 (conN l p k : Nat)), (13, .list cT (mrg (cells l) pol (newP p) k)), (14, .int .i64 (k : Int))],
    [(0, .box [.int .i64 (pa p), .str (pd p), .int .i64 (pf p), .int .i64 (pt p)]), (39, .box [.int .i64 (pa p), .str (pd p), .int .i64 (pa p), .int .i64 (endP p)])], []⟩
abbrev RM (l : List Pc) (p : Pc) (pol : Int) (k : Nat) : St :=
  ⟨153, 0, 65, [(0, .list pT l), (2, .int .i64 pol), (4, .loc 0 0), (9, .list cT (cells l)), (10, .loc 39 0), (11, .int .i64 (covN l p (k + 1) : Nat)), (12, .int .i64 (conN l p (k + 1) : Nat)), (13, .list cT (mrg (cells l) pol (newP p) k)), (14, .int .i64 (k : Int)), (15, .loc 64 0), (16, .int .i64 (atI (cells l) (pa p + k) 0))],
    [(0, .box [.int .i64 (pa p), .str (pd p), .int .i64 (pf p), .int .i64 (pt p)]), (39, .box [.int .i64 (pa p), .str (pd p), .int .i64 (pa p), .int .i64 (endP p)]), (64, .box [.int .i64 (newC (newP p) (pa p + k)).1, .int .u8 (newC (newP p) (pa p + k)).2.1, .int .i64 (newC (newP p) (pa p + k)).2.2.1, .int .i64 (newC (newP p) (pa p + k)).2.2.2.1])], []⟩
set_option maxRecDepth 8000 in
theorem f73_spec (l : List Pc) (p : Pc) (pol : Int) (hv : Valid l) (hl : l.length ≤ 1099511627776) (hcl : (cells l).length ≤ 68719476736) (hp : ((pd p).length : Int) ≤ 4294967296) :
    PSpec P [] 73 [.list pT l, pv p, .int .i64 pol] (.tup [.list pT (insR l p pol).1, .int .i64 (insR l p pol).2.1, .int .i64 (insR l p pol).2.2]) := by
  have hx := valid_inB hv
  have hsc := sorted_cells hv
  have hcr := cells_rng hv
  refine pspec_intro hT Try.func73 (by decide) rfl rfl (by kernel_rfl) rfl ?_
  refine Tri.seq (Tri.reg hT ?_)
  refine Tri.seq ?_
  refine Tri.seq (Tri.reg hT ?_)
  refine (Tri.cond ⟨fun h1 => ?_, fun h1 => ?_⟩)
  · refine Tri.seq (Tri.reg hT ?_)
    refine Tri.ret ?_
    exact ⟨congrArg insAV (insR_nil (l := l) (pol := pol) h1).symm, trivial⟩
  · refine (Tri.skip ?_)
    refine Tri.seq ?_
    refine Tri.seq (Tri.reg hT ?_)
    refine ⟨_, [], trivial, rfl, rfl, fun h => ⟨rfl, rfl, rfl⟩, ?_⟩
    refine ⟨_, [], trivial, rfl, rfl, fun h => ⟨h, rfl, rfl, rfl⟩, ?_⟩
    refine ⟨_, [], trivial, rfl, rfl, fun h => ⟨h, rfl, rfl, rfl⟩, ?_⟩
    refine ⟨⟨fun _ => trivial, fun hc => (gn hc)⟩, ?_⟩
    refine ⟨_, [], trivial, rfl, rfl, fun h => ⟨rfl, rfl, rfl⟩, ?_⟩
    refine ⟨_, [], trivial, rfl, rfl, fun h => ⟨h, rfl, rfl, rfl⟩, ?_⟩
    refine ⟨⟨fun _ => trivial, fun hc => (gn hc)⟩, ?_⟩
    refine ⟨_, [], trivial, rfl, rfl, fun h => ⟨rfl, rfl, rfl⟩, ?_⟩
    refine ⟨_, [], trivial, rfl, rfl, fun h => ⟨h, rfl, rfl, rfl⟩, ?_⟩
    refine ⟨⟨fun _ => trivial, fun hc => (gn hc)⟩, ?_⟩
    refine (Tri.cond ⟨fun h2 => ?_, fun h2 => ?_⟩)
    · refine Tri.seq (Tri.reg hT ?_)
      refine Tri.le ⟨153, 0, 0, [(6, .list pT []), (7, .int .i64 0), (8, .int .i64 4)], [], []⟩ (Le.weakV rfl rfl rfl rfl ⟨rfl, rfl, rfl, trivial⟩ trivial) ?_
      refine Tri.ret ?_
      exact ⟨congrArg insAV (insR_range (l := l) h1 h2).symm, trivial⟩
    · refine (Tri.skip ?_)
      refine Tri.seq (Tri.reg hT ?_)
      refine .inl (.inl ⟨_, fun _ => rfl, f67_spec l hl hx (by omega), ?_⟩)
      have hb := inB_p h2 (by omega : ((pd p).length : Int) ≤ 1099511627776); have hr := rangeB_f h2
      refine Tri.seq (Tri.reg hT ?_)
      refine Tri.seq (Tri.reg hT ?_)
      refine Tri.seq (Tri.reg hT ?_)
      refine Tri.seq ?_
      refine Tri.seq (Tri.reg hT ?_)
      refine (Tri.block ?_)
      refine (Tri.loop (ι := Nat) (fun k => RS l p pol k) (fun k => k ≤ (pd p).length) (fun k => (pd p).length - k) (0) ?_ ?_ ?_)
      · exact Nat.zero_le _
      · exact Le.weak rfl rfl rfl rfl ⟨(by first | rfl | exact iv1 (by (try simp only [decide_eq_true_eq, decide_eq_false_iff_not, toNat_cast] at *); omega)), (by first | rfl | exact iv1 (by (try simp only [decide_eq_true_eq, decide_eq_false_iff_not, toNat_cast] at *); omega)), (by first | rfl | exact iv1 (by (try simp only [decide_eq_true_eq, decide_eq_false_iff_not, toNat_cast] at *); omega)), (by first | rfl | exact iv1 (by (try simp only [decide_eq_true_eq, decide_eq_false_iff_not, toNat_cast] at *); omega)), (by first | rfl | exact iv1 (by (try simp only [decide_eq_true_eq, decide_eq_false_iff_not, toNat_cast] at *); omega)), congrArg (AV.int .i64) (by show (0 : Int) = ((cnt _ (pa p) (pa p + 0) : Nat) : Int); rw [Int.add_zero, cnt_self]; rfl), congrArg (AV.int .i64) (by show (0 : Int) = ((cnt _ (pa p) (pa p + 0) : Nat) : Int); rw [Int.add_zero, cnt_self]; rfl), congrArg (AV.list cT) (mrg_zero hsc pol (newP p)).symm, (by first | rfl | exact iv1 (by (try simp only [decide_eq_true_eq, decide_eq_false_iff_not, toNat_cast] at *); omega)), trivial⟩ ⟨rfl, congrArg (fun z : Int => some (Chunk.box [.int .i64 (pa p), .str (pd p), .int .i64 (pa p), .int .i64 z])) (wrapEnd hb), trivial⟩
      · intro k hk
        refine Tri.seq ?_
        refine Tri.seq (Tri.reg hT ?_)
        refine (Tri.cond ⟨fun h3 => ?_, fun h3 => ?_⟩)
        · refine (Tri.skip ?_)
          refine Tri.seq (Tri.block ?_)
          have hk' : k < (pd p).length := i_lt h3; have w : IntKind.i64.wrap (pa p + (k : Int)) = pa p + k := wrapId (by have : pa p = p.1 := rfl; omega); have hms := mrg_small hsc hcr hcl pol (P := newP p) ⟨by show 0 ≤ p.1; omega, by show p.1 ≤ _; omega⟩ k (by omega); have hms2 := hms.2; have c1 := conN_le l p k; have c2 := covN_le l p k
          refine Tri.seq (Tri.drw hT hm 14 (by kernel_rfl) ?_)
          refine ⟨by omega, ?_⟩
          refine ⟨by kernel_rfl, ?_⟩
          refine Tri.seq (Tri.reg hT ?_)
          refine .inl (.inl ⟨_, fun _ => rfl, f75' w (by omega), ?_⟩)
          refine Tri.seq ?_
          refine Tri.seq (Tri.reg hT ?_)
          refine (Tri.cond ⟨fun h4 => ?_, fun h4 => ?_⟩)
          · refine Tri.seq (Tri.reg hT ?_)
            refine .inl (.inl ⟨_, fun _ => rfl, f79' (newC_eq w) (by omega), ?_⟩)
            refine Tri.exit ?_
            refine (Tri.reg hT ?_)
            have hat := at_neg (of_decide_eq_true h4); have cc := covN_none hat
            exact ⟨k + 1, hk', by (try simp only [decide_eq_true_eq, decide_eq_false_iff_not, toNat_cast] at *); omega, Le.weak rfl rfl rfl rfl ⟨(by first | rfl | exact iv1 (by (try simp only [decide_eq_true_eq, decide_eq_false_iff_not, toNat_cast] at *); omega)), (by first | rfl | exact iv1 (by (try simp only [decide_eq_true_eq, decide_eq_false_iff_not, toNat_cast] at *); omega)), (by first | rfl | exact iv1 (by (try simp only [decide_eq_true_eq, decide_eq_false_iff_not, toNat_cast] at *); omega)), (by first | rfl | exact iv1 (by (try simp only [decide_eq_true_eq, decide_eq_false_iff_not, toNat_cast] at *); omega)), (by first | rfl | exact iv1 (by (try simp only [decide_eq_true_eq, decide_eq_false_iff_not, toNat_cast] at *); omega)), congrArg (fun z : Nat => AV.int .i64 (z : Int)) cc.1.symm, congrArg (fun z : Nat => AV.int .i64 (z : Int)) cc.2.symm, congrArg (AV.list cT) (ins_none hsc (P := newP p) hat), (by first | rfl | exact iv1 (by (try simp only [decide_eq_true_eq, decide_eq_false_iff_not, toNat_cast] at *); omega)), trivial⟩ ⟨rfl, rfl, trivial⟩⟩
          · refine (Tri.skip ?_)
            have hat := at_pos (of_decide_eq_false h4); have ec := covN_some hat.1; have en := conN_some hat.1; have ex := newC_eq w
            refine Tri.seq (Tri.reg hT ?_)
            refine Tri.join (True) (RM l p pol k) ?_ fun hp6 => ?_
            · refine Tri.seq (Tri.drw hT hm 8 (by kernel_rfl) ?_)
              refine ⟨⟨hat.2.1, hat.2.2⟩, ?_⟩
              refine ⟨by kernel_rfl, ?_⟩
              refine (Tri.cond ⟨fun h5 => ?_, fun h5 => ?_⟩)
              · refine (Tri.reg hT ?_)
                rw [← ex, if_pos (of_decide_eq_true h5)] at en
                exact ⟨trivial, Le.weak rfl rfl rfl rfl ⟨(by first | rfl | exact iv1 (by (try simp only [decide_eq_true_eq, decide_eq_false_iff_not, toNat_cast] at *); omega)), (by first | rfl | exact iv1 (by (try simp only [decide_eq_true_eq, decide_eq_false_iff_not, toNat_cast] at *); omega)), (by first | rfl | exact iv1 (by (try simp only [decide_eq_true_eq, decide_eq_false_iff_not, toNat_cast] at *); omega)), (by first | rfl | exact iv1 (by (try simp only [decide_eq_true_eq, decide_eq_false_iff_not, toNat_cast] at *); omega)), (by first | rfl | exact iv1 (by (try simp only [decide_eq_true_eq, decide_eq_false_iff_not, toNat_cast] at *); omega)), congrArg (AV.int .i64) (by rw [ec, wrapId (by omega)]; rfl), congrArg (AV.int .i64) (by rw [en, wrapId (by omega)]; rfl), (by first | rfl | exact iv1 (by (try simp only [decide_eq_true_eq, decide_eq_false_iff_not, toNat_cast] at *); omega)), (by first | rfl | exact iv1 (by (try simp only [decide_eq_true_eq, decide_eq_false_iff_not, toNat_cast] at *); omega)), (by first | rfl | exact iv1 (by (try simp only [decide_eq_true_eq, decide_eq_false_iff_not, toNat_cast] at *); omega)), (by first | rfl | exact iv1 (by (try simp only [decide_eq_true_eq, decide_eq_false_iff_not, toNat_cast] at *); omega)), trivial⟩ ⟨rfl, rfl, congrArg (fun z : Cl => some (Chunk.box [.int .i64 z.1, .int .u8 z.2.1, .int .i64 z.2.2.1, .int .i64 z.2.2.2.1])) ex, trivial⟩⟩
              · refine (Tri.skip ?_)
                rw [← ex, if_neg (of_decide_eq_false h5)] at en
                exact ⟨trivial, Le.weak rfl rfl rfl rfl ⟨(by first | rfl | exact iv1 (by (try simp only [decide_eq_true_eq, decide_eq_false_iff_not, toNat_cast] at *); omega)), (by first | rfl | exact iv1 (by (try simp only [decide_eq_true_eq, decide_eq_false_iff_not, toNat_cast] at *); omega)), (by first | rfl | exact iv1 (by (try simp only [decide_eq_true_eq, decide_eq_false_iff_not, toNat_cast] at *); omega)), (by first | rfl | exact iv1 (by (try simp only [decide_eq_true_eq, decide_eq_false_iff_not, toNat_cast] at *); omega)), (by first | rfl | exact iv1 (by (try simp only [decide_eq_true_eq, decide_eq_false_iff_not, toNat_cast] at *); omega)), congrArg (AV.int .i64) (by rw [ec, wrapId (by omega)]; rfl), congrArg (AV.int .i64) (by rw [en]; rfl), (by first | rfl | exact iv1 (by (try simp only [decide_eq_true_eq, decide_eq_false_iff_not, toNat_cast] at *); omega)), (by first | rfl | exact iv1 (by (try simp only [decide_eq_true_eq, decide_eq_false_iff_not, toNat_cast] at *); omega)), (by first | rfl | exact iv1 (by (try simp only [decide_eq_true_eq, decide_eq_false_iff_not, toNat_cast] at *); omega)), (by first | rfl | exact iv1 (by (try simp only [decide_eq_true_eq, decide_eq_false_iff_not, toNat_cast] at *); omega)), trivial⟩ ⟨rfl, rfl, congrArg (fun z : Cl => some (Chunk.box [.int .i64 z.1, .int .u8 z.2.1, .int .i64 z.2.2.1, .int .i64 z.2.2.2.1])) ex, trivial⟩⟩
            · refine Tri.seq (Tri.drw hT hm 14 (by kernel_rfl) ?_)
              refine ⟨⟨hat.2.1, hat.2.2⟩, ?_⟩
              refine ⟨⟨hat.2.1, hat.2.2⟩, ?_⟩
              refine .inl ⟨_, fun _ => rfl, f80_spec pol (0, [], ((cells l).getD (atI (cells l) (pa p + k) 0).toNat cD).2.2.1, ((cells l).getD (atI (cells l) (pa p + k) 0).toNat cD).2.2.2.1, ()) (newP p), ?_⟩
              refine ⟨by kernel_rfl, ?_⟩
              refine (Tri.cond ⟨fun h6 => ?_, fun h6 => ?_⟩)
              · have iw := ins_win hsc (P := newP p) hat.1 h6; generalize hA : midN (cells l) pol (newP p) k = A at iw; have hA2 := iw.2.1; have w2 : IntKind.i64.wrap ((A.length : Int) + 1) = (A.length : Int) + 1 := wrapId (by omega); have hL : List.drop (Int.toNat 0) (List.take (A.length : Int).toNat (mrg (cells l) pol (newP p) k)) = A := iw.2.2.2; have hq : (List.drop (Int.toNat 0) (List.take (A.length : Int).toNat (mrg (cells l) pol (newP p) k))).length = A.length := congrArg List.length hL; have hy : List.drop (IntKind.i64.wrap ((A.length : Int) + 1)).toNat (List.take ((mrg (cells l) pol (newP p) k).length : Int).toNat (mrg (cells l) pol (newP p) k)) = (mrg (cells l) pol (newP p) k).drop (A.length + 1) := (by rw [w2, toNat_cast, List.take_length]; rfl); have hyl : ((mrg (cells l) pol (newP p) k).drop (A.length + 1)).length ≤ (mrg (cells l) pol (newP p) k).length := (by rw [List.length_drop]; omega); clear hms hcr hr ec en c1 c2 ex
                refine Tri.seq (Tri.reg hT ?_)
                refine .inl (.inl ⟨_, fun _ => rfl, (by have := f75' (c := mrg (cells l) pol (newP p) k) (a := pa p + k) rfl (by omega); rw [show atI (mrg (cells l) pol (newP p) k) (pa p + k) 0 = (A.length : Int) from iw.1] at this; exact this), ?_⟩)
                refine Tri.seq (Tri.reg hT ?_)
                refine Tri.seq (Tri.reg hT ?_)
                refine ⟨by omega, ?_⟩
                refine ⟨by dsimp only; omega, ?_⟩
                refine Tri.seq (Tri.reg hT ?_)
                refine ⟨(Nat.le_refl _), (by show _ ≤ _ ∧ (_ + 1) * _ ≤ _ ∧ _ + 1 ≤ _; dsimp only; (try simp only [decide_eq_true_eq, decide_eq_false_iff_not, toNat_cast] at *); omega), ?_⟩
                refine Tri.le ⟨153, 0, 99, [(0, .list pT l), (2, .int .i64 pol), (4, .loc 0 0), (9, .list cT (cells l)), (10, .loc 39 0), (11, .int .i64 (covN l p (k + 1) : Nat)), (12, .int .i64 (conN l p (k + 1) : Nat)), (13, .list cT (mrg (cells l) pol (newP p) k)), (14, .int .i64 (k : Int)), (17, .int .i64 A.length), (18, .own 89 (A ++ [newC (newP p) (pa p + k)]).length)], [(0, .box [.int .i64 (pa p), .str (pd p), .int .i64 (pf p), .int .i64 (pt p)]), (39, .box [.int .i64 (pa p), .str (pd p), .int .i64 (pa p), .int .i64 (endP p)]), (89, .arr cT (A ++ [newC (newP p) (pa p + k)]))], []⟩ (Le.weak rfl rfl rfl rfl ⟨rfl, rfl, rfl, rfl, rfl, rfl, rfl, rfl, rfl, rfl, congrArg (AV.own 89) (by rw [List.length_append]; exact congrArg (· + 1) hq), trivial⟩ ⟨rfl, rfl, congrArg (fun z => some (Chunk.arr cT z)) (show List.take _ (List.drop (Int.toNat 0) (List.take (A.length : Int).toNat (mrg (cells l) pol (newP p) k))) ++ [newC (newP p) (pa p + k)] = A ++ [newC (newP p) (pa p + k)] from by rw [List.take_length, hL]), trivial⟩) ?_
                refine (Tri.reg hT ?_)
                refine ⟨by rw [w2]; omega, ?_⟩
                refine ⟨by rw [hy]; dsimp only; simp only [List.length_append, List.length_singleton]; omega, ?_⟩
                refine (Tri.reg hT ?_)
                have hz : List.take ((A ++ [newC (newP p) (pa p + k)]).length + (List.drop (IntKind.i64.wrap ((A.length : Int) + 1)).toNat (List.take ((mrg (cells l) pol (newP p) k).length : Int).toNat (mrg (cells l) pol (newP p) k))).length) (List.take (A ++ [newC (newP p) (pa p + k)]).length (A ++ [newC (newP p) (pa p + k)]) ++ List.drop (IntKind.i64.wrap ((A.length : Int) + 1)).toNat (List.take ((mrg (cells l) pol (newP p) k).length : Int).toNat (mrg (cells l) pol (newP p) k))) = mrg (cells l) pol (newP p) (k + 1) := (by rw [hy, List.take_length, ← List.length_append, List.take_length, ← iw.2.2.1, iw.2.2.2]; rfl)
                exact ⟨k + 1, hk', by (try simp only [decide_eq_true_eq, decide_eq_false_iff_not, toNat_cast] at *); omega, Le.trans (Le.freeze 13 _ _ rfl rfl (freeze_le (A ++ [newC (newP p) (pa p + k)]) _)) (Le.weak rfl rfl rfl rfl ⟨(by first | rfl | exact iv1 (by (try simp only [decide_eq_true_eq, decide_eq_false_iff_not, toNat_cast] at *); omega)), (by first | rfl | exact iv1 (by (try simp only [decide_eq_true_eq, decide_eq_false_iff_not, toNat_cast] at *); omega)), (by first | rfl | exact iv1 (by (try simp only [decide_eq_true_eq, decide_eq_false_iff_not, toNat_cast] at *); omega)), (by first | rfl | exact iv1 (by (try simp only [decide_eq_true_eq, decide_eq_false_iff_not, toNat_cast] at *); omega)), (by first | rfl | exact iv1 (by (try simp only [decide_eq_true_eq, decide_eq_false_iff_not, toNat_cast] at *); omega)), (by first | rfl | exact iv1 (by (try simp only [decide_eq_true_eq, decide_eq_false_iff_not, toNat_cast] at *); omega)), (by first | rfl | exact iv1 (by (try simp only [decide_eq_true_eq, decide_eq_false_iff_not, toNat_cast] at *); omega)), congrArg (AV.list cT) hz, (by first | rfl | exact iv1 (by (try simp only [decide_eq_true_eq, decide_eq_false_iff_not, toNat_cast] at *); omega)), trivial⟩ ⟨rfl, rfl, trivial⟩)⟩
              · refine (Tri.skip ?_)
                refine (Tri.reg hT ?_)
                exact ⟨k + 1, hk', by (try simp only [decide_eq_true_eq, decide_eq_false_iff_not, toNat_cast] at *); omega, Le.weak rfl rfl rfl rfl ⟨(by first | rfl | exact iv1 (by (try simp only [decide_eq_true_eq, decide_eq_false_iff_not, toNat_cast] at *); omega)), (by first | rfl | exact iv1 (by (try simp only [decide_eq_true_eq, decide_eq_false_iff_not, toNat_cast] at *); omega)), (by first | rfl | exact iv1 (by (try simp only [decide_eq_true_eq, decide_eq_false_iff_not, toNat_cast] at *); omega)), (by first | rfl | exact iv1 (by (try simp only [decide_eq_true_eq, decide_eq_false_iff_not, toNat_cast] at *); omega)), (by first | rfl | exact iv1 (by (try simp only [decide_eq_true_eq, decide_eq_false_iff_not, toNat_cast] at *); omega)), (by first | rfl | exact iv1 (by (try simp only [decide_eq_true_eq, decide_eq_false_iff_not, toNat_cast] at *); omega)), (by first | rfl | exact iv1 (by (try simp only [decide_eq_true_eq, decide_eq_false_iff_not, toNat_cast] at *); omega)), congrArg (AV.list cT) (ins_keep hsc (P := newP p) hat.1 h6), (by first | rfl | exact iv1 (by (try simp only [decide_eq_true_eq, decide_eq_false_iff_not, toNat_cast] at *); omega)), trivial⟩ ⟨rfl, rfl, trivial⟩⟩
        · refine Tri.exit ?_
          refine Tri.seq ?_
          have hkn : k = (pd p).length := (by have := of_decide_eq_false h3; omega); subst hkn; have eR := insR_end (pol := pol) hv h1 h2
          refine Tri.seq (Tri.reg hT ?_)
          refine ⟨_, [], trivial, rfl, rfl, fun h => ⟨rfl, rfl, rfl⟩, ?_⟩
          refine ⟨_, [], trivial, rfl, rfl, fun h => ⟨h, rfl, rfl, rfl⟩, ?_⟩
          refine ⟨⟨fun hc => hc, fun _ => trivial⟩, ?_⟩
          refine (Tri.cond ⟨fun h7 => ?_, fun h7 => ?_⟩)
          · refine Tri.seq ?_
            refine Tri.seq (Tri.reg hT ?_)
            refine ⟨_, [], trivial, rfl, rfl, fun h => ⟨rfl, rfl, rfl⟩, ?_⟩
            refine ⟨_, [], trivial, rfl, rfl, fun h => ⟨h, rfl, rfl, rfl⟩, ?_⟩
            refine ⟨⟨fun hc => hc, fun _ => trivial⟩, ?_⟩
            refine (Tri.cond ⟨fun h8 => ?_, fun h8 => ?_⟩)
            · refine Tri.seq (Tri.reg hT ?_)
              refine Tri.ret ?_
              exact ⟨congrArg insAV (eR.trans ((if_pos (gand_t h7)).trans (if_pos (gand_t h8)))).symm, trivial⟩
            · refine (Tri.skip ?_)
              refine Tri.seq (Tri.reg hT ?_)
              refine Tri.le ⟨153, 0, 0, [(6, .list pT []), (7, .int .i64 0), (8, .int .i64 17)], [], []⟩ (Le.weakV rfl rfl rfl rfl ⟨rfl, rfl, rfl, trivial⟩ trivial) ?_
              refine Tri.ret ?_
              exact ⟨congrArg insAV (eR.trans ((if_pos (gand_t h7)).trans (if_neg (gand_f h8)))).symm, trivial⟩
          · refine (Tri.skip ?_)
            refine Tri.seq (Tri.reg hT ?_)
            refine .inl (.inl ⟨_, fun _ => rfl, f81_spec _ (mrg_small hsc hcr hcl pol (P := newP p) ⟨by show 0 ≤ p.1; have := rangeB_f h2; omega, by show p.1 ≤ _; have := rangeB_f h2; omega⟩ _ (by omega)), ?_⟩)
            refine Tri.seq ?_
            refine Tri.seq (Tri.reg hT ?_)
            refine (Tri.cond ⟨fun h9 => ?_, fun h9 => ?_⟩)
            · refine Tri.seq (Tri.reg hT ?_)
              refine Tri.le ⟨153, 0, 0, [(6, .list pT []), (7, .int .i64 0), (8, .int .i64 11)], [], []⟩ (Le.weakV rfl rfl rfl rfl ⟨rfl, rfl, rfl, trivial⟩ trivial) ?_
              refine Tri.ret ?_
              exact ⟨congrArg insAV (eR.trans ((if_neg (gand_f h7)).trans (if_pos (by have := of_decide_eq_true h9; omega)))).symm, trivial⟩
            · refine (Tri.skip ?_)
              refine Tri.seq (Tri.reg hT ?_)
              refine Tri.ret ?_
              exact ⟨congrArg insAV (eR.trans ((if_neg (gand_f h7)).trans (if_neg (by have := of_decide_eq_false h9; omega)))).symm, trivial⟩
end Go.Proofs.Ytopnempdeopjfaa.Fx
