/- Chapter 15: the statement OverlapBytes. -/
import Derived.Test.YtjdjgabahkcjeaaOvM4
import Derived.Test.YtjdjgabahkcjeaaOv12
set_option linter.all false
namespace Go.Proofs.Ytjdjgabahkcjeaa.Fx
open Go Go.Fw Go.Ov
set_option maxRecDepth 4000 in
theorem f26_spec (l : List Pc) (pol : Int) (hl : l.length ≤ 12) (hs : ∀ p ∈ l, Seg p) : PSpec P [] 26 [.list pT l, .int .i64 pol] (.tup [.str (takeF (J (mI l pol l.length)) 0).1, .int .i64 (conT l pol l.length)]) := by
  refine pspec_intro hT Try.func26 (by decide) rfl rfl (by kernel_rfl) rfl ?_
  refine Tri.seq (Tri.reg hT ?_)
  refine Tri.seq (Tri.reg hT ?_)
  refine ⟨(by first | ((try simp only [decide_eq_true_eq, decide_eq_false_iff_not, toNat_cast] at *); omega) | decide), ?_⟩
  refine Tri.seq (Tri.reg hT ?_)
  refine Tri.seq ?_
  refine Tri.seq (Tri.reg hT ?_)
  refine (Tri.block ?_)
  refine (Tri.loop (ι := Nat) (fun i => ⟨162, 0, 6, [(0, .list pT l), (1, .int .i64 pol), (6, .own 2 200), (7, .int .i64 (mAll l pol i).2), (8, .int .i64 (i : Int))], [(2, .arr (.int .i64) (mAll l pol i).1)], []⟩) (fun i => i ≤ l.length) (fun i => l.length - i) (0) ?_ ?_ ?_)
  · exact Nat.zero_le _
  · exact Le.weak rfl rfl rfl rfl ⟨(by first | rfl | exact iv1 (by (try simp only [decide_eq_true_eq, decide_eq_false_iff_not, toNat_cast] at *); omega)), (by first | rfl | exact iv1 (by (try simp only [decide_eq_true_eq, decide_eq_false_iff_not, toNat_cast] at *); omega)), (by first | rfl | exact iv1 (by (try simp only [decide_eq_true_eq, decide_eq_false_iff_not, toNat_cast] at *); omega)), (by first | rfl | exact iv1 (by (try simp only [decide_eq_true_eq, decide_eq_false_iff_not, toNat_cast] at *); omega)), (by first | rfl | exact iv1 (by (try simp only [decide_eq_true_eq, decide_eq_false_iff_not, toNat_cast] at *); omega)), trivial⟩ ⟨rfl, trivial⟩
  · intro i hi
    refine Tri.seq ?_
    refine Tri.seq (Tri.reg hT ?_)
    refine (Tri.cond ⟨fun h1 => ?_, fun h1 => ?_⟩)
    · refine (Tri.skip ?_)
      refine Tri.seq (Tri.block ?_)
      refine Tri.seq (Tri.reg hT ?_)
      refine (Tri.block ?_)
      refine (Tri.loop (ι := Nat) (fun k => ⟨162, 0, 20, [(0, .list pT l), (1, .int .i64 pol), (6, .own 2 200), (7, .int .i64 (mSeg l pol i (mAll l pol i) k).2), (8, .int .i64 (i : Int)), (9, .int .i64 (k : Int))], [(2, .arr (.int .i64) (mSeg l pol i (mAll l pol i) k).1)], []⟩) (fun k => k ≤ (pd (l.getD i pD)).length) (fun k => (pd (l.getD i pD)).length - k) (0) ?_ ?_ ?_)
      · exact Nat.zero_le _
      · exact Le.weak rfl rfl rfl rfl ⟨(by first | rfl | exact iv1 (by (try simp only [decide_eq_true_eq, decide_eq_false_iff_not, toNat_cast] at *); omega)), (by first | rfl | exact iv1 (by (try simp only [decide_eq_true_eq, decide_eq_false_iff_not, toNat_cast] at *); omega)), (by first | rfl | exact iv1 (by (try simp only [decide_eq_true_eq, decide_eq_false_iff_not, toNat_cast] at *); omega)), (by first | rfl | exact iv1 (by (try simp only [decide_eq_true_eq, decide_eq_false_iff_not, toNat_cast] at *); omega)), (by first | rfl | exact iv1 (by (try simp only [decide_eq_true_eq, decide_eq_false_iff_not, toNat_cast] at *); omega)), (by first | rfl | exact iv1 (by (try simp only [decide_eq_true_eq, decide_eq_false_iff_not, toNat_cast] at *); omega)), trivial⟩ ⟨rfl, trivial⟩
      · intro k hk
        refine Tri.seq ?_
        refine Tri.seq (Tri.reg hT ?_)
        refine ⟨(by first | ((try simp only [decide_eq_true_eq, decide_eq_false_iff_not, toNat_cast] at *); omega) | decide), ?_⟩
        refine (Tri.cond ⟨fun h2 => ?_, fun h2 => ?_⟩)
        · refine (Tri.skip ?_)
          refine Tri.seq (Tri.block ?_)
          have hi' := i_lt h1; have hk' : k < (pd (l.getD i pD)).length := i_lt h2; have I := (all12 (pol := pol) hs i (by omega)).2.2 hi' k (by omega); generalize hB : mSeg l pol i (mAll l pol i) k = B at I; have hB1 : mSeg l pol i (mAll l pol i) (k + 1) = mStep l pol i B k := (by rw [mSeg_next, hB]); obtain ⟨p0, p1, p2⟩ := hs _ (getD_mem (d := pD) hi'); have w : IntKind.i64.wrap (pa (l.getD i pD) + (k : Int)) = pa (l.getD i pD) + k := wrapId (by omega); have wi : IntKind.i64.wrap ((i : Int) + 1) = (i : Int) + 1 := wrapId (by omega); have hbl := I.tab.len; have hd := in12_dif hs hi' I
          refine Tri.seq (Tri.reg hT ?_)
          refine ⟨(by first | ((try simp only [decide_eq_true_eq, decide_eq_false_iff_not, toNat_cast] at *); omega) | decide), ?_⟩
          refine Tri.seq ?_
          refine Tri.le (⟨162, 0, 36, [(0, .list pT l), (1, .int .i64 pol), (6, .own 2 200), (7, .int .i64 B.2), (8, .int .i64 (i : Int)), (9, .int .i64 (k : Int)), (10, .int .i64 (pa (l.getD i pD) + (k : Int)))], [(2, .arr (.int .i64) B.1)], []⟩) (Le.weak rfl rfl rfl rfl ⟨(by first | rfl | exact iv1 (by (try simp only [decide_eq_true_eq, decide_eq_false_iff_not, toNat_cast] at *); omega)), (by first | rfl | exact iv1 (by (try simp only [decide_eq_true_eq, decide_eq_false_iff_not, toNat_cast] at *); omega)), (by first | rfl | exact iv1 (by (try simp only [decide_eq_true_eq, decide_eq_false_iff_not, toNat_cast] at *); omega)), (by first | rfl | exact iv1 (by (try simp only [decide_eq_true_eq, decide_eq_false_iff_not, toNat_cast] at *); omega)), (by first | rfl | exact iv1 (by (try simp only [decide_eq_true_eq, decide_eq_false_iff_not, toNat_cast] at *); omega)), (by first | rfl | exact iv1 (by (try simp only [decide_eq_true_eq, decide_eq_false_iff_not, toNat_cast] at *); omega)), congrArg (AV.int .i64) w, trivial⟩ ⟨rfl, trivial⟩) ?_
          refine Tri.seq (Tri.reg hT ?_)
          refine ⟨by omega, ?_⟩
          refine ⟨by omega, ?_⟩
          refine (Tri.cond ⟨fun h3 => ?_, fun h3 => ?_⟩)
          · refine Tri.seq (Tri.reg hT ?_)
            refine ⟨by omega, ?_⟩
            refine ⟨by omega, _, rfl, ?_⟩
            refine Tri.exit ?_
            refine (Tri.reg hT ?_)
            have em : mStep l pol i B k = (B.1.set (pa (l.getD i pD) + (k : Int)).toNat ((i : Int) + 1), B.2) := if_pos (of_decide_eq_true h3)
            exact ⟨k + 1, hk', by (try simp only [decide_eq_true_eq, decide_eq_false_iff_not, toNat_cast] at *); omega, Le.weak rfl rfl rfl rfl ⟨(by first | rfl | exact iv1 (by (try simp only [decide_eq_true_eq, decide_eq_false_iff_not, toNat_cast] at *); omega)), (by first | rfl | exact iv1 (by (try simp only [decide_eq_true_eq, decide_eq_false_iff_not, toNat_cast] at *); omega)), (by first | rfl | exact iv1 (by (try simp only [decide_eq_true_eq, decide_eq_false_iff_not, toNat_cast] at *); omega)), congrArg (AV.int .i64) (by rw [hB1, em]), (by first | rfl | exact iv1 (by (try simp only [decide_eq_true_eq, decide_eq_false_iff_not, toNat_cast] at *); omega)), (by first | rfl | exact iv1 (by (try simp only [decide_eq_true_eq, decide_eq_false_iff_not, toNat_cast] at *); omega)), trivial⟩ ⟨congrArg (fun z => some (Chunk.arr _ z)) (by rw [hB1, em, wi]), trivial⟩⟩
          · refine (Tri.skip ?_)
            have hne : B.1.getD (pa (l.getD i pD) + (k : Int)).toNat 0 ≠ 0 := of_decide_eq_false h3; have O := I.old hs hi' hk' hne; have wv : IntKind.i64.wrap (B.1.getD (pa (l.getD i pD) + (k : Int)).toNat 0 - 1) = B.1.getD (pa (l.getD i pD) + (k : Int)).toNat 0 - 1 := wrapId (by omega)
            refine Tri.seq (Tri.reg hT ?_)
            refine ⟨by omega, ?_⟩
            refine ⟨by omega, ?_⟩
            refine ⟨by rw [show IntKind.i64.wrap (B.1.getD (pa (l.getD i pD) + (k : Int)).toNat (Ty.dflt (.int .i64)) - 1) = _ from wv]; omega, ?_⟩
            generalize hO : (ownOf l (B.1.getD (pa (l.getD i pD) + (k : Int)).toNat 0)) = ow at O; have eo : l.getD (IntKind.i64.wrap (B.1.getD (pa (l.getD i pD) + (k : Int)).toNat (Ty.dflt (.int .i64)) - 1)).toNat (Ty.dflt pT) = ow := (by rw [show IntKind.i64.wrap (B.1.getD (pa (l.getD i pD) + (k : Int)).toNat (Ty.dflt (.int .i64)) - 1) = _ from wv]; exact hO)
            refine Tri.le (⟨162, 0, 50, [(0, .list pT l), (1, .int .i64 pol), (6, .own 2 200), (7, .int .i64 B.2), (8, .int .i64 (i : Int)), (9, .int .i64 (k : Int)), (10, .int .i64 (pa (l.getD i pD) + (k : Int))), (11, .loc 49 0)], [(2, .arr (.int .i64) B.1), (49, .box [.int .i64 ow.1, .str ow.2.1, .int .i64 ow.2.2.1, .int .i64 ow.2.2.2.1])], []⟩) (Le.weak rfl rfl rfl rfl ⟨(by first | rfl | exact iv1 (by (try simp only [decide_eq_true_eq, decide_eq_false_iff_not, toNat_cast] at *); omega)), (by first | rfl | exact iv1 (by (try simp only [decide_eq_true_eq, decide_eq_false_iff_not, toNat_cast] at *); omega)), (by first | rfl | exact iv1 (by (try simp only [decide_eq_true_eq, decide_eq_false_iff_not, toNat_cast] at *); omega)), (by first | rfl | exact iv1 (by (try simp only [decide_eq_true_eq, decide_eq_false_iff_not, toNat_cast] at *); omega)), (by first | rfl | exact iv1 (by (try simp only [decide_eq_true_eq, decide_eq_false_iff_not, toNat_cast] at *); omega)), (by first | rfl | exact iv1 (by (try simp only [decide_eq_true_eq, decide_eq_false_iff_not, toNat_cast] at *); omega)), (by first | rfl | exact iv1 (by (try simp only [decide_eq_true_eq, decide_eq_false_iff_not, toNat_cast] at *); omega)), (by first | rfl | exact iv1 (by (try simp only [decide_eq_true_eq, decide_eq_false_iff_not, toNat_cast] at *); omega)), trivial⟩ ⟨rfl, congrArg (fun z : Pc => some (Chunk.box [.int .i64 z.1, .str z.2.1, .int .i64 z.2.2.1, .int .i64 z.2.2.2.1])) eo, trivial⟩) ?_
            have wa : IntKind.i64.wrap (pa (l.getD i pD) + (k : Int) - ow.1) = pa (l.getD i pD) + k - pa ow := wrapId (by have e : pa ow = ow.1 := rfl; have hso : Seg ow := (by rw [← hO]; exact hs _ (getD_mem (by omega))); have h9 := hso.1; omega); have em : mStep l pol i B k = (if winM pol (l.getD i pD) ow = true then B.1.set (pa (l.getD i pD) + (k : Int)).toNat ((i : Int) + 1) else B.1, B.2 + (if bt (pd ow) (pa (l.getD i pD) + k - pa ow) ≠ bt (pd (l.getD i pD)) k then 1 else 0)) := (by rw [← hO]; exact if_neg hne)
            refine Tri.join (True) (⟨162, 0, 50, [(0, .list pT l), (1, .int .i64 pol), (6, .own 2 200), (7, .int .i64 (mStep l pol i B k).2), (8, .int .i64 (i : Int)), (9, .int .i64 (k : Int)), (10, .int .i64 (pa (l.getD i pD) + (k : Int))), (11, .loc 49 0)], [(2, .arr (.int .i64) B.1), (49, .box [.int .i64 ow.1, .str ow.2.1, .int .i64 ow.2.2.1, .int .i64 ow.2.2.2.1])], []⟩) ?_ fun hp5 => ?_
            · refine Tri.seq (Tri.drw hT hm 15 (by kernel_rfl) ?_)
              refine ⟨by rw [wa]; exact ⟨O.2.2.1, O.2.2.2⟩, ?_⟩
              refine ⟨(by first | ((try simp only [decide_eq_true_eq, decide_eq_false_iff_not, toNat_cast] at *); omega) | decide), ?_⟩
              refine ⟨⟨by omega, (show (k : Int) < ((pd (l.getD i pD)).length : Int) by omega)⟩, ?_⟩
              refine ⟨by kernel_rfl, ?_⟩
              refine (Tri.cond ⟨fun h4 => ?_, fun h4 => ?_⟩)
              · refine (Tri.reg hT ?_)
                rw [wa] at h4; have ed : (mStep l pol i B k).2 = B.2 + 1 := (by rw [em]; exact congrArg (B.2 + ·) (if_pos (of_decide_eq_true h4)))
                exact ⟨trivial, Le.weak rfl rfl rfl rfl ⟨(by first | rfl | exact iv1 (by (try simp only [decide_eq_true_eq, decide_eq_false_iff_not, toNat_cast] at *); omega)), (by first | rfl | exact iv1 (by (try simp only [decide_eq_true_eq, decide_eq_false_iff_not, toNat_cast] at *); omega)), (by first | rfl | exact iv1 (by (try simp only [decide_eq_true_eq, decide_eq_false_iff_not, toNat_cast] at *); omega)), congrArg (AV.int .i64) (by rw [ed, wrapId (by omega)]), (by first | rfl | exact iv1 (by (try simp only [decide_eq_true_eq, decide_eq_false_iff_not, toNat_cast] at *); omega)), (by first | rfl | exact iv1 (by (try simp only [decide_eq_true_eq, decide_eq_false_iff_not, toNat_cast] at *); omega)), (by first | rfl | exact iv1 (by (try simp only [decide_eq_true_eq, decide_eq_false_iff_not, toNat_cast] at *); omega)), (by first | rfl | exact iv1 (by (try simp only [decide_eq_true_eq, decide_eq_false_iff_not, toNat_cast] at *); omega)), trivial⟩ ⟨rfl, rfl, trivial⟩⟩
              · refine (Tri.skip ?_)
                rw [wa] at h4; have ed : (mStep l pol i B k).2 = B.2 := (by rw [em]; exact (congrArg (B.2 + ·) (if_neg (of_decide_eq_false h4))).trans (Int.add_zero _))
                exact ⟨trivial, Le.weak rfl rfl rfl rfl ⟨(by first | rfl | exact iv1 (by (try simp only [decide_eq_true_eq, decide_eq_false_iff_not, toNat_cast] at *); omega)), (by first | rfl | exact iv1 (by (try simp only [decide_eq_true_eq, decide_eq_false_iff_not, toNat_cast] at *); omega)), (by first | rfl | exact iv1 (by (try simp only [decide_eq_true_eq, decide_eq_false_iff_not, toNat_cast] at *); omega)), congrArg (AV.int .i64) ed.symm, (by first | rfl | exact iv1 (by (try simp only [decide_eq_true_eq, decide_eq_false_iff_not, toNat_cast] at *); omega)), (by first | rfl | exact iv1 (by (try simp only [decide_eq_true_eq, decide_eq_false_iff_not, toNat_cast] at *); omega)), (by first | rfl | exact iv1 (by (try simp only [decide_eq_true_eq, decide_eq_false_iff_not, toNat_cast] at *); omega)), (by first | rfl | exact iv1 (by (try simp only [decide_eq_true_eq, decide_eq_false_iff_not, toNat_cast] at *); omega)), trivial⟩ ⟨rfl, rfl, trivial⟩⟩
            · refine Tri.seq (Tri.drw hT hm 29 (by kernel_rfl) ?_)
              refine ⟨(by first | ((try simp only [decide_eq_true_eq, decide_eq_false_iff_not, toNat_cast] at *); omega) | decide), ?_⟩
              refine ⟨(by first | ((try simp only [decide_eq_true_eq, decide_eq_false_iff_not, toNat_cast] at *); omega) | decide), ?_⟩
              refine ⟨_, [], trivial, rfl, rfl, fun h => ⟨rfl, rfl, rfl⟩, ?_⟩
              refine ⟨_, [], trivial, rfl, rfl, fun h => ⟨rfl, rfl, rfl⟩, ?_⟩
              refine ⟨_, [], trivial, rfl, rfl, fun h => ⟨h, h, (by first | ((try simp only [decide_eq_true_eq, decide_eq_false_iff_not, toNat_cast] at *); omega) | decide), rfl, rfl, rfl⟩, ?_⟩
              refine ⟨_, [], trivial, rfl, rfl, fun h => ⟨h, rfl, rfl, rfl⟩, ?_⟩
              refine ⟨_, [], trivial, rfl, rfl, fun h => ⟨h, rfl, rfl, rfl⟩, ?_⟩
              refine ⟨_, [], trivial, rfl, rfl, fun h => ⟨h, rfl, rfl, rfl⟩, ?_⟩
              refine ⟨_, [], trivial, rfl, rfl, fun h => ⟨rfl, rfl, rfl⟩, ?_⟩
              refine ⟨_, [], trivial, rfl, rfl, fun h => ⟨h, rfl, rfl, rfl⟩, ?_⟩
              refine ⟨_, [], trivial, rfl, rfl, fun h => ⟨h, rfl, rfl, rfl⟩, ?_⟩
              refine ⟨_, [], trivial, rfl, rfl, fun h => ⟨h, h, rfl, rfl, rfl⟩, ?_⟩
              refine ⟨⟨fun hc => hc, fun _ => trivial⟩, ?_⟩
              refine ⟨by kernel_rfl, ?_⟩
              refine Tri.seq (Tri.reg hT ?_)
              refine ⟨_, [], trivial, rfl, rfl, fun h => ⟨rfl, rfl, rfl⟩, ?_⟩
              refine ⟨_, [], trivial, rfl, rfl, fun h => ⟨h, rfl, rfl, rfl⟩, ?_⟩
              refine ⟨_, [], trivial, rfl, rfl, fun h => ⟨h, rfl, rfl, rfl⟩, ?_⟩
              refine ⟨_, [], trivial, rfl, rfl, fun h => ⟨rfl, rfl, rfl⟩, ?_⟩
              refine ⟨_, [], trivial, rfl, rfl, fun h => ⟨h, ⟨fun hc => ga h hc, fun _ => trivial⟩, rfl, rfl, rfl⟩, ?_⟩
              refine ⟨⟨fun _ => trivial, fun hc => (gn hc)⟩, ?_⟩
              refine ⟨_, [], trivial, rfl, rfl, fun h => ⟨rfl, rfl, rfl⟩, ?_⟩
              refine ⟨_, [], trivial, rfl, rfl, fun h => ⟨h, rfl, rfl, rfl⟩, ?_⟩
              refine ⟨_, [], trivial, rfl, rfl, fun h => ⟨h, rfl, rfl, rfl⟩, ?_⟩
              refine ⟨_, [], trivial, rfl, rfl, fun h => ⟨rfl, rfl, rfl⟩, ?_⟩
              refine ⟨_, [], trivial, rfl, rfl, fun h => ⟨h, rfl, rfl, rfl⟩, ?_⟩
              refine ⟨_, [], trivial, rfl, rfl, fun h => ⟨rfl, rfl, rfl⟩, ?_⟩
              refine ⟨_, [], trivial, rfl, rfl, fun h => ⟨h, ⟨fun _ => trivial, fun hc => ga h (gn hc)⟩, rfl, rfl, rfl⟩, ?_⟩
              refine ⟨_, [], trivial, rfl, rfl, fun h => ⟨h, ⟨fun hc => ga h hc, fun _ => trivial⟩, rfl, rfl, rfl⟩, ?_⟩
              refine ⟨⟨fun _ => trivial, fun hc => (gn hc)⟩, ?_⟩
              refine (Tri.cond ⟨fun h5 => ?_, fun h5 => ?_⟩)
              · refine (Tri.reg hT ?_)
                refine ⟨by omega, ?_⟩
                refine ⟨by omega, _, rfl, ?_⟩
                refine (Tri.reg hT ?_)
                have e1 : (mStep l pol i B k).1 = B.1.set (pa (l.getD i pD) + (k : Int)).toNat ((i : Int) + 1) := (by rw [em]; exact if_pos h5)
                exact ⟨k + 1, hk', by (try simp only [decide_eq_true_eq, decide_eq_false_iff_not, toNat_cast] at *); omega, Le.weak rfl rfl rfl rfl ⟨(by first | rfl | exact iv1 (by (try simp only [decide_eq_true_eq, decide_eq_false_iff_not, toNat_cast] at *); omega)), (by first | rfl | exact iv1 (by (try simp only [decide_eq_true_eq, decide_eq_false_iff_not, toNat_cast] at *); omega)), (by first | rfl | exact iv1 (by (try simp only [decide_eq_true_eq, decide_eq_false_iff_not, toNat_cast] at *); omega)), congrArg (fun z : List Int × Int => AV.int .i64 z.2) hB1.symm, (by first | rfl | exact iv1 (by (try simp only [decide_eq_true_eq, decide_eq_false_iff_not, toNat_cast] at *); omega)), (by first | rfl | exact iv1 (by (try simp only [decide_eq_true_eq, decide_eq_false_iff_not, toNat_cast] at *); omega)), trivial⟩ ⟨congrArg (fun z => some (Chunk.arr _ z)) (by rw [hB1, e1, wi]), trivial⟩⟩
              · refine (Tri.skip ?_)
                refine (Tri.reg hT ?_)
                have e1 : (mStep l pol i B k).1 = B.1 := (by rw [em]; exact if_neg (by rw [show winM pol (l.getD i pD) ow = false from h5]; simp))
                exact ⟨k + 1, hk', by (try simp only [decide_eq_true_eq, decide_eq_false_iff_not, toNat_cast] at *); omega, Le.weak rfl rfl rfl rfl ⟨(by first | rfl | exact iv1 (by (try simp only [decide_eq_true_eq, decide_eq_false_iff_not, toNat_cast] at *); omega)), (by first | rfl | exact iv1 (by (try simp only [decide_eq_true_eq, decide_eq_false_iff_not, toNat_cast] at *); omega)), (by first | rfl | exact iv1 (by (try simp only [decide_eq_true_eq, decide_eq_false_iff_not, toNat_cast] at *); omega)), congrArg (fun z : List Int × Int => AV.int .i64 z.2) hB1.symm, (by first | rfl | exact iv1 (by (try simp only [decide_eq_true_eq, decide_eq_false_iff_not, toNat_cast] at *); omega)), (by first | rfl | exact iv1 (by (try simp only [decide_eq_true_eq, decide_eq_false_iff_not, toNat_cast] at *); omega)), trivial⟩ ⟨congrArg (fun z => some (Chunk.arr _ z)) (by rw [hB1, e1]), trivial⟩⟩
        · refine Tri.exit ?_
          refine (Tri.reg hT ?_)
          have hi' := i_lt h1; have hkn : k = (pd (l.getD i pD)).length := (by have : ¬ (k : Int) < ((pd (l.getD i pD)).length : Int) := of_decide_eq_false h2; omega); have ea : mAll l pol (i + 1) = mSeg l pol i (mAll l pol i) k := (by rw [hkn]; rfl)
          exact ⟨i + 1, hi', by (try simp only [decide_eq_true_eq, decide_eq_false_iff_not, toNat_cast] at *); omega, Le.weak rfl rfl rfl rfl ⟨(by first | rfl | exact iv1 (by (try simp only [decide_eq_true_eq, decide_eq_false_iff_not, toNat_cast] at *); omega)), (by first | rfl | exact iv1 (by (try simp only [decide_eq_true_eq, decide_eq_false_iff_not, toNat_cast] at *); omega)), (by first | rfl | exact iv1 (by (try simp only [decide_eq_true_eq, decide_eq_false_iff_not, toNat_cast] at *); omega)), congrArg (fun z : List Int × Int => AV.int .i64 z.2) ea.symm, (by first | rfl | exact iv1 (by (try simp only [decide_eq_true_eq, decide_eq_false_iff_not, toNat_cast] at *); omega)), trivial⟩ ⟨congrArg (fun z : List Int × Int => some (Chunk.arr (.int .i64) z.1)) ea.symm, trivial⟩⟩
    · refine Tri.exit ?_
      obtain rfl : i = l.length := (by have := of_decide_eq_false h1; omega); have A := all12 (pol := pol) hs l.length (Nat.le_refl _); have Z := str12 A.1 ⟨_, mg_mI l pol hs l.length (Nat.le_refl _)⟩ (Nat.le_refl _); have hbl := A.1.len; generalize hS : (takeF (J (mI l pol l.length)) 0).1 = s at Z; generalize hM : (mAll l pol l.length).1 = ow at Z hbl
      refine Tri.seq (Tri.reg hT ?_)
      refine Tri.seq ?_
      refine Tri.seq (Tri.reg hT ?_)
      refine (Tri.block ?_)
      refine (Tri.loop (ι := Nat) (fun k => ⟨162, 0, 13, [(0, .list pT l), (6, .own 2 200), (7, .int .i64 (conT l pol l.length)), (14, .own 12 (intsOf (s.take k)).length), (15, .int .i64 (k : Int))], [(2, .arr (.int .i64) ow), (12, .arr (.int .u8) (intsOf (s.take k)))], []⟩) (fun k => k ≤ s.length) (fun k => s.length - k) (0) ?_ ?_ ?_)
      · exact Nat.zero_le _
      · exact Le.trans (Le.own 14 (.int .u8) rfl) (Le.weak rfl rfl rfl rfl ⟨(by first | rfl | exact iv1 (by (try simp only [decide_eq_true_eq, decide_eq_false_iff_not, toNat_cast] at *); omega)), (by first | rfl | exact iv1 (by (try simp only [decide_eq_true_eq, decide_eq_false_iff_not, toNat_cast] at *); omega)), congrArg (AV.int .i64) A.2.1, (by first | rfl | exact iv1 (by (try simp only [decide_eq_true_eq, decide_eq_false_iff_not, toNat_cast] at *); omega)), (by first | rfl | exact iv1 (by (try simp only [decide_eq_true_eq, decide_eq_false_iff_not, toNat_cast] at *); omega)), trivial⟩ ⟨rfl, rfl, trivial⟩)
      · intro k hk
        refine Tri.seq ?_
        refine Tri.seq (Tri.reg hT ?_)
        refine ⟨_, [], trivial, rfl, rfl, fun h => ⟨rfl, rfl, rfl⟩, ?_⟩
        refine ⟨_, [], trivial, rfl, rfl, fun h => ⟨rfl, rfl, rfl⟩, ?_⟩
        refine ⟨_, [], trivial, rfl, rfl, fun h => ⟨h, h, by have := i_lt (n := 200) h; omega, rfl, rfl, rfl⟩, ?_⟩
        refine ⟨_, [], trivial, rfl, rfl, fun h => ⟨h, by have := i_lt (n := 200) h; omega, rfl, rfl, rfl⟩, ?_⟩
        refine ⟨_, [], trivial, rfl, rfl, fun h => ⟨h, rfl, rfl, rfl⟩, ?_⟩
        refine ⟨⟨fun hc => hc, fun _ => trivial⟩, ?_⟩
        refine (Tri.cond ⟨fun h6 => ?_, fun h6 => ?_⟩)
        · refine (Tri.skip ?_)
          refine Tri.seq (Tri.block ?_)
          have hc := gand_t h6; have hk2 : k < s.length := (by rcases Nat.lt_or_ge k s.length with h9 | h9; exact h9; have h8 : k = s.length := (by omega); have h7 := Z.none_ (by omega); rw [← h8] at h7; have h16 := hc.2; rw [show ow.getD (k : Int).toNat (Ty.dflt (.int .i64)) = 0 from h7] at h16; omega); have O := Z.some_ k hk2; have wv : IntKind.i64.wrap (ow.getD k 0 - 1) = ow.getD k 0 - 1 := wrapId (by omega); have hil : (intsOf (s.take k)).length = k := (by rw [intsOf_len, List.length_take]; omega)
          refine Tri.seq (Tri.reg hT ?_)
          refine ⟨by omega, ?_⟩
          refine ⟨by omega, ?_⟩
          refine ⟨by rw [show IntKind.i64.wrap (ow.getD (k : Int).toNat (Ty.dflt (.int .i64)) - 1) = _ from wv]; omega, ?_⟩
          generalize hO : ownOf l (ow.getD k 0) = x at O; have eo : l.getD (IntKind.i64.wrap (ow.getD (k : Int).toNat (Ty.dflt (.int .i64)) - 1)).toNat (Ty.dflt pT) = x := (by rw [show IntKind.i64.wrap (ow.getD (k : Int).toNat (Ty.dflt (.int .i64)) - 1) = _ from wv]; exact hO)
          refine Tri.le (⟨162, 0, 34, [(0, .list pT l), (6, .own 2 200), (7, .int .i64 (conT l pol l.length)), (14, .own 12 (intsOf (s.take k)).length), (15, .int .i64 (k : Int)), (16, .loc 32 0)], [(2, .arr (.int .i64) ow), (12, .arr (.int .u8) (intsOf (s.take k))), (32, .box [.int .i64 x.1, .str x.2.1, .int .i64 x.2.2.1, .int .i64 x.2.2.2.1])], []⟩) (Le.weak rfl rfl rfl rfl ⟨(by first | rfl | exact iv1 (by (try simp only [decide_eq_true_eq, decide_eq_false_iff_not, toNat_cast] at *); omega)), (by first | rfl | exact iv1 (by (try simp only [decide_eq_true_eq, decide_eq_false_iff_not, toNat_cast] at *); omega)), (by first | rfl | exact iv1 (by (try simp only [decide_eq_true_eq, decide_eq_false_iff_not, toNat_cast] at *); omega)), (by first | rfl | exact iv1 (by (try simp only [decide_eq_true_eq, decide_eq_false_iff_not, toNat_cast] at *); omega)), (by first | rfl | exact iv1 (by (try simp only [decide_eq_true_eq, decide_eq_false_iff_not, toNat_cast] at *); omega)), (by first | rfl | exact iv1 (by (try simp only [decide_eq_true_eq, decide_eq_false_iff_not, toNat_cast] at *); omega)), trivial⟩ ⟨rfl, rfl, congrArg (fun z : Pc => some (Chunk.box [.int .i64 z.1, .str z.2.1, .int .i64 z.2.2.1, .int .i64 z.2.2.2.1])) eo, trivial⟩) ?_
          have wa : IntKind.i64.wrap ((k : Int) - x.1) = (k : Int) - pa x := wrapId (by have e : pa x = x.1 := rfl; have hso : Seg x := (by rw [← hO]; exact hs _ (getD_mem (by omega))); have h9 := hso.1; have h8 := hso.2.1; omega); have e : intsOf (s.take (k + 1)) = intsOf (s.take k) ++ [bt (pd x) (IntKind.i64.wrap ((k : Int) - x.1))] := (by rw [wa, O.2.2.2.2]; exact intsOf_take s k hk2)
          refine (Tri.reg hT ?_)
          refine ⟨by rw [wa]; exact ⟨O.2.2.1, O.2.2.2.1⟩, ?_⟩
          refine ⟨(Nat.le_refl _), (by show _ ≤ _ ∧ (_ + 1) * _ ≤ _ ∧ _ + 1 ≤ _; dsimp only; (try simp only [decide_eq_true_eq, decide_eq_false_iff_not, toNat_cast] at *); omega), ?_⟩
          refine (Tri.reg hT ?_)
          exact ⟨k + 1, hk2, by (try simp only [decide_eq_true_eq, decide_eq_false_iff_not, toNat_cast] at *); omega, Le.weak rfl rfl rfl rfl ⟨(by first | rfl | exact iv1 (by (try simp only [decide_eq_true_eq, decide_eq_false_iff_not, toNat_cast] at *); omega)), (by first | rfl | exact iv1 (by (try simp only [decide_eq_true_eq, decide_eq_false_iff_not, toNat_cast] at *); omega)), (by first | rfl | exact iv1 (by (try simp only [decide_eq_true_eq, decide_eq_false_iff_not, toNat_cast] at *); omega)), congrArg (AV.own 12) (by rw [e]; exact List.length_append.symm), (by first | rfl | exact iv1 (by (try simp only [decide_eq_true_eq, decide_eq_false_iff_not, toNat_cast] at *); omega)), trivial⟩ ⟨rfl, congrArg (fun l => some (Chunk.arr _ l)) (by rw [e]; first | rfl | (rw [List.take_length]; rfl)), trivial⟩⟩
        · refine Tri.exit ?_
          refine Tri.seq (Tri.reg hT ?_)
          refine ⟨(Nat.le_refl _), ?_⟩
          refine Tri.ret ?_
          have hc := gand_f h6; have hkn : k = s.length := (by rcases Nat.lt_or_ge k s.length with h9 | h9; exact absurd ⟨show (k : Int) < 200 by have := Z.le; omega, show ow.getD (k : Int).toNat (Ty.dflt (.int .i64)) > 0 from (Z.some_ k h9).1⟩ hc; omega); exact ⟨by show AV.tup [.str (List.map Fw.byteOf ((intsOf (s.take k)).take (intsOf (s.take k)).length)), _] = _; rw [List.take_length, bytes_back, hkn, List.take_length]; rfl, trivial⟩
theorem f6_spec (l : List Pc) (pol : Int) (hg : l.length ≤ 140737488355328) : PSpec P [] 6 [.list pT l, .int .i64 pol] (.bool true) := by
  refine pspec_intro hT Try.func6 (by decide) rfl rfl (by kernel_rfl) rfl ?_
  refine Tri.seq (Tri.reg hT ?_)
  refine Tri.seq ?_
  refine Tri.seq (Tri.reg hT ?_)
  refine .inl (.inl ⟨_, fun _ => rfl, f12_spec, ?_⟩)
  refine (Tri.cond ⟨fun h1 => ?_, fun h1 => ?_⟩)
  · exact absurd h1 (by simp)
  · refine (Tri.skip ?_)
    refine Tri.seq ?_
    refine Tri.seq (Tri.reg hT ?_)
    refine .inl (.inl ⟨_, fun _ => rfl, f25_spec l hg, ?_⟩)
    refine ⟨_, [], trivial, rfl, rfl, fun h => ⟨rfl, rfl, rfl⟩, ?_⟩
    refine ⟨_, [], trivial, rfl, rfl, fun h => ⟨h, rfl, rfl, rfl⟩, ?_⟩
    refine ⟨⟨fun _ => trivial, fun hc => (gn hc)⟩, ?_⟩
    refine ⟨_, [], trivial, rfl, rfl, fun h => ⟨rfl, rfl, rfl⟩, ?_⟩
    refine ⟨_, [], trivial, rfl, rfl, fun h => ⟨h, rfl, rfl, rfl⟩, ?_⟩
    refine ⟨⟨fun _ => trivial, fun hc => (gn hc)⟩, ?_⟩
    refine (Tri.cond ⟨fun h2 => ?_, fun h2 => ?_⟩)
    · refine Tri.seq (Tri.reg hT ?_)
      refine Tri.ret ?_
      exact ⟨rfl, trivial⟩
    · refine (Tri.skip ?_)
      have g : withinR l = true ∧ ¬ pol < 1 ∧ ¬ pol > 4 := (by revert h2; cases withinR l <;> by_cases a1 : pol < 1 <;> by_cases a2 : pol > 4 <;> simp [a1, a2]); obtain ⟨hl, hs⟩ := within_of g.1; have g1 := g.2.1; have g2 := g.2.2
      refine Tri.seq (Tri.reg hT ?_)
      refine Tri.seq (Tri.reg hT ?_)
      refine Tri.seq ?_
      refine Tri.seq (Tri.reg hT ?_)
      refine (Tri.block ?_)
      refine (Tri.loop (ι := Nat) (fun i => ⟨70, 0, 20, [(0, .list pT l), (1, .int .i64 pol), (5, .list pT (J (mI l pol i))), (6, .int .i64 (conT l pol i)), (7, .int .i64 (i : Int))], [], []⟩) (fun i => i ≤ l.length) (fun i => l.length - i) (0) ?_ ?_ ?_)
      · exact Nat.zero_le _
      · exact Le.weakV rfl rfl rfl rfl ⟨rfl, rfl, rfl, rfl, rfl, trivial⟩ trivial
      · intro i hi
        refine Tri.seq ?_
        refine Tri.seq (Tri.reg hT ?_)
        refine (Tri.cond ⟨fun h3 => ?_, fun h3 => ?_⟩)
        · refine (Tri.skip ?_)
          refine Tri.seq (Tri.block ?_)
          have hi' := i_lt h3; have hc := conT_le l pol hs (i + 1) hi'; have hc0 := conT_le l pol hs i hi
          refine Tri.seq (Tri.reg hT ?_)
          refine ⟨(by first | ((try simp only [decide_eq_true_eq, decide_eq_false_iff_not, toNat_cast] at *); omega) | decide), ?_⟩
          refine .inl (.inl ⟨_, fun _ => rfl, ins2_spec (mg_mI l pol hs i (by omega)) (by omega) (hs _ (getD_mem (d := pD) hi')) (by omega) (by omega), ?_⟩)
          refine Tri.seq ?_
          refine Tri.seq (Tri.reg hT ?_)
          refine (Tri.cond ⟨fun h4 => ?_, fun h4 => ?_⟩)
          · exact absurd h4 (by decide)
          · refine (Tri.skip ?_)
            refine Tri.seq (Tri.reg hT ?_)
            refine (Tri.reg hT ?_)
            refine (Tri.reg hT ?_)
            exact ⟨i + 1, hi', by (try simp only [decide_eq_true_eq, decide_eq_false_iff_not, toNat_cast] at *); omega, Le.weak rfl rfl rfl rfl ⟨(by first | rfl | exact iv1 (by (try simp only [decide_eq_true_eq, decide_eq_false_iff_not, toNat_cast] at *); omega)), (by first | rfl | exact iv1 (by (try simp only [decide_eq_true_eq, decide_eq_false_iff_not, toNat_cast] at *); omega)), congrArg (fun z => AV.list pT (J z)) (mI_next l pol i hi').symm, congrArg (AV.int .i64) (show IntKind.i64.wrap (conT l pol i + (conS (mI l pol i) (l.getD i pD) : Nat)) = conT l pol i + (conS (mI l pol i) (l.getD i pD) : Nat) from wrapId (by simp only [conT] at hc; omega)), (by first | rfl | exact iv1 (by (try simp only [decide_eq_true_eq, decide_eq_false_iff_not, toNat_cast] at *); omega)), trivial⟩ trivial⟩
        · refine Tri.exit ?_
          obtain rfl : i = l.length := (by have := of_decide_eq_false h3; omega); have G := mg_mI l pol hs l.length (Nat.le_refl _)
          refine Tri.seq (Tri.reg hT ?_)
          refine .inl (.inl ⟨_, fun _ => rfl, f26_spec l pol hl hs, ?_⟩)
          refine Tri.seq (Tri.reg hT ?_)
          refine .inl (.inl ⟨_, fun _ => rfl, f19_spec _ 0 (by have := G.len; omega) (valid_inB G.valid) (by rw [J_lenSum G.ok]; have := mI_len l pol hs l.length (Nat.le_refl _); omega), ?_⟩)
          refine Tri.seq (Tri.reg hT ?_)
          refine ⟨_, [], trivial, rfl, rfl, fun h => ⟨rfl, rfl, rfl⟩, ?_⟩
          refine ⟨_, [], trivial, rfl, rfl, fun h => ⟨rfl, rfl, rfl⟩, ?_⟩
          refine ⟨_, [], trivial, rfl, rfl, fun h => ⟨h, h, rfl, rfl, rfl⟩, ?_⟩
          refine ⟨⟨fun hc => hc, fun _ => trivial⟩, ?_⟩
          refine Tri.ret ?_
          exact ⟨congrArg AV.bool (by simp), trivial⟩
end Go.Proofs.Ytjdjgabahkcjeaa.Fx
