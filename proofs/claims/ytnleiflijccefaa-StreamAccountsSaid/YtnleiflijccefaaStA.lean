/- Chapter 20: StreamAccounts. -/
import Derived.Test.YtnleiflijccefaaStW
import Derived.Test.YtnleiflijccefaaSt7
set_option linter.all false
namespace Go.Proofs.Ytnleiflijccefaa.Fx
open Go Go.Fw Go.Ov
set_option maxRecDepth 8000 in
theorem f13_spec (x : Stt) (l : List Ca) (hl : l.length ≤ 140737488351232) : PSpec P [] 13 [stv x, .list kT l] (.bool true) := by
  refine pspec_intro hT Try.func13 (by decide) rfl rfl (by kernel_rfl) rfl ?_
  refine Tri.seq (Tri.reg hT ?_)
  refine Tri.seq ?_
  refine Tri.seq (Tri.reg hT ?_)
  refine .inl (.inl ⟨_, fun _ => rfl, f31_spec l hl, ?_⟩)
  refine (Tri.cond ⟨fun h1 => ?_, fun h1 => ?_⟩)
  · refine Tri.seq (Tri.reg hT ?_)
    refine .inl (.inl ⟨_, fun _ => rfl, f32_spec .., ?_⟩)
    refine Tri.ret ?_
    exact ⟨rfl, trivial⟩
  · refine (Tri.skip ?_)
    have hlg := longC_f h1
    refine Tri.seq (Tri.reg hT ?_)
    refine .inl (.inr (.inr ⟨_, (by exact fun _ => rfl), f22_spec x.1 x.2.1 x.2.2.1, ?_⟩))
    refine Tri.seq ?_
    refine Tri.seq (Tri.reg hT ?_)
    refine (Tri.cond ⟨fun h2 => ?_, fun h2 => ?_⟩)
    · exact absurd h2 (by decide)
    · refine (Tri.skip ?_)
      refine Tri.seq (Tri.reg hT ?_)
      refine Tri.seq (Tri.reg hT ?_)
      refine Tri.seq ?_
      refine Tri.seq (Tri.reg hT ?_)
      refine (Tri.block ?_)
      refine (Tri.loop (ι := Nat) (fun i => ⟨130, 0, 40, [(1, .list kT l), (2, .loc 0 0), (5, .loc 10 0), (6, .int .i64 (min (max x.2.1 1) 8192)), (7, .int .i64 (atS x l i).pos), (27, .list kT l), (28, .int .i64 l.length), (29, .int .i64 (i : Int))], [(0, .box [.int .u32 x.1, .int .i64 x.2.1, .int .i64 x.2.2.1]), (10, .box (bxS (atS x l i)))], []⟩) (fun i => i ≤ l.length) (fun i => l.length - i) (0) ?_ ?_ ?_)
      · exact Nat.zero_le _
      · exact Le.weak rfl rfl rfl rfl ⟨(by first | rfl | exact iv1 (by (try simp only [decide_eq_true_eq, decide_eq_false_iff_not, toNat_cast] at *); omega)), (by first | rfl | exact iv1 (by (try simp only [decide_eq_true_eq, decide_eq_false_iff_not, toNat_cast] at *); omega)), (by first | rfl | exact iv1 (by (try simp only [decide_eq_true_eq, decide_eq_false_iff_not, toNat_cast] at *); omega)), (by first | rfl | exact iv1 (by (try simp only [decide_eq_true_eq, decide_eq_false_iff_not, toNat_cast] at *); omega)), (by first | rfl | exact iv1 (by (try simp only [decide_eq_true_eq, decide_eq_false_iff_not, toNat_cast] at *); omega)), (by first | rfl | exact iv1 (by (try simp only [decide_eq_true_eq, decide_eq_false_iff_not, toNat_cast] at *); omega)), (by first | rfl | exact iv1 (by (try simp only [decide_eq_true_eq, decide_eq_false_iff_not, toNat_cast] at *); omega)), (by first | rfl | exact iv1 (by (try simp only [decide_eq_true_eq, decide_eq_false_iff_not, toNat_cast] at *); omega)), trivial⟩ ⟨rfl, rfl, trivial⟩
      · intro i hi
        refine Tri.seq (Tri.reg hT ?_)
        refine Tri.seq (Tri.cond ⟨fun h3 => ?_, fun h3 => ?_⟩)
        · refine (Tri.skip ?_)
          refine Tri.seq (Tri.block ?_)
          have hi' := i_lt h3; have ki := atS_inv x (l := l) hi; have kj := atS_inv x (l := l) (i := i + 1) hi'; have en := runS_next (newS x.1 x.2.1 x.2.2.1) x.1 hi'; have ok := progS_ok ki x.1 (l.getD i (Ty.dflt kT)); have sm := atS_same x (l := l) (i := i + 1) hi'; have kp := ki.posB; have kp0 := ki.pos0; have kq := kj.posB; have kq0 := kj.pos0; have hsum := ok.sum; have ha0 := ok.a0
          refine Tri.seq (Tri.reg hT ?_)
          refine Tri.seq (Tri.drw hT hm 9 (by kernel_rfl) ?_)
          refine ⟨by omega, ?_⟩
          refine .inr (.inl ⟨_, _, (by exact ⟨rfl, trivial⟩), f33_spec (atS x l i) _ ki (by omega) x.1 (l.getD i (Ty.dflt kT)) (by have := hlg.2 i hi'; omega) _, (by rfl), ?_⟩)
          refine ⟨by kernel_rfl, ?_⟩
          refine Tri.seq (Tri.reg hT ?_)
          have ep : (atS x l (i + 1)).pos = (progS (atS x l i) x.1 (l.getD i (Ty.dflt kT))).2.pos := congrArg SS.pos en; have ksz := kj.size; have kl := kj.len; have kw := kj.win
          refine Tri.join (True) (⟨130, 0, 60, [(1, .list kT l), (2, .loc 0 0), (5, .loc 10 0), (6, .int .i64 (min (max x.2.1 1) 8192)), (7, .int .i64 (atS x l (i + 1)).pos), (8, .int .i64 (i : Int)), (9, .loc 51 0), (27, .list kT l), (28, .int .i64 l.length), (29, .int .i64 (i : Int))], [(0, .box [.int .u32 x.1, .int .i64 x.2.1, .int .i64 x.2.2.1]), (10, .box (bxS (atS x l (i + 1)))), (51, .box [.str (progS (atS x l i) x.1 (l.getD i (Ty.dflt kT))).1.1, .int .i64 (progS (atS x l i) x.1 (l.getD i (Ty.dflt kT))).1.2.1, .int .i64 (progS (atS x l i) x.1 (l.getD i (Ty.dflt kT))).1.2.2.1, .bool (progS (atS x l i) x.1 (l.getD i (Ty.dflt kT))).1.2.2.2])], []⟩) ?_ fun hp4 => ?_
          · refine Tri.seq (Tri.reg hT ?_)
            refine ⟨by omega, ?_⟩
            refine (Tri.cond ⟨fun h4 => ?_, fun h4 => ?_⟩)
            · refine (Tri.reg hT ?_)
              have h4' := of_decide_eq_true h4; rw [toNat_cast] at h4'; rw [if_pos h4'] at hsum; have w1 : IntKind.i64.wrap ((atS x l i).pos + ((progS (atS x l i) x.1 (l.getD i (Ty.dflt kT))).1.1.length : Int)) = (atS x l i).pos + (progS (atS x l i) x.1 (l.getD i (Ty.dflt kT))).1.1.length := wrapId (by omega); have w2 : IntKind.i64.wrap ((atS x l i).pos + ((progS (atS x l i) x.1 (l.getD i (Ty.dflt kT))).1.1.length : Int) + (progS (atS x l i) x.1 (l.getD i (Ty.dflt kT))).1.2.1) = (atS x l i).pos + (progS (atS x l i) x.1 (l.getD i (Ty.dflt kT))).1.1.length + (progS (atS x l i) x.1 (l.getD i (Ty.dflt kT))).1.2.1 := wrapId (by omega)
              exact ⟨trivial, Le.weak rfl rfl rfl rfl ⟨(by first | rfl | exact iv1 (by (try simp only [decide_eq_true_eq, decide_eq_false_iff_not, toNat_cast] at *); omega)), (by first | rfl | exact iv1 (by (try simp only [decide_eq_true_eq, decide_eq_false_iff_not, toNat_cast] at *); omega)), (by first | rfl | exact iv1 (by (try simp only [decide_eq_true_eq, decide_eq_false_iff_not, toNat_cast] at *); omega)), (by first | rfl | exact iv1 (by (try simp only [decide_eq_true_eq, decide_eq_false_iff_not, toNat_cast] at *); omega)), congrArg (AV.int .i64) (by rw [w1, w2]; omega), (by first | rfl | exact iv1 (by (try simp only [decide_eq_true_eq, decide_eq_false_iff_not, toNat_cast] at *); omega)), (by first | rfl | exact iv1 (by (try simp only [decide_eq_true_eq, decide_eq_false_iff_not, toNat_cast] at *); omega)), (by first | rfl | exact iv1 (by (try simp only [decide_eq_true_eq, decide_eq_false_iff_not, toNat_cast] at *); omega)), (by first | rfl | exact iv1 (by (try simp only [decide_eq_true_eq, decide_eq_false_iff_not, toNat_cast] at *); omega)), (by first | rfl | exact iv1 (by (try simp only [decide_eq_true_eq, decide_eq_false_iff_not, toNat_cast] at *); omega)), trivial⟩ ⟨rfl, congrArg (fun s => some (Chunk.box (bxS s))) en.symm, rfl, trivial⟩⟩
            · refine (Tri.skip ?_)
              have h4' := of_decide_eq_false h4; rw [toNat_cast] at h4'; rw [if_neg h4'] at hsum; have w1 : IntKind.i64.wrap ((atS x l i).pos + ((progS (atS x l i) x.1 (l.getD i (Ty.dflt kT))).1.1.length : Int)) = (atS x l i).pos + (progS (atS x l i) x.1 (l.getD i (Ty.dflt kT))).1.1.length := wrapId (by omega)
              exact ⟨trivial, Le.weak rfl rfl rfl rfl ⟨(by first | rfl | exact iv1 (by (try simp only [decide_eq_true_eq, decide_eq_false_iff_not, toNat_cast] at *); omega)), (by first | rfl | exact iv1 (by (try simp only [decide_eq_true_eq, decide_eq_false_iff_not, toNat_cast] at *); omega)), (by first | rfl | exact iv1 (by (try simp only [decide_eq_true_eq, decide_eq_false_iff_not, toNat_cast] at *); omega)), (by first | rfl | exact iv1 (by (try simp only [decide_eq_true_eq, decide_eq_false_iff_not, toNat_cast] at *); omega)), congrArg (AV.int .i64) (by rw [w1]; omega), (by first | rfl | exact iv1 (by (try simp only [decide_eq_true_eq, decide_eq_false_iff_not, toNat_cast] at *); omega)), (by first | rfl | exact iv1 (by (try simp only [decide_eq_true_eq, decide_eq_false_iff_not, toNat_cast] at *); omega)), (by first | rfl | exact iv1 (by (try simp only [decide_eq_true_eq, decide_eq_false_iff_not, toNat_cast] at *); omega)), (by first | rfl | exact iv1 (by (try simp only [decide_eq_true_eq, decide_eq_false_iff_not, toNat_cast] at *); omega)), (by first | rfl | exact iv1 (by (try simp only [decide_eq_true_eq, decide_eq_false_iff_not, toNat_cast] at *); omega)), trivial⟩ ⟨rfl, congrArg (fun s => some (Chunk.box (bxS s))) en.symm, rfl, trivial⟩⟩
          · refine Tri.seq ?_
            refine Tri.seq (Tri.reg hT ?_)
            refine .inl (.inr (.inl ⟨_, _, (by exact ⟨rfl, trivial⟩), f41_spec (atS x l (i + 1)) _, (by rfl), ?_⟩))
            refine ⟨_, [], trivial, rfl, rfl, fun h => ⟨rfl, rfl, rfl⟩, ?_⟩
            refine ⟨_, oneU 10 (bxS (atS x l (i + 1))) none, (by exact ⟨rfl, trivial⟩), rfl, (by rfl), fun h => ⟨h, (.inr (.inl ⟨_, _, (by exact ⟨rfl, trivial⟩), f43_spec (atS x l (i + 1)) (by omega) (by omega) _, (by rfl), rfl, rfl, rfl⟩))⟩, ?_⟩
            refine ⟨_, [], trivial, rfl, rfl, fun h => ⟨h, rfl, rfl, rfl⟩, ?_⟩
            refine ⟨⟨fun _ => trivial, fun hc => (gn hc)⟩, ?_⟩
            refine ⟨_, [], trivial, rfl, rfl, fun h => ⟨rfl, rfl, rfl⟩, ?_⟩
            refine ⟨_, oneU 10 (bxS (atS x l (i + 1))) none, (by exact ⟨rfl, trivial⟩), rfl, (by rfl), fun h => ⟨h, (.inr (.inl ⟨_, _, (by exact ⟨rfl, trivial⟩), f43_spec (atS x l (i + 1)) (by omega) (by omega) _, (by rfl), rfl, rfl, rfl⟩))⟩, ?_⟩
            refine ⟨_, [], trivial, rfl, rfl, fun h => ⟨rfl, rfl, rfl⟩, ?_⟩
            refine ⟨_, [], trivial, rfl, rfl, fun h => ⟨h, h, rfl, rfl, rfl⟩, ?_⟩
            refine ⟨⟨fun _ => trivial, fun hc => (gn hc)⟩, ?_⟩
            refine ⟨_, [], trivial, rfl, rfl, fun h => ⟨rfl, rfl, rfl⟩, ?_⟩
            refine ⟨_, [], trivial, rfl, rfl, fun h => ⟨h, rfl, rfl, rfl⟩, ?_⟩
            refine ⟨_, [], trivial, rfl, rfl, fun h => ⟨h, rfl, rfl, rfl⟩, ?_⟩
            refine ⟨⟨fun _ => trivial, fun hc => (gn hc)⟩, ?_⟩
            refine ⟨_, [], trivial, rfl, rfl, fun h => ⟨rfl, rfl, rfl⟩, ?_⟩
            refine ⟨_, [], trivial, rfl, rfl, fun h => ⟨h, rfl, rfl, rfl⟩, ?_⟩
            refine ⟨_, [], trivial, rfl, rfl, fun h => ⟨h, rfl, rfl, rfl⟩, ?_⟩
            refine ⟨⟨fun _ => trivial, fun hc => (gn hc)⟩, ?_⟩
            refine ⟨_, [], trivial, rfl, rfl, fun h => ⟨rfl, rfl, rfl⟩, ?_⟩
            refine ⟨_, oneU 10 (bxS (atS x l (i + 1))) none, (by exact ⟨rfl, trivial⟩), rfl, (by rfl), fun h => ⟨h, (.inr (.inl ⟨_, _, (by exact ⟨rfl, trivial⟩), f45_spec (atS x l (i + 1)) _, (by rfl), rfl, rfl, rfl⟩))⟩, ?_⟩
            refine ⟨_, [], trivial, rfl, rfl, fun h => ⟨h, rfl, rfl, rfl⟩, ?_⟩
            refine ⟨_, [], trivial, rfl, rfl, fun h => ⟨rfl, rfl, rfl⟩, ?_⟩
            refine ⟨_, oneU 10 (bxS (atS x l (i + 1))) none, (by exact ⟨rfl, trivial⟩), rfl, (by rfl), fun h => ⟨h, (.inr (.inl ⟨_, _, (by exact ⟨rfl, trivial⟩), f43_spec (atS x l (i + 1)) (by omega) (by omega) _, (by rfl), rfl, rfl, rfl⟩))⟩, ?_⟩
            refine ⟨_, [], trivial, rfl, rfl, fun h => ⟨h, rfl, rfl, rfl⟩, ?_⟩
            refine ⟨_, [], trivial, rfl, rfl, fun h => ⟨h, ⟨fun hc => ga h hc, fun _ => trivial⟩, rfl, rfl, rfl⟩, ?_⟩
            refine ⟨⟨fun _ => trivial, fun hc => (gn hc)⟩, ?_⟩
            refine (Tri.cond ⟨fun h5 => ?_, fun h5 => ?_⟩)
            · have hb0 := ok.b0; generalize (progS (atS x l i) x.1 (l.getD i (Ty.dflt kT))).1.2.1 = ra at h5 ha0; generalize (progS (atS x l i) x.1 (l.getD i (Ty.dflt kT))).1.2.2.1 = rb at h5 hb0; have e1 : ¬ lenSum (atS x l (i + 1)).l < 0 := (by omega); have e2 : ¬ lenSum (atS x l (i + 1)).l > min (max x.2.1 1) 8192 := (by have := sm.1; omega); (by_cases he : endedS (atS x l (i + 1)) = true); (have e5 := ended_size kj he; simp [he, e5] at h5; omega); (simp [he] at h5; omega)
            · refine (Tri.skip ?_)
              refine Tri.seq ?_
              refine Tri.seq (Tri.drw hT hm 25 (by kernel_rfl) ?_)
              refine ⟨by omega, ?_⟩
              refine ⟨_, [], trivial, rfl, rfl, fun h => ⟨rfl, rfl, rfl⟩, ?_⟩
              refine ⟨_, [], trivial, rfl, rfl, fun h => ⟨rfl, rfl, rfl⟩, ?_⟩
              refine ⟨_, [], trivial, rfl, rfl, fun h => ⟨h, h, by omega, rfl, rfl, rfl⟩, ?_⟩
              refine ⟨_, [], trivial, rfl, rfl, fun h => ⟨h, rfl, rfl, rfl⟩, ?_⟩
              refine ⟨_, [], trivial, rfl, rfl, fun h => ⟨h, rfl, rfl, rfl⟩, ?_⟩
              refine ⟨_, [], trivial, rfl, rfl, fun h => ⟨h, rfl, rfl, rfl⟩, ?_⟩
              refine ⟨⟨fun hc => hc, fun _ => trivial⟩, ?_⟩
              refine ⟨_, [], trivial, rfl, rfl, fun h => ⟨rfl, rfl, rfl⟩, ?_⟩
              refine ⟨_, [], trivial, rfl, rfl, fun h => ⟨h, rfl, rfl, rfl⟩, ?_⟩
              refine ⟨_, [], trivial, rfl, rfl, fun h => ⟨rfl, rfl, rfl⟩, ?_⟩
              refine ⟨_, [], trivial, rfl, rfl, fun h => ⟨rfl, rfl, rfl⟩, ?_⟩
              refine ⟨_, [], trivial, rfl, rfl, fun h => ⟨h, h, by omega, rfl, rfl, rfl⟩, ?_⟩
              refine ⟨_, [], trivial, rfl, rfl, fun h => ⟨h, rfl, rfl, rfl⟩, ?_⟩
              refine ⟨_, [], trivial, rfl, rfl, fun h => ⟨h, rfl, rfl, rfl⟩, ?_⟩
              refine ⟨_, [], trivial, rfl, rfl, fun h => ⟨h, rfl, rfl, rfl⟩, ?_⟩
              refine ⟨_, [], trivial, rfl, rfl, fun h => ⟨h, h, rfl, rfl, rfl⟩, ?_⟩
              refine ⟨⟨fun hc => hc, fun _ => trivial⟩, ?_⟩
              refine ⟨by kernel_rfl, ?_⟩
              refine (Tri.cond ⟨fun h6 => ?_, fun h6 => ?_⟩)
              · rw [toNat_cast] at h6; have e1 := ok.cut; generalize (progS (atS x l i) x.1 (l.getD i (Ty.dflt kT))).1.2.1 = ra at h6 e1; generalize l.getD i (Ty.dflt kT) = c at h6 e1; simp at h6; have := e1 h6.1.1 h6.1.2; omega
              · refine (Tri.skip ?_)
                refine Tri.seq (Tri.reg hT ?_)
                refine Tri.seq ?_
                refine Tri.seq (Tri.reg hT ?_)
                refine .inl (.inr (.inl ⟨_, _, (by exact ⟨rfl, trivial⟩), f45_spec (atS x l (i + 1)) _, (by rfl), ?_⟩))
                refine (Tri.cond ⟨fun h7 => ?_, fun h7 => ?_⟩)
                · refine (Tri.reg hT ?_)
                  refine Tri.seq (Tri.reg hT ?_)
                  refine .inl (.inr (.inl ⟨_, _, (by exact ⟨rfl, trivial⟩), f34_spec (atS x l (i + 1)) _, (by rfl), ?_⟩))
                  refine (Tri.cond ⟨fun h8 => ?_, fun h8 => ?_⟩)
                  · have e : nextS (atS x l (i + 1)) = IntKind.u32.wrap (IntKind.u32.wrap (IntKind.u32.wrap (x.1 + 1) + IntKind.u32.wrap (atS x l (i + 1)).pos) + 1) := (by unfold nextS; rw [if_pos h7, sm.2]); exact absurd e (of_decide_eq_true h8)
                  · refine (Tri.skip ?_)
                    refine (Tri.reg hT ?_)
                    exact ⟨i + 1, hi', (by omega), Le.weak rfl rfl rfl rfl ⟨(by first | rfl | exact iv1 (by (try simp only [decide_eq_true_eq, decide_eq_false_iff_not, toNat_cast] at *); omega)), (by first | rfl | exact iv1 (by (try simp only [decide_eq_true_eq, decide_eq_false_iff_not, toNat_cast] at *); omega)), (by first | rfl | exact iv1 (by (try simp only [decide_eq_true_eq, decide_eq_false_iff_not, toNat_cast] at *); omega)), (by first | rfl | exact iv1 (by (try simp only [decide_eq_true_eq, decide_eq_false_iff_not, toNat_cast] at *); omega)), (by first | rfl | exact iv1 (by (try simp only [decide_eq_true_eq, decide_eq_false_iff_not, toNat_cast] at *); omega)), (by first | rfl | exact iv1 (by (try simp only [decide_eq_true_eq, decide_eq_false_iff_not, toNat_cast] at *); omega)), (by first | rfl | exact iv1 (by (try simp only [decide_eq_true_eq, decide_eq_false_iff_not, toNat_cast] at *); omega)), (by first | rfl | exact iv1 (by (try simp only [decide_eq_true_eq, decide_eq_false_iff_not, toNat_cast] at *); omega)), trivial⟩ ⟨rfl, rfl, trivial⟩⟩
                · refine (Tri.skip ?_)
                  refine Tri.seq (Tri.reg hT ?_)
                  refine .inl (.inr (.inl ⟨_, _, (by exact ⟨rfl, trivial⟩), f34_spec (atS x l (i + 1)) _, (by rfl), ?_⟩))
                  refine (Tri.cond ⟨fun h9 => ?_, fun h9 => ?_⟩)
                  · have e : nextS (atS x l (i + 1)) = IntKind.u32.wrap (IntKind.u32.wrap (x.1 + 1) + IntKind.u32.wrap (atS x l (i + 1)).pos) := (by unfold nextS; rw [if_neg (by rw [h7]; decide), sm.2]); exact absurd e (of_decide_eq_true h9)
                  · refine (Tri.skip ?_)
                    refine (Tri.reg hT ?_)
                    exact ⟨i + 1, hi', (by omega), Le.weak rfl rfl rfl rfl ⟨(by first | rfl | exact iv1 (by (try simp only [decide_eq_true_eq, decide_eq_false_iff_not, toNat_cast] at *); omega)), (by first | rfl | exact iv1 (by (try simp only [decide_eq_true_eq, decide_eq_false_iff_not, toNat_cast] at *); omega)), (by first | rfl | exact iv1 (by (try simp only [decide_eq_true_eq, decide_eq_false_iff_not, toNat_cast] at *); omega)), (by first | rfl | exact iv1 (by (try simp only [decide_eq_true_eq, decide_eq_false_iff_not, toNat_cast] at *); omega)), (by first | rfl | exact iv1 (by (try simp only [decide_eq_true_eq, decide_eq_false_iff_not, toNat_cast] at *); omega)), (by first | rfl | exact iv1 (by (try simp only [decide_eq_true_eq, decide_eq_false_iff_not, toNat_cast] at *); omega)), (by first | rfl | exact iv1 (by (try simp only [decide_eq_true_eq, decide_eq_false_iff_not, toNat_cast] at *); omega)), (by first | rfl | exact iv1 (by (try simp only [decide_eq_true_eq, decide_eq_false_iff_not, toNat_cast] at *); omega)), trivial⟩ ⟨rfl, rfl, trivial⟩⟩
        · refine Tri.exit ?_
          refine Tri.seq (Tri.reg hT ?_)
          refine .inl (.inl ⟨_, fun _ => rfl, f32_spec .., ?_⟩)
          refine Tri.ret ?_
          exact ⟨rfl, trivial⟩
end Go.Proofs.Ytnleiflijccefaa.Fx
