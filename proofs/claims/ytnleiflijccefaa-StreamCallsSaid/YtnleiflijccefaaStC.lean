import Derived.Test.YtnleiflijccefaaStW
import Derived.Test.YtnleiflijccefaaStR
import Derived.Test.YtnleiflijccefaaGSt2
set_option linter.all false
/- Chapter 20: StreamCalls. -/
namespace Go.Proofs.Ytnleiflijccefaa.Fx
open Go Go.Fw Go.Ov
set_option maxRecDepth 8000 in
theorem f39_spec (s : SS) (B : Int) (h : SInv s B) (hB : B ≤ 1099511618000) (isn : Int) (c : Ca) (hd : c.2.2.1.length ≤ 1099511627776) (id : Nat) :
    CSpec P [] 39 [.loc id 0, .int .u32 isn, kv c] (oneU id (bxR s) (some (bxR (progS s isn c).2))) (rsv (progS s isn c).1) := by
  refine cspec_intro hT Try.func39 (by decide) rfl rfl (by kernel_rfl) rfl (fun _ => rfl) (fun _ => rfl) (fun _ => rfl) (fun _ => rfl) ?_ id
  refine Tri.seq (Tri.reg hT ?_)
  refine Tri.seq (Tri.reg hT ?_)
  refine Tri.seq ?_
  refine Tri.seq (Tri.reg hT ?_)
  refine (Tri.block ?_)
  refine Tri.seq (Tri.reg hT ?_)
  refine (Tri.cond ⟨fun h1 => ?_, fun h1 => ?_⟩)
  · refine Tri.seq (Tri.reg hT ?_)
    refine .inl (.inr (.inl ⟨_, _, (by exact ⟨rfl, trivial⟩), f65_spec s B h (by omega) _ _, (by rfl), ?_⟩))
    refine Tri.ret ?_
    have e : progS s isn c = (([], 0, 0, (endS s (seqS isn c)).1), (endS s (seqS isn c)).2) := if_pos (of_decide_eq_true h1); exact ⟨congrArg (fun z : Rs × SS => rsv z.1) e.symm, congrArg (fun z : Rs × SS => some (Chunk.box (bxR z.2))) e.symm, trivial⟩
  · refine Tri.seq (Tri.reg hT ?_)
    refine (Tri.cond ⟨fun h2 => ?_, fun h2 => ?_⟩)
    · refine Tri.seq (Tri.reg hT ?_)
      refine .inl (.inr (.inl ⟨_, _, (by exact ⟨rfl, trivial⟩), f66_spec s B h hB _ _, (by rfl), ?_⟩))
      refine Tri.seq (Tri.reg hT ?_)
      refine Tri.ret ?_
      have e : progS s isn c = (((lostS s (seqS isn c)).1.2, (lostS s (seqS isn c)).1.1, 0, false), (lostS s (seqS isn c)).2) := (if_neg (of_decide_eq_false h1)).trans (if_pos (of_decide_eq_true h2)); exact ⟨congrArg (fun z : Rs × SS => rsv z.1) e.symm, congrArg (fun z : Rs × SS => some (Chunk.box (bxR z.2))) e.symm, trivial⟩
    · refine (Tri.skip ?_)
      refine Tri.seq (Tri.reg hT ?_)
      refine .inl (.inr (.inl ⟨_, _, (by exact ⟨rfl, trivial⟩), f67_spec s B h (by omega) _ _ hd _, (by rfl), ?_⟩))
      refine Tri.seq (Tri.reg hT ?_)
      refine Tri.ret ?_
      have e : progS s isn c = (((addS s (seqS isn c) c.2.2.1).1.1, (addS s (seqS isn c) c.2.2.1).1.2.1, (addS s (seqS isn c) c.2.2.1).1.2.2, false), (addS s (seqS isn c) c.2.2.1).2) := (if_neg (of_decide_eq_false h1)).trans (if_neg (of_decide_eq_false h2)); exact ⟨congrArg (fun z : Rs × SS => rsv z.1) e.symm, congrArg (fun z : Rs × SS => some (Chunk.box (bxR z.2))) e.symm, trivial⟩
set_option maxRecDepth 8000 in
theorem f11_spec (x : Stt) (l : List Ca) (hl : l.length ≤ 140737488351232) : PSpec P [] 11 [stv x, .list kT l] (.bool true) := by
  refine pspec_intro hT Try.func11 (by decide) rfl rfl (by kernel_rfl) rfl ?_
  refine Tri.seq (Tri.reg hT ?_)
  refine Tri.seq ?_
  refine Tri.seq (Tri.reg hT ?_)
  refine .inl (.inl ⟨_, fun _ => rfl, f31_spec l hl, ?_⟩)
  refine (Tri.cond ⟨fun h1 => ?_, fun h1 => ?_⟩)
  · refine Tri.seq (Tri.reg hT ?_)
    refine .inl (.inl ⟨_, fun _ => rfl, f32_spec .., ?_⟩)
    refine Tri.ret ?_
    exact ⟨rfl, trivial⟩
  · refine (Tri.skip ?_)
    have hlg := longC_f h1
    refine Tri.seq (Tri.drw hT hm 15 (by kernel_rfl) ?_)
    refine .inr (.inr ⟨_, (by exact fun _ => rfl), f22_spec x.1 x.2.1 x.2.2.1, ?_⟩)
    refine .inr (.inr ⟨_, (by exact fun _ => rfl), f38_spec x.1 x.2.1 x.2.2.1, ?_⟩)
    refine ⟨by kernel_rfl, ?_⟩
    refine Tri.seq ?_
    refine Tri.seq (Tri.reg hT ?_)
    refine (Tri.cond ⟨fun h2 => ?_, fun h2 => ?_⟩)
    · exact absurd h2 (by decide)
    · refine (Tri.skip ?_)
      refine Tri.seq ?_
      refine Tri.seq (Tri.reg hT ?_)
      refine (Tri.block ?_)
      refine (Tri.loop (ι := Nat) (fun i => ⟨79, 0, 40, [(1, .list kT l), (2, .loc 0 0), (5, .loc 10 0), (6, .loc 17 0), (27, .list kT l), (28, .int .i64 l.length), (29, .int .i64 (i : Int))], [(0, .box [.int .u32 x.1, .int .i64 x.2.1, .int .i64 x.2.2.1]), (10, .box (bxS (atS x l i))), (17, .box (bxR (atS x l i)))], []⟩) (fun i => i ≤ l.length) (fun i => l.length - i) (0) ?_ ?_ ?_)
      · exact Nat.zero_le _
      · exact Le.weak rfl rfl rfl rfl ⟨(by first | rfl | exact iv1 (by (try simp only [decide_eq_true_eq, decide_eq_false_iff_not, toNat_cast] at *); omega)), (by first | rfl | exact iv1 (by (try simp only [decide_eq_true_eq, decide_eq_false_iff_not, toNat_cast] at *); omega)), (by first | rfl | exact iv1 (by (try simp only [decide_eq_true_eq, decide_eq_false_iff_not, toNat_cast] at *); omega)), (by first | rfl | exact iv1 (by (try simp only [decide_eq_true_eq, decide_eq_false_iff_not, toNat_cast] at *); omega)), (by first | rfl | exact iv1 (by (try simp only [decide_eq_true_eq, decide_eq_false_iff_not, toNat_cast] at *); omega)), (by first | rfl | exact iv1 (by (try simp only [decide_eq_true_eq, decide_eq_false_iff_not, toNat_cast] at *); omega)), (by first | rfl | exact iv1 (by (try simp only [decide_eq_true_eq, decide_eq_false_iff_not, toNat_cast] at *); omega)), trivial⟩ ⟨rfl, rfl, rfl, trivial⟩
      · intro i hi
        refine Tri.seq (Tri.reg hT ?_)
        refine Tri.seq (Tri.cond ⟨fun h3 => ?_, fun h3 => ?_⟩)
        · refine (Tri.skip ?_)
          refine Tri.seq (Tri.block ?_)
          have hi' := i_lt h3; have ki := atS_inv x (l := l) hi; have kj := atS_inv x (l := l) (i := i + 1) hi'; have en := runS_next (newS x.1 x.2.1 x.2.2.1) x.1 hi'; have kj' : SInv (progS (atS x l i) x.1 (l.getD i (Ty.dflt kT))).2 (8192 * (i + 1 : Nat)) := en ▸ kj; have ksz := kj'.size; have kl := kj'.len; have kw := kj'.win
          refine Tri.seq (Tri.reg hT ?_)
          refine Tri.seq (Tri.drw hT hm 45 (by kernel_rfl) ?_)
          refine ⟨by omega, ?_⟩
          refine .inr (.inl ⟨_, _, (by exact ⟨rfl, trivial⟩), f33_spec (atS x l i) _ ki (by omega) x.1 (l.getD i (Ty.dflt kT)) (by have := hlg.2 i hi'; omega) _, (by rfl), ?_⟩)
          refine ⟨by omega, ?_⟩
          refine .inr (.inl ⟨_, _, (by exact ⟨rfl, trivial⟩), f39_spec (atS x l i) _ ki (by omega) x.1 (l.getD i (Ty.dflt kT)) (by have := hlg.2 i hi'; omega) _, (by rfl), ?_⟩)
          refine ⟨_, [], trivial, rfl, rfl, fun h => ⟨rfl, rfl, rfl⟩, ?_⟩
          refine ⟨_, oneU 10 (bxS (progS (atS x l i) x.1 (l.getD i (Ty.dflt kT))).2) none, (by exact ⟨rfl, trivial⟩), rfl, (by rfl), fun h => ⟨h, (.inr (.inl ⟨_, _, (by exact ⟨rfl, trivial⟩), f34_spec _ _, (by rfl), rfl, rfl, rfl⟩))⟩, ?_⟩
          refine ⟨_, [], trivial, rfl, rfl, fun h => ⟨rfl, rfl, rfl⟩, ?_⟩
          refine ⟨_, oneU 17 (bxR (progS (atS x l i) x.1 (l.getD i (Ty.dflt kT))).2) none, (by exact ⟨rfl, trivial⟩), rfl, (by rfl), fun h => ⟨h, (.inr (.inl ⟨_, _, (by exact ⟨rfl, trivial⟩), f40_spec _ _, (by rfl), rfl, rfl, rfl⟩))⟩, ?_⟩
          refine ⟨_, [], trivial, rfl, rfl, fun h => ⟨h, h, rfl, rfl, rfl⟩, ?_⟩
          refine ⟨⟨fun _ => trivial, fun hc => (gn hc)⟩, ?_⟩
          refine ⟨_, [], trivial, rfl, rfl, fun h => ⟨rfl, rfl, rfl⟩, ?_⟩
          refine ⟨_, oneU 10 (bxS (progS (atS x l i) x.1 (l.getD i (Ty.dflt kT))).2) none, (by exact ⟨rfl, trivial⟩), rfl, (by rfl), fun h => ⟨h, (.inr (.inl ⟨_, _, (by exact ⟨rfl, trivial⟩), f41_spec _ _, (by rfl), rfl, rfl, rfl⟩))⟩, ?_⟩
          refine ⟨_, [], trivial, rfl, rfl, fun h => ⟨rfl, rfl, rfl⟩, ?_⟩
          refine ⟨_, oneU 17 (bxR (progS (atS x l i) x.1 (l.getD i (Ty.dflt kT))).2) none, (by exact ⟨rfl, trivial⟩), rfl, (by rfl), fun h => ⟨h, (.inr (.inl ⟨_, _, (by exact ⟨rfl, trivial⟩), f42_spec _ _, (by rfl), rfl, rfl, rfl⟩))⟩, ?_⟩
          refine ⟨_, [], trivial, rfl, rfl, fun h => ⟨h, h, rfl, rfl, rfl⟩, ?_⟩
          refine ⟨⟨fun _ => trivial, fun hc => (gn hc)⟩, ?_⟩
          refine ⟨_, [], trivial, rfl, rfl, fun h => ⟨rfl, rfl, rfl⟩, ?_⟩
          refine ⟨_, oneU 10 (bxS (progS (atS x l i) x.1 (l.getD i (Ty.dflt kT))).2) none, (by exact ⟨rfl, trivial⟩), rfl, (by rfl), fun h => ⟨h, (.inr (.inl ⟨_, _, (by exact ⟨rfl, trivial⟩), f43_spec (progS (atS x l i) x.1 (l.getD i (Ty.dflt kT))).2 (by omega) (by omega) _, (by rfl), rfl, rfl, rfl⟩))⟩, ?_⟩
          refine ⟨_, [], trivial, rfl, rfl, fun h => ⟨rfl, rfl, rfl⟩, ?_⟩
          refine ⟨_, oneU 17 (bxR (progS (atS x l i) x.1 (l.getD i (Ty.dflt kT))).2) none, (by exact ⟨rfl, trivial⟩), rfl, (by rfl), fun h => ⟨h, (.inr (.inl ⟨_, _, (by exact ⟨rfl, trivial⟩), f44_spec (progS (atS x l i) x.1 (l.getD i (Ty.dflt kT))).2 (by omega) (by omega) _, (by rfl), rfl, rfl, rfl⟩))⟩, ?_⟩
          refine ⟨_, [], trivial, rfl, rfl, fun h => ⟨h, h, rfl, rfl, rfl⟩, ?_⟩
          refine ⟨⟨fun _ => trivial, fun hc => (gn hc)⟩, ?_⟩
          refine ⟨_, [], trivial, rfl, rfl, fun h => ⟨rfl, rfl, rfl⟩, ?_⟩
          refine ⟨_, oneU 10 (bxS (progS (atS x l i) x.1 (l.getD i (Ty.dflt kT))).2) none, (by exact ⟨rfl, trivial⟩), rfl, (by rfl), fun h => ⟨h, (.inr (.inl ⟨_, _, (by exact ⟨rfl, trivial⟩), f45_spec _ _, (by rfl), rfl, rfl, rfl⟩))⟩, ?_⟩
          refine ⟨_, [], trivial, rfl, rfl, fun h => ⟨rfl, rfl, rfl⟩, ?_⟩
          refine ⟨_, oneU 17 (bxR (progS (atS x l i) x.1 (l.getD i (Ty.dflt kT))).2) none, (by exact ⟨rfl, trivial⟩), rfl, (by rfl), fun h => ⟨h, (.inr (.inl ⟨_, _, (by exact ⟨rfl, trivial⟩), f46_spec _ _, (by rfl), rfl, rfl, rfl⟩))⟩, ?_⟩
          refine ⟨_, [], trivial, rfl, rfl, fun h => ⟨h, h, rfl, rfl, rfl⟩, ?_⟩
          refine ⟨⟨fun _ => trivial, fun hc => (gn hc)⟩, ?_⟩
          refine ⟨by kernel_rfl, ?_⟩
          refine (Tri.cond ⟨fun h4 => ?_, fun h4 => ?_⟩)
          · simp at h4
          · refine (Tri.skip ?_)
            refine (Tri.reg hT ?_)
            exact ⟨i + 1, hi', (by omega), Le.weak rfl rfl rfl rfl ⟨(by first | rfl | exact iv1 (by (try simp only [decide_eq_true_eq, decide_eq_false_iff_not, toNat_cast] at *); omega)), (by first | rfl | exact iv1 (by (try simp only [decide_eq_true_eq, decide_eq_false_iff_not, toNat_cast] at *); omega)), (by first | rfl | exact iv1 (by (try simp only [decide_eq_true_eq, decide_eq_false_iff_not, toNat_cast] at *); omega)), (by first | rfl | exact iv1 (by (try simp only [decide_eq_true_eq, decide_eq_false_iff_not, toNat_cast] at *); omega)), (by first | rfl | exact iv1 (by (try simp only [decide_eq_true_eq, decide_eq_false_iff_not, toNat_cast] at *); omega)), (by first | rfl | exact iv1 (by (try simp only [decide_eq_true_eq, decide_eq_false_iff_not, toNat_cast] at *); omega)), (by first | rfl | exact iv1 (by (try simp only [decide_eq_true_eq, decide_eq_false_iff_not, toNat_cast] at *); omega)), trivial⟩ ⟨rfl, congrArg (fun s => some (Chunk.box (bxS s))) en.symm, congrArg (fun s => some (Chunk.box (bxR s))) en.symm, trivial⟩⟩
        · refine Tri.exit ?_
          refine Tri.seq (Tri.reg hT ?_)
          refine .inl (.inl ⟨_, fun _ => rfl, f32_spec .., ?_⟩)
          refine Tri.ret ?_
          exact ⟨rfl, trivial⟩
end Go.Proofs.Ytnleiflijccefaa.Fx
