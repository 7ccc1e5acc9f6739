/- Chapter 20: StreamShifts. -/
import Derived.Test.YtnleiflijccefaaStW
import Derived.Test.YtnleiflijccefaaSt6
set_option linter.all false
namespace Go.Proofs.Ytnleiflijccefaa.Fx
open Go Go.Fw Go.Ov
theorem newH (isn by_ win pol : Int) : NSpec P [] 22 [.int .u32 (IntKind.u32.wrap (isn + by_)), .int .i64 win, .int .i64 pol] (bxS (shS by_ (newS isn win pol))) := newS_sh isn by_ win pol ▸ f22_spec _ win pol
theorem progH (by_ : Int) (s : SS) (B : Int) (h : SInv s B) (hB : B ≤ 1099511618000) (isn : Int) (c : Ca) (hd : c.2.2.1.length ≤ 1099511627776) (id : Nat) :
    CSpec P [] 33 [.loc id 0, .int .u32 (IntKind.u32.wrap (isn + by_)), kv c] (oneU id (bxS (shS by_ s)) (some (bxS (shS by_ (progS s isn c).2)))) (rsv (progS s isn c).1) := by
  have := f33_spec (shS by_ s) B (shS_inv h) hB (IntKind.u32.wrap (isn + by_)) c hd id
  rw [progS_sh] at this
  exact this
theorem nextH (by_ : Int) (s : SS) (id : Nat) : CSpec P [] 34 [.loc id 0] (oneU id (bxS (shS by_ s)) none) (.int .u32 (IntKind.u32.wrap (nextS s + by_))) := by
  have := f34_spec (shS by_ s) id
  rw [nextS_sh] at this
  exact this
set_option maxRecDepth 8000 in
theorem f8_spec (x : Stt) (by_ : Int) (l : List Ca) (hl : l.length ≤ 140737488351232) : PSpec P [] 8 [stv x, .int .u32 by_, .list kT l] (.bool true) := by
  refine pspec_intro hT Try.func8 (by decide) rfl rfl (by kernel_rfl) rfl ?_
  refine Tri.seq (Tri.reg hT ?_)
  refine Tri.seq ?_
  refine Tri.seq (Tri.reg hT ?_)
  refine .inl (.inl ⟨_, fun _ => rfl, f31_spec l hl, ?_⟩)
  refine (Tri.cond ⟨fun h1 => ?_, fun h1 => ?_⟩)
  · refine Tri.seq (Tri.reg hT ?_)
    refine .inl (.inl ⟨_, fun _ => rfl, f32_spec .., ?_⟩)
    refine Tri.ret ?_
    exact ⟨rfl, trivial⟩
  · refine (Tri.skip ?_)
    have hlg := longC_f h1
    refine Tri.seq (Tri.drw hT hm 17 (by kernel_rfl) ?_)
    refine .inr (.inr ⟨_, (by exact fun _ => rfl), f22_spec x.1 x.2.1 x.2.2.1, ?_⟩)
    refine .inr (.inr ⟨_, (by exact fun _ => rfl), newH x.1 by_ x.2.1 x.2.2.1, ?_⟩)
    refine ⟨by kernel_rfl, ?_⟩
    refine Tri.seq ?_
    refine Tri.seq (Tri.reg hT ?_)
    refine ⟨_, [], trivial, rfl, rfl, fun h => ⟨rfl, rfl, rfl⟩, ?_⟩
    refine ⟨_, [], trivial, rfl, rfl, fun h => ⟨h, rfl, rfl, rfl⟩, ?_⟩
    refine ⟨⟨fun _ => trivial, fun hc => (gn hc)⟩, ?_⟩
    refine (Tri.cond ⟨fun h2 => ?_, fun h2 => ?_⟩)
    · exact absurd h2 (by decide)
    · refine (Tri.skip ?_)
      refine Tri.seq ?_
      refine Tri.seq (Tri.reg hT ?_)
      refine (Tri.block ?_)
      refine (Tri.loop (ι := Nat) (fun i => ⟨70, 0, 40, [(1, .int .u32 by_), (2, .list kT l), (3, .loc 0 0), (7, .loc 10 0), (8, .loc 19 0), (35, .list kT l), (36, .int .i64 l.length), (37, .int .i64 (i : Int))], [(0, .box [.int .u32 x.1, .int .i64 x.2.1, .int .i64 x.2.2.1]), (10, .box (bxS (atS x l i))), (19, .box (bxS (shS by_ (atS x l i))))], []⟩) (fun i => i ≤ l.length) (fun i => l.length - i) (0) ?_ ?_ ?_)
      · exact Nat.zero_le _
      · exact Le.weak rfl rfl rfl rfl ⟨(by first | rfl | exact iv1 (by (try simp only [decide_eq_true_eq, decide_eq_false_iff_not, toNat_cast] at *); omega)), (by first | rfl | exact iv1 (by (try simp only [decide_eq_true_eq, decide_eq_false_iff_not, toNat_cast] at *); omega)), (by first | rfl | exact iv1 (by (try simp only [decide_eq_true_eq, decide_eq_false_iff_not, toNat_cast] at *); omega)), (by first | rfl | exact iv1 (by (try simp only [decide_eq_true_eq, decide_eq_false_iff_not, toNat_cast] at *); omega)), (by first | rfl | exact iv1 (by (try simp only [decide_eq_true_eq, decide_eq_false_iff_not, toNat_cast] at *); omega)), (by first | rfl | exact iv1 (by (try simp only [decide_eq_true_eq, decide_eq_false_iff_not, toNat_cast] at *); omega)), (by first | rfl | exact iv1 (by (try simp only [decide_eq_true_eq, decide_eq_false_iff_not, toNat_cast] at *); omega)), (by first | rfl | exact iv1 (by (try simp only [decide_eq_true_eq, decide_eq_false_iff_not, toNat_cast] at *); omega)), trivial⟩ ⟨rfl, rfl, rfl, trivial⟩
      · intro i hi
        refine Tri.seq (Tri.reg hT ?_)
        refine Tri.seq (Tri.cond ⟨fun h3 => ?_, fun h3 => ?_⟩)
        · refine (Tri.skip ?_)
          refine Tri.seq (Tri.block ?_)
          have hi' := i_lt h3; have ki := atS_inv x (l := l) hi; have en := runS_next (newS x.1 x.2.1 x.2.2.1) x.1 hi'
          refine Tri.seq (Tri.reg hT ?_)
          refine Tri.seq (Tri.drw hT hm 28 (by kernel_rfl) ?_)
          refine ⟨by omega, ?_⟩
          refine .inr (.inl ⟨_, _, (by exact ⟨rfl, trivial⟩), f33_spec (atS x l i) _ ki (by omega) x.1 (l.getD i (Ty.dflt kT)) (by have := hlg.2 i hi'; omega) _, (by rfl), ?_⟩)
          refine ⟨by omega, ?_⟩
          refine .inr (.inl ⟨_, _, (by exact ⟨rfl, trivial⟩), progH by_ (atS x l i) _ ki (by omega) x.1 (l.getD i (Ty.dflt kT)) (by have := hlg.2 i hi'; omega) _, (by rfl), ?_⟩)
          refine ⟨_, [], trivial, rfl, rfl, fun h => ⟨rfl, rfl, rfl⟩, ?_⟩
          refine ⟨_, oneU 10 (bxS (progS (atS x l i) x.1 (l.getD i (Ty.dflt kT))).2) none, (by exact ⟨rfl, trivial⟩), rfl, (by rfl), fun h => ⟨h, (.inr (.inl ⟨_, _, (by exact ⟨rfl, trivial⟩), f34_spec _ _, (by rfl), rfl, rfl, rfl⟩))⟩, ?_⟩
          refine ⟨_, [], trivial, rfl, rfl, fun h => ⟨rfl, rfl, rfl⟩, ?_⟩
          refine ⟨_, [], trivial, rfl, rfl, fun h => ⟨h, h, rfl, rfl, rfl⟩, ?_⟩
          refine ⟨_, [], trivial, rfl, rfl, fun h => ⟨rfl, rfl, rfl⟩, ?_⟩
          refine ⟨_, oneU 19 (bxS (shS by_ (progS (atS x l i) x.1 (l.getD i (Ty.dflt kT))).2)) none, (by exact ⟨rfl, trivial⟩), rfl, (by rfl), fun h => ⟨h, (.inr (.inl ⟨_, _, (by exact ⟨rfl, trivial⟩), nextH by_ _ _, (by rfl), rfl, rfl, rfl⟩))⟩, ?_⟩
          refine ⟨_, [], trivial, rfl, rfl, fun h => ⟨h, h, rfl, rfl, rfl⟩, ?_⟩
          refine ⟨⟨fun _ => trivial, fun hc => (gn hc)⟩, ?_⟩
          refine ⟨by kernel_rfl, ?_⟩
          refine (Tri.cond ⟨fun h4 => ?_, fun h4 => ?_⟩)
          · simp at h4
          · refine (Tri.skip ?_)
            refine (Tri.reg hT ?_)
            exact ⟨i + 1, hi', (by omega), Le.weak rfl rfl rfl rfl ⟨(by first | rfl | exact iv1 (by (try simp only [decide_eq_true_eq, decide_eq_false_iff_not, toNat_cast] at *); omega)), (by first | rfl | exact iv1 (by (try simp only [decide_eq_true_eq, decide_eq_false_iff_not, toNat_cast] at *); omega)), (by first | rfl | exact iv1 (by (try simp only [decide_eq_true_eq, decide_eq_false_iff_not, toNat_cast] at *); omega)), (by first | rfl | exact iv1 (by (try simp only [decide_eq_true_eq, decide_eq_false_iff_not, toNat_cast] at *); omega)), (by first | rfl | exact iv1 (by (try simp only [decide_eq_true_eq, decide_eq_false_iff_not, toNat_cast] at *); omega)), (by first | rfl | exact iv1 (by (try simp only [decide_eq_true_eq, decide_eq_false_iff_not, toNat_cast] at *); omega)), (by first | rfl | exact iv1 (by (try simp only [decide_eq_true_eq, decide_eq_false_iff_not, toNat_cast] at *); omega)), (by first | rfl | exact iv1 (by (try simp only [decide_eq_true_eq, decide_eq_false_iff_not, toNat_cast] at *); omega)), trivial⟩ ⟨rfl, congrArg (fun s => some (Chunk.box (bxS s))) en.symm, congrArg (fun s => some (Chunk.box (bxS (shS by_ s)))) en.symm, trivial⟩⟩
        · refine Tri.exit ?_
          refine Tri.seq (Tri.reg hT ?_)
          refine .inl (.inl ⟨_, fun _ => rfl, f32_spec .., ?_⟩)
          refine Tri.ret ?_
          exact ⟨rfl, trivial⟩
end Go.Proofs.Ytnleiflijccefaa.Fx
