import Derived.Test.YtngmadndlmceoaaLxR
import Derived.Test.YtngmadndlmceoaaGLx3
set_option linter.all false
/- Contracts of chapter 04: the cursor's moves. -/
namespace Go.Proofs.Ytngmadndlmceoaa.Fx
open Go Go.Fw Go.Ov Go.Lx
abbrev cT : Ty := .cons (.int .i64) (.cons .str .nil)
theorem move_t {b : Bool} {L : List Tk} {i : Nat} (hL : L.length ≤ 16001) (hi : i < L.length) (h : (if b = true then decide ((i : Int) < IntKind.i64.wrap ((L.length : Int) - 1)) else false) = true) : moveI b L i = i + 1 ∧ i + 1 < L.length := by
  cases b with
  | false => cases h
  | true =>
    rw [if_pos rfl, wrapId (by omega)] at h
    have := of_decide_eq_true h
    have q : i < L.length - 1 := by omega
    exact ⟨if_pos q, by omega⟩
theorem move_f {b : Bool} {L : List Tk} {i : Nat} (hL : L.length ≤ 16001) (hi : i < L.length) (h : (if b = true then decide ((i : Int) < IntKind.i64.wrap ((L.length : Int) - 1)) else false) = false) : moveI b L i = i := by
  cases b with
  | false => rfl
  | true =>
    rw [if_pos rfl, wrapId (by omega)] at h
    have := of_decide_eq_false h
    have q : ¬ i < L.length - 1 := by omega
    exact if_neg q
theorem intT_t {t : Tk} (h : (if decide (t.1 ≠ 1) = true then true else !(numS t.2.1).2) = true) : intT t = (0, false) :=
  if_neg (fun q => by rw [show decide (t.1 ≠ 1) = false from decide_eq_false (fun n => n q.1), q.2] at h; cases h)
theorem intT_f {t : Tk} (h : (if decide (t.1 ≠ 1) = true then true else !(numS t.2.1).2) = false) : intT t = numS t.2.1 := by
  have q1 : t.1 = 1 := Classical.byContradiction (fun n => by rw [show decide (t.1 ≠ 1) = true from decide_eq_true n] at h; cases h)
  have q2 : (numS t.2.1).2 = true := by rw [show decide (t.1 ≠ 1) = false from decide_eq_false (fun n => n q1)] at h; simpa using h
  unfold intT
  rw [if_pos ⟨q1, q2⟩]
  exact Prod.ext rfl q2.symm
set_option maxRecDepth 8000 in
theorem f6_spec (s : List UInt8) (l : List cT.D) (hl : l.length ≤ 140737488355328) : PSpec P [] 6 [.str s, .list cT l] (.bool true) := by
  have hL := scanS_len s
  have hS := scanS_short s
  refine pspec_intro hT Try.func6 (by decide) rfl rfl (by kernel_rfl) rfl ?_
  refine Tri.seq (Tri.reg hT ?_)
  refine Tri.seq ?_
  refine Tri.seq (Tri.reg hT ?_)
  refine ⟨_, [], trivial, rfl, rfl, fun h => ⟨rfl, rfl, rfl⟩, ?_⟩
  refine ⟨_, [], trivial, rfl, rfl, fun h => ⟨h, rfl, rfl, rfl⟩, ?_⟩
  refine ⟨_, [], trivial, rfl, rfl, fun h => ⟨h, rfl, rfl, rfl⟩, ?_⟩
  refine ⟨⟨fun _ => trivial, fun hc => (gn hc)⟩, ?_⟩
  refine (Tri.cond ⟨fun h1 => ?_, fun h1 => ?_⟩)
  · refine Tri.seq (Tri.reg hT ?_)
    refine .inl (.inl ⟨_, fun _ => rfl, f9_spec, ?_⟩)
    refine Tri.ret ?_
    exact ⟨rfl, trivial⟩
  · refine (Tri.skip ?_)
    have hl60 : l.length ≤ 60 := (by rw [ifo] at h1; have := of_decide_eq_false (Bool.or_eq_false_iff.1 h1).2; omega)
    refine Tri.seq (Tri.reg hT ?_)
    refine .inl (.inl ⟨_, fun _ => rfl, f13_spec s, ?_⟩)
    cases hE : decide ((scanS s).2.1 = 0)
    · refine Tri.seq (Tri.regM hT [1] ?_)
      refine ⟨_, Le.refl _, .inl (.inr (OpTri.hcall 60 rfl rfl rfl (newCur_b s 40 hE) trivial trivial rfl ?_))⟩
      refine Tri.seq ?_
      refine Tri.seq (Tri.reg hT ?_)
      refine (Tri.cond ⟨fun h2 => ?_, fun h2 => ?_⟩)
      · exact absurd rfl (of_decide_eq_true h2)
      · refine (Tri.skip ?_)
        refine Tri.seq ?_
        refine Tri.seq (Tri.reg hT ?_)
        refine (Tri.cond ⟨fun h3 => ?_, fun h3 => ?_⟩)
        · refine Tri.seq (Tri.reg hT ?_)
          refine ⟨_, [], trivial, rfl, rfl, fun h => (.inl ⟨_, fun _ => rfl, f9_spec, rfl, rfl, rfl⟩), ?_⟩
          refine ⟨⟨fun hc => hc, fun _ => trivial⟩, ?_⟩
          refine Tri.ret ?_
          exact ⟨rfl, trivial⟩
        · exact absurd (of_decide_eq_false hE) (of_decide_eq_false h3)
    · refine Tri.seq (Tri.regM hT [1] ?_)
      refine ⟨_, Le.refl _, .inl (.inr (OpTri.hcall 60 rfl rfl rfl (newCur_b s 40 hE) trivial trivial rfl ?_))⟩
      refine Tri.seq ?_
      refine Tri.seq (Tri.reg hT ?_)
      refine (Tri.cond ⟨fun h4 => ?_, fun h4 => ?_⟩)
      · exact absurd rfl (of_decide_eq_true h4)
      · refine (Tri.skip ?_)
        refine Tri.seq ?_
        refine Tri.seq (Tri.reg hT ?_)
        refine (Tri.cond ⟨fun h5 => ?_, fun h5 => ?_⟩)
        · exact absurd (of_decide_eq_true hE) (of_decide_eq_true h5)
        · refine (Tri.skip ?_)
          refine Tri.seq ?_
          refine Tri.seq (Tri.reg hT ?_)
          refine (Tri.cond ⟨fun h6 => ?_, fun h6 => ?_⟩)
          · exact absurd h6 (by decide)
          · refine (Tri.skip ?_)
            refine Tri.seq (Tri.reg hT ?_)
            refine Tri.seq ?_
            refine Tri.seq (Tri.reg hT ?_)
            refine (Tri.block ?_)
            refine (Tri.loop (ι := Nat × Nat) (fun x => ⟨175, 0, 200, [(1, .list cT l), (5, .list tT (scanS s).1), (8, .loc 40 0), (11, .int .i64 (x.2 : Int)), (12, .int .i64 (x.1 : Int))], [(40, .box (curC (scanS s).1 x.2))], []⟩) (fun x => x.1 ≤ l.length ∧ x.2 < (scanS s).1.length) (fun x => l.length - x.1) ((0, 0)) ?_ ?_ ?_)
            · exact ⟨Nat.zero_le _, scanS_pos (of_decide_eq_true hE)⟩
            · exact Le.weak rfl rfl rfl rfl ⟨(by first | rfl | exact iv1 (by (try simp only [decide_eq_true_eq, decide_eq_false_iff_not, toNat_cast] at *); omega)), (by first | rfl | exact iv1 (by (try simp only [decide_eq_true_eq, decide_eq_false_iff_not, toNat_cast] at *); omega)), (by first | rfl | exact iv1 (by (try simp only [decide_eq_true_eq, decide_eq_false_iff_not, toNat_cast] at *); omega)), (by first | rfl | exact iv1 (by (try simp only [decide_eq_true_eq, decide_eq_false_iff_not, toNat_cast] at *); omega)), (by first | rfl | exact iv1 (by (try simp only [decide_eq_true_eq, decide_eq_false_iff_not, toNat_cast] at *); omega)), trivial⟩ ⟨rfl, trivial⟩
            · intro ⟨n, i⟩ hi; obtain ⟨hi1, hi2⟩ := hi; change n ≤ l.length at hi1; change i < (scanS s).1.length at hi2; have hshort := hS _ (getD_mem (d := (Ty.dflt tT : Tk)) hi2); have w1 : IntKind.i64.wrap ((n : Int) + 1) = ((n + 1 : Nat) : Int) := (by rw [wrapId (by omega)]; omega); have w2 : IntKind.i64.wrap ((i : Int) + 1) = ((i + 1 : Nat) : Int) := (by rw [wrapId (by omega)]; omega)
              refine Tri.seq ?_
              refine Tri.seq (Tri.reg hT ?_)
              refine (Tri.cond ⟨fun h7 => ?_, fun h7 => ?_⟩)
              · refine (Tri.skip ?_)
                refine Tri.seq (Tri.block ?_)
                refine Tri.seq ?_
                have hlt : n < l.length := i_lt h7
                refine Tri.le (⟨175, 0, 210, [(1, .list cT l), (5, .list tT (scanS s).1), (8, .loc 40 0), (11, .int .i64 (i : Int)), (12, .int .i64 (n : Int))], [(40, .box (curC (scanS s).1 i))], []⟩) (Le.weak rfl rfl rfl rfl ⟨(by first | rfl | exact iv1 (by (try simp only [decide_eq_true_eq, decide_eq_false_iff_not, toNat_cast] at *); omega)), (by first | rfl | exact iv1 (by (try simp only [decide_eq_true_eq, decide_eq_false_iff_not, toNat_cast] at *); omega)), (by first | rfl | exact iv1 (by (try simp only [decide_eq_true_eq, decide_eq_false_iff_not, toNat_cast] at *); omega)), (by first | rfl | exact iv1 (by (try simp only [decide_eq_true_eq, decide_eq_false_iff_not, toNat_cast] at *); omega)), (by first | rfl | exact iv1 (by (try simp only [decide_eq_true_eq, decide_eq_false_iff_not, toNat_cast] at *); omega)), trivial⟩ ⟨rfl, trivial⟩) ?_
                refine Tri.seq (Tri.drw hT hm 7 (by kernel_rfl) ?_)
                refine .inr (.inl ⟨_, _, (by exact ⟨rfl, trivial⟩), f20_spec (scanS s).1 i hi2 (by omega) _, (by rfl), ?_⟩)
                refine ⟨by omega, ?_⟩
                refine ⟨by kernel_rfl, ?_⟩
                refine (Tri.cond ⟨fun h8 => ?_, fun h8 => ?_⟩)
                · exfalso; simp at h8
                · refine (Tri.skip ?_)
                  skip
                  refine Tri.le (⟨175, 0, 220, [(1, .list cT l), (5, .list tT (scanS s).1), (8, .loc 40 0), (11, .int .i64 (i : Int)), (12, .int .i64 (n : Int))], [(40, .box (curC (scanS s).1 i))], []⟩) (Le.weak rfl rfl rfl rfl ⟨(by first | rfl | exact iv1 (by (try simp only [decide_eq_true_eq, decide_eq_false_iff_not, toNat_cast] at *); omega)), (by first | rfl | exact iv1 (by (try simp only [decide_eq_true_eq, decide_eq_false_iff_not, toNat_cast] at *); omega)), (by first | rfl | exact iv1 (by (try simp only [decide_eq_true_eq, decide_eq_false_iff_not, toNat_cast] at *); omega)), (by first | rfl | exact iv1 (by (try simp only [decide_eq_true_eq, decide_eq_false_iff_not, toNat_cast] at *); omega)), (by first | rfl | exact iv1 (by (try simp only [decide_eq_true_eq, decide_eq_false_iff_not, toNat_cast] at *); omega)), trivial⟩ ⟨rfl, trivial⟩) ?_
                  refine Tri.seq (Tri.reg hT ?_)
                  refine ⟨by omega, ?_⟩
                  refine Tri.seq (Tri.reg hT ?_)
                  refine Tri.seq ?_
                  skip
                  refine Tri.le (⟨175, 0, 260, [(1, .list cT l), (5, .list tT (scanS s).1), (8, .loc 40 0), (11, .int .i64 (i : Int)), (12, .int .i64 (n : Int)), (13, .loc 224 0)], [(40, .box (curC (scanS s).1 i)), (224, .box [.int .i64 ((scanS s).1.getD i (Ty.dflt tT)).1, .str ((scanS s).1.getD i (Ty.dflt tT)).2.1, .int .i64 ((scanS s).1.getD i (Ty.dflt tT)).2.2.1])], []⟩) (Le.weak rfl rfl rfl rfl ⟨(by first | rfl | exact iv1 (by (try simp only [decide_eq_true_eq, decide_eq_false_iff_not, toNat_cast] at *); omega)), (by first | rfl | exact iv1 (by (try simp only [decide_eq_true_eq, decide_eq_false_iff_not, toNat_cast] at *); omega)), (by first | rfl | exact iv1 (by (try simp only [decide_eq_true_eq, decide_eq_false_iff_not, toNat_cast] at *); omega)), (by first | rfl | exact iv1 (by (try simp only [decide_eq_true_eq, decide_eq_false_iff_not, toNat_cast] at *); omega)), (by first | rfl | exact iv1 (by (try simp only [decide_eq_true_eq, decide_eq_false_iff_not, toNat_cast] at *); omega)), rfl, trivial⟩ ⟨rfl, rfl, trivial⟩) ?_
                  refine Tri.seq (Tri.reg hT ?_)
                  refine ⟨by omega, ?_⟩
                  refine (Tri.block ?_)
                  refine Tri.seq (Tri.reg hT ?_)
                  refine (Tri.cond ⟨fun h9 => ?_, fun h9 => ?_⟩)
                  · refine Tri.seq ?_
                    refine Tri.seq (Tri.drw hT hm 4 (by kernel_rfl) ?_)
                    refine .inr (.inl ⟨_, _, (by exact ⟨rfl, trivial⟩), f21_spec (scanS s).1 i hi2 (by omega) _, (by rfl), ?_⟩)
                    refine ⟨by kernel_rfl, ?_⟩
                    refine (Tri.cond ⟨fun h10 => ?_, fun h10 => ?_⟩)
                    · exfalso; simp at h10
                    · refine (Tri.skip ?_)
                      skip
                      refine Tri.le (⟨175, 0, 350, [(1, .list cT l), (5, .list tT (scanS s).1), (8, .loc 40 0), (11, .int .i64 (i : Int)), (12, .int .i64 (n : Int))], [(40, .box (curC (scanS s).1 (moveI true (scanS s).1 i)))], []⟩) (Le.weak rfl rfl rfl rfl ⟨(by first | rfl | exact iv1 (by (try simp only [decide_eq_true_eq, decide_eq_false_iff_not, toNat_cast] at *); omega)), (by first | rfl | exact iv1 (by (try simp only [decide_eq_true_eq, decide_eq_false_iff_not, toNat_cast] at *); omega)), (by first | rfl | exact iv1 (by (try simp only [decide_eq_true_eq, decide_eq_false_iff_not, toNat_cast] at *); omega)), (by first | rfl | exact iv1 (by (try simp only [decide_eq_true_eq, decide_eq_false_iff_not, toNat_cast] at *); omega)), (by first | rfl | exact iv1 (by (try simp only [decide_eq_true_eq, decide_eq_false_iff_not, toNat_cast] at *); omega)), trivial⟩ ⟨rfl, trivial⟩) ?_
                      refine (Tri.reg hT ?_)
                      skip
                      refine Tri.le (⟨175, 0, 400, [(1, .list cT l), (5, .list tT (scanS s).1), (8, .loc 40 0), (11, .int .i64 (i : Int)), (12, .int .i64 (n : Int)), (14, .bool _)], [(40, .box (curC (scanS s).1 (moveI _ (scanS s).1 i)))], []⟩) (Le.weak rfl rfl rfl rfl ⟨(by first | rfl | exact iv1 (by (try simp only [decide_eq_true_eq, decide_eq_false_iff_not, toNat_cast] at *); omega)), (by first | rfl | exact iv1 (by (try simp only [decide_eq_true_eq, decide_eq_false_iff_not, toNat_cast] at *); omega)), (by first | rfl | exact iv1 (by (try simp only [decide_eq_true_eq, decide_eq_false_iff_not, toNat_cast] at *); omega)), (by first | rfl | exact iv1 (by (try simp only [decide_eq_true_eq, decide_eq_false_iff_not, toNat_cast] at *); omega)), (by first | rfl | exact iv1 (by (try simp only [decide_eq_true_eq, decide_eq_false_iff_not, toNat_cast] at *); omega)), rfl, trivial⟩ ⟨rfl, trivial⟩) ?_
                      refine Tri.seq (Tri.reg hT ?_)
                      refine ⟨_, [], trivial, rfl, rfl, fun h => ⟨rfl, rfl, rfl⟩, ?_⟩
                      refine ⟨_, [], trivial, rfl, rfl, fun h => ⟨rfl, rfl, rfl⟩, ?_⟩
                      refine ⟨_, [], trivial, rfl, rfl, fun h => ⟨h, rfl, rfl, rfl⟩, ?_⟩
                      refine ⟨_, [], trivial, rfl, rfl, fun h => ⟨h, rfl, rfl, rfl⟩, ?_⟩
                      refine ⟨_, [], trivial, rfl, rfl, fun h => ⟨h, h, rfl, rfl, rfl⟩, ?_⟩
                      refine ⟨⟨fun hc => hc, fun _ => trivial⟩, ?_⟩
                      refine (Tri.cond ⟨fun h11 => ?_, fun h11 => ?_⟩)
                      · refine (Tri.reg hT ?_)
                        refine (Tri.reg hT ?_)
                        have mv := move_t hL hi2 h11
                        exact ⟨(n + 1, i + 1), ⟨hlt, mv.2⟩, (by show l.length - (n + 1) < l.length - n; omega), Le.weak rfl rfl rfl rfl ⟨(by first | rfl | exact iv1 (by (try simp only [decide_eq_true_eq, decide_eq_false_iff_not, toNat_cast] at *); omega)), (by first | rfl | exact iv1 (by (try simp only [decide_eq_true_eq, decide_eq_false_iff_not, toNat_cast] at *); omega)), (by first | rfl | exact iv1 (by (try simp only [decide_eq_true_eq, decide_eq_false_iff_not, toNat_cast] at *); omega)), congrArg (AV.int .i64) w2, congrArg (AV.int .i64) w1, trivial⟩ ⟨congrArg (fun k => some (Chunk.box (curC (scanS s).1 k))) mv.1, trivial⟩⟩
                      · refine (Tri.skip ?_)
                        refine (Tri.reg hT ?_)
                        have mv := move_f hL hi2 h11
                        exact ⟨(n + 1, i), ⟨hlt, hi2⟩, (by show l.length - (n + 1) < l.length - n; omega), Le.weak rfl rfl rfl rfl ⟨(by first | rfl | exact iv1 (by (try simp only [decide_eq_true_eq, decide_eq_false_iff_not, toNat_cast] at *); omega)), (by first | rfl | exact iv1 (by (try simp only [decide_eq_true_eq, decide_eq_false_iff_not, toNat_cast] at *); omega)), (by first | rfl | exact iv1 (by (try simp only [decide_eq_true_eq, decide_eq_false_iff_not, toNat_cast] at *); omega)), (by first | rfl | exact iv1 (by (try simp only [decide_eq_true_eq, decide_eq_false_iff_not, toNat_cast] at *); omega)), congrArg (AV.int .i64) w1, trivial⟩ ⟨congrArg (fun k => some (Chunk.box (curC (scanS s).1 k))) mv, trivial⟩⟩
                  · refine Tri.seq (Tri.reg hT ?_)
                    refine (Tri.cond ⟨fun h12 => ?_, fun h12 => ?_⟩)
                    · refine Tri.seq (Tri.drw hT hm 13 (by kernel_rfl) ?_)
                      refine ⟨_, [], trivial, rfl, rfl, fun h => ⟨rfl, rfl, rfl⟩, ?_⟩
                      refine ⟨_, [], trivial, rfl, rfl, fun h => ⟨h, rfl, rfl, rfl⟩, ?_⟩
                      refine ⟨_, [], trivial, rfl, rfl, fun h => ⟨rfl, rfl, rfl⟩, ?_⟩
                      refine ⟨_, [], trivial, rfl, rfl, fun h => ⟨rfl, rfl, rfl⟩, ?_⟩
                      refine ⟨_, [], trivial, rfl, rfl, fun h => ⟨h, h, by omega, rfl, rfl, rfl⟩, ?_⟩
                      refine ⟨_, [], trivial, rfl, rfl, fun h => ⟨h, rfl, rfl, rfl⟩, ?_⟩
                      refine ⟨_, [], trivial, rfl, rfl, fun h => ⟨h, rfl, rfl, rfl⟩, ?_⟩
                      refine ⟨_, [], trivial, rfl, rfl, fun h => ⟨h, h, rfl, rfl, rfl⟩, ?_⟩
                      refine ⟨⟨fun hc => hc, fun _ => trivial⟩, ?_⟩
                      refine ⟨by kernel_rfl, ?_⟩
                      skip
                      refine Tri.le (⟨175, 0, 300, [(1, .list cT l), (5, .list tT (scanS s).1), (8, .loc 40 0), (11, .int .i64 (i : Int)), (12, .int .i64 (n : Int)), (13, .loc 224 0), (14, .bool (isB ((scanS s).1.getD i (Ty.dflt tT)) 4 (l.getD n (Ty.dflt cT)).2.1))], [(40, .box (curC (scanS s).1 i)), (224, .box [.int .i64 ((scanS s).1.getD i (Ty.dflt tT)).1, .str ((scanS s).1.getD i (Ty.dflt tT)).2.1, .int .i64 ((scanS s).1.getD i (Ty.dflt tT)).2.2.1])], []⟩) (Le.weak rfl rfl rfl rfl ⟨(by first | rfl | exact iv1 (by (try simp only [decide_eq_true_eq, decide_eq_false_iff_not, toNat_cast] at *); omega)), (by first | rfl | exact iv1 (by (try simp only [decide_eq_true_eq, decide_eq_false_iff_not, toNat_cast] at *); omega)), (by first | rfl | exact iv1 (by (try simp only [decide_eq_true_eq, decide_eq_false_iff_not, toNat_cast] at *); omega)), (by first | rfl | exact iv1 (by (try simp only [decide_eq_true_eq, decide_eq_false_iff_not, toNat_cast] at *); omega)), (by first | rfl | exact iv1 (by (try simp only [decide_eq_true_eq, decide_eq_false_iff_not, toNat_cast] at *); omega)), (by first | rfl | exact iv1 (by (try simp only [decide_eq_true_eq, decide_eq_false_iff_not, toNat_cast] at *); omega)), congrArg AV.bool (ifb _ _), trivial⟩ ⟨rfl, rfl, trivial⟩) ?_
                      refine Tri.seq (Tri.reg hT ?_)
                      refine ⟨by omega, ?_⟩
                      refine .inl (.inr (.inl ⟨_, _, (by exact ⟨rfl, trivial⟩), f22_spec (scanS s).1 i _ hi2 (by omega) _, (by rfl), ?_⟩))
                      refine (Tri.cond ⟨fun h13 => ?_, fun h13 => ?_⟩)
                      · exact absurd rfl (of_decide_eq_true h13)
                      · refine (Tri.skip ?_)
                        skip
                        refine Tri.le (⟨175, 0, 400, [(1, .list cT l), (5, .list tT (scanS s).1), (8, .loc 40 0), (11, .int .i64 (i : Int)), (12, .int .i64 (n : Int)), (14, .bool _)], [(40, .box (curC (scanS s).1 (moveI _ (scanS s).1 i)))], []⟩) (Le.weak rfl rfl rfl rfl ⟨(by first | rfl | exact iv1 (by (try simp only [decide_eq_true_eq, decide_eq_false_iff_not, toNat_cast] at *); omega)), (by first | rfl | exact iv1 (by (try simp only [decide_eq_true_eq, decide_eq_false_iff_not, toNat_cast] at *); omega)), (by first | rfl | exact iv1 (by (try simp only [decide_eq_true_eq, decide_eq_false_iff_not, toNat_cast] at *); omega)), (by first | rfl | exact iv1 (by (try simp only [decide_eq_true_eq, decide_eq_false_iff_not, toNat_cast] at *); omega)), (by first | rfl | exact iv1 (by (try simp only [decide_eq_true_eq, decide_eq_false_iff_not, toNat_cast] at *); omega)), rfl, trivial⟩ ⟨rfl, trivial⟩) ?_
                        refine Tri.seq (Tri.reg hT ?_)
                        refine ⟨_, [], trivial, rfl, rfl, fun h => ⟨rfl, rfl, rfl⟩, ?_⟩
                        refine ⟨_, [], trivial, rfl, rfl, fun h => ⟨rfl, rfl, rfl⟩, ?_⟩
                        refine ⟨_, [], trivial, rfl, rfl, fun h => ⟨h, rfl, rfl, rfl⟩, ?_⟩
                        refine ⟨_, [], trivial, rfl, rfl, fun h => ⟨h, rfl, rfl, rfl⟩, ?_⟩
                        refine ⟨_, [], trivial, rfl, rfl, fun h => ⟨h, h, rfl, rfl, rfl⟩, ?_⟩
                        refine ⟨⟨fun hc => hc, fun _ => trivial⟩, ?_⟩
                        refine (Tri.cond ⟨fun h14 => ?_, fun h14 => ?_⟩)
                        · refine (Tri.reg hT ?_)
                          refine (Tri.reg hT ?_)
                          have mv := move_t hL hi2 h14
                          exact ⟨(n + 1, i + 1), ⟨hlt, mv.2⟩, (by show l.length - (n + 1) < l.length - n; omega), Le.weak rfl rfl rfl rfl ⟨(by first | rfl | exact iv1 (by (try simp only [decide_eq_true_eq, decide_eq_false_iff_not, toNat_cast] at *); omega)), (by first | rfl | exact iv1 (by (try simp only [decide_eq_true_eq, decide_eq_false_iff_not, toNat_cast] at *); omega)), (by first | rfl | exact iv1 (by (try simp only [decide_eq_true_eq, decide_eq_false_iff_not, toNat_cast] at *); omega)), congrArg (AV.int .i64) w2, congrArg (AV.int .i64) w1, trivial⟩ ⟨congrArg (fun k => some (Chunk.box (curC (scanS s).1 k))) mv.1, trivial⟩⟩
                        · refine (Tri.skip ?_)
                          refine (Tri.reg hT ?_)
                          have mv := move_f hL hi2 h14
                          exact ⟨(n + 1, i), ⟨hlt, hi2⟩, (by show l.length - (n + 1) < l.length - n; omega), Le.weak rfl rfl rfl rfl ⟨(by first | rfl | exact iv1 (by (try simp only [decide_eq_true_eq, decide_eq_false_iff_not, toNat_cast] at *); omega)), (by first | rfl | exact iv1 (by (try simp only [decide_eq_true_eq, decide_eq_false_iff_not, toNat_cast] at *); omega)), (by first | rfl | exact iv1 (by (try simp only [decide_eq_true_eq, decide_eq_false_iff_not, toNat_cast] at *); omega)), (by first | rfl | exact iv1 (by (try simp only [decide_eq_true_eq, decide_eq_false_iff_not, toNat_cast] at *); omega)), congrArg (AV.int .i64) w1, trivial⟩ ⟨congrArg (fun k => some (Chunk.box (curC (scanS s).1 k))) mv, trivial⟩⟩
                    · refine Tri.seq (Tri.reg hT ?_)
                      refine (Tri.cond ⟨fun h15 => ?_, fun h15 => ?_⟩)
                      · refine Tri.seq (Tri.drw hT hm 13 (by kernel_rfl) ?_)
                        refine ⟨_, [], trivial, rfl, rfl, fun h => ⟨rfl, rfl, rfl⟩, ?_⟩
                        refine ⟨_, [], trivial, rfl, rfl, fun h => ⟨h, rfl, rfl, rfl⟩, ?_⟩
                        refine ⟨_, [], trivial, rfl, rfl, fun h => ⟨rfl, rfl, rfl⟩, ?_⟩
                        refine ⟨_, [], trivial, rfl, rfl, fun h => ⟨rfl, rfl, rfl⟩, ?_⟩
                        refine ⟨_, [], trivial, rfl, rfl, fun h => ⟨h, h, by omega, rfl, rfl, rfl⟩, ?_⟩
                        refine ⟨_, [], trivial, rfl, rfl, fun h => ⟨h, rfl, rfl, rfl⟩, ?_⟩
                        refine ⟨_, [], trivial, rfl, rfl, fun h => ⟨h, rfl, rfl, rfl⟩, ?_⟩
                        refine ⟨_, [], trivial, rfl, rfl, fun h => ⟨h, h, rfl, rfl, rfl⟩, ?_⟩
                        refine ⟨⟨fun hc => hc, fun _ => trivial⟩, ?_⟩
                        refine ⟨by kernel_rfl, ?_⟩
                        skip
                        refine Tri.le (⟨175, 0, 300, [(1, .list cT l), (5, .list tT (scanS s).1), (8, .loc 40 0), (11, .int .i64 (i : Int)), (12, .int .i64 (n : Int)), (13, .loc 224 0), (14, .bool (isB ((scanS s).1.getD i (Ty.dflt tT)) 1 (l.getD n (Ty.dflt cT)).2.1))], [(40, .box (curC (scanS s).1 i)), (224, .box [.int .i64 ((scanS s).1.getD i (Ty.dflt tT)).1, .str ((scanS s).1.getD i (Ty.dflt tT)).2.1, .int .i64 ((scanS s).1.getD i (Ty.dflt tT)).2.2.1])], []⟩) (Le.weak rfl rfl rfl rfl ⟨(by first | rfl | exact iv1 (by (try simp only [decide_eq_true_eq, decide_eq_false_iff_not, toNat_cast] at *); omega)), (by first | rfl | exact iv1 (by (try simp only [decide_eq_true_eq, decide_eq_false_iff_not, toNat_cast] at *); omega)), (by first | rfl | exact iv1 (by (try simp only [decide_eq_true_eq, decide_eq_false_iff_not, toNat_cast] at *); omega)), (by first | rfl | exact iv1 (by (try simp only [decide_eq_true_eq, decide_eq_false_iff_not, toNat_cast] at *); omega)), (by first | rfl | exact iv1 (by (try simp only [decide_eq_true_eq, decide_eq_false_iff_not, toNat_cast] at *); omega)), (by first | rfl | exact iv1 (by (try simp only [decide_eq_true_eq, decide_eq_false_iff_not, toNat_cast] at *); omega)), congrArg AV.bool (ifb _ _), trivial⟩ ⟨rfl, rfl, trivial⟩) ?_
                        refine Tri.seq (Tri.reg hT ?_)
                        refine ⟨by omega, ?_⟩
                        refine .inl (.inr (.inl ⟨_, _, (by exact ⟨rfl, trivial⟩), f23_spec (scanS s).1 i _ hi2 (by omega) _, (by rfl), ?_⟩))
                        refine (Tri.cond ⟨fun h16 => ?_, fun h16 => ?_⟩)
                        · exact absurd rfl (of_decide_eq_true h16)
                        · refine (Tri.skip ?_)
                          skip
                          refine Tri.le (⟨175, 0, 400, [(1, .list cT l), (5, .list tT (scanS s).1), (8, .loc 40 0), (11, .int .i64 (i : Int)), (12, .int .i64 (n : Int)), (14, .bool _)], [(40, .box (curC (scanS s).1 (moveI _ (scanS s).1 i)))], []⟩) (Le.weak rfl rfl rfl rfl ⟨(by first | rfl | exact iv1 (by (try simp only [decide_eq_true_eq, decide_eq_false_iff_not, toNat_cast] at *); omega)), (by first | rfl | exact iv1 (by (try simp only [decide_eq_true_eq, decide_eq_false_iff_not, toNat_cast] at *); omega)), (by first | rfl | exact iv1 (by (try simp only [decide_eq_true_eq, decide_eq_false_iff_not, toNat_cast] at *); omega)), (by first | rfl | exact iv1 (by (try simp only [decide_eq_true_eq, decide_eq_false_iff_not, toNat_cast] at *); omega)), (by first | rfl | exact iv1 (by (try simp only [decide_eq_true_eq, decide_eq_false_iff_not, toNat_cast] at *); omega)), rfl, trivial⟩ ⟨rfl, trivial⟩) ?_
                          refine Tri.seq (Tri.reg hT ?_)
                          refine ⟨_, [], trivial, rfl, rfl, fun h => ⟨rfl, rfl, rfl⟩, ?_⟩
                          refine ⟨_, [], trivial, rfl, rfl, fun h => ⟨rfl, rfl, rfl⟩, ?_⟩
                          refine ⟨_, [], trivial, rfl, rfl, fun h => ⟨h, rfl, rfl, rfl⟩, ?_⟩
                          refine ⟨_, [], trivial, rfl, rfl, fun h => ⟨h, rfl, rfl, rfl⟩, ?_⟩
                          refine ⟨_, [], trivial, rfl, rfl, fun h => ⟨h, h, rfl, rfl, rfl⟩, ?_⟩
                          refine ⟨⟨fun hc => hc, fun _ => trivial⟩, ?_⟩
                          refine (Tri.cond ⟨fun h17 => ?_, fun h17 => ?_⟩)
                          · refine (Tri.reg hT ?_)
                            refine (Tri.reg hT ?_)
                            have mv := move_t hL hi2 h17
                            exact ⟨(n + 1, i + 1), ⟨hlt, mv.2⟩, (by show l.length - (n + 1) < l.length - n; omega), Le.weak rfl rfl rfl rfl ⟨(by first | rfl | exact iv1 (by (try simp only [decide_eq_true_eq, decide_eq_false_iff_not, toNat_cast] at *); omega)), (by first | rfl | exact iv1 (by (try simp only [decide_eq_true_eq, decide_eq_false_iff_not, toNat_cast] at *); omega)), (by first | rfl | exact iv1 (by (try simp only [decide_eq_true_eq, decide_eq_false_iff_not, toNat_cast] at *); omega)), congrArg (AV.int .i64) w2, congrArg (AV.int .i64) w1, trivial⟩ ⟨congrArg (fun k => some (Chunk.box (curC (scanS s).1 k))) mv.1, trivial⟩⟩
                          · refine (Tri.skip ?_)
                            refine (Tri.reg hT ?_)
                            have mv := move_f hL hi2 h17
                            exact ⟨(n + 1, i), ⟨hlt, hi2⟩, (by show l.length - (n + 1) < l.length - n; omega), Le.weak rfl rfl rfl rfl ⟨(by first | rfl | exact iv1 (by (try simp only [decide_eq_true_eq, decide_eq_false_iff_not, toNat_cast] at *); omega)), (by first | rfl | exact iv1 (by (try simp only [decide_eq_true_eq, decide_eq_false_iff_not, toNat_cast] at *); omega)), (by first | rfl | exact iv1 (by (try simp only [decide_eq_true_eq, decide_eq_false_iff_not, toNat_cast] at *); omega)), (by first | rfl | exact iv1 (by (try simp only [decide_eq_true_eq, decide_eq_false_iff_not, toNat_cast] at *); omega)), congrArg (AV.int .i64) w1, trivial⟩ ⟨congrArg (fun k => some (Chunk.box (curC (scanS s).1 k))) mv, trivial⟩⟩
                      · refine Tri.seq (Tri.reg hT ?_)
                        refine .inl (.inl ⟨_, fun _ => rfl, f17_spec _ (by omega), ?_⟩)
                        refine Tri.seq ?_
                        refine Tri.seq (Tri.reg hT ?_)
                        refine ⟨_, [], trivial, rfl, rfl, fun h => ⟨rfl, rfl, rfl⟩, ?_⟩
                        refine ⟨_, [], trivial, rfl, rfl, fun h => ⟨h, rfl, rfl, rfl⟩, ?_⟩
                        refine ⟨⟨fun _ => trivial, fun hc => (gn hc)⟩, ?_⟩
                        refine (Tri.cond ⟨fun h18 => ?_, fun h18 => ?_⟩)
                        · refine (Tri.reg hT ?_)
                          skip
                          refine Tri.le (⟨175, 0, 300, [(1, .list cT l), (5, .list tT (scanS s).1), (8, .loc 40 0), (11, .int .i64 (i : Int)), (12, .int .i64 (n : Int)), (13, .loc 224 0), (15, .int .i64 (intT ((scanS s).1.getD i (Ty.dflt tT))).1), (16, .bool (intT ((scanS s).1.getD i (Ty.dflt tT))).2)], [(40, .box (curC (scanS s).1 i)), (224, .box [.int .i64 ((scanS s).1.getD i (Ty.dflt tT)).1, .str ((scanS s).1.getD i (Ty.dflt tT)).2.1, .int .i64 ((scanS s).1.getD i (Ty.dflt tT)).2.2.1])], []⟩) (Le.weak rfl rfl rfl rfl ⟨(by first | rfl | exact iv1 (by (try simp only [decide_eq_true_eq, decide_eq_false_iff_not, toNat_cast] at *); omega)), (by first | rfl | exact iv1 (by (try simp only [decide_eq_true_eq, decide_eq_false_iff_not, toNat_cast] at *); omega)), (by first | rfl | exact iv1 (by (try simp only [decide_eq_true_eq, decide_eq_false_iff_not, toNat_cast] at *); omega)), (by first | rfl | exact iv1 (by (try simp only [decide_eq_true_eq, decide_eq_false_iff_not, toNat_cast] at *); omega)), (by first | rfl | exact iv1 (by (try simp only [decide_eq_true_eq, decide_eq_false_iff_not, toNat_cast] at *); omega)), (by first | rfl | exact iv1 (by (try simp only [decide_eq_true_eq, decide_eq_false_iff_not, toNat_cast] at *); omega)), congrArg (AV.int .i64) (by first | exact (congrArg Prod.fst (intT_t h18)).symm | exact (congrArg Prod.fst (intT_f h18)).symm), congrArg AV.bool (by first | exact (congrArg Prod.snd (intT_t h18)).symm | exact (congrArg Prod.snd (intT_f h18)).symm), trivial⟩ ⟨rfl, rfl, trivial⟩) ?_
                          refine Tri.seq (Tri.reg hT ?_)
                          refine .inl (.inr (.inl ⟨_, _, (by exact ⟨rfl, trivial⟩), f24_spec (scanS s).1 i hi2 (by omega) hshort _, (by rfl), ?_⟩))
                          refine Tri.seq ?_
                          refine Tri.seq (Tri.reg hT ?_)
                          refine ⟨_, [], trivial, rfl, rfl, fun h => ⟨rfl, rfl, rfl⟩, ?_⟩
                          refine ⟨_, [], trivial, rfl, rfl, fun h => ⟨rfl, rfl, rfl⟩, ?_⟩
                          refine ⟨_, [], trivial, rfl, rfl, fun h => ⟨h, h, rfl, rfl, rfl⟩, ?_⟩
                          refine ⟨⟨fun _ => trivial, fun hc => (gn hc)⟩, ?_⟩
                          refine (Tri.cond ⟨fun h19 => ?_, fun h19 => ?_⟩)
                          · exfalso; simp at h19
                          · refine (Tri.skip ?_)
                            refine (Tri.reg hT ?_)
                            skip
                            refine Tri.le (⟨175, 0, 400, [(1, .list cT l), (5, .list tT (scanS s).1), (8, .loc 40 0), (11, .int .i64 (i : Int)), (12, .int .i64 (n : Int)), (14, .bool _)], [(40, .box (curC (scanS s).1 (moveI _ (scanS s).1 i)))], []⟩) (Le.weak rfl rfl rfl rfl ⟨(by first | rfl | exact iv1 (by (try simp only [decide_eq_true_eq, decide_eq_false_iff_not, toNat_cast] at *); omega)), (by first | rfl | exact iv1 (by (try simp only [decide_eq_true_eq, decide_eq_false_iff_not, toNat_cast] at *); omega)), (by first | rfl | exact iv1 (by (try simp only [decide_eq_true_eq, decide_eq_false_iff_not, toNat_cast] at *); omega)), (by first | rfl | exact iv1 (by (try simp only [decide_eq_true_eq, decide_eq_false_iff_not, toNat_cast] at *); omega)), (by first | rfl | exact iv1 (by (try simp only [decide_eq_true_eq, decide_eq_false_iff_not, toNat_cast] at *); omega)), rfl, trivial⟩ ⟨rfl, trivial⟩) ?_
                            refine Tri.seq (Tri.reg hT ?_)
                            refine ⟨_, [], trivial, rfl, rfl, fun h => ⟨rfl, rfl, rfl⟩, ?_⟩
                            refine ⟨_, [], trivial, rfl, rfl, fun h => ⟨rfl, rfl, rfl⟩, ?_⟩
                            refine ⟨_, [], trivial, rfl, rfl, fun h => ⟨h, rfl, rfl, rfl⟩, ?_⟩
                            refine ⟨_, [], trivial, rfl, rfl, fun h => ⟨h, rfl, rfl, rfl⟩, ?_⟩
                            refine ⟨_, [], trivial, rfl, rfl, fun h => ⟨h, h, rfl, rfl, rfl⟩, ?_⟩
                            refine ⟨⟨fun hc => hc, fun _ => trivial⟩, ?_⟩
                            refine (Tri.cond ⟨fun h20 => ?_, fun h20 => ?_⟩)
                            · refine (Tri.reg hT ?_)
                              refine (Tri.reg hT ?_)
                              have mv := move_t hL hi2 h20
                              exact ⟨(n + 1, i + 1), ⟨hlt, mv.2⟩, (by show l.length - (n + 1) < l.length - n; omega), Le.weak rfl rfl rfl rfl ⟨(by first | rfl | exact iv1 (by (try simp only [decide_eq_true_eq, decide_eq_false_iff_not, toNat_cast] at *); omega)), (by first | rfl | exact iv1 (by (try simp only [decide_eq_true_eq, decide_eq_false_iff_not, toNat_cast] at *); omega)), (by first | rfl | exact iv1 (by (try simp only [decide_eq_true_eq, decide_eq_false_iff_not, toNat_cast] at *); omega)), congrArg (AV.int .i64) w2, congrArg (AV.int .i64) w1, trivial⟩ ⟨congrArg (fun k => some (Chunk.box (curC (scanS s).1 k))) mv.1, trivial⟩⟩
                            · refine (Tri.skip ?_)
                              refine (Tri.reg hT ?_)
                              have mv := move_f hL hi2 h20
                              exact ⟨(n + 1, i), ⟨hlt, hi2⟩, (by show l.length - (n + 1) < l.length - n; omega), Le.weak rfl rfl rfl rfl ⟨(by first | rfl | exact iv1 (by (try simp only [decide_eq_true_eq, decide_eq_false_iff_not, toNat_cast] at *); omega)), (by first | rfl | exact iv1 (by (try simp only [decide_eq_true_eq, decide_eq_false_iff_not, toNat_cast] at *); omega)), (by first | rfl | exact iv1 (by (try simp only [decide_eq_true_eq, decide_eq_false_iff_not, toNat_cast] at *); omega)), (by first | rfl | exact iv1 (by (try simp only [decide_eq_true_eq, decide_eq_false_iff_not, toNat_cast] at *); omega)), congrArg (AV.int .i64) w1, trivial⟩ ⟨congrArg (fun k => some (Chunk.box (curC (scanS s).1 k))) mv, trivial⟩⟩
                        · refine (Tri.skip ?_)
                          skip
                          refine Tri.le (⟨175, 0, 300, [(1, .list cT l), (5, .list tT (scanS s).1), (8, .loc 40 0), (11, .int .i64 (i : Int)), (12, .int .i64 (n : Int)), (13, .loc 224 0), (15, .int .i64 (intT ((scanS s).1.getD i (Ty.dflt tT))).1), (16, .bool (intT ((scanS s).1.getD i (Ty.dflt tT))).2)], [(40, .box (curC (scanS s).1 i)), (224, .box [.int .i64 ((scanS s).1.getD i (Ty.dflt tT)).1, .str ((scanS s).1.getD i (Ty.dflt tT)).2.1, .int .i64 ((scanS s).1.getD i (Ty.dflt tT)).2.2.1])], []⟩) (Le.weak rfl rfl rfl rfl ⟨(by first | rfl | exact iv1 (by (try simp only [decide_eq_true_eq, decide_eq_false_iff_not, toNat_cast] at *); omega)), (by first | rfl | exact iv1 (by (try simp only [decide_eq_true_eq, decide_eq_false_iff_not, toNat_cast] at *); omega)), (by first | rfl | exact iv1 (by (try simp only [decide_eq_true_eq, decide_eq_false_iff_not, toNat_cast] at *); omega)), (by first | rfl | exact iv1 (by (try simp only [decide_eq_true_eq, decide_eq_false_iff_not, toNat_cast] at *); omega)), (by first | rfl | exact iv1 (by (try simp only [decide_eq_true_eq, decide_eq_false_iff_not, toNat_cast] at *); omega)), (by first | rfl | exact iv1 (by (try simp only [decide_eq_true_eq, decide_eq_false_iff_not, toNat_cast] at *); omega)), congrArg (AV.int .i64) (by first | exact (congrArg Prod.fst (intT_t h18)).symm | exact (congrArg Prod.fst (intT_f h18)).symm), congrArg AV.bool (by first | exact (congrArg Prod.snd (intT_t h18)).symm | exact (congrArg Prod.snd (intT_f h18)).symm), trivial⟩ ⟨rfl, rfl, trivial⟩) ?_
                          refine Tri.seq (Tri.reg hT ?_)
                          refine .inl (.inr (.inl ⟨_, _, (by exact ⟨rfl, trivial⟩), f24_spec (scanS s).1 i hi2 (by omega) hshort _, (by rfl), ?_⟩))
                          refine Tri.seq ?_
                          refine Tri.seq (Tri.reg hT ?_)
                          refine ⟨_, [], trivial, rfl, rfl, fun h => ⟨rfl, rfl, rfl⟩, ?_⟩
                          refine ⟨_, [], trivial, rfl, rfl, fun h => ⟨rfl, rfl, rfl⟩, ?_⟩
                          refine ⟨_, [], trivial, rfl, rfl, fun h => ⟨h, h, rfl, rfl, rfl⟩, ?_⟩
                          refine ⟨⟨fun _ => trivial, fun hc => (gn hc)⟩, ?_⟩
                          refine (Tri.cond ⟨fun h21 => ?_, fun h21 => ?_⟩)
                          · exfalso; simp at h21
                          · refine (Tri.skip ?_)
                            refine (Tri.reg hT ?_)
                            skip
                            refine Tri.le (⟨175, 0, 400, [(1, .list cT l), (5, .list tT (scanS s).1), (8, .loc 40 0), (11, .int .i64 (i : Int)), (12, .int .i64 (n : Int)), (14, .bool _)], [(40, .box (curC (scanS s).1 (moveI _ (scanS s).1 i)))], []⟩) (Le.weak rfl rfl rfl rfl ⟨(by first | rfl | exact iv1 (by (try simp only [decide_eq_true_eq, decide_eq_false_iff_not, toNat_cast] at *); omega)), (by first | rfl | exact iv1 (by (try simp only [decide_eq_true_eq, decide_eq_false_iff_not, toNat_cast] at *); omega)), (by first | rfl | exact iv1 (by (try simp only [decide_eq_true_eq, decide_eq_false_iff_not, toNat_cast] at *); omega)), (by first | rfl | exact iv1 (by (try simp only [decide_eq_true_eq, decide_eq_false_iff_not, toNat_cast] at *); omega)), (by first | rfl | exact iv1 (by (try simp only [decide_eq_true_eq, decide_eq_false_iff_not, toNat_cast] at *); omega)), rfl, trivial⟩ ⟨rfl, trivial⟩) ?_
                            refine Tri.seq (Tri.reg hT ?_)
                            refine ⟨_, [], trivial, rfl, rfl, fun h => ⟨rfl, rfl, rfl⟩, ?_⟩
                            refine ⟨_, [], trivial, rfl, rfl, fun h => ⟨rfl, rfl, rfl⟩, ?_⟩
                            refine ⟨_, [], trivial, rfl, rfl, fun h => ⟨h, rfl, rfl, rfl⟩, ?_⟩
                            refine ⟨_, [], trivial, rfl, rfl, fun h => ⟨h, rfl, rfl, rfl⟩, ?_⟩
                            refine ⟨_, [], trivial, rfl, rfl, fun h => ⟨h, h, rfl, rfl, rfl⟩, ?_⟩
                            refine ⟨⟨fun hc => hc, fun _ => trivial⟩, ?_⟩
                            refine (Tri.cond ⟨fun h22 => ?_, fun h22 => ?_⟩)
                            · refine (Tri.reg hT ?_)
                              refine (Tri.reg hT ?_)
                              have mv := move_t hL hi2 h22
                              exact ⟨(n + 1, i + 1), ⟨hlt, mv.2⟩, (by show l.length - (n + 1) < l.length - n; omega), Le.weak rfl rfl rfl rfl ⟨(by first | rfl | exact iv1 (by (try simp only [decide_eq_true_eq, decide_eq_false_iff_not, toNat_cast] at *); omega)), (by first | rfl | exact iv1 (by (try simp only [decide_eq_true_eq, decide_eq_false_iff_not, toNat_cast] at *); omega)), (by first | rfl | exact iv1 (by (try simp only [decide_eq_true_eq, decide_eq_false_iff_not, toNat_cast] at *); omega)), congrArg (AV.int .i64) w2, congrArg (AV.int .i64) w1, trivial⟩ ⟨congrArg (fun k => some (Chunk.box (curC (scanS s).1 k))) mv.1, trivial⟩⟩
                            · refine (Tri.skip ?_)
                              refine (Tri.reg hT ?_)
                              have mv := move_f hL hi2 h22
                              exact ⟨(n + 1, i), ⟨hlt, hi2⟩, (by show l.length - (n + 1) < l.length - n; omega), Le.weak rfl rfl rfl rfl ⟨(by first | rfl | exact iv1 (by (try simp only [decide_eq_true_eq, decide_eq_false_iff_not, toNat_cast] at *); omega)), (by first | rfl | exact iv1 (by (try simp only [decide_eq_true_eq, decide_eq_false_iff_not, toNat_cast] at *); omega)), (by first | rfl | exact iv1 (by (try simp only [decide_eq_true_eq, decide_eq_false_iff_not, toNat_cast] at *); omega)), (by first | rfl | exact iv1 (by (try simp only [decide_eq_true_eq, decide_eq_false_iff_not, toNat_cast] at *); omega)), congrArg (AV.int .i64) w1, trivial⟩ ⟨congrArg (fun k => some (Chunk.box (curC (scanS s).1 k))) mv, trivial⟩⟩
              · refine Tri.exit ?_
                refine Tri.seq (Tri.drw hT hm 10 (by kernel_rfl) ?_)
                refine .inr (.inl ⟨_, _, (by exact ⟨rfl, trivial⟩), f20_spec (scanS s).1 i hi2 (by omega) _, (by rfl), ?_⟩)
                refine ⟨by omega, ?_⟩
                refine ⟨_, [], trivial, rfl, rfl, fun h => (.inl ⟨_, fun _ => rfl, f9_spec, rfl, rfl, rfl⟩), ?_⟩
                refine ⟨⟨fun hc => hc, fun _ => trivial⟩, ?_⟩
                refine ⟨by kernel_rfl, ?_⟩
                refine Tri.ret ?_
                exact ⟨congrArg AV.bool (by simp), trivial⟩
end Go.Proofs.Ytngmadndlmceoaa.Fx
