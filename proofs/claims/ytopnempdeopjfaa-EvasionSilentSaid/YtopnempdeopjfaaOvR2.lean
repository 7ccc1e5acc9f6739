import Derived.Test.YtopnempdeopjfaaOvR1
import Derived.Test.YtopnempdeopjfaaGOv1
set_option linter.all false
/- Contracts of chapter 15: the reference's search, insertion of a cell, pieces. -/
namespace Go.Proofs.Ytopnempdeopjfaa.Fx
open Go Go.Fw Go.Ov
theorem f75_spec (c : List Cl) (a : Int) (hl : c.length ≤ 4611686018427387904) : PSpec P [] 75 [.list cT c, .int .i64 a] (.int .i64 (atI c a 0)) := by
  refine pspec_intro hT Try.func75 (by decide) rfl rfl (by kernel_rfl) rfl ?_
  refine Tri.seq (Tri.reg hT ?_)
  refine Tri.seq ?_
  refine Tri.seq (Tri.reg hT ?_)
  refine (Tri.block ?_)
  refine (Tri.loop (ι := Nat) (fun i => ⟨20, 0, 0, [(0, .list cT c), (1, .int .i64 a), (5, .int .i64 (i : Int))], [], []⟩) (fun i => i ≤ c.length ∧ atI (c.drop i) a i = atI c a 0) (fun i => c.length - i) (0) ?_ ?_ ?_)
  · exact ⟨Nat.zero_le _, rfl⟩
  · exact Le.weak rfl rfl rfl rfl ⟨(by first | rfl | exact iv1 (by (try simp only [decide_eq_true_eq, decide_eq_false_iff_not, toNat_cast] at *); omega)), (by first | rfl | exact iv1 (by (try simp only [decide_eq_true_eq, decide_eq_false_iff_not, toNat_cast] at *); omega)), (by first | rfl | exact iv1 (by (try simp only [decide_eq_true_eq, decide_eq_false_iff_not, toNat_cast] at *); omega)), trivial⟩ trivial
  · intro i hi
    refine Tri.seq ?_
    refine Tri.seq (Tri.reg hT ?_)
    refine (Tri.cond ⟨fun h1 => ?_, fun h1 => ?_⟩)
    · refine (Tri.skip ?_)
      refine Tri.seq (Tri.block ?_)
      refine Tri.seq (Tri.reg hT ?_)
      refine ⟨(by first | ((try simp only [decide_eq_true_eq, decide_eq_false_iff_not, toNat_cast] at *); omega) | decide), ?_⟩
      refine (Tri.cond ⟨fun h2 => ?_, fun h2 => ?_⟩)
      · refine Tri.seq (Tri.reg hT ?_)
        refine Tri.ret ?_
        have h1' := i_lt h1; have e := hi.2; rw [drop_getD cD h1', atI, if_pos (by have := of_decide_eq_true h2; exact this)] at e; exact ⟨congrArg (AV.int .i64) e, trivial⟩
      · refine (Tri.skip ?_)
        refine (Tri.reg hT ?_)
        have h1' := i_lt h1; have e := hi.2; rw [drop_getD cD h1', atI, if_neg (by have := of_decide_eq_false h2; exact this)] at e
        exact ⟨i + 1, ⟨h1', e⟩, by (try simp only [decide_eq_true_eq, decide_eq_false_iff_not, toNat_cast] at *); omega, Le.weak rfl rfl rfl rfl ⟨(by first | rfl | exact iv1 (by (try simp only [decide_eq_true_eq, decide_eq_false_iff_not, toNat_cast] at *); omega)), (by first | rfl | exact iv1 (by (try simp only [decide_eq_true_eq, decide_eq_false_iff_not, toNat_cast] at *); omega)), (by first | rfl | exact iv1 (by (try simp only [decide_eq_true_eq, decide_eq_false_iff_not, toNat_cast] at *); omega)), trivial⟩ trivial⟩
    · refine Tri.exit ?_
      refine Tri.seq (Tri.reg hT ?_)
      refine Tri.ret ?_
      have e := hi.2; rw [List.drop_of_length_le (by have := of_decide_eq_false h1; omega)] at e; exact ⟨congrArg (AV.int .i64) e, trivial⟩

theorem f79_spec (c : List Cl) (x : Cl) (hl : c.length ≤ 1099511627776) : PSpec P [] 79 [.list cT c, cv x] (.list cT (putC x c)) := by
  refine pspec_intro hT Try.func79 (by decide) rfl rfl (by kernel_rfl) rfl ?_
  refine Tri.seq (Tri.reg hT ?_)
  refine Tri.seq (Tri.reg hT ?_)
  refine Tri.seq (Tri.reg hT ?_)
  refine Tri.seq ?_
  refine Tri.seq (Tri.reg hT ?_)
  refine (Tri.block ?_)
  refine (Tri.loop (ι := Nat) (fun i => ⟨44, 0, 6, [(0, .list cT c), (3, .loc 0 0), (5, .own 5 (putF x (c.take i)).1.length), (6, .bool (putF x (c.take i)).2), (7, .int .i64 (i : Int))], [(0, .box [.int .i64 x.1, .int .u8 x.2.1, .int .i64 x.2.2.1, .int .i64 x.2.2.2.1]), (5, .arr cT (putF x (c.take i)).1)], []⟩) (fun i => i ≤ c.length) (fun i => c.length - i) (0) ?_ ?_ ?_)
  · exact Nat.zero_le _
  · exact Le.trans (Le.own 5 cT rfl) (Le.weak rfl rfl rfl rfl ⟨(by first | rfl | exact iv1 (by (try simp only [decide_eq_true_eq, decide_eq_false_iff_not, toNat_cast] at *); omega)), (by first | rfl | exact iv1 (by (try simp only [decide_eq_true_eq, decide_eq_false_iff_not, toNat_cast] at *); omega)), (by first | rfl | exact iv1 (by (try simp only [decide_eq_true_eq, decide_eq_false_iff_not, toNat_cast] at *); omega)), (by first | rfl | exact iv1 (by (try simp only [decide_eq_true_eq, decide_eq_false_iff_not, toNat_cast] at *); omega)), (by first | rfl | exact iv1 (by (try simp only [decide_eq_true_eq, decide_eq_false_iff_not, toNat_cast] at *); omega)), trivial⟩ ⟨rfl, rfl, trivial⟩)
  · intro i hi
    refine Tri.seq ?_
    refine Tri.seq (Tri.reg hT ?_)
    refine (Tri.cond ⟨fun h1 => ?_, fun h1 => ?_⟩)
    · refine (Tri.skip ?_)
      refine Tri.seq (Tri.block ?_)
      refine Tri.join (True) (⟨44, 0, 6, [(0, .list cT c), (3, .loc 0 0), (5, .own 5 (putMid x (putF x (c.take i)) (c.getD i cD)).1.length), (6, .bool (putMid x (putF x (c.take i)) (c.getD i cD)).2), (7, .int .i64 (i : Int))], [(0, .box [.int .i64 x.1, .int .u8 x.2.1, .int .i64 x.2.2.1, .int .i64 x.2.2.2.1]), (5, .arr cT (putMid x (putF x (c.take i)) (c.getD i cD)).1)], []⟩) ?_ fun hp3 => ?_
      · refine Tri.seq (Tri.drw hT hm 12 (by kernel_rfl) ?_)
        refine ⟨_, [], trivial, rfl, rfl, fun h => ⟨rfl, rfl, rfl⟩, ?_⟩
        refine ⟨_, [], trivial, rfl, rfl, fun h => ⟨rfl, rfl, rfl⟩, ?_⟩
        refine ⟨_, [], trivial, rfl, rfl, fun h => ⟨h, h, (by first | ((try simp only [decide_eq_true_eq, decide_eq_false_iff_not, toNat_cast] at *); omega) | decide), rfl, rfl, rfl⟩, ?_⟩
        refine ⟨_, [], trivial, rfl, rfl, fun h => ⟨h, rfl, rfl, rfl⟩, ?_⟩
        refine ⟨_, [], trivial, rfl, rfl, fun h => ⟨h, rfl, rfl, rfl⟩, ?_⟩
        refine ⟨_, [], trivial, rfl, rfl, fun h => ⟨rfl, rfl, rfl⟩, ?_⟩
        refine ⟨_, [], trivial, rfl, rfl, fun h => ⟨h, rfl, rfl, rfl⟩, ?_⟩
        refine ⟨_, [], trivial, rfl, rfl, fun h => ⟨h, h, rfl, rfl, rfl⟩, ?_⟩
        refine ⟨⟨fun hc => hc, fun _ => trivial⟩, ?_⟩
        refine ⟨by kernel_rfl, ?_⟩
        refine (Tri.cond ⟨fun h2 => ?_, fun h2 => ?_⟩)
        · have hlen := (putF_len x (c.take i)).1; have hl2 : (c.take i).length = i := by rw [List.length_take]; omega
          refine Tri.seq (Tri.reg hT ?_)
          refine ⟨(Nat.le_refl _), (by show _ ≤ _ ∧ (_ + 1) * _ ≤ _ ∧ _ + 1 ≤ _; dsimp only; (try simp only [decide_eq_true_eq, decide_eq_false_iff_not, toNat_cast] at *); omega), ?_⟩
          refine (Tri.reg hT ?_)
          have e : putMid x (putF x (c.take i)) (c.getD i cD) = ((putF x (c.take i)).1 ++ [x], true) := if_pos h2
          exact ⟨trivial, Le.weak rfl rfl rfl rfl ⟨(by first | rfl | exact iv1 (by (try simp only [decide_eq_true_eq, decide_eq_false_iff_not, toNat_cast] at *); omega)), (by first | rfl | exact iv1 (by (try simp only [decide_eq_true_eq, decide_eq_false_iff_not, toNat_cast] at *); omega)), congrArg (AV.own 5) (by rw [e]; exact List.length_append.symm), congrArg (fun s : List Cl × Bool => AV.bool s.2) e.symm, (by first | rfl | exact iv1 (by (try simp only [decide_eq_true_eq, decide_eq_false_iff_not, toNat_cast] at *); omega)), trivial⟩ ⟨rfl, congrArg (fun l => some (Chunk.arr _ l)) (by rw [e]; first | rfl | (rw [List.take_length]; rfl)), trivial⟩⟩
        · refine (Tri.skip ?_)
          have e : putMid x (putF x (c.take i)) (c.getD i cD) = putF x (c.take i) := if_neg (by show ¬ _; rw [Bool.not_eq_true]; exact h2)
          exact ⟨trivial, Le.weak rfl rfl rfl rfl ⟨(by first | rfl | exact iv1 (by (try simp only [decide_eq_true_eq, decide_eq_false_iff_not, toNat_cast] at *); omega)), (by first | rfl | exact iv1 (by (try simp only [decide_eq_true_eq, decide_eq_false_iff_not, toNat_cast] at *); omega)), congrArg (AV.own 5) (congrArg List.length (congrArg Prod.fst e.symm)), congrArg (fun s : List Cl × Bool => AV.bool s.2) e.symm, (by first | rfl | exact iv1 (by (try simp only [decide_eq_true_eq, decide_eq_false_iff_not, toNat_cast] at *); omega)), trivial⟩ ⟨rfl, congrArg (fun l => some (Chunk.arr _ l)) (congrArg Prod.fst e.symm), trivial⟩⟩
      · have h1' := i_lt h1; have e : putF x (c.take (i + 1)) = putS x (putF x (c.take i)) (c.getD i cD) := foldl_next _ _ cD h1'; have e1 : (putF x (c.take (i + 1))).1 = (putMid x (putF x (c.take i)) (c.getD i cD)).1 ++ [c.getD i cD] := congrArg Prod.fst e; have hlen := (putF_len x (c.take (i + 1))).1; have hl2 : (c.take (i + 1)).length = i + 1 := (by rw [List.length_take]; omega); have hl3 := congrArg List.length e1; rw [List.length_append, List.length_singleton] at hl3
        refine (Tri.reg hT ?_)
        refine ⟨(by first | ((try simp only [decide_eq_true_eq, decide_eq_false_iff_not, toNat_cast] at *); omega) | decide), ?_⟩
        refine ⟨(Nat.le_refl _), (by show _ ≤ _ ∧ (_ + 1) * _ ≤ _ ∧ _ + 1 ≤ _; dsimp only; (try simp only [decide_eq_true_eq, decide_eq_false_iff_not, toNat_cast] at *); omega), ?_⟩
        refine (Tri.reg hT ?_)
        exact ⟨i + 1, h1', by (try simp only [decide_eq_true_eq, decide_eq_false_iff_not, toNat_cast] at *); omega, Le.weak rfl rfl rfl rfl ⟨(by first | rfl | exact iv1 (by (try simp only [decide_eq_true_eq, decide_eq_false_iff_not, toNat_cast] at *); omega)), (by first | rfl | exact iv1 (by (try simp only [decide_eq_true_eq, decide_eq_false_iff_not, toNat_cast] at *); omega)), congrArg (AV.own 5) (by rw [e1]; exact List.length_append.symm), congrArg AV.bool (congrArg Prod.snd e).symm, (by first | rfl | exact iv1 (by (try simp only [decide_eq_true_eq, decide_eq_false_iff_not, toNat_cast] at *); omega)), trivial⟩ ⟨rfl, congrArg (fun l => some (Chunk.arr _ l)) (by rw [e1]; first | rfl | (rw [List.take_length]; rfl)), trivial⟩⟩
    · refine Tri.exit ?_
      refine Tri.join (True) (⟨44, 0, 6, [(5, .own 5 (putC x c).length)], [(5, .arr cT (putC x c))], []⟩) ?_ fun hp4 => ?_
      · have hc : c.take i = c := take_all (of_decide_eq_false h1); rw [hc]; have hlen := (putF_len x c).1
        refine Tri.seq (Tri.reg hT ?_)
        refine (Tri.cond ⟨fun h3 => ?_, fun h3 => ?_⟩)
        · refine (Tri.reg hT ?_)
          refine ⟨(Nat.le_refl _), (by show _ ≤ _ ∧ (_ + 1) * _ ≤ _ ∧ _ + 1 ≤ _; dsimp only; (try simp only [decide_eq_true_eq, decide_eq_false_iff_not, toNat_cast] at *); omega), ?_⟩
          have e : putC x c = (putF x c).1 ++ [x] := if_pos h3
          exact ⟨trivial, Le.weak rfl rfl rfl rfl ⟨congrArg (AV.own 5) (by rw [e]; exact List.length_append.symm), trivial⟩ ⟨congrArg (fun l => some (Chunk.arr _ l)) (by rw [e]; first | rfl | (rw [List.take_length]; rfl)), trivial⟩⟩
        · refine (Tri.skip ?_)
          have e : putC x c = (putF x c).1 := if_neg (by rw [Bool.not_eq_true]; exact h3)
          exact ⟨trivial, Le.weak rfl rfl rfl rfl ⟨congrArg (AV.own 5) (congrArg List.length (e.symm)), trivial⟩ ⟨congrArg (fun l => some (Chunk.arr _ l)) (e.symm), trivial⟩⟩
      · refine Tri.seq (Tri.reg hT ?_)
        refine Tri.le ⟨44, 0, 0, [(4, .list cT (putC x c))], [], []⟩ (Le.trans (Le.freeze 4 _ _ rfl rfl (by first | exact Nat.le_refl _ | (rw [List.length_append, List.length_take]; exact Nat.le_of_eq (by simp)))) (Le.weak rfl rfl rfl rfl ⟨congrArg (AV.list cT) ((List.take_length ..).trans (rfl)), trivial⟩ trivial)) ?_
        refine Tri.ret ?_
        exact ⟨rfl, trivial⟩

theorem f81_spec (c : List Cl) (hs : SmallC c) : PSpec P [] 81 [.list cT c] (.list pT (J c)) := by
  have hl := hs.2
  refine pspec_intro hT Try.func81 (by decide) rfl rfl (by kernel_rfl) rfl ?_
  refine Tri.seq (Tri.reg hT ?_)
  refine Tri.seq (Tri.reg hT ?_)
  refine Tri.seq ?_
  refine Tri.seq (Tri.reg hT ?_)
  refine (Tri.block ?_)
  refine (Tri.loop (ι := Nat) (fun i => ⟨92, 0, 4, [(0, .list cT c), (3, .own 3 (J (c.take i)).length), (4, .int .i64 (i : Int))], [(3, .arr pT (J (c.take i)))], []⟩) (fun i => i ≤ c.length ∧ Brk c i) (fun i => c.length - i) (0) ?_ ?_ ?_)
  · exact ⟨Nat.zero_le _, fun h => by simp [J, joinP]⟩
  · exact Le.trans (Le.own 3 pT rfl) (Le.weak rfl rfl rfl rfl ⟨(by first | rfl | exact iv1 (by (try simp only [decide_eq_true_eq, decide_eq_false_iff_not, toNat_cast] at *); omega)), (by first | rfl | exact iv1 (by (try simp only [decide_eq_true_eq, decide_eq_false_iff_not, toNat_cast] at *); omega)), (by first | rfl | exact iv1 (by (try simp only [decide_eq_true_eq, decide_eq_false_iff_not, toNat_cast] at *); omega)), trivial⟩ ⟨rfl, trivial⟩)
  · intro i hi
    refine Tri.seq ?_
    refine Tri.seq (Tri.reg hT ?_)
    refine (Tri.cond ⟨fun h1 => ?_, fun h1 => ?_⟩)
    · refine (Tri.skip ?_)
      refine (Tri.block ?_)
      refine Tri.seq (Tri.reg hT ?_)
      refine Tri.seq (Tri.reg hT ?_)
      refine Tri.seq (Tri.block ?_)
      refine (Tri.loop (ι := Nat) (fun k => ⟨92, 0, 12, [(0, .list cT c), (3, .own 3 (J (c.take i)).length), (4, .int .i64 (i : Int)), (5, .int .i64 (k : Int)), (6, .own 11 (runB c i k).length)], [(3, .arr pT (J (c.take i))), (11, .arr (.int .u8) (runB c i k))], []⟩) (fun k => Run c i k) (fun k => c.length - k) (i) ?_ ?_ ?_)
      · exact run_start c hi.1
      · have e0 : ([] : List Int) = runB c i i := by simp [runB]
        exact Le.trans (Le.own 6 (.int .u8) rfl) (Le.weak rfl rfl rfl rfl ⟨(by first | rfl | exact iv1 (by (try simp only [decide_eq_true_eq, decide_eq_false_iff_not, toNat_cast] at *); omega)), (by first | rfl | exact iv1 (by (try simp only [decide_eq_true_eq, decide_eq_false_iff_not, toNat_cast] at *); omega)), (by first | rfl | exact iv1 (by (try simp only [decide_eq_true_eq, decide_eq_false_iff_not, toNat_cast] at *); omega)), (by first | rfl | exact iv1 (by (try simp only [decide_eq_true_eq, decide_eq_false_iff_not, toNat_cast] at *); omega)), congrArg (AV.own 11) (congrArg List.length (e0)), trivial⟩ ⟨rfl, congrArg (fun l => some (Chunk.arr _ l)) (e0), trivial⟩)
      · intro k hk
        refine Tri.seq ?_
        have h1' := i_lt h1; have hi1 := hi.1; have hk1 := hk.1; have hk2 := hk.2.1
        refine Tri.seq (Tri.drw hT hm 47 (by kernel_rfl) ?_)
        refine ⟨_, [], trivial, rfl, rfl, fun h => ⟨rfl, rfl, rfl⟩, ?_⟩
        refine ⟨_, [], trivial, rfl, rfl, fun h => ⟨rfl, rfl, rfl⟩, ?_⟩
        refine ⟨_, [], trivial, rfl, rfl, fun h => ⟨h, h, by have := i_lt h; omega, rfl, rfl, rfl⟩, ?_⟩
        refine ⟨_, [], trivial, rfl, rfl, fun h => ⟨h, rfl, rfl, rfl⟩, ?_⟩
        refine ⟨_, [], trivial, rfl, rfl, fun h => ⟨h, rfl, rfl, rfl⟩, ?_⟩
        refine ⟨_, [], trivial, rfl, rfl, fun h => ⟨rfl, rfl, rfl⟩, ?_⟩
        refine ⟨_, [], trivial, rfl, rfl, fun h => ⟨rfl, rfl, rfl⟩, ?_⟩
        refine ⟨_, [], trivial, rfl, rfl, fun h => ⟨h, h, (by first | ((try simp only [decide_eq_true_eq, decide_eq_false_iff_not, toNat_cast] at *); omega) | decide), rfl, rfl, rfl⟩, ?_⟩
        refine ⟨_, [], trivial, rfl, rfl, fun h => ⟨h, rfl, rfl, rfl⟩, ?_⟩
        refine ⟨_, [], trivial, rfl, rfl, fun h => ⟨h, rfl, rfl, rfl⟩, ?_⟩
        refine ⟨_, [], trivial, rfl, rfl, fun h => ⟨rfl, rfl, rfl⟩, ?_⟩
        refine ⟨_, [], trivial, rfl, rfl, fun h => ⟨h, h, rfl, rfl, rfl⟩, ?_⟩
        refine ⟨_, [], trivial, rfl, rfl, fun h => ⟨rfl, rfl, rfl⟩, ?_⟩
        refine ⟨_, [], trivial, rfl, rfl, fun h => ⟨h, h, rfl, rfl, rfl⟩, ?_⟩
        refine ⟨_, [], trivial, rfl, rfl, fun h => ⟨h, h, rfl, rfl, rfl⟩, ?_⟩
        refine ⟨⟨fun hc => hc, fun _ => trivial⟩, ?_⟩
        refine ⟨_, [], trivial, rfl, rfl, fun h => ⟨rfl, rfl, rfl⟩, ?_⟩
        refine ⟨_, [], trivial, rfl, rfl, fun h => ⟨rfl, rfl, rfl⟩, ?_⟩
        refine ⟨_, [], trivial, rfl, rfl, fun h => ⟨h, h, by have := i_lt (gl' h); omega, rfl, rfl, rfl⟩, ?_⟩
        refine ⟨_, [], trivial, rfl, rfl, fun h => ⟨h, rfl, rfl, rfl⟩, ?_⟩
        refine ⟨_, [], trivial, rfl, rfl, fun h => ⟨h, rfl, rfl, rfl⟩, ?_⟩
        refine ⟨_, [], trivial, rfl, rfl, fun h => ⟨rfl, rfl, rfl⟩, ?_⟩
        refine ⟨_, [], trivial, rfl, rfl, fun h => ⟨rfl, rfl, rfl⟩, ?_⟩
        refine ⟨_, [], trivial, rfl, rfl, fun h => ⟨h, h, (by first | ((try simp only [decide_eq_true_eq, decide_eq_false_iff_not, toNat_cast] at *); omega) | decide), rfl, rfl, rfl⟩, ?_⟩
        refine ⟨_, [], trivial, rfl, rfl, fun h => ⟨h, rfl, rfl, rfl⟩, ?_⟩
        refine ⟨_, [], trivial, rfl, rfl, fun h => ⟨h, rfl, rfl, rfl⟩, ?_⟩
        refine ⟨_, [], trivial, rfl, rfl, fun h => ⟨h, h, rfl, rfl, rfl⟩, ?_⟩
        refine ⟨⟨fun hc => hc, fun _ => trivial⟩, ?_⟩
        refine ⟨_, [], trivial, rfl, rfl, fun h => ⟨rfl, rfl, rfl⟩, ?_⟩
        refine ⟨_, [], trivial, rfl, rfl, fun h => ⟨rfl, rfl, rfl⟩, ?_⟩
        refine ⟨_, [], trivial, rfl, rfl, fun h => ⟨h, h, by have := i_lt (gl' (gl' h)); omega, rfl, rfl, rfl⟩, ?_⟩
        refine ⟨_, [], trivial, rfl, rfl, fun h => ⟨h, rfl, rfl, rfl⟩, ?_⟩
        refine ⟨_, [], trivial, rfl, rfl, fun h => ⟨h, rfl, rfl, rfl⟩, ?_⟩
        refine ⟨_, [], trivial, rfl, rfl, fun h => ⟨rfl, rfl, rfl⟩, ?_⟩
        refine ⟨_, [], trivial, rfl, rfl, fun h => ⟨rfl, rfl, rfl⟩, ?_⟩
        refine ⟨_, [], trivial, rfl, rfl, fun h => ⟨h, h, (by first | ((try simp only [decide_eq_true_eq, decide_eq_false_iff_not, toNat_cast] at *); omega) | decide), rfl, rfl, rfl⟩, ?_⟩
        refine ⟨_, [], trivial, rfl, rfl, fun h => ⟨h, rfl, rfl, rfl⟩, ?_⟩
        refine ⟨_, [], trivial, rfl, rfl, fun h => ⟨h, rfl, rfl, rfl⟩, ?_⟩
        refine ⟨_, [], trivial, rfl, rfl, fun h => ⟨h, h, rfl, rfl, rfl⟩, ?_⟩
        refine ⟨⟨fun hc => hc, fun _ => trivial⟩, ?_⟩
        refine ⟨by kernel_rfl, ?_⟩
        refine (Tri.cond ⟨fun h2 => ?_, fun h2 => ?_⟩)
        · refine (Tri.skip ?_)
          refine (Tri.block ?_)
          have hn := run_next hs hi.2 hk h1' h2; have e := runB_next hk1 hn.2; have hbl := runB_len hk1 hk2
          refine Tri.seq (Tri.reg hT ?_)
          refine ⟨by have := hn.2; omega, ?_⟩
          refine ⟨(Nat.le_refl _), (by show _ ≤ _ ∧ (_ + 1) * _ ≤ _ ∧ _ + 1 ≤ _; dsimp only; (try simp only [decide_eq_true_eq, decide_eq_false_iff_not, toNat_cast] at *); omega), ?_⟩
          refine (Tri.reg hT ?_)
          exact ⟨k + 1, hn.1, by (try simp only [decide_eq_true_eq, decide_eq_false_iff_not, toNat_cast] at *); omega, Le.weak rfl rfl rfl rfl ⟨(by first | rfl | exact iv1 (by (try simp only [decide_eq_true_eq, decide_eq_false_iff_not, toNat_cast] at *); omega)), (by first | rfl | exact iv1 (by (try simp only [decide_eq_true_eq, decide_eq_false_iff_not, toNat_cast] at *); omega)), (by first | rfl | exact iv1 (by (try simp only [decide_eq_true_eq, decide_eq_false_iff_not, toNat_cast] at *); omega)), (by first | rfl | exact iv1 (by (try simp only [decide_eq_true_eq, decide_eq_false_iff_not, toNat_cast] at *); omega)), congrArg (AV.own 11) (by rw [e]; exact List.length_append.symm), trivial⟩ ⟨rfl, congrArg (fun l => some (Chunk.arr _ l)) (by rw [e]; first | rfl | (rw [List.take_length]; rfl)), trivial⟩⟩
        · refine Tri.exit ?_
          have hn := run_end hs hk h1' h2; have e : J (c.take k) = J (c.take i) ++ [((c.getD i cD).1, (List.take (runB c i k).length (runB c i k)).map Fw.byteOf, (c.getD i cD).2.2.1, (c.getD i cD).2.2.2.1, ())] := (by rw [List.take_length]; exact hn.2.1); have hjl := J_len (c.take i); have hjl2 : (c.take i).length = i := (by rw [List.length_take]; omega)
          refine Tri.seq (Tri.drw hT hm 20 (by kernel_rfl) ?_)
          refine ⟨(by first | ((try simp only [decide_eq_true_eq, decide_eq_false_iff_not, toNat_cast] at *); omega) | decide), ?_⟩
          refine ⟨(Nat.le_refl _), ?_⟩
          refine ⟨(by first | ((try simp only [decide_eq_true_eq, decide_eq_false_iff_not, toNat_cast] at *); omega) | decide), ?_⟩
          refine ⟨(by first | ((try simp only [decide_eq_true_eq, decide_eq_false_iff_not, toNat_cast] at *); omega) | decide), ?_⟩
          refine ⟨by kernel_rfl, ?_⟩
          refine ⟨(Nat.le_refl _), (by show _ ≤ _ ∧ (_ + 1) * _ ≤ _ ∧ _ + 1 ≤ _; dsimp only; (try simp only [decide_eq_true_eq, decide_eq_false_iff_not, toNat_cast] at *); omega), ?_⟩
          refine (Tri.reg hT ?_)
          exact ⟨k, ⟨hk2, hn.2.2⟩, by have := hn.1; omega, Le.weak rfl rfl rfl rfl ⟨(by first | rfl | exact iv1 (by (try simp only [decide_eq_true_eq, decide_eq_false_iff_not, toNat_cast] at *); omega)), congrArg (AV.own 3) (by rw [e]; exact List.length_append.symm), (by first | rfl | exact iv1 (by (try simp only [decide_eq_true_eq, decide_eq_false_iff_not, toNat_cast] at *); omega)), trivial⟩ ⟨congrArg (fun l => some (Chunk.arr _ l)) (by rw [e]; first | rfl | (rw [List.take_length]; rfl)), trivial⟩⟩
    · refine Tri.exit ?_
      refine Tri.seq (Tri.reg hT ?_)
      refine Tri.le ⟨92, 0, 0, [(2, .list pT (J c))], [], []⟩ (Le.trans (Le.freeze 2 _ _ rfl rfl (by first | exact Nat.le_refl _ | (rw [List.length_append, List.length_take]; exact Nat.le_of_eq (by simp)))) (Le.weak rfl rfl rfl rfl ⟨congrArg (AV.list pT) ((List.take_length ..).trans (congrArg J (take_all (of_decide_eq_false h1)))), trivial⟩ trivial)) ?_
      refine Tri.ret ?_
      exact ⟨rfl, trivial⟩
end Go.Proofs.Ytopnempdeopjfaa.Fx
