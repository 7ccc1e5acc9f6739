import Derived.Test.YtchiagnggnblaaaDoorCnB
set_option linter.all false
/- Contracts of chapter 21: reports. -/
namespace Go.Proofs.YtchiagnggnblaaaDoor.Ac
open Go Go.Fw Go.Ov Go.Proofs.YtchiagnggnblaaaDoor.Fx
def rp1 (d pos : Int) (x : List UInt8) : List Evt := if x = [] then [] else [(2, d, pos - x.length, 0, x, ())]
theorem rp1_len (d pos : Int) (x : List UInt8) : (rp1 d pos x).length ≤ 1 := by unfold rp1; split <;> simp
def rp2 (d pos : Int) (b : Bool) : List Evt := if b = true then [(4, d, pos, 0, [], ())] else []
def repM (d : Int) (s : SS) (x : List UInt8) (had : Bool) : List Evt := rp1 d s.pos x ++ rp2 d s.pos (!had && endedS s)
theorem rep_t {d : Int} {s : SS} {x : List UInt8} {had : Bool} (h : (if (!had) = true then endedS s else false) = true) : rp1 d s.pos x ++ [(4, d, s.pos, 0, [], ())] = repM d s x had := by
  unfold repM rp2
  rw [if_pos (by cases had <;> simp_all)]
theorem rep_f {d : Int} {s : SS} {x : List UInt8} {had : Bool} (h : (if (!had) = true then endedS s else false) = false) : rp1 d s.pos x = repM d s x had := by
  unfold repM rp2
  rw [if_neg (by cases had <;> simp_all), List.append_nil]
theorem f43_h1 (st : Int) (h g : Hf) (s t : SS) (x : List UInt8) (had : Bool) (hx : x.length ≤ 1099511627776) (h0 : 0 ≤ s.pos) (h1' : s.pos ≤ 1099511627776) : HSpec P G 43 [.loc 0 0, .int .i64 1, .str x, .bool had] (cnH st h g s t) (.list evT (repM 1 s x had)) (cnH st h g s t) := by
  refine fspec_intro hT (cnH st h g s t) (cnH st h g s t) 3 3 Tryd.func43 (by decide) rfl rfl (by kernel_rfl) rfl rfl ?_
  refine Tri.seq (Tri.reg hT ?_)
  refine Tri.seq (Tri.reg hT ?_)
  refine Tri.le _ (Le.own 9 evT rfl) ?_
  refine Tri.join (True) (⟨47, 3, 60, [(0, .loc 0 0), (1, .int .i64 1), (3, .bool had), (9, .own 5 (rp1 1 s.pos x).length)], [(0, .box (cnC st h g (.loc 1 0) (.loc 2 0))), (1, .box (bxS s)), (2, .box (bxS t)), (5, .arr evT (rp1 1 s.pos x))], G⟩) ?_ fun hp1 => ?_
  · refine Tri.seq (Tri.reg hT ?_)
    refine (Tri.cond ⟨fun h1 => ?_, fun h1 => ?_⟩)
    · refine Tri.seq (Tri.reg hT ?_)
      refine .inl (.inr (.inl ⟨_, _, (by exact ⟨rfl, rfl, rfl, trivial⟩), (CSpec.ofH (u := [(0, cnC st h g (.loc 1 0) (.loc 2 0), none), (1, bxS s, none), (2, bxS t, none)]) (f28_h1 st h g s t 2 0)), (by rfl), ?_⟩))
      refine Tri.seq (Tri.reg hT ?_)
      refine Tri.seq (Tri.reg hT ?_)
      refine (Tri.reg hT ?_)
      refine ⟨(Nat.le_refl _), (by show _ ≤ _ ∧ (_ + 1) * _ ≤ _ ∧ _ + 1 ≤ _; dsimp only; (try simp only [decide_eq_true_eq, decide_eq_false_iff_not, toNat_cast] at *); omega), ?_⟩
      have hE : rp1 1 s.pos x = [((2 : Int), (1 : Int), s.pos - (x.length : Int), (0 : Int), x, ())] := if_neg (of_decide_eq_true h1); have w := wrapId (x := s.pos - (x.length : Int)) (by omega)
      exact ⟨trivial, Le.weak rfl rfl rfl rfl ⟨(by first | rfl | exact iv1 (by (try simp only [decide_eq_true_eq, decide_eq_false_iff_not, toNat_cast] at *); omega)), (by first | rfl | exact iv1 (by (try simp only [decide_eq_true_eq, decide_eq_false_iff_not, toNat_cast] at *); omega)), (by first | rfl | exact iv1 (by (try simp only [decide_eq_true_eq, decide_eq_false_iff_not, toNat_cast] at *); omega)), (show AV.own 5 1 = AV.own 5 (rp1 1 s.pos x).length from by rw [hE]; rfl), trivial⟩ ⟨rfl, rfl, rfl, (show some (Chunk.arr evT [((2 : Int), (1 : Int), IntKind.i64.wrap (s.pos - (x.length : Int)), (0 : Int), x, ())]) = some (Chunk.arr evT (rp1 1 s.pos x)) from by rw [hE, w]), trivial⟩⟩
    · refine (Tri.skip ?_)
      have he : x = [] := (by have := of_decide_eq_false h1; simpa using this); subst he
      exact ⟨trivial, Le.weak rfl rfl rfl rfl ⟨(by first | rfl | exact iv1 (by (try simp only [decide_eq_true_eq, decide_eq_false_iff_not, toNat_cast] at *); omega)), (by first | rfl | exact iv1 (by (try simp only [decide_eq_true_eq, decide_eq_false_iff_not, toNat_cast] at *); omega)), (by first | rfl | exact iv1 (by (try simp only [decide_eq_true_eq, decide_eq_false_iff_not, toNat_cast] at *); omega)), (by first | rfl | exact iv1 (by (try simp only [decide_eq_true_eq, decide_eq_false_iff_not, toNat_cast] at *); omega)), trivial⟩ ⟨rfl, rfl, rfl, rfl, trivial⟩⟩
  · refine Tri.seq ?_
    have hr1 := rp1_len 1 s.pos x
    refine Tri.seq (Tri.reg hT ?_)
    refine ⟨_, [], trivial, rfl, rfl, fun h => ⟨rfl, rfl, rfl⟩, ?_⟩
    refine ⟨_, [], trivial, rfl, rfl, fun h => ⟨rfl, rfl, rfl⟩, ?_⟩
    refine ⟨_, [], trivial, rfl, rfl, fun h => ⟨h, rfl, rfl, rfl⟩, ?_⟩
    refine ⟨_, [], trivial, rfl, rfl, fun h => ⟨h, rfl, rfl, rfl⟩, ?_⟩
    refine ⟨_, [], trivial, rfl, rfl, fun h => ⟨h, h, (by first | ((try simp only [decide_eq_true_eq, decide_eq_false_iff_not, toNat_cast] at *); omega) | decide), rfl, rfl, rfl⟩, ?_⟩
    refine ⟨_, [], trivial, rfl, rfl, fun h => ⟨h, rfl, rfl, rfl⟩, ?_⟩
    refine ⟨_, [], trivial, rfl, rfl, fun h => ⟨h, rfl, rfl, rfl⟩, ?_⟩
    refine ⟨_, [(1, bxS s, none)], (by exact ⟨rfl, trivial⟩), rfl, (by rfl), fun h => ⟨h, (.inr (.inl ⟨_, _, (by exact ⟨rfl, trivial⟩), (CSpec.gw (f41_spec s 1)), (by rfl), rfl, rfl, rfl⟩))⟩, ?_⟩
    refine ⟨⟨fun hc => hc, fun _ => trivial⟩, ?_⟩
    refine (Tri.cond ⟨fun h2 => ?_, fun h2 => ?_⟩)
    · refine (Tri.reg hT ?_)
      refine .inl (.inr (.inl ⟨_, _, (by exact ⟨rfl, rfl, rfl, trivial⟩), (CSpec.ofH (u := [(0, cnC st h g (.loc 1 0) (.loc 2 0), none), (1, bxS s, none), (2, bxS t, none)]) (f28_h1 st h g s t 4 0)), (by rfl), ?_⟩))
      refine ⟨(Nat.le_refl _), (by show _ ≤ _ ∧ (_ + 1) * _ ≤ _ ∧ _ + 1 ≤ _; dsimp only; (try simp only [decide_eq_true_eq, decide_eq_false_iff_not, toNat_cast] at *); omega), ?_⟩
      refine Tri.seq (Tri.reg hT ?_)
      refine Tri.le ⟨47, 3, 90, [(8, .list evT (repM 1 s x had))], [(0, .box (cnC st h g (.loc 1 0) (.loc 2 0))), (1, .box (bxS s)), (2, .box (bxS t))], G⟩ (Le.trans (Le.freeze 8 5 _ rfl rfl (by simp)) (Le.weak rfl rfl rfl rfl ⟨congrArg (AV.list evT) (by rw [← rep_t h2]; simp only [List.take_length]; exact List.take_of_length_le (by simp)), trivial⟩ ⟨rfl, rfl, rfl, trivial⟩)) ?_
      refine Tri.ret ?_
      exact ⟨rfl, rfl, rfl, rfl, trivial⟩
    · refine (Tri.skip ?_)
      refine Tri.seq (Tri.reg hT ?_)
      refine Tri.le ⟨47, 3, 90, [(8, .list evT (repM 1 s x had))], [(0, .box (cnC st h g (.loc 1 0) (.loc 2 0))), (1, .box (bxS s)), (2, .box (bxS t))], G⟩ (Le.trans (Le.freeze 8 5 _ rfl rfl (Nat.le_refl _)) (Le.weak rfl rfl rfl rfl ⟨congrArg (AV.list evT) (by rw [← rep_f h2, List.take_length]), trivial⟩ ⟨rfl, rfl, rfl, trivial⟩)) ?_
      refine Tri.ret ?_
      exact ⟨rfl, rfl, rfl, rfl, trivial⟩
theorem f43_h2 (st : Int) (h g : Hf) (s t : SS) (x : List UInt8) (had : Bool) (hx : x.length ≤ 1099511627776) (h0 : 0 ≤ t.pos) (h1' : t.pos ≤ 1099511627776) : HSpec P G 43 [.loc 0 0, .int .i64 2, .str x, .bool had] (cnH st h g s t) (.list evT (repM 2 t x had)) (cnH st h g s t) := by
  refine fspec_intro hT (cnH st h g s t) (cnH st h g s t) 3 3 Tryd.func43 (by decide) rfl rfl (by kernel_rfl) rfl rfl ?_
  refine Tri.seq (Tri.reg hT ?_)
  refine Tri.seq (Tri.reg hT ?_)
  refine Tri.le _ (Le.own 9 evT rfl) ?_
  refine Tri.join (True) (⟨47, 3, 60, [(0, .loc 0 0), (1, .int .i64 2), (3, .bool had), (9, .own 5 (rp1 2 t.pos x).length)], [(0, .box (cnC st h g (.loc 1 0) (.loc 2 0))), (1, .box (bxS s)), (2, .box (bxS t)), (5, .arr evT (rp1 2 t.pos x))], G⟩) ?_ fun hp1 => ?_
  · refine Tri.seq (Tri.reg hT ?_)
    refine (Tri.cond ⟨fun h1 => ?_, fun h1 => ?_⟩)
    · refine Tri.seq (Tri.reg hT ?_)
      refine .inl (.inr (.inl ⟨_, _, (by exact ⟨rfl, rfl, rfl, trivial⟩), (CSpec.ofH (u := [(0, cnC st h g (.loc 1 0) (.loc 2 0), none), (1, bxS s, none), (2, bxS t, none)]) (f28_h2 st h g s t 2 0)), (by rfl), ?_⟩))
      refine Tri.seq (Tri.reg hT ?_)
      refine Tri.seq (Tri.reg hT ?_)
      refine (Tri.reg hT ?_)
      refine ⟨(Nat.le_refl _), (by show _ ≤ _ ∧ (_ + 1) * _ ≤ _ ∧ _ + 1 ≤ _; dsimp only; (try simp only [decide_eq_true_eq, decide_eq_false_iff_not, toNat_cast] at *); omega), ?_⟩
      have hE : rp1 2 t.pos x = [((2 : Int), (2 : Int), t.pos - (x.length : Int), (0 : Int), x, ())] := if_neg (of_decide_eq_true h1); have w := wrapId (x := t.pos - (x.length : Int)) (by omega)
      exact ⟨trivial, Le.weak rfl rfl rfl rfl ⟨(by first | rfl | exact iv1 (by (try simp only [decide_eq_true_eq, decide_eq_false_iff_not, toNat_cast] at *); omega)), (by first | rfl | exact iv1 (by (try simp only [decide_eq_true_eq, decide_eq_false_iff_not, toNat_cast] at *); omega)), (by first | rfl | exact iv1 (by (try simp only [decide_eq_true_eq, decide_eq_false_iff_not, toNat_cast] at *); omega)), (show AV.own 5 1 = AV.own 5 (rp1 2 t.pos x).length from by rw [hE]; rfl), trivial⟩ ⟨rfl, rfl, rfl, (show some (Chunk.arr evT [((2 : Int), (2 : Int), IntKind.i64.wrap (t.pos - (x.length : Int)), (0 : Int), x, ())]) = some (Chunk.arr evT (rp1 2 t.pos x)) from by rw [hE, w]), trivial⟩⟩
    · refine (Tri.skip ?_)
      have he : x = [] := (by have := of_decide_eq_false h1; simpa using this); subst he
      exact ⟨trivial, Le.weak rfl rfl rfl rfl ⟨(by first | rfl | exact iv1 (by (try simp only [decide_eq_true_eq, decide_eq_false_iff_not, toNat_cast] at *); omega)), (by first | rfl | exact iv1 (by (try simp only [decide_eq_true_eq, decide_eq_false_iff_not, toNat_cast] at *); omega)), (by first | rfl | exact iv1 (by (try simp only [decide_eq_true_eq, decide_eq_false_iff_not, toNat_cast] at *); omega)), (by first | rfl | exact iv1 (by (try simp only [decide_eq_true_eq, decide_eq_false_iff_not, toNat_cast] at *); omega)), trivial⟩ ⟨rfl, rfl, rfl, rfl, trivial⟩⟩
  · refine Tri.seq ?_
    have hr1 := rp1_len 2 t.pos x
    refine Tri.seq (Tri.reg hT ?_)
    refine ⟨_, [], trivial, rfl, rfl, fun h => ⟨rfl, rfl, rfl⟩, ?_⟩
    refine ⟨_, [], trivial, rfl, rfl, fun h => ⟨rfl, rfl, rfl⟩, ?_⟩
    refine ⟨_, [], trivial, rfl, rfl, fun h => ⟨h, rfl, rfl, rfl⟩, ?_⟩
    refine ⟨_, [], trivial, rfl, rfl, fun h => ⟨h, rfl, rfl, rfl⟩, ?_⟩
    refine ⟨_, [], trivial, rfl, rfl, fun h => ⟨h, h, (by first | ((try simp only [decide_eq_true_eq, decide_eq_false_iff_not, toNat_cast] at *); omega) | decide), rfl, rfl, rfl⟩, ?_⟩
    refine ⟨_, [], trivial, rfl, rfl, fun h => ⟨h, rfl, rfl, rfl⟩, ?_⟩
    refine ⟨_, [], trivial, rfl, rfl, fun h => ⟨h, rfl, rfl, rfl⟩, ?_⟩
    refine ⟨_, [(2, bxS t, none)], (by exact ⟨rfl, trivial⟩), rfl, (by rfl), fun h => ⟨h, (.inr (.inl ⟨_, _, (by exact ⟨rfl, trivial⟩), (CSpec.gw (f41_spec t 2)), (by rfl), rfl, rfl, rfl⟩))⟩, ?_⟩
    refine ⟨⟨fun hc => hc, fun _ => trivial⟩, ?_⟩
    refine (Tri.cond ⟨fun h2 => ?_, fun h2 => ?_⟩)
    · refine (Tri.reg hT ?_)
      refine .inl (.inr (.inl ⟨_, _, (by exact ⟨rfl, rfl, rfl, trivial⟩), (CSpec.ofH (u := [(0, cnC st h g (.loc 1 0) (.loc 2 0), none), (1, bxS s, none), (2, bxS t, none)]) (f28_h2 st h g s t 4 0)), (by rfl), ?_⟩))
      refine ⟨(Nat.le_refl _), (by show _ ≤ _ ∧ (_ + 1) * _ ≤ _ ∧ _ + 1 ≤ _; dsimp only; (try simp only [decide_eq_true_eq, decide_eq_false_iff_not, toNat_cast] at *); omega), ?_⟩
      refine Tri.seq (Tri.reg hT ?_)
      refine Tri.le ⟨47, 3, 90, [(8, .list evT (repM 2 t x had))], [(0, .box (cnC st h g (.loc 1 0) (.loc 2 0))), (1, .box (bxS s)), (2, .box (bxS t))], G⟩ (Le.trans (Le.freeze 8 5 _ rfl rfl (by simp)) (Le.weak rfl rfl rfl rfl ⟨congrArg (AV.list evT) (by rw [← rep_t h2]; simp only [List.take_length]; exact List.take_of_length_le (by simp)), trivial⟩ ⟨rfl, rfl, rfl, trivial⟩)) ?_
      refine Tri.ret ?_
      exact ⟨rfl, rfl, rfl, rfl, trivial⟩
    · refine (Tri.skip ?_)
      refine Tri.seq (Tri.reg hT ?_)
      refine Tri.le ⟨47, 3, 90, [(8, .list evT (repM 2 t x had))], [(0, .box (cnC st h g (.loc 1 0) (.loc 2 0))), (1, .box (bxS s)), (2, .box (bxS t))], G⟩ (Le.trans (Le.freeze 8 5 _ rfl rfl (Nat.le_refl _)) (Le.weak rfl rfl rfl rfl ⟨congrArg (AV.list evT) (by rw [← rep_f h2, List.take_length]), trivial⟩ ⟨rfl, rfl, rfl, trivial⟩)) ?_
      refine Tri.ret ?_
      exact ⟨rfl, rfl, rfl, rfl, trivial⟩
end Go.Proofs.YtchiagnggnblaaaDoor.Ac
