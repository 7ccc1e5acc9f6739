import Derived.Test.YtchiagnggnblaaaDoorCnJ
set_option linter.all false
/- Chapter 21: the segment that completes the handshake. -/
namespace Go.Proofs.YtchiagnggnblaaaDoor.Ac
open Go Go.Fw Go.Ov Go.Proofs.YtchiagnggnblaaaDoor.Fx
/-- The stream of a half. -/
def nwS (p : Hf) : SS := newS p.isn p.win p.pol
theorem f32_half (p : Hf) : NSpec P G 32 [.int .u32 p.isn, .int .i64 p.win, .int .i64 p.pol] (bxS (nwS p)) := NSpec.gw (f32_spec p.isn p.win p.pol)
theorem nwS_inv (p : Hf) : SInv (nwS p) 0 := newS_inv _ _ _
def esR (p g : Hf) (q k f : Int) (o : List optT.D) (x : List UInt8) : Int := if rsnM p g (nwS p) q k f o x = 0 ∧ k ≠ IntKind.u32.wrap (g.isn + 1) then 4 else rsnM p g (nwS p) q k f o x
abbrev cnA (st : Int) (p g : Hf) (s t : SS) : List (Nat × Chunk) := [(0, .box (cnC st p g (.loc 45 0) (.loc 85 0))), (45, .box (bxS s)), (85, .box (bxS t))]
abbrev esZ (i j : Nat) (st : Int) (p g : Hf) (q k f : Int) (o : List optT.D) (x : List UInt8) : List (Nat × Chunk) := [(0, .box (cnC (stM (tkS (nwS p) q f x) (tkT (nwS g) k)) (tkH p (nwS p) q f o x) g (.loc i 0) (.loc j 0))), (i, .box (bxS (tkS (nwS p) q f x))), (j, .box (bxS (tkT (nwS g) k)))]
theorem tkE_len (d e : Int) (s t : SS) (q k f : Int) (x : List UInt8) : (tkE d e s t q k f x).length ≤ 6 := by
  have h1 := numM_len 6 d s.pos (addS s q x).1.2.2
  have h2 := repM_len d (tkS s q f x) (addS s q x).1.1 (endedS s)
  have h3 := numM_len 3 e t.pos (lostS t k).1.1
  have h4 := repM_len e (tkT t k) (lostS t k).1.2 (endedS t)
  unfold tkE tkE3 tkE2 tkE1
  simp only [List.length_append]
  omega
theorem esR_t {p g : Hf} {q k f : Int} {o : List optT.D} {x : List UInt8} (h : (if decide (rsnM p g (nwS p) q k f o x = 0) = true then decide (k ≠ IntKind.u32.wrap (g.isn + 1)) else false) = true) : 4 = esR p g q k f o x := by
  unfold esR
  rw [if_pos]
  split at h
  · rename_i h1; exact ⟨of_decide_eq_true h1, of_decide_eq_true h⟩
  · cases h
theorem esR_f {p g : Hf} {q k f : Int} {o : List optT.D} {x : List UInt8} (h : (if decide (rsnM p g (nwS p) q k f o x = 0) = true then decide (k ≠ IntKind.u32.wrap (g.isn + 1)) else false) = false) : rsnM p g (nwS p) q k f o x = esR p g q k f o x := by
  unfold esR
  rw [if_neg]
  rintro ⟨h1, h2⟩
  rw [if_pos (decide_eq_true h1)] at h
  simp [h2] at h
set_option maxRecDepth 16000 in
theorem f24_a (st : Int) (p g : Hf) (a b q k f w u : Int) (o : List optT.D) (x : List UInt8) (ho : o.length < 9223372036854775807) (hx : x.length ≤ 1000000) (hr : esR p g q k f o x = 0) :
    HSpec P G 24 [.loc 0 0, tcpV a b q k f w u o x] (cnN st p g) (.list evT ((1, 1, 0, 0, [], ()) :: tkE 1 2 (nwS p) (nwS g) q k f x)) (esZ 45 85 st p g q k f o x) := by
  refine fspec_intro hT (cnN st p g) (esZ 45 85 st p g q k f o x) 1 1 Tryd.func24 (by decide) rfl rfl (by kernel_rfl) rfl rfl ?_
  refine Tri.seq (Tri.reg hT ?_)
  refine Tri.seq ?_
  refine Tri.seq (Tri.reg hT ?_)
  refine (Tri.block ?_)
  refine (Tri.loopN 3 ?_)
  refine TriL.go (Tri.le (S := ⟨88, 1, 20, [(0, .loc 0 0), (3, .loc 1 0), (4, .nils), (9, .own 3 2), (10, .int .i64 2), (11, .int .i64 0)], [(0, .box (cnC st p g .nilp .nilp)), (1, .box (tcC a b q k f w u o x)), (3, .arr (.int .i64) [1, 2])], G⟩) (Le.weak rfl rfl rfl rfl ⟨(by first | rfl | exact iv1 (by (try simp only [decide_eq_true_eq, decide_eq_false_iff_not, toNat_cast] at *); omega)), (by first | rfl | exact iv1 (by (try simp only [decide_eq_true_eq, decide_eq_false_iff_not, toNat_cast] at *); omega)), (by first | rfl | exact iv1 (by (try simp only [decide_eq_true_eq, decide_eq_false_iff_not, toNat_cast] at *); omega)), (by first | rfl | exact iv1 (by (try simp only [decide_eq_true_eq, decide_eq_false_iff_not, toNat_cast] at *); omega)), (by first | rfl | exact iv1 (by (try simp only [decide_eq_true_eq, decide_eq_false_iff_not, toNat_cast] at *); omega)), (by first | rfl | exact iv1 (by (try simp only [decide_eq_true_eq, decide_eq_false_iff_not, toNat_cast] at *); omega)), trivial⟩ ⟨rfl, rfl, rfl, trivial⟩) ?_)
  refine Tri.seq (Tri.reg hT ?_)
  refine Tri.seq (Tri.cond ⟨fun hq => ?_, fun hq => absurd hq (by decide)⟩)
  refine (Tri.skip ?_)
  refine Tri.seq (Tri.block ?_)
  refine Tri.seq (Tri.reg hT ?_)
  refine ⟨(by first | ((try simp only [decide_eq_true_eq, decide_eq_false_iff_not, toNat_cast] at *); omega) | decide), ?_⟩
  refine ⟨(by decide), ?_⟩
  refine Tri.seq (Tri.reg hT ?_)
  refine ⟨(by first | ((try simp only [decide_eq_true_eq, decide_eq_false_iff_not, toNat_cast] at *); omega) | decide), ?_⟩
  refine (Tri.drw hT hm 19 (by kernel_rfl) ?_)
  refine .inr (.inr ⟨_, (by exact fun _ => rfl), (f32_half _), ?_⟩)
  refine ⟨by kernel_rfl, ?_⟩
  refine (Tri.reg hT ?_)
  refine TriL.go (Tri.le (S := ⟨88, 1, 60, [(0, .loc 0 0), (3, .loc 1 0), (4, .nils), (9, .own 3 2), (10, .int .i64 2), (11, .int .i64 1)], [(0, .box (cnC st p g (.loc 45 0) .nilp)), (1, .box (tcC a b q k f w u o x)), (3, .arr (.int .i64) [1, 2]), (45, .box (bxS (nwS p)))], G⟩) (Le.weak rfl rfl rfl rfl ⟨(by first | rfl | exact iv1 (by (try simp only [decide_eq_true_eq, decide_eq_false_iff_not, toNat_cast] at *); omega)), (by first | rfl | exact iv1 (by (try simp only [decide_eq_true_eq, decide_eq_false_iff_not, toNat_cast] at *); omega)), (by first | rfl | exact iv1 (by (try simp only [decide_eq_true_eq, decide_eq_false_iff_not, toNat_cast] at *); omega)), (by first | rfl | exact iv1 (by (try simp only [decide_eq_true_eq, decide_eq_false_iff_not, toNat_cast] at *); omega)), (by first | rfl | exact iv1 (by (try simp only [decide_eq_true_eq, decide_eq_false_iff_not, toNat_cast] at *); omega)), (by first | rfl | exact iv1 (by (try simp only [decide_eq_true_eq, decide_eq_false_iff_not, toNat_cast] at *); omega)), trivial⟩ ⟨rfl, rfl, rfl, rfl, trivial⟩) ?_)
  refine Tri.seq (Tri.reg hT ?_)
  refine Tri.seq (Tri.cond ⟨fun hq => ?_, fun hq => absurd hq (by decide)⟩)
  refine (Tri.skip ?_)
  refine Tri.seq (Tri.block ?_)
  refine Tri.seq (Tri.reg hT ?_)
  refine ⟨(by first | ((try simp only [decide_eq_true_eq, decide_eq_false_iff_not, toNat_cast] at *); omega) | decide), ?_⟩
  refine ⟨(by decide), ?_⟩
  refine Tri.seq (Tri.reg hT ?_)
  refine ⟨(by first | ((try simp only [decide_eq_true_eq, decide_eq_false_iff_not, toNat_cast] at *); omega) | decide), ?_⟩
  refine (Tri.drw hT hm 19 (by kernel_rfl) ?_)
  refine .inr (.inr ⟨_, (by exact fun _ => rfl), (f32_half _), ?_⟩)
  refine ⟨by kernel_rfl, ?_⟩
  refine (Tri.reg hT ?_)
  refine TriL.go (Tri.le (S := ⟨88, 1, 100, [(0, .loc 0 0), (3, .loc 1 0), (4, .nils), (10, .int .i64 2), (11, .int .i64 2)], [(0, .box (cnC st p g (.loc 45 0) (.loc 85 0))), (1, .box (tcC a b q k f w u o x)), (45, .box (bxS (nwS p))), (85, .box (bxS (nwS g)))], G⟩) (Le.weak rfl rfl rfl rfl ⟨(by first | rfl | exact iv1 (by (try simp only [decide_eq_true_eq, decide_eq_false_iff_not, toNat_cast] at *); omega)), (by first | rfl | exact iv1 (by (try simp only [decide_eq_true_eq, decide_eq_false_iff_not, toNat_cast] at *); omega)), (by first | rfl | exact iv1 (by (try simp only [decide_eq_true_eq, decide_eq_false_iff_not, toNat_cast] at *); omega)), (by first | rfl | exact iv1 (by (try simp only [decide_eq_true_eq, decide_eq_false_iff_not, toNat_cast] at *); omega)), (by first | rfl | exact iv1 (by (try simp only [decide_eq_true_eq, decide_eq_false_iff_not, toNat_cast] at *); omega)), trivial⟩ ⟨rfl, rfl, rfl, rfl, trivial⟩) ?_)
  refine Tri.seq (Tri.reg hT ?_)
  refine Tri.seq (Tri.cond ⟨fun hq => absurd hq (by decide), fun hq => ?_⟩)
  refine Tri.exit ?_
  refine Tri.seq (Tri.drw hT hm 10 (by kernel_rfl) ?_)
  refine .inr (.inl ⟨_, _, (by exact ⟨rfl, rfl, rfl, trivial⟩), (CSpec.ofH (u := [(0, cnC st p g (.loc 45 0) (.loc 85 0), none), (45, bxS (nwS p), none), (85, bxS (nwS g), none)]) (FSpec.at (f27_h1 st p g (nwS p) (nwS g)) [0, 45, 85] (by decide) rfl rfl rfl rfl)), (by rfl), ?_⟩)
  refine ⟨(by first | ((try simp only [decide_eq_true_eq, decide_eq_false_iff_not, toNat_cast] at *); omega) | decide), ?_⟩
  refine .inl ⟨_, fun _ => rfl, f29_spec a b q k f w u o x true (nextS (nwS p)) g.high p.win (p.stamped && g.stamped) (if (p.stamped && g.stamped) = true then p.stamp else 0) _ _ _ _ _ _ _ _ _ p.stamps _ _ ho, ?_⟩
  refine ⟨by kernel_rfl, ?_⟩
  refine Tri.join (True) (⟨88, 1, 160, [(0, .loc 0 0), (3, .loc 1 0), (8, .int .i64 (esR p g q k f o x))], [(0, .box (cnC st p g (.loc 45 0) (.loc 85 0))), (1, .box (tcC a b q k f w u o x)), (45, .box (bxS (nwS p))), (85, .box (bxS (nwS g)))], G⟩) ?_ fun hp2 => ?_
  · refine Tri.seq (Tri.drw hT hm 14 (by kernel_rfl) ?_)
    refine ⟨_, [], trivial, rfl, rfl, fun h => ⟨rfl, rfl, rfl⟩, ?_⟩
    refine ⟨_, [], trivial, rfl, rfl, fun h => ⟨h, rfl, rfl, rfl⟩, ?_⟩
    refine ⟨_, [], trivial, rfl, rfl, fun h => ⟨rfl, rfl, rfl⟩, ?_⟩
    refine ⟨_, [], trivial, rfl, rfl, fun h => ⟨h, rfl, rfl, rfl⟩, ?_⟩
    refine ⟨_, [], trivial, rfl, rfl, fun h => ⟨h, rfl, rfl, rfl⟩, ?_⟩
    refine ⟨_, [], trivial, rfl, rfl, fun h => ⟨h, (by first | ((try simp only [decide_eq_true_eq, decide_eq_false_iff_not, toNat_cast] at *); omega) | decide), rfl, rfl, rfl⟩, ?_⟩
    refine ⟨_, [], trivial, rfl, rfl, fun h => ⟨h, rfl, rfl, rfl⟩, ?_⟩
    refine ⟨_, [], trivial, rfl, rfl, fun h => ⟨h, rfl, rfl, rfl⟩, ?_⟩
    refine ⟨_, [], trivial, rfl, rfl, fun h => ⟨h, rfl, rfl, rfl⟩, ?_⟩
    refine ⟨_, [], trivial, rfl, rfl, fun h => ⟨h, h, rfl, rfl, rfl⟩, ?_⟩
    refine ⟨⟨fun hc => hc, fun _ => trivial⟩, ?_⟩
    refine ⟨by kernel_rfl, ?_⟩
    refine (Tri.cond ⟨fun h1 => ?_, fun h1 => ?_⟩)
    · refine (Tri.reg hT ?_)
      exact ⟨trivial, Le.weak rfl rfl rfl rfl ⟨(by first | rfl | exact iv1 (by (try simp only [decide_eq_true_eq, decide_eq_false_iff_not, toNat_cast] at *); omega)), (by first | rfl | exact iv1 (by (try simp only [decide_eq_true_eq, decide_eq_false_iff_not, toNat_cast] at *); omega)), congrArg (AV.int .i64) (esR_t h1), trivial⟩ ⟨rfl, rfl, rfl, rfl, trivial⟩⟩
    · refine (Tri.skip ?_)
      exact ⟨trivial, Le.weak rfl rfl rfl rfl ⟨(by first | rfl | exact iv1 (by (try simp only [decide_eq_true_eq, decide_eq_false_iff_not, toNat_cast] at *); omega)), (by first | rfl | exact iv1 (by (try simp only [decide_eq_true_eq, decide_eq_false_iff_not, toNat_cast] at *); omega)), congrArg (AV.int .i64) (esR_f h1), trivial⟩ ⟨rfl, rfl, rfl, rfl, trivial⟩⟩
  · refine Tri.seq ?_
    refine Tri.seq (Tri.reg hT ?_)
    refine (Tri.cond ⟨fun h2 => ?_, fun h2 => ?_⟩)
    · exact absurd hr (of_decide_eq_true h2)
    · refine (Tri.skip ?_)
      refine Tri.seq (Tri.reg hT ?_)
      have it0 := nwS_inv p; have it1 := nwS_inv g
      refine Tri.seq (Tri.drw hT hm 6 (by kernel_rfl) ?_)
      refine .inr (.inl ⟨_, _, (by exact ⟨rfl, rfl, rfl, trivial⟩), (CSpec.ofH (u := [(0, cnC 3 p g (.loc 45 0) (.loc 85 0), none), (45, bxS (nwS p), none), (85, bxS (nwS g), none)]) (FSpec.at (f28_h1 3 p g (nwS p) (nwS g) 1 0) [0, 45, 85] (by decide) rfl rfl rfl rfl)), (by rfl), ?_⟩)
      refine .inr (.inl ⟨_, _, (by exact ⟨rfl, rfl, rfl, trivial⟩), (CSpec.ofH (u := [(0, cnC 3 p g (.loc 45 0) (.loc 85 0), some (cnC (stM (tkS (nwS p) q f x) (tkT (nwS g) k)) (tkH p (nwS p) q f o x) g (.loc 45 0) (.loc 85 0))), (45, bxS (nwS p), some (bxS (tkS (nwS p) q f x))), (85, bxS (nwS g), some (bxS (tkT (nwS g) k)))]) (FSpec.at (f30_h1 3 p g (nwS p) (nwS g) 0 it0 it1 (by decide) a b q k f w u o x ho hx) [0, 45, 85] (by decide) rfl rfl rfl rfl)), (by rfl), ?_⟩)
      refine ⟨by kernel_rfl, ?_⟩
      refine ⟨(by show 1 ≤ 1 ∧ (1 + (tkE 1 2 (nwS p) (nwS g) q k f x).length) * 48 ≤ 140737488355328 ∧ 1 + (tkE 1 2 (nwS p) (nwS g) q k f x).length ≤ 140737488355328; have := tkE_len 1 2 (nwS p) (nwS g) q k f x; refine ⟨Nat.le_refl _, ?_, ?_⟩ <;> omega), ?_⟩
      refine Tri.le ⟨88, 1, 200, [(4, .list evT ((1, 1, 0, 0, [], ()) :: tkE 1 2 (nwS p) (nwS g) q k f x))], esZ 45 85 st p g q k f o x, G⟩ (Le.trans (Le.freeze 4 168 _ rfl rfl (by first | exact Nat.le_refl _ | (rw [List.length_append]; exact Nat.le_of_eq (Nat.add_comm _ _)) | (simp; omega))) (Le.weak rfl rfl rfl rfl ⟨congrArg (AV.list evT) (by show List.take (1 + (tkE 1 2 (nwS p) (nwS g) q k f x).length) (((1 : Int), (1 : Int), (0 : Int), (0 : Int), ([] : List UInt8), ()) :: tkE 1 2 (nwS p) (nwS g) q k f x) = _; rw [Nat.add_comm, List.take_succ_cons, List.take_length]), trivial⟩ ⟨rfl, rfl, rfl, trivial⟩)) ?_
      refine Tri.ret ?_
      exact ⟨rfl, rfl, rfl, rfl, trivial⟩
set_option maxRecDepth 16000 in
theorem f24_r (st : Int) (p g : Hf) (a b q k f w u : Int) (o : List optT.D) (x : List UInt8) (ho : o.length < 9223372036854775807) (hx : x.length ≤ 1000000) (hr : esR p g q k f o x ≠ 0) :
    HSpec P G 24 [.loc 0 0, tcpV a b q k f w u o x] (cnN st p g) (.list evT [(7, 1, 0, esR p g q k f o x, [], ())]) (cnN st p g) := by
  refine fspec_intro hT (cnN st p g) (cnN st p g) 1 1 Tryd.func24 (by decide) rfl rfl (by kernel_rfl) rfl rfl ?_
  refine Tri.seq (Tri.reg hT ?_)
  refine Tri.seq ?_
  refine Tri.seq (Tri.reg hT ?_)
  refine (Tri.block ?_)
  refine (Tri.loopN 3 ?_)
  refine TriL.go (Tri.le (S := ⟨88, 1, 20, [(0, .loc 0 0), (3, .loc 1 0), (4, .nils), (9, .own 3 2), (10, .int .i64 2), (11, .int .i64 0)], [(0, .box (cnC st p g .nilp .nilp)), (1, .box (tcC a b q k f w u o x)), (3, .arr (.int .i64) [1, 2])], G⟩) (Le.weak rfl rfl rfl rfl ⟨(by first | rfl | exact iv1 (by (try simp only [decide_eq_true_eq, decide_eq_false_iff_not, toNat_cast] at *); omega)), (by first | rfl | exact iv1 (by (try simp only [decide_eq_true_eq, decide_eq_false_iff_not, toNat_cast] at *); omega)), (by first | rfl | exact iv1 (by (try simp only [decide_eq_true_eq, decide_eq_false_iff_not, toNat_cast] at *); omega)), (by first | rfl | exact iv1 (by (try simp only [decide_eq_true_eq, decide_eq_false_iff_not, toNat_cast] at *); omega)), (by first | rfl | exact iv1 (by (try simp only [decide_eq_true_eq, decide_eq_false_iff_not, toNat_cast] at *); omega)), (by first | rfl | exact iv1 (by (try simp only [decide_eq_true_eq, decide_eq_false_iff_not, toNat_cast] at *); omega)), trivial⟩ ⟨rfl, rfl, rfl, trivial⟩) ?_)
  refine Tri.seq (Tri.reg hT ?_)
  refine Tri.seq (Tri.cond ⟨fun hq => ?_, fun hq => absurd hq (by decide)⟩)
  refine (Tri.skip ?_)
  refine Tri.seq (Tri.block ?_)
  refine Tri.seq (Tri.reg hT ?_)
  refine ⟨(by first | ((try simp only [decide_eq_true_eq, decide_eq_false_iff_not, toNat_cast] at *); omega) | decide), ?_⟩
  refine ⟨(by decide), ?_⟩
  refine Tri.seq (Tri.reg hT ?_)
  refine ⟨(by first | ((try simp only [decide_eq_true_eq, decide_eq_false_iff_not, toNat_cast] at *); omega) | decide), ?_⟩
  refine (Tri.drw hT hm 19 (by kernel_rfl) ?_)
  refine .inr (.inr ⟨_, (by exact fun _ => rfl), (f32_half _), ?_⟩)
  refine ⟨by kernel_rfl, ?_⟩
  refine (Tri.reg hT ?_)
  refine TriL.go (Tri.le (S := ⟨88, 1, 60, [(0, .loc 0 0), (3, .loc 1 0), (4, .nils), (9, .own 3 2), (10, .int .i64 2), (11, .int .i64 1)], [(0, .box (cnC st p g (.loc 45 0) .nilp)), (1, .box (tcC a b q k f w u o x)), (3, .arr (.int .i64) [1, 2]), (45, .box (bxS (nwS p)))], G⟩) (Le.weak rfl rfl rfl rfl ⟨(by first | rfl | exact iv1 (by (try simp only [decide_eq_true_eq, decide_eq_false_iff_not, toNat_cast] at *); omega)), (by first | rfl | exact iv1 (by (try simp only [decide_eq_true_eq, decide_eq_false_iff_not, toNat_cast] at *); omega)), (by first | rfl | exact iv1 (by (try simp only [decide_eq_true_eq, decide_eq_false_iff_not, toNat_cast] at *); omega)), (by first | rfl | exact iv1 (by (try simp only [decide_eq_true_eq, decide_eq_false_iff_not, toNat_cast] at *); omega)), (by first | rfl | exact iv1 (by (try simp only [decide_eq_true_eq, decide_eq_false_iff_not, toNat_cast] at *); omega)), (by first | rfl | exact iv1 (by (try simp only [decide_eq_true_eq, decide_eq_false_iff_not, toNat_cast] at *); omega)), trivial⟩ ⟨rfl, rfl, rfl, rfl, trivial⟩) ?_)
  refine Tri.seq (Tri.reg hT ?_)
  refine Tri.seq (Tri.cond ⟨fun hq => ?_, fun hq => absurd hq (by decide)⟩)
  refine (Tri.skip ?_)
  refine Tri.seq (Tri.block ?_)
  refine Tri.seq (Tri.reg hT ?_)
  refine ⟨(by first | ((try simp only [decide_eq_true_eq, decide_eq_false_iff_not, toNat_cast] at *); omega) | decide), ?_⟩
  refine ⟨(by decide), ?_⟩
  refine Tri.seq (Tri.reg hT ?_)
  refine ⟨(by first | ((try simp only [decide_eq_true_eq, decide_eq_false_iff_not, toNat_cast] at *); omega) | decide), ?_⟩
  refine (Tri.drw hT hm 19 (by kernel_rfl) ?_)
  refine .inr (.inr ⟨_, (by exact fun _ => rfl), (f32_half _), ?_⟩)
  refine ⟨by kernel_rfl, ?_⟩
  refine (Tri.reg hT ?_)
  refine TriL.go (Tri.le (S := ⟨88, 1, 100, [(0, .loc 0 0), (3, .loc 1 0), (4, .nils), (10, .int .i64 2), (11, .int .i64 2)], [(0, .box (cnC st p g (.loc 45 0) (.loc 85 0))), (1, .box (tcC a b q k f w u o x)), (45, .box (bxS (nwS p))), (85, .box (bxS (nwS g)))], G⟩) (Le.weak rfl rfl rfl rfl ⟨(by first | rfl | exact iv1 (by (try simp only [decide_eq_true_eq, decide_eq_false_iff_not, toNat_cast] at *); omega)), (by first | rfl | exact iv1 (by (try simp only [decide_eq_true_eq, decide_eq_false_iff_not, toNat_cast] at *); omega)), (by first | rfl | exact iv1 (by (try simp only [decide_eq_true_eq, decide_eq_false_iff_not, toNat_cast] at *); omega)), (by first | rfl | exact iv1 (by (try simp only [decide_eq_true_eq, decide_eq_false_iff_not, toNat_cast] at *); omega)), (by first | rfl | exact iv1 (by (try simp only [decide_eq_true_eq, decide_eq_false_iff_not, toNat_cast] at *); omega)), trivial⟩ ⟨rfl, rfl, rfl, rfl, trivial⟩) ?_)
  refine Tri.seq (Tri.reg hT ?_)
  refine Tri.seq (Tri.cond ⟨fun hq => absurd hq (by decide), fun hq => ?_⟩)
  refine Tri.exit ?_
  refine Tri.seq (Tri.drw hT hm 10 (by kernel_rfl) ?_)
  refine .inr (.inl ⟨_, _, (by exact ⟨rfl, rfl, rfl, trivial⟩), (CSpec.ofH (u := [(0, cnC st p g (.loc 45 0) (.loc 85 0), none), (45, bxS (nwS p), none), (85, bxS (nwS g), none)]) (FSpec.at (f27_h1 st p g (nwS p) (nwS g)) [0, 45, 85] (by decide) rfl rfl rfl rfl)), (by rfl), ?_⟩)
  refine ⟨(by first | ((try simp only [decide_eq_true_eq, decide_eq_false_iff_not, toNat_cast] at *); omega) | decide), ?_⟩
  refine .inl ⟨_, fun _ => rfl, f29_spec a b q k f w u o x true (nextS (nwS p)) g.high p.win (p.stamped && g.stamped) (if (p.stamped && g.stamped) = true then p.stamp else 0) _ _ _ _ _ _ _ _ _ p.stamps _ _ ho, ?_⟩
  refine ⟨by kernel_rfl, ?_⟩
  refine Tri.join (True) (⟨88, 1, 160, [(0, .loc 0 0), (3, .loc 1 0), (8, .int .i64 (esR p g q k f o x))], [(0, .box (cnC st p g (.loc 45 0) (.loc 85 0))), (1, .box (tcC a b q k f w u o x)), (45, .box (bxS (nwS p))), (85, .box (bxS (nwS g)))], G⟩) ?_ fun hp2 => ?_
  · refine Tri.seq (Tri.drw hT hm 14 (by kernel_rfl) ?_)
    refine ⟨_, [], trivial, rfl, rfl, fun h => ⟨rfl, rfl, rfl⟩, ?_⟩
    refine ⟨_, [], trivial, rfl, rfl, fun h => ⟨h, rfl, rfl, rfl⟩, ?_⟩
    refine ⟨_, [], trivial, rfl, rfl, fun h => ⟨rfl, rfl, rfl⟩, ?_⟩
    refine ⟨_, [], trivial, rfl, rfl, fun h => ⟨h, rfl, rfl, rfl⟩, ?_⟩
    refine ⟨_, [], trivial, rfl, rfl, fun h => ⟨h, rfl, rfl, rfl⟩, ?_⟩
    refine ⟨_, [], trivial, rfl, rfl, fun h => ⟨h, (by first | ((try simp only [decide_eq_true_eq, decide_eq_false_iff_not, toNat_cast] at *); omega) | decide), rfl, rfl, rfl⟩, ?_⟩
    refine ⟨_, [], trivial, rfl, rfl, fun h => ⟨h, rfl, rfl, rfl⟩, ?_⟩
    refine ⟨_, [], trivial, rfl, rfl, fun h => ⟨h, rfl, rfl, rfl⟩, ?_⟩
    refine ⟨_, [], trivial, rfl, rfl, fun h => ⟨h, rfl, rfl, rfl⟩, ?_⟩
    refine ⟨_, [], trivial, rfl, rfl, fun h => ⟨h, h, rfl, rfl, rfl⟩, ?_⟩
    refine ⟨⟨fun hc => hc, fun _ => trivial⟩, ?_⟩
    refine ⟨by kernel_rfl, ?_⟩
    refine (Tri.cond ⟨fun h1 => ?_, fun h1 => ?_⟩)
    · refine (Tri.reg hT ?_)
      exact ⟨trivial, Le.weak rfl rfl rfl rfl ⟨(by first | rfl | exact iv1 (by (try simp only [decide_eq_true_eq, decide_eq_false_iff_not, toNat_cast] at *); omega)), (by first | rfl | exact iv1 (by (try simp only [decide_eq_true_eq, decide_eq_false_iff_not, toNat_cast] at *); omega)), congrArg (AV.int .i64) (esR_t h1), trivial⟩ ⟨rfl, rfl, rfl, rfl, trivial⟩⟩
    · refine (Tri.skip ?_)
      exact ⟨trivial, Le.weak rfl rfl rfl rfl ⟨(by first | rfl | exact iv1 (by (try simp only [decide_eq_true_eq, decide_eq_false_iff_not, toNat_cast] at *); omega)), (by first | rfl | exact iv1 (by (try simp only [decide_eq_true_eq, decide_eq_false_iff_not, toNat_cast] at *); omega)), congrArg (AV.int .i64) (esR_f h1), trivial⟩ ⟨rfl, rfl, rfl, rfl, trivial⟩⟩
  · refine Tri.seq ?_
    refine Tri.seq (Tri.reg hT ?_)
    refine (Tri.cond ⟨fun h2 => ?_, fun h2 => ?_⟩)
    · refine Tri.seq (Tri.drw hT hm 12 (by kernel_rfl) ?_)
      refine ⟨(by first | ((try simp only [decide_eq_true_eq, decide_eq_false_iff_not, toNat_cast] at *); omega) | decide), ?_⟩
      refine ⟨(by first | ((try simp only [decide_eq_true_eq, decide_eq_false_iff_not, toNat_cast] at *); omega) | decide), ?_⟩
      refine ⟨by kernel_rfl, ?_⟩
      refine Tri.seq (Tri.reg hT ?_)
      refine .inl (.inr (.inl ⟨_, _, (by exact ⟨rfl, trivial⟩), (CSpec.ofH (u := [(0, cnC st p g .nilp .nilp, none)]) (f20_n1 st p g (esR p g q k f o x))), (by rfl), ?_⟩))
      refine Tri.ret ?_
      exact ⟨rfl, rfl, trivial⟩
    · exact absurd (by simpa using h2) hr
end Go.Proofs.YtchiagnggnblaaaDoor.Ac
