import Derived.Test.YtchiagnggnblaaaDoorCnY
set_option linter.all false
/- Chapter 21: the data events are the text (printed by genZ.py). -/
namespace Go.Proofs.YtchiagnggnblaaaDoor.Ac
open Go Go.Fw Go.Ov Go.Proofs.YtchiagnggnblaaaDoor.Fx
abbrev ctT : Ty := .cons (.int .i64) (.cons (.int .i64) .nil)
theorem nodD : [22, 30, 31].Nodup := by decide
def bL (f0 f1 : Int) (T : List UInt8) (P : List Ct) (i : Nat) : List Sg := shkM f0 f1 ++ (P.take i).map (fun c => sgD f0 f1 T c.1 c.2.1)
theorem bL_len (f0 f1 : Int) (T : List UInt8) {P : List Ct} {i : Nat} (h : i ≤ P.length) : (bL f0 f1 T P i).length = 3 + i := by
  unfold bL
  rw [List.length_append, List.length_map, List.length_take]
  show 3 + _ = _
  omega
theorem bL_next (f0 f1 : Int) (T : List UInt8) {P : List Ct} {i : Nat} (h : i < P.length) : bL f0 f1 T P (i + 1) = bL f0 f1 T P i ++ [sgD f0 f1 T (P.getD i (0, 0, ())).1 (P.getD i (0, 0, ())).2.1] := by
  unfold bL
  rw [List.append_assoc]
  congr 1
  rw [List.take_succ_eq_append_getElem h, List.map_append, List.getD_eq_getElem?_getD, List.getElem?_eq_getElem h]
  rfl
theorem bL_all (f0 f1 : Int) (T : List UInt8) (P : List Ct) : bL f0 f1 T P P.length ++ [sgF f0 f1 T] = dL f0 f1 T P := by
  unfold bL dL
  rw [List.take_length]
theorem idx_ok {i n : Nat} (h : decide ((i : Int) < n) = true) : 0 ≤ (i : Int) ∧ (i : Int) < n := by
  have := of_decide_eq_true h
  omega
theorem chk5 {e : Evt} {x : Got} (h : e.2.1 = 1 ∧ e.2.2.1 = x.1.length ∧ x.2 = 0) : ¬ (if (if decide (e.2.1 ≠ 1) = true then true else decide (e.2.2.1 ≠ x.1.length)) = true then true else decide (x.2 > 0)) = true := by
  obtain ⟨h1, h2, h3⟩ := h
  rw [h1, h2, h3]
  simp
theorem P_lt {T : List UInt8} {cuts : List Ct} {i : Nat} (h : i < cuts.length) : (cuts ++ [(0, (T.length : Int), ())]).getD i (0, 0, ()) = cuts.getD i (0, 0, ()) := by
  rw [List.getD_eq_getElem?_getD, List.getElem?_append_left h, ← List.getD_eq_getElem?_getD]
theorem P_eq {T : List UInt8} {cuts : List Ct} {i : Nat} (h : i = cuts.length) : (cuts ++ [(0, (T.length : Int), ())]).getD i (0, 0, ()) = (0, (T.length : Int), ()) := by
  subst h
  rw [List.getD_eq_getElem?_getD, List.getElem?_append_right (Nat.le_refl _), Nat.sub_self]
  rfl
theorem cut_ok {a b n : Int} (h : (if (if decide (a < 0) = true then true else decide (b < a)) = true then true else decide (b > n)) = false) : 0 ≤ a ∧ a ≤ b ∧ b ≤ n := by
  rw [iteO, iteO] at h
  simp at h
  omega
theorem big_D (f0 f1 : Int) {T : List UInt8} (hT : T.length ≤ 100) {P : List Ct} (i : Nat) : (toO ((dL f0 f1 T P).getD i (Ty.dflt sgT))).length ≤ 10 ∧ (txX ((dL f0 f1 T P).getD i (Ty.dflt sgT))).length ≤ 200 := by
  by_cases hi : i < (dL f0 f1 T P).length
  · have hm : (dL f0 f1 T P).getD i (Ty.dflt sgT) ∈ dL f0 f1 T P := getD_mem hi
    generalize (dL f0 f1 T P).getD i (Ty.dflt sgT) = e at *
    unfold dL at hm
    simp only [List.mem_append, List.mem_map, List.mem_singleton] at hm
    rcases hm with (hm | ⟨c, _, rfl⟩) | rfl
    · unfold shkM at hm
      simp only [List.mem_cons, List.not_mem_nil, or_false] at hm
      rcases hm with rfl | rfl | rfl <;> exact ⟨by show ([] : List optT.D).length ≤ 10; decide, by show ([] : List UInt8).length ≤ 200; decide⟩
    · refine ⟨by show ([] : List optT.D).length ≤ 10; decide, ?_⟩
      show (pcT T c.1 c.2.1).length ≤ 200
      unfold pcT
      rw [List.length_drop, List.length_take]
      omega
    · exact ⟨by show ([] : List optT.D).length ≤ 10; decide, by show ([] : List UInt8).length ≤ 200; decide⟩
  · have : (dL f0 f1 T P).getD i (Ty.dflt sgT) = Ty.dflt sgT := by
      rw [List.getD_eq_getElem?_getD, List.getElem?_eq_none (by omega)]
      rfl
    rw [this]
    exact ⟨by decide, by decide⟩
theorem DAt.le {f0 f1 pol : Int} {T : List UInt8} {P : List Ct} {i : Nat} {c : Cnn} {x : Got} (h : DAt f0 f1 pol T P i c x) : i ≤ (dL f0 f1 T P).length := by
  rw [dL_len]
  cases h <;> omega
set_option maxRecDepth 16000 in
theorem f10_o (a b : Int) : HSpec P G 10 [.int .u32 a, .int .u32 b] [] (.own 15 3) [(15, .arr sgT (shkM a b))] := by
  refine fspec_intro hT [] [(15, .arr sgT (shkM a b))] 0 0 Tryd.func10 (by decide) rfl rfl (by kernel_rfl) rfl rfl ?_
  refine Tri.seq (Tri.reg hT ?_)
  refine Tri.seq (Tri.reg hT ?_)
  refine Tri.ret ?_
  exact ⟨rfl, rfl, trivial⟩
theorem ctD {c : Cnn} {T : List UInt8} (h : DEnd T c) : HSpec P G 12 [.loc 22 0] (cnU c 22 30 31) (.int .i64 4) (cnU c 22 30 31) := by
  have := at_U (f12_u c) 22 30 31 nodD rfl rfl
  rw [h.st] at this
  exact this
theorem o1D {c : Cnn} {T : List UInt8} (h : DEnd T c) : HSpec P G 13 [.loc 22 0, .int .i64 1] (cnU c 22 30 31) (.int .i64 T.length) (cnU c 22 30 31) := by
  have := at_U (f13_u1 c) 22 30 31 nodD rfl rfl
  rw [h.off1] at this
  exact this
theorem o2D {c : Cnn} {T : List UInt8} (h : DEnd T c) : HSpec P G 13 [.loc 22 0, .int .i64 2] (cnU c 22 30 31) (.int .i64 0) (cnU c 22 30 31) := by
  have := at_U (f13_u2 c) 22 30 31 nodD rfl rfl
  rw [h.off2] at this
  exact this
theorem szD {c : Cnn} {T : List UInt8} (h : DEnd T c) {B : Int} (hi : CInv c B) : HSpec P G 14 [.loc 22 0] (cnU c 22 30 31) (.int .i64 0) (cnU c 22 30 31) := by
  have := at_U (f14_u c B hi) 22 30 31 nodD rfl rfl
  rw [h.siz] at this
  exact this
set_option maxRecDepth 16000 in
theorem f3_spec (T : List UInt8) (cuts : List Ct) (f0 f1 pol : Int) (hcl : cuts.length ≤ 140737488351232) : PSpec P G 3 [.str T, .list ctT cuts, .agg [.int .u32 f0, .int .u32 f1, .int .i64 pol]] (.bool true) := by
  refine pspec_intro hT Tryd.func3 (by decide) rfl rfl (by kernel_rfl) rfl ?_
  refine Tri.seq (Tri.reg hT ?_)
  refine Tri.seq ?_
  refine Tri.seq (Tri.reg hT ?_)
  refine .inl (.inl ⟨_, fun _ => rfl, f7_spec, ?_⟩)
  refine (Tri.cond ⟨fun h1 => ?_, fun h1 => ?_⟩)
  · cases h1
  · refine (Tri.skip ?_)
    refine Tri.seq ?_
    refine Tri.seq (Tri.reg hT ?_)
    refine ⟨_, [], trivial, rfl, rfl, fun h => ⟨rfl, rfl, rfl⟩, ?_⟩
    refine ⟨_, [], trivial, rfl, rfl, fun h => ⟨h, rfl, rfl, rfl⟩, ?_⟩
    refine ⟨_, [], trivial, rfl, rfl, fun h => ⟨h, rfl, rfl, rfl⟩, ?_⟩
    refine ⟨⟨fun _ => trivial, fun hc => (gn hc)⟩, ?_⟩
    refine (Tri.cond ⟨fun h2 => ?_, fun h2 => ?_⟩)
    · refine Tri.seq (Tri.reg hT ?_)
      refine Tri.ret ?_
      exact ⟨rfl, trivial⟩
    · refine (Tri.skip ?_)
      refine Tri.seq (Tri.reg hT ?_)
      refine Tri.seq (Tri.drw hT hm 6 (by kernel_rfl) ?_)
      refine .inl ⟨_, fun _ => rfl, f9_spec 1000 pol, ?_⟩
      refine .inl ⟨_, fun _ => rfl, f9_spec 1000 pol, ?_⟩
      refine ⟨by kernel_rfl, ?_⟩
      refine .inl (.inr (.inr ⟨_, (by exact fun _ => rfl), (f8_spec (dH pol) (dH pol) ⟨rfl, rfl, rfl, rfl⟩ ⟨rfl, rfl, rfl, rfl⟩), ?_⟩))
      refine Tri.seq (Tri.regM hT [4] ?_)
      refine ⟨(by first | ((try simp only [decide_eq_true_eq, decide_eq_false_iff_not, toNat_cast] at *); omega) | decide), ?_⟩
      refine ⟨(by first | ((try simp only [decide_eq_true_eq, decide_eq_false_iff_not, toNat_cast] at *); omega) | decide), ?_⟩
      refine ⟨_, Le.refl _, .inl (.inr (OpTri.hcall 1 rfl rfl rfl (HSpec.at2 (f10_o f0 f1) 15 1000 28 1001 rfl rfl rfl rfl) trivial trivial rfl ?_))⟩
      refine Tri.seq ?_
      obtain ⟨hTl, h12⟩ : T.length ≤ 100 ∧ cuts.length ≤ 12 := (by rw [iteO] at h2; simp at h2; omega); refine Tri.le _ (Le.none (X := strX none) rfl rfl) ?_; refine Tri.le _ (Le.none (X := strX none) rfl rfl) ?_; refine Tri.le ⟨197, 0, 40, [(0, .str T), (1, .list ctT cuts), (7, .loc 14 0), (8, .loc 22 0), (9, .own 28 3)], [(14, .box [.int .u32 f0, .int .u32 f1]), (22, .ext (conX (dC0 pol) 30 31)), (30, .ext (strX (dC0 pol).s1)), (31, .ext (strX (dC0 pol).s2)), (28, .arr sgT (shkM f0 f1))], G⟩ (Le.weakX rfl rfl rfl rfl ⟨rfl, rfl, rfl, rfl, rfl, trivial⟩ ⟨⟨_, rfl, Conv.refl _⟩, ⟨_, rfl, Conv.conX (dC0 pol) 30 31⟩, ⟨_, rfl, Conv.refl _⟩, ⟨_, rfl, Conv.refl _⟩, ⟨_, rfl, Conv.refl _⟩, trivial⟩) ?_
      refine Tri.seq (Tri.reg hT ?_)
      refine (Tri.block ?_)
      refine (Tri.loop (ι := Nat) (fun i => ⟨197, 0, 50, [(0, .str T), (1, .list ctT cuts), (7, .loc 14 0), (8, .loc 22 0), (9, .own 28 (bL f0 f1 T (cuts ++ [(0, (T.length : Int), ())]) i).length), (10, .int .i64 ((i : Nat) : Int))], [(14, .box [.int .u32 f0, .int .u32 f1]), (22, .ext (conX (dC0 pol) 30 31)), (30, .ext (strX (dC0 pol).s1)), (31, .ext (strX (dC0 pol).s2)), (28, .arr sgT (bL f0 f1 T (cuts ++ [(0, (T.length : Int), ())]) i))], G⟩) (fun i => i ≤ cuts.length + 1 ∧ ∀ c ∈ cuts.take i, 0 ≤ c.1 ∧ c.1 ≤ c.2.1 ∧ c.2.1 ≤ T.length) (fun i => cuts.length + 1 - i) (0) ?_ ?_ ?_)
      · exact ⟨Nat.zero_le _, fun c hc => by simp at hc⟩
      · exact Le.weak rfl rfl rfl rfl ⟨(by first | rfl | exact iv1 (by (try simp only [decide_eq_true_eq, decide_eq_false_iff_not, toNat_cast] at *); omega)), (by first | rfl | exact iv1 (by (try simp only [decide_eq_true_eq, decide_eq_false_iff_not, toNat_cast] at *); omega)), (by first | rfl | exact iv1 (by (try simp only [decide_eq_true_eq, decide_eq_false_iff_not, toNat_cast] at *); omega)), (by first | rfl | exact iv1 (by (try simp only [decide_eq_true_eq, decide_eq_false_iff_not, toNat_cast] at *); omega)), (by first | rfl | exact iv1 (by (try simp only [decide_eq_true_eq, decide_eq_false_iff_not, toNat_cast] at *); omega)), (by first | rfl | exact iv1 (by (try simp only [decide_eq_true_eq, decide_eq_false_iff_not, toNat_cast] at *); omega)), trivial⟩ ⟨rfl, rfl, rfl, rfl, rfl, trivial⟩
      · intro i hi
        refine Tri.seq ?_
        refine Tri.seq (Tri.reg hT ?_)
        refine (Tri.cond ⟨fun h3 => ?_, fun h3 => ?_⟩)
        · refine (Tri.skip ?_)
          refine Tri.seq (Tri.block ?_)
          have h3' := of_decide_eq_true h3; have hi0 : i ≤ cuts.length := (by omega); have hv := hi.2; have hPl : (cuts ++ [(0, (T.length : Int), ())]).length = cuts.length + 1 := (by simp); have hbl := bL_len f0 f1 T (P := (cuts ++ [(0, (T.length : Int), ())])) (i := i) (by omega)
          refine Tri.seq (Tri.reg hT ?_)
          refine Tri.join (True) (⟨197, 0, 90, [(0, .str T), (1, .list ctT cuts), (7, .loc 14 0), (8, .loc 22 0), (9, .own 28 (bL f0 f1 T (cuts ++ [(0, (T.length : Int), ())]) i).length), (10, .int .i64 ((i : Nat) : Int)), (11, .int .i64 ((cuts ++ [(0, (T.length : Int), ())]).getD i (0, 0, ())).1), (12, .int .i64 ((cuts ++ [(0, (T.length : Int), ())]).getD i (0, 0, ())).2.1)], [(14, .box [.int .u32 f0, .int .u32 f1]), (22, .ext (conX (dC0 pol) 30 31)), (30, .ext (strX (dC0 pol).s1)), (31, .ext (strX (dC0 pol).s2)), (28, .arr sgT (bL f0 f1 T (cuts ++ [(0, (T.length : Int), ())]) i))], G⟩) ?_ fun hp5 => ?_
          · refine Tri.seq (Tri.reg hT ?_)
            refine (Tri.cond ⟨fun h4 => ?_, fun h4 => ?_⟩)
            · refine (Tri.drw hT hm 11 (by kernel_rfl) ?_)
              refine ⟨(idx_ok h4), ?_⟩
              refine ⟨(by first | ((try simp only [decide_eq_true_eq, decide_eq_false_iff_not, toNat_cast] at *); omega) | decide), ?_⟩
              refine ⟨(idx_ok h4), ?_⟩
              refine ⟨(by first | ((try simp only [decide_eq_true_eq, decide_eq_false_iff_not, toNat_cast] at *); omega) | decide), ?_⟩
              refine ⟨by kernel_rfl, ?_⟩
              have e4 := P_lt (T := T) (i := i) (cuts := cuts) (by have := of_decide_eq_true h4; omega)
              exact ⟨trivial, Le.weak rfl rfl rfl rfl ⟨(by first | rfl | exact iv1 (by (try simp only [decide_eq_true_eq, decide_eq_false_iff_not, toNat_cast] at *); omega)), (by first | rfl | exact iv1 (by (try simp only [decide_eq_true_eq, decide_eq_false_iff_not, toNat_cast] at *); omega)), (by first | rfl | exact iv1 (by (try simp only [decide_eq_true_eq, decide_eq_false_iff_not, toNat_cast] at *); omega)), (by first | rfl | exact iv1 (by (try simp only [decide_eq_true_eq, decide_eq_false_iff_not, toNat_cast] at *); omega)), (by first | rfl | exact iv1 (by (try simp only [decide_eq_true_eq, decide_eq_false_iff_not, toNat_cast] at *); omega)), (by first | rfl | exact iv1 (by (try simp only [decide_eq_true_eq, decide_eq_false_iff_not, toNat_cast] at *); omega)), (by rw [e4, toNat_cast]; rfl), (by rw [e4, toNat_cast]; rfl), trivial⟩ ⟨rfl, rfl, rfl, rfl, rfl, trivial⟩⟩
            · refine (Tri.skip ?_)
              have e4 := P_eq (T := T) (i := i) (cuts := cuts) (by have := of_decide_eq_false h4; omega)
              exact ⟨trivial, Le.weak rfl rfl rfl rfl ⟨(by first | rfl | exact iv1 (by (try simp only [decide_eq_true_eq, decide_eq_false_iff_not, toNat_cast] at *); omega)), (by first | rfl | exact iv1 (by (try simp only [decide_eq_true_eq, decide_eq_false_iff_not, toNat_cast] at *); omega)), (by first | rfl | exact iv1 (by (try simp only [decide_eq_true_eq, decide_eq_false_iff_not, toNat_cast] at *); omega)), (by first | rfl | exact iv1 (by (try simp only [decide_eq_true_eq, decide_eq_false_iff_not, toNat_cast] at *); omega)), (by first | rfl | exact iv1 (by (try simp only [decide_eq_true_eq, decide_eq_false_iff_not, toNat_cast] at *); omega)), (by first | rfl | exact iv1 (by (try simp only [decide_eq_true_eq, decide_eq_false_iff_not, toNat_cast] at *); omega)), (by rw [e4]; rfl), (by rw [e4]; rfl), trivial⟩ ⟨rfl, rfl, rfl, rfl, rfl, trivial⟩⟩
          · refine Tri.seq ?_
            refine Tri.seq (Tri.reg hT ?_)
            refine ⟨_, [], trivial, rfl, rfl, fun h => ⟨rfl, rfl, rfl⟩, ?_⟩
            refine ⟨_, [], trivial, rfl, rfl, fun h => ⟨rfl, rfl, rfl⟩, ?_⟩
            refine ⟨_, [], trivial, rfl, rfl, fun h => ⟨h, h, rfl, rfl, rfl⟩, ?_⟩
            refine ⟨⟨fun _ => trivial, fun hc => (gn hc)⟩, ?_⟩
            refine ⟨_, [], trivial, rfl, rfl, fun h => ⟨rfl, rfl, rfl⟩, ?_⟩
            refine ⟨_, [], trivial, rfl, rfl, fun h => ⟨rfl, rfl, rfl⟩, ?_⟩
            refine ⟨_, [], trivial, rfl, rfl, fun h => ⟨h, rfl, rfl, rfl⟩, ?_⟩
            refine ⟨_, [], trivial, rfl, rfl, fun h => ⟨h, h, rfl, rfl, rfl⟩, ?_⟩
            refine ⟨⟨fun _ => trivial, fun hc => (gn hc)⟩, ?_⟩
            refine (Tri.cond ⟨fun h5 => ?_, fun h5 => ?_⟩)
            · refine Tri.seq (Tri.reg hT ?_)
              refine Tri.ret ?_
              exact ⟨rfl, trivial⟩
            · refine (Tri.skip ?_)
              have hcut := cut_ok h5; have hT9 : (T.length : Int) ≤ 100 := (by omega)
              refine (Tri.drw hT hm 17 (by kernel_rfl) ?_)
              refine ⟨(by first | ((try simp only [decide_eq_true_eq, decide_eq_false_iff_not, toNat_cast] at *); omega) | decide), ?_⟩
              refine ⟨(by first | ((try simp only [decide_eq_true_eq, decide_eq_false_iff_not, toNat_cast] at *); omega) | decide), ?_⟩
              refine ⟨hcut, ?_⟩
              refine ⟨by kernel_rfl, ?_⟩
              refine ⟨(Nat.le_refl _), (by show _ ≤ _ ∧ (_ + 1) * _ ≤ _ ∧ _ + 1 ≤ _; dsimp only; (try simp only [decide_eq_true_eq, decide_eq_false_iff_not, toNat_cast] at *); omega), ?_⟩
              refine (Tri.reg hT ?_)
              have hnew := bL_next f0 f1 T (P := (cuts ++ [(0, (T.length : Int), ())])) (i := i) (by omega)
              exact ⟨i + 1, ⟨by omega, fun c hc => by rcases Nat.lt_or_ge i cuts.length with h9 | h9; (rw [List.take_succ_eq_append_getElem h9] at hc; rcases List.mem_append.1 hc with h8 | h8; exact hv c h8; (rw [P_lt h9, List.getD_eq_getElem?_getD, List.getElem?_eq_getElem h9] at hcut; simp only [List.mem_singleton] at h8; rw [h8]; exact hcut)); exact hv c (by rw [List.take_of_length_le (by omega)] at hc; rw [List.take_of_length_le h9]; exact hc)⟩, by (try simp only [decide_eq_true_eq, decide_eq_false_iff_not, toNat_cast] at *); omega, Le.weak rfl rfl rfl rfl ⟨(by first | rfl | exact iv1 (by (try simp only [decide_eq_true_eq, decide_eq_false_iff_not, toNat_cast] at *); omega)), (by first | rfl | exact iv1 (by (try simp only [decide_eq_true_eq, decide_eq_false_iff_not, toNat_cast] at *); omega)), (by first | rfl | exact iv1 (by (try simp only [decide_eq_true_eq, decide_eq_false_iff_not, toNat_cast] at *); omega)), (by first | rfl | exact iv1 (by (try simp only [decide_eq_true_eq, decide_eq_false_iff_not, toNat_cast] at *); omega)), congrArg (AV.own 28) (by rw [hnew]; exact List.length_append.symm), (by first | rfl | exact iv1 (by (try simp only [decide_eq_true_eq, decide_eq_false_iff_not, toNat_cast] at *); omega)), trivial⟩ ⟨rfl, rfl, rfl, rfl, congrArg (fun l => some (Chunk.arr _ l)) (by rw [hnew]; first | rfl | (rw [List.take_length]; rfl)), trivial⟩⟩
        · refine Tri.exit ?_
          have h3' := of_decide_eq_false h3; have hie : i = cuts.length + 1 := (by omega); have hvall : ∀ c ∈ cuts, 0 ≤ c.1 ∧ c.1 ≤ c.2.1 ∧ c.2.1 ≤ T.length := (fun c hc => hi.2 c (by rw [List.take_of_length_le (by omega)]; exact hc)); have hPl : (cuts ++ [(0, (T.length : Int), ())]).length = cuts.length + 1 := (by simp); have hbl := bL_len f0 f1 T (P := (cuts ++ [(0, (T.length : Int), ())])) (i := i) (by omega); have hLe : (dL f0 f1 T (cuts ++ [(0, (T.length : Int), ())])) = bL f0 f1 T (cuts ++ [(0, (T.length : Int), ())]) i ++ [sgF f0 f1 T] := (by rw [show i = (cuts ++ [(0, (T.length : Int), ())]).length by omega]; exact (bL_all f0 f1 T _).symm); have hLl := dL_len f0 f1 T (cuts ++ [(0, (T.length : Int), ())])
          refine Tri.seq (Tri.reg hT ?_)
          refine ⟨(by first | ((try simp only [decide_eq_true_eq, decide_eq_false_iff_not, toNat_cast] at *); omega) | decide), ?_⟩
          refine ⟨(by first | ((try simp only [decide_eq_true_eq, decide_eq_false_iff_not, toNat_cast] at *); omega) | decide), ?_⟩
          refine ⟨(Nat.le_refl _), (by show _ ≤ _ ∧ (_ + 1) * _ ≤ _ ∧ _ + 1 ≤ _; dsimp only; (try simp only [decide_eq_true_eq, decide_eq_false_iff_not, toNat_cast] at *); omega), ?_⟩
          refine Tri.le (⟨197, 0, 150, [(0, .str T), (8, .loc 22 0), (9, .own 28 (dL f0 f1 T (cuts ++ [(0, (T.length : Int), ())])).length)], [(22, .ext (conX (dC0 pol) 30 31)), (30, .ext (strX (dC0 pol).s1)), (31, .ext (strX (dC0 pol).s2)), (28, .arr sgT (dL f0 f1 T (cuts ++ [(0, (T.length : Int), ())])))], G⟩) (Le.weak rfl rfl rfl rfl ⟨(by first | rfl | exact iv1 (by (try simp only [decide_eq_true_eq, decide_eq_false_iff_not, toNat_cast] at *); omega)), (by first | rfl | exact iv1 (by (try simp only [decide_eq_true_eq, decide_eq_false_iff_not, toNat_cast] at *); omega)), congrArg (AV.own 28) (by rw [hLe]; exact List.length_append.symm), trivial⟩ ⟨rfl, rfl, rfl, congrArg (fun l => some (Chunk.arr _ l)) (by rw [hLe]; first | rfl | (rw [List.take_length]; rfl)), trivial⟩) ?_
          refine Tri.le ⟨197, 0, 160, [(0, .str T), (8, .loc 22 0), (9, .list sgT (dL f0 f1 T (cuts ++ [(0, (T.length : Int), ())])))], [(22, .ext (conX (dC0 pol) 30 31)), (30, .ext (strX (dC0 pol).s1)), (31, .ext (strX (dC0 pol).s2))], G⟩ (Le.trans (Le.freeze 9 28 _ rfl rfl (Nat.le_refl _)) (Le.weak rfl rfl rfl rfl ⟨rfl, rfl, congrArg (AV.list sgT) (List.take_length ..), trivial⟩ ⟨rfl, rfl, rfl, trivial⟩)) ?_
          refine Tri.seq (Tri.reg hT ?_)
          refine Tri.seq (Tri.reg hT ?_)
          refine Tri.seq ?_
          refine Tri.seq (Tri.reg hT ?_)
          refine (Tri.block ?_)
          refine (Tri.loop (ι := Nat × Cnn × Got) (fun i => ⟨197, 0, 200, [(0, .str T), (8, .loc 22 0), (9, .list sgT (dL f0 f1 T (cuts ++ [(0, (T.length : Int), ())]))), (13, .str i.2.2.1), (14, .int .i64 i.2.2.2), (15, .int .i64 ((i.1 : Nat) : Int))], [(22, .ext (conX i.2.1 30 31)), (30, .ext (strX i.2.1.s1)), (31, .ext (strX i.2.1.s2))], G⟩) (fun i => DAt f0 f1 pol T (cuts ++ [(0, (T.length : Int), ())]) i.1 i.2.1 i.2.2 ∧ CInv i.2.1 (8192 * (i.1 : Int))) (fun i => (dL f0 f1 T (cuts ++ [(0, (T.length : Int), ())])).length - i.1) ((0, dC0 pol, ([], 0))) ?_ ?_ ?_)
          · exact ⟨.s0, new0_inv _ _⟩
          · exact Le.weak rfl rfl rfl rfl ⟨(by first | rfl | exact iv1 (by (try simp only [decide_eq_true_eq, decide_eq_false_iff_not, toNat_cast] at *); omega)), (by first | rfl | exact iv1 (by (try simp only [decide_eq_true_eq, decide_eq_false_iff_not, toNat_cast] at *); omega)), (by first | rfl | exact iv1 (by (try simp only [decide_eq_true_eq, decide_eq_false_iff_not, toNat_cast] at *); omega)), (by first | rfl | exact iv1 (by (try simp only [decide_eq_true_eq, decide_eq_false_iff_not, toNat_cast] at *); omega)), (by first | rfl | exact iv1 (by (try simp only [decide_eq_true_eq, decide_eq_false_iff_not, toNat_cast] at *); omega)), (by first | rfl | exact iv1 (by (try simp only [decide_eq_true_eq, decide_eq_false_iff_not, toNat_cast] at *); omega)), trivial⟩ ⟨rfl, rfl, rfl, trivial⟩
          · intro i hi
            refine Tri.seq ?_
            refine Tri.seq (Tri.reg hT ?_)
            refine (Tri.cond ⟨fun h6 => ?_, fun h6 => ?_⟩)
            · refine (Tri.skip ?_)
              refine Tri.seq (Tri.block ?_)
              have h6' := of_decide_eq_true h6; have hi' : i.1 < (dL f0 f1 T (cuts ++ [(0, (T.length : Int), ())])).length := (by omega); obtain ⟨y, hgood, hd⟩ := DAt.step (by omega) h12 hvall hi.1 hi'; have hci0 := hi.2; have hci := segC_inv hci0 (by omega) ((dL f0 f1 T (cuts ++ [(0, (T.length : Int), ())])).getD i.1 (Ty.dflt sgT)).1 (tqS ((dL f0 f1 T (cuts ++ [(0, (T.length : Int), ())])).getD i.1 (Ty.dflt sgT))) (tkK ((dL f0 f1 T (cuts ++ [(0, (T.length : Int), ())])).getD i.1 (Ty.dflt sgT))) (tfF ((dL f0 f1 T (cuts ++ [(0, (T.length : Int), ())])).getD i.1 (Ty.dflt sgT))) (toO ((dL f0 f1 T (cuts ++ [(0, (T.length : Int), ())])).getD i.1 (Ty.dflt sgT))) (txX ((dL f0 f1 T (cuts ++ [(0, (T.length : Int), ())])).getD i.1 (Ty.dflt sgT)))
              refine Tri.seq (Tri.drwM hT hm 11 [11] (by kernel_rfl) ?_)
              refine ⟨(by first | ((try simp only [decide_eq_true_eq, decide_eq_false_iff_not, toNat_cast] at *); omega) | decide), ?_⟩
              refine ⟨(by first | ((try simp only [decide_eq_true_eq, decide_eq_false_iff_not, toNat_cast] at *); omega) | decide), ?_⟩
              refine ⟨by kernel_rfl, ?_⟩
              refine ⟨_, Le.refl _, .inl (.inr (OpTri.hcall 1 rfl rfl rfl (segU i.2.1 _ hci0 (by omega) (by omega) ((dL f0 f1 T (cuts ++ [(0, (T.length : Int), ())])).getD (Int.toNat ((i.1 : Nat) : Int)) (Ty.dflt sgT)) (by rw [toNat_cast]; exact (big_D f0 f1 hTl i.1).1) (by rw [toNat_cast]; exact (big_D f0 f1 hTl i.1).2) 22 30 31 nodD) trivial ⟨rfl, rfl, rfl, trivial⟩ rfl ?_))⟩
              have hci : CInv (segS i.2.1 ((dL f0 f1 T (cuts ++ [(0, (T.length : Int), ())])).getD (Int.toNat ((i.1 : Nat) : Int)) (Ty.dflt sgT))).2 (8192 * (i.1 : Int) + 8192) := (by rw [toNat_cast]; exact hci); have hgood : GoodD i.2.2 (segS i.2.1 ((dL f0 f1 T (cuts ++ [(0, (T.length : Int), ())])).getD (Int.toNat ((i.1 : Nat) : Int)) (Ty.dflt sgT))).1 y := (by rw [toNat_cast]; exact hgood); have hd : DAt f0 f1 pol T (cuts ++ [(0, (T.length : Int), ())]) (i.1 + 1) (segS i.2.1 ((dL f0 f1 T (cuts ++ [(0, (T.length : Int), ())])).getD (Int.toNat ((i.1 : Nat) : Int)) (Ty.dflt sgT))).2 y := (by rw [toNat_cast]; exact hd); generalize segS i.2.1 ((dL f0 f1 T (cuts ++ [(0, (T.length : Int), ())])).getD (Int.toNat ((i.1 : Nat) : Int)) (Ty.dflt sgT)) = r at *; have hfew := hgood.few
              refine Tri.seq (Tri.reg hT ?_)
              refine (Tri.block ?_)
              refine (Tri.loop (ι := Nat) (fun k => ⟨197, 0, 300, [(0, .str T), (8, .loc 22 0), (9, .list sgT (dL f0 f1 T (cuts ++ [(0, (T.length : Int), ())]))), (13, .str (foldD i.2.2 (r.1.take k)).1), (14, .int .i64 (foldD i.2.2 (r.1.take k)).2), (15, .int .i64 ((i.1 : Nat) : Int)), (16, .list evT r.1), (17, .int .i64 ((k : Nat) : Int))], [(22, .ext (conX r.2 30 31)), (30, .ext (strX r.2.s1)), (31, .ext (strX r.2.s2))], G⟩) (fun k => k ≤ r.1.length) (fun k => r.1.length - k) (0) ?_ ?_ ?_)
              · exact Nat.zero_le _
              · exact Le.weak rfl rfl rfl rfl ⟨(by first | rfl | exact iv1 (by (try simp only [decide_eq_true_eq, decide_eq_false_iff_not, toNat_cast] at *); omega)), (by first | rfl | exact iv1 (by (try simp only [decide_eq_true_eq, decide_eq_false_iff_not, toNat_cast] at *); omega)), (by first | rfl | exact iv1 (by (try simp only [decide_eq_true_eq, decide_eq_false_iff_not, toNat_cast] at *); omega)), (by first | rfl | exact iv1 (by (try simp only [decide_eq_true_eq, decide_eq_false_iff_not, toNat_cast] at *); omega)), (by first | rfl | exact iv1 (by (try simp only [decide_eq_true_eq, decide_eq_false_iff_not, toNat_cast] at *); omega)), (by first | rfl | exact iv1 (by (try simp only [decide_eq_true_eq, decide_eq_false_iff_not, toNat_cast] at *); omega)), (by first | rfl | exact iv1 (by (try simp only [decide_eq_true_eq, decide_eq_false_iff_not, toNat_cast] at *); omega)), (by first | rfl | exact iv1 (by (try simp only [decide_eq_true_eq, decide_eq_false_iff_not, toNat_cast] at *); omega)), trivial⟩ ⟨rfl, rfl, rfl, trivial⟩
              · intro k hk
                refine Tri.seq ?_
                refine Tri.seq (Tri.reg hT ?_)
                refine (Tri.cond ⟨fun h7 => ?_, fun h7 => ?_⟩)
                · refine (Tri.skip ?_)
                  refine Tri.seq (Tri.block ?_)
                  have h7' := of_decide_eq_true h7; have hk' : k < r.1.length := (by omega)
                  refine Tri.seq (Tri.reg hT ?_)
                  refine ⟨(by first | ((try simp only [decide_eq_true_eq, decide_eq_false_iff_not, toNat_cast] at *); omega) | decide), ?_⟩
                  have hok := hgood.ok k hk'; have hok : OkD (foldD i.2.2 (r.1.take k)) (r.1.getD (Int.toNat ((k : Nat) : Int)) (Ty.dflt evT)) := (by rw [toNat_cast]; exact hok); have hnk : foldD i.2.2 (r.1.take (k + 1)) = dlE (foldD i.2.2 (r.1.take k)) (r.1.getD (Int.toNat ((k : Nat) : Int)) (Ty.dflt evT)) := (by rw [toNat_cast]; exact foldl_next _ _ _ hk'); generalize (r.1.getD (Int.toNat ((k : Nat) : Int)) (Ty.dflt evT)) = e at *; generalize (foldD i.2.2 (r.1.take k)) = x at *; have hl1 := hok.len; have hl2 := hok.len2; have hn := hok.num; refine Tri.le ⟨197, 0, 320, [(0, .str T), (8, .loc 22 0), (9, .list sgT (dL f0 f1 T (cuts ++ [(0, (T.length : Int), ())]))), (13, .str x.1), (14, .int .i64 x.2), (15, .int .i64 ((i.1 : Nat) : Int)), (16, .list evT r.1), (17, .int .i64 ((k : Nat) : Int)), (18, .loc 308 0)], [(22, .ext (conX r.2 30 31)), (30, .ext (strX r.2.s1)), (31, .ext (strX r.2.s2)), (308, .box [.int .i64 e.1, .int .i64 e.2.1, .int .i64 e.2.2.1, .int .i64 e.2.2.2.1, .str e.2.2.2.2.1])], G⟩ (Le.weak rfl rfl rfl rfl ⟨rfl, rfl, rfl, rfl, rfl, rfl, rfl, rfl, rfl, trivial⟩ ⟨rfl, rfl, rfl, rfl, trivial⟩) ?_
                  refine Tri.seq (Tri.reg hT ?_)
                  refine (Tri.block ?_)
                  refine Tri.seq (Tri.reg hT ?_)
                  refine (Tri.cond ⟨fun h8 => ?_, fun h8 => ?_⟩)
                  · refine Tri.seq ?_
                    refine Tri.seq (Tri.reg hT ?_)
                    refine ⟨_, [], trivial, rfl, rfl, fun h => ⟨rfl, rfl, rfl⟩, ?_⟩
                    refine ⟨_, [], trivial, rfl, rfl, fun h => ⟨h, rfl, rfl, rfl⟩, ?_⟩
                    refine ⟨_, [], trivial, rfl, rfl, fun h => ⟨rfl, rfl, rfl⟩, ?_⟩
                    refine ⟨_, [], trivial, rfl, rfl, fun h => ⟨h, rfl, rfl, rfl⟩, ?_⟩
                    refine ⟨_, [], trivial, rfl, rfl, fun h => ⟨h, h, rfl, rfl, rfl⟩, ?_⟩
                    refine ⟨⟨fun _ => trivial, fun hc => (gn hc)⟩, ?_⟩
                    refine ⟨_, [], trivial, rfl, rfl, fun h => ⟨rfl, rfl, rfl⟩, ?_⟩
                    refine ⟨_, [], trivial, rfl, rfl, fun h => ⟨h, rfl, rfl, rfl⟩, ?_⟩
                    refine ⟨⟨fun _ => trivial, fun hc => (gn hc)⟩, ?_⟩
                    refine (Tri.cond ⟨fun h9 => ?_, fun h9 => ?_⟩)
                    · exact absurd h9 (chk5 (hok.dat (of_decide_eq_true h8)))
                    · refine (Tri.skip ?_)
                      refine (Tri.reg hT ?_)
                      refine ⟨(by first | (simp only [List.length_append, List.length_cons, List.length_nil]; omega) | omega), ?_⟩
                      refine (Tri.reg hT ?_)
                      have e9 : dlE x e = (x.1 ++ e.2.2.2.2.1, x.2) := if_pos (of_decide_eq_true h8)
                      exact ⟨k + 1, (show k + 1 ≤ r.1.length by omega), by (try simp only [decide_eq_true_eq, decide_eq_false_iff_not, toNat_cast] at *); omega, Le.weak rfl rfl rfl rfl ⟨(by first | rfl | exact iv1 (by (try simp only [decide_eq_true_eq, decide_eq_false_iff_not, toNat_cast] at *); omega)), (by first | rfl | exact iv1 (by (try simp only [decide_eq_true_eq, decide_eq_false_iff_not, toNat_cast] at *); omega)), (by first | rfl | exact iv1 (by (try simp only [decide_eq_true_eq, decide_eq_false_iff_not, toNat_cast] at *); omega)), (by rw [hnk, e9]; rfl), (by rw [hnk, e9]; rfl), (by first | rfl | exact iv1 (by (try simp only [decide_eq_true_eq, decide_eq_false_iff_not, toNat_cast] at *); omega)), (by first | rfl | exact iv1 (by (try simp only [decide_eq_true_eq, decide_eq_false_iff_not, toNat_cast] at *); omega)), (by first | rfl | exact iv1 (by (try simp only [decide_eq_true_eq, decide_eq_false_iff_not, toNat_cast] at *); omega)), trivial⟩ ⟨rfl, rfl, rfl, trivial⟩⟩
                  · refine Tri.seq (Tri.reg hT ?_)
                    refine (Tri.cond ⟨fun h10 => ?_, fun h10 => ?_⟩)
                    · refine (Tri.reg hT ?_)
                      refine (Tri.reg hT ?_)
                      have e9 : dlE x e = (x.1, x.2 + 1) := (if_neg (of_decide_eq_false h8)).trans (if_pos (of_decide_eq_true h10)); have w9 : IntKind.i64.wrap (x.2 + 1) = x.2 + 1 := wrapId (by omega)
                      exact ⟨k + 1, (show k + 1 ≤ r.1.length by omega), by (try simp only [decide_eq_true_eq, decide_eq_false_iff_not, toNat_cast] at *); omega, Le.weak rfl rfl rfl rfl ⟨(by first | rfl | exact iv1 (by (try simp only [decide_eq_true_eq, decide_eq_false_iff_not, toNat_cast] at *); omega)), (by first | rfl | exact iv1 (by (try simp only [decide_eq_true_eq, decide_eq_false_iff_not, toNat_cast] at *); omega)), (by first | rfl | exact iv1 (by (try simp only [decide_eq_true_eq, decide_eq_false_iff_not, toNat_cast] at *); omega)), (by rw [hnk, e9]; rfl), (by rw [hnk, e9]; exact congrArg (AV.int .i64) w9), (by first | rfl | exact iv1 (by (try simp only [decide_eq_true_eq, decide_eq_false_iff_not, toNat_cast] at *); omega)), (by first | rfl | exact iv1 (by (try simp only [decide_eq_true_eq, decide_eq_false_iff_not, toNat_cast] at *); omega)), (by first | rfl | exact iv1 (by (try simp only [decide_eq_true_eq, decide_eq_false_iff_not, toNat_cast] at *); omega)), trivial⟩ ⟨rfl, rfl, rfl, trivial⟩⟩
                    · refine Tri.seq ?_
                      refine Tri.seq (Tri.reg hT ?_)
                      refine (Tri.cond ⟨fun h11 => ?_, fun h11 => ?_⟩)
                      · refine (Tri.skip ?_)
                        refine (Tri.cond ⟨fun h12 => ?_, fun h12 => ?_⟩)
                        · refine (Tri.skip ?_)
                          refine (Tri.reg hT ?_)
                          have e9 : dlE x e = x := (if_neg (of_decide_eq_false h8)).trans (if_neg (of_decide_eq_false h10))
                          exact ⟨k + 1, (show k + 1 ≤ r.1.length by omega), by (try simp only [decide_eq_true_eq, decide_eq_false_iff_not, toNat_cast] at *); omega, Le.weak rfl rfl rfl rfl ⟨(by first | rfl | exact iv1 (by (try simp only [decide_eq_true_eq, decide_eq_false_iff_not, toNat_cast] at *); omega)), (by first | rfl | exact iv1 (by (try simp only [decide_eq_true_eq, decide_eq_false_iff_not, toNat_cast] at *); omega)), (by first | rfl | exact iv1 (by (try simp only [decide_eq_true_eq, decide_eq_false_iff_not, toNat_cast] at *); omega)), (by rw [hnk, e9]; rfl), (by rw [hnk, e9]; rfl), (by first | rfl | exact iv1 (by (try simp only [decide_eq_true_eq, decide_eq_false_iff_not, toNat_cast] at *); omega)), (by first | rfl | exact iv1 (by (try simp only [decide_eq_true_eq, decide_eq_false_iff_not, toNat_cast] at *); omega)), (by first | rfl | exact iv1 (by (try simp only [decide_eq_true_eq, decide_eq_false_iff_not, toNat_cast] at *); omega)), trivial⟩ ⟨rfl, rfl, rfl, trivial⟩⟩
                        · exact absurd h11 (by rw [h12]; decide)
                      · refine (Tri.reg hT ?_)
                        refine (Tri.cond ⟨fun h13 => ?_, fun h13 => ?_⟩)
                        · refine (Tri.skip ?_)
                          refine (Tri.reg hT ?_)
                          have e9 : dlE x e = x := (if_neg (of_decide_eq_false h8)).trans (if_neg (of_decide_eq_false h10))
                          exact ⟨k + 1, (show k + 1 ≤ r.1.length by omega), by (try simp only [decide_eq_true_eq, decide_eq_false_iff_not, toNat_cast] at *); omega, Le.weak rfl rfl rfl rfl ⟨(by first | rfl | exact iv1 (by (try simp only [decide_eq_true_eq, decide_eq_false_iff_not, toNat_cast] at *); omega)), (by first | rfl | exact iv1 (by (try simp only [decide_eq_true_eq, decide_eq_false_iff_not, toNat_cast] at *); omega)), (by first | rfl | exact iv1 (by (try simp only [decide_eq_true_eq, decide_eq_false_iff_not, toNat_cast] at *); omega)), (by rw [hnk, e9]; rfl), (by rw [hnk, e9]; rfl), (by first | rfl | exact iv1 (by (try simp only [decide_eq_true_eq, decide_eq_false_iff_not, toNat_cast] at *); omega)), (by first | rfl | exact iv1 (by (try simp only [decide_eq_true_eq, decide_eq_false_iff_not, toNat_cast] at *); omega)), (by first | rfl | exact iv1 (by (try simp only [decide_eq_true_eq, decide_eq_false_iff_not, toNat_cast] at *); omega)), trivial⟩ ⟨rfl, rfl, rfl, trivial⟩⟩
                        · exact absurd hok.kind (by have q1 := of_decide_eq_false h8; have q2 := of_decide_eq_false h10; have q3 := of_decide_eq_false h11; have q4 := of_decide_eq_false h13; omega)
                · refine Tri.exit ?_
                  refine (Tri.reg hT ?_)
                  have hk9 : k = r.1.length := (by have h7' := of_decide_eq_false h7; have hk : k ≤ r.1.length := hk; omega); have hfy : (foldD i.2.2 (r.1.take k)) = y := (by rw [hk9, List.take_length]; exact hgood.fold)
                  exact ⟨(i.1 + 1, r.2, y), ⟨hd, hci.mono (by show 8192 * (i.1 : Int) + 8192 ≤ 8192 * ((i.1 + 1 : Nat) : Int); omega)⟩, by (try simp only [decide_eq_true_eq, decide_eq_false_iff_not, toNat_cast] at *); omega, Le.weak rfl rfl rfl rfl ⟨(by first | rfl | exact iv1 (by (try simp only [decide_eq_true_eq, decide_eq_false_iff_not, toNat_cast] at *); omega)), (by first | rfl | exact iv1 (by (try simp only [decide_eq_true_eq, decide_eq_false_iff_not, toNat_cast] at *); omega)), (by first | rfl | exact iv1 (by (try simp only [decide_eq_true_eq, decide_eq_false_iff_not, toNat_cast] at *); omega)), (by rw [hfy]; rfl), (by rw [hfy]; rfl), (iv1 (by omega)), trivial⟩ ⟨rfl, rfl, rfl, trivial⟩⟩
            · refine Tri.exit ?_
              have h6' := of_decide_eq_false h6; have hle := hi.1.le; have hie2 : i.1 = 4 + (cuts ++ [(0, (T.length : Int), ())]).length := (by omega); have hi2 := hi.2; have hlast := hi.1; rw [hie2] at hlast; obtain ⟨hx, hend⟩ := hlast.last; refine Tri.le ⟨197, 0, 600, [(0, .str T), (8, .loc 22 0), (13, .str T), (14, .int .i64 1)], [(22, .ext (conX i.2.1 30 31)), (30, .ext (strX i.2.1.s1)), (31, .ext (strX i.2.1.s2))], G⟩ (Le.weak rfl rfl rfl rfl ⟨rfl, rfl, (by rw [hx]; rfl), (by rw [hx]; rfl), trivial⟩ ⟨rfl, rfl, rfl, trivial⟩) ?_
              refine Tri.seq (Tri.regM hT [4, 5, 8, 9, 10, 13, 14, 15, 16, 17, 20, 21, 22, 25, 26, 27] ?_)
              refine ⟨_, Le.refl _, .inr (.inl ⟨_, rfl, (by refine (congrArg some ?_ : some _ = some true); simp [gd]), .inl ?_⟩)⟩
              refine ⟨_, Le.refl _, .inr (.inl ⟨_, rfl, (by refine (congrArg some ?_ : some _ = some true); simp [gd]), .inl ?_⟩)⟩
              refine ⟨⟨fun _ => trivial, fun _ => trivial⟩, ?_⟩
              refine ⟨_, Le.refl _, .inr (.inl ⟨_, rfl, (by refine (congrArg some ?_ : some _ = some true); simp [gd]), .inl ?_⟩)⟩
              refine ⟨_, Le.refl _, .inr (.inl ⟨_, rfl, (by refine (congrArg some ?_ : some _ = some true); simp [gd]), .inr (OpTri.hcall 1 rfl rfl rfl (ctD hend) trivial ⟨rfl, rfl, rfl, trivial⟩ rfl ?_)⟩)⟩
              refine ⟨_, Le.refl _, .inr (.inl ⟨_, rfl, (by refine (congrArg some ?_ : some _ = some true); simp [gd]), .inl ?_⟩)⟩
              refine ⟨⟨fun _ => trivial, fun _ => trivial⟩, ?_⟩
              refine ⟨_, Le.refl _, .inr (.inl ⟨_, rfl, (by refine (congrArg some ?_ : some _ = some true); simp [gd]), .inl ?_⟩)⟩
              refine ⟨_, Le.refl _, .inr (.inl ⟨_, rfl, (by refine (congrArg some ?_ : some _ = some true); simp [gd]), .inr (OpTri.hcall 1 rfl rfl rfl (o1D hend) trivial ⟨rfl, rfl, rfl, trivial⟩ rfl ?_)⟩)⟩
              refine ⟨_, Le.refl _, .inr (.inl ⟨_, rfl, (by refine (congrArg some ?_ : some _ = some true); simp [gd]), .inl ?_⟩)⟩
              refine ⟨_, Le.refl _, .inr (.inl ⟨_, rfl, (by refine (congrArg some ?_ : some _ = some true); simp [gd]), .inl ?_⟩)⟩
              refine ⟨_, Le.refl _, .inr (.inl ⟨_, rfl, (by refine (congrArg some ?_ : some _ = some true); simp [gd]), .inl ?_⟩)⟩
              refine ⟨⟨fun _ => trivial, fun _ => trivial⟩, ?_⟩
              refine ⟨_, Le.refl _, .inr (.inl ⟨_, rfl, (by refine (congrArg some ?_ : some _ = some true); simp [gd]), .inl ?_⟩)⟩
              refine ⟨_, Le.refl _, .inr (.inl ⟨_, rfl, (by refine (congrArg some ?_ : some _ = some true); simp [gd]), .inr (OpTri.hcall 1 rfl rfl rfl (o2D hend) trivial ⟨rfl, rfl, rfl, trivial⟩ rfl ?_)⟩)⟩
              refine ⟨_, Le.refl _, .inr (.inl ⟨_, rfl, (by refine (congrArg some ?_ : some _ = some true); simp [gd]), .inl ?_⟩)⟩
              refine ⟨⟨fun _ => trivial, fun _ => trivial⟩, ?_⟩
              refine ⟨_, Le.refl _, .inr (.inl ⟨_, rfl, (by refine (congrArg some ?_ : some _ = some true); simp [gd]), .inl ?_⟩)⟩
              refine ⟨_, Le.refl _, .inr (.inl ⟨_, rfl, (by refine (congrArg some ?_ : some _ = some true); simp [gd]), .inr (OpTri.hcall 1 rfl rfl rfl (szD hend hi2) trivial ⟨rfl, rfl, rfl, trivial⟩ rfl ?_)⟩)⟩
              refine ⟨_, Le.refl _, .inr (.inl ⟨_, rfl, (by refine (congrArg some ?_ : some _ = some true); simp [gd]), .inl ?_⟩)⟩
              refine ⟨⟨fun _ => trivial, fun _ => trivial⟩, ?_⟩
              refine Tri.ret ?_
              exact ⟨congrArg AV.bool (by simp), trivial⟩
end Go.Proofs.YtchiagnggnblaaaDoor.Ac
