import Derived.Test.YtopnempdeopjfaaEvA
import Derived.Test.YtopnempdeopjfaaGOv2
set_option linter.all false
/- Contracts of chapter 24: the reference's buffers, variants, folding. -/
namespace Go.Proofs.Ytopnempdeopjfaa.Fx
open Go Go.Fw Go.Ov
theorem ifb2 (a b : Bool) : (if a = true then b else false) = (a && b) := by cases a <;> rfl
theorem f65_spec (l : List Pc) (pol : Int) (hl : ∀ p ∈ l, ((pd p).length : Int) ≤ 1073741824) (hn : l.length ≤ 140737488351232) : PSpec P [] 65 [.list pT l, .int .i64 pol] (.list pT (bufE l pol)) := by
  refine pspec_intro hT Try.func65 (by decide) rfl rfl (by kernel_rfl) rfl ?_
  refine Tri.seq (Tri.reg hT ?_)
  refine Tri.seq (Tri.reg hT ?_)
  refine Tri.seq ?_
  refine Tri.seq (Tri.reg hT ?_)
  refine (Tri.block ?_)
  refine (Tri.loop (ι := Nat) (fun i => ⟨35, 0, 40, [(0, .list pT l), (1, .int .i64 pol), (5, .list pT ((l.take i).foldl (stepE pol) [])), (6, .int .i64 (i : Int))], [], []⟩) (fun i => i ≤ l.length ∧ i ≤ 64) (fun i => l.length - i) (0) ?_ ?_ ?_)
  · exact ⟨Nat.zero_le _, Nat.zero_le _⟩
  · exact Le.trans (Le.own 5 pT rfl) (Le.trans (Le.freeze 5 _ _ rfl rfl (Nat.le_refl _)) (Le.weak rfl rfl rfl rfl ⟨(by first | rfl | exact iv1 (by (try simp only [decide_eq_true_eq, decide_eq_false_iff_not, toNat_cast] at *); omega)), (by first | rfl | exact iv1 (by (try simp only [decide_eq_true_eq, decide_eq_false_iff_not, toNat_cast] at *); omega)), (by first | rfl | exact iv1 (by (try simp only [decide_eq_true_eq, decide_eq_false_iff_not, toNat_cast] at *); omega)), (by first | rfl | exact iv1 (by (try simp only [decide_eq_true_eq, decide_eq_false_iff_not, toNat_cast] at *); omega)), trivial⟩ trivial))
  · intro i hi
    refine Tri.seq ?_
    refine Tri.seq (Tri.reg hT ?_)
    refine ⟨_, [], trivial, rfl, rfl, fun h => ⟨rfl, rfl, rfl⟩, ?_⟩
    refine ⟨_, [], trivial, rfl, rfl, fun h => ⟨h, rfl, rfl, rfl⟩, ?_⟩
    refine ⟨⟨fun hc => hc, fun _ => trivial⟩, ?_⟩
    refine (Tri.cond ⟨fun h1 => ?_, fun h1 => ?_⟩)
    · refine (Tri.skip ?_)
      refine Tri.seq (Tri.block ?_)
      have hlt : i < l.length ∧ i < 64 := (by rw [ifb2] at h1; have q := Bool.and_eq_true_iff.1 h1; have q1 := of_decide_eq_true q.1; have q2 := of_decide_eq_true q.2; omega); have w1 : IntKind.i64.wrap ((i : Int) + 1) = ((i + 1 : Nat) : Int) := (by rw [wrapId (by omega)]; omega); have hb := foldE_ok pol (l.take i) [] bufOk_nil (fun p hp => by have := hl p (List.mem_of_mem_take hp); omega); have hp := hl _ (getD_mem (d := (Ty.dflt pT : Pc)) hlt.1); have en := foldE_next pol hlt.1
      refine Tri.le (⟨35, 0, 50, [(0, .list pT l), (1, .int .i64 pol), (5, .list pT ((l.take i).foldl (stepE pol) [])), (6, .int .i64 (i : Int))], [], []⟩) (Le.weak rfl rfl rfl rfl ⟨(by first | rfl | exact iv1 (by (try simp only [decide_eq_true_eq, decide_eq_false_iff_not, toNat_cast] at *); omega)), (by first | rfl | exact iv1 (by (try simp only [decide_eq_true_eq, decide_eq_false_iff_not, toNat_cast] at *); omega)), (by first | rfl | exact iv1 (by (try simp only [decide_eq_true_eq, decide_eq_false_iff_not, toNat_cast] at *); omega)), (by first | rfl | exact iv1 (by (try simp only [decide_eq_true_eq, decide_eq_false_iff_not, toNat_cast] at *); omega)), trivial⟩ trivial) ?_
      refine Tri.seq (Tri.reg hT ?_)
      refine ⟨by omega, ?_⟩
      refine .inl (.inl ⟨_, fun _ => rfl, f73_spec ((l.take i).foldl (stepE pol) []) (l.getD i (Ty.dflt pT)) pol hb.v (by have := hb.len; omega) (by have h1 := cells_len ((l.take i).foldl (stepE pol) []); have h2 := lenSum_le hb.v; omega) (by omega), ?_⟩)
      refine Tri.seq (Tri.reg hT ?_)
      refine (Tri.cond ⟨fun h2 => ?_, fun h2 => ?_⟩)
      · refine (Tri.reg hT ?_)
        refine (Tri.reg hT ?_)
        rw [stepE, if_pos (of_decide_eq_true h2)] at en
        exact ⟨i + 1, ⟨hlt.1, hlt.2⟩, (by omega), Le.weak rfl rfl rfl rfl ⟨(by first | rfl | exact iv1 (by (try simp only [decide_eq_true_eq, decide_eq_false_iff_not, toNat_cast] at *); omega)), (by first | rfl | exact iv1 (by (try simp only [decide_eq_true_eq, decide_eq_false_iff_not, toNat_cast] at *); omega)), congrArg (AV.list pT) en.symm, congrArg (AV.int .i64) w1, trivial⟩ trivial⟩
      · refine (Tri.skip ?_)
        refine (Tri.reg hT ?_)
        rw [stepE, if_neg (of_decide_eq_false h2)] at en
        exact ⟨i + 1, ⟨hlt.1, hlt.2⟩, (by omega), Le.weak rfl rfl rfl rfl ⟨(by first | rfl | exact iv1 (by (try simp only [decide_eq_true_eq, decide_eq_false_iff_not, toNat_cast] at *); omega)), (by first | rfl | exact iv1 (by (try simp only [decide_eq_true_eq, decide_eq_false_iff_not, toNat_cast] at *); omega)), congrArg (AV.list pT) en.symm, congrArg (AV.int .i64) w1, trivial⟩ trivial⟩
    · refine Tri.exit ?_
      refine Tri.seq (Tri.reg hT ?_)
      refine Tri.ret ?_
      have hN : l.take i = l.take 64 := (by rw [ifb2] at h1; rcases Bool.and_eq_false_iff.1 h1 with q | q; (have := of_decide_eq_false q; have := hi.1; rw [List.take_of_length_le (by omega), List.take_of_length_le (by have := hi.2; omega)]); (have := of_decide_eq_false q; have := hi.2; rw [show i = 64 by omega])); exact ⟨congrArg (AV.list pT) (by unfold bufE; rw [hN]), trivial⟩
theorem f36_spec (l : List Pc) (pol : Int) (hl : ∀ p ∈ l, ((pd p).length : Int) ≤ 1073741824) (hn : l.length ≤ 140737488351232) : PSpec P [] 36 [.list pT l, .int .i64 pol] (.str (varE l pol)) := by
  have hb := bufE_ok l pol (fun p hp => by have := hl p hp; omega)
  have hls := lenSum_le hb.v
  have hcl := cells_len (bufE l pol)
  refine pspec_intro hT Try.func36 (by decide) rfl rfl (by kernel_rfl) rfl ?_
  refine Tri.seq (Tri.reg hT ?_)
  refine Tri.seq ?_
  refine Tri.seq (Tri.reg hT ?_)
  refine ⟨_, [], trivial, rfl, rfl, fun h => ⟨rfl, rfl, rfl⟩, ?_⟩
  refine ⟨_, [], trivial, rfl, rfl, fun h => ⟨h, rfl, rfl, rfl⟩, ?_⟩
  refine ⟨⟨fun _ => trivial, fun hc => (gn hc)⟩, ?_⟩
  refine (Tri.cond ⟨fun h1 => ?_, fun h1 => ?_⟩)
  · refine Tri.seq (Tri.reg hT ?_)
    refine Tri.ret ?_
    exact ⟨congrArg AV.str (if_pos (by simpa using h1)).symm, trivial⟩
  · refine (Tri.skip ?_)
    refine Tri.seq (Tri.reg hT ?_)
    refine .inl (.inl ⟨_, fun _ => rfl, f65_spec l pol hl hn, ?_⟩)
    refine .inl (.inl ⟨_, fun _ => rfl, f64_spec (bufE l pol) 0 hb.v (by have := hb.len; omega) (by omega) (by have := takeF_len (l := bufE l pol) 0; omega), ?_⟩)
    refine Tri.seq (Tri.reg hT ?_)
    refine Tri.ret ?_
    exact ⟨congrArg AV.str (if_neg (by simpa using h1)).symm, trivial⟩
set_option maxRecDepth 8000 in
theorem f39_spec (l : List Pc) (pol : Int) (hl : ∀ p ∈ l, ((pd p).length : Int) ≤ 1073741824) (hn : l.length ≤ 140737488351232) : PSpec P [] 39 [.list pT l, .int .i64 pol] (.list pT (foldV l pol)) := by
  have hb := bufE_ok l pol (fun p hp => by have := hl p hp; omega)
  have hls := lenSum_le hb.v
  have hs := smallB hb.v
  have hcl := hs.2
  have hFF := foldF_FZ (valid_ne hb.v)
  refine pspec_intro hT Try.func39 (by decide) rfl rfl (by kernel_rfl) rfl ?_
  refine Tri.seq (Tri.reg hT ?_)
  refine Tri.seq ?_
  refine Tri.seq (Tri.reg hT ?_)
  refine ⟨_, [], trivial, rfl, rfl, fun h => ⟨rfl, rfl, rfl⟩, ?_⟩
  refine ⟨_, [], trivial, rfl, rfl, fun h => ⟨h, rfl, rfl, rfl⟩, ?_⟩
  refine ⟨⟨fun _ => trivial, fun hc => (gn hc)⟩, ?_⟩
  refine (Tri.cond ⟨fun h1 => ?_, fun h1 => ?_⟩)
  · refine Tri.seq (Tri.reg hT ?_)
    refine Tri.le ⟨82, 0, 60, [(4, .list pT [])], [], []⟩ (Le.weakV rfl rfl rfl rfl ⟨rfl, trivial⟩ trivial) ?_
    refine Tri.ret ?_
    exact ⟨congrArg (AV.list pT) (if_pos (by simpa using h1)).symm, trivial⟩
  · refine (Tri.skip ?_)
    refine Tri.seq (Tri.reg hT ?_)
    refine .inl (.inl ⟨_, fun _ => rfl, f65_spec l pol hl hn, ?_⟩)
    refine .inl (.inl ⟨_, fun _ => rfl, f67_spec (bufE l pol) (by have := hb.len; omega) (valid_inB hb.v) hcl, ?_⟩)
    refine Tri.seq (Tri.reg hT ?_)
    have eV : foldV l pol = foldF (bufE l pol) := if_neg (by simpa using h1); rw [eV, ← hFF]; generalize cells (bufE l pol) = c at *
    refine Tri.seq ?_
    refine Tri.seq (Tri.reg hT ?_)
    refine (Tri.block ?_)
    refine (Tri.loop (ι := Nat) (fun i => ⟨82, 0, 20, [(5, .list cT c), (6, .own 14 (FZ c i).length), (7, .int .i64 (i : Int))], [(14, .arr pT (FZ c i))], []⟩) (fun i => i ≤ c.length ∧ Brk (c.map zC) i) (fun i => c.length - i) (0) ?_ ?_ ?_)
    · exact ⟨Nat.zero_le _, fun h => by simp [J, joinP]⟩
    · exact Le.trans (Le.own 6 pT rfl) (Le.weak rfl rfl rfl rfl ⟨(by first | rfl | exact iv1 (by (try simp only [decide_eq_true_eq, decide_eq_false_iff_not, toNat_cast] at *); omega)), (by first | rfl | exact iv1 (by (try simp only [decide_eq_true_eq, decide_eq_false_iff_not, toNat_cast] at *); omega)), (by first | rfl | exact iv1 (by (try simp only [decide_eq_true_eq, decide_eq_false_iff_not, toNat_cast] at *); omega)), trivial⟩ ⟨rfl, trivial⟩)
    · intro i hi
      refine Tri.seq ?_
      refine Tri.seq (Tri.reg hT ?_)
      refine (Tri.cond ⟨fun h2 => ?_, fun h2 => ?_⟩)
      · refine (Tri.skip ?_)
        refine (Tri.block ?_)
        have hlt : i < c.length := (by have := of_decide_eq_true h2; omega); have hFl := FZ_len c i; have hsat := hs.at hlt
        refine Tri.le (⟨82, 0, 30, [(5, .list cT c), (6, .own 14 (FZ c i).length), (7, .int .i64 (i : Int))], [(14, .arr pT (FZ c i))], []⟩) (Le.weak rfl rfl rfl rfl ⟨(by first | rfl | exact iv1 (by (try simp only [decide_eq_true_eq, decide_eq_false_iff_not, toNat_cast] at *); omega)), (by first | rfl | exact iv1 (by (try simp only [decide_eq_true_eq, decide_eq_false_iff_not, toNat_cast] at *); omega)), (by first | rfl | exact iv1 (by (try simp only [decide_eq_true_eq, decide_eq_false_iff_not, toNat_cast] at *); omega)), trivial⟩ ⟨rfl, trivial⟩) ?_
        refine Tri.seq (Tri.reg hT ?_)
        refine Tri.seq (Tri.reg hT ?_)
        refine Tri.seq (Tri.block ?_)
        refine (Tri.loop (ι := Nat) (fun k => ⟨82, 0, 40, [(5, .list cT c), (6, .own 14 (FZ c i).length), (7, .int .i64 (i : Int)), (8, .int .i64 (k : Int)), (9, .own 33 (runB c i k).length)], [(14, .arr pT (FZ c i)), (33, .arr (.int .u8) (runB c i k))], []⟩) (fun k => Run (c.map zC) i k) (fun k => c.length - k) (i) ?_ ?_ ?_)
        · exact run_start (c.map zC) (by rw [List.length_map]; exact hi.1)
        · have e0 : ([] : List Int) = runB c i i := by simp [runB]
          exact Le.trans (Le.own 9 (.int .u8) rfl) (Le.weak rfl rfl rfl rfl ⟨(by first | rfl | exact iv1 (by (try simp only [decide_eq_true_eq, decide_eq_false_iff_not, toNat_cast] at *); omega)), (by first | rfl | exact iv1 (by (try simp only [decide_eq_true_eq, decide_eq_false_iff_not, toNat_cast] at *); omega)), (by first | rfl | exact iv1 (by (try simp only [decide_eq_true_eq, decide_eq_false_iff_not, toNat_cast] at *); omega)), (by first | rfl | exact iv1 (by (try simp only [decide_eq_true_eq, decide_eq_false_iff_not, toNat_cast] at *); omega)), congrArg (AV.own 33) (congrArg List.length (e0)), trivial⟩ ⟨rfl, congrArg (fun l => some (Chunk.arr _ l)) (e0), trivial⟩)
        · intro k hk; have hk1 := hk.1; have hk2 : k ≤ c.length := (by have := hk.2.1; rw [List.length_map] at this; exact this); have hbl := runB_len hk1 hk2
          refine Tri.seq ?_
          refine Tri.seq (Tri.drw hT hm 21 (by kernel_rfl) ?_)
          refine ⟨_, [], trivial, rfl, rfl, fun h => ⟨rfl, rfl, rfl⟩, ?_⟩
          refine ⟨_, [], trivial, rfl, rfl, fun h => ⟨rfl, rfl, rfl⟩, ?_⟩
          refine ⟨_, [], trivial, rfl, rfl, fun h => ⟨h, h, by have h9 : (k : Int) < (c.length : Int) := of_decide_eq_true h; omega, rfl, rfl, rfl⟩, ?_⟩
          refine ⟨_, [], trivial, rfl, rfl, fun h => ⟨h, rfl, rfl, rfl⟩, ?_⟩
          refine ⟨_, [], trivial, rfl, rfl, fun h => ⟨h, rfl, rfl, rfl⟩, ?_⟩
          refine ⟨_, [], trivial, rfl, rfl, fun h => ⟨rfl, rfl, rfl⟩, ?_⟩
          refine ⟨_, [], trivial, rfl, rfl, fun h => ⟨rfl, rfl, rfl⟩, ?_⟩
          refine ⟨_, [], trivial, rfl, rfl, fun h => ⟨h, h, by omega, rfl, rfl, rfl⟩, ?_⟩
          refine ⟨_, [], trivial, rfl, rfl, fun h => ⟨h, rfl, rfl, rfl⟩, ?_⟩
          refine ⟨_, [], trivial, rfl, rfl, fun h => ⟨h, rfl, rfl, rfl⟩, ?_⟩
          refine ⟨_, [], trivial, rfl, rfl, fun h => ⟨rfl, rfl, rfl⟩, ?_⟩
          refine ⟨_, [], trivial, rfl, rfl, fun h => ⟨h, h, rfl, rfl, rfl⟩, ?_⟩
          refine ⟨_, [], trivial, rfl, rfl, fun h => ⟨rfl, rfl, rfl⟩, ?_⟩
          refine ⟨_, [], trivial, rfl, rfl, fun h => ⟨h, h, rfl, rfl, rfl⟩, ?_⟩
          refine ⟨_, [], trivial, rfl, rfl, fun h => ⟨h, h, rfl, rfl, rfl⟩, ?_⟩
          refine ⟨⟨fun hc => hc, fun _ => trivial⟩, ?_⟩
          refine ⟨by kernel_rfl, ?_⟩
          refine (Tri.cond ⟨fun h3 => ?_, fun h3 => ?_⟩)
          · refine (Tri.skip ?_)
            refine (Tri.block ?_)
            have hD : runD c i k = true := h3; have hn2 := run_next (smallZ hs) hi.2 hk (by rw [List.length_map]; exact hlt) ((runD_eq c i k).trans hD); have hkl : k < c.length := (by have := hn2.2; rw [List.length_map] at this; exact this); have e := runB_next hk1 hkl; have w1 : IntKind.i64.wrap ((k : Int) + 1) = ((k + 1 : Nat) : Int) := (by rw [wrapId (by omega)]; omega)
            refine Tri.le (⟨82, 0, 60, [(5, .list cT c), (6, .own 14 (FZ c i).length), (7, .int .i64 (i : Int)), (8, .int .i64 (k : Int)), (9, .own 33 (runB c i k).length)], [(14, .arr pT (FZ c i)), (33, .arr (.int .u8) (runB c i k))], []⟩) (Le.weak rfl rfl rfl rfl ⟨(by first | rfl | exact iv1 (by (try simp only [decide_eq_true_eq, decide_eq_false_iff_not, toNat_cast] at *); omega)), (by first | rfl | exact iv1 (by (try simp only [decide_eq_true_eq, decide_eq_false_iff_not, toNat_cast] at *); omega)), (by first | rfl | exact iv1 (by (try simp only [decide_eq_true_eq, decide_eq_false_iff_not, toNat_cast] at *); omega)), (by first | rfl | exact iv1 (by (try simp only [decide_eq_true_eq, decide_eq_false_iff_not, toNat_cast] at *); omega)), (by first | rfl | exact iv1 (by (try simp only [decide_eq_true_eq, decide_eq_false_iff_not, toNat_cast] at *); omega)), trivial⟩ ⟨rfl, rfl, trivial⟩) ?_
            refine Tri.seq (Tri.reg hT ?_)
            refine ⟨by omega, ?_⟩
            refine ⟨(Nat.le_refl _), (by show _ ≤ _ ∧ (_ + 1) * _ ≤ _ ∧ _ + 1 ≤ _; dsimp only; (try simp only [decide_eq_true_eq, decide_eq_false_iff_not, toNat_cast] at *); omega), ?_⟩
            refine (Tri.reg hT ?_)
            exact ⟨k + 1, hn2.1, (by omega), Le.weak rfl rfl rfl rfl ⟨(by first | rfl | exact iv1 (by (try simp only [decide_eq_true_eq, decide_eq_false_iff_not, toNat_cast] at *); omega)), (by first | rfl | exact iv1 (by (try simp only [decide_eq_true_eq, decide_eq_false_iff_not, toNat_cast] at *); omega)), (by first | rfl | exact iv1 (by (try simp only [decide_eq_true_eq, decide_eq_false_iff_not, toNat_cast] at *); omega)), congrArg (AV.int .i64) w1, congrArg (AV.own 33) (by rw [e]; exact List.length_append.symm), trivial⟩ ⟨rfl, congrArg (fun l => some (Chunk.arr _ l)) (by rw [e]; first | rfl | (rw [List.take_length]; rfl)), trivial⟩⟩
          · refine Tri.exit ?_
            have hD : runD c i k = false := h3; have hn3 := FZ_end hs hk hlt hD; have w2 : IntKind.i64.wrap ((c.getD i cD).1 + ((runB c i k).length : Int)) = (c.getD i cD).1 + ((Go.Ov.strOfNums (runB c i k)).length : Int) := (by rw [strOf_size, wrapId (by omega)]); have e : FZ c k = FZ c i ++ [((c.getD i cD).1, (List.take (runB c i k).length (runB c i k)).map Fw.byteOf, (c.getD i cD).1, IntKind.i64.wrap ((c.getD i cD).1 + ((runB c i k).length : Int)), ())] := (by rw [List.take_length, w2]; exact hn3.2.1)
            refine Tri.le (⟨82, 0, 80, [(5, .list cT c), (6, .own 14 (FZ c i).length), (7, .int .i64 (i : Int)), (8, .int .i64 (k : Int)), (9, .own 33 (runB c i k).length)], [(14, .arr pT (FZ c i)), (33, .arr (.int .u8) (runB c i k))], []⟩) (Le.weak rfl rfl rfl rfl ⟨(by first | rfl | exact iv1 (by (try simp only [decide_eq_true_eq, decide_eq_false_iff_not, toNat_cast] at *); omega)), (by first | rfl | exact iv1 (by (try simp only [decide_eq_true_eq, decide_eq_false_iff_not, toNat_cast] at *); omega)), (by first | rfl | exact iv1 (by (try simp only [decide_eq_true_eq, decide_eq_false_iff_not, toNat_cast] at *); omega)), (by first | rfl | exact iv1 (by (try simp only [decide_eq_true_eq, decide_eq_false_iff_not, toNat_cast] at *); omega)), (by first | rfl | exact iv1 (by (try simp only [decide_eq_true_eq, decide_eq_false_iff_not, toNat_cast] at *); omega)), trivial⟩ ⟨rfl, rfl, trivial⟩) ?_
            refine Tri.seq (Tri.drw hT hm 23 (by kernel_rfl) ?_)
            refine ⟨by omega, ?_⟩
            refine ⟨(Nat.le_refl _), ?_⟩
            refine ⟨by omega, ?_⟩
            refine ⟨by omega, ?_⟩
            refine ⟨by kernel_rfl, ?_⟩
            refine ⟨(Nat.le_refl _), (by show _ ≤ _ ∧ (_ + 1) * _ ≤ _ ∧ _ + 1 ≤ _; dsimp only; (try simp only [decide_eq_true_eq, decide_eq_false_iff_not, toNat_cast] at *); omega), ?_⟩
            refine (Tri.reg hT ?_)
            exact ⟨k, ⟨hk2, hn3.2.2⟩, (by have := hn3.1; omega), Le.weak rfl rfl rfl rfl ⟨(by first | rfl | exact iv1 (by (try simp only [decide_eq_true_eq, decide_eq_false_iff_not, toNat_cast] at *); omega)), congrArg (AV.own 14) (by rw [e]; exact List.length_append.symm), (by first | rfl | exact iv1 (by (try simp only [decide_eq_true_eq, decide_eq_false_iff_not, toNat_cast] at *); omega)), trivial⟩ ⟨congrArg (fun l => some (Chunk.arr _ l)) (by rw [e]; first | rfl | (rw [List.take_length]; rfl)), trivial⟩⟩
      · refine Tri.exit ?_
        refine Tri.seq (Tri.reg hT ?_)
        refine Tri.le ⟨82, 0, 0, [(4, .list pT (FZ c c.length))], [], []⟩ (Le.trans (Le.freeze 4 _ _ rfl rfl (by first | exact Nat.le_refl _ | (rw [List.length_append, List.length_take]; exact Nat.le_of_eq (by simp)))) (Le.weak rfl rfl rfl rfl ⟨congrArg (AV.list pT) ((List.take_length ..).trans ((by have h9 := of_decide_eq_false h2; have h8 := hi.1; rw [show i = c.length by omega]))), trivial⟩ trivial)) ?_
        refine Tri.ret ?_
        exact ⟨rfl, trivial⟩
end Go.Proofs.Ytopnempdeopjfaa.Fx
