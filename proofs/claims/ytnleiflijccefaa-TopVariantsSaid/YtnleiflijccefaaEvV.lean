import Derived.Test.YtnleiflijccefaaStT
import Derived.Test.YtnleiflijccefaaEv2
set_option linter.all false
/- Contracts of chapter 24: buffers, variants; TopVariants. -/
namespace Go.Proofs.Ytnleiflijccefaa.Fx
open Go Go.Fw Go.Ov
theorem f48_spec (l : List Pc) (pol : Int) (hl : ∀ p ∈ l, ((pd p).length : Int) ≤ 1073741824) (hn : l.length ≤ 140737488351232) : PSpec P [] 48 [.list pT l, .int .i64 pol] (.list pT (bufE l pol)) := by
  have hln : (l.take 64).length ≤ 64 := List.length_take_le ..
  have hll : ∀ p ∈ l.take 64, ((pd p).length : Int) ≤ 1073741824 := fun p hp => hl p (List.mem_of_mem_take hp)
  have e64 : List.drop (Int.toNat 0) (l.take (min (l.length : Int) 64).toNat) = l.take 64 := by
    rcases Nat.le_total l.length 64 with q | q
    · rw [show (min (l.length : Int) 64).toNat = l.length by omega, List.take_length, List.take_of_length_le q]; rfl
    · rw [show (min (l.length : Int) 64).toNat = 64 by omega]; rfl
  generalize hL : l.take 64 = L at *
  refine pspec_intro hT Try.func48 (by decide) rfl rfl (by kernel_rfl) rfl ?_
  refine Tri.seq (Tri.reg hT ?_)
  refine Tri.seq (Tri.reg hT ?_)
  refine Tri.seq ?_
  refine Tri.seq (Tri.reg hT ?_)
  refine ⟨by omega, ?_⟩
  refine (Tri.block ?_)
  refine (Tri.loop (ι := Nat) (fun i => ⟨34, 0, 40, [(1, .int .i64 pol), (5, .list pT ((L.take i).foldl (stepE pol) [])), (15, .list pT L), (16, .int .i64 L.length), (17, .int .i64 (i : Int))], [], []⟩) (fun i => i ≤ L.length) (fun i => L.length - i) (0) ?_ ?_ ?_)
  · exact Nat.zero_le _
  · exact Le.trans (Le.own 5 pT rfl) (Le.trans (Le.freeze 5 _ _ rfl rfl (Nat.le_refl _)) (Le.weak rfl rfl rfl rfl ⟨(by first | rfl | exact iv1 (by (try simp only [decide_eq_true_eq, decide_eq_false_iff_not, toNat_cast] at *); omega)), (by first | rfl | exact iv1 (by (try simp only [decide_eq_true_eq, decide_eq_false_iff_not, toNat_cast] at *); omega)), congrArg (AV.list pT) e64, congrArg (fun z : List Pc => AV.int .i64 (z.length : Int)) e64, (by first | rfl | exact iv1 (by (try simp only [decide_eq_true_eq, decide_eq_false_iff_not, toNat_cast] at *); omega)), trivial⟩ trivial))
  · intro i hi
    refine Tri.seq (Tri.reg hT ?_)
    refine Tri.seq (Tri.cond ⟨fun h1 => ?_, fun h1 => ?_⟩)
    · refine (Tri.skip ?_)
      refine Tri.seq (Tri.block ?_)
      refine Tri.seq (Tri.reg hT ?_)
      refine ⟨by have := of_decide_eq_true h1; omega, ?_⟩
      have hi' := i_lt h1; have hb := foldE_ok pol (L.take i) [] bufOk_nil (fun p hp => by have := hll p (List.mem_of_mem_take hp); omega); have hp := hll _ (getD_mem (d := (Ty.dflt pT : Pc)) hi'); have en := foldE_next pol hi'
      refine Tri.seq (Tri.reg hT ?_)
      refine .inl (.inl ⟨_, fun _ => rfl, f35_spec ((L.take i).foldl (stepE pol) []) (L.getD i (Ty.dflt pT)) pol (by have := hb.len; omega) hb.v (by omega), ?_⟩)
      refine Tri.seq (Tri.reg hT ?_)
      refine (Tri.cond ⟨fun h2 => ?_, fun h2 => ?_⟩)
      · refine (Tri.reg hT ?_)
        refine (Tri.reg hT ?_)
        rw [stepE, if_pos (of_decide_eq_true h2)] at en
        exact ⟨i + 1, hi', (by omega), Le.weak rfl rfl rfl rfl ⟨(by first | rfl | exact iv1 (by (try simp only [decide_eq_true_eq, decide_eq_false_iff_not, toNat_cast] at *); omega)), congrArg (AV.list pT) en.symm, (by first | rfl | exact iv1 (by (try simp only [decide_eq_true_eq, decide_eq_false_iff_not, toNat_cast] at *); omega)), (by first | rfl | exact iv1 (by (try simp only [decide_eq_true_eq, decide_eq_false_iff_not, toNat_cast] at *); omega)), (by first | rfl | exact iv1 (by (try simp only [decide_eq_true_eq, decide_eq_false_iff_not, toNat_cast] at *); omega)), trivial⟩ trivial⟩
      · refine (Tri.skip ?_)
        refine (Tri.reg hT ?_)
        rw [stepE, if_neg (of_decide_eq_false h2)] at en
        exact ⟨i + 1, hi', (by omega), Le.weak rfl rfl rfl rfl ⟨(by first | rfl | exact iv1 (by (try simp only [decide_eq_true_eq, decide_eq_false_iff_not, toNat_cast] at *); omega)), congrArg (AV.list pT) en.symm, (by first | rfl | exact iv1 (by (try simp only [decide_eq_true_eq, decide_eq_false_iff_not, toNat_cast] at *); omega)), (by first | rfl | exact iv1 (by (try simp only [decide_eq_true_eq, decide_eq_false_iff_not, toNat_cast] at *); omega)), (by first | rfl | exact iv1 (by (try simp only [decide_eq_true_eq, decide_eq_false_iff_not, toNat_cast] at *); omega)), trivial⟩ trivial⟩
    · refine Tri.exit ?_
      refine Tri.seq (Tri.reg hT ?_)
      refine Tri.ret ?_
      have h9 := of_decide_eq_false h1; exact ⟨congrArg (AV.list pT) (by unfold bufE; rw [hL, List.take_of_length_le (by omega)]), trivial⟩
theorem f17_spec (l : List Pc) (pol : Int) (hl : ∀ p ∈ l, ((pd p).length : Int) ≤ 1073741824) (hn : l.length ≤ 140737488351232) : PSpec P [] 17 [.list pT l, .int .i64 pol] (.str (varE l pol)) := by
  have hb := bufE_ok l pol (fun p hp => by have := hl p hp; omega)
  have hls := lenSum_le hb.v
  refine pspec_intro hT Try.func17 (by decide) rfl rfl (by kernel_rfl) rfl ?_
  refine Tri.seq (Tri.reg hT ?_)
  refine Tri.seq ?_
  refine Tri.seq (Tri.reg hT ?_)
  refine ⟨_, [], trivial, rfl, rfl, fun h => ⟨rfl, rfl, rfl⟩, ?_⟩
  refine ⟨_, [], trivial, rfl, rfl, fun h => ⟨h, rfl, rfl, rfl⟩, ?_⟩
  refine ⟨⟨fun _ => trivial, fun hc => (gn hc)⟩, ?_⟩
  refine (Tri.cond ⟨fun h1 => ?_, fun h1 => ?_⟩)
  · refine Tri.seq (Tri.reg hT ?_)
    refine Tri.ret ?_
    exact ⟨congrArg AV.str (if_pos (by simpa using h1)).symm, trivial⟩
  · refine (Tri.skip ?_)
    refine Tri.seq (Tri.reg hT ?_)
    refine .inl (.inl ⟨_, fun _ => rfl, f48_spec l pol hl hn, ?_⟩)
    refine .inl (.inl ⟨_, fun _ => rfl, f36_spec (bufE l pol) 0 (by have := hb.len; omega) (valid_inB hb.v) (by omega), ?_⟩)
    refine Tri.seq (Tri.reg hT ?_)
    refine Tri.ret ?_
    exact ⟨congrArg AV.str (if_neg (by simpa using h1)).symm, trivial⟩
theorem wAddT {s s' : SS} {seq : Int} {d : List UInt8} {r : List UInt8 × Int × Int} (B : Int) (h : SInv s B) (hB : B ≤ 1099511627776) (hd : d.length ≤ 1099511627776) (e : addS s seq d = (r, s')) (id : Nat) :
    CSpec P [] 23 [.loc id 0, .int .u32 seq, .str d] (oneU id (bxS s) (some (bxS s'))) (.tup [.str r.1, .int .i64 r.2.1, .int .i64 r.2.2]) := by
  have := f23_spec s B h hB seq d hd id
  rw [e] at this
  exact this
theorem wVar : PSpec P [] 17 [.list pT [bT, aT], .int .i64 2] (.str [97, 97, 97, 97, 98, 98]) := by
  have := f17_spec [bT, aT] 2 (by decide) (by decide)
  rw [top_v] at this
  exact this
set_option maxRecDepth 8000 in
theorem f4_spec (l : List Pc) (pol isn : Int) (hl : l.length ≤ 140737488351232) : PSpec P [] 4 [.list pT l, .int .i64 pol, .int .u32 isn] (.bool true) := by
  obtain ⟨ta, tai⟩ := top_a isn
  obtain ⟨s3, tb⟩ := top_b isn
  refine pspec_intro hT Try.func4 (by decide) rfl rfl (by kernel_rfl) rfl ?_
  refine Tri.seq (Tri.reg hT ?_)
  refine Tri.seq (Tri.reg hT ?_)
  refine .inl (.inr (.inr ⟨_, (by exact fun _ => rfl), f22_spec isn 8192 2, ?_⟩))
  refine Tri.seq (Tri.reg hT ?_)
  refine .inl (.inr (.inl ⟨_, _, (by exact ⟨rfl, trivial⟩), wAddT 0 (TInv.nil.s (x := xT isn)) (by decide) (by decide) ta _, (by rfl), ?_⟩))
  refine Tri.seq (Tri.reg hT ?_)
  refine .inl (.inr (.inl ⟨_, _, (by exact ⟨rfl, trivial⟩), wAddT 0 (tai.s (x := xT isn)) (by decide) (by decide) tb _, (by rfl), ?_⟩))
  refine Tri.seq ?_
  refine Tri.seq (Tri.regM hT [11, 12, 13, 14, 15] ?_)
  refine ⟨_, [], trivial, rfl, rfl, fun h => ⟨rfl, rfl, rfl⟩, ?_⟩
  refine ⟨_, [], trivial, rfl, rfl, fun h => ⟨h, rfl, rfl, rfl⟩, ?_⟩
  refine ⟨⟨fun _ => trivial, fun hc => (gn hc)⟩, ?_⟩
  refine ⟨_, [], trivial, rfl, rfl, fun h => ⟨rfl, rfl, rfl⟩, ?_⟩
  refine ⟨_, [], trivial, rfl, rfl, fun h => ⟨h, rfl, rfl, rfl⟩, ?_⟩
  refine ⟨⟨fun _ => trivial, fun hc => (gn hc)⟩, ?_⟩
  refine ⟨_, Le.refl _, .inr ⟨_, rfl, (by kernel_rfl), ?_⟩⟩
  refine ⟨_, Le.refl _, .inr ⟨_, rfl, (by kernel_rfl), ?_⟩⟩
  refine ⟨_, Le.refl _, .inr ⟨_, rfl, (by kernel_rfl), ?_⟩⟩
  refine ⟨⟨174, 0, 60, [(0, .list pT l), (1, .int .i64 pol), (2, .int .u32 isn), (49, .bool false), (52, .list pT [bT, aT])], [], []⟩, Le.trans (Le.freeze 52 _ _ rfl rfl (Nat.le_refl _)) (Le.weak rfl rfl rfl rfl ⟨(by first | rfl | exact iv1 (by (try simp only [decide_eq_true_eq, decide_eq_false_iff_not, toNat_cast] at *); omega)), (by first | rfl | exact iv1 (by (try simp only [decide_eq_true_eq, decide_eq_false_iff_not, toNat_cast] at *); omega)), (by first | rfl | exact iv1 (by (try simp only [decide_eq_true_eq, decide_eq_false_iff_not, toNat_cast] at *); omega)), (by first | rfl | exact iv1 (by (try simp only [decide_eq_true_eq, decide_eq_false_iff_not, toNat_cast] at *); omega)), (by first | rfl | exact iv1 (by (try simp only [decide_eq_true_eq, decide_eq_false_iff_not, toNat_cast] at *); omega)), trivial⟩ trivial), .inr ⟨_, rfl, (by kernel_rfl), ?_⟩⟩
  refine .inl (.inl ⟨_, fun _ => rfl, wVar, ?_⟩)
  refine ⟨_, Le.refl _, .inr ⟨_, rfl, (by kernel_rfl), ?_⟩⟩
  refine ⟨⟨fun _ => trivial, fun _ => trivial⟩, ?_⟩
  refine (Tri.cond ⟨fun h1 => ?_, fun h1 => ?_⟩)
  · exact absurd h1 (by decide)
  · refine (Tri.skip ?_)
    refine Tri.seq ?_
    refine Tri.seq (Tri.reg hT ?_)
    refine ⟨_, [], trivial, rfl, rfl, fun h => ⟨rfl, rfl, rfl⟩, ?_⟩
    refine ⟨_, [], trivial, rfl, rfl, fun h => ⟨h, rfl, rfl, rfl⟩, ?_⟩
    refine ⟨⟨fun _ => trivial, fun hc => (gn hc)⟩, ?_⟩
    refine ⟨_, [], trivial, rfl, rfl, fun h => ⟨rfl, rfl, rfl⟩, ?_⟩
    refine ⟨_, [], trivial, rfl, rfl, fun h => ⟨h, rfl, rfl, rfl⟩, ?_⟩
    refine ⟨_, [], trivial, rfl, rfl, fun h => ⟨h, rfl, rfl, rfl⟩, ?_⟩
    refine ⟨⟨fun _ => trivial, fun hc => (gn hc)⟩, ?_⟩
    refine ⟨_, [], trivial, rfl, rfl, fun h => ⟨rfl, rfl, rfl⟩, ?_⟩
    refine ⟨_, [], trivial, rfl, rfl, fun h => ⟨h, rfl, rfl, rfl⟩, ?_⟩
    refine ⟨_, [], trivial, rfl, rfl, fun h => ⟨h, rfl, rfl, rfl⟩, ?_⟩
    refine ⟨⟨fun _ => trivial, fun hc => (gn hc)⟩, ?_⟩
    refine (Tri.cond ⟨fun h2 => ?_, fun h2 => ?_⟩)
    · refine Tri.seq (Tri.reg hT ?_)
      refine Tri.ret ?_
      exact ⟨rfl, trivial⟩
    · refine (Tri.skip ?_)
      have hpn : 1 ≤ pol ∧ pol ≤ 4 ∧ l.length ≠ 0 ∧ l.length ≤ 20 := (by simp at h2; have h9 : l.length ≠ 0 := fun h => h2.1.2 (List.length_eq_zero_iff.1 h); omega)
      refine Tri.seq ?_
      refine Tri.seq (Tri.reg hT ?_)
      refine (Tri.block ?_)
      refine (Tri.loop (ι := Nat) (fun i => ⟨174, 0, 90, [(0, .list pT l), (1, .int .i64 pol), (2, .int .u32 isn), (14, .int .i64 (i : Int))], [], []⟩) (fun i => i ≤ l.length ∧ ∀ j, j < i → OkT l j) (fun i => l.length - i) (0) ?_ ?_ ?_)
      · exact ⟨Nat.zero_le _, fun j hj => absurd hj (Nat.not_lt_zero _)⟩
      · exact Le.weak rfl rfl rfl rfl ⟨(by first | rfl | exact iv1 (by (try simp only [decide_eq_true_eq, decide_eq_false_iff_not, toNat_cast] at *); omega)), (by first | rfl | exact iv1 (by (try simp only [decide_eq_true_eq, decide_eq_false_iff_not, toNat_cast] at *); omega)), (by first | rfl | exact iv1 (by (try simp only [decide_eq_true_eq, decide_eq_false_iff_not, toNat_cast] at *); omega)), (by first | rfl | exact iv1 (by (try simp only [decide_eq_true_eq, decide_eq_false_iff_not, toNat_cast] at *); omega)), trivial⟩ trivial
      · intro i hi
        refine Tri.seq ?_
        refine Tri.seq (Tri.reg hT ?_)
        refine (Tri.cond ⟨fun h3 => ?_, fun h3 => ?_⟩)
        · refine (Tri.skip ?_)
          refine Tri.seq (Tri.block ?_)
          refine Tri.seq (Tri.reg hT ?_)
          have hi' := i_lt h3; have hil : 0 ≤ (i : Int) ∧ (i : Int) < (l.length : Int) := ⟨by omega, by omega⟩; have w1 : IntKind.i64.wrap ((l.length : Int) - 1) = (l.length : Int) - 1 := wrapId (by omega)
          refine Tri.seq (Tri.reg hT ?_)
          refine ⟨by omega, ?_⟩
          refine ⟨_, [], trivial, rfl, rfl, fun h => ⟨rfl, rfl, rfl⟩, ?_⟩
          refine ⟨_, [], trivial, rfl, rfl, fun h => ⟨rfl, rfl, rfl⟩, ?_⟩
          refine ⟨_, [], trivial, rfl, rfl, fun h => ⟨h, h, by omega, rfl, rfl, rfl⟩, ?_⟩
          refine ⟨_, [], trivial, rfl, rfl, fun h => ⟨h, rfl, rfl, rfl⟩, ?_⟩
          refine ⟨_, [], trivial, rfl, rfl, fun h => ⟨h, rfl, rfl, rfl⟩, ?_⟩
          refine ⟨_, [], trivial, rfl, rfl, fun h => ⟨h, rfl, rfl, rfl⟩, ?_⟩
          refine ⟨_, [], trivial, rfl, rfl, fun h => ⟨h, rfl, rfl, rfl⟩, ?_⟩
          refine ⟨⟨fun _ => trivial, fun hc => (gn hc)⟩, ?_⟩
          refine ⟨_, [], trivial, rfl, rfl, fun h => ⟨rfl, rfl, rfl⟩, ?_⟩
          refine ⟨_, [], trivial, rfl, rfl, fun h => ⟨rfl, rfl, rfl⟩, ?_⟩
          refine ⟨_, [], trivial, rfl, rfl, fun h => ⟨h, h, by omega, rfl, rfl, rfl⟩, ?_⟩
          refine ⟨_, [], trivial, rfl, rfl, fun h => ⟨h, rfl, rfl, rfl⟩, ?_⟩
          refine ⟨_, [], trivial, rfl, rfl, fun h => ⟨h, rfl, rfl, rfl⟩, ?_⟩
          refine ⟨_, [], trivial, rfl, rfl, fun h => ⟨h, rfl, rfl, rfl⟩, ?_⟩
          refine ⟨⟨fun _ => trivial, fun hc => (gn hc)⟩, ?_⟩
          refine ⟨_, [], trivial, rfl, rfl, fun h => ⟨rfl, rfl, rfl⟩, ?_⟩
          refine ⟨_, [], trivial, rfl, rfl, fun h => ⟨rfl, rfl, rfl⟩, ?_⟩
          refine ⟨_, [], trivial, rfl, rfl, fun h => ⟨h, h, by omega, rfl, rfl, rfl⟩, ?_⟩
          refine ⟨_, [], trivial, rfl, rfl, fun h => ⟨h, rfl, rfl, rfl⟩, ?_⟩
          refine ⟨_, [], trivial, rfl, rfl, fun h => ⟨h, rfl, rfl, rfl⟩, ?_⟩
          refine ⟨_, [], trivial, rfl, rfl, fun h => ⟨h, rfl, rfl, rfl⟩, ?_⟩
          refine ⟨⟨fun _ => trivial, fun hc => (gn hc)⟩, ?_⟩
          refine ⟨_, [], trivial, rfl, rfl, fun h => ⟨rfl, rfl, rfl⟩, ?_⟩
          refine ⟨_, [], trivial, rfl, rfl, fun h => ⟨rfl, rfl, rfl⟩, ?_⟩
          refine ⟨_, [], trivial, rfl, rfl, fun h => ⟨rfl, rfl, rfl⟩, ?_⟩
          refine ⟨_, [], trivial, rfl, rfl, fun h => ⟨h, h, by omega, rfl, rfl, rfl⟩, ?_⟩
          refine ⟨_, [], trivial, rfl, rfl, fun h => ⟨h, rfl, rfl, rfl⟩, ?_⟩
          refine ⟨_, [], trivial, rfl, rfl, fun h => ⟨h, rfl, rfl, rfl⟩, ?_⟩
          refine ⟨_, [], trivial, rfl, rfl, fun h => ⟨h, rfl, rfl, rfl⟩, ?_⟩
          refine ⟨_, [], trivial, rfl, rfl, fun h => ⟨h, h, rfl, rfl, rfl⟩, ?_⟩
          refine ⟨⟨fun _ => trivial, fun hc => (gn hc)⟩, ?_⟩
          refine (Tri.cond ⟨fun h4 => ?_, fun h4 => ?_⟩)
          · refine Tri.seq (Tri.reg hT ?_)
            refine Tri.ret ?_
            exact ⟨rfl, trivial⟩
          · refine (Tri.skip ?_)
            refine (Tri.reg hT ?_)
            have hok : OkT l i := (by unfold OkT; rw [toNat_cast, w1] at h4; generalize l.getD i (Ty.dflt pT) = o at h4 ⊢; simp at h4; obtain ⟨⟨⟨⟨c1, c2⟩, c3⟩, c4⟩, c5⟩ := h4; exact ⟨c1, by show o.2.1.length ≤ 100; omega, c3, c4, fun h => c5.1 (by omega), fun h => by have := c5.2 h; omega⟩)
            exact ⟨i + 1, ⟨hi', fun j hj => by rcases Nat.lt_or_ge j i with h9 | h9; exact hi.2 j h9; obtain rfl : j = i := (by omega); exact hok⟩, (by omega), Le.weak rfl rfl rfl rfl ⟨(by first | rfl | exact iv1 (by (try simp only [decide_eq_true_eq, decide_eq_false_iff_not, toNat_cast] at *); omega)), (by first | rfl | exact iv1 (by (try simp only [decide_eq_true_eq, decide_eq_false_iff_not, toNat_cast] at *); omega)), (by first | rfl | exact iv1 (by (try simp only [decide_eq_true_eq, decide_eq_false_iff_not, toNat_cast] at *); omega)), (by first | rfl | exact iv1 (by (try simp only [decide_eq_true_eq, decide_eq_false_iff_not, toNat_cast] at *); omega)), trivial⟩ trivial⟩
        · refine Tri.exit ?_
          have htop : TopOk l := ⟨hpn.2.2.2, fun j hj => hi.2 j (by have h9 := of_decide_eq_false h3; omega)⟩; have hpol : polX ((isn, 8192, pol, ()) : Stt) = pol := (by show min (max pol 1) 4 = pol; omega)
          refine Tri.seq (Tri.reg hT ?_)
          refine .inl (.inr (.inr ⟨_, (by exact fun _ => rfl), f22_spec isn 8192 pol, ?_⟩))
          refine Tri.seq (Tri.reg hT ?_)
          refine Tri.seq ?_
          refine Tri.seq (Tri.reg hT ?_)
          refine (Tri.block ?_)
          refine (Tri.loop (ι := Nat) (fun i => ⟨174, 0, 120, [(0, .list pT l), (1, .int .i64 pol), (2, .int .u32 isn), (7, .loc 96 0), (16, .str (runTop ((isn, 8192, pol, ()) : Stt) (l.take i)).1), (17, .int .i64 (i : Int))], [(96, .box (bxS (runTop ((isn, 8192, pol, ()) : Stt) (l.take i)).2))], []⟩) (fun i => i ≤ l.length) (fun i => l.length - i) (0) ?_ ?_ ?_)
          · exact Nat.zero_le _
          · exact Le.weak rfl rfl rfl rfl ⟨(by first | rfl | exact iv1 (by (try simp only [decide_eq_true_eq, decide_eq_false_iff_not, toNat_cast] at *); omega)), (by first | rfl | exact iv1 (by (try simp only [decide_eq_true_eq, decide_eq_false_iff_not, toNat_cast] at *); omega)), (by first | rfl | exact iv1 (by (try simp only [decide_eq_true_eq, decide_eq_false_iff_not, toNat_cast] at *); omega)), (by first | rfl | exact iv1 (by (try simp only [decide_eq_true_eq, decide_eq_false_iff_not, toNat_cast] at *); omega)), (by first | rfl | exact iv1 (by (try simp only [decide_eq_true_eq, decide_eq_false_iff_not, toNat_cast] at *); omega)), (by first | rfl | exact iv1 (by (try simp only [decide_eq_true_eq, decide_eq_false_iff_not, toNat_cast] at *); omega)), trivial⟩ ⟨rfl, trivial⟩
          · intro i hi
            refine Tri.seq ?_
            refine Tri.seq (Tri.reg hT ?_)
            refine (Tri.cond ⟨fun h5 => ?_, fun h5 => ?_⟩)
            · refine (Tri.skip ?_)
              refine Tri.seq (Tri.block ?_)
              have hi' := i_lt h5; have ts := top_step ((isn, 8192, pol, ()) : Stt) htop hi'; have en := runTop_next ((isn, 8192, pol, ()) : Stt) hi'; obtain ⟨d1, d2, d3, d4, d5⟩ := htop.ok i hi'; have w1 : IntKind.i64.wrap ((l.length : Int) - 1) = (l.length : Int) - 1 := wrapId (by omega)
              refine Tri.seq (Tri.drw hT hm 22 (by kernel_rfl) ?_)
              refine ⟨by omega, ?_⟩
              refine ⟨by omega, ?_⟩
              refine .inr (.inl ⟨_, _, (by exact ⟨rfl, trivial⟩), f23_spec (runTop ((isn, 8192, pol, ()) : Stt) (l.take i)).2 0 ts.inv (by decide) (seqO ((isn, 8192, pol, ()) : Stt) (pa (l.getD i (Ty.dflt pT)))) (pd (l.getD i (Ty.dflt pT))) (by omega) _, (by rfl), ?_⟩)
              refine ⟨by kernel_rfl, ?_⟩
              refine Tri.seq ?_
              refine Tri.seq (Tri.reg hT ?_)
              refine ⟨_, [], trivial, rfl, rfl, fun h => ⟨rfl, rfl, rfl⟩, ?_⟩
              refine ⟨_, [], trivial, rfl, rfl, fun h => ⟨rfl, rfl, rfl⟩, ?_⟩
              refine ⟨_, [], trivial, rfl, rfl, fun h => ⟨h, rfl, rfl, rfl⟩, ?_⟩
              refine ⟨_, [], trivial, rfl, rfl, fun h => ⟨h, rfl, rfl, rfl⟩, ?_⟩
              refine ⟨_, [], trivial, rfl, rfl, fun h => ⟨h, h, rfl, rfl, rfl⟩, ?_⟩
              refine ⟨_, [], trivial, rfl, rfl, fun h => ⟨h, rfl, rfl, rfl⟩, ?_⟩
              refine ⟨_, [], trivial, rfl, rfl, fun h => ⟨rfl, rfl, rfl⟩, ?_⟩
              refine ⟨_, [], trivial, rfl, rfl, fun h => ⟨h, rfl, rfl, rfl⟩, ?_⟩
              refine ⟨_, [], trivial, rfl, rfl, fun h => ⟨h, ⟨fun hc => ga h hc, fun _ => trivial⟩, rfl, rfl, rfl⟩, ?_⟩
              refine ⟨⟨fun _ => trivial, fun hc => (gn hc)⟩, ?_⟩
              refine (Tri.cond ⟨fun h6 => ?_, fun h6 => ?_⟩)
              · exfalso; have e1 := ts.cut; have e2 := ts.out; rw [w1] at h6; generalize hg : addS (runTop ((isn, 8192, pol, ()) : Stt) (l.take i)).2 (seqO ((isn, 8192, pol, ()) : Stt) (pa (l.getD i (Ty.dflt pT)))) (pd (l.getD i (Ty.dflt pT))) = r at *; by_cases h9 : i < l.length - 1; (have e3 := e2 h9; simp [e1, e3] at h6); (have e4 : ¬ (i : Int) < (l.length : Int) - 1 := (by omega); simp [e1, e4] at h6)
              · refine (Tri.skip ?_)
                refine (Tri.reg hT ?_)
                refine ⟨by have e1 := ts.len; have e2 := ts.dlen; rw [e1]; simp only [List.length_nil]; omega, ?_⟩
                refine (Tri.reg hT ?_)
                exact ⟨i + 1, hi', (by omega), Le.weak rfl rfl rfl rfl ⟨(by first | rfl | exact iv1 (by (try simp only [decide_eq_true_eq, decide_eq_false_iff_not, toNat_cast] at *); omega)), (by first | rfl | exact iv1 (by (try simp only [decide_eq_true_eq, decide_eq_false_iff_not, toNat_cast] at *); omega)), (by first | rfl | exact iv1 (by (try simp only [decide_eq_true_eq, decide_eq_false_iff_not, toNat_cast] at *); omega)), (by first | rfl | exact iv1 (by (try simp only [decide_eq_true_eq, decide_eq_false_iff_not, toNat_cast] at *); omega)), congrArg (fun z : List UInt8 × SS => AV.str z.1) en.symm, (by first | rfl | exact iv1 (by (try simp only [decide_eq_true_eq, decide_eq_false_iff_not, toNat_cast] at *); omega)), trivial⟩ ⟨congrArg (fun z : List UInt8 × SS => some (Chunk.box (bxS z.2))) en.symm, trivial⟩⟩
            · refine Tri.exit ?_
              refine Tri.seq (Tri.reg hT ?_)
              refine .inl (.inl ⟨_, fun _ => rfl, f17_spec l pol (fun p hp => by obtain ⟨j, hj, rfl⟩ := mem_getD (Ty.dflt pT) hp; have := (htop.ok j hj).2.1; omega) hl, ?_⟩)
              refine Tri.ret ?_
              have h9 := of_decide_eq_false h5; have e : l.take i = l := List.take_of_length_le (by omega); exact ⟨congrArg AV.bool (decide_eq_true (by rw [e]; exact top_end ((isn, 8192, pol, ()) : Stt) htop hpn.2.2.1 hpol)), trivial⟩
end Go.Proofs.Ytnleiflijccefaa.Fx
