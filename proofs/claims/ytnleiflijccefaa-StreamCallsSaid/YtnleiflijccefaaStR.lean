import Derived.Test.YtnleiflijccefaaStU
import Derived.Test.YtnleiflijccefaaOvR4
import Derived.Test.YtnleiflijccefaaGSt3
set_option linter.all false
/- Contracts of chapter 20: the reference's stream. -/
namespace Go.Proofs.Ytnleiflijccefaa.Fx
open Go Go.Fw Go.Ov
abbrev bxR (s : SS) : List AV := [.int .u32 s.first, .int .i64 s.win, .int .i64 s.pol, .int .i64 s.pos, .int .i64 s.end_, .list pT s.l]
theorem f81_spec (a b : Int) : PSpec P [] 81 [.int .u32 a, .int .u32 b] (.int .i64 (sdiff a b)) := by
  have w0 : IntKind.u32.wrap (a - b) = (a - b) % 4294967296 := wrap_u32 _
  have e : sdiff a b = (a - b + 2147483648) % 4294967296 - 2147483648 := sdiff_eq a b
  have w1 : IntKind.i64.wrap (IntKind.u32.wrap (a - b)) = (a - b) % 4294967296 := (by rw [w0]; exact wrapId (by omega))
  refine pspec_intro hT Try.func81 (by decide) rfl rfl (by kernel_rfl) rfl ?_
  refine Tri.seq (Tri.reg hT ?_)
  refine Tri.seq (Tri.reg hT ?_)
  refine Tri.seq ?_
  refine Tri.seq (Tri.reg hT ?_)
  refine (Tri.cond ⟨fun h1 => ?_, fun h1 => ?_⟩)
  · refine (Tri.reg hT ?_)
    refine Tri.seq (Tri.reg hT ?_)
    refine Tri.ret ?_
    have h1' := of_decide_eq_true h1; exact ⟨congrArg (AV.int .i64) (by rw [w1] at h1' ⊢; rw [wrapId (by omega)]; omega), trivial⟩
  · refine (Tri.skip ?_)
    refine Tri.seq (Tri.reg hT ?_)
    refine Tri.ret ?_
    have h1' := of_decide_eq_false h1; exact ⟨congrArg (AV.int .i64) (by rw [w1] at h1' ⊢; omega), trivial⟩
theorem f38_spec (isn win pol : Int) : NSpec P [] 38 [.int .u32 isn, .int .i64 win, .int .i64 pol] (bxR (newS isn win pol)) := by
  refine nspec_intro hT 10 Try.func38 (by decide) rfl rfl (by kernel_rfl) rfl ?_
  refine Tri.seq (Tri.reg hT ?_)
  refine Tri.seq (Tri.reg hT ?_)
  refine Tri.le ⟨17, 0, 11, [(6, .loc 10 0)], [(10, .box (bxR (newS isn win pol)))], []⟩ (Le.weakV rfl rfl rfl rfl ⟨rfl, trivial⟩ ⟨⟨rfl, rfl, rfl, rfl, rfl, rfl, trivial⟩, trivial⟩) ?_
  refine Tri.ret ?_
  exact ⟨rfl, rfl, trivial⟩
theorem f75_spec (s : SS) (seq : Int) (h0 : 0 ≤ s.pos) (h1 : s.pos ≤ 1099511627776) (id : Nat) : CSpec P [] 75 [.loc id 0, .int .u32 seq] (oneU id (bxR s) none) (.int .i64 (offS s seq)) := by
  have hd := sdiff_rng seq (IntKind.u32.wrap (s.first + IntKind.u32.wrap s.pos))
  refine cspec_intro hT Try.func75 (by decide) rfl rfl (by kernel_rfl) rfl (fun _ => rfl) (fun _ => rfl) (fun _ => rfl) (fun _ => rfl) ?_ id
  refine Tri.seq (Tri.reg hT ?_)
  refine Tri.seq (Tri.drw hT hm 17 (by kernel_rfl) ?_)
  refine .inl ⟨_, fun _ => rfl, f81_spec .., ?_⟩
  refine ⟨by kernel_rfl, ?_⟩
  refine Tri.ret ?_
  exact ⟨congrArg (AV.int .i64) (wrapId (by omega)), rfl, trivial⟩
theorem f76_spec (s : SS) (hl : s.l.length ≤ 1099511627776) (hv : Valid s.l) (hs : lenSum s.l ≤ 1073741824) (h0 : 0 ≤ s.pos) (h1 : s.pos ≤ 1099511627776) (id : Nat) : CSpec P [] 76 [.loc id 0] (oneU id (bxR s) (some (bxR (takeN s)))) (.str (takeF s.l s.pos).1) := by
  have hb := valid_inB hv
  have ht := takeF_len (l := s.l) s.pos
  have hc := cells_len s.l
  refine cspec_intro hT Try.func76 (by decide) rfl rfl (by kernel_rfl) rfl (fun _ => rfl) (fun _ => rfl) (fun _ => rfl) (fun _ => rfl) ?_ id
  refine Tri.seq (Tri.reg hT ?_)
  refine Tri.seq (Tri.drw hT hm 13 (by kernel_rfl) ?_)
  refine .inl ⟨_, fun _ => rfl, f49_spec s.l s.pos hv hl (by omega) (by omega), ?_⟩
  refine ⟨by kernel_rfl, ?_⟩
  refine Tri.seq (Tri.reg hT ?_)
  refine Tri.seq (Tri.reg hT ?_)
  refine Tri.seq (Tri.reg hT ?_)
  refine Tri.ret ?_
  exact ⟨rfl, congrArg (fun z : Int => some (Chunk.box [.int .u32 s.first, .int .i64 s.win, .int .i64 s.pol, .int .i64 z, .int .i64 s.end_, .list pT (cutL s.l (takeF s.l s.pos).2)])) (wrapId (by omega)), trivial⟩
theorem f46_spec (s : SS) (id : Nat) : CSpec P [] 46 [.loc id 0] (oneU id (bxR s) none) (.bool (endedS s)) := by
  refine cspec_intro hT Try.func46 (by decide) rfl rfl (by kernel_rfl) rfl (fun _ => rfl) (fun _ => rfl) (fun _ => rfl) (fun _ => rfl) ?_ id
  refine Tri.seq (Tri.reg hT ?_)
  refine Tri.seq (Tri.drw hT hm 13 (by kernel_rfl) ?_)
  refine ⟨_, [], trivial, rfl, rfl, fun h => ⟨rfl, rfl, rfl⟩, ?_⟩
  refine ⟨_, [], trivial, rfl, rfl, fun h => ⟨h, rfl, rfl, rfl⟩, ?_⟩
  refine ⟨_, [], trivial, rfl, rfl, fun h => ⟨h, rfl, rfl, rfl⟩, ?_⟩
  refine ⟨_, [], trivial, rfl, rfl, fun h => ⟨h, rfl, rfl, rfl⟩, ?_⟩
  refine ⟨_, [], trivial, rfl, rfl, fun h => ⟨rfl, rfl, rfl⟩, ?_⟩
  refine ⟨_, [], trivial, rfl, rfl, fun h => ⟨h, rfl, rfl, rfl⟩, ?_⟩
  refine ⟨_, [], trivial, rfl, rfl, fun h => ⟨h, rfl, rfl, rfl⟩, ?_⟩
  refine ⟨_, [], trivial, rfl, rfl, fun h => ⟨h, rfl, rfl, rfl⟩, ?_⟩
  refine ⟨_, [], trivial, rfl, rfl, fun h => ⟨h, h, rfl, rfl, rfl⟩, ?_⟩
  refine ⟨⟨fun hc => hc, fun _ => trivial⟩, ?_⟩
  refine ⟨by kernel_rfl, ?_⟩
  refine Tri.ret ?_
  exact ⟨rfl, rfl, trivial⟩
theorem f40_spec (s : SS) (id : Nat) : CSpec P [] 40 [.loc id 0] (oneU id (bxR s) none) (.int .u32 (nextS s)) := by
  refine cspec_intro hT Try.func40 (by decide) rfl rfl (by kernel_rfl) rfl (fun _ => rfl) (fun _ => rfl) (fun _ => rfl) (fun _ => rfl) ?_ id
  refine Tri.seq (Tri.reg hT ?_)
  refine Tri.seq ?_
  refine Tri.seq (Tri.reg hT ?_)
  refine (Tri.cond ⟨fun h1 => ?_, fun h1 => ?_⟩)
  · cases h1
  · refine (Tri.skip ?_)
    refine Tri.seq ?_
    refine Tri.seq (Tri.reg hT ?_)
    refine .inl (.inr (.inl ⟨_, _, (by exact ⟨rfl, trivial⟩), f46_spec s _, (by rfl), ?_⟩))
    refine (Tri.cond ⟨fun h2 => ?_, fun h2 => ?_⟩)
    · refine Tri.seq (Tri.drw hT hm 11 (by kernel_rfl) ?_)
      refine ⟨by kernel_rfl, ?_⟩
      refine Tri.ret ?_
      exact ⟨congrArg (AV.int .u32) (if_pos h2).symm, rfl, trivial⟩
    · refine (Tri.skip ?_)
      refine Tri.seq (Tri.drw hT hm 10 (by kernel_rfl) ?_)
      refine ⟨by kernel_rfl, ?_⟩
      refine Tri.ret ?_
      exact ⟨congrArg (AV.int .u32) (if_neg (by rw [show endedS s = false from h2]; simp)).symm, rfl, trivial⟩
theorem f42_spec (s : SS) (id : Nat) : CSpec P [] 42 [.loc id 0] (oneU id (bxR s) none) (.int .i64 s.pos) := by
  refine cspec_intro hT Try.func42 (by decide) rfl rfl (by kernel_rfl) rfl (fun _ => rfl) (fun _ => rfl) (fun _ => rfl) (fun _ => rfl) ?_ id
  refine Tri.seq (Tri.reg hT ?_)
  refine Tri.seq ?_
  refine Tri.seq (Tri.reg hT ?_)
  refine (Tri.cond ⟨fun h1 => ?_, fun h1 => ?_⟩)
  · cases h1
  · refine (Tri.skip ?_)
    refine Tri.seq (Tri.reg hT ?_)
    refine Tri.ret ?_
    exact ⟨rfl, rfl, trivial⟩
theorem f44_spec (s : SS) (hl : s.l.length ≤ 1099511627776) (hs : lenSum s.l ≤ 1099511627776) (id : Nat) : CSpec P [] 44 [.loc id 0] (oneU id (bxR s) none) (.int .i64 (lenSum s.l)) := by
  refine cspec_intro hT Try.func44 (by decide) rfl rfl (by kernel_rfl) rfl (fun _ => rfl) (fun _ => rfl) (fun _ => rfl) (fun _ => rfl) ?_ id
  refine Tri.seq (Tri.reg hT ?_)
  refine Tri.seq ?_
  refine Tri.seq (Tri.reg hT ?_)
  refine (Tri.cond ⟨fun h1 => ?_, fun h1 => ?_⟩)
  · cases h1
  · refine (Tri.skip ?_)
    refine Tri.seq (Tri.reg hT ?_)
    refine .inl (.inl ⟨_, fun _ => rfl, f69_spec s.l hl (by omega), ?_⟩)
    refine Tri.ret ?_
    exact ⟨rfl, rfl, trivial⟩
theorem endge {s : SS} {B : Int} (h : SInv s B) : (s.end_ ≥ 0) = (s.end_ ≠ -1) := propext ⟨fun h1 h2 => by omega, fun h1 => by have := h.pos0; rcases h.end_ with q | ⟨q, _⟩; exact absurd q h1; omega⟩
theorem f72' {l : List Pc} {p p' : Pc} {pol : Int} (h : p' = p) (hv : Valid l) (hl : l.length ≤ 1099511627776) (hcl : (cells l).length ≤ 68719476736) (hp : ((pd p).length : Int) ≤ 4294967296) :
    PSpec P [] 72 [.list pT l, pv p', .int .i64 pol] (.tup [.list pT (insR l p pol).1, .int .i64 (insR l p pol).2.1, .int .i64 (insR l p pol).2.2]) := by
  rw [h]; exact f72_spec l p pol hv hl hcl hp
set_option maxRecDepth 8000 in
theorem f67_spec (s : SS) (B : Int) (h : SInv s B) (hB : B ≤ 1099511627776) (seq : Int) (d : List UInt8) (hd : d.length ≤ 1099511627776) (id : Nat) :
    CSpec P [] 67 [.loc id 0, .int .u32 seq, .str d] (oneU id (bxR s) (some (bxR (addS s seq d).2))) (addAV (addS s seq d)) := by
  have hp0 := h.pos0
  have hpB := h.posB
  have hw := h.win
  have hr := sdiff_rng seq (IntKind.u32.wrap (s.first + IntKind.u32.wrap s.pos))
  have hat : offS s seq = s.pos + sdiff seq (IntKind.u32.wrap (s.first + IntKind.u32.wrap s.pos)) := rfl
  have hge := endge h
  have hsz := h.size
  have hcs := cells_len s.l
  refine cspec_intro hT Try.func67 (by decide) rfl rfl (by kernel_rfl) rfl (fun _ => rfl) (fun _ => rfl) (fun _ => rfl) (fun _ => rfl) ?_ id
  refine Tri.seq (Tri.reg hT ?_)
  refine Tri.seq ?_
  refine Tri.seq (Tri.reg hT ?_)
  refine (Tri.cond ⟨fun h1 => ?_, fun h1 => ?_⟩)
  · cases h1
  · refine (Tri.skip ?_)
    refine Tri.seq (Tri.reg hT ?_)
    refine .inl (.inr (.inl ⟨_, _, (by exact ⟨rfl, trivial⟩), f75_spec s seq hp0 (by omega) _, (by rfl), ?_⟩))
    refine Tri.seq (Tri.reg hT ?_)
    refine Tri.seq (Tri.drw hT hm 14 (by kernel_rfl) ?_)
    refine ⟨by kernel_rfl, ?_⟩
    have w1 : IntKind.i64.wrap (offS s seq + (d.length : Int)) = offS s seq + d.length := wrapId (by omega); have w2 : IntKind.i64.wrap (s.pos + s.win) = s.pos + s.win := wrapId (by omega)
    refine Tri.join (True) (⟨96, 1, 60, [(0, .loc 0 0), (1, .int .u32 seq), (2, .str d), (9, .int .i64 (offS s seq)), (10, .int .i64 (max (offS s seq) s.pos)), (11, .int .i64 (hiS s (offS s seq) d.length))], [(0, .box (bxR s))], []⟩) ?_ fun hp2 => ?_
    · refine Tri.seq (Tri.reg hT ?_)
      refine (Tri.cond ⟨fun h2 => ?_, fun h2 => ?_⟩)
      · refine (Tri.reg hT ?_)
        exact ⟨trivial, Le.weak rfl rfl rfl rfl ⟨(by first | rfl | exact iv1 (by (try simp only [decide_eq_true_eq, decide_eq_false_iff_not, toNat_cast] at *); omega)), (by first | rfl | exact iv1 (by (try simp only [decide_eq_true_eq, decide_eq_false_iff_not, toNat_cast] at *); omega)), (by first | rfl | exact iv1 (by (try simp only [decide_eq_true_eq, decide_eq_false_iff_not, toNat_cast] at *); omega)), (by first | rfl | exact iv1 (by (try simp only [decide_eq_true_eq, decide_eq_false_iff_not, toNat_cast] at *); omega)), (by first | rfl | exact iv1 (by (try simp only [decide_eq_true_eq, decide_eq_false_iff_not, toNat_cast] at *); omega)), congrArg (AV.int .i64) (by rw [w1, w2]; exact (if_pos (hge ▸ of_decide_eq_true h2)).symm), trivial⟩ ⟨rfl, trivial⟩⟩
      · refine (Tri.skip ?_)
        exact ⟨trivial, Le.weak rfl rfl rfl rfl ⟨(by first | rfl | exact iv1 (by (try simp only [decide_eq_true_eq, decide_eq_false_iff_not, toNat_cast] at *); omega)), (by first | rfl | exact iv1 (by (try simp only [decide_eq_true_eq, decide_eq_false_iff_not, toNat_cast] at *); omega)), (by first | rfl | exact iv1 (by (try simp only [decide_eq_true_eq, decide_eq_false_iff_not, toNat_cast] at *); omega)), (by first | rfl | exact iv1 (by (try simp only [decide_eq_true_eq, decide_eq_false_iff_not, toNat_cast] at *); omega)), (by first | rfl | exact iv1 (by (try simp only [decide_eq_true_eq, decide_eq_false_iff_not, toNat_cast] at *); omega)), congrArg (AV.int .i64) (by rw [w1, w2]; exact (if_neg (hge ▸ of_decide_eq_false h2)).symm), trivial⟩ ⟨rfl, trivial⟩⟩
    · refine Tri.seq ?_
      refine Tri.seq (Tri.reg hT ?_)
      refine (Tri.cond ⟨fun h3 => ?_, fun h3 => ?_⟩)
      · refine Tri.seq (Tri.reg hT ?_)
        refine Tri.ret ?_
        have e : addS s seq d = (([], (d.length : Int), 0), s) := if_pos (of_decide_eq_true h3); exact ⟨congrArg addAV e.symm, congrArg (fun z : (List UInt8 × Int × Int) × SS => some (Chunk.box (bxR z.2))) e.symm, trivial⟩
      · refine (Tri.skip ?_)
        have hlt := of_decide_eq_false h3; have ho := hi_ok hlt; obtain ⟨o1, o2, o3, o4, o5, _⟩ := ho; generalize hlo : max (offS s seq) s.pos = lo at *; generalize hhi : hiS s (offS s seq) d.length = hi at *; have w3 : IntKind.i64.wrap (lo - offS s seq) = lo - offS s seq := wrapId (by omega); have w4 : IntKind.i64.wrap (hi - offS s seq) = hi - offS s seq := wrapId (by omega); have w5 : IntKind.i64.wrap (hi - lo) = hi - lo := wrapId (by omega); have w6 : IntKind.i64.wrap ((d.length : Int) - (hi - lo)) = d.length - (hi - lo) := wrapId (by omega); have hsl := segP_len (d := d) o1 (by omega) o4; have eI : insR s.l (segP (offS s seq) lo hi d) s.pol = insS s seq d := (by unfold insS; rw [hlo, hhi]); have insC : PSpec P [] 72 [.list pT s.l, pv (lo, (d.take (IntKind.i64.wrap (hi - offS s seq)).toNat).drop (IntKind.i64.wrap (lo - offS s seq)).toNat, 0, 0, ()), .int .i64 s.pol] (.tup [.list pT (insS s seq d).1, .int .i64 (insS s seq d).2.1, .int .i64 (insS s seq d).2.2]) := (by rw [← eI]; exact f72' (by rw [w3, w4]; rfl) h.v (by have := h.len; omega) (by omega) (by omega))
        refine Tri.seq (Tri.drw hT hm 25 (by kernel_rfl) ?_)
        refine ⟨by rw [w3, w4]; omega, ?_⟩
        refine .inl ⟨_, fun _ => rfl, insC, ?_⟩
        refine ⟨by kernel_rfl, ?_⟩
        refine Tri.seq ?_
        refine Tri.seq (Tri.reg hT ?_)
        refine (Tri.cond ⟨fun h4 => ?_, fun h4 => ?_⟩)
        · refine Tri.seq (Tri.reg hT ?_)
          refine Tri.ret ?_
          have e : addS s seq d = (([], (d.length : Int), 0), s) := (by unfold addS; rw [hlo, hhi, if_neg hlt]; exact if_pos (of_decide_eq_true h4)); exact ⟨congrArg addAV e.symm, congrArg (fun z : (List UInt8 × Int × Int) × SS => some (Chunk.box (bxR z.2))) e.symm, trivial⟩
        · refine (Tri.skip ?_)
          have he : ¬ (insS s seq d).2.2 ≠ 0 := of_decide_eq_false h4; have k := ins_ok h (by rw [hlo, hhi]; exact hlt) he; have kl := k.len; have ki := ins_inv h (by rw [hlo, hhi]; exact hlt) he; have ks := ki.size
          refine Tri.seq (Tri.reg hT ?_)
          refine Tri.seq (Tri.reg hT ?_)
          refine .inl (.inr (.inl ⟨_, _, (by exact ⟨rfl, trivial⟩), f76_spec { s with l := (insS s seq d).1 } (by show (insS s seq d).1.length ≤ _; omega) ki.v (by have : (SS.mk (insS s seq d).1 s.pos s.first s.win s.pol s.end_).win = s.win := rfl; omega) hp0 (by show s.pos ≤ _; omega) _, (by rfl), ?_⟩))
          refine Tri.ret ?_
          have e : addS s seq d = (((takeF (insS s seq d).1 s.pos).1, d.length - (hi - lo), (insS s seq d).2.1), takeN { s with l := (insS s seq d).1 }) := (by unfold addS; rw [hlo, hhi, if_neg hlt]; exact if_neg he); exact ⟨by rw [e, w5, w6]; rfl, congrArg (fun z : (List UInt8 × Int × Int) × SS => some (Chunk.box (bxR z.2))) e.symm, trivial⟩
set_option maxRecDepth 8000 in
theorem f66_spec (s : SS) (B : Int) (h : SInv s B) (hB : B ≤ 1099511618000) (seq : Int) (id : Nat) :
    CSpec P [] 66 [.loc id 0, .int .u32 seq] (oneU id (bxR s) (some (bxR (lostS s seq).2))) (lostAV (lostS s seq)) := by
  have hp0 := h.pos0
  have hpB := h.posB
  have hw := h.win
  have hr := sdiff_rng seq (IntKind.u32.wrap (s.first + IntKind.u32.wrap s.pos))
  have hat : offS s seq = s.pos + sdiff seq (IntKind.u32.wrap (s.first + IntKind.u32.wrap s.pos)) := rfl
  have w2 : IntKind.i64.wrap (s.pos + s.win) = s.pos + s.win := wrapId (by omega)
  have hlm := limS_ok s seq
  have hge := endge h
  refine cspec_intro hT Try.func66 (by decide) rfl rfl (by kernel_rfl) rfl (fun _ => rfl) (fun _ => rfl) (fun _ => rfl) (fun _ => rfl) ?_ id
  refine Tri.seq (Tri.reg hT ?_)
  refine Tri.seq ?_
  refine Tri.seq (Tri.reg hT ?_)
  refine (Tri.cond ⟨fun h1 => ?_, fun h1 => ?_⟩)
  · cases h1
  · refine (Tri.skip ?_)
    refine Tri.seq (Tri.drw hT hm 13 (by kernel_rfl) ?_)
    refine .inr (.inl ⟨_, _, (by exact ⟨rfl, trivial⟩), f75_spec s seq hp0 (by omega) _, (by rfl), ?_⟩)
    refine ⟨by kernel_rfl, ?_⟩
    refine Tri.join (True) (⟨74, 1, 60, [(0, .loc 0 0), (4, .int .i64 0), (5, .str []), (6, .int .i64 (limS s seq))], [(0, .box (bxR s))], []⟩) ?_ fun hp2 => ?_
    · refine Tri.seq (Tri.reg hT ?_)
      refine (Tri.cond ⟨fun h2 => ?_, fun h2 => ?_⟩)
      · refine (Tri.reg hT ?_)
        exact ⟨trivial, Le.weak rfl rfl rfl rfl ⟨(by first | rfl | exact iv1 (by (try simp only [decide_eq_true_eq, decide_eq_false_iff_not, toNat_cast] at *); omega)), (by first | rfl | exact iv1 (by (try simp only [decide_eq_true_eq, decide_eq_false_iff_not, toNat_cast] at *); omega)), (by first | rfl | exact iv1 (by (try simp only [decide_eq_true_eq, decide_eq_false_iff_not, toNat_cast] at *); omega)), congrArg (AV.int .i64) (by rw [w2]; exact (if_pos (hge ▸ of_decide_eq_true h2)).symm), trivial⟩ ⟨rfl, trivial⟩⟩
      · refine (Tri.skip ?_)
        exact ⟨trivial, Le.weak rfl rfl rfl rfl ⟨(by first | rfl | exact iv1 (by (try simp only [decide_eq_true_eq, decide_eq_false_iff_not, toNat_cast] at *); omega)), (by first | rfl | exact iv1 (by (try simp only [decide_eq_true_eq, decide_eq_false_iff_not, toNat_cast] at *); omega)), (by first | rfl | exact iv1 (by (try simp only [decide_eq_true_eq, decide_eq_false_iff_not, toNat_cast] at *); omega)), congrArg (AV.int .i64) (by rw [w2]; exact (if_neg (hge ▸ of_decide_eq_false h2)).symm), trivial⟩ ⟨rfl, trivial⟩⟩
    · refine Tri.seq (Tri.block ?_)
      refine (Tri.loop (ι := SS × Int × List UInt8) (fun x => ⟨74, 1, 60, [(0, .loc 0 0), (4, .int .i64 x.2.1), (5, .str x.2.2), (6, .int .i64 (limS s seq))], [(0, .box (bxR x.1))], []⟩) (fun x => LInv s B x ∧ lostL (limS s seq - x.1.pos).toNat (limS s seq) x = lostL (limS s seq - s.pos).toNat (limS s seq) (s, 0, [])) (fun x => (limS s seq - x.1.pos).toNat) ((s, 0, [])) ?_ ?_ ?_)
      · exact ⟨linv_start h, rfl⟩
      · exact Le.weak rfl rfl rfl rfl ⟨(by first | rfl | exact iv1 (by (try simp only [decide_eq_true_eq, decide_eq_false_iff_not, toNat_cast] at *); omega)), (by first | rfl | exact iv1 (by (try simp only [decide_eq_true_eq, decide_eq_false_iff_not, toNat_cast] at *); omega)), (by first | rfl | exact iv1 (by (try simp only [decide_eq_true_eq, decide_eq_false_iff_not, toNat_cast] at *); omega)), (by first | rfl | exact iv1 (by (try simp only [decide_eq_true_eq, decide_eq_false_iff_not, toNat_cast] at *); omega)), trivial⟩ ⟨rfl, trivial⟩
      · intro x hi; obtain ⟨hi, hx⟩ := hi
        refine Tri.seq ?_
        refine Tri.seq (Tri.reg hT ?_)
        refine (Tri.cond ⟨fun h3 => ?_, fun h3 => ?_⟩)
        · refine (Tri.skip ?_)
          refine (Tri.block ?_)
          refine Tri.seq (Tri.reg hT ?_)
          refine Tri.join (True) (⟨74, 1, 60, [(0, .loc 0 0), (4, .int .i64 x.2.1), (5, .str x.2.2), (6, .int .i64 (limS s seq)), (7, .int .i64 (lostTo x.1 (limS s seq)))], [(0, .box (bxR x.1))], []⟩) ?_ fun hp4 => ?_
          · refine Tri.seq (Tri.reg hT ?_)
            refine (Tri.cond ⟨fun h4 => ?_, fun h4 => ?_⟩)
            · refine (Tri.reg hT ?_)
              refine ⟨by have := of_decide_eq_true h4; omega, ?_⟩
              exact ⟨trivial, Le.weak rfl rfl rfl rfl ⟨(by first | rfl | exact iv1 (by (try simp only [decide_eq_true_eq, decide_eq_false_iff_not, toNat_cast] at *); omega)), (by first | rfl | exact iv1 (by (try simp only [decide_eq_true_eq, decide_eq_false_iff_not, toNat_cast] at *); omega)), (by first | rfl | exact iv1 (by (try simp only [decide_eq_true_eq, decide_eq_false_iff_not, toNat_cast] at *); omega)), (by first | rfl | exact iv1 (by (try simp only [decide_eq_true_eq, decide_eq_false_iff_not, toNat_cast] at *); omega)), congrArg (AV.int .i64) (lostTo_ne (of_decide_eq_true h4)).symm, trivial⟩ ⟨rfl, trivial⟩⟩
            · refine (Tri.skip ?_)
              exact ⟨trivial, Le.weak rfl rfl rfl rfl ⟨(by first | rfl | exact iv1 (by (try simp only [decide_eq_true_eq, decide_eq_false_iff_not, toNat_cast] at *); omega)), (by first | rfl | exact iv1 (by (try simp only [decide_eq_true_eq, decide_eq_false_iff_not, toNat_cast] at *); omega)), (by first | rfl | exact iv1 (by (try simp only [decide_eq_true_eq, decide_eq_false_iff_not, toNat_cast] at *); omega)), (by first | rfl | exact iv1 (by (try simp only [decide_eq_true_eq, decide_eq_false_iff_not, toNat_cast] at *); omega)), congrArg (AV.int .i64) (lostTo_nil (of_decide_eq_false h4)).symm, trivial⟩ ⟨rfl, trivial⟩⟩
          · have h3' := of_decide_eq_true h3; have kn := lost_next hpB hw.2 hi h3' hlm.1 hlm.2; have kt := lostTo_rng hi.inv h3'; have kz := hi.inv.size; have kw := hi.win; have kp := hi.inv.pos0; have kq := hi.inv.posB; have kl := hi.inv.len; have kn3 := kn.1.sum; have w5 : IntKind.i64.wrap (x.2.1 + lostTo x.1 (limS s seq)) = x.2.1 + lostTo x.1 (limS s seq) := wrapId (by have := hi.sum; have := hi.top; omega); have w6 : IntKind.i64.wrap (x.2.1 + lostTo x.1 (limS s seq) - x.1.pos) = x.2.1 + lostTo x.1 (limS s seq) - x.1.pos := wrapId (by have := hi.sum; have := hi.top; omega)
            refine Tri.seq (Tri.reg hT ?_)
            refine Tri.seq (Tri.reg hT ?_)
            refine (Tri.reg hT ?_)
            refine .inl (.inr (.inl ⟨_, _, (by exact ⟨rfl, trivial⟩), f76_spec { x.1 with pos := lostTo x.1 (limS s seq) } (by show x.1.l.length ≤ _; omega) hi.inv.v (by show lenSum x.1.l ≤ _; omega) (by show 0 ≤ lostTo x.1 (limS s seq); omega) (by show lostTo x.1 (limS s seq) ≤ _; omega) _, (by rfl), ?_⟩))
            refine ⟨by have a1 := kn.1.sum; have a2 := kn.1.top; have a3 : ((lostStep (limS s seq) x).2.2.length : Int) = (x.2.2.length + (takeF x.1.l (lostTo x.1 (limS s seq))).1.length : Nat) := congrArg Nat.cast (List.length_append ..); show x.2.2.length + (takeF x.1.l (lostTo x.1 (limS s seq))).1.length ≤ _; omega, ?_⟩
            exact ⟨lostStep (limS s seq) x, ⟨kn.1, (lostL_next hpB hw.2 hlm.1 hlm.2 hi h3').symm.trans hx⟩, (by have := kn.2; omega), Le.weak rfl rfl rfl rfl ⟨(by first | rfl | exact iv1 (by (try simp only [decide_eq_true_eq, decide_eq_false_iff_not, toNat_cast] at *); omega)), congrArg (AV.int .i64) (by rw [w5, w6]; show _ = x.2.1 + (lostTo x.1 (limS s seq) - x.1.pos); omega), (by first | rfl | exact iv1 (by (try simp only [decide_eq_true_eq, decide_eq_false_iff_not, toNat_cast] at *); omega)), (by first | rfl | exact iv1 (by (try simp only [decide_eq_true_eq, decide_eq_false_iff_not, toNat_cast] at *); omega)), trivial⟩ ⟨rfl, trivial⟩⟩
        · refine Tri.exit ?_
          refine Tri.seq (Tri.reg hT ?_)
          refine Tri.ret ?_
          have e : lostS s seq = ((x.2.1, x.2.2), x.1) := (by have e2 := lostL_end (of_decide_eq_false h3); rw [hx] at e2; unfold lostS; simp only [e2]); exact ⟨congrArg lostAV e.symm, congrArg (fun z : (Int × List UInt8) × SS => some (Chunk.box (bxR z.2))) e.symm, trivial⟩
set_option maxRecDepth 8000 in
theorem f65_spec (s : SS) (B : Int) (h : SInv s B) (hB : B ≤ 1099511627776) (seq : Int) (id : Nat) :
    CSpec P [] 65 [.loc id 0, .int .u32 seq] (oneU id (bxR s) (some (bxR (endS s seq).2))) (.bool (endS s seq).1) := by
  have hp0 := h.pos0
  have hpB := h.posB
  have hw := h.win
  have hlen := h.len
  have hr := sdiff_rng seq (IntKind.u32.wrap (s.first + IntKind.u32.wrap s.pos))
  have hat : offS s seq = s.pos + sdiff seq (IntKind.u32.wrap (s.first + IntKind.u32.wrap s.pos)) := rfl
  have w2 : IntKind.i64.wrap (s.pos + s.win) = s.pos + s.win := wrapId (by omega)
  have hge := endge h
  refine cspec_intro hT Try.func65 (by decide) rfl rfl (by kernel_rfl) rfl (fun _ => rfl) (fun _ => rfl) (fun _ => rfl) (fun _ => rfl) ?_ id
  refine Tri.seq (Tri.reg hT ?_)
  refine Tri.seq ?_
  refine Tri.seq (Tri.reg hT ?_)
  refine ⟨_, [], trivial, rfl, rfl, fun h => ⟨rfl, rfl, rfl⟩, ?_⟩
  refine ⟨_, [], trivial, rfl, rfl, fun h => ⟨h, rfl, rfl, rfl⟩, ?_⟩
  refine ⟨_, [], trivial, rfl, rfl, fun h => ⟨h, rfl, rfl, rfl⟩, ?_⟩
  refine ⟨_, [], trivial, rfl, rfl, fun h => ⟨h, rfl, rfl, rfl⟩, ?_⟩
  refine ⟨_, [], trivial, rfl, rfl, fun h => ⟨h, rfl, rfl, rfl⟩, ?_⟩
  refine ⟨⟨fun _ => trivial, fun hc => (gn hc)⟩, ?_⟩
  refine (Tri.cond ⟨fun h1 => ?_, fun h1 => ?_⟩)
  · refine Tri.seq (Tri.reg hT ?_)
    refine Tri.ret ?_
    have e : endS s seq = (false, s) := if_pos (hge ▸ of_decide_eq_true (show decide (s.end_ ≥ 0) = true from h1)); exact ⟨congrArg (fun z : Bool × SS => AV.bool z.1) e.symm, congrArg (fun z : Bool × SS => some (Chunk.box (bxR z.2))) e.symm, trivial⟩
  · refine (Tri.skip ?_)
    refine Tri.seq (Tri.reg hT ?_)
    refine .inl (.inr (.inl ⟨_, _, (by exact ⟨rfl, trivial⟩), f75_spec s seq hp0 (by omega) _, (by rfl), ?_⟩))
    have h1' : ¬ s.end_ ≠ -1 := hge ▸ of_decide_eq_false (show decide (s.end_ ≥ 0) = false from h1)
    refine Tri.seq ?_
    refine Tri.seq (Tri.drw hT hm 19 (by kernel_rfl) ?_)
    refine ⟨_, [], trivial, rfl, rfl, fun h => ⟨rfl, rfl, rfl⟩, ?_⟩
    refine ⟨_, [], trivial, rfl, rfl, fun h => ⟨rfl, rfl, rfl⟩, ?_⟩
    refine ⟨_, [], trivial, rfl, rfl, fun h => ⟨h, rfl, rfl, rfl⟩, ?_⟩
    refine ⟨_, [], trivial, rfl, rfl, fun h => ⟨h, rfl, rfl, rfl⟩, ?_⟩
    refine ⟨_, [], trivial, rfl, rfl, fun h => ⟨h, rfl, rfl, rfl⟩, ?_⟩
    refine ⟨_, [], trivial, rfl, rfl, fun h => ⟨rfl, rfl, rfl⟩, ?_⟩
    refine ⟨_, [], trivial, rfl, rfl, fun h => ⟨h, rfl, rfl, rfl⟩, ?_⟩
    refine ⟨_, [], trivial, rfl, rfl, fun h => ⟨h, rfl, rfl, rfl⟩, ?_⟩
    refine ⟨_, [], trivial, rfl, rfl, fun h => ⟨h, rfl, rfl, rfl⟩, ?_⟩
    refine ⟨_, [], trivial, rfl, rfl, fun h => ⟨h, h, rfl, rfl, rfl⟩, ?_⟩
    refine ⟨_, [], trivial, rfl, rfl, fun h => ⟨h, h, rfl, rfl, rfl⟩, ?_⟩
    refine ⟨⟨fun _ => trivial, fun hc => (gn hc)⟩, ?_⟩
    refine ⟨by kernel_rfl, ?_⟩
    refine (Tri.cond ⟨fun h2 => ?_, fun h2 => ?_⟩)
    · refine Tri.seq (Tri.reg hT ?_)
      refine Tri.ret ?_
      rw [w2] at h2; have e : endS s seq = (false, s) := (if_neg h1').trans (if_pos (by simpa using h2)); exact ⟨congrArg (fun z : Bool × SS => AV.bool z.1) e.symm, congrArg (fun z : Bool × SS => some (Chunk.box (bxR z.2))) e.symm, trivial⟩
    · refine (Tri.skip ?_)
      refine Tri.seq (Tri.reg hT ?_)
      refine Tri.seq (Tri.reg hT ?_)
      refine Tri.seq ?_
      refine Tri.seq (Tri.reg hT ?_)
      refine (Tri.block ?_)
      refine (Tri.loop (ι := Nat) (fun i => ⟨89, 1, 60, [(0, .loc 0 0), (5, .int .i64 (offS s seq)), (6, .own 39 (keptR (s.l.take i) (offS s seq)).length), (7, .int .i64 (i : Int))], [(0, .box (bxR { s with end_ := offS s seq })), (39, .arr pT (keptR (s.l.take i) (offS s seq)))], []⟩) (fun i => i ≤ s.l.length) (fun i => s.l.length - i) (0) ?_ ?_ ?_)
      · exact Nat.zero_le _
      · exact Le.weak rfl rfl rfl rfl ⟨(by first | rfl | exact iv1 (by (try simp only [decide_eq_true_eq, decide_eq_false_iff_not, toNat_cast] at *); omega)), (by first | rfl | exact iv1 (by (try simp only [decide_eq_true_eq, decide_eq_false_iff_not, toNat_cast] at *); omega)), (by first | rfl | exact iv1 (by (try simp only [decide_eq_true_eq, decide_eq_false_iff_not, toNat_cast] at *); omega)), (by first | rfl | exact iv1 (by (try simp only [decide_eq_true_eq, decide_eq_false_iff_not, toNat_cast] at *); omega)), trivial⟩ ⟨rfl, rfl, trivial⟩
      · intro i hi
        refine Tri.seq ?_
        refine Tri.seq (Tri.reg hT ?_)
        refine (Tri.cond ⟨fun h3 => ?_, fun h3 => ?_⟩)
        · refine (Tri.skip ?_)
          refine Tri.seq (Tri.block ?_)
          have hi' : i < s.l.length := i_lt h3; have hb := vInB h.v hi'; obtain ⟨q1, q2, q3, q4, q5, q6⟩ := (h.v i hi').1; have hlen2 := hb.len; have hpa := hb.1; have kn := keptR_next (a := offS s seq) hi'; have hkl : (keptR (s.l.take i) (offS s seq)).length ≤ i := (by unfold keptR; refine Nat.le_trans (List.length_filter_le ..) ?_; rw [List.length_map, List.length_take]; omega); have w3 : IntKind.i64.wrap ((s.l.getD i (Ty.dflt pT)).1 + ((s.l.getD i (Ty.dflt pT)).2.1.length : Int)) = endP (s.l.getD i (Ty.dflt pT)) := wrapId (by show -9223372036854775808 ≤ pa (s.l.getD i (Ty.dflt pT)) + ((pd (s.l.getD i (Ty.dflt pT))).length : Int) ∧ pa (s.l.getD i (Ty.dflt pT)) + ((pd (s.l.getD i (Ty.dflt pT))).length : Int) ≤ 9223372036854775807; omega); have w4 : IntKind.i64.wrap (offS s seq - (s.l.getD i (Ty.dflt pT)).1) = offS s seq - pa (s.l.getD i (Ty.dflt pT)) := wrapId (by show -9223372036854775808 ≤ offS s seq - pa (s.l.getD i (Ty.dflt pT)) ∧ offS s seq - pa (s.l.getD i (Ty.dflt pT)) ≤ 9223372036854775807; omega); have eEnd : endP (s.l.getD i (Ty.dflt pT)) = pa (s.l.getD i (Ty.dflt pT)) + ((pd (s.l.getD i (Ty.dflt pT))).length : Int) := rfl
          refine Tri.seq (Tri.reg hT ?_)
          refine ⟨⟨Int.natCast_nonneg _, Int.ofNat_lt.2 hi'⟩, ?_⟩
          refine Tri.join (True) (⟨89, 1, 90, [(0, .loc 0 0), (5, .int .i64 (offS s seq)), (6, .own 39 (keptR (s.l.take i) (offS s seq)).length), (7, .int .i64 (i : Int)), (8, .loc 74 0)], [(0, .box (bxR { s with end_ := offS s seq })), (39, .arr pT (keptR (s.l.take i) (offS s seq))), (74, .box [.int .i64 (cutR (offS s seq) (s.l.getD i (Ty.dflt pT))).1, .str (cutR (offS s seq) (s.l.getD i (Ty.dflt pT))).2.1, .int .i64 (cutR (offS s seq) (s.l.getD i (Ty.dflt pT))).2.2.1, .int .i64 (cutR (offS s seq) (s.l.getD i (Ty.dflt pT))).2.2.2.1])], []⟩) ?_ fun hp5 => ?_
          · refine Tri.seq (Tri.reg hT ?_)
            refine (Tri.cond ⟨fun h4 => ?_, fun h4 => ?_⟩)
            · refine (Tri.reg hT ?_)
              refine ⟨by have h4' := of_decide_eq_true h4; rw [toNat_cast, w3] at h4'; rw [toNat_cast, w4]; show 0 ≤ 0 ∧ 0 ≤ max 0 (offS s seq - pa (s.l.getD i (Ty.dflt pT))) ∧ max 0 (offS s seq - pa (s.l.getD i (Ty.dflt pT))) ≤ ((pd (s.l.getD i (Ty.dflt pT))).length : Int); omega, ?_⟩
              have h4' := of_decide_eq_true h4; rw [toNat_cast, w3] at h4'; have ec : (cutR (offS s seq) (s.l.getD i (Ty.dflt pT))) = ((s.l.getD i (Ty.dflt pT)).1, List.drop (Int.toNat 0) ((s.l.getD i (Ty.dflt pT)).2.1.take (max 0 (IntKind.i64.wrap (offS s seq - (s.l.getD i (Ty.dflt pT)).1))).toNat), (s.l.getD i (Ty.dflt pT)).2.2.1, (s.l.getD i (Ty.dflt pT)).2.2.2.1, ()) := (by rw [w4]; exact if_pos h4')
              exact ⟨trivial, Le.weak rfl rfl rfl rfl ⟨(by first | rfl | exact iv1 (by (try simp only [decide_eq_true_eq, decide_eq_false_iff_not, toNat_cast] at *); omega)), (by first | rfl | exact iv1 (by (try simp only [decide_eq_true_eq, decide_eq_false_iff_not, toNat_cast] at *); omega)), (by first | rfl | exact iv1 (by (try simp only [decide_eq_true_eq, decide_eq_false_iff_not, toNat_cast] at *); omega)), (by first | rfl | exact iv1 (by (try simp only [decide_eq_true_eq, decide_eq_false_iff_not, toNat_cast] at *); omega)), (by first | rfl | exact iv1 (by (try simp only [decide_eq_true_eq, decide_eq_false_iff_not, toNat_cast] at *); omega)), trivial⟩ ⟨rfl, rfl, congrArg (fun q : Pc => some (Chunk.box [.int .i64 q.1, .str q.2.1, .int .i64 q.2.2.1, .int .i64 q.2.2.2.1])) ec.symm, trivial⟩⟩
            · refine (Tri.skip ?_)
              have h4' := of_decide_eq_false h4; rw [toNat_cast, w3] at h4'; have ec : (cutR (offS s seq) (s.l.getD i (Ty.dflt pT))) = (s.l.getD i (Ty.dflt pT)) := if_neg h4'
              exact ⟨trivial, Le.weak rfl rfl rfl rfl ⟨(by first | rfl | exact iv1 (by (try simp only [decide_eq_true_eq, decide_eq_false_iff_not, toNat_cast] at *); omega)), (by first | rfl | exact iv1 (by (try simp only [decide_eq_true_eq, decide_eq_false_iff_not, toNat_cast] at *); omega)), (by first | rfl | exact iv1 (by (try simp only [decide_eq_true_eq, decide_eq_false_iff_not, toNat_cast] at *); omega)), (by first | rfl | exact iv1 (by (try simp only [decide_eq_true_eq, decide_eq_false_iff_not, toNat_cast] at *); omega)), (by first | rfl | exact iv1 (by (try simp only [decide_eq_true_eq, decide_eq_false_iff_not, toNat_cast] at *); omega)), trivial⟩ ⟨rfl, rfl, congrArg (fun q : Pc => some (Chunk.box [.int .i64 q.1, .str q.2.1, .int .i64 q.2.2.1, .int .i64 q.2.2.2.1])) ec.symm, trivial⟩⟩
          · refine Tri.seq (Tri.reg hT ?_)
            refine (Tri.cond ⟨fun h5 => ?_, fun h5 => ?_⟩)
            · refine (Tri.reg hT ?_)
              refine ⟨(Nat.le_refl _), (by show _ ≤ _ ∧ (_ + 1) * _ ≤ _ ∧ _ + 1 ≤ _; dsimp only; (try simp only [decide_eq_true_eq, decide_eq_false_iff_not, toNat_cast] at *); omega), ?_⟩
              refine (Tri.reg hT ?_)
              have h5' := of_decide_eq_true h5; rw [if_pos h5'] at kn
              exact ⟨i + 1, hi', (by omega), Le.weak rfl rfl rfl rfl ⟨(by first | rfl | exact iv1 (by (try simp only [decide_eq_true_eq, decide_eq_false_iff_not, toNat_cast] at *); omega)), (by first | rfl | exact iv1 (by (try simp only [decide_eq_true_eq, decide_eq_false_iff_not, toNat_cast] at *); omega)), congrArg (AV.own 39) (by rw [kn]; exact List.length_append.symm), (by first | rfl | exact iv1 (by (try simp only [decide_eq_true_eq, decide_eq_false_iff_not, toNat_cast] at *); omega)), trivial⟩ ⟨rfl, congrArg (fun l => some (Chunk.arr _ l)) (by rw [kn]; first | rfl | (rw [List.take_length]; rfl)), trivial⟩⟩
            · refine (Tri.skip ?_)
              refine (Tri.reg hT ?_)
              have h5' := of_decide_eq_false h5; rw [if_neg h5', List.append_nil] at kn
              exact ⟨i + 1, hi', (by omega), Le.weak rfl rfl rfl rfl ⟨(by first | rfl | exact iv1 (by (try simp only [decide_eq_true_eq, decide_eq_false_iff_not, toNat_cast] at *); omega)), (by first | rfl | exact iv1 (by (try simp only [decide_eq_true_eq, decide_eq_false_iff_not, toNat_cast] at *); omega)), congrArg (AV.own 39) (congrArg List.length (kn.symm)), (by first | rfl | exact iv1 (by (try simp only [decide_eq_true_eq, decide_eq_false_iff_not, toNat_cast] at *); omega)), trivial⟩ ⟨rfl, congrArg (fun l => some (Chunk.arr _ l)) (kn.symm), trivial⟩⟩
        · refine Tri.exit ?_
          have e : keptR (s.l.take i) (offS s seq) = keptL s.l (offS s seq) := (by have h9 : ¬ (i : Int) < (s.l.length : Int) := of_decide_eq_false h3; rw [List.take_of_length_le (by omega)]; exact keptR_eq h.v _)
          refine Tri.le (⟨89, 1, 90, [(0, .loc 0 0), (6, .list pT (keptL s.l (offS s seq)))], [(0, .box (bxR { s with end_ := offS s seq }))], []⟩) (Le.trans (Le.freeze 6 _ _ rfl rfl (Nat.le_refl _)) (Le.weak rfl rfl rfl rfl ⟨(by first | rfl | exact iv1 (by (try simp only [decide_eq_true_eq, decide_eq_false_iff_not, toNat_cast] at *); omega)), congrArg (AV.list pT) ((List.take_length ..).trans e), trivial⟩ ⟨rfl, trivial⟩)) ?_
          refine Tri.seq (Tri.reg hT ?_)
          refine Tri.seq (Tri.reg hT ?_)
          refine Tri.ret ?_
          rw [w2] at h2; have e : endS s seq = (true, { s with end_ := offS s seq, l := keptL s.l (offS s seq) }) := (if_neg h1').trans (if_neg (by intro hh; simp at h2; omega)); exact ⟨congrArg (fun z : Bool × SS => AV.bool z.1) e.symm, congrArg (fun z : Bool × SS => some (Chunk.box (bxR z.2))) e.symm, trivial⟩
end Go.Proofs.Ytnleiflijccefaa.Fx
