import Derived.Test.YtchiagnggnblaaaDoorStS
import Derived.Test.YtchiagnggnblaaaDoorGSt1
set_option linter.all false
/- Contracts of chapter 20: the program's Add. -/
namespace Go.Proofs.YtchiagnggnblaaaDoor.Fx
open Go Go.Fw Go.Ov
theorem f50' {l : List Pc} {p p' : Pc} {pol : Int} (h : p' = p) (hl : l.length ≤ 1073741824) (hv : Valid l) (hp : ((pd p).length : Int) ≤ 1099511627776) :
    PSpec P [] 50 [.list pT l, pv p', .int .i64 pol] (.tup [.list pT (insR l p pol).1, .int .i64 (insR l p pol).2.1, .int .i64 (insR l p pol).2.2]) := by
  rw [h]; exact f50_spec l p pol hl hv hp
abbrev addAV (r : (List UInt8 × Int × Int) × SS) : AV := .tup [.str r.1.1, .int .i64 r.1.2.1, .int .i64 r.1.2.2]
set_option maxRecDepth 8000 in
theorem f40_spec (s : SS) (B : Int) (h : SInv s B) (hB : B ≤ 1099511627776) (seq : Int) (d : List UInt8) (hd : d.length ≤ 1099511627776) (id : Nat) :
    CSpec P [] 40 [.loc id 0, .int .u32 seq, .str d] (oneU id (bxS s) (some (bxS (addS s seq d).2))) (addAV (addS s seq d)) := by
  have hp0 := h.pos0
  have hpB := h.posB
  have hw := h.win
  have hr := sdiff_rng seq (IntKind.u32.wrap (s.first + IntKind.u32.wrap s.pos))
  have hat : offS s seq = s.pos + sdiff seq (IntKind.u32.wrap (s.first + IntKind.u32.wrap s.pos)) := rfl
  refine cspec_intro hT Tryd.func40 (by decide) rfl rfl (by kernel_rfl) rfl (fun _ => rfl) (fun _ => rfl) (fun _ => rfl) (fun _ => rfl) ?_ id
  refine Tri.seq (Tri.reg hT ?_)
  refine Tri.seq ?_
  refine Tri.seq (Tri.reg hT ?_)
  refine (Tri.cond ⟨fun h1 => ?_, fun h1 => ?_⟩)
  · cases h1
  · refine (Tri.skip ?_)
    refine Tri.seq (Tri.reg hT ?_)
    refine .inl (.inr (.inl ⟨_, _, (by exact ⟨rfl, trivial⟩), f49_spec s seq hp0 (by omega) _, (by rfl), ?_⟩))
    refine Tri.seq (Tri.drw hT hm 23 (by kernel_rfl) ?_)
    refine ⟨by kernel_rfl, ?_⟩
    have w1 : IntKind.i64.wrap (offS s seq + (d.length : Int)) = offS s seq + d.length := wrapId (by omega); have w2 : IntKind.i64.wrap (s.pos + s.win) = s.pos + s.win := wrapId (by omega)
    refine Tri.join (True) (⟨102, 1, 60, [(0, .loc 0 0), (1, .int .u32 seq), (2, .str d), (9, .int .i64 (offS s seq)), (10, .int .i64 (max (offS s seq) s.pos)), (11, .int .i64 (hiS s (offS s seq) d.length))], [(0, .box (bxS s))], []⟩) ?_ fun hp2 => ?_
    · refine Tri.seq (Tri.reg hT ?_)
      refine (Tri.cond ⟨fun h2 => ?_, fun h2 => ?_⟩)
      · refine (Tri.reg hT ?_)
        exact ⟨trivial, Le.weak rfl rfl rfl rfl ⟨(by first | rfl | exact iv1 (by (try simp only [decide_eq_true_eq, decide_eq_false_iff_not, toNat_cast] at *); omega)), (by first | rfl | exact iv1 (by (try simp only [decide_eq_true_eq, decide_eq_false_iff_not, toNat_cast] at *); omega)), (by first | rfl | exact iv1 (by (try simp only [decide_eq_true_eq, decide_eq_false_iff_not, toNat_cast] at *); omega)), (by first | rfl | exact iv1 (by (try simp only [decide_eq_true_eq, decide_eq_false_iff_not, toNat_cast] at *); omega)), (by first | rfl | exact iv1 (by (try simp only [decide_eq_true_eq, decide_eq_false_iff_not, toNat_cast] at *); omega)), congrArg (AV.int .i64) (by rw [w1, w2]; exact (if_pos (of_decide_eq_true h2)).symm), trivial⟩ ⟨rfl, trivial⟩⟩
      · refine (Tri.skip ?_)
        exact ⟨trivial, Le.weak rfl rfl rfl rfl ⟨(by first | rfl | exact iv1 (by (try simp only [decide_eq_true_eq, decide_eq_false_iff_not, toNat_cast] at *); omega)), (by first | rfl | exact iv1 (by (try simp only [decide_eq_true_eq, decide_eq_false_iff_not, toNat_cast] at *); omega)), (by first | rfl | exact iv1 (by (try simp only [decide_eq_true_eq, decide_eq_false_iff_not, toNat_cast] at *); omega)), (by first | rfl | exact iv1 (by (try simp only [decide_eq_true_eq, decide_eq_false_iff_not, toNat_cast] at *); omega)), (by first | rfl | exact iv1 (by (try simp only [decide_eq_true_eq, decide_eq_false_iff_not, toNat_cast] at *); omega)), congrArg (AV.int .i64) (by rw [w1, w2]; exact (if_neg (of_decide_eq_false h2)).symm), trivial⟩ ⟨rfl, trivial⟩⟩
    · refine Tri.seq ?_
      refine Tri.seq (Tri.reg hT ?_)
      refine (Tri.cond ⟨fun h3 => ?_, fun h3 => ?_⟩)
      · refine Tri.seq (Tri.reg hT ?_)
        refine Tri.ret ?_
        have e : addS s seq d = (([], (d.length : Int), 0), s) := if_pos (of_decide_eq_true h3); exact ⟨congrArg addAV e.symm, congrArg (fun z : (List UInt8 × Int × Int) × SS => some (Chunk.box (bxS z.2))) e.symm, trivial⟩
      · refine (Tri.skip ?_)
        have hlt := of_decide_eq_false h3; have ho := hi_ok hlt; obtain ⟨o1, o2, o3, o4, o5, _⟩ := ho; generalize hlo : max (offS s seq) s.pos = lo at *; generalize hhi : hiS s (offS s seq) d.length = hi at *; have w3 : IntKind.i64.wrap (lo - offS s seq) = lo - offS s seq := wrapId (by omega); have w4 : IntKind.i64.wrap (hi - offS s seq) = hi - offS s seq := wrapId (by omega); have w5 : IntKind.i64.wrap (hi - lo) = hi - lo := wrapId (by omega); have w6 : IntKind.i64.wrap ((d.length : Int) - (hi - lo)) = d.length - (hi - lo) := wrapId (by omega); have hsl := segP_len (d := d) o1 (by omega) o4; have eI : insR s.l (segP (offS s seq) lo hi d) s.pol = insS s seq d := (by unfold insS; rw [hlo, hhi])
        refine Tri.seq (Tri.drw hT hm 26 (by kernel_rfl) ?_)
        refine ⟨by rw [w3, w4]; omega, ?_⟩
        refine .inl ⟨_, fun _ => rfl, (by have := f50' (l := s.l) (pol := s.pol) (show ((lo, (d.take (IntKind.i64.wrap (hi - offS s seq)).toNat).drop (IntKind.i64.wrap (lo - offS s seq)).toNat, 0, 0, ()) : Pc) = segP (offS s seq) lo hi d by rw [w3, w4]; rfl) (by have := h.len; omega) h.v (by omega); rw [eI] at this; exact this), ?_⟩
        refine ⟨by kernel_rfl, ?_⟩
        refine Tri.seq ?_
        refine Tri.seq (Tri.reg hT ?_)
        refine (Tri.cond ⟨fun h4 => ?_, fun h4 => ?_⟩)
        · refine Tri.seq (Tri.reg hT ?_)
          refine Tri.ret ?_
          have e : addS s seq d = (([], (d.length : Int), 0), s) := (by unfold addS; rw [hlo, hhi, if_neg hlt]; exact if_pos (of_decide_eq_true h4)); exact ⟨congrArg addAV e.symm, congrArg (fun z : (List UInt8 × Int × Int) × SS => some (Chunk.box (bxS z.2))) e.symm, trivial⟩
        · refine (Tri.skip ?_)
          have he : ¬ (insS s seq d).2.2 ≠ 0 := of_decide_eq_false h4; have k := ins_ok h (by rw [hlo, hhi]; exact hlt) he; have kl := k.len; have ki := ins_inv h (by rw [hlo, hhi]; exact hlt) he; have ks := ki.size
          refine Tri.seq (Tri.reg hT ?_)
          refine Tri.seq (Tri.reg hT ?_)
          refine .inl (.inr (.inl ⟨_, _, (by exact ⟨rfl, trivial⟩), f51_spec { s with l := (insS s seq d).1 } (by show (insS s seq d).1.length ≤ _; omega) ki.v (by have : (SS.mk (insS s seq d).1 s.pos s.first s.win s.pol s.end_).win = s.win := rfl; omega) hp0 (by show s.pos ≤ _; omega) _, (by rfl), ?_⟩))
          refine Tri.ret ?_
          have e : addS s seq d = (((takeF (insS s seq d).1 s.pos).1, d.length - (hi - lo), (insS s seq d).2.1), takeN { s with l := (insS s seq d).1 }) := (by unfold addS; rw [hlo, hhi, if_neg hlt]; exact if_neg he); exact ⟨by rw [e, w5, w6]; rfl, congrArg (fun z : (List UInt8 × Int × Int) × SS => some (Chunk.box (bxS z.2))) e.symm, trivial⟩
end Go.Proofs.YtchiagnggnblaaaDoor.Fx
