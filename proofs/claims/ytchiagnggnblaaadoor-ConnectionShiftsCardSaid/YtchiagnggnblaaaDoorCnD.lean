import Derived.Test.YtchiagnggnblaaaDoorCnC
set_option linter.all false
/- Contracts of chapter 21: beginnings. -/
namespace Go.Proofs.YtchiagnggnblaaaDoor.Ac
open Go Go.Fw Go.Ov Go.Proofs.YtchiagnggnblaaaDoor.Fx
/-- A half behind its sender's first segment. -/
def begH (h : Hf) (q : Int) (o : List optT.D) : Hf :=
  { nm := h.nm, v6 := h.v6, hi := h.hi, lo := h.lo, ln := h.ln, pol := h.pol, frag := h.frag, hops := h.hops, win := h.win, stamps := h.stamps, val := h.val, sv := h.sv, isn := q, high := IntKind.u32.wrap (q + 1), stamped := (stampsA o).2.2, stamp := (stampsA o).1 }
set_option maxRecDepth 16000 in
theorem f23_n1 (st : Int) (h g : Hf) (a b k f w u : Int) (k2 : Int) (o : List optT.D) (p : List UInt8) (ho : o.length < 9223372036854775807) :
    HSpec P G 23 [.loc 0 0, .int .i64 1, tcpV a b k k2 f w u o p] (cnN st h g) (.tup []) (cnN st (begH h k o) g) := by
  refine fspec_intro hT (cnN st h g) (cnN st (begH h k o) g) 1 1 Tryd.func23 (by decide) rfl rfl (by kernel_rfl) rfl rfl ?_
  refine Tri.seq (Tri.reg hT ?_)
  refine Tri.seq (Tri.reg hT ?_)
  refine ⟨(by first | ((try simp only [decide_eq_true_eq, decide_eq_false_iff_not, toNat_cast] at *); omega) | decide), ?_⟩
  refine Tri.seq (Tri.reg hT ?_)
  refine .inl (.inl ⟨_, fun _ => rfl, f31_spec a b k k2 f w u o p ho, ?_⟩)
  refine (Tri.drw hT hm 27 (by kernel_rfl) ?_)
  refine ⟨by kernel_rfl, ?_⟩
  exact ⟨rfl, rfl, trivial⟩
set_option maxRecDepth 16000 in
theorem f23_n2 (st : Int) (h g : Hf) (a b k f w u : Int) (k2 : Int) (o : List optT.D) (p : List UInt8) (ho : o.length < 9223372036854775807) :
    HSpec P G 23 [.loc 0 0, .int .i64 2, tcpV a b k k2 f w u o p] (cnN st h g) (.tup []) (cnN st h (begH g k o)) := by
  refine fspec_intro hT (cnN st h g) (cnN st h (begH g k o)) 1 1 Tryd.func23 (by decide) rfl rfl (by kernel_rfl) rfl rfl ?_
  refine Tri.seq (Tri.reg hT ?_)
  refine Tri.seq (Tri.reg hT ?_)
  refine ⟨(by first | ((try simp only [decide_eq_true_eq, decide_eq_false_iff_not, toNat_cast] at *); omega) | decide), ?_⟩
  refine Tri.seq (Tri.reg hT ?_)
  refine .inl (.inl ⟨_, fun _ => rfl, f31_spec a b k k2 f w u o p ho, ?_⟩)
  refine (Tri.drw hT hm 27 (by kernel_rfl) ?_)
  refine ⟨by kernel_rfl, ?_⟩
  exact ⟨rfl, rfl, trivial⟩
set_option maxRecDepth 16000 in
theorem f23_h1 (st : Int) (h g : Hf) (s t : SS) (a b k f w u : Int) (k2 : Int) (o : List optT.D) (p : List UInt8) (ho : o.length < 9223372036854775807) :
    HSpec P G 23 [.loc 0 0, .int .i64 1, tcpV a b k k2 f w u o p] (cnH st h g s t) (.tup []) ([(0, .box (cnC st (begH h k o) g .nilp (.loc 2 0))), (1, .box (bxS s)), (2, .box (bxS t))]) := by
  refine fspec_intro hT (cnH st h g s t) ([(0, .box (cnC st (begH h k o) g .nilp (.loc 2 0))), (1, .box (bxS s)), (2, .box (bxS t))]) 3 3 Tryd.func23 (by decide) rfl rfl (by kernel_rfl) rfl rfl ?_
  refine Tri.seq (Tri.reg hT ?_)
  refine Tri.seq (Tri.reg hT ?_)
  refine ⟨(by first | ((try simp only [decide_eq_true_eq, decide_eq_false_iff_not, toNat_cast] at *); omega) | decide), ?_⟩
  refine Tri.seq (Tri.reg hT ?_)
  refine .inl (.inl ⟨_, fun _ => rfl, f31_spec a b k k2 f w u o p ho, ?_⟩)
  refine (Tri.drw hT hm 27 (by kernel_rfl) ?_)
  refine ⟨by kernel_rfl, ?_⟩
  exact ⟨rfl, rfl, rfl, rfl, trivial⟩
end Go.Proofs.YtchiagnggnblaaaDoor.Ac
