import Derived.Test.YtnleiflijccefaaEv1
set_option linter.all false
/- Plain words of chapter 24: the example of TopVariants. -/
namespace Go.Ov
open Go Go.Fw
def OkT (l : List Pc) (i : Nat) : Prop := pd (l.getD i (Ty.dflt pT)) ≠ [] ∧ (pd (l.getD i (Ty.dflt pT))).length ≤ 100 ∧ 0 ≤ pa (l.getD i (Ty.dflt pT)) ∧ pa (l.getD i (Ty.dflt pT)) ≤ 1000 ∧ (i = l.length - 1 ↔ pa (l.getD i (Ty.dflt pT)) = 0)
theorem lenSum_le {l : List Pc} (hv : Valid l) : lenSum l ≤ 4294967296 := by
  have h1 := cells_len l
  have h2 := cells_within (sorted_cells hv) 4294967296 0 (fun c hc => by have := cells_rng hv c hc; omega)
  omega
abbrev xT (isn : Int) : Stt := (isn, 8192, 2, ())
abbrev bT : Pc := (2, [98, 98, 98, 98], 0, 0, ())
abbrev aT : Pc := (0, [97, 97, 97, 97], 0, 0, ())
abbrev lT1 : List Pc := [(2, [98, 98, 98, 98], 2, 6, ())]
theorem seq3 (isn : Int) : seqO (xT isn) 2 = IntKind.u32.wrap (isn + 3) := by unfold seqO; simp only [wrap_u32]; omega
theorem seq1 (isn : Int) : seqO (xT isn) 0 = IntKind.u32.wrap (isn + 1) := by unfold seqO; simp only [wrap_u32]; omega
theorem top_a (isn : Int) : addS (sT (xT isn) []) (IntKind.u32.wrap (isn + 3)) [98, 98, 98, 98] = (([], 0, 0), sT (xT isn) lT1) ∧ TInv lT1 1 := by
  have := TInv.nil.next (x := xT isn) (by decide) (o := bT) (by decide) (by decide)
  rw [← seq3]
  exact this
theorem top_b (isn : Int) : ∃ s', addS (sT (xT isn) lT1) (IntKind.u32.wrap (isn + 1)) [97, 97, 97, 97] = (([97, 97, 97, 97, 98, 98], 0, 2), s') := by
  have := (top_a isn).2.add (x := xT isn) (by decide) (o := aT) (by decide) (by decide)
  rw [← seq1]
  exact ⟨_, this.1⟩
theorem top_v : varE [bT, aT] 2 = [97, 97, 97, 97, 98, 98] := by kernel_rfl
end Go.Ov

