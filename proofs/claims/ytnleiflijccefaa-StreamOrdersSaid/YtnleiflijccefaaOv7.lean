/- Plain words of chapter 15: sizes of what Insert returns; tests of the statements. -/
import Derived.Test.YtnleiflijccefaaOv6
set_option linter.all false
set_option linter.unusedVariables false
set_option linter.unusedSimpArgs false
namespace Go.Ov
open Go Go.Fw
theorem insR_len (l : List Pc) (p : Pc) (pol : Int) : (insR l p pol).1.length ≤ max l.length 64 := by
  unfold insR
  split
  · show l.length ≤ _; omega
  · split
    · show 0 ≤ _; omega
    · simp only
      split
      · split
        · show l.length ≤ _; omega
        · show 0 ≤ _; omega
      · split
        · show 0 ≤ _; omega
        · rename_i h; show (insAll _ _ _).out.length ≤ _; omega
theorem few_of {l : List Pc} {many most : Nat} (h : fewR l many most = true) : l.length ≤ many ∧ lenSum l ≤ most ∧ (cells l).length ≤ most := by
  simp only [fewR, Bool.and_eq_true, decide_eq_true_eq] at h
  have := cells_len l
  omega
theorem ngd {b : Bool} (h : gd (!b) false = true) : b = true := by cases b <;> simp_all [gd]
theorem takeF_len {l : List Pc} (a : Int) : ((takeF l a).1.length : Int) ≤ lenSum l := by
  have := take_len a l ([], a)
  simpa [takeF] using this
theorem cutL_len (l : List Pc) (a : Int) : (cutL l a).length ≤ l.length := List.length_filterMap_le _ _
end Go.Ov
