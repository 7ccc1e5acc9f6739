/- Plain words of chapter 20: the statements' example. -/
import Derived.Test.YtnleiflijccefaaSt4
set_option linter.all false
set_option linter.unusedVariables false
set_option linter.unusedSimpArgs false
namespace Go.Ov
open Go Go.Fw
abbrev wA0 : SS := ⟨[], 0, 101, 50, 1, -1⟩
abbrev wA1 : SS := ⟨[(2, [99], 2, 3, ())], 0, 101, 50, 1, -1⟩
abbrev wA2 : SS := ⟨[], 3, 101, 50, 1, -1⟩
abbrev wA3 : SS := ⟨[], 3, 101, 50, 1, 3⟩
abbrev wB1 : SS := ⟨[(2, [99, 100], 2, 4, ())], 0, 101, 50, 1, -1⟩
abbrev wB2 : SS := ⟨[], 4, 101, 50, 1, -1⟩
abbrev wU0 : SS := ⟨[], 0, 1, 100, 2, -1⟩
abbrev wU1 : SS := ⟨[(1, [98, 88], 1, 3, ())], 0, 1, 100, 2, -1⟩
abbrev wU2 : SS := ⟨[(1, [98], 1, 3, ()), (2, [99], 2, 3, ())], 0, 1, 100, 2, -1⟩
abbrev wU3 : SS := ⟨[], 3, 1, 100, 2, -1⟩
theorem aw0 : newS 100 50 1 = wA0 := by kernel_rfl
theorem awu0 : newS 0 100 2 = wU0 := by kernel_rfl
theorem awa1 : addS wA0 103 [99] = (([], 0, 0), wA1) := by kernel_rfl
theorem awa2 : addS wA1 101 [97, 98] = (([97, 98, 99], 0, 0), wA2) := by kernel_rfl
theorem awb1 : addS wA0 103 [99, 100] = (([], 0, 0), wB1) := by kernel_rfl
theorem awb2 : lostS wB1 105 = ((2, [99, 100]), wB2) := by kernel_rfl
theorem awu1 : addS wU0 2 [98, 88] = (([], 0, 0), wU1) := by kernel_rfl
theorem awu2 : addS wU1 3 [99] = (([], 0, 1), wU2) := by kernel_rfl
theorem awu3 : addS wU2 1 [97] = (([97, 98, 99], 0, 0), wU3) := by kernel_rfl
theorem awe : endS wA2 104 = (true, wA3) := by kernel_rfl
theorem wA0_inv : SInv wA0 8192 := aw0 ▸ (newS_inv 100 50 1).mono (by omega)
theorem wU0_inv : SInv wU0 8192 := awu0 ▸ (newS_inv 0 100 2).mono (by omega)
theorem wA1_inv : SInv wA1 16384 := by have := addS_inv wA0_inv 103 [99]; rw [awa1] at this; exact this
theorem wA2_inv : SInv wA2 24576 := by have := addS_inv wA1_inv 101 [97, 98]; rw [awa2] at this; exact this
theorem wB1_inv : SInv wB1 16384 := by have := addS_inv wA0_inv 103 [99, 100]; rw [awb1] at this; exact this
theorem wU1_inv : SInv wU1 16384 := by have := addS_inv wU0_inv 2 [98, 88]; rw [awu1] at this; exact this
theorem wU2_inv : SInv wU2 24576 := by have := addS_inv wU1_inv 3 [99]; rw [awu2] at this; exact this
end Go.Ov
