-- Written by a program of the proof's own workplace (gprint.py over the kit's print): a function and its contract.
-- SQUEEZED
import Derived.Test.YtjdjgabahkcjeaaPx0
namespace Go.Proofs.Ytjdjgabahkcjeaa.P
open Go.RowKit Go.Proofs.YtjdjgabahkcjeaaW.PrintWords Go.Proofs.YtjdjgabahkcjeaaW.PrintLast Go.Proofs.YtjdjgabahkcjeaaW.PrintMore
attribute [local go_sem] max2_int min2_int max_two min_two max_three min_three max_four min_four   -- for this text's walks alone
set_option linter.unusedVariables false
set_option linter.unusedSimpArgs false

theorem eqA57 (d : Nat) (w : World) (x0 y0 : Int) (x1 y1 : Int) :
  (Op.equalIn (d + 2) 57 (.agg #[.int .i64 x0,.int .i64 x1]) (.agg #[.int .i64 y0,.int .i64 y1])).run Try.prog w = .ok (x0 == y0 && (x1 == y1)) w:=by
 obtain ⟨i_,hi_⟩:=Option.isSome_iff_exists.1 (show (Try.prog.info? 3).isSome = true by kernel_rfl);rw [run_equalIn_array w (d + 1) _ _ Try.underlying57 hi_,show Try.prog.cellsOf 3 = 1 by kernel_rfl];simp only [List.range,List.range.loop,Op.eqItems];go_simp;by_cases a0_ : x0 = y0 <;> by_cases a1_ : x1 = y1 <;> simp [a0_,a1_]
end Go.Proofs.Ytjdjgabahkcjeaa.P
