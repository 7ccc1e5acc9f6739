import Derived.Test.YtopnempdeopjfaaFxT
import Derived.Test.YtopnempdeopjfaaRows
import Derived.LaidLaws
import Derived.Handed
import Derived.ProofKit
set_option linter.all false
/- The rows: what the frame asks of the program. -/
namespace Go.Proofs.Ytopnempdeopjfaa.Fx
open Go Go.Fw Go.ChangeShapes Go.WideShapes Go.ChangeAt Go.RowKit
theorem own : ownKnob Try.prog.godebug = none := by kernel_rfl
theorem laidOut : laidOutB Try.prog = true := by kernel_rfl
theorem slen_of {t : Ty} {xs : List t.D} (h : Fw.Good (.list t) xs) : xs.length ≤ 140737488351232 := h.1
end Go.Proofs.Ytopnempdeopjfaa.Fx
