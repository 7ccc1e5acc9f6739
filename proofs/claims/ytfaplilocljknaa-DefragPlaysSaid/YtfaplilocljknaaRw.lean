import Derived.Test.YtfaplilocljknaaFxT
import Derived.Test.YtfaplilocljknaaRows
import Derived.LaidLaws
import Derived.Handed
import Derived.ProofKit
set_option linter.all false
namespace Go.Proofs.Ytfaplilocljknaa.Fx
open Go Go.Fw Go.ChangeShapes Go.WideShapes Go.ChangeAt Go.RowKit
theorem own:ownKnob Try.prog.godebug = none:=by kernel_rfl
theorem laidOut:laidOutB Try.prog = true:=by kernel_rfl
end Go.Proofs.Ytfaplilocljknaa.Fx
