import Derived.Test.YtfaplilocljknaaOvR2
import Derived.Test.YtfaplilocljknaaGOv2
set_option linter.all false
namespace Go.Proofs.Ytfaplilocljknaa.Fx
open Go Go.Fw Go.Ov
end Go.Proofs.Ytfaplilocljknaa.Fx
