import Derived.Test.YtfaplilocljknaaOvR1
import Derived.Test.YtfaplilocljknaaGOv1
set_option linter.all false
namespace Go.Proofs.Ytfaplilocljknaa.Fx
open Go Go.Fw Go.Ov
end Go.Proofs.Ytfaplilocljknaa.Fx
