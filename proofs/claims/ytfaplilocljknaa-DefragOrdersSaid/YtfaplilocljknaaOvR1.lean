import Derived.Test.YtfaplilocljknaaOvB
set_option linter.all false
namespace Go.Proofs.Ytfaplilocljknaa.Fx
open Go Go.Fw Go.Ov
def cellsTo (l:List Pc) (i k:Nat):List Cl:=cells (l.take i) ++ mkC (pf (l.getD i (Ty.dflt pT))) (pt (l.getD i (Ty.dflt pT))) (pa (l.getD i (Ty.dflt pT))) ((bytesOf (pd (l.getD i (Ty.dflt pT)))).take k)
end Go.Proofs.Ytfaplilocljknaa.Fx
