import Derived.Test.YtfaplilocljknaaOvR3
set_option linter.all false
namespace Go.Proofs.Ytfaplilocljknaa.Fx
open Go Go.Fw Go.Ov
abbrev RS (l:List Pc) (p:Pc) (pol:Int) (k:Nat):St:=
 ⟨153,0,46,[(0,.list pT l),(2,.int .i64 pol),(4,.loc 0 0),(9,.list cT (cells l)),(10,.loc 39 0),(11,.int .i64 (covN l p k:Nat)),(12,.int .i64 (conN l p k:Nat)),(13,.list cT (mrg (cells l) pol (newP p) k)),(14,.int .i64 (k:Int))],
  [(0,.box [.int .i64 (pa p),.str (pd p),.int .i64 (pf p),.int .i64 (pt p)]),(39,.box [.int .i64 (pa p),.str (pd p),.int .i64 (pa p),.int .i64 (endP p)])],[]⟩
abbrev RM (l:List Pc) (p:Pc) (pol:Int) (k:Nat):St:=
 ⟨153,0,65,[(0,.list pT l),(2,.int .i64 pol),(4,.loc 0 0),(9,.list cT (cells l)),(10,.loc 39 0),(11,.int .i64 (covN l p (k + 1):Nat)),(12,.int .i64 (conN l p (k + 1):Nat)),(13,.list cT (mrg (cells l) pol (newP p) k)),(14,.int .i64 (k:Int)),(15,.loc 64 0),(16,.int .i64 (atI (cells l) (pa p + k) 0))],
  [(0,.box [.int .i64 (pa p),.str (pd p),.int .i64 (pf p),.int .i64 (pt p)]),(39,.box [.int .i64 (pa p),.str (pd p),.int .i64 (pa p),.int .i64 (endP p)]),(64,.box [.int .i64 (newC (newP p) (pa p + k)).1,.int .u8 (newC (newP p) (pa p + k)).2.1,.int .i64 (newC (newP p) (pa p + k)).2.2.1,.int .i64 (newC (newP p) (pa p + k)).2.2.2.1])],[]⟩
end Go.Proofs.Ytfaplilocljknaa.Fx
