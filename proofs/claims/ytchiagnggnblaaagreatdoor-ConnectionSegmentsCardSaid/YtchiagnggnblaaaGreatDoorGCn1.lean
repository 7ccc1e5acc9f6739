import Derived.Test.YtchiagnggnblaaaGreatDoorGFw11
import Derived.Test.YtchiagnggnblaaaGreatDoorGSt1
set_option linter.all false
namespace Go.Ov
open Go Go.Fw
abbrev svT:Ty:=.cons (.int .i64) (.cons (.int .i64) (.cons (.int .i64) .nil))
structure Hf where
  nm:List UInt8
  v6:Bool
  hi:Int
  lo:Int
  ln:Int
  pol:Int
  frag:Int
  hops:Int
  win:Int
  stamps:Bool
  val:Int
  sv:List svT.D
  isn:Int
  high:Int
  stamped:Bool
  stamp:Int
abbrev asA (h:Hf):List AV:=[.str h.nm,.bool h.v6,.int .u64 h.hi,.int .u64 h.lo,.int .i64 h.ln,.int .i64 h.pol,.int .i64 h.frag,.int .i64 h.hops,.int .i64 h.win,.bool h.stamps,.int .i64 h.val,.list svT h.sv]
abbrev cnC (st:Int) (h g:Hf) (s t:AV):List AV:=[.int .i64 st,.str [],.bool false,.int .u64 0,.int .u64 0,.int .i64 0,.int .i64 0,.int .i64 0,.int .i64 0,.int .i64 0,.bool false,.int .i64 0,.nils,.int .u32 0,.int .u32 0,.bool false,.int .u32 0,.nilp,
  .str h.nm,.bool h.v6,.int .u64 h.hi,.int .u64 h.lo,.int .i64 h.ln,.int .i64 h.pol,.int .i64 h.frag,.int .i64 h.hops,.int .i64 h.win,.bool h.stamps,.int .i64 h.val,.list svT h.sv,.int .u32 h.isn,.int .u32 h.high,.bool h.stamped,.int .u32 h.stamp,s,
  .str g.nm,.bool g.v6,.int .u64 g.hi,.int .u64 g.lo,.int .i64 g.ln,.int .i64 g.pol,.int .i64 g.frag,.int .i64 g.hops,.int .i64 g.win,.bool g.stamps,.int .i64 g.val,.list svT g.sv,.int .u32 g.isn,.int .u32 g.high,.bool g.stamped,.int .u32 g.stamp,t]
def Hf.fresh (h:Hf):Prop:=h.isn = 0∧h.high = 0∧h.stamped = false∧h.stamp = 0
abbrev evT:Ty:=.cons (.int .i64) (.cons (.int .i64) (.cons (.int .i64) (.cons (.int .i64) (.cons .str .nil))))
abbrev Evt:=Int × Int × Int × Int × List UInt8 × Unit
abbrev evA (k d o n:Int) (x:List UInt8):AV:=.agg [.int .i64 k,.int .i64 d,.int .i64 o,.int .i64 n,.str x]
end Go.Ov
