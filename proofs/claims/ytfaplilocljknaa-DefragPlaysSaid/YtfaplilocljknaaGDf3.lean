import Derived.Test.YtfaplilocljknaaGDf2
set_option linter.all false
namespace Go.Df
open Go Go.Fw Go.Ov
abbrev aS:A:=(false,0,1,())
abbrev aD:A:=(false,0,2,())
abbrev kO:Ky:=(aS,aD,17,9,())
abbrev nO (D:List UInt8):Nat:=(D.length + 7) / 8
abbrev endO (D:List UInt8) (a:Nat):Nat:=min (8 * a + 8) D.length
abbrev oF (D:List UInt8) (a:Nat):Fg:=(aS,aD,17,9,5,8 * (a:Int),decide (a < nO D - 1),(D.take (endO D a)).drop (8 * a),())
structure SI (D:List UInt8) (m:List Bool) (d:En):Prop where
  g:Gr (ePcs d) D.length
  gone:eGone d = false
  beg:eBeg d = 0
  ttl:eTtl d = 5
  fin:eEnd d = if m.getD (nO D - 1) false then (D.length:Int) else -1
  cov:∀ k:Nat,k < D.length→(atC (cells (ePcs d)) (k:Int)).map (·.2.1) = if m.getD (k / 8) false then some (((D.getD k 0).toNat:Nat):Int) else none
structure Sz (D:List UInt8):Prop where
  lo:9≤D.length
  hi:D.length≤160
end Go.Df
namespace Go.Df
open Go Go.Fw Go.Ov
def AllO (D:List UInt8) (m:List Bool):Prop:=∀ k,k < nO D→m.getD k false = true
structure OI (D:List UInt8) (m:List Bool) (tb:Tb) (i:Nat):Prop where
  tmo:tb.timeout = 100
  conf:tb.conf = 0
  tim:tb.time≤i
  ent:(tb.l = []∧i = 0∧∀ k,m.getD k false = false)∨∃ e,tb.l = [(kO,e)]∧SI D m e
structure OStep (D:List UInt8) (m':List Bool) (r:Df.Rs × Tb) (i:Nat):Prop where
  all:AllO D m'→r.1 = okR aS aD 17 5 D∧r.2.l = []∧r.2.conf = 0
  some:¬ AllO D m'→r.1 = failR 0∧OI D m' r.2 (i + 1)
end Go.Df
namespace Go.Df
open Go Go.Fw Go.Ov
def atO (D:List UInt8) (o:List Int) (i:Nat):Nat:=if i < o.length then (o.getD i 0).toNat % nO D else i - o.length
def oMt (D:List UInt8) (o:List Int):Nat→List Bool
  | 0=>List.replicate 32 false
  | i + 1=>(oMt D o i).set (atO D o i) true
def oTb (D:List UInt8) (o:List Int) (pol:Int):Nat→Tb
  | 0=>⟨min (max 100 1) 1099511627776,0,0,0,[]⟩
  | i + 1=>(addT (oTb D o pol i) i (oF D (atO D o i)) pol).2
def leftO (D:List UInt8) (m:List Bool):Nat:=(List.range (nO D)).countP fun k=>!(m.getD k false)
end Go.Df
