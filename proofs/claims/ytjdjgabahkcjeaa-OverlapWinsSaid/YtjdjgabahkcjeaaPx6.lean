-- Written by a program of the proof's own workplace (gprint.py over the kit's print): a function and its contract.
-- SQUEEZED
import Derived.Test.YtjdjgabahkcjeaaPx6r0
import Derived.Test.YtjdjgabahkcjeaaPx6r1
import Derived.Test.YtjdjgabahkcjeaaPx6r2
namespace Go.Proofs.Ytjdjgabahkcjeaa.P
open Go.RowKit Go.Proofs.YtjdjgabahkcjeaaW.PrintWords Go.Proofs.YtjdjgabahkcjeaaW.PrintLast Go.Proofs.YtjdjgabahkcjeaaW.PrintMore
attribute [local go_sem] max2_int min2_int max_two min_two max_three min_three max_four min_four   -- for this text's walks alone
set_option linter.unusedVariables false
set_option linter.unusedSimpArgs false
theorem overlap_Insert.calls (k : Nat) (A0 : Option Addr) (c0 : Nat) (l0 : List (S23)) (a1_0 : Int) (a1_1 : ByteArray) (a1_2 : Int) (a1_3 : Int) (a2 : Int) (r1 : List (S23)) (r2 : Int) (r3 : Int) (w : World) (hr0 : Kd.C k23 w A0 l0.length l0) (hc0 : l0.length≤c0) (h : overlap_Insert.f k l0 a1_0 a1_1 a1_2 a1_3 a2 = some (r1,r2,r3)) :
  Calls Try.prog 15 #[.slice A0 l0.length c0,.agg #[.int .i64 a1_0,.string a1_1,.int .i64 a1_2,.int .i64 a1_3],.int .i64 a2] w fun e w'=>∃ v0_ : Value,e = .returned (.tuple #[v0_,.int .i64 r2,.int .i64 r3])∧Kd.R k23 23 w' w.heap.size (fun _=>True) v0_ r1∧Below w.heap.size w w':=
 overlap_Insert.callss.2 overlap_Insert.callsr0 overlap_Insert.callsr1 overlap_Insert.callsr2 k A0 c0 l0 a1_0 a1_1 a1_2 a1_3 a2 r1 r2 r3 w hr0 hc0 h
end Go.Proofs.Ytjdjgabahkcjeaa.P
