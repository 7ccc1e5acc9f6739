/-
  NARROWER THAN 'FOR EVERY INPUT', by the rows' own cells (each row's printed sentence says how): ConnectionDelivers: laid · ConnectionOffsets: laid · ConnectionRejects: laid · ConnectionShifts: laid.
  DERIVED. THE GIVEN ROWS OF THIS SEAT. 4 by the template 'for every input the law returns true; each argument reads behind the call as it read before'; 0 by the template 'total and deterministic' (their statements: YtchiagnggnblaaaDoorTotals.lean).
  GIVEN WITH THE SEED: the statements are not yours to turn. If you find one false, say at which input.
  Laid BY PROGRAM, IN A SANDBOX (cutbox-rows.mjs): the forced cells as the released guide's own fill.sh prints them over the translation ed9c158640bb5286… (all of the seat's roots in one cut). By AI agents, Wed Nov 11 2026. No macro, syntax, notation, axiom, sorry.
-/
import Derived.Test.YtchiagnggnblaaaDoorChecked
import GoSem.Claim
import GoSem.ClaimJoined
import GoSem.ClaimMapViews
import Derived.JoinedTies
import Derived.KernelRfl
namespace Go.Proofs.YtchiagnggnblaaaDoor
/- THE CELL 'sum', in the pinned program and in every row, IS THE sha256 OF THE DUMP (.gsa) THAT YtchiagnggnblaaaDoorProg.lean LOADS. Nothing in Lean hashes anything: it is a label: what it is worth is what the hold of that sum in a sandbox is worth. -/
noncomputable def Tryd.pinned : Pinned := { name := "ytchiagnggnblaaadoor", sum := "ed9c158640bb5286805e216f498714476d0ea38a13e31c9037076f6a807eba16", checked := Tryd.checked }
namespace Rows
def none {H : Type} : Left H := { results := [], args := [] }

/- WHAT THE LISTED PACKAGE-LEVEL VARIABLES READ AS WHEN THE CALL BEGINS. Each datum BY PROGRAM (the guide's laid-datum.mjs) off the statement by which the dump's own 'gosem.cut.vars' lays the variable. In a bare row this is a premise. The card (YtchiagnggnblaaaDoorCards.lean) ties it to the program's text. -/
def laid_intrusion_accept_impossible {H : Type} : DataW H := .slice [.lit (.int .i64 3), .lit (.int .i64 6)] []

/-- 'intrusionlaw21.ConnectionDelivers': WHATEVER THE INPUT: true; the input reads as it did. -/
def connectionDeliversSpec : ChangeSpec := { name := "connectionDelivers", fn := fun _ => fun
  | [d1, d2, d3] => { results := [.lit (.bool true)], args := [d1, d2, d3] }
  | _ => none }
def connectionDeliversRow : OpenClaim := { program := "ytchiagnggnblaaadoor", sum := "ed9c158640bb5286805e216f498714476d0ea38a13e31c9037076f6a807eba16", func := "intrusion/intrusionlaw21.ConnectionDelivers", spec := "connectionDelivers", unfollowed := true, recurses := true, named := ["intrusion/accept.impossible"], apart := false, laid := [("intrusion/accept.impossible", laid_intrusion_accept_impossible)] }
def ConnectionDeliversSaid : Prop := connectionDeliversRow.holds Tryd.pinned (OpenSpec.ofChange connectionDeliversSpec)

/-- ITS FALSE NEIGHBOUR: 'it returns false'. Refute it at one input. -/
def connectionDeliversWrong : ChangeSpec := { name := "connectionDelivers", fn := fun _ => fun
  | [d1, d2, d3] => { results := [.lit (.bool false)], args := [d1, d2, d3] }
  | _ => none }
def ConnectionDeliversWrongFalsely : Prop := connectionDeliversRow.holds Tryd.pinned (OpenSpec.ofChange connectionDeliversWrong)

/-- 'intrusionlaw21.ConnectionOffsets': WHATEVER THE INPUT: true; the input reads as it did. -/
def connectionOffsetsSpec : ChangeSpec := { name := "connectionOffsets", fn := fun _ => fun
  | [d1, d2, d3] => { results := [.lit (.bool true)], args := [d1, d2, d3] }
  | _ => none }
def connectionOffsetsRow : OpenClaim := { program := "ytchiagnggnblaaadoor", sum := "ed9c158640bb5286805e216f498714476d0ea38a13e31c9037076f6a807eba16", func := "intrusion/intrusionlaw21.ConnectionOffsets", spec := "connectionOffsets", unfollowed := true, recurses := true, named := ["intrusion/accept.impossible"], apart := false, laid := [("intrusion/accept.impossible", laid_intrusion_accept_impossible)] }
def ConnectionOffsetsSaid : Prop := connectionOffsetsRow.holds Tryd.pinned (OpenSpec.ofChange connectionOffsetsSpec)

/-- ITS FALSE NEIGHBOUR: 'it returns false'. Refute it at one input. -/
def connectionOffsetsWrong : ChangeSpec := { name := "connectionOffsets", fn := fun _ => fun
  | [d1, d2, d3] => { results := [.lit (.bool false)], args := [d1, d2, d3] }
  | _ => none }
def ConnectionOffsetsWrongFalsely : Prop := connectionOffsetsRow.holds Tryd.pinned (OpenSpec.ofChange connectionOffsetsWrong)

/-- 'intrusionlaw21.ConnectionRejects': WHATEVER THE INPUT: true; the input reads as it did. -/
def connectionRejectsSpec : ChangeSpec := { name := "connectionRejects", fn := fun _ => fun
  | [d1, d2, d3] => { results := [.lit (.bool true)], args := [d1, d2, d3] }
  | _ => none }
def connectionRejectsRow : OpenClaim := { program := "ytchiagnggnblaaadoor", sum := "ed9c158640bb5286805e216f498714476d0ea38a13e31c9037076f6a807eba16", func := "intrusion/intrusionlaw21.ConnectionRejects", spec := "connectionRejects", unfollowed := true, recurses := true, named := ["intrusion/accept.impossible"], apart := false, laid := [("intrusion/accept.impossible", laid_intrusion_accept_impossible)] }
def ConnectionRejectsSaid : Prop := connectionRejectsRow.holds Tryd.pinned (OpenSpec.ofChange connectionRejectsSpec)

/-- ITS FALSE NEIGHBOUR: 'it returns false'. Refute it at one input. -/
def connectionRejectsWrong : ChangeSpec := { name := "connectionRejects", fn := fun _ => fun
  | [d1, d2, d3] => { results := [.lit (.bool false)], args := [d1, d2, d3] }
  | _ => none }
def ConnectionRejectsWrongFalsely : Prop := connectionRejectsRow.holds Tryd.pinned (OpenSpec.ofChange connectionRejectsWrong)

/-- 'intrusionlaw21.ConnectionShifts': WHATEVER THE INPUT: true; the input reads as it did. -/
def connectionShiftsSpec : ChangeSpec := { name := "connectionShifts", fn := fun _ => fun
  | [d1, d2, d3] => { results := [.lit (.bool true)], args := [d1, d2, d3] }
  | _ => none }
def connectionShiftsRow : OpenClaim := { program := "ytchiagnggnblaaadoor", sum := "ed9c158640bb5286805e216f498714476d0ea38a13e31c9037076f6a807eba16", func := "intrusion/intrusionlaw21.ConnectionShifts", spec := "connectionShifts", unfollowed := true, recurses := true, named := ["intrusion/accept.impossible"], apart := false, laid := [("intrusion/accept.impossible", laid_intrusion_accept_impossible)] }
def ConnectionShiftsSaid : Prop := connectionShiftsRow.holds Tryd.pinned (OpenSpec.ofChange connectionShiftsSpec)

/-- ITS FALSE NEIGHBOUR: 'it returns false'. Refute it at one input. -/
def connectionShiftsWrong : ChangeSpec := { name := "connectionShifts", fn := fun _ => fun
  | [d1, d2, d3] => { results := [.lit (.bool false)], args := [d1, d2, d3] }
  | _ => none }
def ConnectionShiftsWrongFalsely : Prop := connectionShiftsRow.holds Tryd.pinned (OpenSpec.ofChange connectionShiftsWrong)

/- THE SECOND FORM. 'bulk': how many values and letters a reading holds, each counted each time it is reached (what is shared counts as often as it is met; a slice's spare places count too). A statement '..UptoSaid' is the law's where the arguments, and the package variables that the reading takes, are together of bulk at most 1048576: NARROWER than '..Said'. Prove '..Said' where nothing that the law and all that it calls make is longer than what came in: it says more and counts as full. Else prove '..UptoSaid'. A law counts once. -/
mutual
def uptoBulk {H : Type} : DataW H → Nat
  | .lit (.string bytes) => bytes.length + 1
  | .lit _ => 1
  | .nil => 1
  | .ptr d => uptoBulk d + 1
  | .slice elems spare => uptoBulkAll elems + uptoBulkAll spare + 1
  | .agg parts => uptoBulkAll parts + 1
  | .iface _ d => uptoBulk d + 1
  | .map entries => uptoBulkEntries entries + 1
  | .held _ => 1
def uptoBulkAll {H : Type} : List (DataW H) → Nat
  | [] => 0
  | d :: r => uptoBulk d + uptoBulkAll r
def uptoBulkEntries {H : Type} : List (Lit × DataW H) → Nat
  | [] => 0
  | x :: r => uptoBulkEntry x + uptoBulkEntries r
def uptoBulkEntry {H : Type} : Lit × DataW H → Nat
  | (.string bytes, d) => bytes.length + uptoBulk d + 1
  | (_, d) => uptoBulk d + 1
 end
def uptoSmall : (H : Type) → List (DataW H) → Bool := fun _ ds => decide (uptoBulkAll ds ≤ 1048576)
def OpenSpec.upto (s : _root_.Go.ChangeSpec) : _root_.Go.OpenSpec := { _root_.Go.OpenSpec.ofChange s with cond := some uptoSmall }

/-- 'intrusionlaw21.ConnectionDelivers', WHERE WHAT IT READS IS OF BULK AT MOST 1048576: true; the input reads as it did. -/
def connectionDeliversUptoRow : OpenClaim := { program := "ytchiagnggnblaaadoor", sum := "ed9c158640bb5286805e216f498714476d0ea38a13e31c9037076f6a807eba16", func := "intrusion/intrusionlaw21.ConnectionDelivers", spec := "connectionDelivers", unfollowed := true, recurses := true, named := ["intrusion/accept.impossible"], apart := false, laid := [("intrusion/accept.impossible", laid_intrusion_accept_impossible)], narrowed := true }
def ConnectionDeliversUptoSaid : Prop := connectionDeliversUptoRow.holds Tryd.pinned (OpenSpec.upto connectionDeliversSpec)

/-- 'intrusionlaw21.ConnectionOffsets', WHERE WHAT IT READS IS OF BULK AT MOST 1048576: true; the input reads as it did. -/
def connectionOffsetsUptoRow : OpenClaim := { program := "ytchiagnggnblaaadoor", sum := "ed9c158640bb5286805e216f498714476d0ea38a13e31c9037076f6a807eba16", func := "intrusion/intrusionlaw21.ConnectionOffsets", spec := "connectionOffsets", unfollowed := true, recurses := true, named := ["intrusion/accept.impossible"], apart := false, laid := [("intrusion/accept.impossible", laid_intrusion_accept_impossible)], narrowed := true }
def ConnectionOffsetsUptoSaid : Prop := connectionOffsetsUptoRow.holds Tryd.pinned (OpenSpec.upto connectionOffsetsSpec)

/-- 'intrusionlaw21.ConnectionRejects', WHERE WHAT IT READS IS OF BULK AT MOST 1048576: true; the input reads as it did. -/
def connectionRejectsUptoRow : OpenClaim := { program := "ytchiagnggnblaaadoor", sum := "ed9c158640bb5286805e216f498714476d0ea38a13e31c9037076f6a807eba16", func := "intrusion/intrusionlaw21.ConnectionRejects", spec := "connectionRejects", unfollowed := true, recurses := true, named := ["intrusion/accept.impossible"], apart := false, laid := [("intrusion/accept.impossible", laid_intrusion_accept_impossible)], narrowed := true }
def ConnectionRejectsUptoSaid : Prop := connectionRejectsUptoRow.holds Tryd.pinned (OpenSpec.upto connectionRejectsSpec)

/-- 'intrusionlaw21.ConnectionShifts', WHERE WHAT IT READS IS OF BULK AT MOST 1048576: true; the input reads as it did. -/
def connectionShiftsUptoRow : OpenClaim := { program := "ytchiagnggnblaaadoor", sum := "ed9c158640bb5286805e216f498714476d0ea38a13e31c9037076f6a807eba16", func := "intrusion/intrusionlaw21.ConnectionShifts", spec := "connectionShifts", unfollowed := true, recurses := true, named := ["intrusion/accept.impossible"], apart := false, laid := [("intrusion/accept.impossible", laid_intrusion_accept_impossible)], narrowed := true }
def ConnectionShiftsUptoSaid : Prop := connectionShiftsUptoRow.holds Tryd.pinned (OpenSpec.upto connectionShiftsSpec)

end Rows
end Go.Proofs.YtchiagnggnblaaaDoor
