/-
  NARROWER THAN 'FOR EVERY INPUT', by the rows' own cells (each row's printed sentence says how): AcceptPackets: laid · AcceptExact: laid · AcceptWithin: laid · AcceptCounts: laid · AcceptShifts: laid.
  DERIVED. THE GIVEN ROWS OF THIS SEAT. 5 by the template 'for every input the law returns true; each argument reads behind the call as it read before'; 0 by the template 'total and deterministic' (their statements: YtfhadpmlbilebaaDoorTotals.lean).
  GIVEN WITH THE SEED: the statements are not yours to turn. If you find one false, say at which input.
  Laid BY PROGRAM, IN A SANDBOX (cutbox-rows.mjs): the forced cells as the released guide's own fill.sh prints them over the translation 8384846e43f88240… (all of the seat's roots in one cut). By AI agents, Wed Nov 11 2026. No macro, syntax, notation, axiom, sorry.
-/
import Derived.Test.YtfhadpmlbilebaaDoorChecked
import GoSem.Claim
import GoSem.ClaimJoined
import GoSem.ClaimMapViews
import Derived.JoinedTies
import Derived.KernelRfl
namespace Go.Proofs.YtfhadpmlbilebaaDoor
/- THE CELL 'sum', in the pinned program and in every row, IS THE sha256 OF THE DUMP (.gsa) THAT YtfhadpmlbilebaaDoorProg.lean LOADS. Nothing in Lean hashes anything: it is a label: what it is worth is what the hold of that sum in a sandbox is worth. -/
noncomputable def Tryd.pinned : Pinned := { name := "ytfhadpmlbilebaadoor", sum := "8384846e43f8824065fd606800f03b054ab92e83f8687455144488c28a009ca9", checked := Tryd.checked }
namespace Rows
def none {H : Type} : Left H := { results := [], args := [] }

/- WHAT THE LISTED PACKAGE-LEVEL VARIABLES READ AS WHEN THE CALL BEGINS. Each datum BY PROGRAM (the guide's laid-datum.mjs) off the statement by which the dump's own 'gosem.cut.vars' lays the variable. In a bare row this is a premise. The card (YtfhadpmlbilebaaDoorCards.lean) ties it to the program's text. -/
def laid_intrusion_accept_impossible {H : Type} : DataW H := .slice [.lit (.int .i64 3), .lit (.int .i64 6)] []

/-- 'intrusionlaw19.AcceptPackets': WHATEVER THE INPUT: true; the input reads as it did. -/
def acceptPacketsSpec : ChangeSpec := { name := "acceptPackets", fn := fun _ => fun
  | [d1, d2] => { results := [.lit (.bool true)], args := [d1, d2] }
  | _ => none }
def acceptPacketsRow : OpenClaim := { program := "ytfhadpmlbilebaadoor", sum := "8384846e43f8824065fd606800f03b054ab92e83f8687455144488c28a009ca9", func := "intrusion/intrusionlaw19.AcceptPackets", spec := "acceptPackets", named := ["intrusion/accept.impossible"], apart := false, laid := [("intrusion/accept.impossible", laid_intrusion_accept_impossible)] }
def AcceptPacketsSaid : Prop := acceptPacketsRow.holds Tryd.pinned (OpenSpec.ofChange acceptPacketsSpec)

/-- ITS FALSE NEIGHBOUR: 'it returns false'. Refute it at one input. -/
def acceptPacketsWrong : ChangeSpec := { name := "acceptPackets", fn := fun _ => fun
  | [d1, d2] => { results := [.lit (.bool false)], args := [d1, d2] }
  | _ => none }
def AcceptPacketsWrongFalsely : Prop := acceptPacketsRow.holds Tryd.pinned (OpenSpec.ofChange acceptPacketsWrong)

/-- 'intrusionlaw19.AcceptExact': WHATEVER THE INPUT: true; the input reads as it did. -/
def acceptExactSpec : ChangeSpec := { name := "acceptExact", fn := fun _ => fun
  | [d1, d2, d3] => { results := [.lit (.bool true)], args := [d1, d2, d3] }
  | _ => none }
def acceptExactRow : OpenClaim := { program := "ytfhadpmlbilebaadoor", sum := "8384846e43f8824065fd606800f03b054ab92e83f8687455144488c28a009ca9", func := "intrusion/intrusionlaw19.AcceptExact", spec := "acceptExact", named := ["intrusion/accept.impossible"], apart := false, laid := [("intrusion/accept.impossible", laid_intrusion_accept_impossible)] }
def AcceptExactSaid : Prop := acceptExactRow.holds Tryd.pinned (OpenSpec.ofChange acceptExactSpec)

/-- ITS FALSE NEIGHBOUR: 'it returns false'. Refute it at one input. -/
def acceptExactWrong : ChangeSpec := { name := "acceptExact", fn := fun _ => fun
  | [d1, d2, d3] => { results := [.lit (.bool false)], args := [d1, d2, d3] }
  | _ => none }
def AcceptExactWrongFalsely : Prop := acceptExactRow.holds Tryd.pinned (OpenSpec.ofChange acceptExactWrong)

/-- 'intrusionlaw19.AcceptWithin': WHATEVER THE INPUT: true; the input reads as it did. -/
def acceptWithinSpec : ChangeSpec := { name := "acceptWithin", fn := fun _ => fun
  | [d1, d2, d3] => { results := [.lit (.bool true)], args := [d1, d2, d3] }
  | _ => none }
def acceptWithinRow : OpenClaim := { program := "ytfhadpmlbilebaadoor", sum := "8384846e43f8824065fd606800f03b054ab92e83f8687455144488c28a009ca9", func := "intrusion/intrusionlaw19.AcceptWithin", spec := "acceptWithin", named := ["intrusion/accept.impossible"], apart := false, laid := [("intrusion/accept.impossible", laid_intrusion_accept_impossible)] }
def AcceptWithinSaid : Prop := acceptWithinRow.holds Tryd.pinned (OpenSpec.ofChange acceptWithinSpec)

/-- ITS FALSE NEIGHBOUR: 'it returns false'. Refute it at one input. -/
def acceptWithinWrong : ChangeSpec := { name := "acceptWithin", fn := fun _ => fun
  | [d1, d2, d3] => { results := [.lit (.bool false)], args := [d1, d2, d3] }
  | _ => none }
def AcceptWithinWrongFalsely : Prop := acceptWithinRow.holds Tryd.pinned (OpenSpec.ofChange acceptWithinWrong)

/-- 'intrusionlaw19.AcceptCounts': WHATEVER THE INPUT: true; the input reads as it did. -/
def acceptCountsSpec : ChangeSpec := { name := "acceptCounts", fn := fun _ => fun
  | [d1, d2, d3] => { results := [.lit (.bool true)], args := [d1, d2, d3] }
  | _ => none }
def acceptCountsRow : OpenClaim := { program := "ytfhadpmlbilebaadoor", sum := "8384846e43f8824065fd606800f03b054ab92e83f8687455144488c28a009ca9", func := "intrusion/intrusionlaw19.AcceptCounts", spec := "acceptCounts", named := ["intrusion/accept.impossible"], apart := false, laid := [("intrusion/accept.impossible", laid_intrusion_accept_impossible)] }
def AcceptCountsSaid : Prop := acceptCountsRow.holds Tryd.pinned (OpenSpec.ofChange acceptCountsSpec)

/-- ITS FALSE NEIGHBOUR: 'it returns false'. Refute it at one input. -/
def acceptCountsWrong : ChangeSpec := { name := "acceptCounts", fn := fun _ => fun
  | [d1, d2, d3] => { results := [.lit (.bool false)], args := [d1, d2, d3] }
  | _ => none }
def AcceptCountsWrongFalsely : Prop := acceptCountsRow.holds Tryd.pinned (OpenSpec.ofChange acceptCountsWrong)

/-- 'intrusionlaw19.AcceptShifts': WHATEVER THE INPUT: true; the input reads as it did. -/
def acceptShiftsSpec : ChangeSpec := { name := "acceptShifts", fn := fun _ => fun
  | [d1, d2, d3] => { results := [.lit (.bool true)], args := [d1, d2, d3] }
  | _ => none }
def acceptShiftsRow : OpenClaim := { program := "ytfhadpmlbilebaadoor", sum := "8384846e43f8824065fd606800f03b054ab92e83f8687455144488c28a009ca9", func := "intrusion/intrusionlaw19.AcceptShifts", spec := "acceptShifts", named := ["intrusion/accept.impossible"], apart := false, laid := [("intrusion/accept.impossible", laid_intrusion_accept_impossible)] }
def AcceptShiftsSaid : Prop := acceptShiftsRow.holds Tryd.pinned (OpenSpec.ofChange acceptShiftsSpec)

/-- ITS FALSE NEIGHBOUR: 'it returns false'. Refute it at one input. -/
def acceptShiftsWrong : ChangeSpec := { name := "acceptShifts", fn := fun _ => fun
  | [d1, d2, d3] => { results := [.lit (.bool false)], args := [d1, d2, d3] }
  | _ => none }
def AcceptShiftsWrongFalsely : Prop := acceptShiftsRow.holds Tryd.pinned (OpenSpec.ofChange acceptShiftsWrong)

/- THE SECOND FORM. 'bulk': how many values and letters a reading holds, each counted each time it is reached (what is shared counts as often as it is met; a slice's spare places count too). A statement '..UptoSaid' is the law's where the arguments, and the package variables that the reading takes, are together of bulk at most 1048576: NARROWER than '..Said'. Prove '..Said' where nothing that the law and all that it calls make is longer than what came in: it says more and counts as full. Else prove '..UptoSaid'. A law counts once. -/
mutual
def uptoBulk {H : Type} : DataW H → Nat
  | .lit (.string bytes) => bytes.length + 1
  | .lit _ => 1
  | .nil => 1
  | .ptr d => uptoBulk d + 1
  | .slice elems spare => uptoBulkAll elems + uptoBulkAll spare + 1
  | .agg parts => uptoBulkAll parts + 1
  | .iface _ d => uptoBulk d + 1
  | .map entries => uptoBulkEntries entries + 1
  | .held _ => 1
def uptoBulkAll {H : Type} : List (DataW H) → Nat
  | [] => 0
  | d :: r => uptoBulk d + uptoBulkAll r
def uptoBulkEntries {H : Type} : List (Lit × DataW H) → Nat
  | [] => 0
  | x :: r => uptoBulkEntry x + uptoBulkEntries r
def uptoBulkEntry {H : Type} : Lit × DataW H → Nat
  | (.string bytes, d) => bytes.length + uptoBulk d + 1
  | (_, d) => uptoBulk d + 1
 end
def uptoSmall : (H : Type) → List (DataW H) → Bool := fun _ ds => decide (uptoBulkAll ds ≤ 1048576)
def OpenSpec.upto (s : _root_.Go.ChangeSpec) : _root_.Go.OpenSpec := { _root_.Go.OpenSpec.ofChange s with cond := some uptoSmall }

/-- 'intrusionlaw19.AcceptPackets', WHERE WHAT IT READS IS OF BULK AT MOST 1048576: true; the input reads as it did. -/
def acceptPacketsUptoRow : OpenClaim := { program := "ytfhadpmlbilebaadoor", sum := "8384846e43f8824065fd606800f03b054ab92e83f8687455144488c28a009ca9", func := "intrusion/intrusionlaw19.AcceptPackets", spec := "acceptPackets", named := ["intrusion/accept.impossible"], apart := false, laid := [("intrusion/accept.impossible", laid_intrusion_accept_impossible)], narrowed := true }
def AcceptPacketsUptoSaid : Prop := acceptPacketsUptoRow.holds Tryd.pinned (OpenSpec.upto acceptPacketsSpec)

/-- 'intrusionlaw19.AcceptExact', WHERE WHAT IT READS IS OF BULK AT MOST 1048576: true; the input reads as it did. -/
def acceptExactUptoRow : OpenClaim := { program := "ytfhadpmlbilebaadoor", sum := "8384846e43f8824065fd606800f03b054ab92e83f8687455144488c28a009ca9", func := "intrusion/intrusionlaw19.AcceptExact", spec := "acceptExact", named := ["intrusion/accept.impossible"], apart := false, laid := [("intrusion/accept.impossible", laid_intrusion_accept_impossible)], narrowed := true }
def AcceptExactUptoSaid : Prop := acceptExactUptoRow.holds Tryd.pinned (OpenSpec.upto acceptExactSpec)

/-- 'intrusionlaw19.AcceptWithin', WHERE WHAT IT READS IS OF BULK AT MOST 1048576: true; the input reads as it did. -/
def acceptWithinUptoRow : OpenClaim := { program := "ytfhadpmlbilebaadoor", sum := "8384846e43f8824065fd606800f03b054ab92e83f8687455144488c28a009ca9", func := "intrusion/intrusionlaw19.AcceptWithin", spec := "acceptWithin", named := ["intrusion/accept.impossible"], apart := false, laid := [("intrusion/accept.impossible", laid_intrusion_accept_impossible)], narrowed := true }
def AcceptWithinUptoSaid : Prop := acceptWithinUptoRow.holds Tryd.pinned (OpenSpec.upto acceptWithinSpec)

/-- 'intrusionlaw19.AcceptCounts', WHERE WHAT IT READS IS OF BULK AT MOST 1048576: true; the input reads as it did. -/
def acceptCountsUptoRow : OpenClaim := { program := "ytfhadpmlbilebaadoor", sum := "8384846e43f8824065fd606800f03b054ab92e83f8687455144488c28a009ca9", func := "intrusion/intrusionlaw19.AcceptCounts", spec := "acceptCounts", named := ["intrusion/accept.impossible"], apart := false, laid := [("intrusion/accept.impossible", laid_intrusion_accept_impossible)], narrowed := true }
def AcceptCountsUptoSaid : Prop := acceptCountsUptoRow.holds Tryd.pinned (OpenSpec.upto acceptCountsSpec)

/-- 'intrusionlaw19.AcceptShifts', WHERE WHAT IT READS IS OF BULK AT MOST 1048576: true; the input reads as it did. -/
def acceptShiftsUptoRow : OpenClaim := { program := "ytfhadpmlbilebaadoor", sum := "8384846e43f8824065fd606800f03b054ab92e83f8687455144488c28a009ca9", func := "intrusion/intrusionlaw19.AcceptShifts", spec := "acceptShifts", named := ["intrusion/accept.impossible"], apart := false, laid := [("intrusion/accept.impossible", laid_intrusion_accept_impossible)], narrowed := true }
def AcceptShiftsUptoSaid : Prop := acceptShiftsUptoRow.holds Tryd.pinned (OpenSpec.upto acceptShiftsSpec)

end Rows
end Go.Proofs.YtfhadpmlbilebaaDoor
