/-
  No cell of these rows narrows 'for every input' (looked for: loops, veiled, ifaces, maps, wideKeys, modest, calm, conditions, laid).
  DERIVED. THE GIVEN ROWS OF THIS SEAT. 4 by the template 'for every input the law returns true; each argument reads behind the call as it read before'; 0 by the template 'total and deterministic' (their statements: YtfaplilocljknaaTotals.lean).
  GIVEN WITH THE SEED: the statements are not yours to turn. If you find one false, say at which input.
  Laid BY PROGRAM, IN A SANDBOX (cutbox-rows.mjs): the forced cells as the released guide's own fill.sh prints them over the translation 5d097a17c6d3102f… (all of the seat's roots in one cut). By AI agents, Wed Nov 11 2026. No macro, syntax, notation, axiom, sorry.
-/
import Derived.Test.YtfaplilocljknaaChecked
import GoSem.Claim
import GoSem.ClaimJoined
import GoSem.ClaimMapViews
import Derived.JoinedTies
import Derived.KernelRfl
namespace Go.Proofs.Ytfaplilocljknaa
/- THE CELL 'sum', in the pinned program and in every row, IS THE sha256 OF THE DUMP (.gsa) THAT YtfaplilocljknaaProg.lean LOADS. Nothing in Lean hashes anything: it is a label: what it is worth is what the hold of that sum in a sandbox is worth. -/
noncomputable def Try.pinned : Pinned := { name := "ytfaplilocljknaa", sum := "5d097a17c6d3102f980b101d4a392f19f965db99434de25ad9f42b36f618672e", checked := Try.checked }
namespace Rows
def none {H : Type} : Left H := { results := [], args := [] }

/-- 'intrusionlaw16.DefragOrders': WHATEVER THE INPUT: true; the input reads as it did. -/
def defragOrdersSpec : ChangeSpec := { name := "defragOrders", fn := fun _ => fun
  | [d1, d2, d3] => { results := [.lit (.bool true)], args := [d1, d2, d3] }
  | _ => none }
def defragOrdersRow : OpenClaim := { program := "ytfaplilocljknaa", sum := "5d097a17c6d3102f980b101d4a392f19f965db99434de25ad9f42b36f618672e", func := "intrusion/intrusionlaw16.DefragOrders", spec := "defragOrders", plainKeys := false, apart := false }
def DefragOrdersSaid : Prop := defragOrdersRow.holds Try.pinned (OpenSpec.ofChange defragOrdersSpec)

/-- ITS FALSE NEIGHBOUR: 'it returns false'. Refute it at one input. -/
def defragOrdersWrong : ChangeSpec := { name := "defragOrders", fn := fun _ => fun
  | [d1, d2, d3] => { results := [.lit (.bool false)], args := [d1, d2, d3] }
  | _ => none }
def DefragOrdersWrongFalsely : Prop := defragOrdersRow.holds Try.pinned (OpenSpec.ofChange defragOrdersWrong)

/-- 'intrusionlaw16.DefragPlays': WHATEVER THE INPUT: true; the input reads as it did. -/
def defragPlaysSpec : ChangeSpec := { name := "defragPlays", fn := fun _ => fun
  | [d1, d2] => { results := [.lit (.bool true)], args := [d1, d2] }
  | _ => none }
def defragPlaysRow : OpenClaim := { program := "ytfaplilocljknaa", sum := "5d097a17c6d3102f980b101d4a392f19f965db99434de25ad9f42b36f618672e", func := "intrusion/intrusionlaw16.DefragPlays", spec := "defragPlays", plainKeys := false, apart := false }
def DefragPlaysSaid : Prop := defragPlaysRow.holds Try.pinned (OpenSpec.ofChange defragPlaysSpec)

/-- ITS FALSE NEIGHBOUR: 'it returns false'. Refute it at one input. -/
def defragPlaysWrong : ChangeSpec := { name := "defragPlays", fn := fun _ => fun
  | [d1, d2] => { results := [.lit (.bool false)], args := [d1, d2] }
  | _ => none }
def DefragPlaysWrongFalsely : Prop := defragPlaysRow.holds Try.pinned (OpenSpec.ofChange defragPlaysWrong)

/-- 'intrusionlaw16.DefragBounds': WHATEVER THE INPUT: true; the input reads as it did. -/
def defragBoundsSpec : ChangeSpec := { name := "defragBounds", fn := fun _ => fun
  | [d1, d2] => { results := [.lit (.bool true)], args := [d1, d2] }
  | _ => none }
def defragBoundsRow : OpenClaim := { program := "ytfaplilocljknaa", sum := "5d097a17c6d3102f980b101d4a392f19f965db99434de25ad9f42b36f618672e", func := "intrusion/intrusionlaw16.DefragBounds", spec := "defragBounds", plainKeys := false, apart := false }
def DefragBoundsSaid : Prop := defragBoundsRow.holds Try.pinned (OpenSpec.ofChange defragBoundsSpec)

/-- ITS FALSE NEIGHBOUR: 'it returns false'. Refute it at one input. -/
def defragBoundsWrong : ChangeSpec := { name := "defragBounds", fn := fun _ => fun
  | [d1, d2] => { results := [.lit (.bool false)], args := [d1, d2] }
  | _ => none }
def DefragBoundsWrongFalsely : Prop := defragBoundsRow.holds Try.pinned (OpenSpec.ofChange defragBoundsWrong)

/-- 'intrusiontop.TopFragments': WHATEVER THE INPUT: true; the input reads as it did. -/
def topFragmentsSpec : ChangeSpec := { name := "topFragments", fn := fun _ => fun
  | [d1, d2, d3] => { results := [.lit (.bool true)], args := [d1, d2, d3] }
  | _ => none }
def topFragmentsRow : OpenClaim := { program := "ytfaplilocljknaa", sum := "5d097a17c6d3102f980b101d4a392f19f965db99434de25ad9f42b36f618672e", func := "intrusion/intrusiontop.TopFragments", spec := "topFragments", inPlace := ["internal/abi.NoEscape"], unfollowed := true, recurses := true, plainKeys := false, apart := false }
def TopFragmentsSaid : Prop := topFragmentsRow.holds Try.pinned (OpenSpec.ofChange topFragmentsSpec)

/-- ITS FALSE NEIGHBOUR: 'it returns false'. Refute it at one input. -/
def topFragmentsWrong : ChangeSpec := { name := "topFragments", fn := fun _ => fun
  | [d1, d2, d3] => { results := [.lit (.bool false)], args := [d1, d2, d3] }
  | _ => none }
def TopFragmentsWrongFalsely : Prop := topFragmentsRow.holds Try.pinned (OpenSpec.ofChange topFragmentsWrong)

/- THE SECOND FORM. 'bulk': how many values and letters a reading holds, each counted each time it is reached (what is shared counts as often as it is met; a slice's spare places count too). A statement '..UptoSaid' is the law's where the arguments, and the package variables that the reading takes, are together of bulk at most 1048576: NARROWER than '..Said'. Prove '..Said' where nothing that the law and all that it calls make is longer than what came in: it says more and counts as full. Else prove '..UptoSaid'. A law counts once. -/
mutual
def uptoBulk {H : Type} : DataW H → Nat
  | .lit (.string bytes) => bytes.length + 1
  | .lit _ => 1
  | .nil => 1
  | .ptr d => uptoBulk d + 1
  | .slice elems spare => uptoBulkAll elems + uptoBulkAll spare + 1
  | .agg parts => uptoBulkAll parts + 1
  | .iface _ d => uptoBulk d + 1
  | .map entries => uptoBulkEntries entries + 1
  | .held _ => 1
def uptoBulkAll {H : Type} : List (DataW H) → Nat
  | [] => 0
  | d :: r => uptoBulk d + uptoBulkAll r
def uptoBulkEntries {H : Type} : List (Lit × DataW H) → Nat
  | [] => 0
  | x :: r => uptoBulkEntry x + uptoBulkEntries r
def uptoBulkEntry {H : Type} : Lit × DataW H → Nat
  | (.string bytes, d) => bytes.length + uptoBulk d + 1
  | (_, d) => uptoBulk d + 1
 end
def uptoSmall : (H : Type) → List (DataW H) → Bool := fun _ ds => decide (uptoBulkAll ds ≤ 1048576)
def OpenSpec.upto (s : _root_.Go.ChangeSpec) : _root_.Go.OpenSpec := { _root_.Go.OpenSpec.ofChange s with cond := some uptoSmall }

/-- 'intrusionlaw16.DefragOrders', WHERE WHAT IT READS IS OF BULK AT MOST 1048576: true; the input reads as it did. -/
def defragOrdersUptoRow : OpenClaim := { program := "ytfaplilocljknaa", sum := "5d097a17c6d3102f980b101d4a392f19f965db99434de25ad9f42b36f618672e", func := "intrusion/intrusionlaw16.DefragOrders", spec := "defragOrders", plainKeys := false, apart := false, narrowed := true }
def DefragOrdersUptoSaid : Prop := defragOrdersUptoRow.holds Try.pinned (OpenSpec.upto defragOrdersSpec)

/-- 'intrusionlaw16.DefragPlays', WHERE WHAT IT READS IS OF BULK AT MOST 1048576: true; the input reads as it did. -/
def defragPlaysUptoRow : OpenClaim := { program := "ytfaplilocljknaa", sum := "5d097a17c6d3102f980b101d4a392f19f965db99434de25ad9f42b36f618672e", func := "intrusion/intrusionlaw16.DefragPlays", spec := "defragPlays", plainKeys := false, apart := false, narrowed := true }
def DefragPlaysUptoSaid : Prop := defragPlaysUptoRow.holds Try.pinned (OpenSpec.upto defragPlaysSpec)

/-- 'intrusionlaw16.DefragBounds', WHERE WHAT IT READS IS OF BULK AT MOST 1048576: true; the input reads as it did. -/
def defragBoundsUptoRow : OpenClaim := { program := "ytfaplilocljknaa", sum := "5d097a17c6d3102f980b101d4a392f19f965db99434de25ad9f42b36f618672e", func := "intrusion/intrusionlaw16.DefragBounds", spec := "defragBounds", plainKeys := false, apart := false, narrowed := true }
def DefragBoundsUptoSaid : Prop := defragBoundsUptoRow.holds Try.pinned (OpenSpec.upto defragBoundsSpec)

/-- 'intrusiontop.TopFragments', WHERE WHAT IT READS IS OF BULK AT MOST 1048576: true; the input reads as it did. -/
def topFragmentsUptoRow : OpenClaim := { program := "ytfaplilocljknaa", sum := "5d097a17c6d3102f980b101d4a392f19f965db99434de25ad9f42b36f618672e", func := "intrusion/intrusiontop.TopFragments", spec := "topFragments", inPlace := ["internal/abi.NoEscape"], unfollowed := true, recurses := true, plainKeys := false, apart := false, narrowed := true }
def TopFragmentsUptoSaid : Prop := topFragmentsUptoRow.holds Try.pinned (OpenSpec.upto topFragmentsSpec)

end Rows
end Go.Proofs.Ytfaplilocljknaa
