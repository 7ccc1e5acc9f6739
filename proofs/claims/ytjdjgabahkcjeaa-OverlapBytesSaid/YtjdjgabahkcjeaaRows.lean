/-
  No cell of these rows narrows 'for every input' (looked for: loops, veiled, ifaces, maps, wideKeys, modest, calm, conditions, laid).
  DERIVED. THE GIVEN ROWS OF THIS SEAT. 7 by the template 'for every input the law returns true; each argument reads behind the call as it read before'; 0 by the template 'total and deterministic' (their statements: YtjdjgabahkcjeaaTotals.lean).
  GIVEN WITH THE SEED: the statements are not yours to turn. If you find one false, say at which input.
  Laid BY PROGRAM, IN A SANDBOX (cutbox-rows.mjs): the forced cells as the released guide's own fill.sh prints them over the translation 91b57322e9db59c0… (all of the seat's roots in one cut). By AI agents, Wed Nov 11 2026. No macro, syntax, notation, axiom, sorry.
-/
import Derived.Test.YtjdjgabahkcjeaaChecked
import GoSem.Claim
import GoSem.ClaimJoined
import GoSem.ClaimMapViews
import Derived.JoinedTies
import Derived.KernelRfl
namespace Go.Proofs.Ytjdjgabahkcjeaa
/- THE CELL 'sum', in the pinned program and in every row, IS THE sha256 OF THE DUMP (.gsa) THAT YtjdjgabahkcjeaaProg.lean LOADS. Nothing in Lean hashes anything: it is a label: what it is worth is what the hold of that sum in a sandbox is worth. -/
noncomputable def Try.pinned : Pinned := { name := "ytjdjgabahkcjeaa", sum := "91b57322e9db59c023317a568fafb5dce9b63e5737b51d2f108159ef9317c01e", checked := Try.checked }
namespace Rows
def none {H : Type} : Left H := { results := [], args := [] }

/-- 'intrusionlaw15.OverlapWins': WHATEVER THE INPUT: true; the input reads as it did. -/
def overlapWinsSpec : ChangeSpec := { name := "overlapWins", fn := fun _ => fun
  | [d1, d2, d3] => { results := [.lit (.bool true)], args := [d1, d2, d3] }
  | _ => none }
def overlapWinsRow : OpenClaim := { program := "ytjdjgabahkcjeaa", sum := "91b57322e9db59c023317a568fafb5dce9b63e5737b51d2f108159ef9317c01e", func := "intrusion/intrusionlaw15.OverlapWins", spec := "overlapWins", apart := false }
def OverlapWinsSaid : Prop := overlapWinsRow.holds Try.pinned (OpenSpec.ofChange overlapWinsSpec)

/-- ITS FALSE NEIGHBOUR: 'it returns false'. Refute it at one input. -/
def overlapWinsWrong : ChangeSpec := { name := "overlapWins", fn := fun _ => fun
  | [d1, d2, d3] => { results := [.lit (.bool false)], args := [d1, d2, d3] }
  | _ => none }
def OverlapWinsWrongFalsely : Prop := overlapWinsRow.holds Try.pinned (OpenSpec.ofChange overlapWinsWrong)

/-- 'intrusionlaw15.OverlapInserts': WHATEVER THE INPUT: true; the input reads as it did. -/
def overlapInsertsSpec : ChangeSpec := { name := "overlapInserts", fn := fun _ => fun
  | [d1, d2, d3] => { results := [.lit (.bool true)], args := [d1, d2, d3] }
  | _ => none }
def overlapInsertsRow : OpenClaim := { program := "ytjdjgabahkcjeaa", sum := "91b57322e9db59c023317a568fafb5dce9b63e5737b51d2f108159ef9317c01e", func := "intrusion/intrusionlaw15.OverlapInserts", spec := "overlapInserts", apart := false }
def OverlapInsertsSaid : Prop := overlapInsertsRow.holds Try.pinned (OpenSpec.ofChange overlapInsertsSpec)

/-- ITS FALSE NEIGHBOUR: 'it returns false'. Refute it at one input. -/
def overlapInsertsWrong : ChangeSpec := { name := "overlapInserts", fn := fun _ => fun
  | [d1, d2, d3] => { results := [.lit (.bool false)], args := [d1, d2, d3] }
  | _ => none }
def OverlapInsertsWrongFalsely : Prop := overlapInsertsRow.holds Try.pinned (OpenSpec.ofChange overlapInsertsWrong)

/-- 'intrusionlaw15.OverlapTakes': WHATEVER THE INPUT: true; the input reads as it did. -/
def overlapTakesSpec : ChangeSpec := { name := "overlapTakes", fn := fun _ => fun
  | [d1, d2] => { results := [.lit (.bool true)], args := [d1, d2] }
  | _ => none }
def overlapTakesRow : OpenClaim := { program := "ytjdjgabahkcjeaa", sum := "91b57322e9db59c023317a568fafb5dce9b63e5737b51d2f108159ef9317c01e", func := "intrusion/intrusionlaw15.OverlapTakes", spec := "overlapTakes", apart := false }
def OverlapTakesSaid : Prop := overlapTakesRow.holds Try.pinned (OpenSpec.ofChange overlapTakesSpec)

/-- ITS FALSE NEIGHBOUR: 'it returns false'. Refute it at one input. -/
def overlapTakesWrong : ChangeSpec := { name := "overlapTakes", fn := fun _ => fun
  | [d1, d2] => { results := [.lit (.bool false)], args := [d1, d2] }
  | _ => none }
def OverlapTakesWrongFalsely : Prop := overlapTakesRow.holds Try.pinned (OpenSpec.ofChange overlapTakesWrong)

/-- 'intrusionlaw15.OverlapBytes': WHATEVER THE INPUT: true; the input reads as it did. -/
def overlapBytesSpec : ChangeSpec := { name := "overlapBytes", fn := fun _ => fun
  | [d1, d2] => { results := [.lit (.bool true)], args := [d1, d2] }
  | _ => none }
def overlapBytesRow : OpenClaim := { program := "ytjdjgabahkcjeaa", sum := "91b57322e9db59c023317a568fafb5dce9b63e5737b51d2f108159ef9317c01e", func := "intrusion/intrusionlaw15.OverlapBytes", spec := "overlapBytes", apart := false }
def OverlapBytesSaid : Prop := overlapBytesRow.holds Try.pinned (OpenSpec.ofChange overlapBytesSpec)

/-- ITS FALSE NEIGHBOUR: 'it returns false'. Refute it at one input. -/
def overlapBytesWrong : ChangeSpec := { name := "overlapBytes", fn := fun _ => fun
  | [d1, d2] => { results := [.lit (.bool false)], args := [d1, d2] }
  | _ => none }
def OverlapBytesWrongFalsely : Prop := overlapBytesRow.holds Try.pinned (OpenSpec.ofChange overlapBytesWrong)

/-- 'intrusionlaw15.OverlapKeeps': WHATEVER THE INPUT: true; the input reads as it did. -/
def overlapKeepsSpec : ChangeSpec := { name := "overlapKeeps", fn := fun _ => fun
  | [d1, d2, d3] => { results := [.lit (.bool true)], args := [d1, d2, d3] }
  | _ => none }
def overlapKeepsRow : OpenClaim := { program := "ytjdjgabahkcjeaa", sum := "91b57322e9db59c023317a568fafb5dce9b63e5737b51d2f108159ef9317c01e", func := "intrusion/intrusionlaw15.OverlapKeeps", spec := "overlapKeeps", apart := false }
def OverlapKeepsSaid : Prop := overlapKeepsRow.holds Try.pinned (OpenSpec.ofChange overlapKeepsSpec)

/-- ITS FALSE NEIGHBOUR: 'it returns false'. Refute it at one input. -/
def overlapKeepsWrong : ChangeSpec := { name := "overlapKeeps", fn := fun _ => fun
  | [d1, d2, d3] => { results := [.lit (.bool false)], args := [d1, d2, d3] }
  | _ => none }
def OverlapKeepsWrongFalsely : Prop := overlapKeepsRow.holds Try.pinned (OpenSpec.ofChange overlapKeepsWrong)

/-- 'intrusionlaw15.OverlapCuts': WHATEVER THE INPUT: true; the input reads as it did. -/
def overlapCutsSpec : ChangeSpec := { name := "overlapCuts", fn := fun _ => fun
  | [d1, d2] => { results := [.lit (.bool true)], args := [d1, d2] }
  | _ => none }
def overlapCutsRow : OpenClaim := { program := "ytjdjgabahkcjeaa", sum := "91b57322e9db59c023317a568fafb5dce9b63e5737b51d2f108159ef9317c01e", func := "intrusion/intrusionlaw15.OverlapCuts", spec := "overlapCuts", apart := false }
def OverlapCutsSaid : Prop := overlapCutsRow.holds Try.pinned (OpenSpec.ofChange overlapCutsSpec)

/-- ITS FALSE NEIGHBOUR: 'it returns false'. Refute it at one input. -/
def overlapCutsWrong : ChangeSpec := { name := "overlapCuts", fn := fun _ => fun
  | [d1, d2] => { results := [.lit (.bool false)], args := [d1, d2] }
  | _ => none }
def OverlapCutsWrongFalsely : Prop := overlapCutsRow.holds Try.pinned (OpenSpec.ofChange overlapCutsWrong)

/-- 'intrusionlaw15.OverlapMirrors': WHATEVER THE INPUT: true; the input reads as it did. -/
def overlapMirrorsSpec : ChangeSpec := { name := "overlapMirrors", fn := fun _ => fun
  | [d1, d2] => { results := [.lit (.bool true)], args := [d1, d2] }
  | _ => none }
def overlapMirrorsRow : OpenClaim := { program := "ytjdjgabahkcjeaa", sum := "91b57322e9db59c023317a568fafb5dce9b63e5737b51d2f108159ef9317c01e", func := "intrusion/intrusionlaw15.OverlapMirrors", spec := "overlapMirrors", apart := false }
def OverlapMirrorsSaid : Prop := overlapMirrorsRow.holds Try.pinned (OpenSpec.ofChange overlapMirrorsSpec)

/-- ITS FALSE NEIGHBOUR: 'it returns false'. Refute it at one input. -/
def overlapMirrorsWrong : ChangeSpec := { name := "overlapMirrors", fn := fun _ => fun
  | [d1, d2] => { results := [.lit (.bool false)], args := [d1, d2] }
  | _ => none }
def OverlapMirrorsWrongFalsely : Prop := overlapMirrorsRow.holds Try.pinned (OpenSpec.ofChange overlapMirrorsWrong)

/- THE SECOND FORM. 'bulk': how many values and letters a reading holds, each counted each time it is reached (what is shared counts as often as it is met; a slice's spare places count too). A statement '..UptoSaid' is the law's where the arguments, and the package variables that the reading takes, are together of bulk at most 1048576: NARROWER than '..Said'. Prove '..Said' where nothing that the law and all that it calls make is longer than what came in: it says more and counts as full. Else prove '..UptoSaid'. A law counts once. -/
mutual
def uptoBulk {H : Type} : DataW H → Nat
  | .lit (.string bytes) => bytes.length + 1
  | .lit _ => 1
  | .nil => 1
  | .ptr d => uptoBulk d + 1
  | .slice elems spare => uptoBulkAll elems + uptoBulkAll spare + 1
  | .agg parts => uptoBulkAll parts + 1
  | .iface _ d => uptoBulk d + 1
  | .map entries => uptoBulkEntries entries + 1
  | .held _ => 1
def uptoBulkAll {H : Type} : List (DataW H) → Nat
  | [] => 0
  | d :: r => uptoBulk d + uptoBulkAll r
def uptoBulkEntries {H : Type} : List (Lit × DataW H) → Nat
  | [] => 0
  | x :: r => uptoBulkEntry x + uptoBulkEntries r
def uptoBulkEntry {H : Type} : Lit × DataW H → Nat
  | (.string bytes, d) => bytes.length + uptoBulk d + 1
  | (_, d) => uptoBulk d + 1
 end
def uptoSmall : (H : Type) → List (DataW H) → Bool := fun _ ds => decide (uptoBulkAll ds ≤ 1048576)
def OpenSpec.upto (s : _root_.Go.ChangeSpec) : _root_.Go.OpenSpec := { _root_.Go.OpenSpec.ofChange s with cond := some uptoSmall }

/-- 'intrusionlaw15.OverlapWins', WHERE WHAT IT READS IS OF BULK AT MOST 1048576: true; the input reads as it did. -/
def overlapWinsUptoRow : OpenClaim := { program := "ytjdjgabahkcjeaa", sum := "91b57322e9db59c023317a568fafb5dce9b63e5737b51d2f108159ef9317c01e", func := "intrusion/intrusionlaw15.OverlapWins", spec := "overlapWins", apart := false, narrowed := true }
def OverlapWinsUptoSaid : Prop := overlapWinsUptoRow.holds Try.pinned (OpenSpec.upto overlapWinsSpec)

/-- 'intrusionlaw15.OverlapInserts', WHERE WHAT IT READS IS OF BULK AT MOST 1048576: true; the input reads as it did. -/
def overlapInsertsUptoRow : OpenClaim := { program := "ytjdjgabahkcjeaa", sum := "91b57322e9db59c023317a568fafb5dce9b63e5737b51d2f108159ef9317c01e", func := "intrusion/intrusionlaw15.OverlapInserts", spec := "overlapInserts", apart := false, narrowed := true }
def OverlapInsertsUptoSaid : Prop := overlapInsertsUptoRow.holds Try.pinned (OpenSpec.upto overlapInsertsSpec)

/-- 'intrusionlaw15.OverlapTakes', WHERE WHAT IT READS IS OF BULK AT MOST 1048576: true; the input reads as it did. -/
def overlapTakesUptoRow : OpenClaim := { program := "ytjdjgabahkcjeaa", sum := "91b57322e9db59c023317a568fafb5dce9b63e5737b51d2f108159ef9317c01e", func := "intrusion/intrusionlaw15.OverlapTakes", spec := "overlapTakes", apart := false, narrowed := true }
def OverlapTakesUptoSaid : Prop := overlapTakesUptoRow.holds Try.pinned (OpenSpec.upto overlapTakesSpec)

/-- 'intrusionlaw15.OverlapBytes', WHERE WHAT IT READS IS OF BULK AT MOST 1048576: true; the input reads as it did. -/
def overlapBytesUptoRow : OpenClaim := { program := "ytjdjgabahkcjeaa", sum := "91b57322e9db59c023317a568fafb5dce9b63e5737b51d2f108159ef9317c01e", func := "intrusion/intrusionlaw15.OverlapBytes", spec := "overlapBytes", apart := false, narrowed := true }
def OverlapBytesUptoSaid : Prop := overlapBytesUptoRow.holds Try.pinned (OpenSpec.upto overlapBytesSpec)

/-- 'intrusionlaw15.OverlapKeeps', WHERE WHAT IT READS IS OF BULK AT MOST 1048576: true; the input reads as it did. -/
def overlapKeepsUptoRow : OpenClaim := { program := "ytjdjgabahkcjeaa", sum := "91b57322e9db59c023317a568fafb5dce9b63e5737b51d2f108159ef9317c01e", func := "intrusion/intrusionlaw15.OverlapKeeps", spec := "overlapKeeps", apart := false, narrowed := true }
def OverlapKeepsUptoSaid : Prop := overlapKeepsUptoRow.holds Try.pinned (OpenSpec.upto overlapKeepsSpec)

/-- 'intrusionlaw15.OverlapCuts', WHERE WHAT IT READS IS OF BULK AT MOST 1048576: true; the input reads as it did. -/
def overlapCutsUptoRow : OpenClaim := { program := "ytjdjgabahkcjeaa", sum := "91b57322e9db59c023317a568fafb5dce9b63e5737b51d2f108159ef9317c01e", func := "intrusion/intrusionlaw15.OverlapCuts", spec := "overlapCuts", apart := false, narrowed := true }
def OverlapCutsUptoSaid : Prop := overlapCutsUptoRow.holds Try.pinned (OpenSpec.upto overlapCutsSpec)

/-- 'intrusionlaw15.OverlapMirrors', WHERE WHAT IT READS IS OF BULK AT MOST 1048576: true; the input reads as it did. -/
def overlapMirrorsUptoRow : OpenClaim := { program := "ytjdjgabahkcjeaa", sum := "91b57322e9db59c023317a568fafb5dce9b63e5737b51d2f108159ef9317c01e", func := "intrusion/intrusionlaw15.OverlapMirrors", spec := "overlapMirrors", apart := false, narrowed := true }
def OverlapMirrorsUptoSaid : Prop := overlapMirrorsUptoRow.holds Try.pinned (OpenSpec.upto overlapMirrorsSpec)

end Rows
end Go.Proofs.Ytjdjgabahkcjeaa
