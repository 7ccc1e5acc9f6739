/-
  No cell of these rows narrows 'for every input' (looked for: loops, veiled, ifaces, maps, wideKeys, modest, calm, conditions, laid).
  DERIVED. THE GIVEN ROWS OF THIS SEAT. 12 by the template 'for every input the law returns true; each argument reads behind the call as it read before'; 0 by the template 'total and deterministic' (their statements: YtopnempdeopjfaaTotals.lean).
  GIVEN WITH THE SEED: the statements are not yours to turn. If you find one false, say at which input.
  Laid BY PROGRAM, IN A SANDBOX (cutbox-rows.mjs): the forced cells as the released guide's own fill.sh prints them over the translation 952717823904a6ff… (all of the seat's roots in one cut). By AI agents, Wed Nov 11 2026. No macro, syntax, notation, axiom, sorry.
-/
import Derived.Test.YtopnempdeopjfaaChecked
import GoSem.Claim
import GoSem.ClaimJoined
import GoSem.ClaimMapViews
import Derived.JoinedTies
import Derived.KernelRfl
namespace Go.Proofs.Ytopnempdeopjfaa
/- THE CELL 'sum', in the pinned program and in every row, IS THE sha256 OF THE DUMP (.gsa) THAT YtopnempdeopjfaaProg.lean LOADS. Nothing in Lean hashes anything: it is a label: what it is worth is what the hold of that sum in a sandbox is worth. -/
noncomputable def Try.pinned : Pinned := { name := "ytopnempdeopjfaa", sum := "952717823904a6ff3de1355e5d4c0e4ba81da49ab9547585ea1c2db196911b40", checked := Try.checked }
namespace Rows
def none {H : Type} : Left H := { results := [], args := [] }

/-- 'intrusionlaw20.StreamShifts': WHATEVER THE INPUT: true; the input reads as it did. -/
def streamShiftsSpec : ChangeSpec := { name := "streamShifts", fn := fun _ => fun
  | [d1, d2, d3] => { results := [.lit (.bool true)], args := [d1, d2, d3] }
  | _ => none }
def streamShiftsRow : OpenClaim := { program := "ytopnempdeopjfaa", sum := "952717823904a6ff3de1355e5d4c0e4ba81da49ab9547585ea1c2db196911b40", func := "intrusion/intrusionlaw20.StreamShifts", spec := "streamShifts", apart := false }
def StreamShiftsSaid : Prop := streamShiftsRow.holds Try.pinned (OpenSpec.ofChange streamShiftsSpec)

/-- ITS FALSE NEIGHBOUR: 'it returns false'. Refute it at one input. -/
def streamShiftsWrong : ChangeSpec := { name := "streamShifts", fn := fun _ => fun
  | [d1, d2, d3] => { results := [.lit (.bool false)], args := [d1, d2, d3] }
  | _ => none }
def StreamShiftsWrongFalsely : Prop := streamShiftsRow.holds Try.pinned (OpenSpec.ofChange streamShiftsWrong)

/-- 'intrusionlaw20.StreamPieces': WHATEVER THE INPUT: true; the input reads as it did. -/
def streamPiecesSpec : ChangeSpec := { name := "streamPieces", fn := fun _ => fun
  | [d1, d2] => { results := [.lit (.bool true)], args := [d1, d2] }
  | _ => none }
def streamPiecesRow : OpenClaim := { program := "ytopnempdeopjfaa", sum := "952717823904a6ff3de1355e5d4c0e4ba81da49ab9547585ea1c2db196911b40", func := "intrusion/intrusionlaw20.StreamPieces", spec := "streamPieces", apart := false }
def StreamPiecesSaid : Prop := streamPiecesRow.holds Try.pinned (OpenSpec.ofChange streamPiecesSpec)

/-- ITS FALSE NEIGHBOUR: 'it returns false'. Refute it at one input. -/
def streamPiecesWrong : ChangeSpec := { name := "streamPieces", fn := fun _ => fun
  | [d1, d2] => { results := [.lit (.bool false)], args := [d1, d2] }
  | _ => none }
def StreamPiecesWrongFalsely : Prop := streamPiecesRow.holds Try.pinned (OpenSpec.ofChange streamPiecesWrong)

/-- 'intrusionlaw20.StreamCalls': WHATEVER THE INPUT: true; the input reads as it did. -/
def streamCallsSpec : ChangeSpec := { name := "streamCalls", fn := fun _ => fun
  | [d1, d2] => { results := [.lit (.bool true)], args := [d1, d2] }
  | _ => none }
def streamCallsRow : OpenClaim := { program := "ytopnempdeopjfaa", sum := "952717823904a6ff3de1355e5d4c0e4ba81da49ab9547585ea1c2db196911b40", func := "intrusion/intrusionlaw20.StreamCalls", spec := "streamCalls", apart := false }
def StreamCallsSaid : Prop := streamCallsRow.holds Try.pinned (OpenSpec.ofChange streamCallsSpec)

/-- ITS FALSE NEIGHBOUR: 'it returns false'. Refute it at one input. -/
def streamCallsWrong : ChangeSpec := { name := "streamCalls", fn := fun _ => fun
  | [d1, d2] => { results := [.lit (.bool false)], args := [d1, d2] }
  | _ => none }
def StreamCallsWrongFalsely : Prop := streamCallsRow.holds Try.pinned (OpenSpec.ofChange streamCallsWrong)

/-- 'intrusionlaw20.StreamOrders': WHATEVER THE INPUT: true; the input reads as it did. -/
def streamOrdersSpec : ChangeSpec := { name := "streamOrders", fn := fun _ => fun
  | [d1, d2, d3, d4] => { results := [.lit (.bool true)], args := [d1, d2, d3, d4] }
  | _ => none }
def streamOrdersRow : OpenClaim := { program := "ytopnempdeopjfaa", sum := "952717823904a6ff3de1355e5d4c0e4ba81da49ab9547585ea1c2db196911b40", func := "intrusion/intrusionlaw20.StreamOrders", spec := "streamOrders", apart := false }
def StreamOrdersSaid : Prop := streamOrdersRow.holds Try.pinned (OpenSpec.ofChange streamOrdersSpec)

/-- ITS FALSE NEIGHBOUR: 'it returns false'. Refute it at one input. -/
def streamOrdersWrong : ChangeSpec := { name := "streamOrders", fn := fun _ => fun
  | [d1, d2, d3, d4] => { results := [.lit (.bool false)], args := [d1, d2, d3, d4] }
  | _ => none }
def StreamOrdersWrongFalsely : Prop := streamOrdersRow.holds Try.pinned (OpenSpec.ofChange streamOrdersWrong)

/-- 'intrusionlaw20.StreamAccounts': WHATEVER THE INPUT: true; the input reads as it did. -/
def streamAccountsSpec : ChangeSpec := { name := "streamAccounts", fn := fun _ => fun
  | [d1, d2] => { results := [.lit (.bool true)], args := [d1, d2] }
  | _ => none }
def streamAccountsRow : OpenClaim := { program := "ytopnempdeopjfaa", sum := "952717823904a6ff3de1355e5d4c0e4ba81da49ab9547585ea1c2db196911b40", func := "intrusion/intrusionlaw20.StreamAccounts", spec := "streamAccounts", apart := false }
def StreamAccountsSaid : Prop := streamAccountsRow.holds Try.pinned (OpenSpec.ofChange streamAccountsSpec)

/-- ITS FALSE NEIGHBOUR: 'it returns false'. Refute it at one input. -/
def streamAccountsWrong : ChangeSpec := { name := "streamAccounts", fn := fun _ => fun
  | [d1, d2] => { results := [.lit (.bool false)], args := [d1, d2] }
  | _ => none }
def StreamAccountsWrongFalsely : Prop := streamAccountsRow.holds Try.pinned (OpenSpec.ofChange streamAccountsWrong)

/-- 'intrusionlaw20.StreamNone': WHATEVER THE INPUT: true; the input reads as it did. -/
def streamNoneSpec : ChangeSpec := { name := "streamNone", fn := fun _ => fun
  | [d] => { results := [.lit (.bool true)], args := [d] }
  | _ => none }
def streamNoneRow : OpenClaim := { program := "ytopnempdeopjfaa", sum := "952717823904a6ff3de1355e5d4c0e4ba81da49ab9547585ea1c2db196911b40", func := "intrusion/intrusionlaw20.StreamNone", spec := "streamNone", apart := false }
def StreamNoneSaid : Prop := streamNoneRow.holds Try.pinned (OpenSpec.ofChange streamNoneSpec)

/-- ITS FALSE NEIGHBOUR: 'it returns false'. Refute it at one input. -/
def streamNoneWrong : ChangeSpec := { name := "streamNone", fn := fun _ => fun
  | [d] => { results := [.lit (.bool false)], args := [d] }
  | _ => none }
def StreamNoneWrongFalsely : Prop := streamNoneRow.holds Try.pinned (OpenSpec.ofChange streamNoneWrong)

/-- 'intrusionlaw24.EvasionVariants': WHATEVER THE INPUT: true; the input reads as it did. -/
def evasionVariantsSpec : ChangeSpec := { name := "evasionVariants", fn := fun _ => fun
  | [d1, d2] => { results := [.lit (.bool true)], args := [d1, d2] }
  | _ => none }
def evasionVariantsRow : OpenClaim := { program := "ytopnempdeopjfaa", sum := "952717823904a6ff3de1355e5d4c0e4ba81da49ab9547585ea1c2db196911b40", func := "intrusion/intrusionlaw24.EvasionVariants", spec := "evasionVariants", unfollowed := true, recurses := true, apart := false }
def EvasionVariantsSaid : Prop := evasionVariantsRow.holds Try.pinned (OpenSpec.ofChange evasionVariantsSpec)

/-- ITS FALSE NEIGHBOUR: 'it returns false'. Refute it at one input. -/
def evasionVariantsWrong : ChangeSpec := { name := "evasionVariants", fn := fun _ => fun
  | [d1, d2] => { results := [.lit (.bool false)], args := [d1, d2] }
  | _ => none }
def EvasionVariantsWrongFalsely : Prop := evasionVariantsRow.holds Try.pinned (OpenSpec.ofChange evasionVariantsWrong)

/-- 'intrusionlaw24.EvasionTells': WHATEVER THE INPUT: true; the input reads as it did. -/
def evasionTellsSpec : ChangeSpec := { name := "evasionTells", fn := fun _ => fun
  | [d] => { results := [.lit (.bool true)], args := [d] }
  | _ => none }
def evasionTellsRow : OpenClaim := { program := "ytopnempdeopjfaa", sum := "952717823904a6ff3de1355e5d4c0e4ba81da49ab9547585ea1c2db196911b40", func := "intrusion/intrusionlaw24.EvasionTells", spec := "evasionTells", unfollowed := true, recurses := true, apart := false }
def EvasionTellsSaid : Prop := evasionTellsRow.holds Try.pinned (OpenSpec.ofChange evasionTellsSpec)

/-- ITS FALSE NEIGHBOUR: 'it returns false'. Refute it at one input. -/
def evasionTellsWrong : ChangeSpec := { name := "evasionTells", fn := fun _ => fun
  | [d] => { results := [.lit (.bool false)], args := [d] }
  | _ => none }
def EvasionTellsWrongFalsely : Prop := evasionTellsRow.holds Try.pinned (OpenSpec.ofChange evasionTellsWrong)

/-- 'intrusionlaw24.EvasionSilent': WHATEVER THE INPUT: true; the input reads as it did. -/
def evasionSilentSpec : ChangeSpec := { name := "evasionSilent", fn := fun _ => fun
  | [d] => { results := [.lit (.bool true)], args := [d] }
  | _ => none }
def evasionSilentRow : OpenClaim := { program := "ytopnempdeopjfaa", sum := "952717823904a6ff3de1355e5d4c0e4ba81da49ab9547585ea1c2db196911b40", func := "intrusion/intrusionlaw24.EvasionSilent", spec := "evasionSilent", unfollowed := true, recurses := true, apart := false }
def EvasionSilentSaid : Prop := evasionSilentRow.holds Try.pinned (OpenSpec.ofChange evasionSilentSpec)

/-- ITS FALSE NEIGHBOUR: 'it returns false'. Refute it at one input. -/
def evasionSilentWrong : ChangeSpec := { name := "evasionSilent", fn := fun _ => fun
  | [d] => { results := [.lit (.bool false)], args := [d] }
  | _ => none }
def EvasionSilentWrongFalsely : Prop := evasionSilentRow.holds Try.pinned (OpenSpec.ofChange evasionSilentWrong)

/-- 'intrusionlaw24.EvasionAgrees': WHATEVER THE INPUT: true; the input reads as it did. -/
def evasionAgreesSpec : ChangeSpec := { name := "evasionAgrees", fn := fun _ => fun
  | [d1, d2] => { results := [.lit (.bool true)], args := [d1, d2] }
  | _ => none }
def evasionAgreesRow : OpenClaim := { program := "ytopnempdeopjfaa", sum := "952717823904a6ff3de1355e5d4c0e4ba81da49ab9547585ea1c2db196911b40", func := "intrusion/intrusionlaw24.EvasionAgrees", spec := "evasionAgrees", unfollowed := true, recurses := true, apart := false }
def EvasionAgreesSaid : Prop := evasionAgreesRow.holds Try.pinned (OpenSpec.ofChange evasionAgreesSpec)

/-- ITS FALSE NEIGHBOUR: 'it returns false'. Refute it at one input. -/
def evasionAgreesWrong : ChangeSpec := { name := "evasionAgrees", fn := fun _ => fun
  | [d1, d2] => { results := [.lit (.bool false)], args := [d1, d2] }
  | _ => none }
def EvasionAgreesWrongFalsely : Prop := evasionAgreesRow.holds Try.pinned (OpenSpec.ofChange evasionAgreesWrong)

/-- 'intrusionlaw24.EvasionFolds': WHATEVER THE INPUT: true; the input reads as it did. -/
def evasionFoldsSpec : ChangeSpec := { name := "evasionFolds", fn := fun _ => fun
  | [d1, d2, d3] => { results := [.lit (.bool true)], args := [d1, d2, d3] }
  | _ => none }
def evasionFoldsRow : OpenClaim := { program := "ytopnempdeopjfaa", sum := "952717823904a6ff3de1355e5d4c0e4ba81da49ab9547585ea1c2db196911b40", func := "intrusion/intrusionlaw24.EvasionFolds", spec := "evasionFolds", unfollowed := true, recurses := true, apart := false }
def EvasionFoldsSaid : Prop := evasionFoldsRow.holds Try.pinned (OpenSpec.ofChange evasionFoldsSpec)

/-- ITS FALSE NEIGHBOUR: 'it returns false'. Refute it at one input. -/
def evasionFoldsWrong : ChangeSpec := { name := "evasionFolds", fn := fun _ => fun
  | [d1, d2, d3] => { results := [.lit (.bool false)], args := [d1, d2, d3] }
  | _ => none }
def EvasionFoldsWrongFalsely : Prop := evasionFoldsRow.holds Try.pinned (OpenSpec.ofChange evasionFoldsWrong)

/-- 'intrusiontop.TopVariants': WHATEVER THE INPUT: true; the input reads as it did. -/
def topVariantsSpec : ChangeSpec := { name := "topVariants", fn := fun _ => fun
  | [d1, d2, d3] => { results := [.lit (.bool true)], args := [d1, d2, d3] }
  | _ => none }
def topVariantsRow : OpenClaim := { program := "ytopnempdeopjfaa", sum := "952717823904a6ff3de1355e5d4c0e4ba81da49ab9547585ea1c2db196911b40", func := "intrusion/intrusiontop.TopVariants", spec := "topVariants", apart := false }
def TopVariantsSaid : Prop := topVariantsRow.holds Try.pinned (OpenSpec.ofChange topVariantsSpec)

/-- ITS FALSE NEIGHBOUR: 'it returns false'. Refute it at one input. -/
def topVariantsWrong : ChangeSpec := { name := "topVariants", fn := fun _ => fun
  | [d1, d2, d3] => { results := [.lit (.bool false)], args := [d1, d2, d3] }
  | _ => none }
def TopVariantsWrongFalsely : Prop := topVariantsRow.holds Try.pinned (OpenSpec.ofChange topVariantsWrong)

/- THE SECOND FORM. 'bulk': how many values and letters a reading holds, each counted each time it is reached (what is shared counts as often as it is met; a slice's spare places count too). A statement '..UptoSaid' is the law's where the arguments, and the package variables that the reading takes, are together of bulk at most 1048576: NARROWER than '..Said'. Prove '..Said' where nothing that the law and all that it calls make is longer than what came in: it says more and counts as full. Else prove '..UptoSaid'. A law counts once. -/
mutual
def uptoBulk {H : Type} : DataW H → Nat
  | .lit (.string bytes) => bytes.length + 1
  | .lit _ => 1
  | .nil => 1
  | .ptr d => uptoBulk d + 1
  | .slice elems spare => uptoBulkAll elems + uptoBulkAll spare + 1
  | .agg parts => uptoBulkAll parts + 1
  | .iface _ d => uptoBulk d + 1
  | .map entries => uptoBulkEntries entries + 1
  | .held _ => 1
def uptoBulkAll {H : Type} : List (DataW H) → Nat
  | [] => 0
  | d :: r => uptoBulk d + uptoBulkAll r
def uptoBulkEntries {H : Type} : List (Lit × DataW H) → Nat
  | [] => 0
  | x :: r => uptoBulkEntry x + uptoBulkEntries r
def uptoBulkEntry {H : Type} : Lit × DataW H → Nat
  | (.string bytes, d) => bytes.length + uptoBulk d + 1
  | (_, d) => uptoBulk d + 1
 end
def uptoSmall : (H : Type) → List (DataW H) → Bool := fun _ ds => decide (uptoBulkAll ds ≤ 1048576)
def OpenSpec.upto (s : _root_.Go.ChangeSpec) : _root_.Go.OpenSpec := { _root_.Go.OpenSpec.ofChange s with cond := some uptoSmall }

/-- 'intrusionlaw20.StreamShifts', WHERE WHAT IT READS IS OF BULK AT MOST 1048576: true; the input reads as it did. -/
def streamShiftsUptoRow : OpenClaim := { program := "ytopnempdeopjfaa", sum := "952717823904a6ff3de1355e5d4c0e4ba81da49ab9547585ea1c2db196911b40", func := "intrusion/intrusionlaw20.StreamShifts", spec := "streamShifts", apart := false, narrowed := true }
def StreamShiftsUptoSaid : Prop := streamShiftsUptoRow.holds Try.pinned (OpenSpec.upto streamShiftsSpec)

/-- 'intrusionlaw20.StreamPieces', WHERE WHAT IT READS IS OF BULK AT MOST 1048576: true; the input reads as it did. -/
def streamPiecesUptoRow : OpenClaim := { program := "ytopnempdeopjfaa", sum := "952717823904a6ff3de1355e5d4c0e4ba81da49ab9547585ea1c2db196911b40", func := "intrusion/intrusionlaw20.StreamPieces", spec := "streamPieces", apart := false, narrowed := true }
def StreamPiecesUptoSaid : Prop := streamPiecesUptoRow.holds Try.pinned (OpenSpec.upto streamPiecesSpec)

/-- 'intrusionlaw20.StreamCalls', WHERE WHAT IT READS IS OF BULK AT MOST 1048576: true; the input reads as it did. -/
def streamCallsUptoRow : OpenClaim := { program := "ytopnempdeopjfaa", sum := "952717823904a6ff3de1355e5d4c0e4ba81da49ab9547585ea1c2db196911b40", func := "intrusion/intrusionlaw20.StreamCalls", spec := "streamCalls", apart := false, narrowed := true }
def StreamCallsUptoSaid : Prop := streamCallsUptoRow.holds Try.pinned (OpenSpec.upto streamCallsSpec)

/-- 'intrusionlaw20.StreamOrders', WHERE WHAT IT READS IS OF BULK AT MOST 1048576: true; the input reads as it did. -/
def streamOrdersUptoRow : OpenClaim := { program := "ytopnempdeopjfaa", sum := "952717823904a6ff3de1355e5d4c0e4ba81da49ab9547585ea1c2db196911b40", func := "intrusion/intrusionlaw20.StreamOrders", spec := "streamOrders", apart := false, narrowed := true }
def StreamOrdersUptoSaid : Prop := streamOrdersUptoRow.holds Try.pinned (OpenSpec.upto streamOrdersSpec)

/-- 'intrusionlaw20.StreamAccounts', WHERE WHAT IT READS IS OF BULK AT MOST 1048576: true; the input reads as it did. -/
def streamAccountsUptoRow : OpenClaim := { program := "ytopnempdeopjfaa", sum := "952717823904a6ff3de1355e5d4c0e4ba81da49ab9547585ea1c2db196911b40", func := "intrusion/intrusionlaw20.StreamAccounts", spec := "streamAccounts", apart := false, narrowed := true }
def StreamAccountsUptoSaid : Prop := streamAccountsUptoRow.holds Try.pinned (OpenSpec.upto streamAccountsSpec)

/-- 'intrusionlaw20.StreamNone', WHERE WHAT IT READS IS OF BULK AT MOST 1048576: true; the input reads as it did. -/
def streamNoneUptoRow : OpenClaim := { program := "ytopnempdeopjfaa", sum := "952717823904a6ff3de1355e5d4c0e4ba81da49ab9547585ea1c2db196911b40", func := "intrusion/intrusionlaw20.StreamNone", spec := "streamNone", apart := false, narrowed := true }
def StreamNoneUptoSaid : Prop := streamNoneUptoRow.holds Try.pinned (OpenSpec.upto streamNoneSpec)

/-- 'intrusionlaw24.EvasionVariants', WHERE WHAT IT READS IS OF BULK AT MOST 1048576: true; the input reads as it did. -/
def evasionVariantsUptoRow : OpenClaim := { program := "ytopnempdeopjfaa", sum := "952717823904a6ff3de1355e5d4c0e4ba81da49ab9547585ea1c2db196911b40", func := "intrusion/intrusionlaw24.EvasionVariants", spec := "evasionVariants", unfollowed := true, recurses := true, apart := false, narrowed := true }
def EvasionVariantsUptoSaid : Prop := evasionVariantsUptoRow.holds Try.pinned (OpenSpec.upto evasionVariantsSpec)

/-- 'intrusionlaw24.EvasionTells', WHERE WHAT IT READS IS OF BULK AT MOST 1048576: true; the input reads as it did. -/
def evasionTellsUptoRow : OpenClaim := { program := "ytopnempdeopjfaa", sum := "952717823904a6ff3de1355e5d4c0e4ba81da49ab9547585ea1c2db196911b40", func := "intrusion/intrusionlaw24.EvasionTells", spec := "evasionTells", unfollowed := true, recurses := true, apart := false, narrowed := true }
def EvasionTellsUptoSaid : Prop := evasionTellsUptoRow.holds Try.pinned (OpenSpec.upto evasionTellsSpec)

/-- 'intrusionlaw24.EvasionSilent', WHERE WHAT IT READS IS OF BULK AT MOST 1048576: true; the input reads as it did. -/
def evasionSilentUptoRow : OpenClaim := { program := "ytopnempdeopjfaa", sum := "952717823904a6ff3de1355e5d4c0e4ba81da49ab9547585ea1c2db196911b40", func := "intrusion/intrusionlaw24.EvasionSilent", spec := "evasionSilent", unfollowed := true, recurses := true, apart := false, narrowed := true }
def EvasionSilentUptoSaid : Prop := evasionSilentUptoRow.holds Try.pinned (OpenSpec.upto evasionSilentSpec)

/-- 'intrusionlaw24.EvasionAgrees', WHERE WHAT IT READS IS OF BULK AT MOST 1048576: true; the input reads as it did. -/
def evasionAgreesUptoRow : OpenClaim := { program := "ytopnempdeopjfaa", sum := "952717823904a6ff3de1355e5d4c0e4ba81da49ab9547585ea1c2db196911b40", func := "intrusion/intrusionlaw24.EvasionAgrees", spec := "evasionAgrees", unfollowed := true, recurses := true, apart := false, narrowed := true }
def EvasionAgreesUptoSaid : Prop := evasionAgreesUptoRow.holds Try.pinned (OpenSpec.upto evasionAgreesSpec)

/-- 'intrusionlaw24.EvasionFolds', WHERE WHAT IT READS IS OF BULK AT MOST 1048576: true; the input reads as it did. -/
def evasionFoldsUptoRow : OpenClaim := { program := "ytopnempdeopjfaa", sum := "952717823904a6ff3de1355e5d4c0e4ba81da49ab9547585ea1c2db196911b40", func := "intrusion/intrusionlaw24.EvasionFolds", spec := "evasionFolds", unfollowed := true, recurses := true, apart := false, narrowed := true }
def EvasionFoldsUptoSaid : Prop := evasionFoldsUptoRow.holds Try.pinned (OpenSpec.upto evasionFoldsSpec)

/-- 'intrusiontop.TopVariants', WHERE WHAT IT READS IS OF BULK AT MOST 1048576: true; the input reads as it did. -/
def topVariantsUptoRow : OpenClaim := { program := "ytopnempdeopjfaa", sum := "952717823904a6ff3de1355e5d4c0e4ba81da49ab9547585ea1c2db196911b40", func := "intrusion/intrusiontop.TopVariants", spec := "topVariants", apart := false, narrowed := true }
def TopVariantsUptoSaid : Prop := topVariantsUptoRow.holds Try.pinned (OpenSpec.upto topVariantsSpec)

end Rows
end Go.Proofs.Ytopnempdeopjfaa
