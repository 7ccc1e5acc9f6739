/-
  No cell of these rows narrows 'for every input' (looked for: loops, veiled, ifaces, maps, wideKeys, modest, calm, conditions, laid).
  DERIVED. THE GIVEN ROWS OF THIS SEAT. 7 by the template 'for every input the law returns true; each argument reads behind the call as it read before'; 0 by the template 'total and deterministic' (their statements: YtgbmbihajkjbmaaTotals.lean).
  GIVEN WITH THE SEED: the statements are not yours to turn. If you find one false, say at which input.
  Laid BY PROGRAM, IN A SANDBOX (cutbox-rows.mjs): the forced cells as the released guide's own fill.sh prints them over the translation 45740487910ef304… (all of the seat's roots in one cut). By AI agents, Wed Nov 11 2026. No macro, syntax, notation, axiom, sorry.
-/
import Derived.Test.YtgbmbihajkjbmaaChecked
import GoSem.Claim
import GoSem.ClaimJoined
import GoSem.ClaimMapViews
import Derived.JoinedTies
import Derived.KernelRfl
namespace Go.Proofs.Ytgbmbihajkjbmaa
/- THE CELL 'sum', in the pinned program and in every row, IS THE sha256 OF THE DUMP (.gsa) THAT YtgbmbihajkjbmaaProg.lean LOADS. Nothing in Lean hashes anything: it is a label: what it is worth is what the hold of that sum in a sandbox is worth. -/
noncomputable def Try.pinned : Pinned := { name := "ytgbmbihajkjbmaa", sum := "45740487910ef304db6ba4648d0a5ca6f49bb228e67670f390855b2bb4bfb45a", checked := Try.checked }
namespace Rows
def none {H : Type} : Left H := { results := [], args := [] }

/-- 'intrusionlaw32.TlsFeeds': WHATEVER THE INPUT: true; the input reads as it did. -/
def tlsFeedsSpec : ChangeSpec := { name := "tlsFeeds", fn := fun _ => fun
  | [d] => { results := [.lit (.bool true)], args := [d] }
  | _ => none }
def tlsFeedsRow : OpenClaim := { program := "ytgbmbihajkjbmaa", sum := "45740487910ef304db6ba4648d0a5ca6f49bb228e67670f390855b2bb4bfb45a", func := "intrusion/intrusionlaw32.TlsFeeds", spec := "tlsFeeds", inPlace := ["internal/abi.NoEscape", "internal/bytealg.MakeNoZero"], unfollowed := true, recurses := true, apart := false }
def TlsFeedsSaid : Prop := tlsFeedsRow.holds Try.pinned (OpenSpec.ofChange tlsFeedsSpec)

/-- ITS FALSE NEIGHBOUR: 'it returns false'. Refute it at one input. -/
def tlsFeedsWrong : ChangeSpec := { name := "tlsFeeds", fn := fun _ => fun
  | [d] => { results := [.lit (.bool false)], args := [d] }
  | _ => none }
def TlsFeedsWrongFalsely : Prop := tlsFeedsRow.holds Try.pinned (OpenSpec.ofChange tlsFeedsWrong)

/-- 'intrusionlaw32.TlsBuilds': WHATEVER THE INPUT: true; the input reads as it did. -/
def tlsBuildsSpec : ChangeSpec := { name := "tlsBuilds", fn := fun _ => fun
  | [d1, d2, d3, d4] => { results := [.lit (.bool true)], args := [d1, d2, d3, d4] }
  | _ => none }
def tlsBuildsRow : OpenClaim := { program := "ytgbmbihajkjbmaa", sum := "45740487910ef304db6ba4648d0a5ca6f49bb228e67670f390855b2bb4bfb45a", func := "intrusion/intrusionlaw32.TlsBuilds", spec := "tlsBuilds", inPlace := ["internal/abi.NoEscape", "internal/bytealg.MakeNoZero"], unfollowed := true, recurses := true, apart := false }
def TlsBuildsSaid : Prop := tlsBuildsRow.holds Try.pinned (OpenSpec.ofChange tlsBuildsSpec)

/-- ITS FALSE NEIGHBOUR: 'it returns false'. Refute it at one input. -/
def tlsBuildsWrong : ChangeSpec := { name := "tlsBuilds", fn := fun _ => fun
  | [d1, d2, d3, d4] => { results := [.lit (.bool false)], args := [d1, d2, d3, d4] }
  | _ => none }
def TlsBuildsWrongFalsely : Prop := tlsBuildsRow.holds Try.pinned (OpenSpec.ofChange tlsBuildsWrong)

/-- 'intrusionlaw32.TlsCuts': WHATEVER THE INPUT: true; the input reads as it did. -/
def tlsCutsSpec : ChangeSpec := { name := "tlsCuts", fn := fun _ => fun
  | [d1, d2] => { results := [.lit (.bool true)], args := [d1, d2] }
  | _ => none }
def tlsCutsRow : OpenClaim := { program := "ytgbmbihajkjbmaa", sum := "45740487910ef304db6ba4648d0a5ca6f49bb228e67670f390855b2bb4bfb45a", func := "intrusion/intrusionlaw32.TlsCuts", spec := "tlsCuts", inPlace := ["internal/abi.NoEscape", "internal/bytealg.MakeNoZero"], unfollowed := true, recurses := true, apart := false }
def TlsCutsSaid : Prop := tlsCutsRow.holds Try.pinned (OpenSpec.ofChange tlsCutsSpec)

/-- ITS FALSE NEIGHBOUR: 'it returns false'. Refute it at one input. -/
def tlsCutsWrong : ChangeSpec := { name := "tlsCuts", fn := fun _ => fun
  | [d1, d2] => { results := [.lit (.bool false)], args := [d1, d2] }
  | _ => none }
def TlsCutsWrongFalsely : Prop := tlsCutsRow.holds Try.pinned (OpenSpec.ofChange tlsCutsWrong)

/-- 'intrusionlaw32.TlsSplit': WHATEVER THE INPUT: true; the input reads as it did. -/
def tlsSplitSpec : ChangeSpec := { name := "tlsSplit", fn := fun _ => fun
  | [d1, d2, d3] => { results := [.lit (.bool true)], args := [d1, d2, d3] }
  | _ => none }
def tlsSplitRow : OpenClaim := { program := "ytgbmbihajkjbmaa", sum := "45740487910ef304db6ba4648d0a5ca6f49bb228e67670f390855b2bb4bfb45a", func := "intrusion/intrusionlaw32.TlsSplit", spec := "tlsSplit", inPlace := ["internal/abi.NoEscape", "internal/bytealg.MakeNoZero"], unfollowed := true, recurses := true, apart := false }
def TlsSplitSaid : Prop := tlsSplitRow.holds Try.pinned (OpenSpec.ofChange tlsSplitSpec)

/-- ITS FALSE NEIGHBOUR: 'it returns false'. Refute it at one input. -/
def tlsSplitWrong : ChangeSpec := { name := "tlsSplit", fn := fun _ => fun
  | [d1, d2, d3] => { results := [.lit (.bool false)], args := [d1, d2, d3] }
  | _ => none }
def TlsSplitWrongFalsely : Prop := tlsSplitRow.holds Try.pinned (OpenSpec.ofChange tlsSplitWrong)

/-- 'intrusionlaw32.TlsBytes': WHATEVER THE INPUT: true; the input reads as it did. -/
def tlsBytesSpec : ChangeSpec := { name := "tlsBytes", fn := fun _ => fun
  | [d] => { results := [.lit (.bool true)], args := [d] }
  | _ => none }
def tlsBytesRow : OpenClaim := { program := "ytgbmbihajkjbmaa", sum := "45740487910ef304db6ba4648d0a5ca6f49bb228e67670f390855b2bb4bfb45a", func := "intrusion/intrusionlaw32.TlsBytes", spec := "tlsBytes", inPlace := ["internal/abi.NoEscape", "internal/bytealg.MakeNoZero"], unfollowed := true, recurses := true, apart := false }
def TlsBytesSaid : Prop := tlsBytesRow.holds Try.pinned (OpenSpec.ofChange tlsBytesSpec)

/-- ITS FALSE NEIGHBOUR: 'it returns false'. Refute it at one input. -/
def tlsBytesWrong : ChangeSpec := { name := "tlsBytes", fn := fun _ => fun
  | [d] => { results := [.lit (.bool false)], args := [d] }
  | _ => none }
def TlsBytesWrongFalsely : Prop := tlsBytesRow.holds Try.pinned (OpenSpec.ofChange tlsBytesWrong)

/-- 'intrusionlaw32.TlsReads': WHATEVER THE INPUT: true; the input reads as it did. -/
def tlsReadsSpec : ChangeSpec := { name := "tlsReads", fn := fun _ => fun
  | [d1, d2, d3, d4] => { results := [.lit (.bool true)], args := [d1, d2, d3, d4] }
  | _ => none }
def tlsReadsRow : OpenClaim := { program := "ytgbmbihajkjbmaa", sum := "45740487910ef304db6ba4648d0a5ca6f49bb228e67670f390855b2bb4bfb45a", func := "intrusion/intrusionlaw32.TlsReads", spec := "tlsReads", inPlace := ["internal/abi.NoEscape", "internal/bytealg.MakeNoZero"], unfollowed := true, recurses := true, apart := false }
def TlsReadsSaid : Prop := tlsReadsRow.holds Try.pinned (OpenSpec.ofChange tlsReadsSpec)

/-- ITS FALSE NEIGHBOUR: 'it returns false'. Refute it at one input. -/
def tlsReadsWrong : ChangeSpec := { name := "tlsReads", fn := fun _ => fun
  | [d1, d2, d3, d4] => { results := [.lit (.bool false)], args := [d1, d2, d3, d4] }
  | _ => none }
def TlsReadsWrongFalsely : Prop := tlsReadsRow.holds Try.pinned (OpenSpec.ofChange tlsReadsWrong)

/-- 'intrusionlaw32.TlsEnds': WHATEVER THE INPUT: true; the input reads as it did. -/
def tlsEndsSpec : ChangeSpec := { name := "tlsEnds", fn := fun _ => fun
  | [d1, d2] => { results := [.lit (.bool true)], args := [d1, d2] }
  | _ => none }
def tlsEndsRow : OpenClaim := { program := "ytgbmbihajkjbmaa", sum := "45740487910ef304db6ba4648d0a5ca6f49bb228e67670f390855b2bb4bfb45a", func := "intrusion/intrusionlaw32.TlsEnds", spec := "tlsEnds", inPlace := ["internal/abi.NoEscape", "internal/bytealg.MakeNoZero"], unfollowed := true, recurses := true, apart := false }
def TlsEndsSaid : Prop := tlsEndsRow.holds Try.pinned (OpenSpec.ofChange tlsEndsSpec)

/-- ITS FALSE NEIGHBOUR: 'it returns false'. Refute it at one input. -/
def tlsEndsWrong : ChangeSpec := { name := "tlsEnds", fn := fun _ => fun
  | [d1, d2] => { results := [.lit (.bool false)], args := [d1, d2] }
  | _ => none }
def TlsEndsWrongFalsely : Prop := tlsEndsRow.holds Try.pinned (OpenSpec.ofChange tlsEndsWrong)

/- THE SECOND FORM. 'bulk': how many values and letters a reading holds, each counted each time it is reached (what is shared counts as often as it is met; a slice's spare places count too). A statement '..UptoSaid' is the law's where the arguments, and the package variables that the reading takes, are together of bulk at most 1048576: NARROWER than '..Said'. Prove '..Said' where nothing that the law and all that it calls make is longer than what came in: it says more and counts as full. Else prove '..UptoSaid'. A law counts once. -/
mutual
def uptoBulk {H : Type} : DataW H → Nat
  | .lit (.string bytes) => bytes.length + 1
  | .lit _ => 1
  | .nil => 1
  | .ptr d => uptoBulk d + 1
  | .slice elems spare => uptoBulkAll elems + uptoBulkAll spare + 1
  | .agg parts => uptoBulkAll parts + 1
  | .iface _ d => uptoBulk d + 1
  | .map entries => uptoBulkEntries entries + 1
  | .held _ => 1
def uptoBulkAll {H : Type} : List (DataW H) → Nat
  | [] => 0
  | d :: r => uptoBulk d + uptoBulkAll r
def uptoBulkEntries {H : Type} : List (Lit × DataW H) → Nat
  | [] => 0
  | x :: r => uptoBulkEntry x + uptoBulkEntries r
def uptoBulkEntry {H : Type} : Lit × DataW H → Nat
  | (.string bytes, d) => bytes.length + uptoBulk d + 1
  | (_, d) => uptoBulk d + 1
 end
def uptoSmall : (H : Type) → List (DataW H) → Bool := fun _ ds => decide (uptoBulkAll ds ≤ 1048576)
def OpenSpec.upto (s : _root_.Go.ChangeSpec) : _root_.Go.OpenSpec := { _root_.Go.OpenSpec.ofChange s with cond := some uptoSmall }

/-- 'intrusionlaw32.TlsFeeds', WHERE WHAT IT READS IS OF BULK AT MOST 1048576: true; the input reads as it did. -/
def tlsFeedsUptoRow : OpenClaim := { program := "ytgbmbihajkjbmaa", sum := "45740487910ef304db6ba4648d0a5ca6f49bb228e67670f390855b2bb4bfb45a", func := "intrusion/intrusionlaw32.TlsFeeds", spec := "tlsFeeds", inPlace := ["internal/abi.NoEscape", "internal/bytealg.MakeNoZero"], unfollowed := true, recurses := true, apart := false, narrowed := true }
def TlsFeedsUptoSaid : Prop := tlsFeedsUptoRow.holds Try.pinned (OpenSpec.upto tlsFeedsSpec)

/-- 'intrusionlaw32.TlsBuilds', WHERE WHAT IT READS IS OF BULK AT MOST 1048576: true; the input reads as it did. -/
def tlsBuildsUptoRow : OpenClaim := { program := "ytgbmbihajkjbmaa", sum := "45740487910ef304db6ba4648d0a5ca6f49bb228e67670f390855b2bb4bfb45a", func := "intrusion/intrusionlaw32.TlsBuilds", spec := "tlsBuilds", inPlace := ["internal/abi.NoEscape", "internal/bytealg.MakeNoZero"], unfollowed := true, recurses := true, apart := false, narrowed := true }
def TlsBuildsUptoSaid : Prop := tlsBuildsUptoRow.holds Try.pinned (OpenSpec.upto tlsBuildsSpec)

/-- 'intrusionlaw32.TlsCuts', WHERE WHAT IT READS IS OF BULK AT MOST 1048576: true; the input reads as it did. -/
def tlsCutsUptoRow : OpenClaim := { program := "ytgbmbihajkjbmaa", sum := "45740487910ef304db6ba4648d0a5ca6f49bb228e67670f390855b2bb4bfb45a", func := "intrusion/intrusionlaw32.TlsCuts", spec := "tlsCuts", inPlace := ["internal/abi.NoEscape", "internal/bytealg.MakeNoZero"], unfollowed := true, recurses := true, apart := false, narrowed := true }
def TlsCutsUptoSaid : Prop := tlsCutsUptoRow.holds Try.pinned (OpenSpec.upto tlsCutsSpec)

/-- 'intrusionlaw32.TlsSplit', WHERE WHAT IT READS IS OF BULK AT MOST 1048576: true; the input reads as it did. -/
def tlsSplitUptoRow : OpenClaim := { program := "ytgbmbihajkjbmaa", sum := "45740487910ef304db6ba4648d0a5ca6f49bb228e67670f390855b2bb4bfb45a", func := "intrusion/intrusionlaw32.TlsSplit", spec := "tlsSplit", inPlace := ["internal/abi.NoEscape", "internal/bytealg.MakeNoZero"], unfollowed := true, recurses := true, apart := false, narrowed := true }
def TlsSplitUptoSaid : Prop := tlsSplitUptoRow.holds Try.pinned (OpenSpec.upto tlsSplitSpec)

/-- 'intrusionlaw32.TlsBytes', WHERE WHAT IT READS IS OF BULK AT MOST 1048576: true; the input reads as it did. -/
def tlsBytesUptoRow : OpenClaim := { program := "ytgbmbihajkjbmaa", sum := "45740487910ef304db6ba4648d0a5ca6f49bb228e67670f390855b2bb4bfb45a", func := "intrusion/intrusionlaw32.TlsBytes", spec := "tlsBytes", inPlace := ["internal/abi.NoEscape", "internal/bytealg.MakeNoZero"], unfollowed := true, recurses := true, apart := false, narrowed := true }
def TlsBytesUptoSaid : Prop := tlsBytesUptoRow.holds Try.pinned (OpenSpec.upto tlsBytesSpec)

/-- 'intrusionlaw32.TlsReads', WHERE WHAT IT READS IS OF BULK AT MOST 1048576: true; the input reads as it did. -/
def tlsReadsUptoRow : OpenClaim := { program := "ytgbmbihajkjbmaa", sum := "45740487910ef304db6ba4648d0a5ca6f49bb228e67670f390855b2bb4bfb45a", func := "intrusion/intrusionlaw32.TlsReads", spec := "tlsReads", inPlace := ["internal/abi.NoEscape", "internal/bytealg.MakeNoZero"], unfollowed := true, recurses := true, apart := false, narrowed := true }
def TlsReadsUptoSaid : Prop := tlsReadsUptoRow.holds Try.pinned (OpenSpec.upto tlsReadsSpec)

/-- 'intrusionlaw32.TlsEnds', WHERE WHAT IT READS IS OF BULK AT MOST 1048576: true; the input reads as it did. -/
def tlsEndsUptoRow : OpenClaim := { program := "ytgbmbihajkjbmaa", sum := "45740487910ef304db6ba4648d0a5ca6f49bb228e67670f390855b2bb4bfb45a", func := "intrusion/intrusionlaw32.TlsEnds", spec := "tlsEnds", inPlace := ["internal/abi.NoEscape", "internal/bytealg.MakeNoZero"], unfollowed := true, recurses := true, apart := false, narrowed := true }
def TlsEndsUptoSaid : Prop := tlsEndsUptoRow.holds Try.pinned (OpenSpec.upto tlsEndsSpec)

end Rows
end Go.Proofs.Ytgbmbihajkjbmaa
