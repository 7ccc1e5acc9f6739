/-
  DERIVED. GIVEN WITH THE SEED: THE CARDS: each row of YtchiagnggnblaaaGreatDoorRows.lean that lists a variable, with what it lists TIED to the program's text (the seventh form; the later family's looks); each row that meets fmt, with fmt's text TOLD by the authors' own Lean function (tested against real Go, not proved from fmt's source: count such statements apart). THE CARD IS WHAT COUNTS. Prove the row's statement (the work); the ties are given (YtchiagnggnblaaaGreatDoorTie.lean); close each card by the builder's one call (the guide's Derived/Test/ToyasCard.lean, 'card_holds'). Laid BY PROGRAM, IN A SANDBOX (cutbox-door.mjs). By AI agents, Wed Nov 11 2026. No macro, syntax, notation, axiom, sorry.
-/
import Derived.Test.YtchiagnggnblaaaGreatDoorRows
import GoSem.ClaimSeven
namespace Go.Proofs.YtchiagnggnblaaaGreatDoor
namespace Rows

/-- THE TIED CARD OF 'intrusionlaw21.ConnectionSegments'. -/
def connectionSegmentsCard : Claim7 := { stood := { row := connectionSegmentsRow, standIns := [], harness := (true, "576aa4585e20431edbcf385a5c2d4409c88260c9d78c6ddff12c6d153e049a95"), looks := false }, kinds := [], alts := [], laidByText := true, laidKinds := [.data], laidTests := true, laidLooks := .later }
def ConnectionSegmentsCardSaid : Prop := Claim7.holds Tryz.pinned (.plain (OpenSpec.ofChange connectionSegmentsSpec)) connectionSegmentsCard

/-- THE SECOND FORM's CARD OF 'intrusionlaw21.ConnectionSegments'. -/
def connectionSegmentsUptoCard : Claim7 := { stood := { row := connectionSegmentsUptoRow, standIns := [], harness := (true, "576aa4585e20431edbcf385a5c2d4409c88260c9d78c6ddff12c6d153e049a95"), looks := false }, kinds := [], alts := [], laidByText := true, laidKinds := [.data], laidTests := true, laidLooks := .later }
def ConnectionSegmentsUptoCardSaid : Prop := Claim7.holds Tryz.pinned (.plain (OpenSpec.upto connectionSegmentsSpec)) connectionSegmentsUptoCard
end Rows
end Go.Proofs.YtchiagnggnblaaaGreatDoor
