/-
  DERIVED. GIVEN WITH THE SEED: THE CARDS: each row of YtchiagnggnblaaaDoorRows.lean that lists a variable, with what it lists TIED to the program's text (the seventh form; the later family's looks); each row that meets fmt, with fmt's text TOLD by the authors' own Lean function (tested against real Go, not proved from fmt's source: count such statements apart). THE CARD IS WHAT COUNTS. Prove the row's statement (the work); the ties are given (YtchiagnggnblaaaDoorTie.lean); close each card by the builder's one call (the guide's Derived/Test/ToyasCard.lean, 'card_holds'). Laid BY PROGRAM, IN A SANDBOX (cutbox-door.mjs). By AI agents, Wed Nov 11 2026. No macro, syntax, notation, axiom, sorry.
-/
import Derived.Test.YtchiagnggnblaaaDoorRows
import GoSem.ClaimSeven
namespace Go.Proofs.YtchiagnggnblaaaDoor
namespace Rows

/-- THE TIED CARD OF 'intrusionlaw21.ConnectionDelivers'. -/
def connectionDeliversCard : Claim7 := { stood := { row := connectionDeliversRow, standIns := [], harness := (true, "2603f26126b3dd7bd0096c27de42724fbd66d1143d38b3d16ac71cca85edd443"), looks := false }, kinds := [], alts := [], laidByText := true, laidKinds := [.data], laidTests := true, laidLooks := .later }
def ConnectionDeliversCardSaid : Prop := Claim7.holds Tryd.pinned (.plain (OpenSpec.ofChange connectionDeliversSpec)) connectionDeliversCard

/-- THE TIED CARD OF 'intrusionlaw21.ConnectionOffsets'. -/
def connectionOffsetsCard : Claim7 := { stood := { row := connectionOffsetsRow, standIns := [], harness := (true, "2603f26126b3dd7bd0096c27de42724fbd66d1143d38b3d16ac71cca85edd443"), looks := false }, kinds := [], alts := [], laidByText := true, laidKinds := [.data], laidTests := true, laidLooks := .later }
def ConnectionOffsetsCardSaid : Prop := Claim7.holds Tryd.pinned (.plain (OpenSpec.ofChange connectionOffsetsSpec)) connectionOffsetsCard

/-- THE TIED CARD OF 'intrusionlaw21.ConnectionRejects'. -/
def connectionRejectsCard : Claim7 := { stood := { row := connectionRejectsRow, standIns := [], harness := (true, "2603f26126b3dd7bd0096c27de42724fbd66d1143d38b3d16ac71cca85edd443"), looks := false }, kinds := [], alts := [], laidByText := true, laidKinds := [.data], laidTests := true, laidLooks := .later }
def ConnectionRejectsCardSaid : Prop := Claim7.holds Tryd.pinned (.plain (OpenSpec.ofChange connectionRejectsSpec)) connectionRejectsCard

/-- THE TIED CARD OF 'intrusionlaw21.ConnectionShifts'. -/
def connectionShiftsCard : Claim7 := { stood := { row := connectionShiftsRow, standIns := [], harness := (true, "2603f26126b3dd7bd0096c27de42724fbd66d1143d38b3d16ac71cca85edd443"), looks := false }, kinds := [], alts := [], laidByText := true, laidKinds := [.data], laidTests := true, laidLooks := .later }
def ConnectionShiftsCardSaid : Prop := Claim7.holds Tryd.pinned (.plain (OpenSpec.ofChange connectionShiftsSpec)) connectionShiftsCard

/-- THE SECOND FORM's CARD OF 'intrusionlaw21.ConnectionDelivers'. -/
def connectionDeliversUptoCard : Claim7 := { stood := { row := connectionDeliversUptoRow, standIns := [], harness := (true, "2603f26126b3dd7bd0096c27de42724fbd66d1143d38b3d16ac71cca85edd443"), looks := false }, kinds := [], alts := [], laidByText := true, laidKinds := [.data], laidTests := true, laidLooks := .later }
def ConnectionDeliversUptoCardSaid : Prop := Claim7.holds Tryd.pinned (.plain (OpenSpec.upto connectionDeliversSpec)) connectionDeliversUptoCard

/-- THE SECOND FORM's CARD OF 'intrusionlaw21.ConnectionOffsets'. -/
def connectionOffsetsUptoCard : Claim7 := { stood := { row := connectionOffsetsUptoRow, standIns := [], harness := (true, "2603f26126b3dd7bd0096c27de42724fbd66d1143d38b3d16ac71cca85edd443"), looks := false }, kinds := [], alts := [], laidByText := true, laidKinds := [.data], laidTests := true, laidLooks := .later }
def ConnectionOffsetsUptoCardSaid : Prop := Claim7.holds Tryd.pinned (.plain (OpenSpec.upto connectionOffsetsSpec)) connectionOffsetsUptoCard

/-- THE SECOND FORM's CARD OF 'intrusionlaw21.ConnectionRejects'. -/
def connectionRejectsUptoCard : Claim7 := { stood := { row := connectionRejectsUptoRow, standIns := [], harness := (true, "2603f26126b3dd7bd0096c27de42724fbd66d1143d38b3d16ac71cca85edd443"), looks := false }, kinds := [], alts := [], laidByText := true, laidKinds := [.data], laidTests := true, laidLooks := .later }
def ConnectionRejectsUptoCardSaid : Prop := Claim7.holds Tryd.pinned (.plain (OpenSpec.upto connectionRejectsSpec)) connectionRejectsUptoCard

/-- THE SECOND FORM's CARD OF 'intrusionlaw21.ConnectionShifts'. -/
def connectionShiftsUptoCard : Claim7 := { stood := { row := connectionShiftsUptoRow, standIns := [], harness := (true, "2603f26126b3dd7bd0096c27de42724fbd66d1143d38b3d16ac71cca85edd443"), looks := false }, kinds := [], alts := [], laidByText := true, laidKinds := [.data], laidTests := true, laidLooks := .later }
def ConnectionShiftsUptoCardSaid : Prop := Claim7.holds Tryd.pinned (.plain (OpenSpec.upto connectionShiftsSpec)) connectionShiftsUptoCard
end Rows
end Go.Proofs.YtchiagnggnblaaaDoor
