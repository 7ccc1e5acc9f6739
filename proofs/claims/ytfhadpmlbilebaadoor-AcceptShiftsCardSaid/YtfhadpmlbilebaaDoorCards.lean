/-
  DERIVED. GIVEN WITH THE SEED: THE CARDS: each row of YtfhadpmlbilebaaDoorRows.lean that lists a variable, with what it lists TIED to the program's text (the seventh form; the later family's looks); each row that meets fmt, with fmt's text TOLD by the authors' own Lean function (tested against real Go, not proved from fmt's source: count such statements apart). THE CARD IS WHAT COUNTS. Prove the row's statement (the work); the ties are given (YtfhadpmlbilebaaDoorTie.lean); close each card by the builder's one call (the guide's Derived/Test/ToyasCard.lean, 'card_holds'). Laid BY PROGRAM, IN A SANDBOX (cutbox-door.mjs). By AI agents, Wed Nov 11 2026. No macro, syntax, notation, axiom, sorry.
-/
import Derived.Test.YtfhadpmlbilebaaDoorRows
import GoSem.ClaimSeven
namespace Go.Proofs.YtfhadpmlbilebaaDoor
namespace Rows

/-- THE TIED CARD OF 'intrusionlaw19.AcceptPackets'. -/
def acceptPacketsCard : Claim7 := { stood := { row := acceptPacketsRow, standIns := [], harness := (true, "08e97c089f51678cac24f7211fe1c2ce0652b76e637cab8d21ad2956079cc1ab"), looks := false }, kinds := [], alts := [], laidByText := true, laidKinds := [.data], laidTests := true, laidLooks := .later }
def AcceptPacketsCardSaid : Prop := Claim7.holds Tryd.pinned (.plain (OpenSpec.ofChange acceptPacketsSpec)) acceptPacketsCard

/-- THE TIED CARD OF 'intrusionlaw19.AcceptExact'. -/
def acceptExactCard : Claim7 := { stood := { row := acceptExactRow, standIns := [], harness := (true, "08e97c089f51678cac24f7211fe1c2ce0652b76e637cab8d21ad2956079cc1ab"), looks := false }, kinds := [], alts := [], laidByText := true, laidKinds := [.data], laidTests := true, laidLooks := .later }
def AcceptExactCardSaid : Prop := Claim7.holds Tryd.pinned (.plain (OpenSpec.ofChange acceptExactSpec)) acceptExactCard

/-- THE TIED CARD OF 'intrusionlaw19.AcceptWithin'. -/
def acceptWithinCard : Claim7 := { stood := { row := acceptWithinRow, standIns := [], harness := (true, "08e97c089f51678cac24f7211fe1c2ce0652b76e637cab8d21ad2956079cc1ab"), looks := false }, kinds := [], alts := [], laidByText := true, laidKinds := [.data], laidTests := true, laidLooks := .later }
def AcceptWithinCardSaid : Prop := Claim7.holds Tryd.pinned (.plain (OpenSpec.ofChange acceptWithinSpec)) acceptWithinCard

/-- THE TIED CARD OF 'intrusionlaw19.AcceptCounts'. -/
def acceptCountsCard : Claim7 := { stood := { row := acceptCountsRow, standIns := [], harness := (true, "08e97c089f51678cac24f7211fe1c2ce0652b76e637cab8d21ad2956079cc1ab"), looks := false }, kinds := [], alts := [], laidByText := true, laidKinds := [.data], laidTests := true, laidLooks := .later }
def AcceptCountsCardSaid : Prop := Claim7.holds Tryd.pinned (.plain (OpenSpec.ofChange acceptCountsSpec)) acceptCountsCard

/-- THE TIED CARD OF 'intrusionlaw19.AcceptShifts'. -/
def acceptShiftsCard : Claim7 := { stood := { row := acceptShiftsRow, standIns := [], harness := (true, "08e97c089f51678cac24f7211fe1c2ce0652b76e637cab8d21ad2956079cc1ab"), looks := false }, kinds := [], alts := [], laidByText := true, laidKinds := [.data], laidTests := true, laidLooks := .later }
def AcceptShiftsCardSaid : Prop := Claim7.holds Tryd.pinned (.plain (OpenSpec.ofChange acceptShiftsSpec)) acceptShiftsCard

/-- THE SECOND FORM's CARD OF 'intrusionlaw19.AcceptPackets'. -/
def acceptPacketsUptoCard : Claim7 := { stood := { row := acceptPacketsUptoRow, standIns := [], harness := (true, "08e97c089f51678cac24f7211fe1c2ce0652b76e637cab8d21ad2956079cc1ab"), looks := false }, kinds := [], alts := [], laidByText := true, laidKinds := [.data], laidTests := true, laidLooks := .later }
def AcceptPacketsUptoCardSaid : Prop := Claim7.holds Tryd.pinned (.plain (OpenSpec.upto acceptPacketsSpec)) acceptPacketsUptoCard

/-- THE SECOND FORM's CARD OF 'intrusionlaw19.AcceptExact'. -/
def acceptExactUptoCard : Claim7 := { stood := { row := acceptExactUptoRow, standIns := [], harness := (true, "08e97c089f51678cac24f7211fe1c2ce0652b76e637cab8d21ad2956079cc1ab"), looks := false }, kinds := [], alts := [], laidByText := true, laidKinds := [.data], laidTests := true, laidLooks := .later }
def AcceptExactUptoCardSaid : Prop := Claim7.holds Tryd.pinned (.plain (OpenSpec.upto acceptExactSpec)) acceptExactUptoCard

/-- THE SECOND FORM's CARD OF 'intrusionlaw19.AcceptWithin'. -/
def acceptWithinUptoCard : Claim7 := { stood := { row := acceptWithinUptoRow, standIns := [], harness := (true, "08e97c089f51678cac24f7211fe1c2ce0652b76e637cab8d21ad2956079cc1ab"), looks := false }, kinds := [], alts := [], laidByText := true, laidKinds := [.data], laidTests := true, laidLooks := .later }
def AcceptWithinUptoCardSaid : Prop := Claim7.holds Tryd.pinned (.plain (OpenSpec.upto acceptWithinSpec)) acceptWithinUptoCard

/-- THE SECOND FORM's CARD OF 'intrusionlaw19.AcceptCounts'. -/
def acceptCountsUptoCard : Claim7 := { stood := { row := acceptCountsUptoRow, standIns := [], harness := (true, "08e97c089f51678cac24f7211fe1c2ce0652b76e637cab8d21ad2956079cc1ab"), looks := false }, kinds := [], alts := [], laidByText := true, laidKinds := [.data], laidTests := true, laidLooks := .later }
def AcceptCountsUptoCardSaid : Prop := Claim7.holds Tryd.pinned (.plain (OpenSpec.upto acceptCountsSpec)) acceptCountsUptoCard

/-- THE SECOND FORM's CARD OF 'intrusionlaw19.AcceptShifts'. -/
def acceptShiftsUptoCard : Claim7 := { stood := { row := acceptShiftsUptoRow, standIns := [], harness := (true, "08e97c089f51678cac24f7211fe1c2ce0652b76e637cab8d21ad2956079cc1ab"), looks := false }, kinds := [], alts := [], laidByText := true, laidKinds := [.data], laidTests := true, laidLooks := .later }
def AcceptShiftsUptoCardSaid : Prop := Claim7.holds Tryd.pinned (.plain (OpenSpec.upto acceptShiftsSpec)) acceptShiftsUptoCard
end Rows
end Go.Proofs.YtfhadpmlbilebaaDoor
