/-
  DERIVED. GIVEN WITH THE SEED: THE CARDS: each row of YtfchnpdgnhoffaaGreatDoorRows.lean that lists a variable, with what it lists TIED to the program's text (the seventh form; the later family's looks); each row that meets fmt, with fmt's text TOLD by the authors' own Lean function (tested against real Go, not proved from fmt's source: count such statements apart). THE CARD IS WHAT COUNTS. Prove the row's statement (the work); the ties are given (YtfchnpdgnhoffaaGreatDoorTie.lean); close each card by the builder's one call (the guide's Derived/Test/ToyasCard.lean, 'card_holds'). Laid BY PROGRAM, IN A SANDBOX (cutbox-door.mjs). By AI agents, Wed Nov 11 2026. No macro, syntax, notation, axiom, sorry.
-/
import Derived.Test.YtfchnpdgnhoffaaGreatDoorRows
import GoSem.ClaimSeven
namespace Go.Proofs.YtfchnpdgnhoffaaGreatDoor
namespace Rows

/-- THE TIED CARD OF 'vigillaw06.WalGreat'. -/
def walGreatCard : Claim7 := { stood := { row := walGreatRow, standIns := [], harness := (true, "fe9c50b6872df760f6bccacf30e96feb89ca16fc94b11803592285bf301edd04"), looks := true }, kinds := [], alts := [], laidByText := true, laidKinds := [.data, .data, .data, .sentinel, .sentinel], laidTests := true, laidLooks := .later }
def WalGreatCardSaid : Prop := Claim7.holds Tryz.pinned (.plain (OpenSpec.ofChange walGreatSpec)) walGreatCard

/-- THE TIED CARD OF 'vigillaw06.WalTorn'. -/
def walTornCard : Claim7 := { stood := { row := walTornRow, standIns := [], harness := (true, "fe9c50b6872df760f6bccacf30e96feb89ca16fc94b11803592285bf301edd04"), looks := true }, kinds := [], alts := [], laidByText := true, laidKinds := [.data, .data, .data, .sentinel, .sentinel], laidTests := true, laidLooks := .later }
def WalTornCardSaid : Prop := Claim7.holds Tryz.pinned (.plain (OpenSpec.ofChange walTornSpec)) walTornCard

/-- THE TIED CARD OF 'vigillaw06.WalResumes'. -/
def walResumesCard : Claim7 := { stood := { row := walResumesRow, standIns := [], harness := (true, "fe9c50b6872df760f6bccacf30e96feb89ca16fc94b11803592285bf301edd04"), looks := true }, kinds := [], alts := [], laidByText := true, laidKinds := [.data, .data, .data, .sentinel, .sentinel], laidTests := true, laidLooks := .later }
def WalResumesCardSaid : Prop := Claim7.holds Tryz.pinned (.plain (OpenSpec.ofChange walResumesSpec)) walResumesCard

/-- THE TIED CARD OF 'vigillaw06.WalKeeps'. -/
def walKeepsCard : Claim7 := { stood := { row := walKeepsRow, standIns := [], harness := (true, "fe9c50b6872df760f6bccacf30e96feb89ca16fc94b11803592285bf301edd04"), looks := true }, kinds := [], alts := [], laidByText := true, laidKinds := [.data, .data, .data, .sentinel, .sentinel], laidTests := true, laidLooks := .later }
def WalKeepsCardSaid : Prop := Claim7.holds Tryz.pinned (.plain (OpenSpec.ofChange walKeepsSpec)) walKeepsCard

/-- THE TIED CARD OF 'vigillaw06.WalOpen'. -/
def walOpenCard : Claim7 := { stood := { row := walOpenRow, standIns := [], harness := (true, "fe9c50b6872df760f6bccacf30e96feb89ca16fc94b11803592285bf301edd04"), looks := true }, kinds := [], alts := [], laidByText := true, laidKinds := [.data, .data, .data, .sentinel, .sentinel], laidTests := true, laidLooks := .later }
def WalOpenCardSaid : Prop := Claim7.holds Tryz.pinned (.plain (OpenSpec.ofChange walOpenSpec)) walOpenCard

/-- THE TIED CARD OF 'vigillaw06.WalStops'. -/
def walStopsCard : Claim7 := { stood := { row := walStopsRow, standIns := [], harness := (true, "fe9c50b6872df760f6bccacf30e96feb89ca16fc94b11803592285bf301edd04"), looks := true }, kinds := [], alts := [], laidByText := true, laidKinds := [.data, .data, .data, .sentinel, .sentinel], laidTests := true, laidLooks := .later }
def WalStopsCardSaid : Prop := Claim7.holds Tryz.pinned (.plain (OpenSpec.ofChange walStopsSpec)) walStopsCard

/-- THE SECOND FORM's CARD OF 'vigillaw06.WalGreat'. -/
def walGreatUptoCard : Claim7 := { stood := { row := walGreatUptoRow, standIns := [], harness := (true, "fe9c50b6872df760f6bccacf30e96feb89ca16fc94b11803592285bf301edd04"), looks := true }, kinds := [], alts := [], laidByText := true, laidKinds := [.data, .data, .data, .sentinel, .sentinel], laidTests := true, laidLooks := .later }
def WalGreatUptoCardSaid : Prop := Claim7.holds Tryz.pinned (.plain (OpenSpec.upto walGreatSpec)) walGreatUptoCard

/-- THE SECOND FORM's CARD OF 'vigillaw06.WalTorn'. -/
def walTornUptoCard : Claim7 := { stood := { row := walTornUptoRow, standIns := [], harness := (true, "fe9c50b6872df760f6bccacf30e96feb89ca16fc94b11803592285bf301edd04"), looks := true }, kinds := [], alts := [], laidByText := true, laidKinds := [.data, .data, .data, .sentinel, .sentinel], laidTests := true, laidLooks := .later }
def WalTornUptoCardSaid : Prop := Claim7.holds Tryz.pinned (.plain (OpenSpec.upto walTornSpec)) walTornUptoCard

/-- THE SECOND FORM's CARD OF 'vigillaw06.WalResumes'. -/
def walResumesUptoCard : Claim7 := { stood := { row := walResumesUptoRow, standIns := [], harness := (true, "fe9c50b6872df760f6bccacf30e96feb89ca16fc94b11803592285bf301edd04"), looks := true }, kinds := [], alts := [], laidByText := true, laidKinds := [.data, .data, .data, .sentinel, .sentinel], laidTests := true, laidLooks := .later }
def WalResumesUptoCardSaid : Prop := Claim7.holds Tryz.pinned (.plain (OpenSpec.upto walResumesSpec)) walResumesUptoCard

/-- THE SECOND FORM's CARD OF 'vigillaw06.WalKeeps'. -/
def walKeepsUptoCard : Claim7 := { stood := { row := walKeepsUptoRow, standIns := [], harness := (true, "fe9c50b6872df760f6bccacf30e96feb89ca16fc94b11803592285bf301edd04"), looks := true }, kinds := [], alts := [], laidByText := true, laidKinds := [.data, .data, .data, .sentinel, .sentinel], laidTests := true, laidLooks := .later }
def WalKeepsUptoCardSaid : Prop := Claim7.holds Tryz.pinned (.plain (OpenSpec.upto walKeepsSpec)) walKeepsUptoCard

/-- THE SECOND FORM's CARD OF 'vigillaw06.WalOpen'. -/
def walOpenUptoCard : Claim7 := { stood := { row := walOpenUptoRow, standIns := [], harness := (true, "fe9c50b6872df760f6bccacf30e96feb89ca16fc94b11803592285bf301edd04"), looks := true }, kinds := [], alts := [], laidByText := true, laidKinds := [.data, .data, .data, .sentinel, .sentinel], laidTests := true, laidLooks := .later }
def WalOpenUptoCardSaid : Prop := Claim7.holds Tryz.pinned (.plain (OpenSpec.upto walOpenSpec)) walOpenUptoCard

/-- THE SECOND FORM's CARD OF 'vigillaw06.WalStops'. -/
def walStopsUptoCard : Claim7 := { stood := { row := walStopsUptoRow, standIns := [], harness := (true, "fe9c50b6872df760f6bccacf30e96feb89ca16fc94b11803592285bf301edd04"), looks := true }, kinds := [], alts := [], laidByText := true, laidKinds := [.data, .data, .data, .sentinel, .sentinel], laidTests := true, laidLooks := .later }
def WalStopsUptoCardSaid : Prop := Claim7.holds Tryz.pinned (.plain (OpenSpec.upto walStopsSpec)) walStopsUptoCard
end Rows
end Go.Proofs.YtfchnpdgnhoffaaGreatDoor
