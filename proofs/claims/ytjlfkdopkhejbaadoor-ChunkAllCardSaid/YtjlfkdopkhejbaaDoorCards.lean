/-
  DERIVED. GIVEN WITH THE SEED: THE CARDS: each row of YtjlfkdopkhejbaaDoorRows.lean that lists a variable, with what it lists TIED to the program's text (the seventh form; the later family's looks); each row that meets fmt, with fmt's text TOLD by the authors' own Lean function (tested against real Go, not proved from fmt's source: count such statements apart). THE CARD IS WHAT COUNTS. Prove the row's statement (the work); the ties are given (YtjlfkdopkhejbaaDoorTie.lean); close each card by the builder's one call (the guide's Derived/Test/ToyasCard.lean, 'card_holds'). Laid BY PROGRAM, IN A SANDBOX (cutbox-door.mjs). By AI agents, Wed Nov 11 2026. No macro, syntax, notation, axiom, sorry.
-/
import Derived.Test.YtjlfkdopkhejbaaDoorRows
import GoSem.ClaimSeven
namespace Go.Proofs.YtjlfkdopkhejbaaDoor
namespace Rows

/-- THE TIED CARD OF 'vigillaw05.ChunkBack'. -/
def chunkBackCard : Claim7 := { stood := { row := chunkBackRow, standIns := [], harness := (true, "1ebcf8208e09b08e38831e1fccf6d64792653f69a42f317978268fa2599f9986"), looks := false }, kinds := [], alts := [], laidByText := true, laidKinds := [.data], laidTests := true, laidLooks := .later }
def ChunkBackCardSaid : Prop := Claim7.holds Tryd.pinned (.plain (OpenSpec.ofChange chunkBackSpec)) chunkBackCard

/-- THE TIED CARD OF 'vigillaw05.ChunkDecode'. -/
def chunkDecodeCard : Claim7 := { stood := { row := chunkDecodeRow, standIns := [], harness := (true, "1ebcf8208e09b08e38831e1fccf6d64792653f69a42f317978268fa2599f9986"), looks := false }, kinds := [], alts := [], laidByText := true, laidKinds := [.data], laidTests := true, laidLooks := .later }
def ChunkDecodeCardSaid : Prop := Claim7.holds Tryd.pinned (.plain (OpenSpec.ofChange chunkDecodeSpec)) chunkDecodeCard

/-- THE TIED CARD OF 'vigillaw05.ChunkAll'. -/
def chunkAllCard : Claim7 := { stood := { row := chunkAllRow, standIns := [], harness := (true, "1ebcf8208e09b08e38831e1fccf6d64792653f69a42f317978268fa2599f9986"), looks := false }, kinds := [], alts := [], laidByText := true, laidKinds := [.data], laidTests := true, laidLooks := .later }
def ChunkAllCardSaid : Prop := Claim7.holds Tryd.pinned (.plain (OpenSpec.ofChange chunkAllSpec)) chunkAllCard

/-- THE TIED CARD OF 'vigillaw05.ChunkUnlike'. -/
def chunkUnlikeCard : Claim7 := { stood := { row := chunkUnlikeRow, standIns := [], harness := (true, "1ebcf8208e09b08e38831e1fccf6d64792653f69a42f317978268fa2599f9986"), looks := false }, kinds := [], alts := [], laidByText := true, laidKinds := [.data], laidTests := true, laidLooks := .later }
def ChunkUnlikeCardSaid : Prop := Claim7.holds Tryd.pinned (.plain (OpenSpec.ofChange chunkUnlikeSpec)) chunkUnlikeCard

/-- THE TIED CARD OF 'vigillaw05.ChunkSteady'. -/
def chunkSteadyCard : Claim7 := { stood := { row := chunkSteadyRow, standIns := [], harness := (true, "1ebcf8208e09b08e38831e1fccf6d64792653f69a42f317978268fa2599f9986"), looks := false }, kinds := [], alts := [], laidByText := true, laidKinds := [.data], laidTests := true, laidLooks := .later }
def ChunkSteadyCardSaid : Prop := Claim7.holds Tryd.pinned (.plain (OpenSpec.ofChange chunkSteadySpec)) chunkSteadyCard

/-- THE TIED CARD OF 'vigillaw05.ChunkBegins'. -/
def chunkBeginsCard : Claim7 := { stood := { row := chunkBeginsRow, standIns := [], harness := (true, "1ebcf8208e09b08e38831e1fccf6d64792653f69a42f317978268fa2599f9986"), looks := false }, kinds := [], alts := [], laidByText := true, laidKinds := [.data], laidTests := true, laidLooks := .later }
def ChunkBeginsCardSaid : Prop := Claim7.holds Tryd.pinned (.plain (OpenSpec.ofChange chunkBeginsSpec)) chunkBeginsCard

/-- THE TIED CARD OF 'vigillaw05.ChunkBits'. -/
def chunkBitsCard : Claim7 := { stood := { row := chunkBitsRow, standIns := [], harness := (true, "1ebcf8208e09b08e38831e1fccf6d64792653f69a42f317978268fa2599f9986"), looks := false }, kinds := [], alts := [], laidByText := true, laidKinds := [.data], laidTests := true, laidLooks := .later }
def ChunkBitsCardSaid : Prop := Claim7.holds Tryd.pinned (.plain (OpenSpec.ofChange chunkBitsSpec)) chunkBitsCard

/-- THE SECOND FORM's CARD OF 'vigillaw05.ChunkBack'. -/
def chunkBackUptoCard : Claim7 := { stood := { row := chunkBackUptoRow, standIns := [], harness := (true, "1ebcf8208e09b08e38831e1fccf6d64792653f69a42f317978268fa2599f9986"), looks := false }, kinds := [], alts := [], laidByText := true, laidKinds := [.data], laidTests := true, laidLooks := .later }
def ChunkBackUptoCardSaid : Prop := Claim7.holds Tryd.pinned (.plain (OpenSpec.upto chunkBackSpec)) chunkBackUptoCard

/-- THE SECOND FORM's CARD OF 'vigillaw05.ChunkDecode'. -/
def chunkDecodeUptoCard : Claim7 := { stood := { row := chunkDecodeUptoRow, standIns := [], harness := (true, "1ebcf8208e09b08e38831e1fccf6d64792653f69a42f317978268fa2599f9986"), looks := false }, kinds := [], alts := [], laidByText := true, laidKinds := [.data], laidTests := true, laidLooks := .later }
def ChunkDecodeUptoCardSaid : Prop := Claim7.holds Tryd.pinned (.plain (OpenSpec.upto chunkDecodeSpec)) chunkDecodeUptoCard

/-- THE SECOND FORM's CARD OF 'vigillaw05.ChunkAll'. -/
def chunkAllUptoCard : Claim7 := { stood := { row := chunkAllUptoRow, standIns := [], harness := (true, "1ebcf8208e09b08e38831e1fccf6d64792653f69a42f317978268fa2599f9986"), looks := false }, kinds := [], alts := [], laidByText := true, laidKinds := [.data], laidTests := true, laidLooks := .later }
def ChunkAllUptoCardSaid : Prop := Claim7.holds Tryd.pinned (.plain (OpenSpec.upto chunkAllSpec)) chunkAllUptoCard

/-- THE SECOND FORM's CARD OF 'vigillaw05.ChunkUnlike'. -/
def chunkUnlikeUptoCard : Claim7 := { stood := { row := chunkUnlikeUptoRow, standIns := [], harness := (true, "1ebcf8208e09b08e38831e1fccf6d64792653f69a42f317978268fa2599f9986"), looks := false }, kinds := [], alts := [], laidByText := true, laidKinds := [.data], laidTests := true, laidLooks := .later }
def ChunkUnlikeUptoCardSaid : Prop := Claim7.holds Tryd.pinned (.plain (OpenSpec.upto chunkUnlikeSpec)) chunkUnlikeUptoCard

/-- THE SECOND FORM's CARD OF 'vigillaw05.ChunkSteady'. -/
def chunkSteadyUptoCard : Claim7 := { stood := { row := chunkSteadyUptoRow, standIns := [], harness := (true, "1ebcf8208e09b08e38831e1fccf6d64792653f69a42f317978268fa2599f9986"), looks := false }, kinds := [], alts := [], laidByText := true, laidKinds := [.data], laidTests := true, laidLooks := .later }
def ChunkSteadyUptoCardSaid : Prop := Claim7.holds Tryd.pinned (.plain (OpenSpec.upto chunkSteadySpec)) chunkSteadyUptoCard

/-- THE SECOND FORM's CARD OF 'vigillaw05.ChunkBegins'. -/
def chunkBeginsUptoCard : Claim7 := { stood := { row := chunkBeginsUptoRow, standIns := [], harness := (true, "1ebcf8208e09b08e38831e1fccf6d64792653f69a42f317978268fa2599f9986"), looks := false }, kinds := [], alts := [], laidByText := true, laidKinds := [.data], laidTests := true, laidLooks := .later }
def ChunkBeginsUptoCardSaid : Prop := Claim7.holds Tryd.pinned (.plain (OpenSpec.upto chunkBeginsSpec)) chunkBeginsUptoCard

/-- THE SECOND FORM's CARD OF 'vigillaw05.ChunkBits'. -/
def chunkBitsUptoCard : Claim7 := { stood := { row := chunkBitsUptoRow, standIns := [], harness := (true, "1ebcf8208e09b08e38831e1fccf6d64792653f69a42f317978268fa2599f9986"), looks := false }, kinds := [], alts := [], laidByText := true, laidKinds := [.data], laidTests := true, laidLooks := .later }
def ChunkBitsUptoCardSaid : Prop := Claim7.holds Tryd.pinned (.plain (OpenSpec.upto chunkBitsSpec)) chunkBitsUptoCard
end Rows
end Go.Proofs.YtjlfkdopkhejbaaDoor
