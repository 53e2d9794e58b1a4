/-
  DERIVED. GIVEN WITH THE SEED: THE CARDS: each row of YtbeeejpjnniejaaGreatDoorRows.lean that lists a variable, with what it lists TIED to the program's text (the seventh form; the later family's looks); each row that meets fmt, with fmt's text TOLD by the authors' own Lean function (tested against real Go, not proved from fmt's source: count such statements apart). THE CARD IS WHAT COUNTS. Prove the row's statement (the work); the ties are given (YtbeeejpjnniejaaGreatDoorTie.lean); close each card by the builder's one call (the guide's Derived/Test/ToyasCard.lean, 'card_holds'). Laid BY PROGRAM, IN A SANDBOX (cutbox-door.mjs). By AI agents, Wed Nov 11 2026. No macro, syntax, notation, axiom, sorry.
-/
import Derived.Test.YtbeeejpjnniejaaGreatDoorRows
import GoSem.ClaimSeven
namespace Go.Proofs.YtbeeejpjnniejaaGreatDoor
namespace Rows

/-- THE TIED CARD OF 'vigillaw07.HeadFinds'. -/
def headFindsCard : Claim7 := { stood := { row := headFindsRow, standIns := [], harness := (true, "debfbb2663114d405bf93aa8dd86570e981e5a31d4b9f1d794fbd0129d28956e"), looks := true }, kinds := [], alts := [], laidByText := true, laidKinds := [.data, .pinned], laidTests := true, laidLooks := .later }
def HeadFindsCardSaid : Prop := Claim7.holds Tryz.pinned (.plain (OpenSpec.ofChange headFindsSpec)) headFindsCard

/-- THE TIED CARD OF 'vigillaw07.HeadOrder'. -/
def headOrderCard : Claim7 := { stood := { row := headOrderRow, standIns := [], harness := (true, "debfbb2663114d405bf93aa8dd86570e981e5a31d4b9f1d794fbd0129d28956e"), looks := true }, kinds := [], alts := [], laidByText := true, laidKinds := [.data, .pinned], laidTests := true, laidLooks := .later }
def HeadOrderCardSaid : Prop := Claim7.holds Tryz.pinned (.plain (OpenSpec.ofChange headOrderSpec)) headOrderCard

/-- THE TIED CARD OF 'vigillaw07.HeadHorizon'. -/
def headHorizonCard : Claim7 := { stood := { row := headHorizonRow, standIns := [], harness := (true, "debfbb2663114d405bf93aa8dd86570e981e5a31d4b9f1d794fbd0129d28956e"), looks := true }, kinds := [], alts := [], laidByText := true, laidKinds := [.data, .pinned], laidTests := true, laidLooks := .later }
def HeadHorizonCardSaid : Prop := Claim7.holds Tryz.pinned (.plain (OpenSpec.ofChange headHorizonSpec)) headHorizonCard

/-- THE TIED CARD OF 'vigillaw07.HeadDeletes'. -/
def headDeletesCard : Claim7 := { stood := { row := headDeletesRow, standIns := [], harness := (true, "debfbb2663114d405bf93aa8dd86570e981e5a31d4b9f1d794fbd0129d28956e"), looks := true }, kinds := [], alts := [], laidByText := true, laidKinds := [.data, .pinned], laidTests := true, laidLooks := .later }
def HeadDeletesCardSaid : Prop := Claim7.holds Tryz.pinned (.plain (OpenSpec.ofChange headDeletesSpec)) headDeletesCard

/-- THE TIED CARD OF 'vigillaw08.BlockFlips'. -/
def blockFlipsCard : Claim7 := { stood := { row := blockFlipsRow, standIns := [], harness := (true, "debfbb2663114d405bf93aa8dd86570e981e5a31d4b9f1d794fbd0129d28956e"), looks := true }, kinds := [], alts := [], laidByText := true, laidKinds := [.data, .data, .pinned], laidTests := true, laidLooks := .later }
def BlockFlipsCardSaid : Prop := Claim7.holds Tryz.pinned (.plain (OpenSpec.ofChange blockFlipsSpec)) blockFlipsCard

/-- THE TIED CARD OF 'vigillaw08.BlockBack'. -/
def blockBackCard : Claim7 := { stood := { row := blockBackRow, standIns := [], harness := (true, "debfbb2663114d405bf93aa8dd86570e981e5a31d4b9f1d794fbd0129d28956e"), looks := true }, kinds := [], alts := [], laidByText := true, laidKinds := [.data, .data, .pinned], laidTests := true, laidLooks := .later }
def BlockBackCardSaid : Prop := Claim7.holds Tryz.pinned (.plain (OpenSpec.ofChange blockBackSpec)) blockBackCard

/-- THE TIED CARD OF 'vigillaw08.BlockMany'. -/
def blockManyCard : Claim7 := { stood := { row := blockManyRow, standIns := [], harness := (true, "debfbb2663114d405bf93aa8dd86570e981e5a31d4b9f1d794fbd0129d28956e"), looks := true }, kinds := [], alts := [], laidByText := true, laidKinds := [.data, .data, .pinned], laidTests := true, laidLooks := .later }
def BlockManyCardSaid : Prop := Claim7.holds Tryz.pinned (.plain (OpenSpec.ofChange blockManySpec)) blockManyCard

/-- THE TIED CARD OF 'vigillaw08.BlockRemove'. -/
def blockRemoveCard : Claim7 := { stood := { row := blockRemoveRow, standIns := [], harness := (true, "debfbb2663114d405bf93aa8dd86570e981e5a31d4b9f1d794fbd0129d28956e"), looks := true }, kinds := [], alts := [], laidByText := true, laidKinds := [.data, .data, .pinned], laidTests := true, laidLooks := .later }
def BlockRemoveCardSaid : Prop := Claim7.holds Tryz.pinned (.plain (OpenSpec.ofChange blockRemoveSpec)) blockRemoveCard

/-- THE TIED CARD OF 'vigillaw08.BlockCrash'. -/
def blockCrashCard : Claim7 := { stood := { row := blockCrashRow, standIns := [], harness := (true, "debfbb2663114d405bf93aa8dd86570e981e5a31d4b9f1d794fbd0129d28956e"), looks := true }, kinds := [], alts := [], laidByText := true, laidKinds := [.data, .data, .pinned], laidTests := true, laidLooks := .later }
def BlockCrashCardSaid : Prop := Claim7.holds Tryz.pinned (.plain (OpenSpec.ofChange blockCrashSpec)) blockCrashCard

/-- THE TIED CARD OF 'vigillaw07.HeadRecords'. -/
def headRecordsCard : Claim7 := { stood := { row := headRecordsRow, standIns := [], harness := (true, "debfbb2663114d405bf93aa8dd86570e981e5a31d4b9f1d794fbd0129d28956e"), looks := true }, kinds := [], alts := [], laidByText := true, laidKinds := [.data, .pinned], laidTests := true, laidLooks := .later }
def HeadRecordsCardSaid : Prop := Claim7.holds Tryz.pinned (.plain (OpenSpec.ofChange headRecordsSpec)) headRecordsCard

/-- THE SECOND FORM's CARD OF 'vigillaw07.HeadFinds'. -/
def headFindsUptoCard : Claim7 := { stood := { row := headFindsUptoRow, standIns := [], harness := (true, "debfbb2663114d405bf93aa8dd86570e981e5a31d4b9f1d794fbd0129d28956e"), looks := true }, kinds := [], alts := [], laidByText := true, laidKinds := [.data, .pinned], laidTests := true, laidLooks := .later }
def HeadFindsUptoCardSaid : Prop := Claim7.holds Tryz.pinned (.plain (OpenSpec.upto headFindsSpec)) headFindsUptoCard

/-- THE SECOND FORM's CARD OF 'vigillaw07.HeadOrder'. -/
def headOrderUptoCard : Claim7 := { stood := { row := headOrderUptoRow, standIns := [], harness := (true, "debfbb2663114d405bf93aa8dd86570e981e5a31d4b9f1d794fbd0129d28956e"), looks := true }, kinds := [], alts := [], laidByText := true, laidKinds := [.data, .pinned], laidTests := true, laidLooks := .later }
def HeadOrderUptoCardSaid : Prop := Claim7.holds Tryz.pinned (.plain (OpenSpec.upto headOrderSpec)) headOrderUptoCard

/-- THE SECOND FORM's CARD OF 'vigillaw07.HeadHorizon'. -/
def headHorizonUptoCard : Claim7 := { stood := { row := headHorizonUptoRow, standIns := [], harness := (true, "debfbb2663114d405bf93aa8dd86570e981e5a31d4b9f1d794fbd0129d28956e"), looks := true }, kinds := [], alts := [], laidByText := true, laidKinds := [.data, .pinned], laidTests := true, laidLooks := .later }
def HeadHorizonUptoCardSaid : Prop := Claim7.holds Tryz.pinned (.plain (OpenSpec.upto headHorizonSpec)) headHorizonUptoCard

/-- THE SECOND FORM's CARD OF 'vigillaw07.HeadDeletes'. -/
def headDeletesUptoCard : Claim7 := { stood := { row := headDeletesUptoRow, standIns := [], harness := (true, "debfbb2663114d405bf93aa8dd86570e981e5a31d4b9f1d794fbd0129d28956e"), looks := true }, kinds := [], alts := [], laidByText := true, laidKinds := [.data, .pinned], laidTests := true, laidLooks := .later }
def HeadDeletesUptoCardSaid : Prop := Claim7.holds Tryz.pinned (.plain (OpenSpec.upto headDeletesSpec)) headDeletesUptoCard

/-- THE SECOND FORM's CARD OF 'vigillaw08.BlockFlips'. -/
def blockFlipsUptoCard : Claim7 := { stood := { row := blockFlipsUptoRow, standIns := [], harness := (true, "debfbb2663114d405bf93aa8dd86570e981e5a31d4b9f1d794fbd0129d28956e"), looks := true }, kinds := [], alts := [], laidByText := true, laidKinds := [.data, .data, .pinned], laidTests := true, laidLooks := .later }
def BlockFlipsUptoCardSaid : Prop := Claim7.holds Tryz.pinned (.plain (OpenSpec.upto blockFlipsSpec)) blockFlipsUptoCard

/-- THE SECOND FORM's CARD OF 'vigillaw08.BlockBack'. -/
def blockBackUptoCard : Claim7 := { stood := { row := blockBackUptoRow, standIns := [], harness := (true, "debfbb2663114d405bf93aa8dd86570e981e5a31d4b9f1d794fbd0129d28956e"), looks := true }, kinds := [], alts := [], laidByText := true, laidKinds := [.data, .data, .pinned], laidTests := true, laidLooks := .later }
def BlockBackUptoCardSaid : Prop := Claim7.holds Tryz.pinned (.plain (OpenSpec.upto blockBackSpec)) blockBackUptoCard

/-- THE SECOND FORM's CARD OF 'vigillaw08.BlockMany'. -/
def blockManyUptoCard : Claim7 := { stood := { row := blockManyUptoRow, standIns := [], harness := (true, "debfbb2663114d405bf93aa8dd86570e981e5a31d4b9f1d794fbd0129d28956e"), looks := true }, kinds := [], alts := [], laidByText := true, laidKinds := [.data, .data, .pinned], laidTests := true, laidLooks := .later }
def BlockManyUptoCardSaid : Prop := Claim7.holds Tryz.pinned (.plain (OpenSpec.upto blockManySpec)) blockManyUptoCard

/-- THE SECOND FORM's CARD OF 'vigillaw08.BlockRemove'. -/
def blockRemoveUptoCard : Claim7 := { stood := { row := blockRemoveUptoRow, standIns := [], harness := (true, "debfbb2663114d405bf93aa8dd86570e981e5a31d4b9f1d794fbd0129d28956e"), looks := true }, kinds := [], alts := [], laidByText := true, laidKinds := [.data, .data, .pinned], laidTests := true, laidLooks := .later }
def BlockRemoveUptoCardSaid : Prop := Claim7.holds Tryz.pinned (.plain (OpenSpec.upto blockRemoveSpec)) blockRemoveUptoCard

/-- THE SECOND FORM's CARD OF 'vigillaw08.BlockCrash'. -/
def blockCrashUptoCard : Claim7 := { stood := { row := blockCrashUptoRow, standIns := [], harness := (true, "debfbb2663114d405bf93aa8dd86570e981e5a31d4b9f1d794fbd0129d28956e"), looks := true }, kinds := [], alts := [], laidByText := true, laidKinds := [.data, .data, .pinned], laidTests := true, laidLooks := .later }
def BlockCrashUptoCardSaid : Prop := Claim7.holds Tryz.pinned (.plain (OpenSpec.upto blockCrashSpec)) blockCrashUptoCard

/-- THE SECOND FORM's CARD OF 'vigillaw07.HeadRecords'. -/
def headRecordsUptoCard : Claim7 := { stood := { row := headRecordsUptoRow, standIns := [], harness := (true, "debfbb2663114d405bf93aa8dd86570e981e5a31d4b9f1d794fbd0129d28956e"), looks := true }, kinds := [], alts := [], laidByText := true, laidKinds := [.data, .pinned], laidTests := true, laidLooks := .later }
def HeadRecordsUptoCardSaid : Prop := Claim7.holds Tryz.pinned (.plain (OpenSpec.upto headRecordsSpec)) headRecordsUptoCard
end Rows
end Go.Proofs.YtbeeejpjnniejaaGreatDoor
