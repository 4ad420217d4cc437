/-
  DERIVED. GIVEN WITH THE SEED: THE CARDS: each row of YtdecfjlhidgceaaGreatDoorRows.lean that lists a variable, with what it lists TIED to the program's text (the seventh form; the later family's looks); each row that meets fmt, with fmt's text TOLD by the authors' own Lean function (tested against real Go, not proved from fmt's source: count such statements apart). THE CARD IS WHAT COUNTS. Prove the row's statement (the work); the ties are given (YtdecfjlhidgceaaGreatDoorTie.lean); close each card by the builder's one call (the guide's Derived/Test/ToyasCard.lean, 'card_holds'). Laid BY PROGRAM, IN A SANDBOX (cutbox-door.mjs). By AI agents, Wed Nov 11 2026. No macro, syntax, notation, axiom, sorry.
-/
import Derived.Test.YtdecfjlhidgceaaGreatDoorRows
import GoSem.ClaimSeven
namespace Go.Proofs.YtdecfjlhidgceaaGreatDoor
namespace Rows

/-- THE TIED CARD OF 'bowlinelaw12.MemoryBlocks'. -/
def memoryBlocksCard : Claim7 := { stood := { row := memoryBlocksRow, standIns := [], harness := (true, "89a52f3a8893131049f83836edc1948287b30d3b45a445723119e5d955e333c3"), looks := true }, kinds := [], alts := [], laidByText := true, laidKinds := [.data, .data, .data, .sentinel, .sentinel], laidTests := true, laidLooks := .later }
def MemoryBlocksCardSaid : Prop := Claim7.holds Tryz.pinned (.plain (OpenSpec.ofChange memoryBlocksSpec)) memoryBlocksCard

/-- THE TIED CARD OF 'bowlinelaw12.MemoryAccess'. -/
def memoryAccessCard : Claim7 := { stood := { row := memoryAccessRow, standIns := [], harness := (true, "89a52f3a8893131049f83836edc1948287b30d3b45a445723119e5d955e333c3"), looks := true }, kinds := [], alts := [], laidByText := true, laidKinds := [.data, .data, .data, .sentinel, .sentinel], laidTests := true, laidLooks := .later }
def MemoryAccessCardSaid : Prop := Claim7.holds Tryz.pinned (.plain (OpenSpec.ofChange memoryAccessSpec)) memoryAccessCard

/-- THE TIED CARD OF 'bowlinelaw12.MemoryAddresses'. -/
def memoryAddressesCard : Claim7 := { stood := { row := memoryAddressesRow, standIns := [], harness := (true, "89a52f3a8893131049f83836edc1948287b30d3b45a445723119e5d955e333c3"), looks := true }, kinds := [], alts := [], laidByText := true, laidKinds := [.data, .data, .data, .sentinel, .sentinel], laidTests := true, laidLooks := .later }
def MemoryAddressesCardSaid : Prop := Claim7.holds Tryz.pinned (.plain (OpenSpec.ofChange memoryAddressesSpec)) memoryAddressesCard

/-- THE TIED CARD OF 'bowlinelaw12.MemoryKeeps'. -/
def memoryKeepsCard : Claim7 := { stood := { row := memoryKeepsRow, standIns := [], harness := (true, "89a52f3a8893131049f83836edc1948287b30d3b45a445723119e5d955e333c3"), looks := true }, kinds := [], alts := [], laidByText := true, laidKinds := [.data, .data, .data, .sentinel, .sentinel], laidTests := true, laidLooks := .later }
def MemoryKeepsCardSaid : Prop := Claim7.holds Tryz.pinned (.plain (OpenSpec.ofChange memoryKeepsSpec)) memoryKeepsCard

/-- THE TIED CARD OF 'bowlinelaw12.MemoryRepeats'. -/
def memoryRepeatsCard : Claim7 := { stood := { row := memoryRepeatsRow, standIns := [], harness := (true, "89a52f3a8893131049f83836edc1948287b30d3b45a445723119e5d955e333c3"), looks := true }, kinds := [], alts := [], laidByText := true, laidKinds := [.data, .data, .data, .sentinel, .sentinel], laidTests := true, laidLooks := .later }
def MemoryRepeatsCardSaid : Prop := Claim7.holds Tryz.pinned (.plain (OpenSpec.ofChange memoryRepeatsSpec)) memoryRepeatsCard

/-- THE SECOND FORM's CARD OF 'bowlinelaw12.MemoryBlocks'. -/
def memoryBlocksUptoCard : Claim7 := { stood := { row := memoryBlocksUptoRow, standIns := [], harness := (true, "89a52f3a8893131049f83836edc1948287b30d3b45a445723119e5d955e333c3"), looks := true }, kinds := [], alts := [], laidByText := true, laidKinds := [.data, .data, .data, .sentinel, .sentinel], laidTests := true, laidLooks := .later }
def MemoryBlocksUptoCardSaid : Prop := Claim7.holds Tryz.pinned (.plain (OpenSpec.upto memoryBlocksSpec)) memoryBlocksUptoCard

/-- THE SECOND FORM's CARD OF 'bowlinelaw12.MemoryAccess'. -/
def memoryAccessUptoCard : Claim7 := { stood := { row := memoryAccessUptoRow, standIns := [], harness := (true, "89a52f3a8893131049f83836edc1948287b30d3b45a445723119e5d955e333c3"), looks := true }, kinds := [], alts := [], laidByText := true, laidKinds := [.data, .data, .data, .sentinel, .sentinel], laidTests := true, laidLooks := .later }
def MemoryAccessUptoCardSaid : Prop := Claim7.holds Tryz.pinned (.plain (OpenSpec.upto memoryAccessSpec)) memoryAccessUptoCard

/-- THE SECOND FORM's CARD OF 'bowlinelaw12.MemoryAddresses'. -/
def memoryAddressesUptoCard : Claim7 := { stood := { row := memoryAddressesUptoRow, standIns := [], harness := (true, "89a52f3a8893131049f83836edc1948287b30d3b45a445723119e5d955e333c3"), looks := true }, kinds := [], alts := [], laidByText := true, laidKinds := [.data, .data, .data, .sentinel, .sentinel], laidTests := true, laidLooks := .later }
def MemoryAddressesUptoCardSaid : Prop := Claim7.holds Tryz.pinned (.plain (OpenSpec.upto memoryAddressesSpec)) memoryAddressesUptoCard

/-- THE SECOND FORM's CARD OF 'bowlinelaw12.MemoryKeeps'. -/
def memoryKeepsUptoCard : Claim7 := { stood := { row := memoryKeepsUptoRow, standIns := [], harness := (true, "89a52f3a8893131049f83836edc1948287b30d3b45a445723119e5d955e333c3"), looks := true }, kinds := [], alts := [], laidByText := true, laidKinds := [.data, .data, .data, .sentinel, .sentinel], laidTests := true, laidLooks := .later }
def MemoryKeepsUptoCardSaid : Prop := Claim7.holds Tryz.pinned (.plain (OpenSpec.upto memoryKeepsSpec)) memoryKeepsUptoCard

/-- THE SECOND FORM's CARD OF 'bowlinelaw12.MemoryRepeats'. -/
def memoryRepeatsUptoCard : Claim7 := { stood := { row := memoryRepeatsUptoRow, standIns := [], harness := (true, "89a52f3a8893131049f83836edc1948287b30d3b45a445723119e5d955e333c3"), looks := true }, kinds := [], alts := [], laidByText := true, laidKinds := [.data, .data, .data, .sentinel, .sentinel], laidTests := true, laidLooks := .later }
def MemoryRepeatsUptoCardSaid : Prop := Claim7.holds Tryz.pinned (.plain (OpenSpec.upto memoryRepeatsSpec)) memoryRepeatsUptoCard
end Rows
end Go.Proofs.YtdecfjlhidgceaaGreatDoor
