/-
  DERIVED. GIVEN WITH THE SEED: THE CARDS: each row of YtdecfjlhidgceaaDoorRows.lean that lists a variable, with what it lists TIED to the program's text (the seventh form; the later family's looks); each row that meets fmt, with fmt's text TOLD by the authors' own Lean function (tested against real Go, not proved from fmt's source: count such statements apart). THE CARD IS WHAT COUNTS. Prove the row's statement (the work); the ties are given (YtdecfjlhidgceaaDoorTie.lean); close each card by the builder's one call (the guide's Derived/Test/ToyasCard.lean, 'card_holds'). Laid BY PROGRAM, IN A SANDBOX (cutbox-door.mjs). By AI agents, Wed Nov 11 2026. No macro, syntax, notation, axiom, sorry.
-/
import Derived.Test.YtdecfjlhidgceaaDoorRows
import GoSem.ClaimSeven
namespace Go.Proofs.YtdecfjlhidgceaaDoor
namespace Rows

/-- THE TIED CARD OF 'bowlinelaw12.MemoryTypes'. -/
def memoryTypesCard : Claim7 := { stood := { row := memoryTypesRow, standIns := [], harness := (true, "0dbc74473cffea3755b7c504aff77a756a4c16219dade606cd2c13cdb0656a7b"), looks := true }, kinds := [], alts := [], laidByText := true, laidKinds := [.data, .data, .data, .sentinel, .sentinel], laidTests := true, laidLooks := .later }
def MemoryTypesCardSaid : Prop := Claim7.holds Tryd.pinned (.plain (OpenSpec.ofChange memoryTypesSpec)) memoryTypesCard

/-- THE SECOND FORM's CARD OF 'bowlinelaw12.MemoryTypes'. -/
def memoryTypesUptoCard : Claim7 := { stood := { row := memoryTypesUptoRow, standIns := [], harness := (true, "0dbc74473cffea3755b7c504aff77a756a4c16219dade606cd2c13cdb0656a7b"), looks := true }, kinds := [], alts := [], laidByText := true, laidKinds := [.data, .data, .data, .sentinel, .sentinel], laidTests := true, laidLooks := .later }
def MemoryTypesUptoCardSaid : Prop := Claim7.holds Tryd.pinned (.plain (OpenSpec.upto memoryTypesSpec)) memoryTypesUptoCard
end Rows
end Go.Proofs.YtdecfjlhidgceaaDoor
