/-
  DERIVED. GIVEN WITH THE SEED: THE CARDS: each row of YtofmlmonkfocnaaGreatDoorRows.lean that lists a variable, with what it lists TIED to the program's text (the seventh form; the later family's looks); each row that meets fmt, with fmt's text TOLD by the authors' own Lean function (tested against real Go, not proved from fmt's source: count such statements apart). THE CARD IS WHAT COUNTS. Prove the row's statement (the work); the ties are given (YtofmlmonkfocnaaGreatDoorTie.lean); close each card by the builder's one call (the guide's Derived/Test/ToyasCard.lean, 'card_holds'). Laid BY PROGRAM, IN A SANDBOX (cutbox-door.mjs). By AI agents, Wed Nov 11 2026. No macro, syntax, notation, axiom, sorry.
-/
import Derived.Test.YtofmlmonkfocnaaGreatDoorRows
import GoSem.ClaimSeven
namespace Go.Proofs.YtofmlmonkfocnaaGreatDoor
namespace Rows

/-- THE TIED CARD OF 'bowlinelaw01.WideTypes'. -/
def wideTypesCard : Claim7 := { stood := { row := wideTypesRow, standIns := [], harness := (true, "f03594e5ab703e275056cb37b3ad56a5dcc7bcc418496f107b3a325aa5724ffa"), looks := true }, kinds := [], alts := [], laidByText := true, laidKinds := [.data, .data, .data, .data, .sentinel, .sentinel, .funcs, .pinned], laidTests := true, laidLooks := .later }
def WideTypesCardSaid : Prop := Claim7.holds Tryz.pinned (.plain (OpenSpec.ofChange wideTypesSpec)) wideTypesCard

/-- THE TIED CARD OF 'bowlinelaw01.WideBits'. -/
def wideBitsCard : Claim7 := { stood := { row := wideBitsRow, standIns := [], harness := (true, "f03594e5ab703e275056cb37b3ad56a5dcc7bcc418496f107b3a325aa5724ffa"), looks := true }, kinds := [], alts := [], laidByText := true, laidKinds := [.data, .data, .data, .data, .sentinel, .sentinel, .funcs, .pinned], laidTests := true, laidLooks := .later }
def WideBitsCardSaid : Prop := Claim7.holds Tryz.pinned (.plain (OpenSpec.ofChange wideBitsSpec)) wideBitsCard

/-- THE TIED CARD OF 'bowlinelaw01.WideLiterals'. -/
def wideLiteralsCard : Claim7 := { stood := { row := wideLiteralsRow, standIns := [], harness := (true, "f03594e5ab703e275056cb37b3ad56a5dcc7bcc418496f107b3a325aa5724ffa"), looks := true }, kinds := [], alts := [], laidByText := true, laidKinds := [.data, .data, .data, .data, .sentinel, .sentinel, .funcs, .pinned], laidTests := true, laidLooks := .later }
def WideLiteralsCardSaid : Prop := Claim7.holds Tryz.pinned (.plain (OpenSpec.ofChange wideLiteralsSpec)) wideLiteralsCard

/-- THE TIED CARD OF 'bowlinelaw01.WideInverse'. -/
def wideInverseCard : Claim7 := { stood := { row := wideInverseRow, standIns := [], harness := (true, "f03594e5ab703e275056cb37b3ad56a5dcc7bcc418496f107b3a325aa5724ffa"), looks := true }, kinds := [], alts := [], laidByText := true, laidKinds := [.data, .data, .data, .data, .sentinel, .sentinel, .funcs, .pinned], laidTests := true, laidLooks := .later }
def WideInverseCardSaid : Prop := Claim7.holds Tryz.pinned (.plain (OpenSpec.ofChange wideInverseSpec)) wideInverseCard

/-- THE TIED CARD OF 'bowlinelaw01.WideModular'. -/
def wideModularCard : Claim7 := { stood := { row := wideModularRow, standIns := [], harness := (true, "f03594e5ab703e275056cb37b3ad56a5dcc7bcc418496f107b3a325aa5724ffa"), looks := true }, kinds := [], alts := [], laidByText := true, laidKinds := [.data, .data, .data, .data, .sentinel, .sentinel, .funcs, .pinned], laidTests := true, laidLooks := .later }
def WideModularCardSaid : Prop := Claim7.holds Tryz.pinned (.plain (OpenSpec.ofChange wideModularSpec)) wideModularCard

/-- THE TIED CARD OF 'bowlinelaw01.WideIntegers'. -/
def wideIntegersCard : Claim7 := { stood := { row := wideIntegersRow, standIns := [], harness := (true, "f03594e5ab703e275056cb37b3ad56a5dcc7bcc418496f107b3a325aa5724ffa"), looks := true }, kinds := [], alts := [], laidByText := true, laidKinds := [.data, .data, .data, .data, .sentinel, .sentinel, .funcs, .pinned], laidTests := true, laidLooks := .later }
def WideIntegersCardSaid : Prop := Claim7.holds Tryz.pinned (.plain (OpenSpec.ofChange wideIntegersSpec)) wideIntegersCard

/-- THE SECOND FORM's CARD OF 'bowlinelaw01.WideTypes'. -/
def wideTypesUptoCard : Claim7 := { stood := { row := wideTypesUptoRow, standIns := [], harness := (true, "f03594e5ab703e275056cb37b3ad56a5dcc7bcc418496f107b3a325aa5724ffa"), looks := true }, kinds := [], alts := [], laidByText := true, laidKinds := [.data, .data, .data, .data, .sentinel, .sentinel, .funcs, .pinned], laidTests := true, laidLooks := .later }
def WideTypesUptoCardSaid : Prop := Claim7.holds Tryz.pinned (.plain (OpenSpec.upto wideTypesSpec)) wideTypesUptoCard

/-- THE SECOND FORM's CARD OF 'bowlinelaw01.WideBits'. -/
def wideBitsUptoCard : Claim7 := { stood := { row := wideBitsUptoRow, standIns := [], harness := (true, "f03594e5ab703e275056cb37b3ad56a5dcc7bcc418496f107b3a325aa5724ffa"), looks := true }, kinds := [], alts := [], laidByText := true, laidKinds := [.data, .data, .data, .data, .sentinel, .sentinel, .funcs, .pinned], laidTests := true, laidLooks := .later }
def WideBitsUptoCardSaid : Prop := Claim7.holds Tryz.pinned (.plain (OpenSpec.upto wideBitsSpec)) wideBitsUptoCard

/-- THE SECOND FORM's CARD OF 'bowlinelaw01.WideLiterals'. -/
def wideLiteralsUptoCard : Claim7 := { stood := { row := wideLiteralsUptoRow, standIns := [], harness := (true, "f03594e5ab703e275056cb37b3ad56a5dcc7bcc418496f107b3a325aa5724ffa"), looks := true }, kinds := [], alts := [], laidByText := true, laidKinds := [.data, .data, .data, .data, .sentinel, .sentinel, .funcs, .pinned], laidTests := true, laidLooks := .later }
def WideLiteralsUptoCardSaid : Prop := Claim7.holds Tryz.pinned (.plain (OpenSpec.upto wideLiteralsSpec)) wideLiteralsUptoCard

/-- THE SECOND FORM's CARD OF 'bowlinelaw01.WideInverse'. -/
def wideInverseUptoCard : Claim7 := { stood := { row := wideInverseUptoRow, standIns := [], harness := (true, "f03594e5ab703e275056cb37b3ad56a5dcc7bcc418496f107b3a325aa5724ffa"), looks := true }, kinds := [], alts := [], laidByText := true, laidKinds := [.data, .data, .data, .data, .sentinel, .sentinel, .funcs, .pinned], laidTests := true, laidLooks := .later }
def WideInverseUptoCardSaid : Prop := Claim7.holds Tryz.pinned (.plain (OpenSpec.upto wideInverseSpec)) wideInverseUptoCard

/-- THE SECOND FORM's CARD OF 'bowlinelaw01.WideModular'. -/
def wideModularUptoCard : Claim7 := { stood := { row := wideModularUptoRow, standIns := [], harness := (true, "f03594e5ab703e275056cb37b3ad56a5dcc7bcc418496f107b3a325aa5724ffa"), looks := true }, kinds := [], alts := [], laidByText := true, laidKinds := [.data, .data, .data, .data, .sentinel, .sentinel, .funcs, .pinned], laidTests := true, laidLooks := .later }
def WideModularUptoCardSaid : Prop := Claim7.holds Tryz.pinned (.plain (OpenSpec.upto wideModularSpec)) wideModularUptoCard

/-- THE SECOND FORM's CARD OF 'bowlinelaw01.WideIntegers'. -/
def wideIntegersUptoCard : Claim7 := { stood := { row := wideIntegersUptoRow, standIns := [], harness := (true, "f03594e5ab703e275056cb37b3ad56a5dcc7bcc418496f107b3a325aa5724ffa"), looks := true }, kinds := [], alts := [], laidByText := true, laidKinds := [.data, .data, .data, .data, .sentinel, .sentinel, .funcs, .pinned], laidTests := true, laidLooks := .later }
def WideIntegersUptoCardSaid : Prop := Claim7.holds Tryz.pinned (.plain (OpenSpec.upto wideIntegersSpec)) wideIntegersUptoCard
end Rows
end Go.Proofs.YtofmlmonkfocnaaGreatDoor
