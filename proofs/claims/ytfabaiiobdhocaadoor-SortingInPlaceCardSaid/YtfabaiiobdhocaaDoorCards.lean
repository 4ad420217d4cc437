/-
  DERIVED. GIVEN WITH THE SEED: THE CARDS: each row of YtfabaiiobdhocaaDoorRows.lean that lists a variable, with what it lists TIED to the program's text (the seventh form; the later family's looks); each row that meets fmt, with fmt's text TOLD by the authors' own Lean function (tested against real Go, not proved from fmt's source: count such statements apart). THE CARD IS WHAT COUNTS. Prove the row's statement (the work); the ties are given (YtfabaiiobdhocaaDoorTie.lean); close each card by the builder's one call (the guide's Derived/Test/ToyasCard.lean, 'card_holds'). Laid BY PROGRAM, IN A SANDBOX (cutbox-door.mjs). By AI agents, Wed Nov 11 2026. No macro, syntax, notation, axiom, sorry.
-/
import Derived.Test.YtfabaiiobdhocaaDoorRows
import GoSem.ClaimSeven
namespace Go.Proofs.YtfabaiiobdhocaaDoor
namespace Rows

/-- THE TIED CARD OF 'bowlinelaw36.SortingQueues'. -/
def sortingQueuesCard : Claim7 := { stood := { row := sortingQueuesRow, standIns := [], harness := (true, "a67bea60bf4c4f9d58082482a0514198a4b704dc275177cf1fd25a1a101accc1"), looks := false }, kinds := [], alts := [], laidByText := true, laidKinds := [.data, .data, .data, .funcs], laidTests := true, laidLooks := .later }
def SortingQueuesCardSaid : Prop := Claim7.holds Tryd.pinned (.plain (OpenSpec.ofChange sortingQueuesSpec)) sortingQueuesCard

/-- THE TIED CARD OF 'bowlinelaw36.SortingMerges'. -/
def sortingMergesCard : Claim7 := { stood := { row := sortingMergesRow, standIns := [], harness := (true, "a67bea60bf4c4f9d58082482a0514198a4b704dc275177cf1fd25a1a101accc1"), looks := false }, kinds := [], alts := [], laidByText := true, laidKinds := [.data, .data, .data, .funcs], laidTests := true, laidLooks := .later }
def SortingMergesCardSaid : Prop := Claim7.holds Tryd.pinned (.plain (OpenSpec.ofChange sortingMergesSpec)) sortingMergesCard

/-- THE TIED CARD OF 'bowlinelaw36.SortingInPlace'. -/
def sortingInPlaceCard : Claim7 := { stood := { row := sortingInPlaceRow, standIns := [], harness := (true, "a67bea60bf4c4f9d58082482a0514198a4b704dc275177cf1fd25a1a101accc1"), looks := false }, kinds := [], alts := [], laidByText := true, laidKinds := [.data, .data, .data, .funcs], laidTests := true, laidLooks := .later }
def SortingInPlaceCardSaid : Prop := Claim7.holds Tryd.pinned (.plain (OpenSpec.ofChange sortingInPlaceSpec)) sortingInPlaceCard

/-- THE TIED CARD OF 'bowlinelaw36.SortingSelects'. -/
def sortingSelectsCard : Claim7 := { stood := { row := sortingSelectsRow, standIns := [], harness := (true, "a67bea60bf4c4f9d58082482a0514198a4b704dc275177cf1fd25a1a101accc1"), looks := false }, kinds := [], alts := [], laidByText := true, laidKinds := [.data, .data, .data, .funcs], laidTests := true, laidLooks := .later }
def SortingSelectsCardSaid : Prop := Claim7.holds Tryd.pinned (.plain (OpenSpec.ofChange sortingSelectsSpec)) sortingSelectsCard

/-- THE TIED CARD OF 'bowlinelaw36.SortingStable'. -/
def sortingStableCard : Claim7 := { stood := { row := sortingStableRow, standIns := [], harness := (true, "a67bea60bf4c4f9d58082482a0514198a4b704dc275177cf1fd25a1a101accc1"), looks := false }, kinds := [], alts := [], laidByText := true, laidKinds := [.data, .data, .data, .funcs], laidTests := true, laidLooks := .later }
def SortingStableCardSaid : Prop := Claim7.holds Tryd.pinned (.plain (OpenSpec.ofChange sortingStableSpec)) sortingStableCard

/-- THE TIED CARD OF 'bowlinelaw36.SortingConsequences'. -/
def sortingConsequencesCard : Claim7 := { stood := { row := sortingConsequencesRow, standIns := [], harness := (true, "a67bea60bf4c4f9d58082482a0514198a4b704dc275177cf1fd25a1a101accc1"), looks := false }, kinds := [], alts := [], laidByText := true, laidKinds := [.data, .data, .data, .funcs], laidTests := true, laidLooks := .later }
def SortingConsequencesCardSaid : Prop := Claim7.holds Tryd.pinned (.plain (OpenSpec.ofChange sortingConsequencesSpec)) sortingConsequencesCard

/-- THE TIED CARD OF 'bowlinelaw36.SortingTreaps'. -/
def sortingTreapsCard : Claim7 := { stood := { row := sortingTreapsRow, standIns := [], harness := (true, "a67bea60bf4c4f9d58082482a0514198a4b704dc275177cf1fd25a1a101accc1"), looks := false }, kinds := [], alts := [], laidByText := true, laidKinds := [.data, .data, .data, .funcs], laidTests := true, laidLooks := .later }
def SortingTreapsCardSaid : Prop := Claim7.holds Tryd.pinned (.plain (OpenSpec.ofChange sortingTreapsSpec)) sortingTreapsCard

/-- THE SECOND FORM's CARD OF 'bowlinelaw36.SortingQueues'. -/
def sortingQueuesUptoCard : Claim7 := { stood := { row := sortingQueuesUptoRow, standIns := [], harness := (true, "a67bea60bf4c4f9d58082482a0514198a4b704dc275177cf1fd25a1a101accc1"), looks := false }, kinds := [], alts := [], laidByText := true, laidKinds := [.data, .data, .data, .funcs], laidTests := true, laidLooks := .later }
def SortingQueuesUptoCardSaid : Prop := Claim7.holds Tryd.pinned (.plain (OpenSpec.upto sortingQueuesSpec)) sortingQueuesUptoCard

/-- THE SECOND FORM's CARD OF 'bowlinelaw36.SortingMerges'. -/
def sortingMergesUptoCard : Claim7 := { stood := { row := sortingMergesUptoRow, standIns := [], harness := (true, "a67bea60bf4c4f9d58082482a0514198a4b704dc275177cf1fd25a1a101accc1"), looks := false }, kinds := [], alts := [], laidByText := true, laidKinds := [.data, .data, .data, .funcs], laidTests := true, laidLooks := .later }
def SortingMergesUptoCardSaid : Prop := Claim7.holds Tryd.pinned (.plain (OpenSpec.upto sortingMergesSpec)) sortingMergesUptoCard

/-- THE SECOND FORM's CARD OF 'bowlinelaw36.SortingInPlace'. -/
def sortingInPlaceUptoCard : Claim7 := { stood := { row := sortingInPlaceUptoRow, standIns := [], harness := (true, "a67bea60bf4c4f9d58082482a0514198a4b704dc275177cf1fd25a1a101accc1"), looks := false }, kinds := [], alts := [], laidByText := true, laidKinds := [.data, .data, .data, .funcs], laidTests := true, laidLooks := .later }
def SortingInPlaceUptoCardSaid : Prop := Claim7.holds Tryd.pinned (.plain (OpenSpec.upto sortingInPlaceSpec)) sortingInPlaceUptoCard

/-- THE SECOND FORM's CARD OF 'bowlinelaw36.SortingSelects'. -/
def sortingSelectsUptoCard : Claim7 := { stood := { row := sortingSelectsUptoRow, standIns := [], harness := (true, "a67bea60bf4c4f9d58082482a0514198a4b704dc275177cf1fd25a1a101accc1"), looks := false }, kinds := [], alts := [], laidByText := true, laidKinds := [.data, .data, .data, .funcs], laidTests := true, laidLooks := .later }
def SortingSelectsUptoCardSaid : Prop := Claim7.holds Tryd.pinned (.plain (OpenSpec.upto sortingSelectsSpec)) sortingSelectsUptoCard

/-- THE SECOND FORM's CARD OF 'bowlinelaw36.SortingStable'. -/
def sortingStableUptoCard : Claim7 := { stood := { row := sortingStableUptoRow, standIns := [], harness := (true, "a67bea60bf4c4f9d58082482a0514198a4b704dc275177cf1fd25a1a101accc1"), looks := false }, kinds := [], alts := [], laidByText := true, laidKinds := [.data, .data, .data, .funcs], laidTests := true, laidLooks := .later }
def SortingStableUptoCardSaid : Prop := Claim7.holds Tryd.pinned (.plain (OpenSpec.upto sortingStableSpec)) sortingStableUptoCard

/-- THE SECOND FORM's CARD OF 'bowlinelaw36.SortingConsequences'. -/
def sortingConsequencesUptoCard : Claim7 := { stood := { row := sortingConsequencesUptoRow, standIns := [], harness := (true, "a67bea60bf4c4f9d58082482a0514198a4b704dc275177cf1fd25a1a101accc1"), looks := false }, kinds := [], alts := [], laidByText := true, laidKinds := [.data, .data, .data, .funcs], laidTests := true, laidLooks := .later }
def SortingConsequencesUptoCardSaid : Prop := Claim7.holds Tryd.pinned (.plain (OpenSpec.upto sortingConsequencesSpec)) sortingConsequencesUptoCard

/-- THE SECOND FORM's CARD OF 'bowlinelaw36.SortingTreaps'. -/
def sortingTreapsUptoCard : Claim7 := { stood := { row := sortingTreapsUptoRow, standIns := [], harness := (true, "a67bea60bf4c4f9d58082482a0514198a4b704dc275177cf1fd25a1a101accc1"), looks := false }, kinds := [], alts := [], laidByText := true, laidKinds := [.data, .data, .data, .funcs], laidTests := true, laidLooks := .later }
def SortingTreapsUptoCardSaid : Prop := Claim7.holds Tryd.pinned (.plain (OpenSpec.upto sortingTreapsSpec)) sortingTreapsUptoCard
end Rows
end Go.Proofs.YtfabaiiobdhocaaDoor
