/-
  DERIVED. GIVEN WITH THE SEED: THE CARDS: each row of YtglnhnjmelilmaaGreatDoorRows.lean that lists a variable, with what it lists TIED to the program's text (the seventh form; the later family's looks); each row that meets fmt, with fmt's text TOLD by the authors' own Lean function (tested against real Go, not proved from fmt's source: count such statements apart). THE CARD IS WHAT COUNTS. Prove the row's statement (the work); the ties are given (YtglnhnjmelilmaaGreatDoorTie.lean); close each card by the builder's one call (the guide's Derived/Test/ToyasCard.lean, 'card_holds'). Laid BY PROGRAM, IN A SANDBOX (cutbox-door.mjs). By AI agents, Wed Nov 11 2026. No macro, syntax, notation, axiom, sorry.
-/
import Derived.Test.YtglnhnjmelilmaaGreatDoorRows
import GoSem.ClaimSeven
namespace Go.Proofs.YtglnhnjmelilmaaGreatDoor
namespace Rows

/-- THE TIED CARD OF 'palmettelaw06.GraphioEdits'. -/
def graphioEditsCard : Claim7 := { stood := { row := graphioEditsRow, standIns := [], harness := (true, "d0d7b8cf81090ffec08abbacf53dc6cd992e9510132a01e351512d78ce5576bd"), looks := true }, kinds := [], alts := [], laidByText := true, laidKinds := [.data, .data, .data, .data, .sentinel, .sentinel, .widerDeep, .pinned], laidTests := true, laidLooks := .later }
def GraphioEditsCardSaid : Prop := Claim7.holds Tryz.pinned (.plain (OpenSpec.ofChange graphioEditsSpec)) graphioEditsCard

/-- THE TIED CARD OF 'palmettelaw06.GraphioGraphs'. -/
def graphioGraphsCard : Claim7 := { stood := { row := graphioGraphsRow, standIns := [], harness := (true, "d0d7b8cf81090ffec08abbacf53dc6cd992e9510132a01e351512d78ce5576bd"), looks := true }, kinds := [], alts := [], laidByText := true, laidKinds := [.data, .data, .data, .data, .sentinel, .sentinel, .pinned], laidTests := true, laidLooks := .later }
def GraphioGraphsCardSaid : Prop := Claim7.holds Tryz.pinned (.plain (OpenSpec.ofChange graphioGraphsSpec)) graphioGraphsCard

/-- THE TIED CARD OF 'palmettelaw06.GraphioRoundTrip'. -/
def graphioRoundTripCard : Claim7 := { stood := { row := graphioRoundTripRow, standIns := [], harness := (true, "d0d7b8cf81090ffec08abbacf53dc6cd992e9510132a01e351512d78ce5576bd"), looks := true }, kinds := [], alts := [], laidByText := true, laidKinds := [.data, .data, .data, .data, .sentinel, .sentinel, .pinned], laidTests := true, laidLooks := .later }
def GraphioRoundTripCardSaid : Prop := Claim7.holds Tryz.pinned (.plain (OpenSpec.ofChange graphioRoundTripSpec)) graphioRoundTripCard

/-- THE TIED CARD OF 'palmettelaw06.GraphioEditLists'. -/
def graphioEditListsCard : Claim7 := { stood := { row := graphioEditListsRow, standIns := [], harness := (true, "d0d7b8cf81090ffec08abbacf53dc6cd992e9510132a01e351512d78ce5576bd"), looks := true }, kinds := [], alts := [], laidByText := true, laidKinds := [.data, .data, .data, .data, .sentinel, .sentinel, .widerDeep, .pinned], laidTests := true, laidLooks := .later }
def GraphioEditListsCardSaid : Prop := Claim7.holds Tryz.pinned (.plain (OpenSpec.ofChange graphioEditListsSpec)) graphioEditListsCard

/-- THE TIED CARD OF 'palmettelaw06.GraphioSetLists'. -/
def graphioSetListsCard : Claim7 := { stood := { row := graphioSetListsRow, standIns := [], harness := (true, "d0d7b8cf81090ffec08abbacf53dc6cd992e9510132a01e351512d78ce5576bd"), looks := true }, kinds := [], alts := [], laidByText := true, laidKinds := [.data, .data, .data, .data, .sentinel, .sentinel, .pinned], laidTests := true, laidLooks := .later }
def GraphioSetListsCardSaid : Prop := Claim7.holds Tryz.pinned (.plain (OpenSpec.ofChange graphioSetListsSpec)) graphioSetListsCard

/-- THE TIED CARD OF 'palmettelaw06.GraphioDiffRoundTrip'. -/
def graphioDiffRoundTripCard : Claim7 := { stood := { row := graphioDiffRoundTripRow, standIns := [], harness := (true, "d0d7b8cf81090ffec08abbacf53dc6cd992e9510132a01e351512d78ce5576bd"), looks := true }, kinds := [], alts := [], laidByText := true, laidKinds := [.data, .data, .data, .data, .sentinel, .sentinel, .widerDeep, .pinned], laidTests := true, laidLooks := .later }
def GraphioDiffRoundTripCardSaid : Prop := Claim7.holds Tryz.pinned (.plain (OpenSpec.ofChange graphioDiffRoundTripSpec)) graphioDiffRoundTripCard

/-- THE TIED CARD OF 'palmettelaw06.GraphioEdgeSets'. -/
def graphioEdgeSetsCard : Claim7 := { stood := { row := graphioEdgeSetsRow, standIns := [], harness := (true, "d0d7b8cf81090ffec08abbacf53dc6cd992e9510132a01e351512d78ce5576bd"), looks := true }, kinds := [], alts := [], laidByText := true, laidKinds := [.data, .data, .data, .sentinel, .sentinel], laidTests := true, laidLooks := .later }
def GraphioEdgeSetsCardSaid : Prop := Claim7.holds Tryz.pinned (.plain (OpenSpec.ofChange graphioEdgeSetsSpec)) graphioEdgeSetsCard

/-- THE SECOND FORM's CARD OF 'palmettelaw06.GraphioEdits'. -/
def graphioEditsUptoCard : Claim7 := { stood := { row := graphioEditsUptoRow, standIns := [], harness := (true, "d0d7b8cf81090ffec08abbacf53dc6cd992e9510132a01e351512d78ce5576bd"), looks := true }, kinds := [], alts := [], laidByText := true, laidKinds := [.data, .data, .data, .data, .sentinel, .sentinel, .widerDeep, .pinned], laidTests := true, laidLooks := .later }
def GraphioEditsUptoCardSaid : Prop := Claim7.holds Tryz.pinned (.plain (OpenSpec.upto graphioEditsSpec)) graphioEditsUptoCard

/-- THE SECOND FORM's CARD OF 'palmettelaw06.GraphioGraphs'. -/
def graphioGraphsUptoCard : Claim7 := { stood := { row := graphioGraphsUptoRow, standIns := [], harness := (true, "d0d7b8cf81090ffec08abbacf53dc6cd992e9510132a01e351512d78ce5576bd"), looks := true }, kinds := [], alts := [], laidByText := true, laidKinds := [.data, .data, .data, .data, .sentinel, .sentinel, .pinned], laidTests := true, laidLooks := .later }
def GraphioGraphsUptoCardSaid : Prop := Claim7.holds Tryz.pinned (.plain (OpenSpec.upto graphioGraphsSpec)) graphioGraphsUptoCard

/-- THE SECOND FORM's CARD OF 'palmettelaw06.GraphioRoundTrip'. -/
def graphioRoundTripUptoCard : Claim7 := { stood := { row := graphioRoundTripUptoRow, standIns := [], harness := (true, "d0d7b8cf81090ffec08abbacf53dc6cd992e9510132a01e351512d78ce5576bd"), looks := true }, kinds := [], alts := [], laidByText := true, laidKinds := [.data, .data, .data, .data, .sentinel, .sentinel, .pinned], laidTests := true, laidLooks := .later }
def GraphioRoundTripUptoCardSaid : Prop := Claim7.holds Tryz.pinned (.plain (OpenSpec.upto graphioRoundTripSpec)) graphioRoundTripUptoCard

/-- THE SECOND FORM's CARD OF 'palmettelaw06.GraphioEditLists'. -/
def graphioEditListsUptoCard : Claim7 := { stood := { row := graphioEditListsUptoRow, standIns := [], harness := (true, "d0d7b8cf81090ffec08abbacf53dc6cd992e9510132a01e351512d78ce5576bd"), looks := true }, kinds := [], alts := [], laidByText := true, laidKinds := [.data, .data, .data, .data, .sentinel, .sentinel, .widerDeep, .pinned], laidTests := true, laidLooks := .later }
def GraphioEditListsUptoCardSaid : Prop := Claim7.holds Tryz.pinned (.plain (OpenSpec.upto graphioEditListsSpec)) graphioEditListsUptoCard

/-- THE SECOND FORM's CARD OF 'palmettelaw06.GraphioSetLists'. -/
def graphioSetListsUptoCard : Claim7 := { stood := { row := graphioSetListsUptoRow, standIns := [], harness := (true, "d0d7b8cf81090ffec08abbacf53dc6cd992e9510132a01e351512d78ce5576bd"), looks := true }, kinds := [], alts := [], laidByText := true, laidKinds := [.data, .data, .data, .data, .sentinel, .sentinel, .pinned], laidTests := true, laidLooks := .later }
def GraphioSetListsUptoCardSaid : Prop := Claim7.holds Tryz.pinned (.plain (OpenSpec.upto graphioSetListsSpec)) graphioSetListsUptoCard

/-- THE SECOND FORM's CARD OF 'palmettelaw06.GraphioDiffRoundTrip'. -/
def graphioDiffRoundTripUptoCard : Claim7 := { stood := { row := graphioDiffRoundTripUptoRow, standIns := [], harness := (true, "d0d7b8cf81090ffec08abbacf53dc6cd992e9510132a01e351512d78ce5576bd"), looks := true }, kinds := [], alts := [], laidByText := true, laidKinds := [.data, .data, .data, .data, .sentinel, .sentinel, .widerDeep, .pinned], laidTests := true, laidLooks := .later }
def GraphioDiffRoundTripUptoCardSaid : Prop := Claim7.holds Tryz.pinned (.plain (OpenSpec.upto graphioDiffRoundTripSpec)) graphioDiffRoundTripUptoCard

/-- THE SECOND FORM's CARD OF 'palmettelaw06.GraphioEdgeSets'. -/
def graphioEdgeSetsUptoCard : Claim7 := { stood := { row := graphioEdgeSetsUptoRow, standIns := [], harness := (true, "d0d7b8cf81090ffec08abbacf53dc6cd992e9510132a01e351512d78ce5576bd"), looks := true }, kinds := [], alts := [], laidByText := true, laidKinds := [.data, .data, .data, .sentinel, .sentinel], laidTests := true, laidLooks := .later }
def GraphioEdgeSetsUptoCardSaid : Prop := Claim7.holds Tryz.pinned (.plain (OpenSpec.upto graphioEdgeSetsSpec)) graphioEdgeSetsUptoCard
end Rows
end Go.Proofs.YtglnhnjmelilmaaGreatDoor
