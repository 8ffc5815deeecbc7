/-
  DERIVED. GIVEN WITH THE SEED: THE CARDS: each row of YtmmhngjndnonhaaGreatDoorRows.lean that lists a variable, with what it lists TIED to the program's text (the seventh form; the later family's looks); each row that meets fmt, with fmt's text TOLD by the authors' own Lean function (tested against real Go, not proved from fmt's source: count such statements apart). THE CARD IS WHAT COUNTS. Prove the row's statement (the work); the ties are given (YtmmhngjndnonhaaGreatDoorTie.lean); close each card by the builder's one call (the guide's Derived/Test/ToyasCard.lean, 'card_holds'). Laid BY PROGRAM, IN A SANDBOX (cutbox-door.mjs). By AI agents, Wed Nov 11 2026. No macro, syntax, notation, axiom, sorry.
-/
import Derived.Test.YtmmhngjndnonhaaGreatDoorRows
import GoSem.ClaimSeven
namespace Go.Proofs.YtmmhngjndnonhaaGreatDoor
namespace Rows

/-- THE TIED CARD OF 'palmettelaw06.GraphioDiff'. -/
def graphioDiffCard : Claim7 := { stood := { row := graphioDiffRow, standIns := [], harness := (true, "dc31f5d875f24e3f86959e25ae6154a069a8f06caf64461742dfea2e1b9868e9"), looks := true }, kinds := [], alts := [], laidByText := true, laidKinds := [.data, .data, .data], laidTests := true, laidLooks := .later }
def GraphioDiffCardSaid : Prop := Claim7.holds Tryz.pinned (.plain (OpenSpec.ofChange graphioDiffSpec)) graphioDiffCard

/-- THE TIED CARD OF 'palmettelaw26.TreeDecompTransform'. -/
def treeDecompTransformCard : Claim7 := { stood := { row := treeDecompTransformRow, standIns := [], harness := (true, "dc31f5d875f24e3f86959e25ae6154a069a8f06caf64461742dfea2e1b9868e9"), looks := true }, kinds := [], alts := [], laidByText := true, laidKinds := [.data], laidTests := true, laidLooks := .later }
def TreeDecompTransformCardSaid : Prop := Claim7.holds Tryz.pinned (.plain (OpenSpec.ofChange treeDecompTransformSpec)) treeDecompTransformCard

/-- THE TIED CARD OF 'palmettelaw06.GraphioEdgeSets'. -/
def graphioEdgeSetsCard : Claim7 := { stood := { row := graphioEdgeSetsRow, standIns := [], harness := (true, "dc31f5d875f24e3f86959e25ae6154a069a8f06caf64461742dfea2e1b9868e9"), looks := true }, kinds := [], alts := [], laidByText := true, laidKinds := [.data, .data, .data, .sentinel, .sentinel], laidTests := true, laidLooks := .later }
def GraphioEdgeSetsCardSaid : Prop := Claim7.holds Tryz.pinned (.plain (OpenSpec.ofChange graphioEdgeSetsSpec)) graphioEdgeSetsCard

/-- THE SECOND FORM's CARD OF 'palmettelaw06.GraphioDiff'. -/
def graphioDiffUptoCard : Claim7 := { stood := { row := graphioDiffUptoRow, standIns := [], harness := (true, "dc31f5d875f24e3f86959e25ae6154a069a8f06caf64461742dfea2e1b9868e9"), looks := true }, kinds := [], alts := [], laidByText := true, laidKinds := [.data, .data, .data], laidTests := true, laidLooks := .later }
def GraphioDiffUptoCardSaid : Prop := Claim7.holds Tryz.pinned (.plain (OpenSpec.upto graphioDiffSpec)) graphioDiffUptoCard

/-- THE SECOND FORM's CARD OF 'palmettelaw26.TreeDecompTransform'. -/
def treeDecompTransformUptoCard : Claim7 := { stood := { row := treeDecompTransformUptoRow, standIns := [], harness := (true, "dc31f5d875f24e3f86959e25ae6154a069a8f06caf64461742dfea2e1b9868e9"), looks := true }, kinds := [], alts := [], laidByText := true, laidKinds := [.data], laidTests := true, laidLooks := .later }
def TreeDecompTransformUptoCardSaid : Prop := Claim7.holds Tryz.pinned (.plain (OpenSpec.upto treeDecompTransformSpec)) treeDecompTransformUptoCard

/-- THE SECOND FORM's CARD OF 'palmettelaw06.GraphioEdgeSets'. -/
def graphioEdgeSetsUptoCard : Claim7 := { stood := { row := graphioEdgeSetsUptoRow, standIns := [], harness := (true, "dc31f5d875f24e3f86959e25ae6154a069a8f06caf64461742dfea2e1b9868e9"), looks := true }, kinds := [], alts := [], laidByText := true, laidKinds := [.data, .data, .data, .sentinel, .sentinel], laidTests := true, laidLooks := .later }
def GraphioEdgeSetsUptoCardSaid : Prop := Claim7.holds Tryz.pinned (.plain (OpenSpec.upto graphioEdgeSetsSpec)) graphioEdgeSetsUptoCard
end Rows
end Go.Proofs.YtmmhngjndnonhaaGreatDoor
