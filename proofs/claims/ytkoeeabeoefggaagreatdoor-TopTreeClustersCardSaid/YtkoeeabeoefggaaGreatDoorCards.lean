/-
  DERIVED. GIVEN WITH THE SEED: THE CARDS: each row of YtkoeeabeoefggaaGreatDoorRows.lean that lists a variable, with what it lists TIED to the program's text (the seventh form; the later family's looks); each row that meets fmt, with fmt's text TOLD by the authors' own Lean function (tested against real Go, not proved from fmt's source: count such statements apart). THE CARD IS WHAT COUNTS. Prove the row's statement (the work); the ties are given (YtkoeeabeoefggaaGreatDoorTie.lean); close each card by the builder's one call (the guide's Derived/Test/ToyasCard.lean, 'card_holds'). Laid BY PROGRAM, IN A SANDBOX (cutbox-door.mjs). By AI agents, Wed Nov 11 2026. No macro, syntax, notation, axiom, sorry.
-/
import Derived.Test.YtkoeeabeoefggaaGreatDoorRows
import GoSem.ClaimSeven
namespace Go.Proofs.YtkoeeabeoefggaaGreatDoor
namespace Rows

/-- THE TIED CARD OF 'palmettelaw46.TopTreeClusters'. -/
def topTreeClustersCard : Claim7 := { stood := { row := topTreeClustersRow, standIns := [], harness := (true, "7e1a4265fefec0ee137a1d11cffa37ee49a214094da789da049e82870bf0e7b5"), looks := false }, kinds := [], alts := [], laidByText := true, laidKinds := [.data], laidTests := true, laidLooks := .later }
def TopTreeClustersCardSaid : Prop := Claim7.holds Tryz.pinned (.plain (OpenSpec.ofChange topTreeClustersSpec)) topTreeClustersCard

/-- THE SECOND FORM's CARD OF 'palmettelaw46.TopTreeClusters'. -/
def topTreeClustersUptoCard : Claim7 := { stood := { row := topTreeClustersUptoRow, standIns := [], harness := (true, "7e1a4265fefec0ee137a1d11cffa37ee49a214094da789da049e82870bf0e7b5"), looks := false }, kinds := [], alts := [], laidByText := true, laidKinds := [.data], laidTests := true, laidLooks := .later }
def TopTreeClustersUptoCardSaid : Prop := Claim7.holds Tryz.pinned (.plain (OpenSpec.upto topTreeClustersSpec)) topTreeClustersUptoCard
end Rows
end Go.Proofs.YtkoeeabeoefggaaGreatDoor
