/-
  DERIVED. GIVEN WITH THE SEED: THE CARDS: each row of YtoboncfgogjllaaGreatDoorRows.lean that lists a variable, with what it lists TIED to the program's text (the seventh form; the later family's looks); each row that meets fmt, with fmt's text TOLD by the authors' own Lean function (tested against real Go, not proved from fmt's source: count such statements apart). THE CARD IS WHAT COUNTS. Prove the row's statement (the work); the ties are given (YtoboncfgogjllaaGreatDoorTie.lean); close each card by the builder's one call (the guide's Derived/Test/ToyasCard.lean, 'card_holds'). Laid BY PROGRAM, IN A SANDBOX (cutbox-door.mjs). By AI agents, Wed Nov 11 2026. No macro, syntax, notation, axiom, sorry.
-/
import Derived.Test.YtoboncfgogjllaaGreatDoorRows
import GoSem.ClaimSeven
namespace Go.Proofs.YtoboncfgogjllaaGreatDoor
namespace Rows

/-- THE TIED CARD OF 'palmettelaw46.TopTreeNil'. -/
def topTreeNilCard : Claim7 := { stood := { row := topTreeNilRow, standIns := [], harness := (true, "206755db832deb4bbdacba3df9ecc536e442463b5a26bc004f4ffe1cf6df6d29"), looks := false }, kinds := [], alts := [], laidByText := true, laidKinds := [.data], laidTests := true, laidLooks := .later }
def TopTreeNilCardSaid : Prop := Claim7.holds Tryz.pinned (.plain (OpenSpec.ofChange topTreeNilSpec)) topTreeNilCard

/-- THE TIED CARD OF 'palmettelaw26.TreeDecompEqualClone'. -/
def treeDecompEqualCloneCard : Claim7 := { stood := { row := treeDecompEqualCloneRow, standIns := [], harness := (true, "206755db832deb4bbdacba3df9ecc536e442463b5a26bc004f4ffe1cf6df6d29"), looks := false }, kinds := [], alts := [], laidByText := true, laidKinds := [.data], laidTests := true, laidLooks := .later }
def TreeDecompEqualCloneCardSaid : Prop := Claim7.holds Tryz.pinned (.plain (OpenSpec.ofChange treeDecompEqualCloneSpec)) treeDecompEqualCloneCard

/-- THE SECOND FORM's CARD OF 'palmettelaw46.TopTreeNil'. -/
def topTreeNilUptoCard : Claim7 := { stood := { row := topTreeNilUptoRow, standIns := [], harness := (true, "206755db832deb4bbdacba3df9ecc536e442463b5a26bc004f4ffe1cf6df6d29"), looks := false }, kinds := [], alts := [], laidByText := true, laidKinds := [.data], laidTests := true, laidLooks := .later }
def TopTreeNilUptoCardSaid : Prop := Claim7.holds Tryz.pinned (.plain (OpenSpec.upto topTreeNilSpec)) topTreeNilUptoCard

/-- THE SECOND FORM's CARD OF 'palmettelaw26.TreeDecompEqualClone'. -/
def treeDecompEqualCloneUptoCard : Claim7 := { stood := { row := treeDecompEqualCloneUptoRow, standIns := [], harness := (true, "206755db832deb4bbdacba3df9ecc536e442463b5a26bc004f4ffe1cf6df6d29"), looks := false }, kinds := [], alts := [], laidByText := true, laidKinds := [.data], laidTests := true, laidLooks := .later }
def TreeDecompEqualCloneUptoCardSaid : Prop := Claim7.holds Tryz.pinned (.plain (OpenSpec.upto treeDecompEqualCloneSpec)) treeDecompEqualCloneUptoCard
end Rows
end Go.Proofs.YtoboncfgogjllaaGreatDoor
