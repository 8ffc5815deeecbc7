/-
  DERIVED. GIVEN WITH THE SEED: THE CARDS: each row of YteiibpfabgfolaaGreatDoorRows.lean that lists a variable, with what it lists TIED to the program's text (the seventh form; the later family's looks); each row that meets fmt, with fmt's text TOLD by the authors' own Lean function (tested against real Go, not proved from fmt's source: count such statements apart). THE CARD IS WHAT COUNTS. Prove the row's statement (the work); the ties are given (YteiibpfabgfolaaGreatDoorTie.lean); close each card by the builder's one call (the guide's Derived/Test/ToyasCard.lean, 'card_holds'). Laid BY PROGRAM, IN A SANDBOX (cutbox-door.mjs). By AI agents, Wed Nov 11 2026. No macro, syntax, notation, axiom, sorry.
-/
import Derived.Test.YteiibpfabgfolaaGreatDoorRows
import GoSem.ClaimSeven
namespace Go.Proofs.YteiibpfabgfolaaGreatDoor
namespace Rows

/-- THE TIED CARD OF 'palmettelaw26.TreeDecompFormatParse'. -/
def treeDecompFormatParseCard : Claim7 := { stood := { row := treeDecompFormatParseRow, standIns := [], harness := (true, "e58d971deaa8cc4491a77eae40c040f6458b3b3dfbf473b0ee6b0ded4dfe1f75"), looks := true }, kinds := [], alts := [], laidByText := true, laidKinds := [.data, .data, .data, .data, .sentinel, .sentinel, .pinned], laidTests := true, laidLooks := .later }
def TreeDecompFormatParseCardSaid : Prop := Claim7.holds Tryz.pinned (.plain (OpenSpec.ofChange treeDecompFormatParseSpec)) treeDecompFormatParseCard

/-- THE SECOND FORM's CARD OF 'palmettelaw26.TreeDecompFormatParse'. -/
def treeDecompFormatParseUptoCard : Claim7 := { stood := { row := treeDecompFormatParseUptoRow, standIns := [], harness := (true, "e58d971deaa8cc4491a77eae40c040f6458b3b3dfbf473b0ee6b0ded4dfe1f75"), looks := true }, kinds := [], alts := [], laidByText := true, laidKinds := [.data, .data, .data, .data, .sentinel, .sentinel, .pinned], laidTests := true, laidLooks := .later }
def TreeDecompFormatParseUptoCardSaid : Prop := Claim7.holds Tryz.pinned (.plain (OpenSpec.upto treeDecompFormatParseSpec)) treeDecompFormatParseUptoCard
end Rows
end Go.Proofs.YteiibpfabgfolaaGreatDoor
