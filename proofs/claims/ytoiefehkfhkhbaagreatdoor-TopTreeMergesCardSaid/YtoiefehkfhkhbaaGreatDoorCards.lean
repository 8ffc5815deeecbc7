/-
  DERIVED. GIVEN WITH THE SEED: THE CARDS: each row of YtoiefehkfhkhbaaGreatDoorRows.lean that lists a variable, with what it lists TIED to the program's text (the seventh form; the later family's looks); each row that meets fmt, with fmt's text TOLD by the authors' own Lean function (tested against real Go, not proved from fmt's source: count such statements apart). THE CARD IS WHAT COUNTS. Prove the row's statement (the work); the ties are given (YtoiefehkfhkhbaaGreatDoorTie.lean); close each card by the builder's one call (the guide's Derived/Test/ToyasCard.lean, 'card_holds'). Laid BY PROGRAM, IN A SANDBOX (cutbox-door.mjs). By AI agents, Wed Nov 11 2026. No macro, syntax, notation, axiom, sorry.
-/
import Derived.Test.YtoiefehkfhkhbaaGreatDoorRows
import GoSem.ClaimSeven
namespace Go.Proofs.YtoiefehkfhkhbaaGreatDoor
namespace Rows

/-- THE TIED CARD OF 'palmettelaw46.TopTreeMerges'. -/
def topTreeMergesCard : Claim7 := { stood := { row := topTreeMergesRow, standIns := [], harness := (true, "92a58a489843c7fdff365ec020745b6449ae4d0898b5825fe8d9bac14a9cf58d"), looks := false }, kinds := [], alts := [], laidByText := true, laidKinds := [.data], laidTests := true, laidLooks := .later }
def TopTreeMergesCardSaid : Prop := Claim7.holds Tryz.pinned (.plain (OpenSpec.ofChange topTreeMergesSpec)) topTreeMergesCard

/-- THE SECOND FORM's CARD OF 'palmettelaw46.TopTreeMerges'. -/
def topTreeMergesUptoCard : Claim7 := { stood := { row := topTreeMergesUptoRow, standIns := [], harness := (true, "92a58a489843c7fdff365ec020745b6449ae4d0898b5825fe8d9bac14a9cf58d"), looks := false }, kinds := [], alts := [], laidByText := true, laidKinds := [.data], laidTests := true, laidLooks := .later }
def TopTreeMergesUptoCardSaid : Prop := Claim7.holds Tryz.pinned (.plain (OpenSpec.upto topTreeMergesSpec)) topTreeMergesUptoCard
end Rows
end Go.Proofs.YtoiefehkfhkhbaaGreatDoor
