/-
  GraphioCanonical: the tied card.
-/
import Derived.Test.YtiojidabmlbogaaGreatDoorQRowF
set_option linter.unusedSimpArgs false
set_option linter.unusedVariables false
namespace Go.Proofs.YtiojidabmlbogaaGreatDoor
open Go Go.ChangeShapes Go.WideShapes Go.ChangeAt Go.RowKit Go.Pal Go.Deep

theorem canWf : Rows.graphioCanonicalRow.wfByText (OpenSpec.ofChange Rows.graphioCanonicalSpec) = true := by kernel_rfl
theorem canMain : Tryz.pinned.checked.prog.mainIs = some (true, "038d09be331dfc4ca8b9ff8efbc5295f9785b00ae68484ab5d46f457ee15316c".toList) := by kernel_rfl
theorem canGoes : false = Rows.graphioCanonicalRow.goesBy Tryz.pinned.checked.prog := by kernel_rfl
/-- The card: GraphioCanonical answers true for every input, and its arguments read afterwards as before. -/
theorem canonical_card : Rows.GraphioCanonicalCardSaid :=
  Claim7.holds_tied_plain_at .later [] _ _ _ _ said (fun _ h => by cases h) canWf (fun _ h => by cases h) graphioCanonical_row_tie rfl ⟨rfl, rfl⟩ canMain rfl plain canGoes
end Go.Proofs.YtiojidabmlbogaaGreatDoor
