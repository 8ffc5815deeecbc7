/-
  GraphioEdgeSets: the tied card.
-/
import Derived.Test.YtmmhngjndnonhaaGreatDoorDRowV
set_option linter.unusedSimpArgs false
set_option linter.unusedVariables false
namespace Go.Proofs.YtmmhngjndnonhaaGreatDoor
open Go Go.ChangeShapes Go.WideShapes Go.ChangeAt Go.RowKit Go.Pal Go.Deep

theorem esWf : Rows.graphioEdgeSetsRow.wfByText (OpenSpec.ofChange Rows.graphioEdgeSetsSpec) = true := by kernel_rfl
theorem esMain : Tryz.pinned.checked.prog.mainIs = some (true, "dc31f5d875f24e3f86959e25ae6154a069a8f06caf64461742dfea2e1b9868e9".toList) := by kernel_rfl
theorem esGoes : false = Rows.graphioEdgeSetsRow.goesBy Tryz.pinned.checked.prog := by kernel_rfl
/-- The card: GraphioEdgeSets answers true for every input, and its arguments read afterwards as before. -/
theorem edgeSets_card : Rows.GraphioEdgeSetsCardSaid :=
  Claim7.holds_tied_plain_at .later [] _ _ _ _ said (fun _ h => by cases h) esWf (fun _ h => by cases h) graphioEdgeSets_row_tie rfl ⟨rfl, rfl⟩ esMain rfl plain esGoes
end Go.Proofs.YtmmhngjndnonhaaGreatDoor
