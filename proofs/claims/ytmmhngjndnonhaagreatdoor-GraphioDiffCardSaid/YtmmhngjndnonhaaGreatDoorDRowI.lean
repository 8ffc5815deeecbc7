/-
  GraphioDiff: the tied card.
-/
import Derived.Test.YtmmhngjndnonhaaGreatDoorDRowH
set_option linter.unusedSimpArgs false
set_option linter.unusedVariables false
namespace Go.Proofs.YtmmhngjndnonhaaGreatDoor
open Go Go.ChangeShapes Go.WideShapes Go.ChangeAt Go.RowKit Go.Pal Go.Deep

theorem dfWf : Rows.graphioDiffRow.wfByText (OpenSpec.ofChange Rows.graphioDiffSpec) = true := by kernel_rfl
theorem dfMain : Tryz.pinned.checked.prog.mainIs = some (true, "dc31f5d875f24e3f86959e25ae6154a069a8f06caf64461742dfea2e1b9868e9".toList) := by kernel_rfl
theorem dfGoes : false = Rows.graphioDiffRow.goesBy Tryz.pinned.checked.prog := by kernel_rfl
/-- The card: GraphioDiff answers true for every input, and its arguments read afterwards as before. -/
theorem diff_card : Rows.GraphioDiffCardSaid :=
  Claim7.holds_tied_plain_at .later [] _ _ _ _ said (fun _ h => by cases h) dfWf (fun _ h => by cases h) graphioDiff_row_tie rfl ⟨rfl, rfl⟩ dfMain rfl plain dfGoes
end Go.Proofs.YtmmhngjndnonhaaGreatDoor
