/- GraphioGraphs: the tied card. -/
import Derived.Test.YtlmccbepllgbfaaGreatDoorDRowA
set_option linter.all false
namespace Go.Proofs.YtlmccbepllgbfaaGreatDoor
open Go Go.ChangeShapes Go.WideShapes Go.ChangeAt Go.RowKit Go.Pal Go.Deep
theorem ggWf : Rows.graphioGraphsRow.wfByText (OpenSpec.ofChange Rows.graphioGraphsSpec) = true := by kernel_rfl
theorem ggMain : Tryz.pinned.checked.prog.mainIs = some (true, "3115261aa18fd436b66959d7e80e2a2efd915a7e5b35aba1e0b9cb65eefe0c51".toList) := by kernel_rfl
theorem ggGoes : false = Rows.graphioGraphsRow.goesBy Tryz.pinned.checked.prog := by kernel_rfl
theorem graphs_card : Rows.GraphioGraphsCardSaid :=
 Claim7.holds_tied_plain_at .later [] _ _ _ _ said (fun _ h => by cases h) ggWf (fun _ h => by cases h) graphioGraphs_row_tie rfl ⟨rfl, rfl⟩ ggMain rfl plain ggGoes
end Go.Proofs.YtlmccbepllgbfaaGreatDoor
