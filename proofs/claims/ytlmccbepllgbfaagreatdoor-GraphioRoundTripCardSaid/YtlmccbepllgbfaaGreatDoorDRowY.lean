/- GraphioRoundTrip: the tied card. -/
import Derived.Test.YtlmccbepllgbfaaGreatDoorDRowX
set_option linter.all false
namespace Go.Proofs.YtlmccbepllgbfaaGreatDoor
open Go Go.ChangeShapes Go.WideShapes Go.ChangeAt Go.RowKit Go.Pal Go.Deep
theorem rtWf : Rows.graphioRoundTripRow.wfByText (OpenSpec.ofChange Rows.graphioRoundTripSpec) = true := by kernel_rfl
theorem rtMain : Tryz.pinned.checked.prog.mainIs = some (true, "3115261aa18fd436b66959d7e80e2a2efd915a7e5b35aba1e0b9cb65eefe0c51".toList) := by kernel_rfl
theorem rtGoes : false = Rows.graphioRoundTripRow.goesBy Tryz.pinned.checked.prog := by kernel_rfl
theorem roundTrip_card : Rows.GraphioRoundTripCardSaid :=
 Claim7.holds_tied_plain_at .later [] _ _ _ _ said (fun _ h => by cases h) rtWf (fun _ h => by cases h) graphioRoundTrip_row_tie rfl ⟨rfl, rfl⟩ rtMain rfl plain rtGoes
end Go.Proofs.YtlmccbepllgbfaaGreatDoor
