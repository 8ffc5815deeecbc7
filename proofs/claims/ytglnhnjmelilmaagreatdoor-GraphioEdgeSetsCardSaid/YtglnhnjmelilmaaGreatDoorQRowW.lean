/- GraphioEdgeSets: the tied card. -/
import Derived.Test.YtglnhnjmelilmaaGreatDoorQRowV
set_option linter.all false
namespace Go.Proofs.YtglnhnjmelilmaaGreatDoor
open Go Go.ChangeShapes Go.WideShapes Go.ChangeAt Go.RowKit Go.Pal Go.Deep
theorem esWf : Rows.graphioEdgeSetsRow.wfByText (OpenSpec.ofChange Rows.graphioEdgeSetsSpec) = true := by kernel_rfl
theorem esMain : Tryz.pinned.checked.prog.mainIs = some (true, "d0d7b8cf81090ffec08abbacf53dc6cd992e9510132a01e351512d78ce5576bd".toList) := by kernel_rfl
theorem esGoes : false = Rows.graphioEdgeSetsRow.goesBy Tryz.pinned.checked.prog := by kernel_rfl
theorem edgeSets_card : Rows.GraphioEdgeSetsCardSaid :=
 Claim7.holds_tied_plain_at .later [] _ _ _ _ said (fun _ h => by cases h) esWf (fun _ h => by cases h) graphioEdgeSets_row_tie rfl ⟨rfl, rfl⟩ esMain rfl plain esGoes
end Go.Proofs.YtglnhnjmelilmaaGreatDoor
