/- GraphioEditLists: the tied card. -/
import Derived.Test.YtglnhnjmelilmaaGreatDoorPRowP
set_option linter.all false
namespace Go.Proofs.YtglnhnjmelilmaaGreatDoor
open Go Go.ChangeShapes Go.WideShapes Go.ChangeAt Go.RowKit Go.Pal Go.Deep
theorem elWf : Rows.graphioEditListsRow.wfByText (OpenSpec.ofChange Rows.graphioEditListsSpec) = true := by kernel_rfl
theorem elMain : Tryz.pinned.checked.prog.mainIs = some (true, "d0d7b8cf81090ffec08abbacf53dc6cd992e9510132a01e351512d78ce5576bd".toList) := by kernel_rfl
theorem elGoes : false = Rows.graphioEditListsRow.goesBy Tryz.pinned.checked.prog := by kernel_rfl
theorem editLists_card : Rows.GraphioEditListsCardSaid :=
 Claim7.holds_tied_plain_at .later [] _ _ _ _ said (fun _ h => by cases h) elWf (fun _ h => by cases h) graphioEditLists_row_tie rfl ⟨rfl, rfl⟩ elMain rfl plain elGoes
end Go.Proofs.YtglnhnjmelilmaaGreatDoor
