/- GraphioEdits: the tied card. -/
import Derived.Test.YtglnhnjmelilmaaGreatDoorPRowJ
set_option linter.all false
namespace Go.Proofs.YtglnhnjmelilmaaGreatDoor
open Go Go.ChangeShapes Go.WideShapes Go.ChangeAt Go.RowKit Go.Pal Go.Deep
theorem edWf : Rows.graphioEditsRow.wfByText (OpenSpec.ofChange Rows.graphioEditsSpec) = true := by kernel_rfl
theorem edMain : Tryz.pinned.checked.prog.mainIs = some (true, "d0d7b8cf81090ffec08abbacf53dc6cd992e9510132a01e351512d78ce5576bd".toList) := by kernel_rfl
theorem edGoes : false = Rows.graphioEditsRow.goesBy Tryz.pinned.checked.prog := by kernel_rfl
theorem edits_card : Rows.GraphioEditsCardSaid :=
 Claim7.holds_tied_plain_at .later [] _ _ _ _ said (fun _ h => by cases h) edWf (fun _ h => by cases h) graphioEdits_row_tie rfl ⟨rfl, rfl⟩ edMain rfl plain edGoes
end Go.Proofs.YtglnhnjmelilmaaGreatDoor
