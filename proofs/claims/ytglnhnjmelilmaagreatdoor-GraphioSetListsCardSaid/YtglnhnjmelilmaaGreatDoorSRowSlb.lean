/- GraphioSetLists: the tied card. -/
import Derived.Test.YtglnhnjmelilmaaGreatDoorSRowSl
set_option linter.all false
namespace Go.Proofs.YtglnhnjmelilmaaGreatDoor
open Go Go.ChangeShapes Go.WideShapes Go.ChangeAt Go.RowKit Go.Pal Go.Deep
theorem slWf : Rows.graphioSetListsRow.wfByText (OpenSpec.ofChange Rows.graphioSetListsSpec) = true := by kernel_rfl
theorem slMain : Tryz.pinned.checked.prog.mainIs = some (true, "d0d7b8cf81090ffec08abbacf53dc6cd992e9510132a01e351512d78ce5576bd".toList) := by kernel_rfl
theorem slGoes : false = Rows.graphioSetListsRow.goesBy Tryz.pinned.checked.prog := by kernel_rfl
theorem card_of (hlaw : SlLaw) : Rows.GraphioSetListsCardSaid :=
 Claim7.holds_tied_plain_at .later [] _ _ _ _ (said hlaw) (fun _ h => by cases h) slWf (fun _ h => by cases h) graphioSetLists_row_tie rfl ⟨rfl, rfl⟩ slMain rfl plain slGoes
end Go.Proofs.YtglnhnjmelilmaaGreatDoor
