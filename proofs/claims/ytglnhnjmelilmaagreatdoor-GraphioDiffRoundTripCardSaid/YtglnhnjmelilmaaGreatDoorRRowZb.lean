/- GraphioDiffRoundTrip: the tied card. -/
import Derived.Test.YtglnhnjmelilmaaGreatDoorRRowZ
set_option linter.all false
namespace Go.Proofs.YtglnhnjmelilmaaGreatDoor
open Go Go.ChangeShapes Go.WideShapes Go.ChangeAt Go.RowKit Go.Pal Go.Deep
theorem drWf : Rows.graphioDiffRoundTripRow.wfByText (OpenSpec.ofChange Rows.graphioDiffRoundTripSpec) = true := by kernel_rfl
theorem drMain : Tryz.pinned.checked.prog.mainIs = some (true, "d0d7b8cf81090ffec08abbacf53dc6cd992e9510132a01e351512d78ce5576bd".toList) := by kernel_rfl
theorem drGoes : false = Rows.graphioDiffRoundTripRow.goesBy Tryz.pinned.checked.prog := by kernel_rfl
theorem diffRoundTrip_card : Rows.GraphioDiffRoundTripCardSaid :=
 Claim7.holds_tied_plain_at .later [] _ _ _ _ said (fun _ h => by cases h) drWf (fun _ h => by cases h) graphioDiffRoundTrip_row_tie rfl ⟨rfl, rfl⟩ drMain rfl plain drGoes
end Go.Proofs.YtglnhnjmelilmaaGreatDoor
