/- PolynomialRing: the tied card, given the walk. -/
import Derived.Test.YtgnlebnpnpjfmaaGreatDoorURowRg
set_option linter.all false
namespace Go.Proofs.YtgnlebnpnpjfmaaGreatDoor
open Go Go.ChangeShapes Go.WideShapes Go.ChangeAt Go.RowKit Go.Pal Go.Deep
theorem wf_plRing : Rows.polynomialRingRow.wfByText (OpenSpec.ofChange Rows.polynomialRingSpec) = true := by kernel_rfl
theorem main_plRing : Tryz.pinned.checked.prog.mainIs = some (true, "4c7241f762aebecb2fea502cdf3403f06c706a04131e3f3d9b770a9c6a20e93c".toList) := by kernel_rfl
theorem goes_plRing : false = Rows.polynomialRingRow.goesBy Tryz.pinned.checked.prog := by kernel_rfl
theorem card_plRing (hlaw : Law_plRing) : Rows.PolynomialRingCardSaid :=
 Claim7.holds_tied_plain_at .later [] _ _ _ _ (said_plRing hlaw) (fun _ h => by cases h) wf_plRing (fun _ h => by cases h) polynomialRing_row_tie rfl ⟨rfl, rfl⟩ main_plRing rfl plain_plRing goes_plRing
end Go.Proofs.YtgnlebnpnpjfmaaGreatDoor
