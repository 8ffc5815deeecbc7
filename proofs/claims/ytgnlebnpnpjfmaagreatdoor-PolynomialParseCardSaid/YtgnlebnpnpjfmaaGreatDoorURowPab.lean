/- PolynomialParse: the tied card, given the walk. -/
import Derived.Test.YtgnlebnpnpjfmaaGreatDoorURowPa
set_option linter.all false
namespace Go.Proofs.YtgnlebnpnpjfmaaGreatDoor
open Go Go.ChangeShapes Go.WideShapes Go.ChangeAt Go.RowKit Go.Pal Go.Deep
theorem wf_plParse : Rows.polynomialParseRow.wfByText (OpenSpec.ofChange Rows.polynomialParseSpec) = true := by kernel_rfl
theorem main_plParse : Tryz.pinned.checked.prog.mainIs = some (true, "4c7241f762aebecb2fea502cdf3403f06c706a04131e3f3d9b770a9c6a20e93c".toList) := by kernel_rfl
theorem goes_plParse : false = Rows.polynomialParseRow.goesBy Tryz.pinned.checked.prog := by kernel_rfl
theorem card_plParse (hlaw : Law_plParse) : Rows.PolynomialParseCardSaid :=
 Claim7.holds_tied_plain_at .later [] _ _ _ _ (said_plParse hlaw) (fun _ h => by cases h) wf_plParse (fun _ h => by cases h) polynomialParse_row_tie rfl ⟨rfl, rfl⟩ main_plParse rfl plain_plParse goes_plParse
end Go.Proofs.YtgnlebnpnpjfmaaGreatDoor
