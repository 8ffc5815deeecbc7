/- PolynomialTexts: the tied card, given the walk. -/
import Derived.Test.YtgnlebnpnpjfmaaGreatDoorURowTx
set_option linter.all false
namespace Go.Proofs.YtgnlebnpnpjfmaaGreatDoor
open Go Go.ChangeShapes Go.WideShapes Go.ChangeAt Go.RowKit Go.Pal Go.Deep
theorem wf_plTexts : Rows.polynomialTextsRow.wfByText (OpenSpec.ofChange Rows.polynomialTextsSpec) = true := by kernel_rfl
theorem main_plTexts : Tryz.pinned.checked.prog.mainIs = some (true, "4c7241f762aebecb2fea502cdf3403f06c706a04131e3f3d9b770a9c6a20e93c".toList) := by kernel_rfl
theorem goes_plTexts : false = Rows.polynomialTextsRow.goesBy Tryz.pinned.checked.prog := by kernel_rfl
theorem card_plTexts (hlaw : Law_plTexts) : Rows.PolynomialTextsCardSaid :=
 Claim7.holds_tied_plain_at .later [] _ _ _ _ (said_plTexts hlaw) (fun _ h => by cases h) wf_plTexts (fun _ h => by cases h) polynomialTexts_row_tie rfl ⟨rfl, rfl⟩ main_plTexts rfl plain_plTexts goes_plTexts
end Go.Proofs.YtgnlebnpnpjfmaaGreatDoor
