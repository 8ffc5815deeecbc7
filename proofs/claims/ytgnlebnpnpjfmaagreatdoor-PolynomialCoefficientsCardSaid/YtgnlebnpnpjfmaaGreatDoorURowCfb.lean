/- PolynomialCoefficients: the tied card, given the walk. -/
import Derived.Test.YtgnlebnpnpjfmaaGreatDoorURowCf
set_option linter.all false
namespace Go.Proofs.YtgnlebnpnpjfmaaGreatDoor
open Go Go.ChangeShapes Go.WideShapes Go.ChangeAt Go.RowKit Go.Pal Go.Deep
theorem wf_plCoefs : Rows.polynomialCoefficientsRow.wfByText (OpenSpec.ofChange Rows.polynomialCoefficientsSpec) = true := by kernel_rfl
theorem main_plCoefs : Tryz.pinned.checked.prog.mainIs = some (true, "4c7241f762aebecb2fea502cdf3403f06c706a04131e3f3d9b770a9c6a20e93c".toList) := by kernel_rfl
theorem goes_plCoefs : false = Rows.polynomialCoefficientsRow.goesBy Tryz.pinned.checked.prog := by kernel_rfl
theorem card_plCoefs (hlaw : Law_plCoefs) : Rows.PolynomialCoefficientsCardSaid :=
 Claim7.holds_tied_plain_at .later [] _ _ _ _ (said_plCoefs hlaw) (fun _ h => by cases h) wf_plCoefs (fun _ h => by cases h) polynomialCoefficients_row_tie rfl ⟨rfl, rfl⟩ main_plCoefs rfl plain_plCoefs goes_plCoefs
end Go.Proofs.YtgnlebnpnpjfmaaGreatDoor
