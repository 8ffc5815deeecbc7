/- PolynomialSumProduct: the tied card, given the walk. -/
import Derived.Test.YtgnlebnpnpjfmaaGreatDoorURowSp
set_option linter.all false
namespace Go.Proofs.YtgnlebnpnpjfmaaGreatDoor
open Go Go.ChangeShapes Go.WideShapes Go.ChangeAt Go.RowKit Go.Pal Go.Deep
theorem wf_plSum : Rows.polynomialSumProductRow.wfByText (OpenSpec.ofChange Rows.polynomialSumProductSpec) = true := by kernel_rfl
theorem main_plSum : Tryz.pinned.checked.prog.mainIs = some (true, "4c7241f762aebecb2fea502cdf3403f06c706a04131e3f3d9b770a9c6a20e93c".toList) := by kernel_rfl
theorem goes_plSum : false = Rows.polynomialSumProductRow.goesBy Tryz.pinned.checked.prog := by kernel_rfl
theorem card_plSum (hlaw : Law_plSum) : Rows.PolynomialSumProductCardSaid :=
 Claim7.holds_tied_plain_at .later [] _ _ _ _ (said_plSum hlaw) (fun _ h => by cases h) wf_plSum (fun _ h => by cases h) polynomialSumProduct_row_tie rfl ⟨rfl, rfl⟩ main_plSum rfl plain_plSum goes_plSum
end Go.Proofs.YtgnlebnpnpjfmaaGreatDoor
