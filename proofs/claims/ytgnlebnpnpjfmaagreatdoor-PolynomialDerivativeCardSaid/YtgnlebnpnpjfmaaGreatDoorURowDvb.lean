/- PolynomialDerivative: the tied card, given the walk. -/
import Derived.Test.YtgnlebnpnpjfmaaGreatDoorURowDv
set_option linter.all false
namespace Go.Proofs.YtgnlebnpnpjfmaaGreatDoor
open Go Go.ChangeShapes Go.WideShapes Go.ChangeAt Go.RowKit Go.Pal Go.Deep
theorem wf_plDeriv : Rows.polynomialDerivativeRow.wfByText (OpenSpec.ofChange Rows.polynomialDerivativeSpec) = true := by kernel_rfl
theorem main_plDeriv : Tryz.pinned.checked.prog.mainIs = some (true, "4c7241f762aebecb2fea502cdf3403f06c706a04131e3f3d9b770a9c6a20e93c".toList) := by kernel_rfl
theorem goes_plDeriv : false = Rows.polynomialDerivativeRow.goesBy Tryz.pinned.checked.prog := by kernel_rfl
theorem card_plDeriv (hlaw : Law_plDeriv) : Rows.PolynomialDerivativeCardSaid :=
 Claim7.holds_tied_plain_at .later [] _ _ _ _ (said_plDeriv hlaw) (fun _ h => by cases h) wf_plDeriv (fun _ h => by cases h) polynomialDerivative_row_tie rfl ⟨rfl, rfl⟩ main_plDeriv rfl plain_plDeriv goes_plDeriv
end Go.Proofs.YtgnlebnpnpjfmaaGreatDoor
