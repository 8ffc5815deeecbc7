/- PolynomialSemiring: the tied card, given the walk. -/
import Derived.Test.YtgnlebnpnpjfmaaGreatDoorURowSm
set_option linter.all false
namespace Go.Proofs.YtgnlebnpnpjfmaaGreatDoor
open Go Go.ChangeShapes Go.WideShapes Go.ChangeAt Go.RowKit Go.Pal Go.Deep
theorem wf_plSemi : Rows.polynomialSemiringRow.wfByText (OpenSpec.ofChange Rows.polynomialSemiringSpec) = true := by kernel_rfl
theorem main_plSemi : Tryz.pinned.checked.prog.mainIs = some (true, "4c7241f762aebecb2fea502cdf3403f06c706a04131e3f3d9b770a9c6a20e93c".toList) := by kernel_rfl
theorem goes_plSemi : false = Rows.polynomialSemiringRow.goesBy Tryz.pinned.checked.prog := by kernel_rfl
theorem card_plSemi (hlaw : Law_plSemi) : Rows.PolynomialSemiringCardSaid :=
 Claim7.holds_tied_plain_at .later [] _ _ _ _ (said_plSemi hlaw) (fun _ h => by cases h) wf_plSemi (fun _ h => by cases h) polynomialSemiring_row_tie rfl ⟨rfl, rfl⟩ main_plSemi rfl plain_plSemi goes_plSemi
end Go.Proofs.YtgnlebnpnpjfmaaGreatDoor
