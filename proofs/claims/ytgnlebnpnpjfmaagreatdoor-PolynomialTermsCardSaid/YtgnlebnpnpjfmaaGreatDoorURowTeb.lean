/- PolynomialTerms: the tied card, given the walk. -/
import Derived.Test.YtgnlebnpnpjfmaaGreatDoorURowTe
set_option linter.all false
namespace Go.Proofs.YtgnlebnpnpjfmaaGreatDoor
open Go Go.ChangeShapes Go.WideShapes Go.ChangeAt Go.RowKit Go.Pal Go.Deep
theorem wf_plTerms : Rows.polynomialTermsRow.wfByText (OpenSpec.ofChange Rows.polynomialTermsSpec) = true := by kernel_rfl
theorem main_plTerms : Tryz.pinned.checked.prog.mainIs = some (true, "4c7241f762aebecb2fea502cdf3403f06c706a04131e3f3d9b770a9c6a20e93c".toList) := by kernel_rfl
theorem goes_plTerms : false = Rows.polynomialTermsRow.goesBy Tryz.pinned.checked.prog := by kernel_rfl
theorem card_plTerms (hlaw : Law_plTerms) : Rows.PolynomialTermsCardSaid :=
 Claim7.holds_tied_plain_at .later [] _ _ _ _ (said_plTerms hlaw) (fun _ h => by cases h) wf_plTerms (fun _ h => by cases h) polynomialTerms_row_tie rfl ⟨rfl, rfl⟩ main_plTerms rfl plain_plTerms goes_plTerms
end Go.Proofs.YtgnlebnpnpjfmaaGreatDoor
