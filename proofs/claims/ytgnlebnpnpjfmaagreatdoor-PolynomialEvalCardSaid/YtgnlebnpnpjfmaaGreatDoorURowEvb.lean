/- PolynomialEval: the tied card, given the walk. -/
import Derived.Test.YtgnlebnpnpjfmaaGreatDoorURowEv
set_option linter.all false
namespace Go.Proofs.YtgnlebnpnpjfmaaGreatDoor
open Go Go.ChangeShapes Go.WideShapes Go.ChangeAt Go.RowKit Go.Pal Go.Deep
theorem wf_plEval : Rows.polynomialEvalRow.wfByText (OpenSpec.ofChange Rows.polynomialEvalSpec) = true := by kernel_rfl
theorem main_plEval : Tryz.pinned.checked.prog.mainIs = some (true, "4c7241f762aebecb2fea502cdf3403f06c706a04131e3f3d9b770a9c6a20e93c".toList) := by kernel_rfl
theorem goes_plEval : false = Rows.polynomialEvalRow.goesBy Tryz.pinned.checked.prog := by kernel_rfl
theorem card_plEval (hlaw : Law_plEval) : Rows.PolynomialEvalCardSaid :=
 Claim7.holds_tied_plain_at .later [] _ _ _ _ (said_plEval hlaw) (fun _ h => by cases h) wf_plEval (fun _ h => by cases h) polynomialEval_row_tie rfl ⟨rfl, rfl⟩ main_plEval rfl plain_plEval goes_plEval
end Go.Proofs.YtgnlebnpnpjfmaaGreatDoor
