/- PolynomialCoefficients answers true for every input, and its arguments read afterwards as .. -/
import Derived.Test.YtgnlebnpnpjfmaaGreatDoorURowCfb
import Derived.Test.YtgnlebnpnpjfmaaGreatDoorUQU
set_option linter.all false
namespace Go.Proofs.YtgnlebnpnpjfmaaGreatDoor
open Go Go.ChangeShapes Go.WideShapes Go.ChangeAt Go.RowKit Go.Pal Go.Deep
theorem coefficients_card : Rows.PolynomialCoefficientsCardSaid := card_plCoefs plcoefs_any
end Go.Proofs.YtgnlebnpnpjfmaaGreatDoor
