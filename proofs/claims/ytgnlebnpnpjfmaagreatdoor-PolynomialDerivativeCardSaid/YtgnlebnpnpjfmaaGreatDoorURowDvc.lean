/- PolynomialDerivative answers true for every input, and its arguments read afterwards as .. -/
import Derived.Test.YtgnlebnpnpjfmaaGreatDoorURowDvb
import Derived.Test.YtgnlebnpnpjfmaaGreatDoorUQP
set_option linter.all false
namespace Go.Proofs.YtgnlebnpnpjfmaaGreatDoor
open Go Go.ChangeShapes Go.WideShapes Go.ChangeAt Go.RowKit Go.Pal Go.Deep
theorem derivative_card : Rows.PolynomialDerivativeCardSaid := card_plDeriv plderiv_any
end Go.Proofs.YtgnlebnpnpjfmaaGreatDoor
