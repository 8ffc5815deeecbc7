/- PolynomialRing answers true for every input, and its arguments read afterwards as before: .. -/
import Derived.Test.YtgnlebnpnpjfmaaGreatDoorURowRgb
import Derived.Test.YtgnlebnpnpjfmaaGreatDoorUQJ
set_option linter.all false
namespace Go.Proofs.YtgnlebnpnpjfmaaGreatDoor
open Go Go.ChangeShapes Go.WideShapes Go.ChangeAt Go.RowKit Go.Pal Go.Deep
theorem ring_card : Rows.PolynomialRingCardSaid := card_plRing plring_any
end Go.Proofs.YtgnlebnpnpjfmaaGreatDoor
