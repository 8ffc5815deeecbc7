/- PolynomialSemiring answers true for every input, and its arguments read afterwards as .. -/
import Derived.Test.YtgnlebnpnpjfmaaGreatDoorURowSmb
import Derived.Test.YtgnlebnpnpjfmaaGreatDoorUQK
set_option linter.all false
namespace Go.Proofs.YtgnlebnpnpjfmaaGreatDoor
open Go Go.ChangeShapes Go.WideShapes Go.ChangeAt Go.RowKit Go.Pal Go.Deep
theorem semiring_card : Rows.PolynomialSemiringCardSaid := card_plSemi plsemi_any
end Go.Proofs.YtgnlebnpnpjfmaaGreatDoor
