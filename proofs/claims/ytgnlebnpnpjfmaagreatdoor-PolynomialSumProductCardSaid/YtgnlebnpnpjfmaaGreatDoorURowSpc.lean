/- PolynomialSumProduct answers true for every input, and its arguments read afterwards as .. -/
import Derived.Test.YtgnlebnpnpjfmaaGreatDoorURowSpb
import Derived.Test.YtgnlebnpnpjfmaaGreatDoorUQM
set_option linter.all false
namespace Go.Proofs.YtgnlebnpnpjfmaaGreatDoor
open Go Go.ChangeShapes Go.WideShapes Go.ChangeAt Go.RowKit Go.Pal Go.Deep
theorem sumProduct_card : Rows.PolynomialSumProductCardSaid := card_plSum plsum_any
end Go.Proofs.YtgnlebnpnpjfmaaGreatDoor
