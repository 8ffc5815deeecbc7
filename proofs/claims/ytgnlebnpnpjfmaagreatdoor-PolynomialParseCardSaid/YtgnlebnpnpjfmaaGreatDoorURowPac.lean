/- PolynomialParse answers true for every input, and its arguments read afterwards as .. -/
import Derived.Test.YtgnlebnpnpjfmaaGreatDoorURowPab
import Derived.Test.YtgnlebnpnpjfmaaGreatDoorUQW
set_option linter.all false
namespace Go.Proofs.YtgnlebnpnpjfmaaGreatDoor
open Go Go.ChangeShapes Go.WideShapes Go.ChangeAt Go.RowKit Go.Pal Go.Deep
theorem parse_card : Rows.PolynomialParseCardSaid := card_plParse plparse_any
end Go.Proofs.YtgnlebnpnpjfmaaGreatDoor
