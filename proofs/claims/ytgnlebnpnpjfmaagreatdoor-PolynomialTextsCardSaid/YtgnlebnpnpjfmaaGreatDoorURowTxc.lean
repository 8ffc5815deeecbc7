/- PolynomialTexts answers true for every input, and its arguments read afterwards as .. -/
import Derived.Test.YtgnlebnpnpjfmaaGreatDoorURowTxb
import Derived.Test.YtgnlebnpnpjfmaaGreatDoorUQS
set_option linter.all false
namespace Go.Proofs.YtgnlebnpnpjfmaaGreatDoor
open Go Go.ChangeShapes Go.WideShapes Go.ChangeAt Go.RowKit Go.Pal Go.Deep
theorem texts_card : Rows.PolynomialTextsCardSaid := card_plTexts pltexts_any
end Go.Proofs.YtgnlebnpnpjfmaaGreatDoor
