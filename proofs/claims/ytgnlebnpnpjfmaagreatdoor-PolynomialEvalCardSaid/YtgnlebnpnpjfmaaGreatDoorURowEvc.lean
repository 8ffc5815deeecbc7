/- PolynomialEval answers true for every input, and its arguments read afterwards as before: .. -/
import Derived.Test.YtgnlebnpnpjfmaaGreatDoorURowEvb
import Derived.Test.YtgnlebnpnpjfmaaGreatDoorUQO
set_option linter.all false
namespace Go.Proofs.YtgnlebnpnpjfmaaGreatDoor
open Go Go.ChangeShapes Go.WideShapes Go.ChangeAt Go.RowKit Go.Pal Go.Deep
theorem eval_card : Rows.PolynomialEvalCardSaid := card_plEval pleval_any
end Go.Proofs.YtgnlebnpnpjfmaaGreatDoor
