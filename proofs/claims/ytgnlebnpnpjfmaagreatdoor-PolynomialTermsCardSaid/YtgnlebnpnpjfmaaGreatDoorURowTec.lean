/- PolynomialTerms answers true for every input, and its arguments read afterwards as .. -/
import Derived.Test.YtgnlebnpnpjfmaaGreatDoorURowTeb
import Derived.Test.YtgnlebnpnpjfmaaGreatDoorUQR
set_option linter.all false
namespace Go.Proofs.YtgnlebnpnpjfmaaGreatDoor
open Go Go.ChangeShapes Go.WideShapes Go.ChangeAt Go.RowKit Go.Pal Go.Deep
theorem terms_card : Rows.PolynomialTermsCardSaid := card_plTerms plterms_any
end Go.Proofs.YtgnlebnpnpjfmaaGreatDoor
