/- GraphioSetLists answers true for every input, and its arguments read afterwards as .. -/
import Derived.Test.YtglnhnjmelilmaaGreatDoorSRowSlb
import Derived.Test.YtglnhnjmelilmaaGreatDoorSBL
set_option linter.all false
namespace Go.Proofs.YtglnhnjmelilmaaGreatDoor
open Go Go.ChangeShapes Go.WideShapes Go.ChangeAt Go.RowKit Go.Pal Go.Deep
theorem setLists_card : Rows.GraphioSetListsCardSaid := card_of slLaw_any
end Go.Proofs.YtglnhnjmelilmaaGreatDoor
