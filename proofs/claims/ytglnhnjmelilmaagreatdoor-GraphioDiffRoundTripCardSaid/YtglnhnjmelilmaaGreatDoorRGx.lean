/- Walks of package elimination: Check. Variables of the elimination's type Step in memory: .. -/
import Derived.Test.YtglnhnjmelilmaaGreatDoorRGrH
import Derived.Test.YtglnhnjmelilmaaGreatDoorRS3
import Derived.Test.YtglnhnjmelilmaaGreatDoorRGrf
import Derived.Test.YtglnhnjmelilmaaGreatDoorRR1g
set_option linter.all false
namespace Go.Pal
open Go
def Gr.ordE (G : Gr) (o : List Int) : Nat := if o.length = G.V.length ∧ ofTo o o.length = G.vset then 0 else 3
end Go.Pal
namespace Go.Proofs.YtglnhnjmelilmaaGreatDoor
open Go Go.RowKit Go.Pal
end Go.Proofs.YtglnhnjmelilmaaGreatDoor
namespace Go.Pal
open Go
end Go.Pal
namespace Go.Proofs.YtglnhnjmelilmaaGreatDoor
open Go Go.RowKit Go.Pal
end Go.Proofs.YtglnhnjmelilmaaGreatDoor
namespace Go.Pal
open Go
end Go.Pal
namespace Go.Proofs.YtglnhnjmelilmaaGreatDoor
open Go Go.RowKit Go.Pal
attribute [local go_sem] Oper.semAt_some
end Go.Proofs.YtglnhnjmelilmaaGreatDoor
