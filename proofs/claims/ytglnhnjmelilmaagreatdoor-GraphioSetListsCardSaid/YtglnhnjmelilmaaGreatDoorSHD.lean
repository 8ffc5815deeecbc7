/- Walks of the reference's graph: plus, joined. -/
import Derived.Test.YtglnhnjmelilmaaGreatDoorSHB
set_option linter.all false
namespace Go.Proofs.YtglnhnjmelilmaaGreatDoor
open Go Go.RowKit Go.Pal
attribute [local go_sem] Oper.semAt_some
end Go.Proofs.YtglnhnjmelilmaaGreatDoor
