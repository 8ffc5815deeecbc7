/- Walks of the reference's graph: pair, heavy, Find, Edge, Wrong. -/
import Derived.Test.YtglnhnjmelilmaaGreatDoorSVc
import Derived.Test.YtglnhnjmelilmaaGreatDoorSGrf
import Derived.Deep.DeepCutAuto
import Derived.Deep.CutBlock
set_option linter.all false
namespace Go.Proofs.YtglnhnjmelilmaaGreatDoor
open Go Go.RowKit Go.Pal
attribute [local go_sem] Oper.semAt_some
end Go.Proofs.YtglnhnjmelilmaaGreatDoor
