/-
  Walks of package treedecomp: CheckGraph.
-/
import Derived.Test.YtiojidabmlbogaaGreatDoorQGP
import Derived.Test.YtiojidabmlbogaaGreatDoorQTt
set_option linter.unusedSimpArgs false
set_option linter.unusedVariables false
namespace Go.Pal
open Go
end Go.Pal
namespace Go.Proofs.YtiojidabmlbogaaGreatDoor
open Go Go.RowKit Go.Pal
attribute [local go_sem] Oper.semAt_some

end Go.Proofs.YtiojidabmlbogaaGreatDoor
