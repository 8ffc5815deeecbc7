/-
  Walks of package treedecomp: drawn (a bag that can be merged into its parent), Width.
-/
import Derived.Test.YtiojidabmlbogaaGreatDoorQTyB
set_option linter.unusedSimpArgs false
set_option linter.unusedVariables false
namespace Go.Pal
open Go
end Go.Pal
namespace Go.Proofs.YtiojidabmlbogaaGreatDoor
open Go Go.RowKit Go.Pal
attribute [local go_sem] Oper.semAt_some

end Go.Proofs.YtiojidabmlbogaaGreatDoor
