/-
  Walks of package elimination: Steps; an order that does not fit; a nil graph.
-/
import Derived.Test.YtiojidabmlbogaaGreatDoorQGx
set_option linter.unusedSimpArgs false
set_option linter.unusedVariables false
namespace Go.Pal
open Go
end Go.Pal
namespace Go.Proofs.YtiojidabmlbogaaGreatDoor
open Go Go.RowKit Go.Pal

end Go.Proofs.YtiojidabmlbogaaGreatDoor
