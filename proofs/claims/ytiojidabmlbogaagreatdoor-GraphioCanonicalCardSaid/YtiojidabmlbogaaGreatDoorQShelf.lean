/-
  A tree of bags copied, by the library's contract of slices.Clone.
-/
import Derived.Test.YtiojidabmlbogaaGreatDoorQShelfL
import Derived.Test.YtiojidabmlbogaaGreatDoorQTt
set_option linter.unusedSimpArgs false
set_option linter.unusedVariables false
namespace Go.Proofs.YtiojidabmlbogaaGreatDoor
open Go Go.RowKit Go.Pal Go.Shelf

end Go.Proofs.YtiojidabmlbogaaGreatDoor
