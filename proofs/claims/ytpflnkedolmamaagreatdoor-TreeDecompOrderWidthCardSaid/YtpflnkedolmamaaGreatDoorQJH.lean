/-
  Walks of the reference: Of (the decomposition of an order).
-/
import Derived.Test.YtpflnkedolmamaaGreatDoorQJD
import Derived.Test.YtpflnkedolmamaaGreatDoorQRef3
set_option linter.unusedSimpArgs false
set_option linter.unusedVariables false
namespace Go.Proofs.YtpflnkedolmamaaGreatDoor
open Go Go.RowKit Go.Pal
attribute [local go_sem] Oper.semAt_some

end Go.Proofs.YtpflnkedolmamaaGreatDoor
