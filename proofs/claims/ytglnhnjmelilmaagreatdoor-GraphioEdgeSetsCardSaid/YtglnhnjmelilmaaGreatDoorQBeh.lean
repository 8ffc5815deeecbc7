/- Plain: one pair behind another. -/
import Derived.Test.YtglnhnjmelilmaaGreatDoorQGp
set_option linter.all false
namespace Go.Pal
open Go
def behB (u v : Int) (p : Int × Int) : Bool := decide (p.1 < u ∨ (u = p.1 ∧ p.2 < v))
end Go.Pal
