/- A region whose order is drawn: a plan for the first operations, as the text on plans has .. -/
import Derived.Test.YtglnhnjmelilmaaGreatDoorSRule
set_option linter.all false
namespace Go.Pal
open Go
section
variable {P : Program} {ops : Array Oper} {md : Region.Mode} {S : World → Prop} {Q : Exit → Act → World → Prop}
end
section
variable {P : Program} {ops : Array Oper} {md : Region.Mode} {S1 S2 : World → Prop} {z : Nat} {Q : Exit → Act → World → Prop}
def SLz (S1 S2 : World → Prop) (z : Nat) (listed : Array Bool) (w : World) : Prop := (listed.getD z false = false → S1 w) ∧ (listed.getD z false = true → S2 w)
theorem SLz.set {i : Nat} {listed : Array Bool} {w : World} (h : i ≠ z) : SLz S1 S2 z (listed.setIfInBounds i true) w ↔ SLz S1 S2 z listed w := by
 unfold SLz
 rw [getD_set_ne false h]
end
end Go.Pal
