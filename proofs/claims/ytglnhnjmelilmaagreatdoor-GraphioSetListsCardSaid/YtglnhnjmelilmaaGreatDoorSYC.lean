/- A graph that may be nil; walks of package graph: Vertices and Edges of it, Vertex, Edge; .. -/
import Derived.Test.YtglnhnjmelilmaaGreatDoorSVh
import Derived.Test.YtglnhnjmelilmaaGreatDoorSJg
set_option linter.all false
namespace Go.Pal
open Go Go.RowKit
section
variable {α : Type} {P : Program} {e : TypeId} {k : Nat} {enc : α → Array Value}
end
end Go.Pal
namespace Go.Proofs.YtglnhnjmelilmaaGreatDoor
open Go Go.RowKit Go.Pal
attribute [local go_sem] Oper.semAt_some
def GPtr (w : World) (p : Value) (G : Gr) : Prop := (p = .pointer none ∧ G = Gr.none) ∨ ∃ g bV bE, p = .pointer (some ⟨g, 0, none⟩) ∧ GOk w g bV bE G
theorem GPtr.below {w w' : World} {p : Value} {G : Gr} (h : GPtr w p G) (hb : Below w.heap.size w w') : GPtr w' p G := h.imp id fun ⟨g, bV, bE, h1, h2⟩ => ⟨g, bV, bE, h1, h2.below hb⟩
theorem GPtr.of {w : World} {g bV bE : Nat} {G : Gr} (h : GOk w g bV bE G) : GPtr w (.pointer (some ⟨g, 0, none⟩)) G := .inr ⟨g, bV, bE, rfl, h⟩
end Go.Proofs.YtglnhnjmelilmaaGreatDoor
