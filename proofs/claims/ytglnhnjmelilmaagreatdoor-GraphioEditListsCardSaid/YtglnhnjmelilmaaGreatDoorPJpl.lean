/- Plain: the vertices, then the edges, of a graph added in their order build it; orders of .. -/
import Derived.Test.YtglnhnjmelilmaaGreatDoorPGp
import Derived.Test.YtglnhnjmelilmaaGreatDoorPGx
set_option linter.all false
namespace Go.Pal
open Go
theorem take_snoc {α : Type} {l : List α} {k : Nat} {x : α} (h : l[k]? = some x) : l.take (k + 1) = l.take k ++ [x] := by rw [List.take_add_one, h]; rfl
theorem inI_0 : InI 0 := ⟨by decide, by decide⟩
end Go.Pal
