/- Plain: the lines of a graph's text, vertices and edges read one by one; a graph's text .. -/
import Derived.Test.YtglnhnjmelilmaaGreatDoorRIa
import Derived.Test.YtglnhnjmelilmaaGreatDoorRVa
import Derived.Test.YtglnhnjmelilmaaGreatDoorRGp
import Derived.Test.YtglnhnjmelilmaaGreatDoorRGrH
set_option linter.all false
namespace Go.Pal
open Go Go.RowKit
def vertexW : List UInt8 := [118, 101, 114, 116, 101, 120]
def edgeW : List UInt8 := [101, 100, 103, 101]
def labB (n : Int) : Bool := decide (0 ≤ n ∧ n ≤ 255)
def wtB (n : Int) : Bool := decide (-1048576 ≤ n ∧ n ≤ 1048576)
theorem idB_iff {n : Int} : idB n = true ↔ 0 ≤ n ∧ n < 1024 := by simp [idB]
theorem labB_iff {n : Int} : labB n = true ↔ 0 ≤ n ∧ n ≤ 255 := by simp [labB]
theorem wtB_iff {n : Int} : wtB n = true ↔ -1048576 ≤ n ∧ n ≤ 1048576 := by simp [wtB]
def vl (x : Int × Th) : List UInt8 := lineB vertexW [x.1, (x.2.1 : Int), x.2.2]
def el (x : (Int × Int) × Th) : List UInt8 := lineB edgeW [x.1.1, x.1.2, (x.2.1 : Int), x.2.2]
end Go.Pal
