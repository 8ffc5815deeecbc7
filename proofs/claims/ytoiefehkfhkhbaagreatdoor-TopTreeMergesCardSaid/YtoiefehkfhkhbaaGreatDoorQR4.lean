/-
  The reference's check of a tree of bags, as a plain function. No program.
-/
import Derived.Test.YtoiefehkfhkhbaaGreatDoorQPlain
namespace Go.Pal
open Go

/-- The parent of a bag. -/
def upI (T : List Bg) (i : Int) : Int := match T[i.toNat]? with | none => -1 | some x => x.1
/-- The bags above one, nearest first, or none where there are too many. -/
def climb (T : List Bg) : Nat → Int → Option (List Int)
  | 0, z => if z < 0 then some [] else none
  | f + 1, z => if z < 0 then some [] else (climb T f (upI T z)).map (z :: ·)
/-- The bags with a vertex whose parents lack it. -/
def topsL (T : List Bg) (n : Nat) : List Nat := (List.range T.length).filter fun i => (topS T i).testBit n
def parB (m : Nat) (x : Bg) : Bool := decide (-1 ≤ x.1) && decide (x.1 < (m : Int))
def rootB (x : Bg) : Bool := decide (x.1 < 0)
def bagN (T : List Bg) (b : Nat) : Nat := match T[b]? with | none => 0 | some x => x.2
def upB (T : List Bg) (i : Nat) : Bool := (climb T (T.length + 1) (upI T (i : Int))).isSome
def oneB (T : List Bg) (n : Nat) : Bool := (topsL T n).length == 1
def topB (T : List Bg) (i : Nat) : Bool := (elems (bagN T i)).all fun n => oneB T n
def rCheckN (T : List Bg) : Int :=
  if T.length < 1 ∨ 4096 < T.length then 2
  else if T.all (parB T.length) = false then 3
  else if (T.filter rootB).length ≠ 1 then 3
  else if (List.range T.length).all (upB T) = false then 15
  else if (List.range T.length).all (topB T) = false then 7 else 0
def fewB (x : Bg) : Bool := decide ((elems x.2).length ≤ 4)
def r45N (T : List Bg) : Int :=
  if rCheckN T ≠ 0 then rCheckN T else if 1024 < T.length then 2 else if T.all fewB = false then 14 else 0
theorem upI_of {T : List Bg} {i : Nat} {x : Bg} (h : T[i]? = some x) : upI T (i : Int) = x.1 := by simp [upI, h]
theorem bagN_of {T : List Bg} {i : Nat} {x : Bg} (h : T[i]? = some x) : bagN T i = x.2 := by simp [bagN, h]
/-- The bags of a number up to some index. -/
def topsTo (T : List Bg) (n k : Nat) : List Int := ((List.range k).filter fun i => (topS T i).testBit n).map fun i : Nat => (i : Int)
theorem topsTo_succ (T : List Bg) (n k : Nat) : topsTo T n (k + 1) = topsTo T n k ++ if (topS T k).testBit n then [(k : Int)] else [] := by
  unfold topsTo
  rw [List.range_succ, List.filter_append, List.map_append]
  congr 1
  by_cases h : (topS T k).testBit n <;> simp [h]
theorem topsTo_length (T : List Bg) (n k : Nat) : (topsTo T n k).length ≤ k := by
  unfold topsTo
  rw [List.length_map]
  exact Nat.le_trans (List.length_filter_le _ _) (by simp)
theorem topsTo_all (T : List Bg) (n : Nat) : topsTo T n T.length = (topsL T n).map fun i : Nat => (i : Int) := rfl
end Go.Pal
