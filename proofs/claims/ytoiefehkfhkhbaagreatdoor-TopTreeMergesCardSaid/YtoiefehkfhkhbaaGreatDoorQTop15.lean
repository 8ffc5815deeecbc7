/-
  Walks of package toptree: Depth.
-/
import Derived.Test.YtoiefehkfhkhbaaGreatDoorQTo13
namespace Go.Proofs.YtoiefehkfhkhbaaGreatDoor
open Go Go.RowKit Go.Pal Go.Shelf

/-- The depths of the last k clusters. -/
def dpK (U : Nat → Int) (n k : Nat) : Nat → Int := fun q => if n - k ≤ q then (dpt U n q : Int) else 0
theorem dpK_zero (U : Nat → Int) (n : Nat) : rowI (dpK U n 0) n = Array.replicate n (.int .i64 0) := by
  rw [← rowI_const]
  unfold rowI
  congr 1
  funext i
  have := i.isLt
  simp [dpK]
  omega
theorem dpK_succ {U : Nat → Int} {n k : Nat} (hk : k < n) : rowI (updI (dpK U n k) (n - 1 - k) (dpt U n (n - 1 - k) : Int)) n = rowI (dpK U n (k + 1)) n := by
  unfold rowI
  congr 1
  funext i
  have := i.isLt
  simp only [updI, dpK]
  by_cases h1 : i.val = n - 1 - k
  · rw [if_pos h1, if_pos (by omega), h1]
  · rw [if_neg h1]
    by_cases h2 : n - k ≤ i.val
    · rw [if_pos h2, if_pos (by omega)]
    · rw [if_neg h2, if_neg (by omega)]

end Go.Proofs.YtoiefehkfhkhbaaGreatDoor
