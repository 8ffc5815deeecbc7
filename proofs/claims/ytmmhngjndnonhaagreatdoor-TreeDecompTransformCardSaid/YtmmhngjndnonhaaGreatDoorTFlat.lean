/- The cells of a tree of bags, one behind the other. No program. -/
import Derived.Test.YtmmhngjndnonhaaGreatDoorTPlain
set_option linter.all false
namespace Go.Pal
open Go
def flatB : List Bg → List Value
 | [] => []
 | x :: xs => (bagA x).toList ++ flatB xs
theorem flatB_length (T : List Bg) : (flatB T).length = T.length * 17 := by
 induction T with
 | nil => rfl
 | cons x xs ih =>
   rw [flatB, List.length_append, ih, Array.length_toList, bagA_size, List.length_cons]
   omega
theorem flatB_at {T : List Bg} : ∀ {m : Nat} {u : Value}, (flatB T)[m]? = some u → ∃ i j x, T[i]? = some x ∧ (bagA x)[j]? = some u ∧ m = i * 17 + j := by
 induction T with
 | nil => intro m u h; simp [flatB] at h
 | cons y ys ih =>
   intro m u h
   rw [flatB] at h
   have hy : (bagA y).toList.length = 17 := by rw [Array.length_toList, bagA_size]
   by_cases hm : m < 17
   · rw [List.getElem?_append_left (by rw [hy]; omega), Array.getElem?_toList] at h
     exact ⟨0, m, y, rfl, h, by omega⟩
   · rw [List.getElem?_append_right (by rw [hy]; omega), hy] at h
     obtain ⟨i, j, x, h1, h2, h3⟩ := ih h
     exact ⟨i + 1, j, x, by simpa using h1, h2, by omega⟩
end Go.Pal
