/-
  The cells of a tree of bags, one behind the other. No program.
-/
import Derived.Test.YtpflnkedolmamaaGreatDoorQPlain
namespace Go.Pal
open Go
def flatB : List Bg → List Value
  | [] => []
  | x :: xs => (bagA x).toList ++ flatB xs
theorem flatB_length (T : List Bg) : (flatB T).length = T.length * 17 := by
  induction T with
  | nil => rfl
  | cons x xs ih =>
    rw [flatB, List.length_append, ih, Array.length_toList, bagA_size, List.length_cons]
    omega
theorem flatB_get {T : List Bg} : ∀ {i j : Nat} {x : Bg} {u : Value}, T[i]? = some x → (bagA x)[j]? = some u → (flatB T)[i * 17 + j]? = some u := by
  induction T with
  | nil => intro i j x u hx; simp at hx
  | cons y ys ih =>
    intro i j x u hx hu
    rw [flatB]
    have hy : (bagA y).toList.length = 17 := by rw [Array.length_toList, bagA_size]
    cases i with
    | zero =>
      have hj : j < 17 := by have := (Array.getElem?_eq_some_iff.1 hu).1; rwa [bagA_size] at this
      simp only [List.getElem?_cons_zero, Option.some.injEq] at hx
      subst hx
      rw [List.getElem?_append_left (by rw [hy]; omega), Nat.zero_mul, Nat.zero_add, Array.getElem?_toList]
      exact hu
    | succ i =>
      rw [List.getElem?_append_right (by rw [hy]; omega), hy, show (i + 1) * 17 + j - 17 = i * 17 + j by omega]
      exact ih (by simpa using hx) hu
theorem flatB_at {T : List Bg} : ∀ {m : Nat} {u : Value}, (flatB T)[m]? = some u → ∃ i j x, T[i]? = some x ∧ (bagA x)[j]? = some u ∧ m = i * 17 + j := by
  induction T with
  | nil => intro m u h; simp [flatB] at h
  | cons y ys ih =>
    intro m u h
    rw [flatB] at h
    have hy : (bagA y).toList.length = 17 := by rw [Array.length_toList, bagA_size]
    by_cases hm : m < 17
    · rw [List.getElem?_append_left (by rw [hy]; omega), Array.getElem?_toList] at h
      exact ⟨0, m, y, rfl, h, by omega⟩
    · rw [List.getElem?_append_right (by rw [hy]; omega), hy] at h
      obtain ⟨i, j, x, h1, h2, h3⟩ := ih h
      exact ⟨i + 1, j, x, by simpa using h1, h2, by omega⟩
end Go.Pal
