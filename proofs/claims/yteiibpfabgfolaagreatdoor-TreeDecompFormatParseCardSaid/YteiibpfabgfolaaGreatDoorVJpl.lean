/- Plain: the vertices, then the edges, of a graph added in their order build it; orders of .. -/
import Derived.Test.YteiibpfabgfolaaGreatDoorVGp
import Derived.Test.YteiibpfabgfolaaGreatDoorVGL
import Derived.Test.YteiibpfabgfolaaGreatDoorVGrM
import Derived.Test.YteiibpfabgfolaaGreatDoorVPlain
set_option linter.all false
namespace Go.Pal
open Go
theorem take_snoc {α : Type} {l : List α} {k : Nat} {x : α} (h : l[k]? = some x) : l.take (k + 1) = l.take k ++ [x] := by rw [List.take_add_one, h]; rfl
theorem insR_bit (S : Nat) (n : Int) (m : Nat) : (insR S n).testBit m = (S.testBit m || decide (n = (m : Int) ∧ m < 1024)) := by
 unfold insR
 split
 · rw [sIns_testBit]
   congr 1
   rw [Bool.eq_iff_iff]
   simp
   omega
 · have : decide (n = (m : Int) ∧ m < 1024) = false := by simp; omega
   rw [this, Bool.or_false]
theorem foldl_insR_bit (l : List Int) : ∀ (S m : Nat), (l.foldl insR S).testBit m = (S.testBit m || decide ((m : Int) ∈ l ∧ m < 1024)) := by
 induction l with
 | nil => intro S m; simp
 | cons x r ih =>
   intro S m
   rw [List.foldl_cons, ih, insR_bit, Bool.or_assoc]
   congr 1
   rw [Bool.eq_iff_iff]
   simp
   constructor
   · rintro (⟨h1, h2⟩ | ⟨h1, h2⟩)
     · exact ⟨.inl h1.symm, h2⟩
     · exact ⟨.inr h1, h2⟩
   · rintro ⟨h1 | h1, h2⟩
     · exact .inl ⟨h1.symm, h2⟩
     · exact .inr ⟨h1, h2⟩
end Go.Pal
