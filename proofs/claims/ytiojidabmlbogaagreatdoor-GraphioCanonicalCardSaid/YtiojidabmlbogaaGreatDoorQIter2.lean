/-
  A range over a function whose variable is boxed (the assign code lays a block), told of its own record; a range over a function within a round of another. Own rules beside those of the text on iterators. The marks that such loops leave among the deferred calls. No program.
-/
import Derived.Test.YtiojidabmlbogaaGreatDoorQRoR
set_option linter.unusedSimpArgs false
set_option linter.unusedVariables false
namespace Go.Pal
open Go Go.RowKit
section
variable {P : Program}

/-! ### marks among the deferred calls -/
/-- The marks that loops over functions have left: each names a block of its own, not below B. -/
def Marks (B : Nat) : List Deferred → World → Prop
  | [], _ => True
  | d :: ds, w => (∃ D, d = { target := .collected D, args := #[] } ∧ B ≤ D ∧ w.heap[D]? = some (.deferred (some [])) ∧ ∀ e ∈ ds, e ≠ d) ∧ Marks B ds w
theorem Marks.same {B : Nat} {A : Nat → Prop} : ∀ {ds : List Deferred} {w w' : World}, Marks B ds w → Same A w w' → (∀ D, B ≤ D → ({ target := .collected D, args := #[] } : Deferred) ∈ ds → A D) → Marks B ds w'
  | [], _, _, _, _, _ => trivial
  | d :: ds, w, w', h, hs, hA => by
    obtain ⟨⟨D, rfl, hB, hk, hne⟩, h2⟩ := h
    exact ⟨⟨D, rfl, hB, (hs.block D (Array.getElem?_eq_some_iff.1 hk).1 (hA D hB (by simp))).trans hk, hne⟩, h2.same hs fun D' h3 h4 => hA D' h3 (List.mem_cons_of_mem _ h4)⟩
theorem Marks.lt {B : Nat} : ∀ {ds : List Deferred} {w : World}, Marks B ds w → ∀ D, ({ target := .collected D, args := #[] } : Deferred) ∈ ds → D < w.heap.size
  | d :: ds, w, h, D, hD => by
    obtain ⟨⟨D', rfl, _, hk, _⟩, h2⟩ := h
    rcases List.mem_cons.1 hD with e | e
    · cases e
      exact (Array.getElem?_eq_some_iff.1 hk).1
    · exact h2.lt D e
theorem Marks.ge {B : Nat} : ∀ {ds : List Deferred} {w : World}, Marks B ds w → ∀ D, ({ target := .collected D, args := #[] } : Deferred) ∈ ds → B ≤ D
  | d :: ds, w, h, D, hD => by
    obtain ⟨⟨D', rfl, hB, _, _⟩, h2⟩ := h
    rcases List.mem_cons.1 hD with e | e
    · cases e
      exact hB
    · exact h2.ge D e
/-- One mark more. -/
theorem Marks.cons {B D : Nat} {ds : List Deferred} {w : World} (h : Marks B ds w) (hB : B ≤ D) (hk : w.heap[D]? = some (.deferred (some []))) (hn : ({ target := .collected D, args := #[] } : Deferred) ∉ ds) : Marks B ({ target := .collected D, args := #[] } :: ds) w :=
  ⟨⟨D, rfl, hB, hk, fun _ he e => hn (e ▸ he)⟩, h⟩
end
end Go.Pal
