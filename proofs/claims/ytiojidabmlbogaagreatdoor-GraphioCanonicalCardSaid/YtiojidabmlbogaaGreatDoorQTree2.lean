/-
  Walks of package treedecomp: roots, tops.
-/
import Derived.Test.YtiojidabmlbogaaGreatDoorQTree
set_option linter.unusedSimpArgs false
set_option linter.unusedVariables false
namespace Go.Proofs.YtiojidabmlbogaaGreatDoor
open Go Go.RowKit Go.Pal

/-- A row of the call's own that holds integers. -/
def OwnI (B : Nat) (w : World) (v : Value) (ns : List Int) : Prop := w.ownsRow B 3 1 v ns.length (ns.map (Value.int .i64))

theorem OwnI.alloc {B : Nat} {w : World} {v : Value} {ns : List Int} (h : OwnI B w v ns) (o : Obj) : OwnI B (w.alloc o) v ns := World.ownsRow.alloc (base := B) h o
theorem OwnI.nil (B : Nat) (w : World) : OwnI B w (.slice none 0 0) [] := World.ownsRow_nil _ _ _ _
theorem OwnI.block {B : Nat} {w : World} {v : Value} {ns : List Int} (h : OwnI B w v ns) : ∀ k, v.ownBlock = some k → B ≤ k := by
  intro k hk
  rcases h.2 with ⟨rfl, _⟩ | ⟨g, cap, cur, rfl, hg, _⟩
  · cases hk
  · simp only [Value.ownBlock, Option.some.injEq] at hk
    omega
end Go.Proofs.YtiojidabmlbogaaGreatDoor
