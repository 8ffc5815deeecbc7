/-
  Walks of the reference's eliminations: a pair among pairs; the check of an order.
-/
import Derived.Test.YtpflnkedolmamaaGreatDoorQHB
import Derived.Test.YtpflnkedolmamaaGreatDoorQJpl
import Derived.Test.YtpflnkedolmamaaGreatDoorQRef1
set_option linter.unusedSimpArgs false
set_option linter.unusedVariables false
namespace Go.Pal
open Go
/-- A pair of vertices in memory; a slice of ints as an element of a row. -/
def prA (p : Int × Int) : Array Value := #[.int .i64 p.1, .int .i64 p.2]
def slC (s : Option Addr × Nat × Nat) : Array Value := #[.slice s.1 s.2.1 s.2.2]
theorem ordE_three {G : Gr} {o : List Int} (h : G.ordE o ≠ 0) : G.ordE o = 3 := by
  unfold Gr.ordE at h ⊢
  split
  · rename_i hc
    rw [if_pos hc] at h
    exact absurd rfl h
  · rfl
end Go.Pal
namespace Go.Proofs.YtpflnkedolmamaaGreatDoor
open Go Go.RowKit Go.Pal
attribute [local go_sem] Oper.semAt_some

abbrev OwnQ2 := OwnR 189 2 prA
end Go.Proofs.YtpflnkedolmamaaGreatDoor
