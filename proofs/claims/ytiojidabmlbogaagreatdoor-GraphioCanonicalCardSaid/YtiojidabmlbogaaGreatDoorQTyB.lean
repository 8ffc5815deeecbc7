/-
  Bags built, rows of bags of the call's own; rows of steps read.
-/
import Derived.Test.YtiojidabmlbogaaGreatDoorQGM
import Derived.Test.YtiojidabmlbogaaGreatDoorQTt
set_option linter.unusedSimpArgs false
set_option linter.unusedVariables false
namespace Go.Pal
open Go Go.RowKit
section
variable {α : Type} {P : Program} {e : TypeId} {k : Nat} {enc : α → Array Value}
end
end Go.Pal
namespace Go.Proofs.YtiojidabmlbogaaGreatDoor
open Go Go.RowKit Go.Pal
theorem qbuildB0 (a : Int) (p0 p1 p2 p3 p4 p5 p6 p7 p8 p9 p10 p11 p12 p13 p14 p15 : Int) (w : World) : (Instr.build 181 #[(0, .int .i64 a), (1, .agg #[.int .u64 p0, .int .u64 p1, .int .u64 p2, .int .u64 p3, .int .u64 p4, .int .u64 p5, .int .u64 p6, .int .u64 p7, .int .u64 p8, .int .u64 p9, .int .u64 p10, .int .u64 p11, .int .u64 p12, .int .u64 p13, .int .u64 p14, .int .u64 p15])]).run Tryz.prog w = .ok (.agg #[.int .i64 a, .int .u64 p0, .int .u64 p1, .int .u64 p2, .int .u64 p3, .int .u64 p4, .int .u64 p5, .int .u64 p6, .int .u64 p7, .int .u64 p8, .int .u64 p9, .int .u64 p10, .int .u64 p11, .int .u64 p12, .int .u64 p13, .int .u64 p14, .int .u64 p15]) w := by kernel_rfl
@[go_sem ↓ high] theorem qbuild_Bag (a : Int) (S : Nat) (w : World) : (Instr.build 181 #[(0, .int .i64 a), (1, .agg (words S))]).run Tryz.prog w = .ok (.agg (bagA (a, S))) w := by
  rw [stepA_lit, wordsLit]
  exact qbuildB0 _ _ _ _ _ _ _ _ _ _ _ _ _ _ _ _ _ _
end Go.Proofs.YtiojidabmlbogaaGreatDoor
