/-
  Walks of package elimination: Check.
  Variables of the elimination's type Step in memory: loads, stores, built values; rows of steps; pairs of vertices.
  The game of elimination, plain; the map of neighbours as a list of keys and sets; its code in memory.
  Walks of package elimination: walk.
-/
import Derived.Test.YtiojidabmlbogaaGreatDoorQGrH
import Derived.Test.YtiojidabmlbogaaGreatDoorQSet3
import Derived.Test.YtiojidabmlbogaaGreatDoorQOwS
import Derived.Test.YtiojidabmlbogaaGreatDoorQTree
import Derived.Test.YtiojidabmlbogaaGreatDoorQIter2
set_option linter.unusedSimpArgs false
set_option linter.unusedVariables false
namespace Go.Pal
open Go
/-- The error of an order. -/
def Gr.ordE (G : Gr) (o : List Int) : Nat := if o.length = G.V.length ∧ ofTo o o.length = G.vset then 0 else 3
end Go.Pal
namespace Go.Proofs.YtiojidabmlbogaaGreatDoor
open Go Go.RowKit Go.Pal

end Go.Proofs.YtiojidabmlbogaaGreatDoor
namespace Go.Proofs.YtiojidabmlbogaaGreatDoor
open Go Go.RowKit Go.Pal
@[go_sem ↓ high] theorem loadST (a : Addr) : loadVar 278 a = loadLater 278 a := rfl
@[go_sem ↓ high] theorem storeST (a : Addr) (v : Value) : storeVar 278 a v = storeLater 278 a v := rfl
@[go_sem] theorem loadST_run (w : World) (a : Addr) : (loadLater 278 a).run Tryz.prog w = rowLoad Tryz.prog 278 a w := rfl
@[go_sem] theorem storeST_run (w : World) (a : Addr) (v : Value) : (storeLater 278 a v).run Tryz.prog w = rowStore Tryz.prog 278 a v w := rfl
@[go_sem] theorem loadST_at (w : World) (g : Nat) : rowLoad Tryz.prog 278 ⟨g, 0, none⟩ w = match row? w g with
      | some c => if c.size = 17 then .ok (.agg c) w else laterLoad Tryz.prog 278 ⟨g, 0, none⟩ w
      | none => laterLoad Tryz.prog 278 ⟨g, 0, none⟩ w := load_row Tryz.isAgg278 Tryz.sizeOf278 w g
@[go_sem] theorem storeST_at (w : World) (g : Nat) (d : Array Value) : rowStore Tryz.prog 278 ⟨g, 0, none⟩ (.agg d) w = match row? w g with
      | some c => if c.size = 17 ∧ d.size = 17 ∧ allOne d = true then .ok () (w.setRow g d) else laterStore Tryz.prog 278 ⟨g, 0, none⟩ (.agg d) w
      | none => laterStore Tryz.prog 278 ⟨g, 0, none⟩ (.agg d) w := store_row Tryz.sizeOf278 w g d
@[go_sem ↓ high] theorem zeroST (w : World) : (zeroValue 278).run Tryz.prog w = .ok (.agg (bagA (0, 0))) w := by rw [Tryz.zeroValue278]; rfl
theorem wordsLit (S : Nat) : words S = #[.int .u64 (wd S 0 : Int), .int .u64 (wd S 1 : Int), .int .u64 (wd S 2 : Int), .int .u64 (wd S 3 : Int), .int .u64 (wd S 4 : Int), .int .u64 (wd S 5 : Int), .int .u64 (wd S 6 : Int), .int .u64 (wd S 7 : Int), .int .u64 (wd S 8 : Int), .int .u64 (wd S 9 : Int), .int .u64 (wd S 10 : Int), .int .u64 (wd S 11 : Int), .int .u64 (wd S 12 : Int), .int .u64 (wd S 13 : Int), .int .u64 (wd S 14 : Int), .int .u64 (wd S 15 : Int)] := by
  apply Array.ext'
  simp [words, List.ofFn_succ, Fin.succ]
theorem stepA_lit (p : Int) (S : Nat) : bagA (p, S) = #[.int .i64 p, .int .u64 (wd S 0 : Int), .int .u64 (wd S 1 : Int), .int .u64 (wd S 2 : Int), .int .u64 (wd S 3 : Int), .int .u64 (wd S 4 : Int), .int .u64 (wd S 5 : Int), .int .u64 (wd S 6 : Int), .int .u64 (wd S 7 : Int), .int .u64 (wd S 8 : Int), .int .u64 (wd S 9 : Int), .int .u64 (wd S 10 : Int), .int .u64 (wd S 11 : Int), .int .u64 (wd S 12 : Int), .int .u64 (wd S 13 : Int), .int .u64 (wd S 14 : Int), .int .u64 (wd S 15 : Int)] := by
  unfold bagA
  rw [wordsLit]
  apply Array.ext'
  simp
theorem buildS0 (a : Int) (p0 p1 p2 p3 p4 p5 p6 p7 p8 p9 p10 p11 p12 p13 p14 p15 : Int) (w : World) : (Instr.build 278 #[(0, .int .i64 a), (1, .agg #[.int .u64 p0, .int .u64 p1, .int .u64 p2, .int .u64 p3, .int .u64 p4, .int .u64 p5, .int .u64 p6, .int .u64 p7, .int .u64 p8, .int .u64 p9, .int .u64 p10, .int .u64 p11, .int .u64 p12, .int .u64 p13, .int .u64 p14, .int .u64 p15])]).run Tryz.prog w = .ok (.agg #[.int .i64 a, .int .u64 p0, .int .u64 p1, .int .u64 p2, .int .u64 p3, .int .u64 p4, .int .u64 p5, .int .u64 p6, .int .u64 p7, .int .u64 p8, .int .u64 p9, .int .u64 p10, .int .u64 p11, .int .u64 p12, .int .u64 p13, .int .u64 p14, .int .u64 p15]) w := by kernel_rfl
@[go_sem ↓ high] theorem build_Step (a : Int) (S : Nat) (w : World) : (Instr.build 278 #[(0, .int .i64 a), (1, .agg (words S))]).run Tryz.prog w = .ok (.agg (bagA (a, S))) w := by
  rw [stepA_lit, wordsLit]
  exact buildS0 _ _ _ _ _ _ _ _ _ _ _ _ _ _ _ _ _ _
end Go.Proofs.YtiojidabmlbogaaGreatDoor
namespace Go.Pal
open Go
end Go.Pal
namespace Go.Proofs.YtiojidabmlbogaaGreatDoor
open Go Go.RowKit Go.Pal
end Go.Proofs.YtiojidabmlbogaaGreatDoor
namespace Go.Pal
open Go
end Go.Pal
namespace Go.Proofs.YtiojidabmlbogaaGreatDoor
open Go Go.RowKit Go.Pal
attribute [local go_sem] Oper.semAt_some

end Go.Proofs.YtiojidabmlbogaaGreatDoor
