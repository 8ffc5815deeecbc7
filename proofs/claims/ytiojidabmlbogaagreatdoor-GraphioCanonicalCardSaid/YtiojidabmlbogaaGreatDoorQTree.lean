/-
  Walks of package treedecomp.
-/
import Derived.Test.YtiojidabmlbogaaGreatDoorQSets
import Derived.Test.YtiojidabmlbogaaGreatDoorQPlain
set_option linter.unusedSimpArgs false
set_option linter.unusedVariables false
namespace Go.Proofs.YtiojidabmlbogaaGreatDoor
open Go Go.RowKit Go.Pal

@[go_sem ↓ high] theorem loadBag (a : Addr) : loadVar 181 a = loadLater 181 a := rfl
@[go_sem ↓ high] theorem storeBag (a : Addr) (v : Value) : storeVar 181 a v = storeLater 181 a v := rfl
@[go_sem] theorem loadBag_run (w : World) (a : Addr) : (loadLater 181 a).run Tryz.prog w = rowLoad Tryz.prog 181 a w := rfl
@[go_sem] theorem storeBag_run (w : World) (a : Addr) (v : Value) : (storeLater 181 a v).run Tryz.prog w = rowStore Tryz.prog 181 a v w := rfl
@[go_sem] theorem storeBag_at (w : World) (g : Nat) (d : Array Value) : rowStore Tryz.prog 181 ⟨g, 0, none⟩ (.agg d) w = match row? w g with
      | some c => if c.size = 17 ∧ d.size = 17 ∧ allOne d = true then .ok () (w.setRow g d) else laterStore Tryz.prog 181 ⟨g, 0, none⟩ (.agg d) w
      | none => laterStore Tryz.prog 181 ⟨g, 0, none⟩ (.agg d) w := store_row Tryz.sizeOf181 w g d
@[go_sem ↓ high] theorem zeroBag (w : World) : (zeroValue 181).run Tryz.prog w = .ok (.agg (bagA (0, 0))) w := by rw [Tryz.zeroValue181]; rfl
attribute [go_sem] bagA_size bagA_zero bagA_get0 bagA_extract
@[go_sem] theorem allOne_bagA (b : Bg) : allOne (bagA b) = true := by
  unfold allOne
  rw [Array.all_eq_true_iff_forall_mem]
  exact fun v hv => bagA_one b v (by simpa using hv)

end Go.Proofs.YtiojidabmlbogaaGreatDoor
