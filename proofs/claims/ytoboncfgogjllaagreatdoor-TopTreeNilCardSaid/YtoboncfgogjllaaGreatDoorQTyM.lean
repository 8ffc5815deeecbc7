/-
  Variables of type toptree.Merge in memory.
-/
import Derived.Test.YtoboncfgogjllaaGreatDoorQTop19
namespace Go.Proofs.YtoboncfgogjllaaGreatDoor
open Go Go.RowKit Go.Pal Go.Shelf
@[go_sem ↓ high] theorem loadMG (a : Addr) : loadVar 48 a = loadLater 48 a := rfl
@[go_sem ↓ high] theorem storeMG (a : Addr) (v : Value) : storeVar 48 a v = storeLater 48 a v := rfl
@[go_sem] theorem loadMG_run (w : World) (a : Addr) : (loadLater 48 a).run Tryz.prog w = rowLoad Tryz.prog 48 a w := rfl
@[go_sem] theorem storeMG_run (w : World) (a : Addr) (v : Value) : (storeLater 48 a v).run Tryz.prog w = rowStore Tryz.prog 48 a v w := rfl
@[go_sem] theorem loadMG_at (w : World) (g : Nat) : rowLoad Tryz.prog 48 ⟨g, 0, none⟩ w = match row? w g with
      | some c => if c.size = 4 then .ok (.agg c) w else laterLoad Tryz.prog 48 ⟨g, 0, none⟩ w
      | none => laterLoad Tryz.prog 48 ⟨g, 0, none⟩ w := load_row Tryz.isAgg48 Tryz.sizeOf48 w g
@[go_sem] theorem storeMG_at (w : World) (g : Nat) (d : Array Value) : rowStore Tryz.prog 48 ⟨g, 0, none⟩ (.agg d) w = match row? w g with
      | some c => if c.size = 4 ∧ d.size = 4 ∧ allOne d = true then .ok () (w.setRow g d) else laterStore Tryz.prog 48 ⟨g, 0, none⟩ (.agg d) w
      | none => laterStore Tryz.prog 48 ⟨g, 0, none⟩ (.agg d) w := store_row Tryz.sizeOf48 w g d
@[go_sem ↓ high] theorem zeroMG (w : World) : (zeroValue 48).run Tryz.prog w = .ok (.agg #[.slice none 0 0, .slice none 0 0, .slice none 0 0, .slice none 0 0]) w := by rw [Tryz.zeroValue48]
@[go_sem] theorem allOne_mg (a b c d : Option Addr) (n1 n2 n3 n4 c1 c2 c3 c4 : Nat) : allOne #[.slice a n1 c1, .slice b n2 c2, .slice c n3 c3, .slice d n4 c4] = true := by unfold allOne; simp [Value.oneCell']
@[go_sem ↓ high] theorem build_MG (a b : Option Addr) (n1 n2 c1 c2 : Nat) (w : World) : (Instr.build 48 #[(0, .slice a n1 c1), (2, .slice b n2 c2)]).run Tryz.prog w = .ok (.agg #[.slice a n1 c1, .slice none 0 0, .slice b n2 c2, .slice none 0 0]) w := by kernel_rfl
end Go.Proofs.YtoboncfgogjllaaGreatDoor
