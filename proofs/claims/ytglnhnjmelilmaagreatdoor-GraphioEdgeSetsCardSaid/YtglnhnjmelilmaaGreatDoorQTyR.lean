/- The reference's types of graphs in memory: loads, stores, built values. -/
import Derived.Test.YtglnhnjmelilmaaGreatDoorQVb
import Derived.Test.YtglnhnjmelilmaaGreatDoorQGp
import Derived.Test.YtglnhnjmelilmaaGreatDoorQGrG
set_option linter.all false
namespace Go.Proofs.YtglnhnjmelilmaaGreatDoor
open Go Go.RowKit Go.Pal
@[go_sem ↓ high] theorem loadRG (a : Addr) : loadVar 42 a = loadLater 42 a := rfl
@[go_sem ↓ high] theorem storeRG (a : Addr) (v : Value) : storeVar 42 a v = storeLater 42 a v := rfl
@[go_sem] theorem loadRG_run (w : World) (a : Addr) : (loadLater 42 a).run Tryz.prog w = rowLoad Tryz.prog 42 a w := rfl
@[go_sem] theorem storeRG_run (w : World) (a : Addr) (v : Value) : (storeLater 42 a v).run Tryz.prog w = rowStore Tryz.prog 42 a v w := rfl
@[go_sem] theorem loadRG_at (w : World) (g : Nat) : rowLoad Tryz.prog 42 ⟨g, 0, none⟩ w = match row? w g with
     | some c => if c.size = 2 then .ok (.agg c) w else laterLoad Tryz.prog 42 ⟨g, 0, none⟩ w
     | none => laterLoad Tryz.prog 42 ⟨g, 0, none⟩ w := load_row Tryz.isAgg42 Tryz.sizeOf42 w g
@[go_sem] theorem storeRG_at (w : World) (g : Nat) (d : Array Value) : rowStore Tryz.prog 42 ⟨g, 0, none⟩ (.agg d) w = match row? w g with
     | some c => if c.size = 2 ∧ d.size = 2 ∧ allOne d = true then .ok () (w.setRow g d) else laterStore Tryz.prog 42 ⟨g, 0, none⟩ (.agg d) w
     | none => laterStore Tryz.prog 42 ⟨g, 0, none⟩ (.agg d) w := store_row Tryz.sizeOf42 w g d
@[go_sem ↓ high] theorem zeroRG (w : World) : (zeroValue 42).run Tryz.prog w = .ok (.agg #[.slice none 0 0, .slice none 0 0]) w := by kernel_rfl
@[go_sem] theorem allOne_sl2 (a a' : Option Addr) (n n' c c' : Nat) : allOne #[.slice a n c, .slice a' n' c'] = true := by unfold allOne; simp [Value.oneCell']
@[go_sem ↓ high] theorem loadRV (a : Addr) : loadVar 136 a = loadLater 136 a := rfl
@[go_sem ↓ high] theorem storeRV (a : Addr) (v : Value) : storeVar 136 a v = storeLater 136 a v := rfl
@[go_sem] theorem loadRV_run (w : World) (a : Addr) : (loadLater 136 a).run Tryz.prog w = rowLoad Tryz.prog 136 a w := rfl
@[go_sem] theorem storeRV_run (w : World) (a : Addr) (v : Value) : (storeLater 136 a v).run Tryz.prog w = rowStore Tryz.prog 136 a v w := rfl
@[go_sem] theorem loadRV_at (w : World) (g : Nat) : rowLoad Tryz.prog 136 ⟨g, 0, none⟩ w = match row? w g with
     | some c => if c.size = 3 then .ok (.agg c) w else laterLoad Tryz.prog 136 ⟨g, 0, none⟩ w
     | none => laterLoad Tryz.prog 136 ⟨g, 0, none⟩ w := load_row Tryz.isAgg136 Tryz.sizeOf136 w g
@[go_sem] theorem storeRV_at (w : World) (g : Nat) (d : Array Value) : rowStore Tryz.prog 136 ⟨g, 0, none⟩ (.agg d) w = match row? w g with
     | some c => if c.size = 3 ∧ d.size = 3 ∧ allOne d = true then .ok () (w.setRow g d) else laterStore Tryz.prog 136 ⟨g, 0, none⟩ (.agg d) w
     | none => laterStore Tryz.prog 136 ⟨g, 0, none⟩ (.agg d) w := store_row Tryz.sizeOf136 w g d
@[go_sem ↓ high] theorem zeroRV (w : World) : (zeroValue 136).run Tryz.prog w = .ok (.agg #[.int .i64 0, .int .u8 0, .int .i64 0]) w := by kernel_rfl
@[go_sem] theorem allOne_i3 (a b c : Int) (p q r : IntKind) : allOne #[.int p a, .int q b, .int r c] = true := by unfold allOne; simp [Value.oneCell']
@[go_sem ↓ high] theorem loadRE (a : Addr) : loadVar 137 a = loadLater 137 a := rfl
@[go_sem ↓ high] theorem storeRE (a : Addr) (v : Value) : storeVar 137 a v = storeLater 137 a v := rfl
@[go_sem] theorem loadRE_run (w : World) (a : Addr) : (loadLater 137 a).run Tryz.prog w = rowLoad Tryz.prog 137 a w := rfl
@[go_sem] theorem storeRE_run (w : World) (a : Addr) (v : Value) : (storeLater 137 a v).run Tryz.prog w = rowStore Tryz.prog 137 a v w := rfl
@[go_sem] theorem loadRE_at (w : World) (g : Nat) : rowLoad Tryz.prog 137 ⟨g, 0, none⟩ w = match row? w g with
     | some c => if c.size = 4 then .ok (.agg c) w else laterLoad Tryz.prog 137 ⟨g, 0, none⟩ w
     | none => laterLoad Tryz.prog 137 ⟨g, 0, none⟩ w := load_row Tryz.isAgg137 Tryz.sizeOf137 w g
@[go_sem] theorem storeRE_at (w : World) (g : Nat) (d : Array Value) : rowStore Tryz.prog 137 ⟨g, 0, none⟩ (.agg d) w = match row? w g with
     | some c => if c.size = 4 ∧ d.size = 4 ∧ allOne d = true then .ok () (w.setRow g d) else laterStore Tryz.prog 137 ⟨g, 0, none⟩ (.agg d) w
     | none => laterStore Tryz.prog 137 ⟨g, 0, none⟩ (.agg d) w := store_row Tryz.sizeOf137 w g d
@[go_sem ↓ high] theorem zeroRE (w : World) : (zeroValue 137).run Tryz.prog w = .ok (.agg #[.int .i64 0, .int .i64 0, .int .u8 0, .int .i64 0]) w := by kernel_rfl
@[go_sem] theorem allOne_i4 (a b c d : Int) (p q r s : IntKind) : allOne #[.int p a, .int q b, .int r c, .int s d] = true := by unfold allOne; simp [Value.oneCell']
@[go_sem ↓ high] theorem loadRD (a : Addr) : loadVar 30 a = loadLater 30 a := rfl
@[go_sem ↓ high] theorem storeRD (a : Addr) (v : Value) : storeVar 30 a v = storeLater 30 a v := rfl
@[go_sem] theorem loadRD_run (w : World) (a : Addr) : (loadLater 30 a).run Tryz.prog w = rowLoad Tryz.prog 30 a w := rfl
@[go_sem] theorem storeRD_run (w : World) (a : Addr) (v : Value) : (storeLater 30 a v).run Tryz.prog w = rowStore Tryz.prog 30 a v w := rfl
@[go_sem] theorem loadRD_at (w : World) (g : Nat) : rowLoad Tryz.prog 30 ⟨g, 0, none⟩ w = match row? w g with
     | some c => if c.size = 5 then .ok (.agg c) w else laterLoad Tryz.prog 30 ⟨g, 0, none⟩ w
     | none => laterLoad Tryz.prog 30 ⟨g, 0, none⟩ w := load_row Tryz.isAgg30 Tryz.sizeOf30 w g
def elRV : ElT Tryz.prog 136 3 vtxA where
 bytes := 24
 zero := .agg #[.int .i64 0, .int .u8 0, .int .i64 0]
 info := by kernel_rfl
 zc := rfl
 pos := by decide
 small := by decide
 size _ := rfl
 one x u hu := by simp [vtxA] at hu; rcases hu with rfl | rfl | rfl <;> rfl
def elRE : ElT Tryz.prog 137 4 edgA where
 bytes := 32
 zero := .agg #[.int .i64 0, .int .i64 0, .int .u8 0, .int .i64 0]
 info := by kernel_rfl
 zc := rfl
 pos := by decide
 small := by decide
 size _ := rfl
 one x u hu := by simp [edgA] at hu; rcases hu with rfl | rfl | rfl | rfl <;> rfl
abbrev OwnRV := OwnR 136 3 vtxA
abbrev OwnRE := OwnR 137 4 edgA
@[go_sem ↓ high] theorem build_rGE (a : Option Addr) (n c : Nat) (w : World) : (Instr.build 42 #[(1, .slice a n c)]).run Tryz.prog w = .ok (.agg #[.slice none 0 0, .slice a n c]) w := by kernel_rfl
@[go_sem ↓ high] theorem build_rGV (a : Option Addr) (n c : Nat) (w : World) : (Instr.build 42 #[(0, .slice a n c)]).run Tryz.prog w = .ok (.agg #[.slice a n c, .slice none 0 0]) w := by kernel_rfl
@[go_sem ↓ high] theorem build_rG0 (w : World) : (Instr.build 42 #[]).run Tryz.prog w = .ok (.agg #[.slice none 0 0, .slice none 0 0]) w := by kernel_rfl
@[go_sem ↓ high] theorem buildSlice_rV (a b c : Int) (w : World) : (Instr.buildSlice 39 1 #[(0, .agg #[.int .i64 a, .int .u8 b, .int .i64 c])]).run Tryz.prog w = .ok (.slice (some ⟨w.heap.size, 0, none⟩) 1 1) (w.alloc (.cells #[.int .i64 a, .int .u8 b, .int .i64 c] 136)) := by kernel_rfl
@[go_sem ↓ high] theorem buildSlice_rE (a b c d : Int) (w : World) : (Instr.buildSlice 40 1 #[(0, .agg #[.int .i64 a, .int .i64 b, .int .u8 c, .int .i64 d])]).run Tryz.prog w = .ok (.slice (some ⟨w.heap.size, 0, none⟩) 1 1) (w.alloc (.cells #[.int .i64 a, .int .i64 b, .int .u8 c, .int .i64 d] 137)) := by kernel_rfl
@[go_sem ↓ high] theorem build_rV (a b c : Int) (w : World) : (Instr.build 136 #[(0, .int .i64 a), (1, .int .u8 b), (2, .int .i64 c)]).run Tryz.prog w = .ok (.agg #[.int .i64 a, .int .u8 b, .int .i64 c]) w := by kernel_rfl
@[go_sem ↓ high] theorem build_rE (a b c d : Int) (w : World) : (Instr.build 137 #[(0, .int .i64 a), (1, .int .i64 b), (2, .int .u8 c), (3, .int .i64 d)]).run Tryz.prog w = .ok (.agg #[.int .i64 a, .int .i64 b, .int .u8 c, .int .i64 d]) w := by kernel_rfl
end Go.Proofs.YtglnhnjmelilmaaGreatDoor
