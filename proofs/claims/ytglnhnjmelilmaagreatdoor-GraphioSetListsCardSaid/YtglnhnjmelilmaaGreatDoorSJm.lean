/- Walks of the law's own graphs: Made (edits carried out), From with graph.Build (never .. -/
import Derived.Test.YtglnhnjmelilmaaGreatDoorSHE
import Derived.Test.YtglnhnjmelilmaaGreatDoorSJpl
import Derived.Test.YtglnhnjmelilmaaGreatDoorSGrH
import Derived.Test.YtglnhnjmelilmaaGreatDoorSMx
import Derived.Test.YtglnhnjmelilmaaGreatDoorSGrf
set_option linter.all false
namespace Go.Proofs.YtglnhnjmelilmaaGreatDoor
open Go Go.RowKit Go.Pal
attribute [local go_sem] Oper.semAt_some
@[go_sem ↓ high] theorem loadED (a : Addr) : loadVar 23 a = loadLater 23 a := rfl
@[go_sem] theorem loadED_run (w : World) (a : Addr) : (loadLater 23 a).run Tryz.prog w = rowLoad Tryz.prog 23 a w := rfl
@[go_sem ↓ high] theorem loadVX (a : Addr) : loadVar 126 a = loadLater 126 a := rfl
@[go_sem ↓ high] theorem storeVX (a : Addr) (v : Value) : storeVar 126 a v = storeLater 126 a v := rfl
@[go_sem] theorem loadVX_run (w : World) (a : Addr) : (loadLater 126 a).run Tryz.prog w = rowLoad Tryz.prog 126 a w := rfl
@[go_sem] theorem storeVX_run (w : World) (a : Addr) (v : Value) : (storeLater 126 a v).run Tryz.prog w = rowStore Tryz.prog 126 a v w := rfl
@[go_sem] theorem loadVX_at (w : World) (g : Nat) : rowLoad Tryz.prog 126 ⟨g, 0, none⟩ w = match row? w g with
     | some c => if c.size = 3 then .ok (.agg c) w else laterLoad Tryz.prog 126 ⟨g, 0, none⟩ w
     | none => laterLoad Tryz.prog 126 ⟨g, 0, none⟩ w := load_row Tryz.isAgg126 Tryz.sizeOf126 w g
@[go_sem] theorem storeVX_at (w : World) (g : Nat) (d : Array Value) : rowStore Tryz.prog 126 ⟨g, 0, none⟩ (.agg d) w = match row? w g with
     | some c => if c.size = 3 ∧ d.size = 3 ∧ allOne d = true then .ok () (w.setRow g d) else laterStore Tryz.prog 126 ⟨g, 0, none⟩ (.agg d) w
     | none => laterStore Tryz.prog 126 ⟨g, 0, none⟩ (.agg d) w := store_row Tryz.sizeOf126 w g d
@[go_sem ↓ high] theorem zeroVX (w : World) : (zeroValue 126).run Tryz.prog w = .ok (.agg #[.int .i64 0, .int .u8 0, .int .i64 0]) w := by kernel_rfl
@[go_sem ↓ high] theorem loadEX (a : Addr) : loadVar 134 a = loadLater 134 a := rfl
@[go_sem ↓ high] theorem storeEX (a : Addr) (v : Value) : storeVar 134 a v = storeLater 134 a v := rfl
@[go_sem] theorem loadEX_run (w : World) (a : Addr) : (loadLater 134 a).run Tryz.prog w = rowLoad Tryz.prog 134 a w := rfl
@[go_sem] theorem storeEX_run (w : World) (a : Addr) (v : Value) : (storeLater 134 a v).run Tryz.prog w = rowStore Tryz.prog 134 a v w := rfl
@[go_sem] theorem loadEX_at (w : World) (g : Nat) : rowLoad Tryz.prog 134 ⟨g, 0, none⟩ w = match row? w g with
     | some c => if c.size = 4 then .ok (.agg c) w else laterLoad Tryz.prog 134 ⟨g, 0, none⟩ w
     | none => laterLoad Tryz.prog 134 ⟨g, 0, none⟩ w := load_row Tryz.isAgg134 Tryz.sizeOf134 w g
@[go_sem] theorem storeEX_at (w : World) (g : Nat) (d : Array Value) : rowStore Tryz.prog 134 ⟨g, 0, none⟩ (.agg d) w = match row? w g with
     | some c => if c.size = 4 ∧ d.size = 4 ∧ allOne d = true then .ok () (w.setRow g d) else laterStore Tryz.prog 134 ⟨g, 0, none⟩ (.agg d) w
     | none => laterStore Tryz.prog 134 ⟨g, 0, none⟩ (.agg d) w := store_row Tryz.sizeOf134 w g d
@[go_sem ↓ high] theorem zeroEX (w : World) : (zeroValue 134).run Tryz.prog w = .ok (.agg #[.int .i64 0, .int .i64 0, .int .u8 0, .int .i64 0]) w := by kernel_rfl
@[go_sem ↓ high] theorem b_EdV (u l t : Int) (w : World) : (Instr.build 23 #[(0, .int .i64 0), (1, .int .i64 u), (3, .int .u8 l), (4, .int .i64 t)]).run Tryz.prog w = .ok (.agg #[.int .i64 0, .int .i64 u, .int .i64 0, .int .u8 l, .int .i64 t]) w := by kernel_rfl
@[go_sem ↓ high] theorem b_EdE (u v l t : Int) (w : World) : (Instr.build 23 #[(0, .int .i64 2), (1, .int .i64 u), (2, .int .i64 v), (3, .int .u8 l), (4, .int .i64 t)]).run Tryz.prog w = .ok (.agg #[.int .i64 2, .int .i64 u, .int .i64 v, .int .u8 l, .int .i64 t]) w := by kernel_rfl
@[go_sem ↓ high] theorem buildSlice_vX (a b c : Int) (w : World) : (Instr.buildSlice 123 1 #[(0, .agg #[.int .i64 a, .int .u8 b, .int .i64 c])]).run Tryz.prog w = .ok (.slice (some ⟨w.heap.size, 0, none⟩) 1 1) (w.alloc (.cells #[.int .i64 a, .int .u8 b, .int .i64 c] 126)) := by kernel_rfl
@[go_sem ↓ high] theorem buildSlice_eX (a b c d : Int) (w : World) : (Instr.buildSlice 131 1 #[(0, .agg #[.int .i64 a, .int .i64 b, .int .u8 c, .int .i64 d])]).run Tryz.prog w = .ok (.slice (some ⟨w.heap.size, 0, none⟩) 1 1) (w.alloc (.cells #[.int .i64 a, .int .i64 b, .int .u8 c, .int .i64 d] 134)) := by kernel_rfl
theorem wpPlan_stillG {ops : Array Oper} {S : World → Prop} {Q : Exit → Act → World → Prop} {K : Act → World → Prop} {a : Act} {w : World} {k : Nat} {r : List (Nat × Bool)} {o : Oper} {v : Value} (ho : ops[k]? = some o) (hw : Region.wanted o (yielded ops a.tmps) = true) (hv : ∀ w, S w → (execOp a.eval o).run Tryz.prog w = .ok (.value v) w)
   (h : ∀ K' : Act → World → Prop, (∀ a w, wpPlan Tryz.prog ops S Q K r a w → K' a w) → K' (a.put o.dst v) w) : wpPlan Tryz.prog ops S Q K ((k, true) :: r) a w :=
 ⟨o, v, ho, .inl ⟨hw, hv⟩, h _ fun _ _ h => h⟩
theorem wpPlan_actG {ops : Array Oper} {S : World → Prop} {Q : Exit → Act → World → Prop} {K : Act → World → Prop} {a : Act} {w : World} {k : Nat} {r : List (Nat × Bool)} {o : Oper} (ho : ops[k]? = some o) (hw : Region.wanted o (yielded ops a.tmps) = true)
   (h : ∀ K' : Act → World → Prop, (∀ a w, S w → wpPlan Tryz.prog ops S Q K r a w → K' a w) → o.wp Tryz.prog a w K' Q) : wpPlan Tryz.prog ops S Q K ((k, false) :: r) a w := by
 show wpOp Tryz.prog ops Q k _ a w
 unfold wpOp
 simp only [ho, hw, if_true]
 exact .inl (h _ fun a w hs hp => ⟨hs, hp⟩)
end Go.Proofs.YtglnhnjmelilmaaGreatDoor
