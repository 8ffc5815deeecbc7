/-
  Walks: the methods of a nil tree of clusters; New of a nil frame; New of a graph.
-/
import Derived.Test.YtoboncfgogjllaaGreatDoorQTyM
namespace Go.Proofs.YtoboncfgogjllaaGreatDoor
open Go Go.RowKit Go.Pal Go.Shelf

theorem tnew_nil (w : World) : Calls Tryz.prog 5 #[.pointer none] w fun e w' => e = .returned (.tuple #[.pointer none, .int .i64 1]) ∧ w' = w := by
  go_enter Tryz.func5, Tryz.ntmps5
  go_wp2_with fail
  go_ret2
  exact ⟨rfl, rfl⟩
theorem tlen_nil (w : World) : Calls Tryz.prog 15 #[.pointer none] w fun e w' => e = .returned (.int .i64 0) ∧ w' = w := by
  go_enter Tryz.func15, Tryz.ntmps15
  go_wp2_with fail
  go_ret
  exact ⟨rfl, rfl⟩
theorem tvalid_nil (i : Int) (w : World) : Calls Tryz.prog 31 #[.pointer none, .int .i64 i] w fun e w' => e = .returned (.bool false) ∧ w' = w := by
  have HL := Lib.hid (tlen_nil w)
  by_cases h0 : 0 ≤ i
  · have hd : decide (i < 0) = false := by simpa using h0
    go_enter Tryz.func31, Tryz.ntmps31
    go_wp2_with fail
    refine HL.out.mono ?_
    rintro e w1 ⟨rfl, rfl⟩
    go_wp2
    go_ret
    exact ⟨by simp, rfl⟩
  · go_enter Tryz.func31, Tryz.ntmps31
    go_wp2_with fail
    go_ret
    exact ⟨by simp, rfl⟩
theorem troot_nil (w : World) : Calls Tryz.prog 16 #[.pointer none] w fun e w' => e = .returned (.int .i64 (-1)) ∧ w' = w := by
  have HL := Lib.hid (tlen_nil w)
  go_enter Tryz.func16, Tryz.ntmps16
  go_wp2_with fail
  refine HL.out.mono ?_
  rintro e w1 ⟨rfl, rfl⟩
  go_wp2
  go_ret
  exact ⟨by simp, rfl⟩
theorem tframe_nil (w : World) : Calls Tryz.prog 14 #[.pointer none] w fun e w' => e = .returned (.pointer none) ∧ w' = w := by
  go_enter Tryz.func14, Tryz.ntmps14
  go_wp2_with fail
  go_ret
  exact ⟨rfl, rfl⟩
theorem tleaf_nil (i : Int) (w : World) : Calls Tryz.prog 11 #[.pointer none, .int .i64 i] w fun e w' => e = .returned (.tuple #[.int .i64 0, .bool false]) ∧ w' = w := by
  go_enter Tryz.func11, Tryz.ntmps11
  go_wp2_with fail
  go_ret2
  exact ⟨rfl, rfl⟩
theorem tparent_nil (i : Int) (w : World) : Calls Tryz.prog 17 #[.pointer none, .int .i64 i] w fun e w' => e = .returned (.int .i64 (-1)) ∧ w' = w := by
  have HV := Lib.hid (tvalid_nil i w)
  go_enter Tryz.func17, Tryz.ntmps17
  go_wp2_with fail
  refine HV.out.mono ?_
  rintro e w1 ⟨rfl, rfl⟩
  go_wp2
  go_ret
  exact ⟨rfl, rfl⟩
theorem tpath_nil (i : Int) (w : World) : Calls Tryz.prog 18 #[.pointer none, .int .i64 i] w fun e w' => e = .returned (.slice none 0 0) ∧ w' = w := by
  have HL := Lib.hid (tleaf_nil i w)
  go_enter Tryz.func18, Tryz.ntmps18
  go_wp2_with fail
  refine HL.out.mono ?_
  rintro e w1 ⟨rfl, rfl⟩
  go_wp2_with fail
  go_ret
  exact ⟨rfl, rfl⟩
set_option maxRecDepth 10000 in
theorem tnode_nil (i : Int) (w : World) : Calls Tryz.prog 10 #[.pointer none, .int .i64 i] w fun e w' => e = .returned (.tuple #[.agg tn0.cells, .bool false]) ∧ Below w.heap.size w w' := by
  have hb0 := (Below.refl w.heap.size w).alloc (Nat.le_refl _) (.cells tn0.cells 42)
  have HV := Lib.hid (tvalid_nil i (w.alloc (.cells tn0.cells 42)))
  have HB0 := Lib.hid hb0
  clear hb0
  go_enter Tryz.func10, Tryz.ntmps10
  go_wp2_with fail
  refine HV.out.mono ?_
  rintro e w1 ⟨rfl, rfl⟩
  have hone := TN.allOne tn0 ⟨_, _, _, rfl⟩
  go_wp2_with fail
  refine ret_row2 _ tn0.cells rfl Tryz.isAgg42 Tryz.sizeOf42 rfl rfl (row?_alloc_at _ _ _ _ rfl) (TN.cells_size _) ?_
  exact ⟨rfl, HB0.out⟩
set_option maxRecDepth 10000 in
theorem tmerge_nil (i : Int) (w : World) : Calls Tryz.prog 12 #[.pointer none, .int .i64 i] w fun e w' => e = .returned (.tuple #[.agg #[.slice none 0 0, .slice none 0 0, .slice none 0 0, .slice none 0 0], .bool false]) ∧ Below w.heap.size w w' := by
  have HV := Lib.hid (tvalid_nil i (w.alloc (.cells #[.slice none 0 0, .slice none 0 0, .slice none 0 0, .slice none 0 0] 48)))
  go_enter Tryz.func12, Tryz.ntmps12
  go_wp2_with fail
  refine HV.out.mono ?_
  rintro e w1 ⟨rfl, rfl⟩
  go_wp2_with fail
  refine ret_row2 w.heap.size #[.slice none 0 0, .slice none 0 0, .slice none 0 0, .slice none 0 0] rfl Tryz.isAgg48 Tryz.sizeOf48 rfl rfl (by simp [go_sem]) rfl ⟨rfl, ?_⟩
  (repeat' (first | (with_reducible exact Below.refl _ _) | (with_reducible assumption) | (with_reducible refine Below.alloc ?_ ?_ _) | (with_reducible refine Below.drew ?_) | (with_reducible refine Below.setCell ?_ ?_ _) | (with_reducible refine below_setRow ?_ ?_ _) | (with_reducible exact Nat.le_refl _) | omega | (simp; done) | (simp; omega) | (simp at *; omega)))

/-- The cells of the zero term. -/
def tm0 : Array Value := #[.int .i64 0, .int .i64 0, .int .i64 0, .int .i64 0, .int .u8 0, .int .i64 0, .slice none 0 0, .slice none 0 0]
theorem tm0_size : tm0.size = 8 := rfl
@[go_sem ↓ high] theorem loadTm (a : Addr) : loadVar 34 a = loadLater 34 a := rfl
@[go_sem ↓ high] theorem storeTm (a : Addr) (v : Value) : storeVar 34 a v = storeLater 34 a v := rfl
@[go_sem] theorem loadTm_run (w : World) (a : Addr) : (loadLater 34 a).run Tryz.prog w = rowLoad Tryz.prog 34 a w := rfl
@[go_sem] theorem storeTm_run (w : World) (a : Addr) (v : Value) : (storeLater 34 a v).run Tryz.prog w = rowStore Tryz.prog 34 a v w := rfl
@[go_sem] theorem storeTm_at (w : World) (g : Nat) (d : Array Value) : rowStore Tryz.prog 34 ⟨g, 0, none⟩ (.agg d) w = match row? w g with
      | some c => if c.size = 8 ∧ d.size = 8 ∧ allOne d = true then .ok () (w.setRow g d) else laterStore Tryz.prog 34 ⟨g, 0, none⟩ (.agg d) w
      | none => laterStore Tryz.prog 34 ⟨g, 0, none⟩ (.agg d) w := store_row Tryz.sizeOf34 w g d
@[go_sem ↓ high] theorem zeroTm (w : World) : (zeroValue 34).run Tryz.prog w = .ok (.agg tm0) w := by rw [Tryz.zeroValue34]; rfl
@[go_sem ↓ high] theorem buildTm (w : World) : (Instr.build 34 #[]).run Tryz.prog w = .ok (.agg tm0) w := by kernel_rfl
@[go_sem] theorem allOne_tm0 : allOne tm0 = true := by unfold allOne tm0; simp [Value.oneCell']
attribute [go_sem] tm0_size

theorem tports_nil (i : Int) (g : Value) (w : World) : Calls Tryz.prog 7 #[.pointer none, g, .int .i64 i] w fun e w' => e = .returned (.tuple #[.int .u16 0, .int .i64 1]) ∧ w' = w := by
  go_enter Tryz.func7, Tryz.ntmps7
  go_wp2_with fail
  go_ret2
  exact ⟨rfl, rfl⟩
theorem tleafTerm_nil (i : Int) (g : Value) (w : World) : Calls Tryz.prog 8 #[.pointer none, g, .int .i64 i] w fun e w' => e = .returned (.tuple #[.agg tm0, .int .i64 1]) ∧ Below w.heap.size w w' := by
  go_enter Tryz.func8, Tryz.ntmps8
  go_wp2_with fail
  refine ret_row2 w.heap.size tm0 rfl Tryz.isAgg34 Tryz.sizeOf34 rfl rfl (by simp [go_sem]) rfl ⟨rfl, ?_⟩
  (repeat' (first | (with_reducible exact Below.refl _ _) | (with_reducible assumption) | (with_reducible refine Below.alloc ?_ ?_ _) | (with_reducible refine Below.drew ?_) | (with_reducible refine Below.setCell ?_ ?_ _) | (with_reducible refine below_setRow ?_ ?_ _) | (with_reducible exact Nat.le_refl _) | omega | (simp; done) | (simp; omega) | (simp at *; omega)))
theorem tterm_nil (g : Value) (w : World) : Calls Tryz.prog 9 #[.pointer none, g] w fun e w' => e = .returned (.tuple #[.agg tm0, .int .i64 1]) ∧ Below w.heap.size w w' := by
  go_enter Tryz.func9, Tryz.ntmps9
  go_wp2_with fail
  refine ret_row2 w.heap.size tm0 rfl Tryz.isAgg34 Tryz.sizeOf34 rfl rfl (by simp [go_sem]) rfl ⟨rfl, ?_⟩
  (repeat' (first | (with_reducible exact Below.refl _ _) | (with_reducible assumption) | (with_reducible refine Below.alloc ?_ ?_ _) | (with_reducible refine Below.drew ?_) | (with_reducible refine Below.setCell ?_ ?_ _) | (with_reducible refine below_setRow ?_ ?_ _) | (with_reducible exact Nat.le_refl _) | omega | (simp; done) | (simp; omega) | (simp at *; omega)))
set_option maxRecDepth 10000 in
theorem tdepth_nil (w : World) : Calls Tryz.prog 19 #[.pointer none] w fun e w' => e = .returned (.int .i64 0) ∧ Below w.heap.size w w' := by
  have HL := Lib.hid fun W => tlen_nil W
  have hmk : ∀ W, (Instr.makeSlice 31 (.int .i64 0) (.int .i64 0)).run Tryz.prog W = .ok (.slice (some ⟨W.heap.size, 0, none⟩) 0 0) (W.alloc (.cells (Array.replicate 0 (.int .i64 0)) 3)) :=
    fun W => run_make1 (P := Tryz.prog) (t := 31) Tryz.underlying31 infoInt rfl 0 (by omega) (by omega) W
  go_enter Tryz.func19, Tryz.ntmps19
  go_wp2_with fail
  refine (HL.out w).mono ?_
  rintro e w1 ⟨rfl, rfl⟩
  go_wp2_with fail
  refine (HL.out _).mono ?_
  rintro e w2 ⟨rfl, rfl⟩
  go_wp2_with fail
  go_loopw [3, 5] (fun m i wr => i = .int .i64 (-1) ∧ m = .int .i64 0 ∧ wr = w1.alloc (.cells #[] 3)) (fun _ _ _ => 0)
  case atStart => exact ⟨rfl, rfl, rfl⟩
  case round =>
    obtain ⟨rfl, rfl, rfl⟩ := hrel
    go_wp2_with fail
    go_ret
    refine ⟨rfl, ?_⟩
    (repeat' (first | (with_reducible exact Below.refl _ _) | (with_reducible assumption) | (with_reducible refine Below.alloc ?_ ?_ _) | (with_reducible refine Below.drew ?_) | (with_reducible refine Below.setCell ?_ ?_ _) | (with_reducible refine below_setRow ?_ ?_ _) | (with_reducible exact Nat.le_refl _) | omega | (simp; done) | (simp; omega) | (simp at *; omega)))
/-- New of a graph: a pointer to a structure of two empty maps. -/
theorem gnew_any (w : World) : Calls Tryz.prog 6 #[] w fun e w' => ∃ g, e = .returned (.pointer (some ⟨g, 0, none⟩)) ∧ Below w.heap.size w w' := by
  have hmm := @run_makeMap Tryz.prog
  go_enter Tryz.func6, Tryz.ntmps6
  go_wp2_with fail
  go_ret
  refine ⟨w.heap.size + 1 + 1, rfl, ?_⟩
  (repeat' (first | (with_reducible exact Below.refl _ _) | (with_reducible assumption) | (with_reducible refine Below.alloc ?_ ?_ _) | (with_reducible refine Below.drew ?_) | (with_reducible refine Below.setCell ?_ ?_ _) | (with_reducible refine below_setRow ?_ ?_ _) | (with_reducible exact Nat.le_refl _) | omega | (simp; done) | (simp; omega) | (simp at *; omega)))
end Go.Proofs.YtoboncfgogjllaaGreatDoor
