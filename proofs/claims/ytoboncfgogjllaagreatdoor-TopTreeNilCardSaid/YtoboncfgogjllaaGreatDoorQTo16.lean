/-
  Walks: Node of a tree of clusters.
-/
import Derived.Test.YtoboncfgogjllaaGreatDoorQTop15
namespace Go.Pal
open Go Go.RowKit
theorem results_row2 {P : Program} {fn : Func} {p q : Tmp} {ty n : Nat} (h : fn.results = #[.cell p ty, .tmp q]) (hagg : ∀ w, (isAgg ty).run P w = .ok true w) (hn : ∀ w, (sizeOf ty).run P w = .ok n w)
    (tmps : Array Value) (w : World) (g : Nat) (c : Array Value) (hp : tmps.getD p undef = .pointer (some ⟨g, 0, none⟩)) (hg : row? w g = some c) (hc : c.size = n) :
    (results fn tmps).run P w = .ok (.tuple #[.agg c, tmps.getD q undef]) w := by
  have hp' : tmps[p]?.getD undef = .pointer (some ⟨g, 0, none⟩) := by simpa using hp
  have hl := load_row (P := P) hagg hn w g
  rw [hg] at hl
  simp only [hc, if_true] at hl
  unfold rowLoad at hl
  simp [results, h, hp', asAddr, hl]
theorem ret_row2 {P : Program} {fn : Func} {R : Ending → World → Prop} {a : Act} {w : World} {p q : Tmp} {ty n : Nat} (g : Nat) (c : Array Value) (h : fn.results = #[.cell p ty, .tmp q]) (hagg : ∀ w, (isAgg ty).run P w = .ok true w) (hn : ∀ w, (sizeOf ty).run P w = .ok n w)
    (hp : a.tmps.getD p undef = .pointer (some ⟨g, 0, none⟩)) (hd : a.defers = []) (hg : row? w g = some c) (hc : c.size = n) (hR : R (.returned (.tuple #[.agg c, a.tmps.getD q undef])) w) : bodyPost P fn R .ret a w :=
  bodyPost_ret (results_row2 h hagg hn a.tmps w g c hp hg hc) hd hR
end Go.Pal
namespace Go.Proofs.YtoboncfgogjllaaGreatDoor
open Go Go.RowKit Go.Pal Go.Shelf

theorem cloneK_any (gb : Nat) (ob : Option Nat) (x : TN) (w : World) (h : KidR w gb ob x) (hlen : x.nd.kids.length ≤ 65536) :
    Calls Tryz.prog 40 #[x.kv] w fun e w' => ∃ v', e = .returned v' ∧ OwnI w.heap.size w' v' (x.nd.kids.map fun i : Nat => (i : Int)) ∧ Below w.heap.size w w' := by
  obtain ⟨i0, hi, hz0, hz1, hz2⟩ := info_parts infoInt
  obtain ⟨a, c, hv, h⟩ := h
  rw [hv]
  rcases h with ⟨h1, rfl⟩ | ⟨k, rfl, hk, -, -, hc⟩
  · rw [h1]
    refine (AnyE.slices_Clone_nil Tryz.laysCloneI 0 c w).mono ?_
    rintro e w' ⟨rfl, rfl⟩
    exact ⟨_, rfl, OwnI.nil _ _, Below.refl _ _⟩
  · refine (AnyE.slices_Clone Tryz.laysCloneI i0 (.int .i64 0) 1 8 hi hz0 hz1 hz2 rfl (by decide) Tryz.sizeOf3 k 0 x.nd.kids.length c ((x.nd.kids.map fun i : Nat => (i : Int)).map (Value.int .i64)) w (by simp) (by unfold maxLen; omega) (by omega) ?_ ?_).mono ?_
    · intro j u hu
      rw [Nat.zero_add]
      rw [List.getElem?_map, List.getElem?_map] at hu
      obtain ⟨y, hy, rfl⟩ := Option.map_eq_some_iff.1 hu
      obtain ⟨z, hz, rfl⟩ := Option.map_eq_some_iff.1 hy
      exact hc j z hz
    · intro u hu
      obtain ⟨z, -, rfl⟩ := List.mem_map.1 hu
      rfl
    · rintro e w' ⟨v', rfl, hO, -, hb⟩
      refine ⟨v', rfl, ?_, hb⟩
      unfold OwnI
      rw [List.length_map]
      exact hO

theorem TN.set2 (x : TN) (v : Value) : x.cells.setIfInBounds 2 v = TN.cells ⟨x.nd, v⟩ := by
  apply Array.ext_getElem?
  intro i
  unfold TN.cells
  rw [Array.getElem?_setIfInBounds]
  match i with
  | 0 => simp [Array.getElem?_append]
  | 1 => simp [Array.getElem?_append]
  | 2 => simp [Array.getElem?_append]; omega
  | i + 3 =>
    rw [if_neg (by omega), Array.getElem?_append_right (by simp), Array.getElem?_append_right (by simp)]
    simp

set_option maxRecDepth 10000 in
set_option maxHeartbeats 400000 in
theorem tnode_any (gt gf : Nat) (T : List Bg) (t : Tr) (fl : List TNd) (w : World) (h : TtOk w gt gf T t fl) (i : Nat) (x : TNd) (hx : fl[i]? = some x) (hlen : x.kids.length ≤ 65536) :
    Calls Tryz.prog 10 #[.pointer (some ⟨gt, 0, none⟩), .int .i64 (i : Int)] w fun e w' => ∃ v', e = .returned (.tuple #[.agg (TN.cells ⟨x, v'⟩), .bool true]) ∧ OwnI w.heap.size w' v' (x.kids.map fun i : Nat => (i : Int)) ∧ Below w.heap.size w w' := by
  have hi := (List.getElem?_eq_some_iff.1 hx).1
  have hb0 := (Below.refl w.heap.size w).alloc (Nat.le_refl _) (.cells tn0.cells 42)
  have hT0 := h.below hb0
  have hv := tvalid_any gt gf T t fl _ hT0 (i : Int)
  have hin : (decide ((0 : Int) ≤ (i : Int)) && decide ((i : Int) < (fl.length : Int))) = true := by simp; omega
  rw [hin] at hv
  have HV := Lib.hid hv
  obtain ⟨q, cap, gu, gl, N, h1, h2, h3, -, -, -, h7⟩ := hT0
  obtain ⟨y, hy, rfl⟩ : ∃ y, N[i]? = some y ∧ y.nd = x := by
    rw [← h1, List.getElem?_map] at hx
    exact Option.map_eq_some_iff.1 hx
  obtain ⟨g, rfl, -, hgl, hgc⟩ := h3.cells hy
  obtain ⟨gb, ob, hK⟩ := h7 y (List.mem_of_getElem? hy)
  have k1 := cell?_row (i := 1) h2
  simp at k1
  have hload : rowLoad Tryz.prog 42 ⟨g, i * 19, none⟩ (w.alloc (.cells tn0.cells 42)) = .ok (.agg y.cells) (w.alloc (.cells tn0.cells 42)) := load_cells Tryz.isAgg42 Tryz.sizeOf42 _ g _ y.cells y.cells_size hgc
  have hone := y.allOne hK.slice
  have hkv : ∃ a c, y.kv = .slice a y.nd.kids.length c := by obtain ⟨a, c, h, -⟩ := hK; exact ⟨a, c, h⟩
  obtain ⟨ka, kc', hkv⟩ := hkv
  have HKV := Lib.hid hkv
  have e9 : ((w.alloc (Obj.cells tn0.cells 42)).alloc (Obj.cells y.cells 42)).cell? ⟨w.heap.size + 1, 2, none⟩ = some (.slice ka y.nd.kids.length kc') := by
    rw [cell?_row (row?_alloc_at _ _ _ _ (by simp)), y.cell2, hkv]
  clear hkv
  have HK := Lib.hid hK
  clear h hv hin h1 h2 h3 h7 hy hgc hK hx hb0
  go_enter Tryz.func10, Tryz.ntmps10
  go_wp2_with fail
  refine HV.out.mono ?_
  rintro e w1 ⟨rfl, rfl⟩
  go_wp2_with fail
  obtain ⟨W2, hW2⟩ : ∃ W2, W2 = (w.alloc (Obj.cells tn0.cells 42)).alloc (Obj.cells y.cells 42) := ⟨_, rfl⟩
  have hB2 : Below w.heap.size w W2 := by rw [hW2]; exact ((Below.refl _ w).alloc (Nat.le_refl _) _).alloc (by simp) _
  have hs2 : W2.heap.size = w.heap.size + 2 := by rw [hW2]; simp
  have hr2 : row? W2 w.heap.size = some tn0.cells := by rw [hW2]; exact (row?_alloc_past _ _ _ (by simp)).trans (row?_alloc_at _ _ _ _ rfl)
  have hr2' : row? W2 (w.heap.size + 1) = some y.cells := by rw [hW2]; exact row?_alloc_at _ _ _ _ (by simp)
  have hK2 : KidR W2 gb ob y := HK.out.keep (by rw [hs2]; simp) fun k hk _ h2 => ⟨by rw [hW2]; exact Below.heap_alloc _ _ k hk, h2⟩
  rw [← hW2]
  clear hW2 e9
  have hcl := cloneK_any gb ob y W2 hK2 hlen
  rw [HKV.out] at hcl
  refine hcl.mono ?_
  clear hcl
  rintro e w3 ⟨v', rfl, hO3, hb3⟩
  have hr3 := (row?_below hb3 (by omega)).trans hr2
  have hr3' := (row?_below hb3 (by omega)).trans hr2'
  have hs3 := hb3.size
  obtain ⟨q3, n3, c3, rfl⟩ := hO3.slice
  obtain ⟨W4, hW4⟩ : ∃ W4, w3.setCell ⟨w.heap.size + 1, 2, none⟩ (.slice q3 n3 c3) = W4 := ⟨_, rfl⟩
  have hr4' : row? W4 (w.heap.size + 1) = some (TN.cells ⟨y.nd, .slice q3 n3 c3⟩) := by
    rw [← hW4, row?_setCell_same, hr3']
    exact congrArg some (TN.set2 y _)
  have hr4 : row? W4 w.heap.size = some tn0.cells := by rw [← hW4, row?_setCell_other _ _ _ _ _ (by omega)]; exact hr3
  have hl4 := loadTN_row hr4'
  have hone4 := TN.allOne ⟨y.nd, .slice q3 n3 c3⟩ ⟨_, _, _, rfl⟩
  have hfz := frozen?_row (i := 2) hr3'
  have kc := (cell?_row hr3').trans y.cell2
  rw [HKV.out] at kc
  have hB4 : Below w.heap.size w W4 := by rw [← hW4]; exact Below.setCell (hB2.trans (hb3.mono (by omega))) (by show w.heap.size ≤ w.heap.size + 1; omega) _
  have hO4 : OwnI W2.heap.size W4 (.slice q3 n3 c3) (y.nd.kids.map fun i : Nat => (i : Int)) := hO3.same fun k hk => by
    rw [← hW4]
    have := hO3.block k hk
    exact heap_setCell_other _ _ k _ (by show k ≠ w.heap.size + 1; omega)
  have HB4 := Lib.hid hB4
  have HO4 := Lib.hid hO4
  clear hO3 hb3 hr2 hr2' hB2 hK2 hB4 hO4
  go_wp2_with fail
  refine ret_row2 _ (TN.cells ⟨y.nd, .slice q3 n3 c3⟩) rfl Tryz.isAgg42 Tryz.sizeOf42 rfl rfl ?_ (TN.cells_size _) ?_
  · simp [go_sem, hr4]
  · refine ⟨_, rfl, ?_, below_setRow HB4.out (Nat.le_refl _) _⟩
    refine OwnI.mono (HO4.out.same fun k hk => ?_) (by omega : w.heap.size ≤ W2.heap.size)
    have := HO4.out.block k hk
    exact setRow_other _ _ _ _ (by omega)
end Go.Proofs.YtoboncfgogjllaaGreatDoor
