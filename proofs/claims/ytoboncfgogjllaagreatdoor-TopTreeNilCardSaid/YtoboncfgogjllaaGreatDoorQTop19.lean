/-
  Walks: known, the document's example.
-/
import Derived.Test.YtoboncfgogjllaaGreatDoorQTop18
import Derived.Test.YtoboncfgogjllaaGreatDoorQPlain
namespace Go.Proofs.YtoboncfgogjllaaGreatDoor
open Go Go.RowKit Go.Pal Go.Shelf

theorem rdI_two (w : World) (x y : Int) : RdI (fun _ => True) (w.alloc (.cells #[.int .i64 x, .int .i64 y] 3)) (.slice (some ⟨w.heap.size, 0, none⟩) 2 2) [x, y] := by
  refine ⟨w.heap.size, 0, 2, rfl, Nat.le_refl _, trivial, by simp, fun i z hz => ?_⟩
  rw [Nat.zero_add, cell?_row (row?_alloc_at _ _ _ _ rfl)]
  match i, hz with
  | 0, hz => cases hz; rfl
  | 1, hz => cases hz; rfl
theorem rdI_one {w : World} {g : Nat} {x : Int} (h : row? w g = some #[.int .i64 x]) : RdI (fun _ => True) w (.slice (some ⟨g, 0, none⟩) 1 1) [x] := by
  refine ⟨g, 0, 1, rfl, Nat.le_refl _, trivial, row?_lt h, fun i z hz => ?_⟩
  rw [Nat.zero_add, cell?_row h]
  match i, hz with
  | 0, hz => cases hz; rfl
theorem rd_bags3 (w : World) (x y z : Bg) : Rd bagA 17 (w.heap.size + 1) (w.alloc (.cells (bagA x ++ bagA y ++ bagA z) 67)) (.slice (some ⟨w.heap.size, 0, none⟩) 3 3) [x, y, z] := by
  refine ⟨_, 3, rfl, .inr ⟨w.heap.size, 0, rfl, by omega, fun i u hu j v hv => ?_⟩⟩
  rw [cell?_row (row?_alloc_at _ _ _ _ rfl)]
  have hj : j < 17 := by have := (Array.getElem?_eq_some_iff.1 hv).1; rwa [bagA_size] at this
  match i, hu with
  | 0, hu =>
    cases hu
    rw [Array.getElem?_append_left (by rw [Array.size_append, bagA_size, bagA_size]; omega), Array.getElem?_append_left (by rw [bagA_size]; omega), show 0 + 0 * 17 + j = j by omega]
    exact hv
  | 1, hu =>
    cases hu
    rw [Array.getElem?_append_left (by rw [Array.size_append, bagA_size, bagA_size]; omega), Array.getElem?_append_right (by rw [bagA_size]; omega), bagA_size, show 0 + 1 * 17 + j - 17 = j by omega]
    exact hv
  | 2, hu =>
    cases hu
    rw [Array.getElem?_append_right (by rw [Array.size_append, bagA_size, bagA_size]; omega), Array.size_append, bagA_size, bagA_size, show 0 + 2 * 17 + j - (17 + 17) = j by omega]
    exact hv

theorem wpPlan_stillG {ops : Array Oper} {S : World → Prop} {Q : Exit → Act → World → Prop} {K : Act → World → Prop} {a : Act} {w : World} {k : Nat} {r : List (Nat × Bool)} {o : Oper} {v : Value} (ho : ops[k]? = some o) (hw : Region.wanted o (yielded ops a.tmps) = true) (hv : ∀ w, S w → (execOp a.eval o).run Tryz.prog w = .ok (.value v) w)
    (h : ∀ K' : Act → World → Prop, (∀ a w, wpPlan Tryz.prog ops S Q K r a w → K' a w) → K' (a.put o.dst v) w) : wpPlan Tryz.prog ops S Q K ((k, true) :: r) a w :=
  ⟨o, v, ho, .inl ⟨hw, hv⟩, h _ fun _ _ h => h⟩
theorem wpPlan_actG {ops : Array Oper} {S : World → Prop} {Q : Exit → Act → World → Prop} {K : Act → World → Prop} {a : Act} {w : World} {k : Nat} {r : List (Nat × Bool)} {o : Oper} (ho : ops[k]? = some o) (hw : Region.wanted o (yielded ops a.tmps) = true)
    (h : ∀ K' : Act → World → Prop, (∀ a w, S w → wpPlan Tryz.prog ops S Q K r a w → K' a w) → o.wp Tryz.prog a w K' Q) : wpPlan Tryz.prog ops S Q K ((k, false) :: r) a w := by
  show wpOp Tryz.prog ops Q k _ a w
  unfold wpOp
  simp only [ho, hw, if_true]
  exact .inl (h _ fun a w hs hp => ⟨hs, hp⟩)
theorem load_bnd {w : World} {g : Nat} {x : TN} (h : row? w g = some x.cells) : rowLoad Tryz.prog 40 ⟨g, 3, none⟩ w = .ok (.agg (words x.nd.bnd)) w := by
  refine load_cells Tryz.isAgg40 Tryz.sizeOf40 w g 3 (words x.nd.bnd) (words_size _) fun j u hu => ?_
  rw [cell?_row h]
  unfold TN.cells
  rw [Array.getElem?_append_right (by simp)]
  simpa using hu

set_option maxRecDepth 10000 in
set_option maxHeartbeats 2000000 in
theorem known_any (w : World) (hT : Tabs w) : Calls Tryz.prog 13 #[] w fun e w' => e = .returned (.bool true) ∧ Below w.heap.size w w' := by
  have HT := Lib.hid hT
  clear hT
  go_enter Tryz.func13, Tryz.ntmps13
  go_wp2_with fail
  refine (of_set (fun _ => True) [1, 2] _ _ (rdI_two w 1 2) (by decide) (by decide)).mono ?_
  rintro e w1 ⟨rfl, hb1⟩
  rw [show [1, 2].foldl sIns 0 = 6 by decide]
  have HB1 := Lib.hid (((Below.refl _ w).alloc (Nat.le_refl _) (.cells #[.int .i64 1, .int .i64 2] 3)).trans (hb1.mono (by simp)))
  clear hb1
  go_wp2_with (refine wpList_bBag rfl _ _ rfl 1 6 rfl rfl ?_)
  refine (of_set (fun _ => True) [2, 3] _ _ (rdI_two w1 2 3) (by decide) (by decide)).mono ?_
  rintro e w2 ⟨rfl, hb2⟩
  rw [show [2, 3].foldl sIns 0 = 12 by decide]
  have HB2 := Lib.hid ((HB1.out.alloc HB1.out.size (.cells #[.int .i64 2, .int .i64 3] 3)).trans (hb2.mono (by have := HB1.out.size; simp; omega)))
  clear hb2 HB1
  go_wp2_with (refine wpList_bBag rfl _ _ rfl (-1) 12 rfl rfl ?_)
  refine (of_set (fun _ => True) [2, 4] _ _ (rdI_two w2 2 4) (by decide) (by decide)).mono ?_
  rintro e w3 ⟨rfl, hb3⟩
  rw [show [2, 4].foldl sIns 0 = 20 by decide]
  have HB3 := Lib.hid ((HB2.out.alloc HB2.out.size (.cells #[.int .i64 2, .int .i64 4] 3)).trans (hb3.mono (by have := HB2.out.size; simp; omega)))
  clear hb3 HB2
  go_wp2_with (first | (refine wpList_bBag rfl _ _ rfl 1 20 rfl rfl ?_) | (refine wpList_bBags3 rfl _ _ _ rfl (1, 6) (-1, 12) (1, 20) rfl rfl rfl ?_))
  obtain ⟨W, hW⟩ : ∃ W, W = w3.alloc (Obj.cells (bagA (1, 6) ++ (bagA (-1, 12) ++ bagA (1, 20))) 67) := ⟨_, rfl⟩
  have hBW : Below w.heap.size w W := by rw [hW]; exact HB3.out.alloc HB3.out.size _
  have hRd : Rd bagA 17 W.heap.size W (.slice (some ⟨w3.heap.size, 0, none⟩) 3 3) T0 := by rw [hW, ← Array.append_assoc]; exact (rd_bags3 w3 _ _ _).mono (by simp)
  have HTW := HT.out.on hBW
  rw [← hW]
  refine (new_any T0 t0 valid0 nodup0 _ W hRd HTW.1 HTW.2).mono ?_
  rintro e w4 ⟨gf, rfl, hF4, hb4⟩
  have HF4 := Lib.hid hF4
  have HB4 := Lib.hid (hBW.trans (hb4.mono hBW.size))
  clear hW hBW hRd HTW hF4 hb4 HB3
  go_wp2_with fail
  refine (ttNew_any T0 t0 valid0 (by decide) gf w4 HF4.out _ path0 c0 cl0 (by decide)).mono ?_
  rintro e w5 ⟨gt, rfl, hO5, hb5⟩
  rw [flat0] at hO5
  have HO5 := Lib.hid hO5
  have HB5 := Lib.hid (HB4.out.trans (hb5.mono HB4.out.size))
  clear hO5 hb5 HF4 HB4
  go_wp2_with fail
  refine (tlen_any gt gf T0 t0 _ w5 HO5.out).mono ?_
  rintro e w6 ⟨rfl, rfl⟩
  go_wp2_with fail
  refine (tnode_any gt gf T0 t0 _ w6 HO5.out 3 ⟨2, 1, [0, 2], 4⟩ rfl (by decide)).mono ?_
  rintro e w7 ⟨v7, rfl, hO7, hb7⟩
  obtain ⟨q7, n7, c7, rfl⟩ := hO7.slice
  have hn7 : n7 = 2 := hO7.len
  subst hn7
  have hone7 := TN.allOne ⟨⟨2, 1, [0, 2], 4⟩, .slice q7 2 c7⟩ ⟨_, _, _, rfl⟩
  have HOK7 := Lib.hid (HO5.out.below hb7)
  have HB7 := Lib.hid (HB5.out.trans (hb7.mono HB5.out.size))
  have HO7 := Lib.hid hO7
  clear hb7 HO5 HB5 hO7
  go_wp2_with fail
  obtain ⟨W8, hW8⟩ : ∃ W8, W8 = w7.alloc (Obj.cells (TN.cells ⟨⟨2, 1, [0, 2], 4⟩, .slice q7 2 c7⟩) 42) := ⟨_, rfl⟩
  have hb8 : Below w7.heap.size w7 W8 := by rw [hW8]; exact (Below.refl _ _).alloc (Nat.le_refl _) _
  have hr8 : row? W8 w7.heap.size = some (TN.cells ⟨⟨2, 1, [0, 2], 4⟩, .slice q7 2 c7⟩) := by rw [hW8]; exact row?_alloc_at _ _ _ _ rfl
  have hs8 : W8.heap.size = w7.heap.size + 1 := by rw [hW8]; simp
  rw [← hW8]
  have HOK8 := Lib.hid (HOK7.out.below hb8)
  have HB8 := Lib.hid (HB7.out.trans (hb8.mono HB7.out.size))
  have HO8 : Hid (OwnI _ W8 _ _) := Lib.hid (HO7.out.same fun g hg => hb8.block g (HO7.out.lt g hg))
  clear hW8 hb8 HOK7 HB7 HO7
  refine (tnode_any gt gf T0 t0 _ W8 HOK8.out 6 ⟨3, 1, [3, 5], 0⟩ rfl (by decide)).mono ?_
  rintro e w9 ⟨v9, rfl, hO9, hb9⟩
  obtain ⟨q9, n9, c9, rfl⟩ := hO9.slice
  have hone9 := TN.allOne ⟨⟨3, 1, [3, 5], 0⟩, .slice q9 n9 c9⟩ ⟨_, _, _, rfl⟩
  have hs9 := hb9.size
  have HOK9 := Lib.hid (HOK8.out.below hb9)
  have HB9 := Lib.hid (HB8.out.trans (hb9.mono HB8.out.size))
  have HO9 : Hid (OwnI _ w9 _ _) := Lib.hid (HO8.out.same fun g hg => hb9.block g (HO8.out.lt g hg))
  have hr9 := (row?_below hb9 (by omega)).trans hr8
  clear hb9 HOK8 HB8 HO8 hr8
  go_wp2_with fail
  obtain ⟨Wa, hWa⟩ : ∃ Wa, Wa = w9.alloc (Obj.cells (TN.cells ⟨⟨3, 1, [3, 5], 0⟩, .slice q9 n9 c9⟩) 42) := ⟨_, rfl⟩
  have hba : Below w9.heap.size w9 Wa := by rw [hWa]; exact (Below.refl _ _).alloc (Nat.le_refl _) _
  have hra : row? Wa w9.heap.size = some (TN.cells ⟨⟨3, 1, [3, 5], 0⟩, .slice q9 n9 c9⟩) := by rw [hWa]; exact row?_alloc_at _ _ _ _ rfl
  have hsa : Wa.heap.size = w9.heap.size + 1 := by rw [hWa]; simp
  have hra5 := (row?_below hba (by omega)).trans hr9
  rw [← hWa]
  have HOKa := Lib.hid (HOK9.out.below hba)
  have HBa := Lib.hid (HB9.out.trans (hba.mono HB9.out.size))
  have HOa : Hid (OwnI _ Wa _ _) := Lib.hid (HO9.out.same fun g hg => hba.block g (HO9.out.lt g hg))
  clear hWa hba HOK9 HB9 HO9 hr9
  obtain ⟨gk, hqk, -, hgk, hk0⟩ := HOa.out.cell (j := 0) (z := 0) rfl
  obtain ⟨gk', hqk', -, -, hk1⟩ := HOa.out.cell (j := 1) (z := 2) rfl
  subst hqk
  simp only [Option.some.injEq, Addr.mk.injEq] at hqk'
  obtain ⟨rfl, -, -⟩ := hqk'
  have F : ∀ W, Below Wa.heap.size Wa W → W.cell? ⟨w7.heap.size, 0, none⟩ = some (.int .i64 2) ∧ W.cell? ⟨w7.heap.size, 1, none⟩ = some (.int .i64 1) ∧ W.cell? ⟨w7.heap.size, 2, none⟩ = some (.slice (some ⟨gk, 0, none⟩) 2 c7) ∧ rowLoad Tryz.prog 40 ⟨w7.heap.size, 3, none⟩ W = .ok (.agg (words 4)) W ∧
      W.cell? ⟨gk, 0, none⟩ = some (.int .i64 0) ∧ W.cell? ⟨gk, 1, none⟩ = some (.int .i64 2) ∧ W.cell? ⟨w9.heap.size, 0, none⟩ = some (.int .i64 3) ∧ rowLoad Tryz.prog 40 ⟨w9.heap.size, 3, none⟩ W = .ok (.agg (words 0)) W := fun W h => by
    have e5 := (row?_below h (by omega)).trans hra5
    have e7 := (row?_below h (by omega)).trans hra
    exact ⟨(cell?_row e5).trans (TN.cell0 ⟨⟨2, 1, [0, 2], 4⟩, .slice (some ⟨gk, 0, none⟩) 2 c7⟩), (cell?_row e5).trans (TN.cell1 ⟨⟨2, 1, [0, 2], 4⟩, .slice (some ⟨gk, 0, none⟩) 2 c7⟩), (cell?_row e5).trans (TN.cell2 ⟨⟨2, 1, [0, 2], 4⟩, .slice (some ⟨gk, 0, none⟩) 2 c7⟩), load_bnd (x := ⟨⟨2, 1, [0, 2], 4⟩, .slice (some ⟨gk, 0, none⟩) 2 c7⟩) e5, (h.cell (p := ⟨gk, 0, none⟩) hgk).trans hk0, (h.cell (p := ⟨gk, 1, none⟩) hgk).trans hk1, (cell?_row e7).trans (TN.cell0 ⟨⟨3, 1, [3, 5], 0⟩, .slice q9 n9 c9⟩), load_bnd (x := ⟨⟨3, 1, [3, 5], 0⟩, .slice q9 n9 c9⟩) e7⟩
  have HFF := Lib.hid F
  have heq : eqW 4 4 = true := by decide
  have hgs := guardSet
  clear F hk0 hk1 hra hra5
  refine wp_region_mix (fun W => Below Wa.heap.size Wa W) 61 [(0, true), (1, true), (2, true), (3, true), (4, true), (5, true), (6, true), (7, true), (8, true), (9, true), (10, true), (11, true), (12, true), (13, true), (14, true), (15, true), (16, true), (17, true), (18, true), (19, true), (20, true), (21, true), (22, true), (23, true), (24, true), (25, true), (26, true), (27, true), (28, true), (29, true), (30, true), (31, true), (32, true), (33, true), (34, true), (35, true), (36, true), (37, false), (38, false), (39, true), (40, true), (41, true), (42, true), (43, true), (44, true), (45, true), (46, true), (47, true), (48, true), (49, false), (50, true), (51, true), (52, true), (53, false), (54, true), (55, true), (56, true), (57, true), (58, false), (59, true), (60, true)] (by kernel_rfl) (by kernel_rfl) (Below.refl _ _).drew ?_
  repeat (first | (apply wpPlan_still rfl rfl; (intro w hw; obtain ⟨k1, k2, k3, k4, k5, k6, k7, k8⟩ := HFF.out _ hw; clear hw; go_simp; (try go_ints); (first | with_reducible rfl | (go_simp; with_reducible rfl))); (intro K hK; go_simp; (try go_ints); refine hK _ _ ?_; clear hK K)) | (apply wpPlan_stillG rfl rfl; (intro w hw; obtain ⟨k1, k2, k3, k4, k5, k6, k7, k8⟩ := HFF.out _ hw; clear hw; go_simp; (try go_ints); (first | with_reducible rfl | (go_simp; with_reducible rfl))); (intro K hK; go_simp; (try go_ints); refine hK _ _ ?_; clear hK K)))
  apply wpPlan_actG (by simp only [List.getElem?_toArray, List.getElem?_cons_succ, List.getElem?_cons_zero]; rfl) (by rfl)
  intro K hK
  unfold Oper.wp
  go_simp
  obtain ⟨Wb, hWb⟩ : ∃ Wb, Wb = (Wa.alloc (Obj.cells #[.int .i64 2] 3)).drew := ⟨_, rfl⟩
  have hbb : Below Wa.heap.size Wa Wb := by rw [hWb]; exact ((Below.refl _ _).alloc (Nat.le_refl _) _).drew
  have hrb : row? Wb (w9.heap.size + 1) = some #[.int .i64 2] := by rw [← hsa, hWb]; exact row?_alloc_at _ _ _ _ rfl
  rw [← hWb]
  refine hK _ _ hbb ?_
  clear hK K hWb
  apply wpPlan_actG (by simp only [List.getElem?_toArray, List.getElem?_cons_succ, List.getElem?_cons_zero]; rfl) (by rfl)
  intro K hK
  unfold Oper.wp
  go_simp
  refine (of_set (fun _ => True) [2] _ Wb (rdI_one hrb) (by decide) (by decide)).mono ?_
  rintro e Wc ⟨rfl, hbc⟩
  rw [show [2].foldl sIns 0 = 4 by decide]
  have hbc' : Below Wa.heap.size Wa Wc := hbb.trans (hbc.mono hbb.size)
  refine hK _ _ hbc' ?_
  have HBc := Lib.hid hbc'
  clear hK K hbb hrb hbc hbc'
  repeat (first | (apply wpPlan_still rfl rfl; (intro w hw; obtain ⟨k1, k2, k3, k4, k5, k6, k7, k8⟩ := HFF.out _ hw; clear hw; go_simp; (try go_ints); (first | with_reducible rfl | (go_simp; with_reducible rfl))); (intro K hK; go_simp; (try go_ints); refine hK _ _ ?_; clear hK K)) | (apply wpPlan_stillG rfl rfl; (intro w hw; obtain ⟨k1, k2, k3, k4, k5, k6, k7, k8⟩ := HFF.out _ hw; clear hw; go_simp; (try go_ints); (first | with_reducible rfl | (go_simp; with_reducible rfl))); (intro K hK; go_simp; (try go_ints); refine hK _ _ ?_; clear hK K)))
  apply wpPlan_actG (by simp only [List.getElem?_toArray, List.getElem?_cons_succ, List.getElem?_cons_zero]; rfl) (by rfl)
  intro K hK
  unfold Oper.wp
  go_simp
  refine (isEmpty_any 0 isSet_zero Wc).mono ?_
  rintro e Wd ⟨rfl, hbd⟩
  have hbd' := HBc.out.trans (hbd.mono HBc.out.size)
  refine hK _ _ hbd' ?_
  have HBd := Lib.hid hbd'
  clear hK K hbd hbd' HBc
  repeat (first | (apply wpPlan_still rfl rfl; (intro w hw; obtain ⟨k1, k2, k3, k4, k5, k6, k7, k8⟩ := HFF.out _ hw; clear hw; go_simp; (try go_ints); (first | with_reducible rfl | (go_simp; with_reducible rfl))); (intro K hK; go_simp; (try go_ints); refine hK _ _ ?_; clear hK K)) | (apply wpPlan_stillG rfl rfl; (intro w hw; obtain ⟨k1, k2, k3, k4, k5, k6, k7, k8⟩ := HFF.out _ hw; clear hw; go_simp; (try go_ints); (first | with_reducible rfl | (go_simp; with_reducible rfl))); (intro K hK; go_simp; (try go_ints); refine hK _ _ ?_; clear hK K)))
  apply wpPlan_actG (by simp only [List.getElem?_toArray, List.getElem?_cons_succ, List.getElem?_cons_zero]; rfl) (by rfl)
  intro K hK
  unfold Oper.wp
  go_simp
  refine (troot_any gt gf T0 t0 _ Wd (HOKa.out.below HBd.out) (by decide) (by decide)).mono ?_
  rintro e We ⟨rfl, rfl⟩
  refine hK _ _ HBd.out ?_
  clear hK K
  repeat (first | (apply wpPlan_still rfl rfl; (intro w hw; obtain ⟨k1, k2, k3, k4, k5, k6, k7, k8⟩ := HFF.out _ hw; clear hw; go_simp; (try go_ints); (first | with_reducible rfl | (go_simp; with_reducible rfl))); (intro K hK; go_simp; (try go_ints); refine hK _ _ ?_; clear hK K)) | (apply wpPlan_stillG rfl rfl; (intro w hw; obtain ⟨k1, k2, k3, k4, k5, k6, k7, k8⟩ := HFF.out _ hw; clear hw; go_simp; (try go_ints); (first | with_reducible rfl | (go_simp; with_reducible rfl))); (intro K hK; go_simp; (try go_ints); refine hK _ _ ?_; clear hK K)))
  have hpar := tparent_any gt gf T0 t0 _ We (HOKa.out.below HBd.out) 3 (by decide)
  have hu0 := ups0
  rw [flat0] at hu0
  rw [hu0] at hpar
  clear hu0
  apply wpPlan_actG (by simp only [List.getElem?_toArray, List.getElem?_cons_succ, List.getElem?_cons_zero]; rfl) (by rfl)
  intro K hK
  unfold Oper.wp
  go_simp
  refine hpar.mono ?_
  rintro e Wf ⟨rfl, rfl⟩
  refine hK _ _ HBd.out ?_
  clear hK K hpar
  repeat (first | (apply wpPlan_still rfl rfl; (intro w hw; obtain ⟨k1, k2, k3, k4, k5, k6, k7, k8⟩ := HFF.out _ hw; clear hw; go_simp; (try go_ints); (first | with_reducible rfl | (go_simp; with_reducible rfl))); (intro K hK; go_simp; (try go_ints); refine hK _ _ ?_; clear hK K)) | (apply wpPlan_stillG rfl rfl; (intro w hw; obtain ⟨k1, k2, k3, k4, k5, k6, k7, k8⟩ := HFF.out _ hw; clear hw; go_simp; (try go_ints); (first | with_reducible rfl | (go_simp; with_reducible rfl))); (intro K hK; go_simp; (try go_ints); refine hK _ _ ?_; clear hK K)))
  refine wpPlan_nil ?_
  simp only [List.drop_succ_cons, List.drop_zero]
  go_wp2_with fail
  go_ret
  exact ⟨rfl, HBa.out.trans (HBd.out.mono HBa.out.size)⟩
end Go.Proofs.YtoboncfgogjllaaGreatDoor
