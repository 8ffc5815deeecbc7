/- Walks of the reference's graph: plus, joined. -/
import Derived.Test.YtglnhnjmelilmaaGreatDoorRHB
set_option maxHeartbeats 4000000
set_option maxRecDepth 10000
set_option linter.all false
namespace Go.Proofs.YtglnhnjmelilmaaGreatDoor
open Go Go.RowKit Go.Pal
attribute [local go_sem] Oper.semAt_some
theorem rplus_any (V : List (Int × Th)) (x : Int × Th) (vV vE : Value) (w : World) (hv : Rd vtxA 3 w.heap.size w vV V) (hE : ∃ a n c, vE = .slice a n c) (hlen : V.length ≤ 100000) :
   Calls Tryz.prog 169 #[.agg #[vV, vE], .agg (vtxA x)] w fun e w' => ∃ v', e = .returned (.agg #[v', vE]) ∧ OwnRV w.heap.size w' v' (insB (fun p : Int × Th => ltV x.1 p.1) x V) ∧ Below w.heap.size w w' := by
 have HV := Lib.hid hv
 obtain ⟨a, c, rfl⟩ := hv.sl
 obtain ⟨a2, n2, c2, rfl⟩ := hE
 obtain ⟨xi, xl, xw⟩ := x
 rw [show vtxA (xi, xl, xw) = #[.int .i64 xi, .int .u8 (xl : Int), .int .i64 xw] from rfl]
 clear hv
 go_enter Tryz.func169, Tryz.ntmps169
 go_wp2_with fail
 generalize hW0 : World.alloc (World.alloc (World.alloc (World.alloc w _) _) _) _ = W0
 have r2 : row? W0 w.heap.size = some #[.slice a V.length c, .slice a2 n2 c2] := by rw [← hW0]; simp [go_sem]
 have r3 : row? W0 (w.heap.size + 1) = some #[.int .i64 xi, .int .u8 (xl : Int), .int .i64 xw] := by rw [← hW0]; simp [go_sem]
 have r4 : row? W0 (w.heap.size + 1 + 1) = some #[.slice none 0 0, .slice none 0 0] := by rw [← hW0]; simp [go_sem]
 have r5 : row? W0 (w.heap.size + 1 + 1 + 1) = some #[.slice none 0 0, .slice a2 n2 c2] := by rw [← hW0]; simp [go_sem]
 have hs0 : w.heap.size + 4 ≤ W0.heap.size := by rw [← hW0]; simp
 have hB0 : Below w.heap.size w W0 := by
   rw [← hW0]
   (repeat' (first | (with_reducible first | exact Below.refl _ _ | assumption | refine Below.alloc ?_ ?_ _ | refine Below.drew ?_ | refine Below.setCell ?_ ?_ _ | refine below_setRow ?_ ?_ _ | exact Nat.le_refl _) | omega | (simp; done) | (simp; omega) | (simp at *; omega)))
 have HR2 := Lib.hid r2
 have HR3 := Lib.hid r3
 have HR4 := Lib.hid r4
 have HR5 := Lib.hid r5
 have HB0 := Lib.hid hB0
 clear hW0 r2 r3 r4 r5 hB0
 go_loopw [6, 7] (fun d i wr => ∃ k : Nat, k ≤ V.length ∧ i = .int .i64 (k : Int) ∧ d = .bool (pTo (fun p : Int × Th => ltV xi p.1) (xi, xl, xw) V k).2 ∧ (∃ va, row? wr (w.heap.size + 1 + 1 + 1) = some #[va, .slice a2 n2 c2] ∧ OwnRV W0.heap.size wr va (pTo (fun p : Int × Th => ltV xi p.1) (xi, xl, xw) V k).1) ∧ Same (fun j => j < W0.heap.size ∧ j ≠ w.heap.size + 1 + 1 + 1) W0 wr) (fun _ i _ => V.length - (intOf i).toNat)
 case atStart => exact ⟨0, by omega, rfl, rfl, ⟨_, HR5.out, OwnR.nil _ _⟩, Same.refl _ _⟩
 case round =>
   obtain ⟨k, hk, rfl, rfl, ⟨va, hr, hO⟩, hS⟩ := hrel
   have hsz := hS.size
   have hbw : Below w.heap.size w wr := HB0.out.trans (hS.below (by omega) fun j hj => ⟨by omega, by omega⟩)
   have hll := pTo_length (fun p : Int × Th => ltV xi p.1) (xi, xl, xw) V k
   obtain ⟨st, hst⟩ : ∃ st, st = pTo (fun p : Int × Th => ltV xi p.1) (xi, xl, xw) V k := ⟨_, rfl⟩
   rw [← hst] at hO hll ⊢
   have HST := Lib.hid hst
   obtain ⟨acc, d⟩ := st
   simp only at hO hll ⊢
   have HO := Lib.hid hO
   have HS := Lib.hid hS
   have HR := Lib.hid hr
   have HBW := Lib.hid hbw
   have hown := hO.block
   obtain ⟨qa, cqa, rfl⟩ := hO.sl
   have k2 := cell?_row (i := 0) ((row?_congr (hS.block _ (by omega) ⟨by omega, by omega⟩)).trans HR2.out)
   have hr3 := (row?_congr (hS.block (w.heap.size + 1) (by omega) ⟨by omega, by omega⟩)).trans HR3.out
   have k3 := cell?_row (i := 0) hr3
   have k5 := cell?_row (i := 0) hr
   simp at k2 k3 k5
   have hfz := frozen?_row (i := 0) hr
   have hl5 := row?_lt hr
   clear hst hO hS hbw
   by_cases hlt : k < V.length
   · obtain ⟨b, off, c', y, h1, hb, hy, hc⟩ := HV.out.at hlt
     simp only [Value.slice.injEq] at h1
     obtain ⟨rfl, -, rfl⟩ := h1
     obtain ⟨yi, yl, yw⟩ := y
     have hcc := hc wr HBW.out
     have c0 := hcc 0 (.int .i64 yi) rfl
     simp only [Nat.add_zero] at c0
     have HY := Lib.hid hy
     have HC := Lib.hid hc
     clear hc hcc hy
     cases d with
     | true =>
       have hst1 : pTo (fun p : Int × Th => ltV xi p.1) (xi, xl, xw) V (k + 1) = (acc ++ [(yi, yl, yw)], true) := by rw [pTo_succ HY.out, ← HST.out]; simp [pStep]
       have HST1 := Lib.hid hst1
       clear hst1 HST
       go_wp2_with fail
       refine wp_region_free (fun w' => w' = wr.drew) (by kernel_rfl) (by kernel_rfl) rfl ?_
       repeat (first | (apply wpFree_skip rfl; (intro K hK; go_simp; (try go_ints); refine hK _ ?_; clear hK K)) | (apply wpFree_still; (intro w hw; subst hw; go_simp; (try go_ints); (first | with_reducible rfl | (go_simp; with_reducible rfl))); with_reducible rfl; (intro K hK; go_simp; (try go_ints); refine hK _ ?_; clear hK K)))
       with_reducible refine wpFree_nil ?_
       rintro w' rfl
       go_wp2_with fail
       obtain ⟨W1, hW1⟩ : ∃ W1, W1 = wr.drew := ⟨_, rfl⟩
       obtain ⟨acc1, qa1, cqa1, ha1⟩ : ∃ acc1 qa1 cqa1, acc1 = acc ∧ qa1 = qa ∧ cqa1 = cqa := ⟨_, _, _, rfl, rfl, rfl⟩
       obtain ⟨e1, e2, e3⟩ := ha1
       have HO1 : Hid (OwnRV W0.heap.size W1 (.slice qa1 acc1.length cqa1) acc1) := Lib.hid (by rw [hW1, e1, e2, e3]; exact HO.out.same fun g hg => rfl)
       have HR1 : Hid (row? W1 (w.heap.size + 1 + 1 + 1) = some #[.slice qa1 acc1.length cqa1, .slice a2 n2 c2]) := Lib.hid (by rw [hW1, e1, e2, e3]; exact HR.out)
       have HS1 : Hid (Same (fun j => j < W0.heap.size ∧ j ≠ w.heap.size + 1 + 1 + 1) W0 W1) := Lib.hid (by rw [hW1]; exact HS.out.trans (Same.drew _ _))
       have hll1 : acc1.length ≤ k + 1 := by rw [e1]; exact hll
       have HST2 : Hid (pTo (fun p : Int × Th => ltV xi p.1) (xi, xl, xw) V (k + 1) = (acc1 ++ [(yi, yl, yw)], true)) := Lib.hid (by rw [e1]; exact HST1.out)
       rw [← hW1]
       clear hW1 e1 e2 e3 HO HR HS HST1 hr3 k2 k3 k5 hfz hl5 c0 hr hll
       have hsz1 := HS1.out.size
       have hbw1 : Below w.heap.size w W1 := HB0.out.trans (HS1.out.below (by omega) fun j hj => ⟨by omega, by omega⟩)
       have hown1 := HO1.out.block
       have hr1 := HR1.out
       have j5 := cell?_row (i := 0) hr1
       have j2 := cell?_row (i := 0) ((row?_congr (HS1.out.block w.heap.size (by omega) ⟨by omega, by omega⟩)).trans HR2.out)
       simp at j5 j2
       have jl : rowLoad Tryz.prog 136 ⟨b, off + k * 3, none⟩ W1.drew = .ok (.agg #[.int .i64 yi, .int .u8 (yl : Int), .int .i64 yw]) W1.drew := load_cells Tryz.isAgg136 Tryz.sizeOf136 W1.drew b _ _ rfl fun j u hu => HC.out W1.drew hbw1.drew j u hu
       have HAE := Lib.hid fun o => ((((Below.refl _ W1).drew.alloc (Nat.le_refl _) o).cell (p := ⟨w.heap.size + 1 + 1 + 1, 0, none⟩) (by show w.heap.size + 1 + 1 + 1 < W1.heap.size; omega)).trans j5)
       have HAF := Lib.hid fun o => ((((Below.refl _ W1).drew.alloc (Nat.le_refl _) o).cell (p := ⟨w.heap.size, 0, none⟩) (by show w.heap.size < W1.heap.size; omega)).trans j2)
       have HAG := Lib.hid fun o => load_cells Tryz.isAgg136 Tryz.sizeOf136 (W1.drew.alloc o) b (off + k * 3) #[.int .i64 yi, .int .u8 (yl : Int), .int .i64 yw] rfl fun j u hu => HC.out (W1.drew.alloc o) (hbw1.drew.alloc hbw1.drew.size o) j u hu
       have jfz := frozen?_row (i := 0) hr1
       have jl5 := row?_lt hr1
       refine wp_region_mix (fun W => W.cell? ⟨w.heap.size + 1 + 1 + 1, 0, none⟩ = some (.slice qa1 acc1.length cqa1) ∧ W.cell? ⟨w.heap.size, 0, none⟩ = some (.slice (some ⟨b, off, none⟩) V.length c) ∧ rowLoad Tryz.prog 136 ⟨b, off + k * 3, none⟩ W = .ok (.agg #[.int .i64 yi, .int .u8 (yl : Int), .int .i64 yw]) W) 9 [(0, true), (1, true), (2, true), (3, true), (4, true), (5, true), (6, true), (7, false), (8, false)] (by kernel_rfl) (by kernel_rfl) ⟨j5, j2, jl⟩ ?_
       repeat (apply wpPlan_still rfl rfl; (intro w hw; obtain ⟨q1, q2, q3⟩ := hw; go_simp; (try go_ints); (first | with_reducible rfl | (go_simp; with_reducible rfl))); (intro K hK; go_simp; (try go_ints); refine hK _ _ ?_; clear hK K))
       apply wpPlan_act rfl rfl
       intro K hK
       unfold Oper.wp
       go_simp
       refine hK _ _ ⟨HAE.out _, HAF.out _, HAG.out _⟩ ?_
       clear hK K
       apply wpPlan_act rfl rfl
       intro K hK
       refine wp_appO elRV 39 Tryz.underlying39 _ _ rfl W0.heap.size _ acc1 rfl (HO1.out.below (C := W1.heap.size) ((Below.refl _ W1).drew.alloc (Nat.le_refl _) _) (Nat.le_refl _)) W1.heap.size (yi, yl, yw) _ rfl (row?_alloc_at _ _ _ _ rfl) (by omega) (by simp; omega) ?_
       intro v2 w2 hO2 hb2 hg2 hl2
       have hs2 : W1.heap.size ≤ w2.heap.size := by have := hb2.size; simp at this; omega
       have hne2 : some (w.heap.size + 1 + 1 + 1) ≠ (Value.slice qa1 acc1.length cqa1).ownBlock := fun e => by have := hown1 _ e.symm; omega
       have hr2 : row? w2 (w.heap.size + 1 + 1 + 1) = some #[.slice qa1 acc1.length cqa1, .slice a2 n2 c2] := (row?_congr ((hg2.block (w.heap.size + 1 + 1 + 1) (by simp; omega) hne2).trans (Below.heap_alloc _ _ _ (by show w.heap.size + 1 + 1 + 1 < W1.heap.size; omega)))).trans hr1
       have hk2 : ∀ j, j < W0.heap.size → w2.heap[j]? = W1.heap[j]? := fun j hj => (hb2.block j hj).trans (Below.heap_alloc _ _ _ (by show j < W1.heap.size; omega))
       have hB2 : Below w.heap.size w w2 := hbw1.trans ⟨hb2.os, hb2.tape, hb2.output, hs2, fun j hj => hk2 j (by omega)⟩
       have hS2 := HS1.out.trans ⟨hb2.os, hb2.tape, hb2.output, hs2, fun j hj h => hk2 j h.1⟩
       refine hK _ _ ⟨(cell?_row (i := 0) hr2).trans rfl, (World.cell?_of_block (hk2 _ (by show w.heap.size < W0.heap.size; omega))).trans j2, load_cells Tryz.isAgg136 Tryz.sizeOf136 w2 b (off + k * 3) #[.int .i64 yi, .int .u8 (yl : Int), .int .i64 yw] rfl fun j u hu => HC.out w2 hB2 j u hu⟩ ?_
       clear hK K
       have hfz2 := frozen?_row (i := 0) hr2
       have hlt2 := row?_lt hr2
       have k92 := (cell?_row (i := 0) hr2)
       simp at k92
       obtain ⟨q2, c2', rfl⟩ := hO2.sl
       rw [List.length_append] at hO2 ⊢
       have HO2 := Lib.hid hO2
       have HR2' := Lib.hid hr2
       have HS2 := Lib.hid hS2
       clear hO2 hb2 hg2 hl2 hr2 hk2 hne2 hS2 hB2 HAE HAF HAG hbw1 j5 j2 jl jfz hr1
       refine wpPlan_nil ?_
       simp only [List.drop_succ_cons, List.drop_zero]
       go_wp2_with fail
       go_roundw
       case rel =>
         refine ⟨k + 1, by omega, by go_num, by rw [HST2.out], ⟨_, by rw [row?_setCell_same, HR2'.out]; rfl, ?_⟩, ?_⟩
         · rw [HST2.out]
           exact HO2.out.same fun j hj => heap_setCell_other _ _ j _ (by have := HO2.out.block j hj; show j ≠ w.heap.size + 1 + 1 + 1; omega)
         · exact HS2.out.trans (Same.setCell _ _ _ _ (by simp))
       case measure => simp [intOf]; omega
     | false =>
       by_cases hlt2 : xi < yi
       · have hst1 : pTo (fun p : Int × Th => ltV xi p.1) (xi, xl, xw) V (k + 1) = ((acc ++ [(xi, xl, xw)]) ++ [(yi, yl, yw)], true) := by rw [pTo_succ HY.out, ← HST.out]; simp [pStep, ltV, hlt2]
         have HST1 := Lib.hid hst1
         clear hst1 HST
         go_wp2_with fail
         refine wp_region_free (fun w' => w' = wr.drew) (by kernel_rfl) (by kernel_rfl) rfl ?_
         repeat ((first | apply wpFree_still (hg := rfl) | apply wpFree_stillG rfl); (intro w hw; subst hw; go_simp; (try go_ints); (first | with_reducible rfl | (go_simp; with_reducible rfl))); (intro K hK; go_simp; (try go_ints); refine hK _ ?_; clear hK K))
         with_reducible refine wpFree_nil ?_
         rintro w' rfl
         go_wp2_with (at_builtin; refine wpList_appO elRV 39 Tryz.underlying39 rfl _ _ rfl W0.heap.size _ acc rfl (HO.out.below (C := wr.heap.size) ((Below.refl _ wr).alloc (Nat.le_refl _) _).drew (Nat.le_refl _)) wr.heap.size (xi, xl, xw) _ rfl (row?_alloc_at _ _ _ _ rfl) (by omega) (by simp; omega) ?_)
         intro v5 w5 hO5 hb5 hg5 hl5
         have hs5 : wr.heap.size ≤ w5.heap.size := by have := hb5.size; simp at this; omega
         have hne5 : some (w.heap.size + 1 + 1 + 1) ≠ (Value.slice qa acc.length cqa).ownBlock := fun e => by have := hown _ e.symm; omega
         have hr5 : row? w5 (w.heap.size + 1 + 1 + 1) = some #[.slice qa acc.length cqa, .slice a2 n2 c2] := (row?_congr ((hg5.block (w.heap.size + 1 + 1 + 1) (by simp; omega) hne5).trans (Below.heap_alloc _ _ _ (by first | omega | (show _ < wr.heap.size; omega))))).trans HR.out
         have hk5 : ∀ j, j < W0.heap.size → w5.heap[j]? = wr.heap[j]? := fun j hj => (hb5.block j hj).trans (Below.heap_alloc _ _ _ (by first | omega | (show _ < wr.heap.size; omega)))
         have hS5 := HS.out.trans ⟨hb5.os, hb5.tape, hb5.output, hs5, fun k hk h => hk5 k h.1⟩
         have hfz5 := frozen?_row (i := 0) hr5
         have hlt5 := row?_lt hr5
         have k5 := cell?_row (i := 0) hr5
         simp at k5
         obtain ⟨q5, c5, rfl⟩ := hO5.sl
         have HO5 := Lib.hid hO5
         have HS5 := Lib.hid hS5
         have HR5 := Lib.hid hr5
         clear hO5 hb5 hg5 hl5 hk5 hS5 hne5
         rw [List.length_append] at HO5 ⊢
         clear hr5
         go_wp2_with fail
         obtain ⟨W1, hW1⟩ : ∃ W1, W1 = w5.setCell ⟨w.heap.size + 1 + 1 + 1, 0, none⟩ (.slice q5 (acc.length + 1) c5) := ⟨_, rfl⟩
         obtain ⟨acc1, qa1, cqa1, ha1⟩ : ∃ acc1 qa1 cqa1, acc1 = acc ++ [(xi, xl, xw)] ∧ qa1 = q5 ∧ cqa1 = c5 := ⟨_, _, _, rfl, rfl, rfl⟩
         obtain ⟨e1, e2, e3⟩ := ha1
         have hel : acc1.length = acc.length + 1 := by rw [e1]; simp
         have HO1 : Hid (OwnRV W0.heap.size W1 (.slice qa1 acc1.length cqa1) acc1) := Lib.hid (by rw [hW1, hel, e1, e2, e3]; exact HO5.out.same fun g hg => heap_setCell_other _ _ g _ (by have := HO5.out.block g hg; show g ≠ w.heap.size + 1 + 1 + 1; omega))
         have HR1 : Hid (row? W1 (w.heap.size + 1 + 1 + 1) = some #[.slice qa1 acc1.length cqa1, .slice a2 n2 c2]) := Lib.hid (by rw [hW1, hel, e2, e3]; exact by rw [row?_setCell_same, HR5.out]; rfl)
         have HS1 : Hid (Same (fun j => j < W0.heap.size ∧ j ≠ w.heap.size + 1 + 1 + 1) W0 W1) := Lib.hid (by rw [hW1]; exact HS5.out.trans (Same.setCell _ _ _ _ (by simp)))
         have hll1 : acc1.length ≤ k + 2 := by rw [hel]; omega
         have HST2 : Hid (pTo (fun p : Int × Th => ltV xi p.1) (xi, xl, xw) V (k + 1) = (acc1 ++ [(yi, yl, yw)], true)) := Lib.hid (by rw [e1]; exact HST1.out)
         rw [← hW1]
         clear hW1 e1 e2 e3 hel HO HR HS HST1 hr3 k2 k3 k5 hfz hl5 c0 hr hll HO5 HR5 HS5 hfz5 hlt5
         have hsz1 := HS1.out.size
         have hbw1 : Below w.heap.size w W1 := HB0.out.trans (HS1.out.below (by omega) fun j hj => ⟨by omega, by omega⟩)
         have hown1 := HO1.out.block
         have hr1 := HR1.out
         have j5 := cell?_row (i := 0) hr1
         have j2 := cell?_row (i := 0) ((row?_congr (HS1.out.block w.heap.size (by omega) ⟨by omega, by omega⟩)).trans HR2.out)
         simp at j5 j2
         have jl : rowLoad Tryz.prog 136 ⟨b, off + k * 3, none⟩ W1.drew = .ok (.agg #[.int .i64 yi, .int .u8 (yl : Int), .int .i64 yw]) W1.drew := load_cells Tryz.isAgg136 Tryz.sizeOf136 W1.drew b _ _ rfl fun j u hu => HC.out W1.drew hbw1.drew j u hu
         have HAE := Lib.hid fun o => ((((Below.refl _ W1).drew.alloc (Nat.le_refl _) o).cell (p := ⟨w.heap.size + 1 + 1 + 1, 0, none⟩) (by show w.heap.size + 1 + 1 + 1 < W1.heap.size; omega)).trans j5)
         have HAF := Lib.hid fun o => ((((Below.refl _ W1).drew.alloc (Nat.le_refl _) o).cell (p := ⟨w.heap.size, 0, none⟩) (by show w.heap.size < W1.heap.size; omega)).trans j2)
         have HAG := Lib.hid fun o => load_cells Tryz.isAgg136 Tryz.sizeOf136 (W1.drew.alloc o) b (off + k * 3) #[.int .i64 yi, .int .u8 (yl : Int), .int .i64 yw] rfl fun j u hu => HC.out (W1.drew.alloc o) (hbw1.drew.alloc hbw1.drew.size o) j u hu
         have jfz := frozen?_row (i := 0) hr1
         have jl5 := row?_lt hr1
         refine wp_region_mix (fun W => W.cell? ⟨w.heap.size + 1 + 1 + 1, 0, none⟩ = some (.slice qa1 acc1.length cqa1) ∧ W.cell? ⟨w.heap.size, 0, none⟩ = some (.slice (some ⟨b, off, none⟩) V.length c) ∧ rowLoad Tryz.prog 136 ⟨b, off + k * 3, none⟩ W = .ok (.agg #[.int .i64 yi, .int .u8 (yl : Int), .int .i64 yw]) W) 9 [(0, true), (1, true), (2, true), (3, true), (4, true), (5, true), (6, true), (7, false), (8, false)] (by kernel_rfl) (by kernel_rfl) ⟨j5, j2, jl⟩ ?_
         repeat (apply wpPlan_still rfl rfl; (intro w hw; obtain ⟨q1, q2, q3⟩ := hw; go_simp; (try go_ints); (first | with_reducible rfl | (go_simp; with_reducible rfl))); (intro K hK; go_simp; (try go_ints); refine hK _ _ ?_; clear hK K))
         apply wpPlan_act rfl rfl
         intro K hK
         unfold Oper.wp
         go_simp
         refine hK _ _ ⟨HAE.out _, HAF.out _, HAG.out _⟩ ?_
         clear hK K
         apply wpPlan_act rfl rfl
         intro K hK
         refine wp_appO elRV 39 Tryz.underlying39 _ _ rfl W0.heap.size _ acc1 rfl (HO1.out.below (C := W1.heap.size) ((Below.refl _ W1).drew.alloc (Nat.le_refl _) _) (Nat.le_refl _)) W1.heap.size (yi, yl, yw) _ rfl (row?_alloc_at _ _ _ _ rfl) (by omega) (by simp; omega) ?_
         intro v2 w2 hO2 hb2 hg2 hl2
         have hs2 : W1.heap.size ≤ w2.heap.size := by have := hb2.size; simp at this; omega
         have hne2 : some (w.heap.size + 1 + 1 + 1) ≠ (Value.slice qa1 acc1.length cqa1).ownBlock := fun e => by have := hown1 _ e.symm; omega
         have hr2 : row? w2 (w.heap.size + 1 + 1 + 1) = some #[.slice qa1 acc1.length cqa1, .slice a2 n2 c2] := (row?_congr ((hg2.block (w.heap.size + 1 + 1 + 1) (by simp; omega) hne2).trans (Below.heap_alloc _ _ _ (by show w.heap.size + 1 + 1 + 1 < W1.heap.size; omega)))).trans hr1
         have hk2 : ∀ j, j < W0.heap.size → w2.heap[j]? = W1.heap[j]? := fun j hj => (hb2.block j hj).trans (Below.heap_alloc _ _ _ (by show j < W1.heap.size; omega))
         have hB2 : Below w.heap.size w w2 := hbw1.trans ⟨hb2.os, hb2.tape, hb2.output, hs2, fun j hj => hk2 j (by omega)⟩
         have hS2 := HS1.out.trans ⟨hb2.os, hb2.tape, hb2.output, hs2, fun j hj h => hk2 j h.1⟩
         refine hK _ _ ⟨(cell?_row (i := 0) hr2).trans rfl, (World.cell?_of_block (hk2 _ (by show w.heap.size < W0.heap.size; omega))).trans j2, load_cells Tryz.isAgg136 Tryz.sizeOf136 w2 b (off + k * 3) #[.int .i64 yi, .int .u8 (yl : Int), .int .i64 yw] rfl fun j u hu => HC.out w2 hB2 j u hu⟩ ?_
         clear hK K
         have hfz2 := frozen?_row (i := 0) hr2
         have hlt2 := row?_lt hr2
         have k92 := (cell?_row (i := 0) hr2)
         simp at k92
         obtain ⟨q2, c2', rfl⟩ := hO2.sl
         rw [List.length_append] at hO2 ⊢
         have HO2 := Lib.hid hO2
         have HR2' := Lib.hid hr2
         have HS2 := Lib.hid hS2
         clear hO2 hb2 hg2 hl2 hr2 hk2 hne2 hS2 hB2 HAE HAF HAG hbw1 j5 j2 jl jfz hr1
         refine wpPlan_nil ?_
         simp only [List.drop_succ_cons, List.drop_zero]
         go_wp2_with fail
         go_roundw
         case rel =>
           refine ⟨k + 1, by omega, by go_num, by rw [HST2.out], ⟨_, by rw [row?_setCell_same, HR2'.out]; rfl, ?_⟩, ?_⟩
           · rw [HST2.out]
             exact HO2.out.same fun j hj => heap_setCell_other _ _ j _ (by have := HO2.out.block j hj; show j ≠ w.heap.size + 1 + 1 + 1; omega)
           · exact HS2.out.trans (Same.setCell _ _ _ _ (by simp))
         case measure => simp [intOf]; omega
       · have hst1 : pTo (fun p : Int × Th => ltV xi p.1) (xi, xl, xw) V (k + 1) = (acc ++ [(yi, yl, yw)], false) := by rw [pTo_succ HY.out, ← HST.out]; simp [pStep, ltV, hlt2]
         have HST1 := Lib.hid hst1
         clear hst1 HST
         go_wp2_with fail
         refine wp_region_free (fun w' => w' = wr.drew) (by kernel_rfl) (by kernel_rfl) rfl ?_
         repeat ((first | apply wpFree_still (hg := rfl) | apply wpFree_stillG rfl); (intro w hw; subst hw; go_simp; (try go_ints); (first | with_reducible rfl | (go_simp; with_reducible rfl))); (intro K hK; go_simp; (try go_ints); refine hK _ ?_; clear hK K))
         with_reducible refine wpFree_nil ?_
         rintro w' rfl
         go_wp2_with fail
         obtain ⟨W1, hW1⟩ : ∃ W1, W1 = wr.drew := ⟨_, rfl⟩
         obtain ⟨acc1, qa1, cqa1, ha1⟩ : ∃ acc1 qa1 cqa1, acc1 = acc ∧ qa1 = qa ∧ cqa1 = cqa := ⟨_, _, _, rfl, rfl, rfl⟩
         obtain ⟨e1, e2, e3⟩ := ha1
         have hel : acc1.length = acc.length := by rw [e1]
         have HO1 : Hid (OwnRV W0.heap.size W1 (.slice qa1 acc1.length cqa1) acc1) := Lib.hid (by rw [hW1, hel, e1, e2, e3]; exact HO.out.same fun g hg => rfl)
         have HR1 : Hid (row? W1 (w.heap.size + 1 + 1 + 1) = some #[.slice qa1 acc1.length cqa1, .slice a2 n2 c2]) := Lib.hid (by rw [hW1, hel, e2, e3]; exact HR.out)
         have HS1 : Hid (Same (fun j => j < W0.heap.size ∧ j ≠ w.heap.size + 1 + 1 + 1) W0 W1) := Lib.hid (by rw [hW1]; exact HS.out.trans (Same.drew _ _))
         have hll1 : acc1.length ≤ k + 2 := by rw [hel]; omega
         have HST2 : Hid (pTo (fun p : Int × Th => ltV xi p.1) (xi, xl, xw) V (k + 1) = (acc1 ++ [(yi, yl, yw)], false)) := Lib.hid (by rw [e1]; exact HST1.out)
         rw [← hW1]
         clear hW1 e1 e2 e3 hel HO HR HS HST1 hr3 k2 k3 k5 hfz hl5 c0 hr hll
         have hsz1 := HS1.out.size
         have hbw1 : Below w.heap.size w W1 := HB0.out.trans (HS1.out.below (by omega) fun j hj => ⟨by omega, by omega⟩)
         have hown1 := HO1.out.block
         have hr1 := HR1.out
         have j5 := cell?_row (i := 0) hr1
         have j2 := cell?_row (i := 0) ((row?_congr (HS1.out.block w.heap.size (by omega) ⟨by omega, by omega⟩)).trans HR2.out)
         simp at j5 j2
         have jl : rowLoad Tryz.prog 136 ⟨b, off + k * 3, none⟩ W1.drew = .ok (.agg #[.int .i64 yi, .int .u8 (yl : Int), .int .i64 yw]) W1.drew := load_cells Tryz.isAgg136 Tryz.sizeOf136 W1.drew b _ _ rfl fun j u hu => HC.out W1.drew hbw1.drew j u hu
         have HAE := Lib.hid fun o => ((((Below.refl _ W1).drew.alloc (Nat.le_refl _) o).cell (p := ⟨w.heap.size + 1 + 1 + 1, 0, none⟩) (by show w.heap.size + 1 + 1 + 1 < W1.heap.size; omega)).trans j5)
         have HAF := Lib.hid fun o => ((((Below.refl _ W1).drew.alloc (Nat.le_refl _) o).cell (p := ⟨w.heap.size, 0, none⟩) (by show w.heap.size < W1.heap.size; omega)).trans j2)
         have HAG := Lib.hid fun o => load_cells Tryz.isAgg136 Tryz.sizeOf136 (W1.drew.alloc o) b (off + k * 3) #[.int .i64 yi, .int .u8 (yl : Int), .int .i64 yw] rfl fun j u hu => HC.out (W1.drew.alloc o) (hbw1.drew.alloc hbw1.drew.size o) j u hu
         have jfz := frozen?_row (i := 0) hr1
         have jl5 := row?_lt hr1
         refine wp_region_mix (fun W => W.cell? ⟨w.heap.size + 1 + 1 + 1, 0, none⟩ = some (.slice qa1 acc1.length cqa1) ∧ W.cell? ⟨w.heap.size, 0, none⟩ = some (.slice (some ⟨b, off, none⟩) V.length c) ∧ rowLoad Tryz.prog 136 ⟨b, off + k * 3, none⟩ W = .ok (.agg #[.int .i64 yi, .int .u8 (yl : Int), .int .i64 yw]) W) 9 [(0, true), (1, true), (2, true), (3, true), (4, true), (5, true), (6, true), (7, false), (8, false)] (by kernel_rfl) (by kernel_rfl) ⟨j5, j2, jl⟩ ?_
         repeat (apply wpPlan_still rfl rfl; (intro w hw; obtain ⟨q1, q2, q3⟩ := hw; go_simp; (try go_ints); (first | with_reducible rfl | (go_simp; with_reducible rfl))); (intro K hK; go_simp; (try go_ints); refine hK _ _ ?_; clear hK K))
         apply wpPlan_act rfl rfl
         intro K hK
         unfold Oper.wp
         go_simp
         refine hK _ _ ⟨HAE.out _, HAF.out _, HAG.out _⟩ ?_
         clear hK K
         apply wpPlan_act rfl rfl
         intro K hK
         refine wp_appO elRV 39 Tryz.underlying39 _ _ rfl W0.heap.size _ acc1 rfl (HO1.out.below (C := W1.heap.size) ((Below.refl _ W1).drew.alloc (Nat.le_refl _) _) (Nat.le_refl _)) W1.heap.size (yi, yl, yw) _ rfl (row?_alloc_at _ _ _ _ rfl) (by omega) (by simp; omega) ?_
         intro v2 w2 hO2 hb2 hg2 hl2
         have hs2 : W1.heap.size ≤ w2.heap.size := by have := hb2.size; simp at this; omega
         have hne2 : some (w.heap.size + 1 + 1 + 1) ≠ (Value.slice qa1 acc1.length cqa1).ownBlock := fun e => by have := hown1 _ e.symm; omega
         have hr2 : row? w2 (w.heap.size + 1 + 1 + 1) = some #[.slice qa1 acc1.length cqa1, .slice a2 n2 c2] := (row?_congr ((hg2.block (w.heap.size + 1 + 1 + 1) (by simp; omega) hne2).trans (Below.heap_alloc _ _ _ (by show w.heap.size + 1 + 1 + 1 < W1.heap.size; omega)))).trans hr1
         have hk2 : ∀ j, j < W0.heap.size → w2.heap[j]? = W1.heap[j]? := fun j hj => (hb2.block j hj).trans (Below.heap_alloc _ _ _ (by show j < W1.heap.size; omega))
         have hB2 : Below w.heap.size w w2 := hbw1.trans ⟨hb2.os, hb2.tape, hb2.output, hs2, fun j hj => hk2 j (by omega)⟩
         have hS2 := HS1.out.trans ⟨hb2.os, hb2.tape, hb2.output, hs2, fun j hj h => hk2 j h.1⟩
         refine hK _ _ ⟨(cell?_row (i := 0) hr2).trans rfl, (World.cell?_of_block (hk2 _ (by show w.heap.size < W0.heap.size; omega))).trans j2, load_cells Tryz.isAgg136 Tryz.sizeOf136 w2 b (off + k * 3) #[.int .i64 yi, .int .u8 (yl : Int), .int .i64 yw] rfl fun j u hu => HC.out w2 hB2 j u hu⟩ ?_
         clear hK K
         have hfz2 := frozen?_row (i := 0) hr2
         have hlt2 := row?_lt hr2
         have k92 := (cell?_row (i := 0) hr2)
         simp at k92
         obtain ⟨q2, c2', rfl⟩ := hO2.sl
         rw [List.length_append] at hO2 ⊢
         have HO2 := Lib.hid hO2
         have HR2' := Lib.hid hr2
         have HS2 := Lib.hid hS2
         clear hO2 hb2 hg2 hl2 hr2 hk2 hne2 hS2 hB2 HAE HAF HAG hbw1 j5 j2 jl jfz hr1
         refine wpPlan_nil ?_
         simp only [List.drop_succ_cons, List.drop_zero]
         go_wp2_with fail
         go_roundw
         case rel =>
           refine ⟨k + 1, by omega, by go_num, by rw [HST2.out], ⟨_, by rw [row?_setCell_same, HR2'.out]; rfl, ?_⟩, ?_⟩
           · rw [HST2.out]
             exact HO2.out.same fun j hj => heap_setCell_other _ _ j _ (by have := HO2.out.block j hj; show j ≠ w.heap.size + 1 + 1 + 1; omega)
           · exact HS2.out.trans (Same.setCell _ _ _ _ (by simp))
         case measure => simp [intOf]; omega
   · have hkn : k = V.length := by omega
     subst hkn
     have hEnd := pEnd_fold (fun p : Int × Th => ltV xi p.1) (xi, xl, xw) V []
     rw [List.nil_append] at hEnd
     have hst2 := HST.out
     unfold pTo at hst2
     rw [List.take_length] at hst2
     rw [← hst2] at hEnd
     have HEnd := Lib.hid hEnd
     have r4' := (row?_congr (HS.out.block (w.heap.size + 1 + 1) (by omega) ⟨by omega, by omega⟩)).trans HR4.out
     clear hst2 hEnd HST
     cases d with
     | true =>
       have HE2 : Hid (acc = insB (fun p : Int × Th => ltV xi p.1) (xi, xl, xw) V) := Lib.hid HEnd.out
       go_wp2_with fail
       refine ret_row (w.heap.size + 1 + 1) #[.slice qa acc.length cqa, .slice a2 n2 c2] rfl Tryz.isAgg42 Tryz.sizeOf42 rfl rfl (row?_setRow_same _ _ _ (by rw [r4']; rfl)) rfl ⟨_, rfl, ?_, below_setRow HBW.out (by omega) _⟩
       rw [← HE2.out]
       exact (HO.out.same fun g hg => setRow_other _ _ g _ (by have := hown g hg; omega)).lower (by omega)
     | false =>
       have HE2 : Hid (acc ++ [(xi, xl, xw)] = insB (fun p : Int × Th => ltV xi p.1) (xi, xl, xw) V) := Lib.hid HEnd.out
       go_wp2_with (at_builtin; refine wpList_appO elRV 39 Tryz.underlying39 rfl _ _ rfl W0.heap.size _ acc rfl (HO.out.below (C := wr.heap.size) ((Below.refl _ wr).alloc (Nat.le_refl _) _) (Nat.le_refl _)) wr.heap.size (xi, xl, xw) _ rfl (row?_alloc_at _ _ _ _ rfl) (by omega) (by simp; omega) ?_)
       intro v5 w5 hO5 hb5 hg5 hl5
       have hs5 : wr.heap.size ≤ w5.heap.size := by have := hb5.size; simp at this; omega
       have hne5 : some (w.heap.size + 1 + 1 + 1) ≠ (Value.slice qa acc.length cqa).ownBlock := fun e => by have := hown _ e.symm; omega
       have hr5 : row? w5 (w.heap.size + 1 + 1 + 1) = some #[.slice qa acc.length cqa, .slice a2 n2 c2] := (row?_congr ((hg5.block (w.heap.size + 1 + 1 + 1) (by simp; omega) hne5).trans (Below.heap_alloc _ _ _ (by first | omega | (show _ < wr.heap.size; omega))))).trans HR.out
       have hk5 : ∀ j, j < W0.heap.size → w5.heap[j]? = wr.heap[j]? := fun j hj => (hb5.block j hj).trans (Below.heap_alloc _ _ _ (by first | omega | (show _ < wr.heap.size; omega)))
       have hS5 := HS.out.trans ⟨hb5.os, hb5.tape, hb5.output, hs5, fun k hk h => hk5 k h.1⟩
       have hfz5 := frozen?_row (i := 0) hr5
       have hlt5 := row?_lt hr5
       have k5 := cell?_row (i := 0) hr5
       simp at k5
       obtain ⟨q5, c5, rfl⟩ := hO5.sl
       have HO5 := Lib.hid hO5
       have HS5 := Lib.hid hS5
       have HR5 := Lib.hid hr5
       clear hO5 hb5 hg5 hl5 hk5 hS5 hne5
       rw [List.length_append] at HO5 ⊢
       have r45 := (row?_congr (HS5.out.block (w.heap.size + 1 + 1) (by omega) ⟨by omega, by omega⟩)).trans HR4.out
       have hB5 : Below w.heap.size w w5 := HB0.out.trans (HS5.out.below (by omega) fun j hj => ⟨by omega, by omega⟩)
       have HB5 := Lib.hid hB5
       clear hB5
       go_wp2_with fail
       refine ret_row (w.heap.size + 1 + 1) #[.slice q5 (acc.length + 1) c5, .slice a2 n2 c2] rfl Tryz.isAgg42 Tryz.sizeOf42 rfl rfl (row?_setRow_same _ _ _ (by simp [go_sem, r45])) rfl ⟨_, rfl, ?_, below_setRow (HB5.out.setCell (by show w.heap.size ≤ w.heap.size + 1 + 1 + 1; omega) _) (by omega) _⟩
       rw [← HE2.out]
       exact (HO5.out.same fun g hg => (setRow_other _ _ g _ (by have := HO5.out.block g hg; omega)).trans (heap_setCell_other _ _ g _ (by have := HO5.out.block g hg; show g ≠ w.heap.size + 1 + 1 + 1; omega))).lower (by omega)
theorem rjoined_any (E : List ((Int × Int) × Th)) (x : (Int × Int) × Th) (vV vE : Value) (w : World) (hE : Rd edgA 4 w.heap.size w vE E) (hV : ∃ a n c, vV = .slice a n c) (hlen : E.length ≤ 100000) :
   Calls Tryz.prog 170 #[.agg #[vV, vE], .agg (edgA x)] w fun e w' => ∃ v', e = .returned (.agg #[vV, v']) ∧ OwnRE w.heap.size w' v' (insB (fun p : (Int × Int) × Th => ltE x.1 p.1) x E) ∧ Below w.heap.size w w' := by
 have HE := Lib.hid hE
 obtain ⟨a, c, rfl⟩ := hE.sl
 obtain ⟨a2, n2, c2, rfl⟩ := hV
 obtain ⟨⟨xu, xv⟩, xl, xw⟩ := x
 rw [show edgA ((xu, xv), xl, xw) = #[.int .i64 xu, .int .i64 xv, .int .u8 (xl : Int), .int .i64 xw] from rfl]
 clear hE
 go_enter Tryz.func170, Tryz.ntmps170
 go_wp2_with fail
 generalize hW0 : World.alloc (World.alloc (World.alloc (World.alloc w _) _) _) _ = W0
 have r2 : row? W0 w.heap.size = some #[.slice a2 n2 c2, .slice a E.length c] := by rw [← hW0]; simp [go_sem]
 have r3 : row? W0 (w.heap.size + 1) = some #[.int .i64 xu, .int .i64 xv, .int .u8 (xl : Int), .int .i64 xw] := by rw [← hW0]; simp [go_sem]
 have r4 : row? W0 (w.heap.size + 1 + 1) = some #[.slice none 0 0, .slice none 0 0] := by rw [← hW0]; simp [go_sem]
 have r5 : row? W0 (w.heap.size + 1 + 1 + 1) = some #[.slice a2 n2 c2, .slice none 0 0] := by rw [← hW0]; simp [go_sem]
 have hs0 : w.heap.size + 4 ≤ W0.heap.size := by rw [← hW0]; simp
 have hB0 : Below w.heap.size w W0 := by
   rw [← hW0]
   (repeat' (first | (with_reducible first | exact Below.refl _ _ | assumption | refine Below.alloc ?_ ?_ _ | refine Below.drew ?_ | refine Below.setCell ?_ ?_ _ | refine below_setRow ?_ ?_ _ | exact Nat.le_refl _) | omega | (simp; done) | (simp; omega) | (simp at *; omega)))
 have HR2 := Lib.hid r2
 have HR3 := Lib.hid r3
 have HR4 := Lib.hid r4
 have HR5 := Lib.hid r5
 have HB0 := Lib.hid hB0
 clear hW0 r2 r3 r4 r5 hB0
 go_loopw [6, 7] (fun d i wr => ∃ k : Nat, k ≤ E.length ∧ i = .int .i64 (k : Int) ∧ d = .bool (pTo (fun p : (Int × Int) × Th => ltE (xu, xv) p.1) ((xu, xv), xl, xw) E k).2 ∧ (∃ va, row? wr (w.heap.size + 1 + 1 + 1) = some #[.slice a2 n2 c2, va] ∧ OwnRE W0.heap.size wr va (pTo (fun p : (Int × Int) × Th => ltE (xu, xv) p.1) ((xu, xv), xl, xw) E k).1) ∧ Same (fun j => j < W0.heap.size ∧ j ≠ w.heap.size + 1 + 1 + 1) W0 wr) (fun _ i _ => E.length - (intOf i).toNat)
 case atStart => exact ⟨0, by omega, rfl, rfl, ⟨_, HR5.out, OwnR.nil _ _⟩, Same.refl _ _⟩
 case round =>
   obtain ⟨k, hk, rfl, rfl, ⟨va, hr, hO⟩, hS⟩ := hrel
   have hsz := hS.size
   have hbw : Below w.heap.size w wr := HB0.out.trans (hS.below (by omega) fun j hj => ⟨by omega, by omega⟩)
   have hll := pTo_length (fun p : (Int × Int) × Th => ltE (xu, xv) p.1) ((xu, xv), xl, xw) E k
   obtain ⟨st, hst⟩ : ∃ st, st = pTo (fun p : (Int × Int) × Th => ltE (xu, xv) p.1) ((xu, xv), xl, xw) E k := ⟨_, rfl⟩
   rw [← hst] at hO hll ⊢
   have HST := Lib.hid hst
   obtain ⟨acc, d⟩ := st
   simp only at hO hll ⊢
   have HO := Lib.hid hO
   have HS := Lib.hid hS
   have HR := Lib.hid hr
   have HBW := Lib.hid hbw
   have hown := hO.block
   have hol := hO.lt
   obtain ⟨qa, cqa, rfl⟩ := hO.sl
   have k2 := cell?_row (i := 1) ((row?_congr (hS.block _ (by omega) ⟨by omega, by omega⟩)).trans HR2.out)
   simp at k2
   clear hst hO hS hbw hr
   by_cases hlt : k < E.length
   · obtain ⟨b, off, c', y, h1, hb, hy, hc⟩ := HE.out.at hlt
     simp only [Value.slice.injEq] at h1
     obtain ⟨rfl, -, rfl⟩ := h1
     obtain ⟨⟨yu, yv⟩, yl, yw⟩ := y
     have jl : rowLoad Tryz.prog 137 ⟨b, off + k * 4, none⟩ wr = .ok (.agg #[.int .i64 yu, .int .i64 yv, .int .u8 (yl : Int), .int .i64 yw]) wr := load_cells Tryz.isAgg137 Tryz.sizeOf137 wr b _ _ rfl fun j u hu => hc wr HBW.out j u hu
     have HY := Lib.hid hy
     clear hc hy
     go_upto_region 7 with fail
     obtain ⟨WA, hWA⟩ : ∃ WA, WA = wr.alloc (.cells #[.int .i64 yu, .int .i64 yv, .int .u8 (yl : Int), .int .i64 yw] 137) := ⟨_, rfl⟩
     have hrt : row? WA wr.heap.size = some #[.int .i64 yu, .int .i64 yv, .int .u8 (yl : Int), .int .i64 yw] := by rw [hWA]; exact row?_alloc_at _ _ _ _ rfl
     have hsA : wr.heap.size < WA.heap.size := by rw [hWA]; simp
     have hkA : ∀ j, j < wr.heap.size → WA.heap[j]? = wr.heap[j]? := fun j hj => by rw [hWA]; exact Below.heap_alloc _ _ j hj
     have HOA := Lib.hid (HO.out.same fun g hg => hkA g (hol g hg))
     have HSA := Lib.hid (HS.out.trans (by rw [hWA]; exact Same.alloc _ _ _) : Same (fun j => j < W0.heap.size ∧ j ≠ w.heap.size + 1 + 1 + 1) W0 WA)
     have HRA := Lib.hid ((row?_congr (hkA _ (by omega))).trans HR.out)
     have HRT := Lib.hid hrt
     have hr3 := (row?_congr (HSA.out.block (w.heap.size + 1) (by omega) ⟨by omega, by omega⟩)).trans HR3.out
     have x0 := cell?_row (i := 0) hr3
     have x1 := cell?_row (i := 1) hr3
     have y0 := cell?_row (i := 0) hrt
     have y1 := cell?_row (i := 1) hrt
     have k5 := cell?_row (i := 1) HRA.out
     simp at x0 x1 y0 y1 k5
     have hfz := frozen?_row (i := 1) HRA.out
     have hl5 := row?_lt HRA.out
     rw [← hWA]
     clear hWA hkA k2 jl HO HS HR
     have HO := HOA
     have HS := HSA
     have HR := HRA
     clear HOA HSA HRA
     cases d with
     | true =>
       have hst1 : pTo (fun p : (Int × Int) × Th => ltE (xu, xv) p.1) ((xu, xv), xl, xw) E (k + 1) = (acc ++ [((yu, yv), yl, yw)], true) := by rw [pTo_succ HY.out, ← HST.out]; simp [pStep, ltE]; try omega
       have HST1 := Lib.hid hst1
       clear hst1 HST
       skip
       go_wp2_with (at_builtin; refine wpList_appO elRE 40 Tryz.underlying40 rfl _ _ rfl W0.heap.size _ acc rfl (HO.out.below (C := WA.heap.size) ((Below.refl _ WA).alloc (Nat.le_refl _) _) (Nat.le_refl _)) WA.heap.size ((yu, yv), yl, yw) _ rfl (row?_alloc_at _ _ _ _ rfl) (by omega) (by simp; omega) ?_)
       intro v5 w5 hO5 hb5 hg5 hl5
       have hs5 : WA.heap.size ≤ w5.heap.size := by have := hb5.size; simp at this; omega
       have hne5 : some (w.heap.size + 1 + 1 + 1) ≠ (Value.slice qa acc.length cqa).ownBlock := fun e => by have := hown _ e.symm; omega
       have hr5 : row? w5 (w.heap.size + 1 + 1 + 1) = some #[.slice a2 n2 c2, .slice qa acc.length cqa] := (row?_congr ((hg5.block (w.heap.size + 1 + 1 + 1) (by simp; omega) hne5).trans (Below.heap_alloc _ _ _ (by first | omega | (show _ < WA.heap.size; omega))))).trans HR.out
       have hk5 : ∀ j, j < W0.heap.size → w5.heap[j]? = WA.heap[j]? := fun j hj => (hb5.block j hj).trans (Below.heap_alloc _ _ _ (by first | omega | (show _ < WA.heap.size; omega)))
       have hS5 := HS.out.trans ⟨hb5.os, hb5.tape, hb5.output, hs5, fun k hk h => hk5 k h.1⟩
       have hfz5 := frozen?_row (i := 1) hr5
       have hlt5 := row?_lt hr5
       have k5 := cell?_row (i := 1) hr5
       simp at k5
       obtain ⟨q5, c5, rfl⟩ := hO5.sl
       have HO5 := Lib.hid hO5
       have HS5 := Lib.hid hS5
       have HR5 := Lib.hid hr5
       clear hO5 hb5 hg5 hl5 hk5 hS5 hne5
       rw [List.length_append] at HO5 ⊢
       clear hr5
       go_wp2_with fail
       go_roundw
       case rel =>
         refine ⟨k + 1, by omega, by go_num, by rw [HST1.out], ⟨_, by rw [row?_setCell_same, HR5.out]; rfl, ?_⟩, ?_⟩
         · rw [HST1.out]
           exact HO5.out.same fun j hj => heap_setCell_other _ _ j _ (by have := HO5.out.block j hj; show j ≠ w.heap.size + 1 + 1 + 1; omega)
         · exact HS5.out.trans (Same.setCell _ _ _ _ (by simp))
       case measure => simp [intOf]; omega
     | false =>
       by_cases q1 : xu < yu
       · have hst1 : pTo (fun p : (Int × Int) × Th => ltE (xu, xv) p.1) ((xu, xv), xl, xw) E (k + 1) = ((acc ++ [((xu, xv), xl, xw)]) ++ [((yu, yv), yl, yw)], true) := by rw [pTo_succ HY.out, ← HST.out]; simp [pStep, ltE]; omega
         have HST1 := Lib.hid hst1
         clear hst1 HST
         skip
         go_wp2_with (at_builtin; refine wpList_appO elRE 40 Tryz.underlying40 rfl _ _ rfl W0.heap.size _ acc rfl (HO.out.below (C := WA.heap.size) ((Below.refl _ WA).alloc (Nat.le_refl _) _) (Nat.le_refl _)) WA.heap.size ((xu, xv), xl, xw) _ rfl (row?_alloc_at _ _ _ _ rfl) (by omega) (by simp; omega) ?_)
         intro v5 w5 hO5 hb5 hg5 hl5
         have hqt : (Value.slice qa acc.length cqa).ownBlock ≠ some wr.heap.size := fun e => by have := hol _ e; omega
         have hrt5 : row? w5 wr.heap.size = some #[.int .i64 yu, .int .i64 yv, .int .u8 (yl : Int), .int .i64 yw] := (row?_congr ((hg5.block wr.heap.size (by simp; omega) fun e => hqt e.symm).trans (Below.heap_alloc _ _ _ hsA))).trans HRT.out
         have HRT5 := Lib.hid hrt5
         clear hrt5 hqt
         revert hO5 hb5 hg5 hl5
         intro hO5 hb5 hg5 hl5
         have hs5 : WA.heap.size ≤ w5.heap.size := by have := hb5.size; simp at this; omega
         have hne5 : some (w.heap.size + 1 + 1 + 1) ≠ (Value.slice qa acc.length cqa).ownBlock := fun e => by have := hown _ e.symm; omega
         have hr5 : row? w5 (w.heap.size + 1 + 1 + 1) = some #[.slice a2 n2 c2, .slice qa acc.length cqa] := (row?_congr ((hg5.block (w.heap.size + 1 + 1 + 1) (by simp; omega) hne5).trans (Below.heap_alloc _ _ _ (by first | omega | (show _ < WA.heap.size; omega))))).trans HR.out
         have hk5 : ∀ j, j < W0.heap.size → w5.heap[j]? = WA.heap[j]? := fun j hj => (hb5.block j hj).trans (Below.heap_alloc _ _ _ (by first | omega | (show _ < WA.heap.size; omega)))
         have hS5 := HS.out.trans ⟨hb5.os, hb5.tape, hb5.output, hs5, fun k hk h => hk5 k h.1⟩
         have hfz5 := frozen?_row (i := 1) hr5
         have hlt5 := row?_lt hr5
         have k5 := cell?_row (i := 1) hr5
         simp at k5
         obtain ⟨q5, c5, rfl⟩ := hO5.sl
         have HO5 := Lib.hid hO5
         have HS5 := Lib.hid hS5
         have HR5 := Lib.hid hr5
         clear hO5 hb5 hg5 hl5 hk5 hS5 hne5
         rw [List.length_append] at HO5 ⊢
         clear hr5
         go_upto_region 10 with fail
         obtain ⟨W1, hW1⟩ : ∃ W1, W1 = w5.setCell ⟨w.heap.size + 1 + 1 + 1, 1, none⟩ (.slice q5 (acc.length + 1) c5) := ⟨_, rfl⟩
         have hO1 : OwnRE W0.heap.size W1 (.slice q5 (acc.length + 1) c5) (acc ++ [((xu, xv), xl, xw)]) := by rw [hW1]; exact HO5.out.same fun g hg => heap_setCell_other _ _ g _ (by have := HO5.out.block g hg; show g ≠ w.heap.size + 1 + 1 + 1; omega)
         have hr1 : row? W1 (w.heap.size + 1 + 1 + 1) = some #[.slice a2 n2 c2, .slice q5 (acc.length + 1) c5] := by rw [hW1, row?_setCell_same, HR5.out]; rfl
         have hS1 : Same (fun j => j < W0.heap.size ∧ j ≠ w.heap.size + 1 + 1 + 1) W0 W1 := by rw [hW1]; exact HS5.out.trans (Same.setCell _ _ _ _ (by simp))
         have hrt1 : row? W1 wr.heap.size = some #[.int .i64 yu, .int .i64 yv, .int .u8 (yl : Int), .int .i64 yw] := by rw [hW1]; exact (row?_congr (heap_setCell_other _ _ _ _ (by show wr.heap.size ≠ w.heap.size + 1 + 1 + 1; omega))).trans HRT5.out
         have hsA1 : WA.heap.size ≤ W1.heap.size := by rw [hW1]; simpa using hs5
         rw [← hW1]
         clear hW1 HO5 HR5 HS5 hfz5 hlt5 k5 HRT5 hs5 HO HR HS hfz hl5 hown hol
         have hlq : acc.length + 1 = (acc ++ [((xu, xv), xl, xw)]).length := by simp
         obtain ⟨acc1, ha1⟩ : ∃ acc1, acc1 = acc ++ [((xu, xv), xl, xw)] := ⟨_, rfl⟩
         rw [hlq] at hO1 hr1
         rw [← ha1] at hO1 hr1 HST1 hlq
         have hll1 : acc1.length ≤ k + 2 := by omega
         clear hlq hll ha1
         have HO1 := Lib.hid hO1
         have HR1 := Lib.hid hr1
         have HS1 := Lib.hid hS1
         have hown1 := hO1.block
         have jl5 := row?_lt hr1
         have j5 := cell?_row (i := 1) hr1
         simp at j5
         have jfz := frozen?_row (i := 1) hr1
         clear hO1 hr1 hS1
         go_wp2_with (at_builtin; refine wpList_appO elRE 40 Tryz.underlying40 rfl _ _ rfl W0.heap.size _ acc1 rfl (HO1.out.below (C := W1.heap.size) ((Below.refl _ W1).alloc (Nat.le_refl _) _) (Nat.le_refl _)) W1.heap.size ((yu, yv), yl, yw) _ rfl (row?_alloc_at _ _ _ _ rfl) (by omega) (by simp; omega) ?_)
         intro v6 w6 hO6 hb6 hg6 hl6
         have hs6 : W1.heap.size ≤ w6.heap.size := by have := hb6.size; simp at this; omega
         have hne6 : some (w.heap.size + 1 + 1 + 1) ≠ (Value.slice q5 acc1.length c5).ownBlock := fun e => by have := hown1 _ e.symm; omega
         have hr6 : row? w6 (w.heap.size + 1 + 1 + 1) = some #[.slice a2 n2 c2, .slice q5 acc1.length c5] := (row?_congr ((hg6.block (w.heap.size + 1 + 1 + 1) (by simp; omega) hne6).trans (Below.heap_alloc _ _ _ (by omega)))).trans HR1.out
         have hk6 : ∀ j, j < W0.heap.size → w6.heap[j]? = W1.heap[j]? := fun j hj => (hb6.block j hj).trans (Below.heap_alloc _ _ _ (by omega))
         have hS6 := HS1.out.trans ⟨hb6.os, hb6.tape, hb6.output, hs6, fun k hk h => hk6 k h.1⟩
         have hfz6 := frozen?_row (i := 1) hr6
         have hlt6 := row?_lt hr6
         have k6 := cell?_row (i := 1) hr6
         simp at k6
         obtain ⟨q6, c6, rfl⟩ := hO6.sl
         have HO6 := Lib.hid hO6
         have HS6 := Lib.hid hS6
         have HR6 := Lib.hid hr6
         clear hO6 hb6 hg6 hl6 hk6 hS6 hne6 hr6
         rw [List.length_append] at HO6 ⊢
         go_wp2_with fail
         go_roundw
         case rel =>
           refine ⟨k + 1, by omega, by go_num, by rw [HST1.out], ⟨_, by rw [row?_setCell_same, HR6.out]; rfl, ?_⟩, ?_⟩
           · rw [HST1.out]
             exact HO6.out.same fun j hj => heap_setCell_other _ _ j _ (by have := HO6.out.block j hj; show j ≠ w.heap.size + 1 + 1 + 1; omega)
           · exact HS6.out.trans (Same.setCell _ _ _ _ (by simp))
         case measure => simp [intOf]; omega
       · by_cases q2 : yu = xu
         · by_cases q3 : xv < yv
           · have hst1 : pTo (fun p : (Int × Int) × Th => ltE (xu, xv) p.1) ((xu, xv), xl, xw) E (k + 1) = ((acc ++ [((xu, xv), xl, xw)]) ++ [((yu, yv), yl, yw)], true) := by rw [pTo_succ HY.out, ← HST.out]; simp [pStep, ltE]; omega
             have HST1 := Lib.hid hst1
             clear hst1 HST
             have b2 : (yu == xu) = true := (by simpa using q2); clear q2
             go_wp2_with (at_builtin; refine wpList_appO elRE 40 Tryz.underlying40 rfl _ _ rfl W0.heap.size _ acc rfl (HO.out.below (C := WA.heap.size) ((Below.refl _ WA).alloc (Nat.le_refl _) _) (Nat.le_refl _)) WA.heap.size ((xu, xv), xl, xw) _ rfl (row?_alloc_at _ _ _ _ rfl) (by omega) (by simp; omega) ?_)
             intro v5 w5 hO5 hb5 hg5 hl5
             have hqt : (Value.slice qa acc.length cqa).ownBlock ≠ some wr.heap.size := fun e => by have := hol _ e; omega
             have hrt5 : row? w5 wr.heap.size = some #[.int .i64 yu, .int .i64 yv, .int .u8 (yl : Int), .int .i64 yw] := (row?_congr ((hg5.block wr.heap.size (by simp; omega) fun e => hqt e.symm).trans (Below.heap_alloc _ _ _ hsA))).trans HRT.out
             have HRT5 := Lib.hid hrt5
             clear hrt5 hqt
             revert hO5 hb5 hg5 hl5
             intro hO5 hb5 hg5 hl5
             have hs5 : WA.heap.size ≤ w5.heap.size := by have := hb5.size; simp at this; omega
             have hne5 : some (w.heap.size + 1 + 1 + 1) ≠ (Value.slice qa acc.length cqa).ownBlock := fun e => by have := hown _ e.symm; omega
             have hr5 : row? w5 (w.heap.size + 1 + 1 + 1) = some #[.slice a2 n2 c2, .slice qa acc.length cqa] := (row?_congr ((hg5.block (w.heap.size + 1 + 1 + 1) (by simp; omega) hne5).trans (Below.heap_alloc _ _ _ (by first | omega | (show _ < WA.heap.size; omega))))).trans HR.out
             have hk5 : ∀ j, j < W0.heap.size → w5.heap[j]? = WA.heap[j]? := fun j hj => (hb5.block j hj).trans (Below.heap_alloc _ _ _ (by first | omega | (show _ < WA.heap.size; omega)))
             have hS5 := HS.out.trans ⟨hb5.os, hb5.tape, hb5.output, hs5, fun k hk h => hk5 k h.1⟩
             have hfz5 := frozen?_row (i := 1) hr5
             have hlt5 := row?_lt hr5
             have k5 := cell?_row (i := 1) hr5
             simp at k5
             obtain ⟨q5, c5, rfl⟩ := hO5.sl
             have HO5 := Lib.hid hO5
             have HS5 := Lib.hid hS5
             have HR5 := Lib.hid hr5
             clear hO5 hb5 hg5 hl5 hk5 hS5 hne5
             rw [List.length_append] at HO5 ⊢
             clear hr5
             go_upto_region 10 with fail
             obtain ⟨W1, hW1⟩ : ∃ W1, W1 = w5.setCell ⟨w.heap.size + 1 + 1 + 1, 1, none⟩ (.slice q5 (acc.length + 1) c5) := ⟨_, rfl⟩
             have hO1 : OwnRE W0.heap.size W1 (.slice q5 (acc.length + 1) c5) (acc ++ [((xu, xv), xl, xw)]) := by rw [hW1]; exact HO5.out.same fun g hg => heap_setCell_other _ _ g _ (by have := HO5.out.block g hg; show g ≠ w.heap.size + 1 + 1 + 1; omega)
             have hr1 : row? W1 (w.heap.size + 1 + 1 + 1) = some #[.slice a2 n2 c2, .slice q5 (acc.length + 1) c5] := by rw [hW1, row?_setCell_same, HR5.out]; rfl
             have hS1 : Same (fun j => j < W0.heap.size ∧ j ≠ w.heap.size + 1 + 1 + 1) W0 W1 := by rw [hW1]; exact HS5.out.trans (Same.setCell _ _ _ _ (by simp))
             have hrt1 : row? W1 wr.heap.size = some #[.int .i64 yu, .int .i64 yv, .int .u8 (yl : Int), .int .i64 yw] := by rw [hW1]; exact (row?_congr (heap_setCell_other _ _ _ _ (by show wr.heap.size ≠ w.heap.size + 1 + 1 + 1; omega))).trans HRT5.out
             have hsA1 : WA.heap.size ≤ W1.heap.size := by rw [hW1]; simpa using hs5
             rw [← hW1]
             clear hW1 HO5 HR5 HS5 hfz5 hlt5 k5 HRT5 hs5 HO HR HS hfz hl5 hown hol
             have hlq : acc.length + 1 = (acc ++ [((xu, xv), xl, xw)]).length := by simp
             obtain ⟨acc1, ha1⟩ : ∃ acc1, acc1 = acc ++ [((xu, xv), xl, xw)] := ⟨_, rfl⟩
             rw [hlq] at hO1 hr1
             rw [← ha1] at hO1 hr1 HST1 hlq
             have hll1 : acc1.length ≤ k + 2 := by omega
             clear hlq hll ha1
             have HO1 := Lib.hid hO1
             have HR1 := Lib.hid hr1
             have HS1 := Lib.hid hS1
             have hown1 := hO1.block
             have jl5 := row?_lt hr1
             have j5 := cell?_row (i := 1) hr1
             simp at j5
             have jfz := frozen?_row (i := 1) hr1
             clear hO1 hr1 hS1
             go_wp2_with (at_builtin; refine wpList_appO elRE 40 Tryz.underlying40 rfl _ _ rfl W0.heap.size _ acc1 rfl (HO1.out.below (C := W1.heap.size) ((Below.refl _ W1).alloc (Nat.le_refl _) _) (Nat.le_refl _)) W1.heap.size ((yu, yv), yl, yw) _ rfl (row?_alloc_at _ _ _ _ rfl) (by omega) (by simp; omega) ?_)
             intro v6 w6 hO6 hb6 hg6 hl6
             have hs6 : W1.heap.size ≤ w6.heap.size := by have := hb6.size; simp at this; omega
             have hne6 : some (w.heap.size + 1 + 1 + 1) ≠ (Value.slice q5 acc1.length c5).ownBlock := fun e => by have := hown1 _ e.symm; omega
             have hr6 : row? w6 (w.heap.size + 1 + 1 + 1) = some #[.slice a2 n2 c2, .slice q5 acc1.length c5] := (row?_congr ((hg6.block (w.heap.size + 1 + 1 + 1) (by simp; omega) hne6).trans (Below.heap_alloc _ _ _ (by omega)))).trans HR1.out
             have hk6 : ∀ j, j < W0.heap.size → w6.heap[j]? = W1.heap[j]? := fun j hj => (hb6.block j hj).trans (Below.heap_alloc _ _ _ (by omega))
             have hS6 := HS1.out.trans ⟨hb6.os, hb6.tape, hb6.output, hs6, fun k hk h => hk6 k h.1⟩
             have hfz6 := frozen?_row (i := 1) hr6
             have hlt6 := row?_lt hr6
             have k6 := cell?_row (i := 1) hr6
             simp at k6
             obtain ⟨q6, c6, rfl⟩ := hO6.sl
             have HO6 := Lib.hid hO6
             have HS6 := Lib.hid hS6
             have HR6 := Lib.hid hr6
             clear hO6 hb6 hg6 hl6 hk6 hS6 hne6 hr6
             rw [List.length_append] at HO6 ⊢
             go_wp2_with fail
             go_roundw
             case rel =>
               refine ⟨k + 1, by omega, by go_num, by rw [HST1.out], ⟨_, by rw [row?_setCell_same, HR6.out]; rfl, ?_⟩, ?_⟩
               · rw [HST1.out]
                 exact HO6.out.same fun j hj => heap_setCell_other _ _ j _ (by have := HO6.out.block j hj; show j ≠ w.heap.size + 1 + 1 + 1; omega)
               · exact HS6.out.trans (Same.setCell _ _ _ _ (by simp))
             case measure => simp [intOf]; omega
           · have hst1 : pTo (fun p : (Int × Int) × Th => ltE (xu, xv) p.1) ((xu, xv), xl, xw) E (k + 1) = (acc ++ [((yu, yv), yl, yw)], false) := by rw [pTo_succ HY.out, ← HST.out]; simp [pStep, ltE]; try omega
             have HST1 := Lib.hid hst1
             clear hst1 HST
             have b2 : (yu == xu) = true := (by simpa using q2); clear q2
             go_wp2_with (at_builtin; refine wpList_appO elRE 40 Tryz.underlying40 rfl _ _ rfl W0.heap.size _ acc rfl (HO.out.below (C := WA.heap.size) ((Below.refl _ WA).alloc (Nat.le_refl _) _) (Nat.le_refl _)) WA.heap.size ((yu, yv), yl, yw) _ rfl (row?_alloc_at _ _ _ _ rfl) (by omega) (by simp; omega) ?_)
             intro v5 w5 hO5 hb5 hg5 hl5
             have hs5 : WA.heap.size ≤ w5.heap.size := by have := hb5.size; simp at this; omega
             have hne5 : some (w.heap.size + 1 + 1 + 1) ≠ (Value.slice qa acc.length cqa).ownBlock := fun e => by have := hown _ e.symm; omega
             have hr5 : row? w5 (w.heap.size + 1 + 1 + 1) = some #[.slice a2 n2 c2, .slice qa acc.length cqa] := (row?_congr ((hg5.block (w.heap.size + 1 + 1 + 1) (by simp; omega) hne5).trans (Below.heap_alloc _ _ _ (by first | omega | (show _ < WA.heap.size; omega))))).trans HR.out
             have hk5 : ∀ j, j < W0.heap.size → w5.heap[j]? = WA.heap[j]? := fun j hj => (hb5.block j hj).trans (Below.heap_alloc _ _ _ (by first | omega | (show _ < WA.heap.size; omega)))
             have hS5 := HS.out.trans ⟨hb5.os, hb5.tape, hb5.output, hs5, fun k hk h => hk5 k h.1⟩
             have hfz5 := frozen?_row (i := 1) hr5
             have hlt5 := row?_lt hr5
             have k5 := cell?_row (i := 1) hr5
             simp at k5
             obtain ⟨q5, c5, rfl⟩ := hO5.sl
             have HO5 := Lib.hid hO5
             have HS5 := Lib.hid hS5
             have HR5 := Lib.hid hr5
             clear hO5 hb5 hg5 hl5 hk5 hS5 hne5
             rw [List.length_append] at HO5 ⊢
             clear hr5
             go_wp2_with fail
             go_roundw
             case rel =>
               refine ⟨k + 1, by omega, by go_num, by rw [HST1.out], ⟨_, by rw [row?_setCell_same, HR5.out]; rfl, ?_⟩, ?_⟩
               · rw [HST1.out]
                 exact HO5.out.same fun j hj => heap_setCell_other _ _ j _ (by have := HO5.out.block j hj; show j ≠ w.heap.size + 1 + 1 + 1; omega)
               · exact HS5.out.trans (Same.setCell _ _ _ _ (by simp))
             case measure => simp [intOf]; omega
         · have hst1 : pTo (fun p : (Int × Int) × Th => ltE (xu, xv) p.1) ((xu, xv), xl, xw) E (k + 1) = (acc ++ [((yu, yv), yl, yw)], false) := by rw [pTo_succ HY.out, ← HST.out]; simp [pStep, ltE]; try omega
           have HST1 := Lib.hid hst1
           clear hst1 HST
           have b2 : (yu == xu) = false := (by simpa using q2); clear q2
           go_wp2_with (at_builtin; refine wpList_appO elRE 40 Tryz.underlying40 rfl _ _ rfl W0.heap.size _ acc rfl (HO.out.below (C := WA.heap.size) ((Below.refl _ WA).alloc (Nat.le_refl _) _) (Nat.le_refl _)) WA.heap.size ((yu, yv), yl, yw) _ rfl (row?_alloc_at _ _ _ _ rfl) (by omega) (by simp; omega) ?_)
           intro v5 w5 hO5 hb5 hg5 hl5
           have hs5 : WA.heap.size ≤ w5.heap.size := by have := hb5.size; simp at this; omega
           have hne5 : some (w.heap.size + 1 + 1 + 1) ≠ (Value.slice qa acc.length cqa).ownBlock := fun e => by have := hown _ e.symm; omega
           have hr5 : row? w5 (w.heap.size + 1 + 1 + 1) = some #[.slice a2 n2 c2, .slice qa acc.length cqa] := (row?_congr ((hg5.block (w.heap.size + 1 + 1 + 1) (by simp; omega) hne5).trans (Below.heap_alloc _ _ _ (by first | omega | (show _ < WA.heap.size; omega))))).trans HR.out
           have hk5 : ∀ j, j < W0.heap.size → w5.heap[j]? = WA.heap[j]? := fun j hj => (hb5.block j hj).trans (Below.heap_alloc _ _ _ (by first | omega | (show _ < WA.heap.size; omega)))
           have hS5 := HS.out.trans ⟨hb5.os, hb5.tape, hb5.output, hs5, fun k hk h => hk5 k h.1⟩
           have hfz5 := frozen?_row (i := 1) hr5
           have hlt5 := row?_lt hr5
           have k5 := cell?_row (i := 1) hr5
           simp at k5
           obtain ⟨q5, c5, rfl⟩ := hO5.sl
           have HO5 := Lib.hid hO5
           have HS5 := Lib.hid hS5
           have HR5 := Lib.hid hr5
           clear hO5 hb5 hg5 hl5 hk5 hS5 hne5
           rw [List.length_append] at HO5 ⊢
           clear hr5
           go_wp2_with fail
           go_roundw
           case rel =>
             refine ⟨k + 1, by omega, by go_num, by rw [HST1.out], ⟨_, by rw [row?_setCell_same, HR5.out]; rfl, ?_⟩, ?_⟩
             · rw [HST1.out]
               exact HO5.out.same fun j hj => heap_setCell_other _ _ j _ (by have := HO5.out.block j hj; show j ≠ w.heap.size + 1 + 1 + 1; omega)
             · exact HS5.out.trans (Same.setCell _ _ _ _ (by simp))
           case measure => simp [intOf]; omega
   · have hkn : k = E.length := by omega
     subst hkn
     have hEnd := pEnd_fold (fun p : (Int × Int) × Th => ltE (xu, xv) p.1) ((xu, xv), xl, xw) E []
     rw [List.nil_append] at hEnd
     have hst2 := HST.out
     unfold pTo at hst2
     rw [List.take_length] at hst2
     rw [← hst2] at hEnd
     have HEnd := Lib.hid hEnd
     have r4' := (row?_congr (HS.out.block (w.heap.size + 1 + 1) (by omega) ⟨by omega, by omega⟩)).trans HR4.out
     have hr := HR.out
     have hr3 := (row?_congr (HS.out.block (w.heap.size + 1) (by omega) ⟨by omega, by omega⟩)).trans HR3.out
     have k5 := cell?_row (i := 1) hr
     simp at k5
     have hfz := frozen?_row (i := 1) hr
     have hl5 := row?_lt hr
     clear hst2 hEnd HST
     cases d with
     | true =>
       have HE2 : Hid (acc = insB (fun p : (Int × Int) × Th => ltE (xu, xv) p.1) ((xu, xv), xl, xw) E) := Lib.hid HEnd.out
       go_wp2_with fail
       refine ret_row (w.heap.size + 1 + 1) #[.slice a2 n2 c2, .slice qa acc.length cqa] rfl Tryz.isAgg42 Tryz.sizeOf42 rfl rfl (row?_setRow_same _ _ _ (by rw [r4']; rfl)) rfl ⟨_, rfl, ?_, below_setRow HBW.out (by omega) _⟩
       rw [← HE2.out]
       exact (HO.out.same fun g hg => setRow_other _ _ g _ (by have := hown g hg; omega)).lower (by omega)
     | false =>
       have HE2 : Hid (acc ++ [((xu, xv), xl, xw)] = insB (fun p : (Int × Int) × Th => ltE (xu, xv) p.1) ((xu, xv), xl, xw) E) := Lib.hid HEnd.out
       go_wp2_with (at_builtin; refine wpList_appO elRE 40 Tryz.underlying40 rfl _ _ rfl W0.heap.size _ acc rfl (HO.out.below (C := wr.heap.size) ((Below.refl _ wr).alloc (Nat.le_refl _) _) (Nat.le_refl _)) wr.heap.size ((xu, xv), xl, xw) _ rfl (row?_alloc_at _ _ _ _ rfl) (by omega) (by simp; omega) ?_)
       intro v5 w5 hO5 hb5 hg5 hl5
       have hs5 : wr.heap.size ≤ w5.heap.size := by have := hb5.size; simp at this; omega
       have hne5 : some (w.heap.size + 1 + 1 + 1) ≠ (Value.slice qa acc.length cqa).ownBlock := fun e => by have := hown _ e.symm; omega
       have hr5 : row? w5 (w.heap.size + 1 + 1 + 1) = some #[.slice a2 n2 c2, .slice qa acc.length cqa] := (row?_congr ((hg5.block (w.heap.size + 1 + 1 + 1) (by simp; omega) hne5).trans (Below.heap_alloc _ _ _ (by first | omega | (show _ < wr.heap.size; omega))))).trans HR.out
       have hk5 : ∀ j, j < W0.heap.size → w5.heap[j]? = wr.heap[j]? := fun j hj => (hb5.block j hj).trans (Below.heap_alloc _ _ _ (by first | omega | (show _ < wr.heap.size; omega)))
       have hS5 := HS.out.trans ⟨hb5.os, hb5.tape, hb5.output, hs5, fun k hk h => hk5 k h.1⟩
       have hfz5 := frozen?_row (i := 1) hr5
       have hlt5 := row?_lt hr5
       have k5 := cell?_row (i := 1) hr5
       simp at k5
       obtain ⟨q5, c5, rfl⟩ := hO5.sl
       have HO5 := Lib.hid hO5
       have HS5 := Lib.hid hS5
       have HR5 := Lib.hid hr5
       clear hO5 hb5 hg5 hl5 hk5 hS5 hne5
       rw [List.length_append] at HO5 ⊢
       have r45 := (row?_congr (HS5.out.block (w.heap.size + 1 + 1) (by omega) ⟨by omega, by omega⟩)).trans HR4.out
       have hB5 : Below w.heap.size w w5 := HB0.out.trans (HS5.out.below (by omega) fun j hj => ⟨by omega, by omega⟩)
       have HB5 := Lib.hid hB5
       clear hB5
       go_wp2_with fail
       refine ret_row (w.heap.size + 1 + 1) #[.slice a2 n2 c2, .slice q5 (acc.length + 1) c5] rfl Tryz.isAgg42 Tryz.sizeOf42 rfl rfl (row?_setRow_same _ _ _ (by simp [go_sem, r45])) rfl ⟨_, rfl, ?_, below_setRow (HB5.out.setCell (by show w.heap.size ≤ w.heap.size + 1 + 1 + 1; omega) _) (by omega) _⟩
       rw [← HE2.out]
       exact (HO5.out.same fun g hg => (setRow_other _ _ g _ (by have := HO5.out.block g hg; omega)).trans (heap_setCell_other _ _ g _ (by have := HO5.out.block g hg; show g ≠ w.heap.size + 1 + 1 + 1; omega))).lower (by omega)
end Go.Proofs.YtglnhnjmelilmaaGreatDoor
