/- Walk: the reference's reading of a line, an edge's line. -/
import Derived.Test.YtlmccbepllgbfaaGreatDoorDIJ
set_option linter.all false
namespace Go.Proofs.YtlmccbepllgbfaaGreatDoor
open Go Go.RowKit Go.Pal Go.Shelf
attribute [local go_sem] Oper.semAt_some
set_option maxRecDepth 10000 in
set_option maxHeartbeats 8000000 in
theorem rlineE_any (G : Gr) (hG : G.Ok) (s : List UInt8) (hs : s.length ≤ 100000) (vV vE : Value) (w : World) (hg : RefG w vV vE G) (hvx : readW s vertexW 3 = none) :
   Calls Tryz.prog 61 #[.agg #[vV, vE], .string ⟨s.toArray⟩] w fun e w' => ∃ vV' vE', e = .returned (.tuple #[.agg #[vV', vE'], .int .i64 ((lineG G s).2 : Nat)]) ∧ RefG w' vV' vE' (lineG G s).1 ∧ Below w.heap.size w w' := by
 have HG := Lib.hid hG
 have HRG := Lib.hid hg
 have hlV := hG.len
 have hlE := hG.most
 obtain ⟨aV, cV, rfl⟩ := hg.1.sl
 obtain ⟨aE, cE, rfl⟩ := hg.2.sl
 obtain ⟨LV, hLV⟩ : ∃ n, n = G.V.length := ⟨_, rfl⟩
 obtain ⟨LE, hLE⟩ : ∃ n, n = G.E.length := ⟨_, rfl⟩
 rw [← hLV] at hlV
 rw [← hLE] at hlE
 rw [← hLV, ← hLE] at HRG
 rw [← hLV, ← hLE]
 have HLV := Lib.hid hLV
 have HLE := Lib.hid hLE
 obtain ⟨X, hX⟩ : ∃ X, X = lineG G s := ⟨_, rfl⟩
 rw [← hX]
 have HX := Lib.hid hX
 clear hG hg hX hLV hLE
 go_enter Tryz.func61, Tryz.ntmps61
 go_wp2_with fail
 generalize hW0 : World.alloc (World.alloc w _) _ = W0
 have q0 : row? W0 w.heap.size = some #[.slice aV LV cV, .slice aE LE cE] := by rw [← hW0]; simp [go_sem]
 have q1 : row? W0 (w.heap.size + 1) = some #[.slice none 0 0, .slice none 0 0] := by rw [← hW0]; simp [go_sem]
 have HB0 := Lib.hid (show Below w.heap.size w W0 from by rw [← hW0]; exact ((Below.refl _ w).alloc (Nat.le_refl _) _).alloc (by simp) _)
 have hsz : W0.heap.size = w.heap.size + 2 := by rw [← hW0]; simp
 have HSZ := Lib.hid hsz
 have HR := Lib.hid fun W (hW : Below W0.heap.size W0 W) => show row? W w.heap.size = some #[.slice aV LV cV, .slice aE LE cE] ∧ row? W (w.heap.size + 1) = some #[.slice none 0 0, .slice none 0 0] from
   ⟨(row?_below hW (by omega)).trans q0, (row?_below hW (by omega)).trans q1⟩
 have hsw : w.heap.size + 1 < W0.heap.size := by omega
 clear hW0 q0 q1 hsz
 refine (rreadw_any s vertexW 3 (by decide) hs W0).mono ?_
 rintro e w1 ⟨hres, hb1⟩
 have HBW := Lib.hid hb1
 rcases hres with ⟨l, v, hl, rfl, hO⟩ | ⟨hl, rfl⟩
 · rw [hvx] at hl; cases hl
 · have HV0 := Lib.hid hl
   have HB1' := Lib.hid (HB0.out.trans (hb1.mono HB0.out.size))
   have HR' := Lib.hid fun W (hW : Below w1.heap.size w1 W) => HR.out W (hb1.trans (hW.mono hb1.size))
   have hsw' : w.heap.size + 1 < w1.heap.size := Nat.lt_of_lt_of_le hsw hb1.size
   clear hl hb1 HR hsw HB0 HBW HSZ
   go_wp2_with fail
   refine (rreadw_any s edgeW 4 (by decide) hs w1).mono ?_
   rintro e w2 ⟨hres, hb2⟩
   have HB1 := Lib.hid (HB1'.out.trans (hb2.mono HB1'.out.size))
   have hsw1 : w.heap.size + 1 < w2.heap.size := Nat.lt_of_lt_of_le hsw' hb2.size
   rcases hres with ⟨l, v, hl, rfl, hO⟩ | ⟨hl, rfl⟩
   · obtain ⟨a, b, c, t, rfl⟩ : ∃ a b c t, l = [a, b, c, t] := by
       match l, (readW_some hl).2 with
       | [a, b, c, t], _ => exact ⟨a, b, c, t, rfl⟩
     obtain ⟨q, cap, rfl⟩ := hO.sl
     obtain ⟨g, rfl, hg1, hg2, hk0⟩ := hO.cell (j := 0) rfl
     obtain ⟨g', e1, -, -, hk1⟩ := hO.cell (j := 1) rfl
     cases e1
     obtain ⟨g', e1, -, -, hk2⟩ := hO.cell (j := 2) rfl
     cases e1
     obtain ⟨g', e1, -, -, hk3⟩ := hO.cell (j := 3) rfl
     cases e1
     have HX1 := Lib.hid (HX.out.trans (lineG_e HV0.out hl))
     have HFF := Lib.hid fun W (hW : Below w2.heap.size w2 W) => show row? W w.heap.size = some #[.slice aV LV cV, .slice aE LE cE] ∧ row? W (w.heap.size + 1) = some #[.slice none 0 0, .slice none 0 0] ∧ W.cell? ⟨w.heap.size, 0, none⟩ = some (.slice aV LV cV) ∧ W.cell? ⟨w.heap.size, 1, none⟩ = some (.slice aE LE cE) ∧ W.cell? ⟨g, 0, none⟩ = some (.int .i64 a) ∧ W.cell? ⟨g, 1, none⟩ = some (.int .i64 b) ∧ W.cell? ⟨g, 2, none⟩ = some (.int .i64 c) ∧ W.cell? ⟨g, 3, none⟩ = some (.int .i64 t) from by
       obtain ⟨r0, r1⟩ := HR'.out W (hb2.trans (hW.mono hb2.size))
       exact ⟨r0, r1, (cell?_row (i := 0) r0).trans rfl, (cell?_row (i := 1) r0).trans rfl, (hW.cell (p := ⟨g, 0, none⟩) hg2).trans hk0, (hW.cell (p := ⟨g, 1, none⟩) hg2).trans hk1, (hW.cell (p := ⟨g, 2, none⟩) hg2).trans hk2, (hW.cell (p := ⟨g, 3, none⟩) hg2).trans hk3⟩
     have HBW := Lib.hid (Below.refl w2.heap.size w2)
     clear hl hO hb2 HR' hsw' HB1' hg1
     clear w1
     rename World => w1
     cases h1 : idB a with
     | false =>
       have HE := Lib.hid (show X = (G, 2) from by rw [HX1.out]; unfold eStep; simp [h1])
       obtain ⟨r0, r1, -⟩ := HFF.out _ HBW.out
       go_wp2_with (refine (sid_any a _).mono ?_; rintro e w0 ⟨rfl, hw0⟩; rw [h1, hw0]; clear hw0)
       obtain ⟨r0, r1, -⟩ := HFF.out _ HBW.out
       have HB := Lib.hid (HB1.out.trans (HBW.out.mono HB1.out.size))
       go_wp2_with fail
       refine ret_c2 (w.heap.size + 1) #[.slice _ LV cV, .slice _ LE cE] rfl Tryz.isAgg42 Tryz.sizeOf42 rfl rfl (row?_setRow_same _ _ _ (by rw [r1]; rfl)) rfl ⟨.slice _ LV cV, .slice _ LE cE, by rw [HE.out]; rfl, by rw [HE.out]; exact RefG.below HRG.out (below_setRow HB.out (by omega) _), below_setRow HB.out (by omega) _⟩
     | true =>
     cases h2 : idB b with
     | false =>
       have HE := Lib.hid (show X = (G, 2) from by rw [HX1.out]; unfold eStep; simp [h1, h2])
       obtain ⟨r0, r1, -⟩ := HFF.out _ HBW.out
       go_wp2_with (first | (refine (sid_any a _).mono ?_; rintro e w0 ⟨rfl, hw0⟩; rw [h1, hw0]; clear hw0) | (refine (sid_any b _).mono ?_; rintro e w0 ⟨rfl, hw0⟩; rw [h2, hw0]; clear hw0))
       obtain ⟨r0, r1, -⟩ := HFF.out _ HBW.out
       have HB := Lib.hid (HB1.out.trans (HBW.out.mono HB1.out.size))
       go_wp2_with fail
       refine ret_c2 (w.heap.size + 1) #[.slice _ LV cV, .slice _ LE cE] rfl Tryz.isAgg42 Tryz.sizeOf42 rfl rfl (row?_setRow_same _ _ _ (by rw [r1]; rfl)) rfl ⟨.slice _ LV cV, .slice _ LE cE, by rw [HE.out]; rfl, by rw [HE.out]; exact RefG.below HRG.out (below_setRow HB.out (by omega) _), below_setRow HB.out (by omega) _⟩
     | true =>
     cases h3 : labB c with
     | false =>
       have HE := Lib.hid (show X = (G, 2) from by rw [HX1.out]; unfold eStep; simp [h1, h2, h3])
       obtain ⟨r0, r1, -⟩ := HFF.out _ HBW.out
       go_wp2_with (first | (refine (sid_any a _).mono ?_; rintro e w0 ⟨rfl, hw0⟩; rw [h1, hw0]; clear hw0) | (refine (sid_any b _).mono ?_; rintro e w0 ⟨rfl, hw0⟩; rw [h2, hw0]; clear hw0) | (refine (slab_any c _).mono ?_; rintro e w0 ⟨rfl, hw0⟩; rw [h3, hw0]; clear hw0))
       obtain ⟨r0, r1, -⟩ := HFF.out _ HBW.out
       have HB := Lib.hid (HB1.out.trans (HBW.out.mono HB1.out.size))
       go_wp2_with fail
       refine ret_c2 (w.heap.size + 1) #[.slice _ LV cV, .slice _ LE cE] rfl Tryz.isAgg42 Tryz.sizeOf42 rfl rfl (row?_setRow_same _ _ _ (by rw [r1]; rfl)) rfl ⟨.slice _ LV cV, .slice _ LE cE, by rw [HE.out]; rfl, by rw [HE.out]; exact RefG.below HRG.out (below_setRow HB.out (by omega) _), below_setRow HB.out (by omega) _⟩
     | true =>
     cases h4 : wtB t with
     | false =>
       have HE := Lib.hid (show X = (G, 2) from by rw [HX1.out]; unfold eStep; simp [h1, h2, h3, h4])
       obtain ⟨r0, r1, -⟩ := HFF.out _ HBW.out
       go_wp2_with (first | (refine (sid_any a _).mono ?_; rintro e w0 ⟨rfl, hw0⟩; rw [h1, hw0]; clear hw0) | (refine (sid_any b _).mono ?_; rintro e w0 ⟨rfl, hw0⟩; rw [h2, hw0]; clear hw0) | (refine (slab_any c _).mono ?_; rintro e w0 ⟨rfl, hw0⟩; rw [h3, hw0]; clear hw0) | (refine (swt_any t _).mono ?_; rintro e w0 ⟨rfl, hw0⟩; rw [h4, hw0]; clear hw0))
       obtain ⟨r0, r1, -⟩ := HFF.out _ HBW.out
       have HB := Lib.hid (HB1.out.trans (HBW.out.mono HB1.out.size))
       go_wp2_with fail
       refine ret_c2 (w.heap.size + 1) #[.slice _ LV cV, .slice _ LE cE] rfl Tryz.isAgg42 Tryz.sizeOf42 rfl rfl (row?_setRow_same _ _ _ (by rw [r1]; rfl)) rfl ⟨.slice _ LV cV, .slice _ LE cE, by rw [HE.out]; rfl, by rw [HE.out]; exact RefG.below HRG.out (below_setRow HB.out (by omega) _), below_setRow HB.out (by omega) _⟩
     | true =>
     have HX3 := Lib.hid (show X = if a = b then (G, 15) else if b < a ∨ lastE G.E a b = true then (G, 3) else if ((Pal.look G.V a).isSome && (Pal.look G.V b).isSome) = true then if G.E.length = 1024 then (G, 8) else (⟨G.V, G.E ++ [((a, b), (c.toNat, t))]⟩, 0) else (G, 9) from by rw [HX1.out]; unfold eStep; simp only [h1, h2, h3, h4, Bool.true_and, if_true])
     go_wp2_with (first | (refine (sid_any a _).mono ?_; rintro e w0 ⟨rfl, hw0⟩; rw [h1, hw0]; clear hw0) | (refine (sid_any b _).mono ?_; rintro e w0 ⟨rfl, hw0⟩; rw [h2, hw0]; clear hw0) | (refine (slab_any c _).mono ?_; rintro e w0 ⟨rfl, hw0⟩; rw [h3, hw0]; clear hw0) | (refine (swt_any t _).mono ?_; rintro e w0 ⟨rfl, hw0⟩; rw [h4, hw0]; clear hw0))
     clear hk0 hk1 hk2 hk3
     by_cases hab : a = b
     · have HE := Lib.hid (HX3.out.trans (if_pos hab))
       have e1 : (a == b) = true := by rw [hab]; exact beq_self_eq_true _
       have HAB := Lib.hid hab
       clear hab
       refine wp_region_free_tail (fun W => Below w1.heap.size w1 W) 6 (by kernel_rfl) (by kernel_rfl) HBW.out.drew ?_
       simp only [List.take_succ_cons, List.take_zero, List.drop_succ_cons, List.drop_zero]
       repeat (first | ((first | apply wpFree_still (hg := rfl) | apply wpFree_stillG rfl); (intro w hw; (obtain ⟨r0, r1, f0, f1, k0, k1, k2, k3⟩ := HFF.out _ hw); clear hw; go_simp; (try go_ints); (first | with_reducible rfl | (go_simp; with_reducible rfl))); (intro K hK; go_simp; (try go_ints); refine hK _ ?_; clear hK K)) | (apply wpFree_skip rfl; (intro K hK; go_simp; (try go_ints); refine hK _ ?_; clear hK K)))
       with_reducible refine wpFree_nil ?_
       intro wn hbn
       have HBW := Lib.hid hbn
       clear hbn
       obtain ⟨r0, r1, -⟩ := HFF.out _ HBW.out
       have HB := Lib.hid (HB1.out.trans (HBW.out.mono HB1.out.size))
       go_wp2_with fail
       refine ret_c2 (w.heap.size + 1) #[.slice _ LV cV, .slice _ LE cE] rfl Tryz.isAgg42 Tryz.sizeOf42 rfl rfl (row?_setRow_same _ _ _ (by rw [r1]; rfl)) rfl ⟨.slice _ LV cV, .slice _ LE cE, by rw [HE.out]; rfl, by rw [HE.out]; exact RefG.below HRG.out (below_setRow HB.out (by omega) _), below_setRow HB.out (by omega) _⟩
     · have HX2 := Lib.hid (HX3.out.trans (if_neg hab))
       have e1 : (a == b) = false := beq_false_of_ne hab
       have e2 : ¬ a = b := hab
       refine wp_region_free_tail (fun W => Below w1.heap.size w1 W) 6 (by kernel_rfl) (by kernel_rfl) HBW.out.drew ?_
       simp only [List.take_succ_cons, List.take_zero, List.drop_succ_cons, List.drop_zero]
       repeat (first | ((first | apply wpFree_still (hg := rfl) | apply wpFree_stillG rfl); (intro w hw; (obtain ⟨r0, r1, f0, f1, k0, k1, k2, k3⟩ := HFF.out _ hw); clear hw; go_simp; (try go_ints); (first | with_reducible rfl | (go_simp; with_reducible rfl))); (intro K hK; go_simp; (try go_ints); refine hK _ ?_; clear hK K)) | (apply wpFree_skip rfl; (intro K hK; go_simp; (try go_ints); refine hK _ ?_; clear hK K)))
       with_reducible refine wpFree_nil ?_
       intro wn hbn
       have HBW := Lib.hid hbn
       clear hbn
       clear e1 e2
       by_cases hE0 : LE = 0
       · have d2 : decide ((0 : Int) < (LE : Int)) = false := decide_eq_false (by omega)
         have d3 : decide (0 < LE) = false := decide_eq_false (by omega)
         have d4 : ¬ 0 < LE := by omega
         have hEn : G.E = [] := List.length_eq_zero_iff.1 (HLE.out.symm.trans hE0)
         have HLs := Lib.hid (show ¬ lastE G.E a b = true from by rw [hEn]; exact fun h => by cases h)
         obtain ⟨-, -, -, f1, -⟩ := HFF.out _ HBW.out
         clear hEn hE0
         go_wp2_with fail
         clear d2 d3 d4 f1
         by_cases hba : b < a
         · have HE := Lib.hid (show X = (G, 3) from by rw [HX2.out, if_pos (.inl hba)])
           have d1 : decide (b < a) = true := decide_eq_true hba
           refine wp_region_free_tail (fun W => Below w1.heap.size w1 W) 6 (by kernel_rfl) (by kernel_rfl) HBW.out.drew ?_
           simp only [List.take_succ_cons, List.take_zero, List.drop_succ_cons, List.drop_zero]
           repeat (first | ((first | apply wpFree_still (hg := rfl) | apply wpFree_stillG rfl); (intro w hw; (obtain ⟨r0, r1, f0, f1, k0, k1, k2, k3⟩ := HFF.out _ hw); clear hw; go_simp; (try go_ints); (first | with_reducible rfl | (go_simp; with_reducible rfl))); (intro K hK; go_simp; (try go_ints); refine hK _ ?_; clear hK K)) | (apply wpFree_skip rfl; (intro K hK; go_simp; (try go_ints); refine hK _ ?_; clear hK K)))
           with_reducible refine wpFree_nil ?_
           intro wn hbn
           have HBW := Lib.hid hbn
           clear hbn
           obtain ⟨r0, r1, -⟩ := HFF.out _ HBW.out
           have HB := Lib.hid (HB1.out.trans (HBW.out.mono HB1.out.size))
           go_wp2_with fail
           refine ret_c2 (w.heap.size + 1) #[.slice _ LV cV, .slice _ LE cE] rfl Tryz.isAgg42 Tryz.sizeOf42 rfl rfl (row?_setRow_same _ _ _ (by rw [r1]; rfl)) rfl ⟨.slice _ LV cV, .slice _ LE cE, by rw [HE.out]; rfl, by rw [HE.out]; exact RefG.below HRG.out (below_setRow HB.out (by omega) _), below_setRow HB.out (by omega) _⟩
         · have HE := Lib.hid (show X = (G.app (eEd ((a, b), (c.toNat, t))), G.wrong (eEd ((a, b), (c.toNat, t)))) from by rw [HX1.out]; exact eStep_do HG.out h1 h2 h3 h4 (by omega) HLs.out)
           have d1 : decide (b < a) = false := decide_eq_false hba
           refine wp_region_free_tail (fun W => Below w1.heap.size w1 W) 6 (by kernel_rfl) (by kernel_rfl) HBW.out.drew ?_
           simp only [List.take_succ_cons, List.take_zero, List.drop_succ_cons, List.drop_zero]
           repeat (first | ((first | apply wpFree_still (hg := rfl) | apply wpFree_stillG rfl); (intro w hw; (obtain ⟨r0, r1, f0, f1, k0, k1, k2, k3⟩ := HFF.out _ hw); clear hw; go_simp; (try go_ints); (first | with_reducible rfl | (go_simp; with_reducible rfl))); (intro K hK; go_simp; (try go_ints); refine hK _ ?_; clear hK K)) | (apply wpFree_skip rfl; (intro K hK; go_simp; (try go_ints); refine hK _ ?_; clear hK K)))
           with_reducible refine wpFree_nil ?_
           intro wn hbn
           have HBW := Lib.hid hbn
           clear hbn
           go_wp2_with fail
           clear d1 hba
           obtain ⟨cn, hcn⟩ : ∃ cn : Nat, c = (cn : Int) := ⟨c.toNat, by rw [labB_iff] at h3; omega⟩
           subst hcn
           have hb255 : cn ≤ 255 := by rw [labB_iff] at h3; omega
           rw [Int.toNat_natCast] at HE
           have HWf := Lib.hid (show (eEd ((a, b), (cn, t))).Wf from by have := eEd_wf' h1 h2 h3 h4; rwa [Int.toNat_natCast] at this)
           have HDo := Lib.hid fun W (hW : Below w.heap.size w W) => rdo_any (eEd ((a, b), (cn, t))) HWf.out G HG.out _ _ W (RefG.below HRG.out hW)
           rw [show G.wrong (eEd ((a, b), (cn, t))) = X.2 from by rw [HE.out], show G.app (eEd ((a, b), (cn, t))) = X.1 from by rw [HE.out], show edC (eEd ((a, b), (cn, t))) = #[.int .i64 2, .int .i64 a, .int .i64 b, .int .u8 (cn : Int), .int .i64 t] from rfl] at HDo
           refine wp_region_mix (fun W => Below w1.heap.size w1 W) 18 [(0, true), (1, true), (2, true), (3, true), (4, true), (5, true), (6, true), (7, true), (8, true), (9, true), (10, true), (11, true), (12, true), (13, true), (14, true), (15, false), (16, true), (17, true)] (by kernel_rfl) (by kernel_rfl) HBW.out.drew ?_
           repeat (apply wpPlan_still rfl rfl; (intro w hw; obtain ⟨r0, r1, f0, f1, k0, k1, k2, k3⟩ := HFF.out _ hw; clear hw; go_simp; (try go_ints); (first | with_reducible rfl | (go_simp; with_reducible rfl))); (intro K hK; go_simp; (try go_ints); refine hK _ _ ?_; clear hK K))
           apply wpPlan_act rfl rfl
           intro K hK
           unfold Oper.wp
           go_simp
           refine (HDo.out _ (HB1.out.trans (HBW.out.drew.mono HB1.out.size))).mono ?_
           rintro r w5 ⟨vV', vE', rfl, hR5, hb5⟩
           have hb5' := HBW.out.drew.trans (hb5.mono HBW.out.drew.size)
           have HR5 := Lib.hid hR5
           have HB5 := Lib.hid (HB1.out.trans (hb5'.mono HB1.out.size))
           obtain ⟨r0, r1, -⟩ := HFF.out w5 hb5'
           have HR15 := Lib.hid r1
           obtain ⟨aV', cV', hvV⟩ := hR5.1.sl
           obtain ⟨aE', cE', hvE⟩ := hR5.2.sl
           subst hvV hvE
           obtain ⟨nV, hnV⟩ : ∃ n, n = (X.1).V.length := ⟨_, rfl⟩
           obtain ⟨nE, hnE⟩ : ∃ n, n = (X.1).E.length := ⟨_, rfl⟩
           rw [← hnV, ← hnE] at HR5 ⊢
           refine hK _ _ hb5' ?_
           clear hK K hR5 hb5 hb5' hnV hnE
           repeat (apply wpPlan_still rfl rfl; (intro w hw; clear hw; go_simp; (try go_ints); (first | with_reducible rfl | (go_simp; with_reducible rfl))); (intro K hK; go_simp; (try go_ints); refine hK _ _ ?_; clear hK K))
           refine wpPlan_nil ?_
           simp only [List.drop_succ_cons, List.drop_zero]
           go_wp2_with fail
           refine ret_c2 (w.heap.size + 1) #[.slice aV' nV cV', .slice aE' nE cE'] rfl Tryz.isAgg42 Tryz.sizeOf42 rfl rfl (row?_setRow_same _ _ _ (by rw [HR15.out]; rfl)) rfl ⟨.slice aV' nV cV', .slice aE' nE cE', rfl, ?_, below_setRow HB5.out (by omega) _⟩
           exact ⟨rd_setRow (fun x => ⟨_, rfl⟩) HR5.out.1 HR15.out _, rd_setRow (fun x => ⟨_, rfl⟩) HR5.out.2 HR15.out _⟩
       · obtain ⟨p, hp⟩ : ∃ p, G.E.getLast? = some p := by
           cases hg : G.E.getLast? with
           | none => rw [List.getLast?_eq_none_iff] at hg; rw [hg] at HLE; exact absurd HLE.out hE0
           | some p => exact ⟨p, rfl⟩
         have hpi : G.E[LE - 1]? = some p := by rw [← hp, List.getLast?_eq_getElem?, HLE.out]
         obtain ⟨b0, off, c', x, e1, hbb, hx, hcell⟩ := HRG.out.2.at (i := LE - 1) (by rw [← HLE.out]; omega)
         rw [hpi] at hx
         cases hx
         simp only [Value.slice.injEq] at e1
         obtain ⟨e1, -, e2⟩ := e1
         subst e2
         subst e1
         obtain ⟨⟨pu, pv⟩, pl, pw⟩ := p
         have HP := rowLoad_r5E (HB1.out.trans (HBW.out.mono HB1.out.size)) hcell
         have hlast := lastE_of hp a b
         have d2 : decide ((0 : Int) < (LE : Int)) = true := decide_eq_true (by omega)
         have d3 : decide (0 < LE) = true := decide_eq_true (by omega)
         have d4 : 0 < LE := by omega
         have d5 : (LE : Int) - 1 = ((LE - 1 : Nat) : Int) := by omega
         have d6 : LE - 1 < LE := by omega
         obtain ⟨-, -, -, f1, -⟩ := HFF.out _ HBW.out
         clear hpi hcell hbb hE0 hp
         go_wp2_with fail
         generalize hWl : World.alloc wn _ = wl
         obtain ⟨r8, hb8⟩ := alloc_row hWl
         have hs8 := row?_lt r8
         have hs1w := HBW.out.size
         have HL8 := Lib.hid fun W (hW : Below wl.heap.size wl W) => (row?_below hW hs8).trans r8
         have HFF := Lib.hid fun W (hW : Below wl.heap.size wl W) => HFF.out W (HBW.out.trans ((hb8.trans (hW.mono hb8.size)).mono HBW.out.size))
         have HB1 := Lib.hid (HB1.out.trans ((HBW.out.trans (hb8.mono HBW.out.size)).mono HB1.out.size))
         have HBW := Lib.hid (Below.refl wl.heap.size wl)
         have hsw1 : w.heap.size + 1 < wl.heap.size := by omega
         clear r8 hb8 hWl HP d2 d3 d4 d5 d6 f1
         rename World => w1
         by_cases hc1 : a < pu
         · have HE := Lib.hid (show X = (G, 3) from by rw [HX2.out, if_pos (.inr (by rw [hlast]; simp [behB]; omega))])
           have d1 : decide (a < pu) = true := decide_eq_true hc1
           clear hlast
           refine wp_region_free_tail (fun W => Below w1.heap.size w1 W) 21 (by kernel_rfl) (by kernel_rfl) HBW.out.drew ?_
           simp only [List.take_succ_cons, List.take_zero, List.drop_succ_cons, List.drop_zero]
           repeat (first | ((first | apply wpFree_still (hg := rfl) | apply wpFree_stillG rfl); (intro w hw; (obtain ⟨r0, r1, f0, f1, k0, k1, k2, k3⟩ := HFF.out _ hw; have r8 := HL8.out _ hw; have g0 := (cell?_row (i := 0) r8).trans rfl; have g1 := (cell?_row (i := 1) r8).trans rfl); clear hw; go_simp; (try go_ints); (first | with_reducible rfl | (go_simp; with_reducible rfl))); (intro K hK; go_simp; (try go_ints); refine hK _ ?_; clear hK K)) | (apply wpFree_skip rfl; (intro K hK; go_simp; (try go_ints); refine hK _ ?_; clear hK K)))
           with_reducible refine wpFree_nil ?_
           intro wn hbn
           have HBW := Lib.hid hbn
           clear hbn
           obtain ⟨r0, r1, -⟩ := HFF.out _ HBW.out
           have HB := Lib.hid (HB1.out.trans (HBW.out.mono HB1.out.size))
           go_wp2_with fail
           refine ret_c2 (w.heap.size + 1) #[.slice _ LV cV, .slice _ LE cE] rfl Tryz.isAgg42 Tryz.sizeOf42 rfl rfl (row?_setRow_same _ _ _ (by rw [r1]; rfl)) rfl ⟨.slice _ LV cV, .slice _ LE cE, by rw [HE.out]; rfl, by rw [HE.out]; exact RefG.below HRG.out (below_setRow HB.out (by omega) _), below_setRow HB.out (by omega) _⟩
         · have d1 : decide (a < pu) = false := decide_eq_false hc1
           by_cases hc2 : a = pu
           · subst hc2
             have d2 : (a == a) = true := beq_self_eq_true _
             by_cases hc3 : b ≤ pv
             · have HE := Lib.hid (show X = (G, 3) from by rw [HX2.out, if_pos (.inr (by rw [hlast]; simp [behB]; omega))])
               have d3 : decide (b ≤ pv) = true := decide_eq_true hc3
               clear hlast
               refine wp_region_free_tail (fun W => Below w1.heap.size w1 W) 21 (by kernel_rfl) (by kernel_rfl) HBW.out.drew ?_
               simp only [List.take_succ_cons, List.take_zero, List.drop_succ_cons, List.drop_zero]
               repeat (first | ((first | apply wpFree_still (hg := rfl) | apply wpFree_stillG rfl); (intro w hw; (obtain ⟨r0, r1, f0, f1, k0, k1, k2, k3⟩ := HFF.out _ hw; have r8 := HL8.out _ hw; have g0 := (cell?_row (i := 0) r8).trans rfl; have g1 := (cell?_row (i := 1) r8).trans rfl); clear hw; go_simp; (try go_ints); (first | with_reducible rfl | (go_simp; with_reducible rfl))); (intro K hK; go_simp; (try go_ints); refine hK _ ?_; clear hK K)) | (apply wpFree_skip rfl; (intro K hK; go_simp; (try go_ints); refine hK _ ?_; clear hK K)))
               with_reducible refine wpFree_nil ?_
               intro wn hbn
               have HBW := Lib.hid hbn
               clear hbn
               obtain ⟨r0, r1, -⟩ := HFF.out _ HBW.out
               have HB := Lib.hid (HB1.out.trans (HBW.out.mono HB1.out.size))
               go_wp2_with fail
               refine ret_c2 (w.heap.size + 1) #[.slice _ LV cV, .slice _ LE cE] rfl Tryz.isAgg42 Tryz.sizeOf42 rfl rfl (row?_setRow_same _ _ _ (by rw [r1]; rfl)) rfl ⟨.slice _ LV cV, .slice _ LE cE, by rw [HE.out]; rfl, by rw [HE.out]; exact RefG.below HRG.out (below_setRow HB.out (by omega) _), below_setRow HB.out (by omega) _⟩
             · have HLs := Lib.hid (show ¬ lastE G.E a b = true from by rw [hlast]; simp [behB]; omega)
               have d3 : decide (b ≤ pv) = false := decide_eq_false hc3
               clear hlast
               refine wp_region_free_tail (fun W => Below w1.heap.size w1 W) 21 (by kernel_rfl) (by kernel_rfl) HBW.out.drew ?_
               simp only [List.take_succ_cons, List.take_zero, List.drop_succ_cons, List.drop_zero]
               repeat (first | ((first | apply wpFree_still (hg := rfl) | apply wpFree_stillG rfl); (intro w hw; (obtain ⟨r0, r1, f0, f1, k0, k1, k2, k3⟩ := HFF.out _ hw; have r8 := HL8.out _ hw; have g0 := (cell?_row (i := 0) r8).trans rfl; have g1 := (cell?_row (i := 1) r8).trans rfl); clear hw; go_simp; (try go_ints); (first | with_reducible rfl | (go_simp; with_reducible rfl))); (intro K hK; go_simp; (try go_ints); refine hK _ ?_; clear hK K)) | (apply wpFree_skip rfl; (intro K hK; go_simp; (try go_ints); refine hK _ ?_; clear hK K)))
               with_reducible refine wpFree_nil ?_
               intro wn hbn
               have HBW := Lib.hid hbn
               clear hbn
               go_wp2_with fail
               clear d1 d2 d3 hc1 hc3
               by_cases hba : b < a
               · have HE := Lib.hid (show X = (G, 3) from by rw [HX2.out, if_pos (.inl hba)])
                 have d1 : decide (b < a) = true := decide_eq_true hba
                 refine wp_region_free_tail (fun W => Below w1.heap.size w1 W) 6 (by kernel_rfl) (by kernel_rfl) HBW.out.drew ?_
                 simp only [List.take_succ_cons, List.take_zero, List.drop_succ_cons, List.drop_zero]
                 repeat (first | ((first | apply wpFree_still (hg := rfl) | apply wpFree_stillG rfl); (intro w hw; (obtain ⟨r0, r1, f0, f1, k0, k1, k2, k3⟩ := HFF.out _ hw); clear hw; go_simp; (try go_ints); (first | with_reducible rfl | (go_simp; with_reducible rfl))); (intro K hK; go_simp; (try go_ints); refine hK _ ?_; clear hK K)) | (apply wpFree_skip rfl; (intro K hK; go_simp; (try go_ints); refine hK _ ?_; clear hK K)))
                 with_reducible refine wpFree_nil ?_
                 intro wn hbn
                 have HBW := Lib.hid hbn
                 clear hbn
                 obtain ⟨r0, r1, -⟩ := HFF.out _ HBW.out
                 have HB := Lib.hid (HB1.out.trans (HBW.out.mono HB1.out.size))
                 go_wp2_with fail
                 refine ret_c2 (w.heap.size + 1) #[.slice _ LV cV, .slice _ LE cE] rfl Tryz.isAgg42 Tryz.sizeOf42 rfl rfl (row?_setRow_same _ _ _ (by rw [r1]; rfl)) rfl ⟨.slice _ LV cV, .slice _ LE cE, by rw [HE.out]; rfl, by rw [HE.out]; exact RefG.below HRG.out (below_setRow HB.out (by omega) _), below_setRow HB.out (by omega) _⟩
               · have HE := Lib.hid (show X = (G.app (eEd ((a, b), (c.toNat, t))), G.wrong (eEd ((a, b), (c.toNat, t)))) from by rw [HX1.out]; exact eStep_do HG.out h1 h2 h3 h4 (by omega) HLs.out)
                 have d1 : decide (b < a) = false := decide_eq_false hba
                 refine wp_region_free_tail (fun W => Below w1.heap.size w1 W) 6 (by kernel_rfl) (by kernel_rfl) HBW.out.drew ?_
                 simp only [List.take_succ_cons, List.take_zero, List.drop_succ_cons, List.drop_zero]
                 repeat (first | ((first | apply wpFree_still (hg := rfl) | apply wpFree_stillG rfl); (intro w hw; (obtain ⟨r0, r1, f0, f1, k0, k1, k2, k3⟩ := HFF.out _ hw); clear hw; go_simp; (try go_ints); (first | with_reducible rfl | (go_simp; with_reducible rfl))); (intro K hK; go_simp; (try go_ints); refine hK _ ?_; clear hK K)) | (apply wpFree_skip rfl; (intro K hK; go_simp; (try go_ints); refine hK _ ?_; clear hK K)))
                 with_reducible refine wpFree_nil ?_
                 intro wn hbn
                 have HBW := Lib.hid hbn
                 clear hbn
                 go_wp2_with fail
                 clear d1 hba
                 obtain ⟨cn, hcn⟩ : ∃ cn : Nat, c = (cn : Int) := ⟨c.toNat, by rw [labB_iff] at h3; omega⟩
                 subst hcn
                 have hb255 : cn ≤ 255 := by rw [labB_iff] at h3; omega
                 rw [Int.toNat_natCast] at HE
                 have HWf := Lib.hid (show (eEd ((a, b), (cn, t))).Wf from by have := eEd_wf' h1 h2 h3 h4; rwa [Int.toNat_natCast] at this)
                 have HDo := Lib.hid fun W (hW : Below w.heap.size w W) => rdo_any (eEd ((a, b), (cn, t))) HWf.out G HG.out _ _ W (RefG.below HRG.out hW)
                 rw [show G.wrong (eEd ((a, b), (cn, t))) = X.2 from by rw [HE.out], show G.app (eEd ((a, b), (cn, t))) = X.1 from by rw [HE.out], show edC (eEd ((a, b), (cn, t))) = #[.int .i64 2, .int .i64 a, .int .i64 b, .int .u8 (cn : Int), .int .i64 t] from rfl] at HDo
                 refine wp_region_mix (fun W => Below w1.heap.size w1 W) 18 [(0, true), (1, true), (2, true), (3, true), (4, true), (5, true), (6, true), (7, true), (8, true), (9, true), (10, true), (11, true), (12, true), (13, true), (14, true), (15, false), (16, true), (17, true)] (by kernel_rfl) (by kernel_rfl) HBW.out.drew ?_
                 repeat (apply wpPlan_still rfl rfl; (intro w hw; obtain ⟨r0, r1, f0, f1, k0, k1, k2, k3⟩ := HFF.out _ hw; clear hw; go_simp; (try go_ints); (first | with_reducible rfl | (go_simp; with_reducible rfl))); (intro K hK; go_simp; (try go_ints); refine hK _ _ ?_; clear hK K))
                 apply wpPlan_act rfl rfl
                 intro K hK
                 unfold Oper.wp
                 go_simp
                 refine (HDo.out _ (HB1.out.trans (HBW.out.drew.mono HB1.out.size))).mono ?_
                 rintro r w5 ⟨vV', vE', rfl, hR5, hb5⟩
                 have hb5' := HBW.out.drew.trans (hb5.mono HBW.out.drew.size)
                 have HR5 := Lib.hid hR5
                 have HB5 := Lib.hid (HB1.out.trans (hb5'.mono HB1.out.size))
                 obtain ⟨r0, r1, -⟩ := HFF.out w5 hb5'
                 have HR15 := Lib.hid r1
                 obtain ⟨aV', cV', hvV⟩ := hR5.1.sl
                 obtain ⟨aE', cE', hvE⟩ := hR5.2.sl
                 subst hvV hvE
                 obtain ⟨nV, hnV⟩ : ∃ n, n = (X.1).V.length := ⟨_, rfl⟩
                 obtain ⟨nE, hnE⟩ : ∃ n, n = (X.1).E.length := ⟨_, rfl⟩
                 rw [← hnV, ← hnE] at HR5 ⊢
                 refine hK _ _ hb5' ?_
                 clear hK K hR5 hb5 hb5' hnV hnE
                 repeat (apply wpPlan_still rfl rfl; (intro w hw; clear hw; go_simp; (try go_ints); (first | with_reducible rfl | (go_simp; with_reducible rfl))); (intro K hK; go_simp; (try go_ints); refine hK _ _ ?_; clear hK K))
                 refine wpPlan_nil ?_
                 simp only [List.drop_succ_cons, List.drop_zero]
                 go_wp2_with fail
                 refine ret_c2 (w.heap.size + 1) #[.slice aV' nV cV', .slice aE' nE cE'] rfl Tryz.isAgg42 Tryz.sizeOf42 rfl rfl (row?_setRow_same _ _ _ (by rw [HR15.out]; rfl)) rfl ⟨.slice aV' nV cV', .slice aE' nE cE', rfl, ?_, below_setRow HB5.out (by omega) _⟩
                 exact ⟨rd_setRow (fun x => ⟨_, rfl⟩) HR5.out.1 HR15.out _, rd_setRow (fun x => ⟨_, rfl⟩) HR5.out.2 HR15.out _⟩
           · have HLs := Lib.hid (show ¬ lastE G.E a b = true from by rw [hlast]; simp [behB]; omega)
             have d2 : (a == pu) = false := beq_false_of_ne hc2
             clear hlast
             refine wp_region_free_tail (fun W => Below w1.heap.size w1 W) 21 (by kernel_rfl) (by kernel_rfl) HBW.out.drew ?_
             simp only [List.take_succ_cons, List.take_zero, List.drop_succ_cons, List.drop_zero]
             repeat (first | ((first | apply wpFree_still (hg := rfl) | apply wpFree_stillG rfl); (intro w hw; (obtain ⟨r0, r1, f0, f1, k0, k1, k2, k3⟩ := HFF.out _ hw; have r8 := HL8.out _ hw; have g0 := (cell?_row (i := 0) r8).trans rfl; have g1 := (cell?_row (i := 1) r8).trans rfl); clear hw; go_simp; (try go_ints); (first | with_reducible rfl | (go_simp; with_reducible rfl))); (intro K hK; go_simp; (try go_ints); refine hK _ ?_; clear hK K)) | (apply wpFree_skip rfl; (intro K hK; go_simp; (try go_ints); refine hK _ ?_; clear hK K)))
             with_reducible refine wpFree_nil ?_
             intro wn hbn
             have HBW := Lib.hid hbn
             clear hbn
             go_wp2_with fail
             clear d1 d2 hc1 hc2
             by_cases hba : b < a
             · have HE := Lib.hid (show X = (G, 3) from by rw [HX2.out, if_pos (.inl hba)])
               have d1 : decide (b < a) = true := decide_eq_true hba
               refine wp_region_free_tail (fun W => Below w1.heap.size w1 W) 6 (by kernel_rfl) (by kernel_rfl) HBW.out.drew ?_
               simp only [List.take_succ_cons, List.take_zero, List.drop_succ_cons, List.drop_zero]
               repeat (first | ((first | apply wpFree_still (hg := rfl) | apply wpFree_stillG rfl); (intro w hw; (obtain ⟨r0, r1, f0, f1, k0, k1, k2, k3⟩ := HFF.out _ hw); clear hw; go_simp; (try go_ints); (first | with_reducible rfl | (go_simp; with_reducible rfl))); (intro K hK; go_simp; (try go_ints); refine hK _ ?_; clear hK K)) | (apply wpFree_skip rfl; (intro K hK; go_simp; (try go_ints); refine hK _ ?_; clear hK K)))
               with_reducible refine wpFree_nil ?_
               intro wn hbn
               have HBW := Lib.hid hbn
               clear hbn
               obtain ⟨r0, r1, -⟩ := HFF.out _ HBW.out
               have HB := Lib.hid (HB1.out.trans (HBW.out.mono HB1.out.size))
               go_wp2_with fail
               refine ret_c2 (w.heap.size + 1) #[.slice _ LV cV, .slice _ LE cE] rfl Tryz.isAgg42 Tryz.sizeOf42 rfl rfl (row?_setRow_same _ _ _ (by rw [r1]; rfl)) rfl ⟨.slice _ LV cV, .slice _ LE cE, by rw [HE.out]; rfl, by rw [HE.out]; exact RefG.below HRG.out (below_setRow HB.out (by omega) _), below_setRow HB.out (by omega) _⟩
             · have HE := Lib.hid (show X = (G.app (eEd ((a, b), (c.toNat, t))), G.wrong (eEd ((a, b), (c.toNat, t)))) from by rw [HX1.out]; exact eStep_do HG.out h1 h2 h3 h4 (by omega) HLs.out)
               have d1 : decide (b < a) = false := decide_eq_false hba
               refine wp_region_free_tail (fun W => Below w1.heap.size w1 W) 6 (by kernel_rfl) (by kernel_rfl) HBW.out.drew ?_
               simp only [List.take_succ_cons, List.take_zero, List.drop_succ_cons, List.drop_zero]
               repeat (first | ((first | apply wpFree_still (hg := rfl) | apply wpFree_stillG rfl); (intro w hw; (obtain ⟨r0, r1, f0, f1, k0, k1, k2, k3⟩ := HFF.out _ hw); clear hw; go_simp; (try go_ints); (first | with_reducible rfl | (go_simp; with_reducible rfl))); (intro K hK; go_simp; (try go_ints); refine hK _ ?_; clear hK K)) | (apply wpFree_skip rfl; (intro K hK; go_simp; (try go_ints); refine hK _ ?_; clear hK K)))
               with_reducible refine wpFree_nil ?_
               intro wn hbn
               have HBW := Lib.hid hbn
               clear hbn
               go_wp2_with fail
               clear d1 hba
               obtain ⟨cn, hcn⟩ : ∃ cn : Nat, c = (cn : Int) := ⟨c.toNat, by rw [labB_iff] at h3; omega⟩
               subst hcn
               have hb255 : cn ≤ 255 := by rw [labB_iff] at h3; omega
               rw [Int.toNat_natCast] at HE
               have HWf := Lib.hid (show (eEd ((a, b), (cn, t))).Wf from by have := eEd_wf' h1 h2 h3 h4; rwa [Int.toNat_natCast] at this)
               have HDo := Lib.hid fun W (hW : Below w.heap.size w W) => rdo_any (eEd ((a, b), (cn, t))) HWf.out G HG.out _ _ W (RefG.below HRG.out hW)
               rw [show G.wrong (eEd ((a, b), (cn, t))) = X.2 from by rw [HE.out], show G.app (eEd ((a, b), (cn, t))) = X.1 from by rw [HE.out], show edC (eEd ((a, b), (cn, t))) = #[.int .i64 2, .int .i64 a, .int .i64 b, .int .u8 (cn : Int), .int .i64 t] from rfl] at HDo
               refine wp_region_mix (fun W => Below w1.heap.size w1 W) 18 [(0, true), (1, true), (2, true), (3, true), (4, true), (5, true), (6, true), (7, true), (8, true), (9, true), (10, true), (11, true), (12, true), (13, true), (14, true), (15, false), (16, true), (17, true)] (by kernel_rfl) (by kernel_rfl) HBW.out.drew ?_
               repeat (apply wpPlan_still rfl rfl; (intro w hw; obtain ⟨r0, r1, f0, f1, k0, k1, k2, k3⟩ := HFF.out _ hw; clear hw; go_simp; (try go_ints); (first | with_reducible rfl | (go_simp; with_reducible rfl))); (intro K hK; go_simp; (try go_ints); refine hK _ _ ?_; clear hK K))
               apply wpPlan_act rfl rfl
               intro K hK
               unfold Oper.wp
               go_simp
               refine (HDo.out _ (HB1.out.trans (HBW.out.drew.mono HB1.out.size))).mono ?_
               rintro r w5 ⟨vV', vE', rfl, hR5, hb5⟩
               have hb5' := HBW.out.drew.trans (hb5.mono HBW.out.drew.size)
               have HR5 := Lib.hid hR5
               have HB5 := Lib.hid (HB1.out.trans (hb5'.mono HB1.out.size))
               obtain ⟨r0, r1, -⟩ := HFF.out w5 hb5'
               have HR15 := Lib.hid r1
               obtain ⟨aV', cV', hvV⟩ := hR5.1.sl
               obtain ⟨aE', cE', hvE⟩ := hR5.2.sl
               subst hvV hvE
               obtain ⟨nV, hnV⟩ : ∃ n, n = (X.1).V.length := ⟨_, rfl⟩
               obtain ⟨nE, hnE⟩ : ∃ n, n = (X.1).E.length := ⟨_, rfl⟩
               rw [← hnV, ← hnE] at HR5 ⊢
               refine hK _ _ hb5' ?_
               clear hK K hR5 hb5 hb5' hnV hnE
               repeat (apply wpPlan_still rfl rfl; (intro w hw; clear hw; go_simp; (try go_ints); (first | with_reducible rfl | (go_simp; with_reducible rfl))); (intro K hK; go_simp; (try go_ints); refine hK _ _ ?_; clear hK K))
               refine wpPlan_nil ?_
               simp only [List.drop_succ_cons, List.drop_zero]
               go_wp2_with fail
               refine ret_c2 (w.heap.size + 1) #[.slice aV' nV cV', .slice aE' nE cE'] rfl Tryz.isAgg42 Tryz.sizeOf42 rfl rfl (row?_setRow_same _ _ _ (by rw [HR15.out]; rfl)) rfl ⟨.slice aV' nV cV', .slice aE' nE cE', rfl, ?_, below_setRow HB5.out (by omega) _⟩
               exact ⟨rd_setRow (fun x => ⟨_, rfl⟩) HR5.out.1 HR15.out _, rd_setRow (fun x => ⟨_, rfl⟩) HR5.out.2 HR15.out _⟩
   · have HE := Lib.hid (HX.out.trans (lineG_none HV0.out hl))
     have HFF := Lib.hid fun W (hW : Below w2.heap.size w2 W) => show row? W w.heap.size = some #[.slice aV LV cV, .slice aE LE cE] ∧ row? W (w.heap.size + 1) = some #[.slice none 0 0, .slice none 0 0] ∧ True from by
       obtain ⟨r0, r1⟩ := HR'.out W (hb2.trans (hW.mono hb2.size))
       exact ⟨r0, r1, trivial⟩
     have HBW := Lib.hid (Below.refl w2.heap.size w2)
     clear hl hb2 HR' hsw' HB1'
     clear w1
     rename World => w1
     obtain ⟨r0, r1, -⟩ := HFF.out _ HBW.out
     have HB := Lib.hid (HB1.out.trans (HBW.out.mono HB1.out.size))
     go_wp2_with fail
     refine ret_c2 (w.heap.size + 1) #[.slice _ LV cV, .slice _ LE cE] rfl Tryz.isAgg42 Tryz.sizeOf42 rfl rfl (row?_setRow_same _ _ _ (by rw [r1]; rfl)) rfl ⟨.slice _ LV cV, .slice _ LE cE, by rw [HE.out]; rfl, by rw [HE.out]; exact RefG.below HRG.out (below_setRow HB.out (by omega) _), below_setRow HB.out (by omega) _⟩
theorem rline_any (G : Gr) (hG : G.Ok) (s : List UInt8) (hs : s.length ≤ 100000) (vV vE : Value) (w : World) (hg : RefG w vV vE G) :
   Calls Tryz.prog 61 #[.agg #[vV, vE], .string ⟨s.toArray⟩] w fun e w' => ∃ vV' vE', e = .returned (.tuple #[.agg #[vV', vE'], .int .i64 ((lineG G s).2 : Nat)]) ∧ RefG w' vV' vE' (lineG G s).1 ∧ Below w.heap.size w w' := by
 by_cases h : readW s vertexW 3 = none
 · exact rlineE_any G hG s hs vV vE w hg h
 · exact rlineV_any G hG s hs vV vE w hg h
end Go.Proofs.YtlmccbepllgbfaaGreatDoor
