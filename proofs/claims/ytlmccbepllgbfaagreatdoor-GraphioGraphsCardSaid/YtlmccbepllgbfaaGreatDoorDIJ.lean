/- Walk: the reference's reading of a line. -/
import Derived.Test.YtlmccbepllgbfaaGreatDoorDIe
import Derived.Test.YtlmccbepllgbfaaGreatDoorDIG
import Derived.Test.YtlmccbepllgbfaaGreatDoorDJm
import Derived.Test.YtlmccbepllgbfaaGreatDoorDHE
import Derived.Test.YtlmccbepllgbfaaGreatDoorDMx
import Derived.Test.YtlmccbepllgbfaaGreatDoorDYC
set_option linter.all false
namespace Go.Pal
open Go Go.RowKit
theorem vStep_do {G : Gr} (hG : G.Ok) {a b c : Int} (h1 : idB a = true) (h2 : labB b = true) (h3 : wtB c = true) (hE : ¬ 0 < G.E.length) (hl : ¬ lastV G.V a = true) :
   vStep G a b c = (G.app (vEd (a, (b.toNat, c))), G.wrong (vEd (a, (b.toNat, c)))) := by
 obtain ⟨e1, e2⟩ := v_new hG (b := b) h1 h3 hl
 unfold vStep
 rw [if_pos (by rw [h1, h2, h3]; rfl), if_neg (fun h => h.elim hE hl), e1, e2]
theorem eStep_do {G : Gr} (hG : G.Ok) {a b c t : Int} (h1 : idB a = true) (h2 : idB b = true) (h3 : labB c = true) (h4 : wtB t = true) (hab : a < b) (hl : ¬ lastE G.E a b = true) :
   eStep G a b c t = (G.app (eEd ((a, b), (c.toNat, t))), G.wrong (eEd ((a, b), (c.toNat, t)))) := by
 obtain ⟨e1, e2⟩ := e_new hG (c := c) h1 h2 h4 hab hl
 unfold eStep
 rw [if_pos (by rw [h1, h2, h3, h4]; rfl), if_neg (by omega), if_neg (fun h => h.elim (by omega) hl), e1, e2]
 split
 · split <;> rfl
 · rfl
end Go.Pal
namespace Go.Proofs.YtlmccbepllgbfaaGreatDoor
open Go Go.RowKit Go.Pal Go.Shelf
attribute [local go_sem] Oper.semAt_some
theorem rowLoad_r5E {w W : World} {b0 o : Nat} {p : (Int × Int) × Th} (hW : Below w.heap.size w W) (hc : ∀ w', Below w.heap.size w w' → ∀ (j : Nat) (u : Value), (edgA p)[j]? = some u → w'.cell? ⟨b0, o + j, none⟩ = some u) :
   rowLoad Tryz.prog 128 ⟨b0, o, none⟩ W = .ok (.agg #[.int .i64 p.1.1, .int .i64 p.1.2, .int .u8 (p.2.1 : Int), .int .i64 p.2.2]) W :=
 load_cells Tryz.isAgg128 Tryz.sizeOf128 W b0 _ _ rfl fun j u hu => hc W hW j u hu
@[go_sem ↓ high] theorem build_DVX (a b c : Int) (w : World) : (Instr.build 30 #[(0, .int .i64 0), (1, .int .i64 a), (3, .int .u8 b), (4, .int .i64 c)]).run Tryz.prog w = .ok (.agg #[.int .i64 0, .int .i64 a, .int .i64 0, .int .u8 b, .int .i64 c]) w := by kernel_rfl
@[go_sem ↓ high] theorem build_DEX (a b c d : Int) (w : World) : (Instr.build 30 #[(0, .int .i64 2), (1, .int .i64 a), (2, .int .i64 b), (3, .int .u8 c), (4, .int .i64 d)]).run Tryz.prog w = .ok (.agg #[.int .i64 2, .int .i64 a, .int .i64 b, .int .u8 c, .int .i64 d]) w := by kernel_rfl
set_option maxRecDepth 10000 in
set_option maxHeartbeats 4000000 in
theorem rlineV_any (G : Gr) (hG : G.Ok) (s : List UInt8) (hs : s.length ≤ 100000) (vV vE : Value) (w : World) (hg : RefG w vV vE G) (hvx : readW s vertexW 3 ≠ none) :
   Calls Tryz.prog 61 #[.agg #[vV, vE], .string ⟨s.toArray⟩] w fun e w' => ∃ vV' vE', e = .returned (.tuple #[.agg #[vV', vE'], .int .i64 ((lineG G s).2 : Nat)]) ∧ RefG w' vV' vE' (lineG G s).1 ∧ Below w.heap.size w w' := by
 have HG := Lib.hid hG
 have HRG := Lib.hid hg
 have hlV := hG.len
 have hlE := hG.most
 obtain ⟨aV, cV, rfl⟩ := hg.1.sl
 obtain ⟨aE, cE, rfl⟩ := hg.2.sl
 obtain ⟨LV, hLV⟩ : ∃ n, n = G.V.length := ⟨_, rfl⟩
 obtain ⟨LE, hLE⟩ : ∃ n, n = G.E.length := ⟨_, rfl⟩
 rw [← hLV] at hlV
 rw [← hLE] at hlE
 rw [← hLV, ← hLE] at HRG
 rw [← hLV, ← hLE]
 have HLV := Lib.hid hLV
 have HLE := Lib.hid hLE
 obtain ⟨X, hX⟩ : ∃ X, X = lineG G s := ⟨_, rfl⟩
 rw [← hX]
 have HX := Lib.hid hX
 clear hG hg hX hLV hLE
 go_enter Tryz.func61, Tryz.ntmps61
 go_wp2_with fail
 generalize hW0 : World.alloc (World.alloc w _) _ = W0
 have q0 : row? W0 w.heap.size = some #[.slice aV LV cV, .slice aE LE cE] := by rw [← hW0]; simp [go_sem]
 have q1 : row? W0 (w.heap.size + 1) = some #[.slice none 0 0, .slice none 0 0] := by rw [← hW0]; simp [go_sem]
 have HB0 := Lib.hid (show Below w.heap.size w W0 from by rw [← hW0]; exact ((Below.refl _ w).alloc (Nat.le_refl _) _).alloc (by simp) _)
 have hsz : W0.heap.size = w.heap.size + 2 := by rw [← hW0]; simp
 have HSZ := Lib.hid hsz
 have HR := Lib.hid fun W (hW : Below W0.heap.size W0 W) => show row? W w.heap.size = some #[.slice aV LV cV, .slice aE LE cE] ∧ row? W (w.heap.size + 1) = some #[.slice none 0 0, .slice none 0 0] from
   ⟨(row?_below hW (by omega)).trans q0, (row?_below hW (by omega)).trans q1⟩
 have hsw : w.heap.size + 1 < W0.heap.size := by omega
 clear hW0 q0 q1 hsz
 refine (rreadw_any s vertexW 3 (by decide) hs W0).mono ?_
 rintro e w1 ⟨hres, hb1⟩
 have HBW := Lib.hid hb1
 rcases hres with ⟨l, v, hl, rfl, hO⟩ | ⟨hl, rfl⟩
 · obtain ⟨a, b, c, rfl⟩ : ∃ a b c, l = [a, b, c] := by
     match l, (readW_some hl).2 with
     | [a, b, c], _ => exact ⟨a, b, c, rfl⟩
   obtain ⟨q, cap, rfl⟩ := hO.sl
   obtain ⟨g, rfl, hg1, hg2, hk0⟩ := hO.cell (j := 0) rfl
   obtain ⟨g', e1, -, -, hk1⟩ := hO.cell (j := 1) rfl
   cases e1
   obtain ⟨g', e1, -, -, hk2⟩ := hO.cell (j := 2) rfl
   cases e1
   have HX1 := Lib.hid (HX.out.trans (lineG_v hl))
   have HFF := Lib.hid fun W (hW : Below w1.heap.size w1 W) => show row? W w.heap.size = some #[.slice aV LV cV, .slice aE LE cE] ∧ row? W (w.heap.size + 1) = some #[.slice none 0 0, .slice none 0 0] ∧ W.cell? ⟨w.heap.size, 0, none⟩ = some (.slice aV LV cV) ∧ W.cell? ⟨w.heap.size, 1, none⟩ = some (.slice aE LE cE) ∧ W.cell? ⟨g, 0, none⟩ = some (.int .i64 a) ∧ W.cell? ⟨g, 1, none⟩ = some (.int .i64 b) ∧ W.cell? ⟨g, 2, none⟩ = some (.int .i64 c) from by
     obtain ⟨r0, r1⟩ := HR.out W (hb1.trans (hW.mono hb1.size))
     exact ⟨r0, r1, (cell?_row (i := 0) r0).trans rfl, (cell?_row (i := 1) r0).trans rfl, (hW.cell (p := ⟨g, 0, none⟩) hg2).trans hk0, (hW.cell (p := ⟨g, 1, none⟩) hg2).trans hk1, (hW.cell (p := ⟨g, 2, none⟩) hg2).trans hk2⟩
   have HB1 := Lib.hid (HB0.out.trans (hb1.mono HB0.out.size))
   have HBW := Lib.hid (Below.refl w1.heap.size w1)
   have hsw1 : w.heap.size + 1 < w1.heap.size := Nat.lt_of_lt_of_le hsw hb1.size
   clear hl hO hb1
   cases h1 : idB a with
   | false =>
     have HE := Lib.hid (show X = (G, 2) from by rw [HX1.out]; unfold vStep; simp [h1])
     obtain ⟨r0, r1, -⟩ := HFF.out _ HBW.out
     go_wp2_with (refine (sid_any a _).mono ?_; rintro e w0 ⟨rfl, hw0⟩; rw [h1, hw0]; clear hw0)
     obtain ⟨r0, r1, -⟩ := HFF.out _ HBW.out
     have HB := Lib.hid (HB1.out.trans (HBW.out.mono HB1.out.size))
     go_wp2_with fail
     refine ret_c2 (w.heap.size + 1) #[.slice _ LV cV, .slice _ LE cE] rfl Tryz.isAgg42 Tryz.sizeOf42 rfl rfl (row?_setRow_same _ _ _ (by rw [r1]; rfl)) rfl ⟨.slice _ LV cV, .slice _ LE cE, by rw [HE.out]; rfl, by rw [HE.out]; exact RefG.below HRG.out (below_setRow HB.out (by omega) _), below_setRow HB.out (by omega) _⟩
   | true =>
   cases h2 : labB b with
   | false =>
     have HE := Lib.hid (show X = (G, 2) from by rw [HX1.out]; unfold vStep; simp [h1, h2])
     obtain ⟨r0, r1, -⟩ := HFF.out _ HBW.out
     go_wp2_with (first | (refine (sid_any a _).mono ?_; rintro e w0 ⟨rfl, hw0⟩; rw [h1, hw0]; clear hw0) | (refine (slab_any b _).mono ?_; rintro e w0 ⟨rfl, hw0⟩; rw [h2, hw0]; clear hw0))
     obtain ⟨r0, r1, -⟩ := HFF.out _ HBW.out
     have HB := Lib.hid (HB1.out.trans (HBW.out.mono HB1.out.size))
     go_wp2_with fail
     refine ret_c2 (w.heap.size + 1) #[.slice _ LV cV, .slice _ LE cE] rfl Tryz.isAgg42 Tryz.sizeOf42 rfl rfl (row?_setRow_same _ _ _ (by rw [r1]; rfl)) rfl ⟨.slice _ LV cV, .slice _ LE cE, by rw [HE.out]; rfl, by rw [HE.out]; exact RefG.below HRG.out (below_setRow HB.out (by omega) _), below_setRow HB.out (by omega) _⟩
   | true =>
   cases h3 : wtB c with
   | false =>
     have HE := Lib.hid (show X = (G, 2) from by rw [HX1.out]; unfold vStep; simp [h1, h2, h3])
     obtain ⟨r0, r1, -⟩ := HFF.out _ HBW.out
     go_wp2_with (first | (refine (sid_any a _).mono ?_; rintro e w0 ⟨rfl, hw0⟩; rw [h1, hw0]; clear hw0) | (refine (slab_any b _).mono ?_; rintro e w0 ⟨rfl, hw0⟩; rw [h2, hw0]; clear hw0) | (refine (swt_any c _).mono ?_; rintro e w0 ⟨rfl, hw0⟩; rw [h3, hw0]; clear hw0))
     obtain ⟨r0, r1, -⟩ := HFF.out _ HBW.out
     have HB := Lib.hid (HB1.out.trans (HBW.out.mono HB1.out.size))
     go_wp2_with fail
     refine ret_c2 (w.heap.size + 1) #[.slice _ LV cV, .slice _ LE cE] rfl Tryz.isAgg42 Tryz.sizeOf42 rfl rfl (row?_setRow_same _ _ _ (by rw [r1]; rfl)) rfl ⟨.slice _ LV cV, .slice _ LE cE, by rw [HE.out]; rfl, by rw [HE.out]; exact RefG.below HRG.out (below_setRow HB.out (by omega) _), below_setRow HB.out (by omega) _⟩
   | true =>
   have HX2 := Lib.hid (show X = if 0 < G.E.length ∨ lastV G.V a = true then (G, 3) else (⟨G.V ++ [(a, (b.toNat, c))], G.E⟩, 0) from by rw [HX1.out]; unfold vStep; simp [h1, h2, h3])
   go_wp2_with (first | (refine (sid_any a _).mono ?_; rintro e w0 ⟨rfl, hw0⟩; rw [h1, hw0]; clear hw0) | (refine (slab_any b _).mono ?_; rintro e w0 ⟨rfl, hw0⟩; rw [h2, hw0]; clear hw0) | (refine (swt_any c _).mono ?_; rintro e w0 ⟨rfl, hw0⟩; rw [h3, hw0]; clear hw0))
   clear hk0 hk1 hk2
   by_cases hE0 : 0 < LE
   · have HE := Lib.hid (show X = (G, 3) from by rw [HX2.out, if_pos (.inl (by rw [← HLE.out]; exact hE0))])
     have d1 : decide ((0 : Int) < (LE : Int)) = true := decide_eq_true (by omega)
     have d1n : decide (0 < LE) = true := decide_eq_true hE0
     refine wp_region_free_tail (fun W => Below w1.heap.size w1 W) 24 (by kernel_rfl) (by kernel_rfl) HBW.out.drew ?_
     simp only [List.take_succ_cons, List.take_zero, List.drop_succ_cons, List.drop_zero]
     repeat (first | ((first | apply wpFree_still (hg := rfl) | apply wpFree_stillG rfl); (intro w hw; (obtain ⟨r0, r1, f0, f1, k0, k1, k2⟩ := HFF.out _ hw); clear hw; go_simp; (try go_ints); (first | with_reducible rfl | (go_simp; with_reducible rfl))); (intro K hK; go_simp; (try go_ints); refine hK _ ?_; clear hK K)) | (apply wpFree_skip rfl; (intro K hK; go_simp; (try go_ints); refine hK _ ?_; clear hK K)))
     with_reducible refine wpFree_nil ?_
     intro wn hbn
     have HBW := Lib.hid hbn
     clear hbn
     obtain ⟨r0, r1, -⟩ := HFF.out _ HBW.out
     have HB := Lib.hid (HB1.out.trans (HBW.out.mono HB1.out.size))
     go_wp2_with fail
     refine ret_c2 (w.heap.size + 1) #[.slice _ LV cV, .slice _ LE cE] rfl Tryz.isAgg42 Tryz.sizeOf42 rfl rfl (row?_setRow_same _ _ _ (by rw [r1]; rfl)) rfl ⟨.slice _ LV cV, .slice _ LE cE, by rw [HE.out]; rfl, by rw [HE.out]; exact RefG.below HRG.out (below_setRow HB.out (by omega) _), below_setRow HB.out (by omega) _⟩
   · have d1 : decide ((0 : Int) < (LE : Int)) = false := decide_eq_false (by omega)
     have d1n : decide (0 < LE) = false := decide_eq_false hE0
     have hE1 : ¬ 0 < G.E.length := by rw [← HLE.out]; exact hE0
     by_cases hV0 : LV = 0
     · have d2 : decide ((0 : Int) < (LV : Int)) = false := decide_eq_false (by omega)
       have d3 : decide (0 < LV) = false := decide_eq_false (by omega)
       have d4 : ¬ 0 < LV := by omega
       have hVn : G.V = [] := List.length_eq_zero_iff.1 (HLV.out.symm.trans hV0)
       have HE := Lib.hid (show X = (G.app (vEd (a, (b.toNat, c))), G.wrong (vEd (a, (b.toNat, c)))) from by rw [HX1.out]; exact vStep_do HG.out h1 h2 h3 hE1 (by rw [hVn]; exact fun h => by cases h))
       clear hVn hV0 hE1
       refine wp_region_free_tail (fun W => Below w1.heap.size w1 W) 24 (by kernel_rfl) (by kernel_rfl) HBW.out.drew ?_
       simp only [List.take_succ_cons, List.take_zero, List.drop_succ_cons, List.drop_zero]
       repeat (first | ((first | apply wpFree_still (hg := rfl) | apply wpFree_stillG rfl); (intro w hw; (obtain ⟨r0, r1, f0, f1, k0, k1, k2⟩ := HFF.out _ hw); clear hw; go_simp; (try go_ints); (first | with_reducible rfl | (go_simp; with_reducible rfl))); (intro K hK; go_simp; (try go_ints); refine hK _ ?_; clear hK K)) | (apply wpFree_skip rfl; (intro K hK; go_simp; (try go_ints); refine hK _ ?_; clear hK K)))
       with_reducible refine wpFree_nil ?_
       intro wn hbn
       have HBW := Lib.hid hbn
       clear hbn
       go_wp2_with fail
       clear d1 d1n d2 d3 d4
       obtain ⟨bn, hbn⟩ : ∃ bn : Nat, b = (bn : Int) := ⟨b.toNat, by rw [labB_iff] at h2; omega⟩
       subst hbn
       have hb255 : bn ≤ 255 := by rw [labB_iff] at h2; omega
       rw [Int.toNat_natCast] at HE
       have HWf := Lib.hid (show (vEd (a, (bn, c))).Wf from by have := vEd_wf' h1 h2 h3; rwa [Int.toNat_natCast] at this)
       obtain ⟨wk, hwk⟩ : ∃ wk : World, Below w1.heap.size w1 wk := ⟨_, HBW.out⟩
       have HDo := Lib.hid fun W (hW : Below w.heap.size w W) => rdo_any (vEd (a, (bn, c))) HWf.out G HG.out _ _ W (RefG.below HRG.out hW)
       rw [show G.wrong (vEd (a, (bn, c))) = X.2 from by rw [HE.out], show G.app (vEd (a, (bn, c))) = X.1 from by rw [HE.out], show edC (vEd (a, (bn, c))) = #[.int .i64 0, .int .i64 a, .int .i64 0, .int .u8 (bn : Int), .int .i64 c] from rfl] at HDo
       refine wp_region_mix (fun W => Below w1.heap.size w1 W) 15 [(0, true), (1, true), (2, true), (3, true), (4, true), (5, true), (6, true), (7, true), (8, true), (9, true), (10, true), (11, true), (12, false), (13, true), (14, true)] (by kernel_rfl) (by kernel_rfl) HBW.out.drew ?_
       repeat (apply wpPlan_still rfl rfl; (intro w hw; obtain ⟨r0, r1, f0, f1, k0, k1, k2⟩ := HFF.out _ hw; clear hw; go_simp; (try go_ints); (first | with_reducible rfl | (go_simp; with_reducible rfl))); (intro K hK; go_simp; (try go_ints); refine hK _ _ ?_; clear hK K))
       apply wpPlan_act rfl rfl
       intro K hK
       unfold Oper.wp
       go_simp
       refine (HDo.out _ (HB1.out.trans (HBW.out.drew.mono HB1.out.size))).mono ?_
       rintro r w5 ⟨vV', vE', rfl, hR5, hb5⟩
       have hb5' := HBW.out.drew.trans (hb5.mono HBW.out.drew.size)
       have HR5 := Lib.hid hR5
       have HB5 := Lib.hid (HB1.out.trans (hb5'.mono HB1.out.size))
       obtain ⟨r0, r1, -⟩ := HFF.out w5 hb5'
       have HR15 := Lib.hid r1
       obtain ⟨aV', cV', hvV⟩ := hR5.1.sl
       obtain ⟨aE', cE', hvE⟩ := hR5.2.sl
       subst hvV hvE
       obtain ⟨nV, hnV⟩ : ∃ n, n = (X.1).V.length := ⟨_, rfl⟩
       obtain ⟨nE, hnE⟩ : ∃ n, n = (X.1).E.length := ⟨_, rfl⟩
       rw [← hnV, ← hnE] at HR5 ⊢
       refine hK _ _ hb5' ?_
       clear hK K hR5 hb5 hb5' hnV hnE
       repeat (apply wpPlan_still rfl rfl; (intro w hw; clear hw; go_simp; (try go_ints); (first | with_reducible rfl | (go_simp; with_reducible rfl))); (intro K hK; go_simp; (try go_ints); refine hK _ _ ?_; clear hK K))
       refine wpPlan_nil ?_
       simp only [List.drop_succ_cons, List.drop_zero]
       go_wp2_with fail
       refine ret_c2 (w.heap.size + 1) #[.slice aV' nV cV', .slice aE' nE cE'] rfl Tryz.isAgg42 Tryz.sizeOf42 rfl rfl (row?_setRow_same _ _ _ (by rw [HR15.out]; rfl)) rfl ⟨.slice aV' nV cV', .slice aE' nE cE', rfl, ?_, below_setRow HB5.out (by omega) _⟩
       exact ⟨rd_setRow (fun x => ⟨_, rfl⟩) HR5.out.1 HR15.out _, rd_setRow (fun x => ⟨_, rfl⟩) HR5.out.2 HR15.out _⟩
     · obtain ⟨p, hp⟩ : ∃ p, G.V.getLast? = some p := by
         cases hg : G.V.getLast? with
         | none => rw [List.getLast?_eq_none_iff] at hg; rw [hg] at HLV; exact absurd HLV.out hV0
         | some p => exact ⟨p, rfl⟩
       have hpi : G.V[LV - 1]? = some p := by rw [← hp, List.getLast?_eq_getElem?, HLV.out]
       obtain ⟨b0, off, c', x, e1, hbb, hx, hcell⟩ := HRG.out.1.at (i := LV - 1) (by rw [← HLV.out]; omega)
       rw [hpi] at hx
       cases hx
       simp only [Value.slice.injEq] at e1
       obtain ⟨e1, -, e2⟩ := e1
       subst e2
       subst e1
       have HP := Lib.hid fun W (hW : Below w1.heap.size w1 W) => show W.cell? ⟨b0, off + (LV - 1) * 3, none⟩ = some (.int .i64 p.1) from by
         have := hcell W (HB1.out.trans (hW.mono HB1.out.size)) 0 (.int .i64 p.1) rfl
         rwa [Nat.add_zero] at this
       have hlast := lastV_of hp a
       have d2 : decide ((0 : Int) < (LV : Int)) = true := decide_eq_true (by omega)
       have d3 : decide (0 < LV) = true := decide_eq_true (by omega)
       have d4 : 0 < LV := by omega
       have d5 : (LV : Int) - 1 = ((LV - 1 : Nat) : Int) := by omega
       have d6 : LV - 1 < LV := by omega
       clear hpi hcell hbb
       by_cases hap : a ≤ p.1
       · have HE := Lib.hid (show X = (G, 3) from by rw [HX2.out, if_pos (.inr (by rw [hlast]; exact decide_eq_true hap))])
         have d7 : decide (a ≤ p.1) = true := decide_eq_true hap
         clear hlast hp hV0 hE1
         refine wp_region_free_tail (fun W => Below w1.heap.size w1 W) 24 (by kernel_rfl) (by kernel_rfl) HBW.out.drew ?_
         simp only [List.take_succ_cons, List.take_zero, List.drop_succ_cons, List.drop_zero]
         repeat (first | ((first | apply wpFree_still (hg := rfl) | apply wpFree_stillG rfl); (intro w hw; (obtain ⟨r0, r1, f0, f1, k0, k1, k2⟩ := HFF.out _ hw; have f2 := HP.out _ hw); clear hw; go_simp; (try go_ints); (first | with_reducible rfl | (go_simp; with_reducible rfl))); (intro K hK; go_simp; (try go_ints); refine hK _ ?_; clear hK K)) | (apply wpFree_skip rfl; (intro K hK; go_simp; (try go_ints); refine hK _ ?_; clear hK K)))
         with_reducible refine wpFree_nil ?_
         intro wn hbn
         have HBW := Lib.hid hbn
         clear hbn
         obtain ⟨r0, r1, -⟩ := HFF.out _ HBW.out
         have HB := Lib.hid (HB1.out.trans (HBW.out.mono HB1.out.size))
         go_wp2_with fail
         refine ret_c2 (w.heap.size + 1) #[.slice _ LV cV, .slice _ LE cE] rfl Tryz.isAgg42 Tryz.sizeOf42 rfl rfl (row?_setRow_same _ _ _ (by rw [r1]; rfl)) rfl ⟨.slice _ LV cV, .slice _ LE cE, by rw [HE.out]; rfl, by rw [HE.out]; exact RefG.below HRG.out (below_setRow HB.out (by omega) _), below_setRow HB.out (by omega) _⟩
       · have HE := Lib.hid (show X = (G.app (vEd (a, (b.toNat, c))), G.wrong (vEd (a, (b.toNat, c)))) from by rw [HX1.out]; exact vStep_do HG.out h1 h2 h3 hE1 (by rw [hlast]; exact fun h => hap (of_decide_eq_true h)))
         have d7 : decide (a ≤ p.1) = false := decide_eq_false hap
         clear hlast hp hV0 hE1
         refine wp_region_free_tail (fun W => Below w1.heap.size w1 W) 24 (by kernel_rfl) (by kernel_rfl) HBW.out.drew ?_
         simp only [List.take_succ_cons, List.take_zero, List.drop_succ_cons, List.drop_zero]
         repeat (first | ((first | apply wpFree_still (hg := rfl) | apply wpFree_stillG rfl); (intro w hw; (obtain ⟨r0, r1, f0, f1, k0, k1, k2⟩ := HFF.out _ hw; have f2 := HP.out _ hw); clear hw; go_simp; (try go_ints); (first | with_reducible rfl | (go_simp; with_reducible rfl))); (intro K hK; go_simp; (try go_ints); refine hK _ ?_; clear hK K)) | (apply wpFree_skip rfl; (intro K hK; go_simp; (try go_ints); refine hK _ ?_; clear hK K)))
         with_reducible refine wpFree_nil ?_
         intro wn hbn
         have HBW := Lib.hid hbn
         clear hbn
         go_wp2_with fail
         clear HP d1 d1n d2 d3 d4 d5 d6 d7 hap
         obtain ⟨bn, hbn⟩ : ∃ bn : Nat, b = (bn : Int) := ⟨b.toNat, by rw [labB_iff] at h2; omega⟩
         subst hbn
         have hb255 : bn ≤ 255 := by rw [labB_iff] at h2; omega
         rw [Int.toNat_natCast] at HE
         have HWf := Lib.hid (show (vEd (a, (bn, c))).Wf from by have := vEd_wf' h1 h2 h3; rwa [Int.toNat_natCast] at this)
         obtain ⟨wk, hwk⟩ : ∃ wk : World, Below w1.heap.size w1 wk := ⟨_, HBW.out⟩
         have HDo := Lib.hid fun W (hW : Below w.heap.size w W) => rdo_any (vEd (a, (bn, c))) HWf.out G HG.out _ _ W (RefG.below HRG.out hW)
         rw [show G.wrong (vEd (a, (bn, c))) = X.2 from by rw [HE.out], show G.app (vEd (a, (bn, c))) = X.1 from by rw [HE.out], show edC (vEd (a, (bn, c))) = #[.int .i64 0, .int .i64 a, .int .i64 0, .int .u8 (bn : Int), .int .i64 c] from rfl] at HDo
         refine wp_region_mix (fun W => Below w1.heap.size w1 W) 15 [(0, true), (1, true), (2, true), (3, true), (4, true), (5, true), (6, true), (7, true), (8, true), (9, true), (10, true), (11, true), (12, false), (13, true), (14, true)] (by kernel_rfl) (by kernel_rfl) HBW.out.drew ?_
         repeat (apply wpPlan_still rfl rfl; (intro w hw; obtain ⟨r0, r1, f0, f1, k0, k1, k2⟩ := HFF.out _ hw; clear hw; go_simp; (try go_ints); (first | with_reducible rfl | (go_simp; with_reducible rfl))); (intro K hK; go_simp; (try go_ints); refine hK _ _ ?_; clear hK K))
         apply wpPlan_act rfl rfl
         intro K hK
         unfold Oper.wp
         go_simp
         refine (HDo.out _ (HB1.out.trans (HBW.out.drew.mono HB1.out.size))).mono ?_
         rintro r w5 ⟨vV', vE', rfl, hR5, hb5⟩
         have hb5' := HBW.out.drew.trans (hb5.mono HBW.out.drew.size)
         have HR5 := Lib.hid hR5
         have HB5 := Lib.hid (HB1.out.trans (hb5'.mono HB1.out.size))
         obtain ⟨r0, r1, -⟩ := HFF.out w5 hb5'
         have HR15 := Lib.hid r1
         obtain ⟨aV', cV', hvV⟩ := hR5.1.sl
         obtain ⟨aE', cE', hvE⟩ := hR5.2.sl
         subst hvV hvE
         obtain ⟨nV, hnV⟩ : ∃ n, n = (X.1).V.length := ⟨_, rfl⟩
         obtain ⟨nE, hnE⟩ : ∃ n, n = (X.1).E.length := ⟨_, rfl⟩
         rw [← hnV, ← hnE] at HR5 ⊢
         refine hK _ _ hb5' ?_
         clear hK K hR5 hb5 hb5' hnV hnE
         repeat (apply wpPlan_still rfl rfl; (intro w hw; clear hw; go_simp; (try go_ints); (first | with_reducible rfl | (go_simp; with_reducible rfl))); (intro K hK; go_simp; (try go_ints); refine hK _ _ ?_; clear hK K))
         refine wpPlan_nil ?_
         simp only [List.drop_succ_cons, List.drop_zero]
         go_wp2_with fail
         refine ret_c2 (w.heap.size + 1) #[.slice aV' nV cV', .slice aE' nE cE'] rfl Tryz.isAgg42 Tryz.sizeOf42 rfl rfl (row?_setRow_same _ _ _ (by rw [HR15.out]; rfl)) rfl ⟨.slice aV' nV cV', .slice aE' nE cE', rfl, ?_, below_setRow HB5.out (by omega) _⟩
         exact ⟨rd_setRow (fun x => ⟨_, rfl⟩) HR5.out.1 HR15.out _, rd_setRow (fun x => ⟨_, rfl⟩) HR5.out.2 HR15.out _⟩
 · exact absurd hl hvx
end Go.Proofs.YtlmccbepllgbfaaGreatDoor
