/- Walk of the laws of polynomials: PolynomialRing. -/
import Derived.Test.YtgnlebnpnpjfmaaGreatDoorUQD
import Derived.Test.YtgnlebnpnpjfmaaGreatDoorUQE
set_option linter.all false
namespace Go.Proofs.YtgnlebnpnpjfmaaGreatDoor
open Go Go.RowKit Go.Pal Go.Shelf
attribute [local go_sem] Oper.semAt_some
structure FitPQ (P Q : Pol) : Prop where
 z : Fit (wt ([] : Pol))
 o : Fit (wt oneP)
 p : Fit (wt P)
 q : Fit (wt Q)
 sum : Fit (wt P + wt Q)
 add : Fit (wt (padd P Q))
 mul : Fit (wt P * wt Q)
 prd : Fit (wt (pmul P Q))
 len : P.length + Q.length ≤ 100000
 lp : P.length ≤ 600
 lq : Q.length ≤ 600
theorem fitPQ {a b : Nat} {P Q : Pol} (hp : Made a P) (hq : Made b Q) : FitPQ P Q := by
 have h1 := hp.wt
 have h2 := hq.wt
 have l1 := hp.len
 have l2 := hq.len
 have h3 : wt P * wt Q ≤ 34359738368 * 34359738368 := Nat.mul_le_mul h1 h2
 have h4 := wt_pmul P Q
 have hk : (64 : Nat) ≤ fitK := by unfold fitK; decide
 have hk2 : (80 : Nat) ≤ fitK := by unfold fitK; decide
 refine ⟨fit_of (k := 64) (by decide) hk, fit_of (k := 64) (by decide) hk, fit_of (k := 64) (by omega) hk, fit_of (k := 64) (by omega) hk, fit_of (k := 64) (by omega) hk, fit_of (k := 64) (by rw [wt_padd]; omega) hk, fit_of (k := 80) (by omega) hk2, fit_of (k := 80) (by omega) hk2, by omega, by omega, by omega⟩
set_option maxRecDepth 100000 in
set_option maxHeartbeats 16000000 in
theorem plring_any (S T : List Tm) (hS : ∀ t ∈ S, TmOk t) (hT : ∀ t ∈ T, TmOk t) (va vb : Value) (w : World) (hva : Rd tmA 3 w.heap.size w va S) (hvb : Rd tmA 3 w.heap.size w vb T) (hE : Env w) :
   Calls Tryz.prog 9 #[va, vb] w fun e w' => e = .returned (.bool true) ∧ Below w.heap.size w w' := by
 obtain ⟨P, hP⟩ : ∃ P, P = madeP 5 (S.take 8) := ⟨_, rfl⟩
 obtain ⟨Q, hQ⟩ : ∃ Q, Q = madeP 5 (T.take 8) := ⟨_, rfl⟩
 have HM1 := Lib.hid (plmade_any 5 (by decide) S hS va w hva)
 have HM2 := Lib.hid fun W (hb : Below w.heap.size w W) => plmade_any 5 (by decide) T hT vb W ((hvb.below hb (Nat.le_refl _)).mono hb.size)
 have HF := Lib.hid (show FitPQ P Q from by rw [hP, hQ]; exact fitPQ (made_of 5 hS) (made_of 5 hT))
 have HMP := Lib.hid (show Made 5 P ∧ Made 5 Q from by rw [hP, hQ]; exact ⟨made_of 5 hS, made_of 5 hT⟩)
 rw [← hP] at HM1
 rw [← hQ] at HM2
 have HE := Lib.hid hE
 obtain ⟨ta, tc, rfl⟩ := hva.sl
 obtain ⟨ua, uc, rfl⟩ := hvb.sl
 obtain ⟨D, hD⟩ : ∃ D, decide (P = Q) = D := ⟨_, rfl⟩
 have HD := Lib.hid hD
 clear hS hT hva hvb hE hP hQ hD
 go_enter Tryz.func9, Tryz.ntmps9
 go_wp2_with fail
 refine HM1.out.mono ?_
 rintro e w1 ⟨v1, u1, rfl, h1, ref1, b1⟩
 obtain ⟨m1, rfl, h1⟩ := polV_map h1
 obtain ⟨qa1, qc1, rfl⟩ := refP_sl ref1
 have b1A : Below w.heap.size w (w1.alloc (.cells #[.map m1] 24)) := b1.alloc b1.size _
 have bA : Below w1.heap.size w1 (w1.alloc (.cells #[.map m1] 24)) := (Below.refl _ _).alloc (Nat.le_refl _) _
 have r51 : row? (w1.alloc (.cells #[.map m1] 24)) w1.heap.size = some #[.map m1] := row?_alloc_at _ _ _ _ rfl
 have HM2 := Lib.hid (HM2.out _ b1A)
 have H1 := Lib.hid (h1.below bA)
 have HR1 := Lib.hid (ref1.below bA)
 have B1 := Lib.hid b1A
 clear h1 ref1 b1 bA b1A
 go_wp2_with fail
 refine HM2.out.mono ?_
 rintro e w2 ⟨v2, u2, rfl, h2, ref2, b2⟩
 obtain ⟨m2, rfl, h2⟩ := polV_map h2
 obtain ⟨qa2, qc2, rfl⟩ := refP_sl ref2
 have r52 := (row?_below b2 (row?_lt r51)).trans r51
 have H2 := Lib.hid h2
 have H12 := Lib.hid (H1.out.below b2)
 have HR2 := Lib.hid ref2
 have HR12 := Lib.hid (HR1.out.below b2)
 have B2 := Lib.hid (B1.out.trans (b2.mono B1.out.size))
 obtain ⟨g5, hg5⟩ : ∃ g, g = w1.heap.size := ⟨_, rfl⟩
 rw [← hg5] at r52 ⊢
 have hl52 := row?_lt r52
 clear h2 ref2 b2 H1 HR1 B1 hg5 r51
 go_wp2_with fail
 obtain ⟨WX, hWX⟩ : ∃ W, (w2.alloc (.cells #[.map m2] 24)).alloc (.cells #[] 76) = W := ⟨_, rfl⟩
 have hb2X : Below w2.heap.size w2 WX := by
   rw [← hWX]
   (repeat' (first | (with_reducible first | exact Below.refl _ _ | assumption | refine Below.alloc ?_ ?_ _ | refine Below.drew ?_ | refine Below.setCell ?_ ?_ _ | refine below_setRow ?_ ?_ _ | exact Nat.le_refl _) | omega | (simp; done) | (simp; omega) | (simp at *; omega)))
 have r7 : row? WX w2.heap.size = some #[.map m2] := by rw [← hWX]; simp [go_sem]
 have r9 : row? WX (w2.heap.size + 1) = some #[] := by rw [← hWX]; simp [go_sem]
 have r5 := (row?_below hb2X (row?_lt r52)).trans r52
 have BX := Lib.hid (B2.out.trans (hb2X.mono B2.out.size))
 have HPX := Lib.hid (H12.out.below hb2X)
 have HQX := Lib.hid (H2.out.below hb2X)
 have HEX := Lib.hid (HE.out.on BX.out)
 obtain ⟨g7, hg7⟩ : ∃ g, g = w2.heap.size := ⟨_, rfl⟩
 rw [← hg7] at r7 r9
 have HR := Lib.hid fun W (h : Below WX.heap.size WX W) => show row? W g5 = some #[.map m1] ∧ row? W g7 = some #[.map m2] ∧ row? W (g7 + 1) = some #[] from ⟨(row?_below h (row?_lt r5)).trans r5, (row?_below h (row?_lt r7)).trans r7, (row?_below h (row?_lt r9)).trans r9⟩
 rw [hWX, ← hg7]
 clear hWX hb2X r5 r7 r9 H12 H2 HR2 HR12 B2 r52 hl52 hg7
 refine wp_region_mix (fun W => Below WX.heap.size WX W) 49 [(0, false), (1, true), (2, true), (3, false), (4, false), (5, false), (6, true), (7, true), (8, true), (9, false), (10, false), (11, false), (12, true), (13, true), (14, true), (15, true), (16, true), (18, true), (19, true), (17, false), (20, false), (21, false), (22, true), (23, true), (24, true), (25, true), (26, true), (28, true), (29, true), (27, false), (30, false), (31, false), (32, true), (33, true), (34, true), (35, true), (36, true), (38, true), (39, true), (37, false), (40, false), (41, true), (42, true), (43, true), (44, true), (45, true), (46, true), (47, false), (48, true)] (by kernel_rfl) (by kernel_rfl) (Below.refl _ _).drew ?_
 have bb0 : Below WX.heap.size WX WX.drew := (Below.refl _ _).drew
 obtain ⟨w0, hw0⟩ : ∃ W, WX.drew = W := ⟨_, rfl⟩
 rw [hw0] at bb0 ⊢
 have B0 := Lib.hid bb0
 clear hw0 bb0
 (first | refine wpPlan_actG rfl rfl ?_ | apply wpPlan_act rfl rfl)
 intro K' hK'
 unfold Oper.wp
 go_simp
 refine (plknown_any _ (HEX.out.on B0.out)).mono ?_
 rintro e w1 ⟨rfl, b1⟩
 have bb1 : Below WX.heap.size WX w1 := B0.out.trans (b1.mono B0.out.size)
 refine hK' _ _ bb1 ?_
 clear hK' K'
 have B1 := Lib.hid bb1
 clear bb1
 clear b1 B0
 repeat (first | (apply wpPlan_still rfl rfl; (intro w hw; obtain ⟨k1, k2, k3⟩ := HR.out w hw; clear hw; go_simp; (try go_ints); (first | with_reducible rfl | (go_simp; with_reducible rfl))); (intro K hK; go_simp; (try go_ints); refine hK _ _ ?_; clear hK K)) | (apply wpPlan_stillG rfl rfl; (intro w hw; obtain ⟨k1, k2, k3⟩ := HR.out w hw; clear hw; go_simp; (try go_ints); (first | with_reducible rfl | (go_simp; with_reducible rfl))); (intro K hK; go_simp; (try go_ints); refine hK _ _ ?_; clear hK K)) | (apply wpPlan_skip rfl rfl; (intro K hK; go_simp; (try go_ints); refine hK _ _ ?_; clear hK K)))
 (first | refine wpPlan_actG rfl rfl ?_ | apply wpPlan_act rfl rfl)
 intro K' hK'
 unfold Oper.wp
 go_simp
 refine (rgZero_any _).mono ?_
 rintro e w3 ⟨v3, rfl, h3, b3⟩
 obtain ⟨m3, rfl, h3⟩ := polV_map h3
 have bb3 : Below WX.heap.size WX w3 := B1.out.trans (b3.mono B1.out.size)
 refine hK' _ _ bb3 ?_
 clear hK' K'
 have B3 := Lib.hid bb3
 clear bb3
 have H3 := Lib.hid h3
 clear h3
 clear b3 B1
 repeat (first | (apply wpPlan_still rfl rfl; (intro w hw; obtain ⟨k1, k2, k3⟩ := HR.out w hw; clear hw; go_simp; (try go_ints); (first | with_reducible rfl | (go_simp; with_reducible rfl))); (intro K hK; go_simp; (try go_ints); refine hK _ _ ?_; clear hK K)) | (apply wpPlan_stillG rfl rfl; (intro w hw; obtain ⟨k1, k2, k3⟩ := HR.out w hw; clear hw; go_simp; (try go_ints); (first | with_reducible rfl | (go_simp; with_reducible rfl))); (intro K hK; go_simp; (try go_ints); refine hK _ _ ?_; clear hK K)) | (apply wpPlan_skip rfl rfl; (intro K hK; go_simp; (try go_ints); refine hK _ _ ?_; clear hK K)))
 (first | refine wpPlan_actG rfl rfl ?_ | apply wpPlan_act rfl rfl)
 intro K' hK'
 unfold Oper.wp
 go_simp
 refine (pzeroV_any _).mono ?_
 rintro e w4 ⟨v4, rfl, h4, b4⟩
 obtain ⟨m4, rfl, h4⟩ := polV_map h4
 have bb4 : Below WX.heap.size WX w4 := B3.out.trans (b4.mono B3.out.size)
 refine hK' _ _ bb4 ?_
 clear hK' K'
 have B4 := Lib.hid bb4
 clear bb4
 have H4 := Lib.hid h4
 clear h4
 have H3 := Lib.hid (H3.out.below b4)
 clear b4 B3
 repeat (first | (apply wpPlan_still rfl rfl; (intro w hw; obtain ⟨k1, k2, k3⟩ := HR.out w hw; clear hw; go_simp; (try go_ints); (first | with_reducible rfl | (go_simp; with_reducible rfl))); (intro K hK; go_simp; (try go_ints); refine hK _ _ ?_; clear hK K)) | (apply wpPlan_stillG rfl rfl; (intro w hw; obtain ⟨k1, k2, k3⟩ := HR.out w hw; clear hw; go_simp; (try go_ints); (first | with_reducible rfl | (go_simp; with_reducible rfl))); (intro K hK; go_simp; (try go_ints); refine hK _ _ ?_; clear hK K)) | (apply wpPlan_skip rfl rfl; (intro K hK; go_simp; (try go_ints); refine hK _ _ ?_; clear hK K)))
 (first | refine wpPlan_actG rfl rfl ?_ | apply wpPlan_act rfl rfl)
 intro K' hK'
 unfold Oper.wp
 go_simp
 refine (pequal_any [] [] _ _ _ H3.out H4.out HF.out.z).mono ?_
 rintro e w5 ⟨rfl, b5⟩
 rw [decide_eq_true (show ([] : Pol) = [] from rfl)]
 have bb5 : Below WX.heap.size WX w5 := B4.out.trans (b5.mono B4.out.size)
 refine hK' _ _ bb5 ?_
 clear hK' K'
 have B5 := Lib.hid bb5
 clear bb5
 clear b5 B4 H3 H4
 repeat (first | (apply wpPlan_still rfl rfl; (intro w hw; obtain ⟨k1, k2, k3⟩ := HR.out w hw; clear hw; go_simp; (try go_ints); (first | with_reducible rfl | (go_simp; with_reducible rfl))); (intro K hK; go_simp; (try go_ints); refine hK _ _ ?_; clear hK K)) | (apply wpPlan_stillG rfl rfl; (intro w hw; obtain ⟨k1, k2, k3⟩ := HR.out w hw; clear hw; go_simp; (try go_ints); (first | with_reducible rfl | (go_simp; with_reducible rfl))); (intro K hK; go_simp; (try go_ints); refine hK _ _ ?_; clear hK K)) | (apply wpPlan_skip rfl rfl; (intro K hK; go_simp; (try go_ints); refine hK _ _ ?_; clear hK K)))
 (first | refine wpPlan_actG rfl rfl ?_ | apply wpPlan_act rfl rfl)
 intro K' hK'
 unfold Oper.wp
 go_simp
 refine (rgOne_any _).mono ?_
 rintro e w9 ⟨v9, rfl, h9, b9⟩
 obtain ⟨m9, rfl, h9⟩ := polV_map h9
 have bb9 : Below WX.heap.size WX w9 := B5.out.trans (b9.mono B5.out.size)
 refine hK' _ _ bb9 ?_
 clear hK' K'
 have B9 := Lib.hid bb9
 clear bb9
 have H9 := Lib.hid h9
 clear h9
 clear b9 B5
 repeat (first | (apply wpPlan_still rfl rfl; (intro w hw; obtain ⟨k1, k2, k3⟩ := HR.out w hw; clear hw; go_simp; (try go_ints); (first | with_reducible rfl | (go_simp; with_reducible rfl))); (intro K hK; go_simp; (try go_ints); refine hK _ _ ?_; clear hK K)) | (apply wpPlan_stillG rfl rfl; (intro w hw; obtain ⟨k1, k2, k3⟩ := HR.out w hw; clear hw; go_simp; (try go_ints); (first | with_reducible rfl | (go_simp; with_reducible rfl))); (intro K hK; go_simp; (try go_ints); refine hK _ _ ?_; clear hK K)) | (apply wpPlan_skip rfl rfl; (intro K hK; go_simp; (try go_ints); refine hK _ _ ?_; clear hK K)))
 (first | refine wpPlan_actG rfl rfl ?_ | apply wpPlan_act rfl rfl)
 intro K' hK'
 unfold Oper.wp
 go_simp
 refine (pone_any _).mono ?_
 rintro e w10 ⟨v10, rfl, h10, b10⟩
 obtain ⟨m10, rfl, h10⟩ := polV_map h10
 have bb10 : Below WX.heap.size WX w10 := B9.out.trans (b10.mono B9.out.size)
 refine hK' _ _ bb10 ?_
 clear hK' K'
 have B10 := Lib.hid bb10
 clear bb10
 have H10 := Lib.hid h10
 clear h10
 have H9 := Lib.hid (H9.out.below b10)
 clear b10 B9
 repeat (first | (apply wpPlan_still rfl rfl; (intro w hw; obtain ⟨k1, k2, k3⟩ := HR.out w hw; clear hw; go_simp; (try go_ints); (first | with_reducible rfl | (go_simp; with_reducible rfl))); (intro K hK; go_simp; (try go_ints); refine hK _ _ ?_; clear hK K)) | (apply wpPlan_stillG rfl rfl; (intro w hw; obtain ⟨k1, k2, k3⟩ := HR.out w hw; clear hw; go_simp; (try go_ints); (first | with_reducible rfl | (go_simp; with_reducible rfl))); (intro K hK; go_simp; (try go_ints); refine hK _ _ ?_; clear hK K)) | (apply wpPlan_skip rfl rfl; (intro K hK; go_simp; (try go_ints); refine hK _ _ ?_; clear hK K)))
 (first | refine wpPlan_actG rfl rfl ?_ | apply wpPlan_act rfl rfl)
 intro K' hK'
 unfold Oper.wp
 go_simp
 refine (pequal_any oneP oneP _ _ _ H9.out H10.out HF.out.o).mono ?_
 rintro e w11 ⟨rfl, b11⟩
 rw [decide_eq_true (show oneP = oneP from rfl)]
 have bb11 : Below WX.heap.size WX w11 := B10.out.trans (b11.mono B10.out.size)
 refine hK' _ _ bb11 ?_
 clear hK' K'
 have B11 := Lib.hid bb11
 clear bb11
 clear b11 B10 H9 H10
 repeat (first | (apply wpPlan_still rfl rfl; (intro w hw; obtain ⟨k1, k2, k3⟩ := HR.out w hw; clear hw; go_simp; (try go_ints); (first | with_reducible rfl | (go_simp; with_reducible rfl))); (intro K hK; go_simp; (try go_ints); refine hK _ _ ?_; clear hK K)) | (apply wpPlan_stillG rfl rfl; (intro w hw; obtain ⟨k1, k2, k3⟩ := HR.out w hw; clear hw; go_simp; (try go_ints); (first | with_reducible rfl | (go_simp; with_reducible rfl))); (intro K hK; go_simp; (try go_ints); refine hK _ _ ?_; clear hK K)) | (apply wpPlan_skip rfl rfl; (intro K hK; go_simp; (try go_ints); refine hK _ _ ?_; clear hK K)))
 (first | refine wpPlan_actG rfl rfl ?_ | apply wpPlan_act rfl rfl)
 intro K' hK'
 unfold Oper.wp
 go_simp
 refine (rgAdd_any P Q _ _ _ (HPX.out.below B11.out) (HQX.out.below B11.out) HF.out.sum HF.out.len).mono ?_
 rintro e w17 ⟨v17, rfl, h17, b17⟩
 obtain ⟨m17, rfl, h17⟩ := polV_map h17
 have bb17 : Below WX.heap.size WX w17 := B11.out.trans (b17.mono B11.out.size)
 refine hK' _ _ bb17 ?_
 clear hK' K'
 have B17 := Lib.hid bb17
 clear bb17
 have H17 := Lib.hid h17
 clear h17
 clear b17 B11
 repeat (first | (apply wpPlan_still rfl rfl; (intro w hw; obtain ⟨k1, k2, k3⟩ := HR.out w hw; clear hw; go_simp; (try go_ints); (first | with_reducible rfl | (go_simp; with_reducible rfl))); (intro K hK; go_simp; (try go_ints); refine hK _ _ ?_; clear hK K)) | (apply wpPlan_stillG rfl rfl; (intro w hw; obtain ⟨k1, k2, k3⟩ := HR.out w hw; clear hw; go_simp; (try go_ints); (first | with_reducible rfl | (go_simp; with_reducible rfl))); (intro K hK; go_simp; (try go_ints); refine hK _ _ ?_; clear hK K)) | (apply wpPlan_skip rfl rfl; (intro K hK; go_simp; (try go_ints); refine hK _ _ ?_; clear hK K)))
 (first | refine wpPlan_actG rfl rfl ?_ | apply wpPlan_act rfl rfl)
 intro K' hK'
 unfold Oper.wp
 go_simp
 refine (padd_any P Q _ _ _ (HPX.out.below B17.out) (HQX.out.below B17.out) HF.out.sum HF.out.len).mono ?_
 rintro e w20 ⟨v20, rfl, h20, b20⟩
 obtain ⟨m20, rfl, h20⟩ := polV_map h20
 have bb20 : Below WX.heap.size WX w20 := B17.out.trans (b20.mono B17.out.size)
 refine hK' _ _ bb20 ?_
 clear hK' K'
 have B20 := Lib.hid bb20
 clear bb20
 have H20 := Lib.hid h20
 clear h20
 have H17 := Lib.hid (H17.out.below b20)
 clear b20 B17
 repeat (first | (apply wpPlan_still rfl rfl; (intro w hw; obtain ⟨k1, k2, k3⟩ := HR.out w hw; clear hw; go_simp; (try go_ints); (first | with_reducible rfl | (go_simp; with_reducible rfl))); (intro K hK; go_simp; (try go_ints); refine hK _ _ ?_; clear hK K)) | (apply wpPlan_stillG rfl rfl; (intro w hw; obtain ⟨k1, k2, k3⟩ := HR.out w hw; clear hw; go_simp; (try go_ints); (first | with_reducible rfl | (go_simp; with_reducible rfl))); (intro K hK; go_simp; (try go_ints); refine hK _ _ ?_; clear hK K)) | (apply wpPlan_skip rfl rfl; (intro K hK; go_simp; (try go_ints); refine hK _ _ ?_; clear hK K)))
 (first | refine wpPlan_actG rfl rfl ?_ | apply wpPlan_act rfl rfl)
 intro K' hK'
 unfold Oper.wp
 go_simp
 refine (pequal_any (padd P Q) (padd P Q) _ _ _ H17.out H20.out HF.out.add).mono ?_
 rintro e w21 ⟨rfl, b21⟩
 rw [decide_eq_true (show padd P Q = padd P Q from rfl)]
 have bb21 : Below WX.heap.size WX w21 := B20.out.trans (b21.mono B20.out.size)
 refine hK' _ _ bb21 ?_
 clear hK' K'
 have B21 := Lib.hid bb21
 clear bb21
 clear b21 B20 H17 H20
 repeat (first | (apply wpPlan_still rfl rfl; (intro w hw; obtain ⟨k1, k2, k3⟩ := HR.out w hw; clear hw; go_simp; (try go_ints); (first | with_reducible rfl | (go_simp; with_reducible rfl))); (intro K hK; go_simp; (try go_ints); refine hK _ _ ?_; clear hK K)) | (apply wpPlan_stillG rfl rfl; (intro w hw; obtain ⟨k1, k2, k3⟩ := HR.out w hw; clear hw; go_simp; (try go_ints); (first | with_reducible rfl | (go_simp; with_reducible rfl))); (intro K hK; go_simp; (try go_ints); refine hK _ _ ?_; clear hK K)) | (apply wpPlan_skip rfl rfl; (intro K hK; go_simp; (try go_ints); refine hK _ _ ?_; clear hK K)))
 (first | refine wpPlan_actG rfl rfl ?_ | apply wpPlan_act rfl rfl)
 intro K' hK'
 unfold Oper.wp
 go_simp
 refine (rgMul_any P Q _ _ _ (HPX.out.below B21.out) (HQX.out.below B21.out) HF.out.mul HF.out.p HF.out.q HF.out.lp HF.out.lq).mono ?_
 rintro e w27 ⟨v27, rfl, h27, b27⟩
 obtain ⟨m27, rfl, h27⟩ := polV_map h27
 have bb27 : Below WX.heap.size WX w27 := B21.out.trans (b27.mono B21.out.size)
 refine hK' _ _ bb27 ?_
 clear hK' K'
 have B27 := Lib.hid bb27
 clear bb27
 have H27 := Lib.hid h27
 clear h27
 clear b27 B21
 repeat (first | (apply wpPlan_still rfl rfl; (intro w hw; obtain ⟨k1, k2, k3⟩ := HR.out w hw; clear hw; go_simp; (try go_ints); (first | with_reducible rfl | (go_simp; with_reducible rfl))); (intro K hK; go_simp; (try go_ints); refine hK _ _ ?_; clear hK K)) | (apply wpPlan_stillG rfl rfl; (intro w hw; obtain ⟨k1, k2, k3⟩ := HR.out w hw; clear hw; go_simp; (try go_ints); (first | with_reducible rfl | (go_simp; with_reducible rfl))); (intro K hK; go_simp; (try go_ints); refine hK _ _ ?_; clear hK K)) | (apply wpPlan_skip rfl rfl; (intro K hK; go_simp; (try go_ints); refine hK _ _ ?_; clear hK K)))
 (first | refine wpPlan_actG rfl rfl ?_ | apply wpPlan_act rfl rfl)
 intro K' hK'
 unfold Oper.wp
 go_simp
 refine (pmul_any P Q _ _ _ (HPX.out.below B27.out) (HQX.out.below B27.out) HF.out.mul HF.out.p HF.out.q HF.out.lp HF.out.lq).mono ?_
 rintro e w30 ⟨v30, rfl, h30, b30⟩
 obtain ⟨m30, rfl, h30⟩ := polV_map h30
 have bb30 : Below WX.heap.size WX w30 := B27.out.trans (b30.mono B27.out.size)
 refine hK' _ _ bb30 ?_
 clear hK' K'
 have B30 := Lib.hid bb30
 clear bb30
 have H30 := Lib.hid h30
 clear h30
 have H27 := Lib.hid (H27.out.below b30)
 clear b30 B27
 repeat (first | (apply wpPlan_still rfl rfl; (intro w hw; obtain ⟨k1, k2, k3⟩ := HR.out w hw; clear hw; go_simp; (try go_ints); (first | with_reducible rfl | (go_simp; with_reducible rfl))); (intro K hK; go_simp; (try go_ints); refine hK _ _ ?_; clear hK K)) | (apply wpPlan_stillG rfl rfl; (intro w hw; obtain ⟨k1, k2, k3⟩ := HR.out w hw; clear hw; go_simp; (try go_ints); (first | with_reducible rfl | (go_simp; with_reducible rfl))); (intro K hK; go_simp; (try go_ints); refine hK _ _ ?_; clear hK K)) | (apply wpPlan_skip rfl rfl; (intro K hK; go_simp; (try go_ints); refine hK _ _ ?_; clear hK K)))
 (first | refine wpPlan_actG rfl rfl ?_ | apply wpPlan_act rfl rfl)
 intro K' hK'
 unfold Oper.wp
 go_simp
 refine (pequal_any (pmul P Q) (pmul P Q) _ _ _ H27.out H30.out HF.out.prd).mono ?_
 rintro e w31 ⟨rfl, b31⟩
 rw [decide_eq_true (show pmul P Q = pmul P Q from rfl)]
 have bb31 : Below WX.heap.size WX w31 := B30.out.trans (b31.mono B30.out.size)
 refine hK' _ _ bb31 ?_
 clear hK' K'
 have B31 := Lib.hid bb31
 clear bb31
 clear b31 B30 H27 H30
 repeat (first | (apply wpPlan_still rfl rfl; (intro w hw; obtain ⟨k1, k2, k3⟩ := HR.out w hw; clear hw; go_simp; (try go_ints); (first | with_reducible rfl | (go_simp; with_reducible rfl))); (intro K hK; go_simp; (try go_ints); refine hK _ _ ?_; clear hK K)) | (apply wpPlan_stillG rfl rfl; (intro w hw; obtain ⟨k1, k2, k3⟩ := HR.out w hw; clear hw; go_simp; (try go_ints); (first | with_reducible rfl | (go_simp; with_reducible rfl))); (intro K hK; go_simp; (try go_ints); refine hK _ _ ?_; clear hK K)) | (apply wpPlan_skip rfl rfl; (intro K hK; go_simp; (try go_ints); refine hK _ _ ?_; clear hK K)))
 (first | refine wpPlan_actG rfl rfl ?_ | apply wpPlan_act rfl rfl)
 intro K' hK'
 unfold Oper.wp
 go_simp
 refine (rgSame_any P Q _ _ _ (HPX.out.below B31.out) (HQX.out.below B31.out) HF.out.p).mono ?_
 rintro e w37 ⟨rfl, b37⟩
 rw [HD.out]
 have bb37 : Below WX.heap.size WX w37 := B31.out.trans (b37.mono B31.out.size)
 refine hK' _ _ bb37 ?_
 clear hK' K'
 have B37 := Lib.hid bb37
 clear bb37
 clear b37 B31
 repeat (first | (apply wpPlan_still rfl rfl; (intro w hw; obtain ⟨k1, k2, k3⟩ := HR.out w hw; clear hw; go_simp; (try go_ints); (first | with_reducible rfl | (go_simp; with_reducible rfl))); (intro K hK; go_simp; (try go_ints); refine hK _ _ ?_; clear hK K)) | (apply wpPlan_stillG rfl rfl; (intro w hw; obtain ⟨k1, k2, k3⟩ := HR.out w hw; clear hw; go_simp; (try go_ints); (first | with_reducible rfl | (go_simp; with_reducible rfl))); (intro K hK; go_simp; (try go_ints); refine hK _ _ ?_; clear hK K)) | (apply wpPlan_skip rfl rfl; (intro K hK; go_simp; (try go_ints); refine hK _ _ ?_; clear hK K)))
 (first | refine wpPlan_actG rfl rfl ?_ | apply wpPlan_act rfl rfl)
 intro K' hK'
 unfold Oper.wp
 go_simp
 refine (pequal_any P Q _ _ _ (HPX.out.below B37.out) (HQX.out.below B37.out) HF.out.p).mono ?_
 rintro e w40 ⟨rfl, b40⟩
 rw [HD.out]
 have bb40 : Below WX.heap.size WX w40 := B37.out.trans (b40.mono B37.out.size)
 refine hK' _ _ bb40 ?_
 clear hK' K'
 have B40 := Lib.hid bb40
 clear bb40
 clear b40 B37
 repeat (first | (apply wpPlan_still rfl rfl; (intro w hw; obtain ⟨k1, k2, k3⟩ := HR.out w hw; clear hw; go_simp; (try go_ints); (first | with_reducible rfl | (go_simp; with_reducible rfl))); (intro K hK; go_simp; (try go_ints); refine hK _ _ ?_; clear hK K)) | (apply wpPlan_stillG rfl rfl; (intro w hw; obtain ⟨k1, k2, k3⟩ := HR.out w hw; clear hw; go_simp; (try go_ints); (first | with_reducible rfl | (go_simp; with_reducible rfl))); (intro K hK; go_simp; (try go_ints); refine hK _ _ ?_; clear hK K)) | (apply wpPlan_skip rfl rfl; (intro K hK; go_simp; (try go_ints); refine hK _ _ ?_; clear hK K)))
 (first | refine wpPlan_actG rfl rfl ?_ | apply wpPlan_act rfl rfl)
 intro K' hK'
 unfold Oper.wp
 go_simp
 refine (rgSame_any P P _ _ _ (HPX.out.below B40.out) (HPX.out.below B40.out) HF.out.p).mono ?_
 rintro e w47 ⟨rfl, b47⟩
 rw [decide_eq_true (show P = P from rfl)]
 have bb47 : Below WX.heap.size WX w47 := B40.out.trans (b47.mono B40.out.size)
 refine hK' _ _ bb47 ?_
 clear hK' K'
 have B47 := Lib.hid bb47
 clear bb47
 clear b47 B40
 repeat (first | (apply wpPlan_still rfl rfl; (intro w hw; obtain ⟨k1, k2, k3⟩ := HR.out w hw; clear hw; go_simp; (try go_ints); (first | with_reducible rfl | (go_simp; with_reducible rfl))); (intro K hK; go_simp; (try go_ints); refine hK _ _ ?_; clear hK K)) | (apply wpPlan_stillG rfl rfl; (intro w hw; obtain ⟨k1, k2, k3⟩ := HR.out w hw; clear hw; go_simp; (try go_ints); (first | with_reducible rfl | (go_simp; with_reducible rfl))); (intro K hK; go_simp; (try go_ints); refine hK _ _ ?_; clear hK K)) | (apply wpPlan_skip rfl rfl; (intro K hK; go_simp; (try go_ints); refine hK _ _ ?_; clear hK K)))
 refine wpPlan_nil ?_
 simp only [List.append_eq, List.cons_append, List.nil_append, List.drop_succ_cons, List.drop_zero]
 go_wp2_with fail
 go_ret
 exact ⟨rfl, BX.out.trans (B47.out.mono BX.out.size)⟩
end Go.Proofs.YtgnlebnpnpjfmaaGreatDoor
