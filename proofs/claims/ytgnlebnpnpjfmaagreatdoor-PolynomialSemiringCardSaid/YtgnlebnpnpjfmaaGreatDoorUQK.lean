/- Walk of the laws of polynomials: PolynomialSemiring. -/
import Derived.Test.YtgnlebnpnpjfmaaGreatDoorUQJ
set_option linter.all false
namespace Go.Proofs.YtgnlebnpnpjfmaaGreatDoor
open Go Go.RowKit Go.Pal Go.Shelf
attribute [local go_sem] Oper.semAt_some
theorem fitG {A B : Pol} (h1 : wt A ≤ 1298074214633706907132624082305024) (h2 : wt B ≤ 1298074214633706907132624082305024) (l1 : A.length ≤ 600) (l2 : B.length ≤ 600) : FitPQ A B := by
 have h3 : wt A * wt B ≤ 1298074214633706907132624082305024 * 1298074214633706907132624082305024 := Nat.mul_le_mul h1 h2
 have h4 := wt_pmul A B
 have hk : (221 : Nat) ≤ fitK := by unfold fitK; decide
 have hk2 : (64 : Nat) ≤ fitK := by unfold fitK; decide
 refine ⟨fit_of (k := 64) (by decide) hk2, fit_of (k := 64) (by decide) hk2, fit_of (k := 221) (by omega) hk, fit_of (k := 221) (by omega) hk, fit_of (k := 221) (by omega) hk, fit_of (k := 221) (by rw [wt_padd]; omega) hk, fit_of (k := 221) (by omega) hk, fit_of (k := 221) (by omega) hk, by omega, l1, l2⟩
structure FitPQR (P Q R : Pol) : Prop where
 pq : FitPQ P Q
 qp : FitPQ Q P
 qr : FitPQ Q R
 pr : FitPQ P R
 spr : FitPQ (padd P Q) R
 psr : FitPQ P (padd Q R)
 mpr : FitPQ (pmul P Q) R
 pmr : FitPQ P (pmul Q R)
 mm : FitPQ (pmul P Q) (pmul P R)
 pz : FitPQ P []
 po : FitPQ P oneP
theorem fitPQR {a : Nat} {P Q R : Pol} (hp : Made a P) (hq : Made a Q) (hr : Made a R) : FitPQR P Q R := by
 have h1 := hp.wt
 have h2 := hq.wt
 have h3 := hr.wt
 have l1 := hp.len
 have l2 := hq.len
 have l3 := hr.len
 have m1 : wt (pmul P Q) ≤ 34359738368 * 34359738368 := Nat.le_trans (wt_pmul P Q) (Nat.mul_le_mul h1 h2)
 have m2 : wt (pmul Q R) ≤ 34359738368 * 34359738368 := Nat.le_trans (wt_pmul Q R) (Nat.mul_le_mul h2 h3)
 have m3 : wt (pmul P R) ≤ 34359738368 * 34359738368 := Nat.le_trans (wt_pmul P R) (Nat.mul_le_mul h1 h3)
 have k1 : (pmul P Q).length ≤ 8 * 8 := Nat.le_trans (pmul_len P Q) (Nat.mul_le_mul l1 l2)
 have k2 : (pmul Q R).length ≤ 8 * 8 := Nat.le_trans (pmul_len Q R) (Nat.mul_le_mul l2 l3)
 have k3 : (pmul P R).length ≤ 8 * 8 := Nat.le_trans (pmul_len P R) (Nat.mul_le_mul l1 l3)
 have s1 := wt_padd P Q
 have s2 := wt_padd Q R
 have t1 := padd_len P Q
 have t2 := padd_len Q R
 have z : wt ([] : Pol) = 0 := rfl
 have o : wt oneP = 1 := rfl
 exact ⟨fitG (by omega) (by omega) (by omega) (by omega), fitG (by omega) (by omega) (by omega) (by omega), fitG (by omega) (by omega) (by omega) (by omega), fitG (by omega) (by omega) (by omega) (by omega), fitG (by omega) (by omega) (by omega) (by omega), fitG (by omega) (by omega) (by omega) (by omega), fitG (by omega) (by omega) (by omega) (by omega), fitG (by omega) (by omega) (by omega) (by omega), fitG (by omega) (by omega) (by omega) (by omega), fitG (by omega) (by omega) (by omega) (by simp), fitG (by omega) (by omega) (by omega) (by show (1 : Nat) ≤ 600; omega)⟩
set_option maxRecDepth 100000 in
set_option maxHeartbeats 16000000 in
theorem plsemi_any (S T U : List Tm) (hS : ∀ t ∈ S, TmOk t) (hT : ∀ t ∈ T, TmOk t) (hU : ∀ t ∈ U, TmOk t) (va vb vc : Value) (w : World) (hva : Rd tmA 3 w.heap.size w va S) (hvb : Rd tmA 3 w.heap.size w vb T) (hvc : Rd tmA 3 w.heap.size w vc U) (hE : Env w) :
   Calls Tryz.prog 5 #[va, vb, vc] w fun e w' => e = .returned (.bool true) ∧ Below w.heap.size w w' := by
 obtain ⟨P, hP⟩ : ∃ P, P = madeP 2048 (S.take 8) := ⟨_, rfl⟩
 obtain ⟨Q, hQ⟩ : ∃ Q, Q = madeP 2048 (T.take 8) := ⟨_, rfl⟩
 obtain ⟨R, hR⟩ : ∃ R, R = madeP 2048 (U.take 8) := ⟨_, rfl⟩
 have HM1 := Lib.hid (plmade_any 2048 (by decide) S hS va w hva)
 have HM2 := Lib.hid fun W (hb : Below w.heap.size w W) => plmade_any 2048 (by decide) T hT vb W ((hvb.below hb (Nat.le_refl _)).mono hb.size)
 have HM3 := Lib.hid fun W (hb : Below w.heap.size w W) => plmade_any 2048 (by decide) U hU vc W ((hvc.below hb (Nat.le_refl _)).mono hb.size)
 have HF := Lib.hid (show FitPQR P Q R from by rw [hP, hQ, hR]; exact fitPQR (made_of 2048 hS) (made_of 2048 hT) (made_of 2048 hU))
 have HMP := Lib.hid (show Made 2048 P ∧ Made 2048 Q ∧ Made 2048 R from by rw [hP, hQ, hR]; exact ⟨made_of 2048 hS, made_of 2048 hT, made_of 2048 hU⟩)
 rw [← hP] at HM1
 rw [← hQ] at HM2
 rw [← hR] at HM3
 have HE := Lib.hid hE
 obtain ⟨ta, tc, rfl⟩ := hva.sl
 obtain ⟨ua, uc, rfl⟩ := hvb.sl
 obtain ⟨xa, xc, rfl⟩ := hvc.sl
 clear hS hT hU hva hvb hvc hE hP hQ hR
 go_enter Tryz.func5, Tryz.ntmps5
 go_wp2_with fail
 refine HM1.out.mono ?_
 rintro e w1 ⟨v1, u1, rfl, h1, ref1, b1⟩
 obtain ⟨m1, rfl, h1⟩ := polV_map h1
 obtain ⟨qa1, qc1, rfl⟩ := refP_sl ref1
 have b1A : Below w.heap.size w (w1.alloc (.cells #[.map m1] 24)) := b1.alloc b1.size _
 have bA : Below w1.heap.size w1 (w1.alloc (.cells #[.map m1] 24)) := (Below.refl _ _).alloc (Nat.le_refl _) _
 have r51 : row? (w1.alloc (.cells #[.map m1] 24)) w1.heap.size = some #[.map m1] := row?_alloc_at _ _ _ _ rfl
 have HM2 := Lib.hid (HM2.out _ b1A)
 have H1 := Lib.hid (h1.below bA)
 have B1 := Lib.hid b1A
 clear h1 ref1 b1 bA b1A
 go_wp2_with fail
 refine HM2.out.mono ?_
 rintro e w2 ⟨v2, u2, rfl, h2, ref2, b2⟩
 obtain ⟨m2, rfl, h2⟩ := polV_map h2
 obtain ⟨qa2, qc2, rfl⟩ := refP_sl ref2
 have r52 := (row?_below b2 (row?_lt r51)).trans r51
 have b2w := B1.out.trans (b2.mono B1.out.size)
 have bA2 : Below w2.heap.size w2 (w2.alloc (.cells #[.map m2] 24)) := (Below.refl _ _).alloc (Nat.le_refl _) _
 have r53 := (row?_below bA2 (row?_lt r52)).trans r52
 have r73 : row? (w2.alloc (.cells #[.map m2] 24)) w2.heap.size = some #[.map m2] := row?_alloc_at _ _ _ _ rfl
 have H13 := Lib.hid ((H1.out.below b2).below bA2)
 have H23 := Lib.hid (h2.below bA2)
 have b2A := b2w.trans (bA2.mono b2w.size)
 have HM3 := Lib.hid (HM3.out _ b2A)
 have B2 := Lib.hid b2A
 clear h2 ref2 b2 bA2 b2A b2w H1 B1 r51 r52
 go_wp2_with fail
 refine HM3.out.mono ?_
 rintro e w3 ⟨v3, u3, rfl, h3, ref3, b3⟩
 obtain ⟨m3, rfl, h3⟩ := polV_map h3
 obtain ⟨qa3, qc3, rfl⟩ := refP_sl ref3
 obtain ⟨g5, hg5⟩ : ∃ g, g = w1.heap.size := ⟨_, rfl⟩
 obtain ⟨g7, hg7⟩ : ∃ g, g = w2.heap.size := ⟨_, rfl⟩
 rw [← hg5] at r53 ⊢
 rw [← hg7] at r73 ⊢
 have bA3 : Below w3.heap.size w3 (w3.alloc (.cells #[.map m3] 24)) := (Below.refl _ _).alloc (Nat.le_refl _) _
 have hb34 := b3.trans (bA3.mono b3.size)
 have r54 := (row?_below hb34 (row?_lt r53)).trans r53
 have r74 := (row?_below hb34 (row?_lt r73)).trans r73
 have r94 : row? (w3.alloc (.cells #[.map m3] 24)) w3.heap.size = some #[.map m3] := row?_alloc_at _ _ _ _ rfl
 have HP4 := Lib.hid (H13.out.below hb34)
 have HQ4 := Lib.hid (H23.out.below hb34)
 have HR4 := Lib.hid (h3.below bA3)
 have B4 := Lib.hid (B2.out.trans (hb34.mono B2.out.size))
 clear h3 ref3 b3 bA3 hb34 H13 H23 B2 r53 r73 hg5 hg7
 go_wp2_with fail
 refine (pzero_any _).mono ?_
 rintro e w5 ⟨rfl, b5⟩
 have HO := Lib.hid (pone_any w5)
 have r55 := (row?_below b5 (row?_lt r54)).trans r54
 have r75 := (row?_below b5 (row?_lt r74)).trans r74
 have r95 := (row?_below b5 (row?_lt r94)).trans r94
 have HP5 := Lib.hid (HP4.out.below b5)
 have HQ5 := Lib.hid (HQ4.out.below b5)
 have HR5 := Lib.hid (HR4.out.below b5)
 have B5 := Lib.hid (B4.out.trans (b5.mono B4.out.size))
 obtain ⟨g9, hg9⟩ : ∃ g, g = w3.heap.size := ⟨_, rfl⟩
 rw [← hg9] at r95 ⊢
 clear b5 r54 r74 r94 HP4 HQ4 HR4 B4 hg9
 go_wp2_with fail
 refine HO.out.mono ?_
 rintro e w6 ⟨v6, rfl, h6, b6⟩
 obtain ⟨mo, rfl, h6⟩ := polV_map h6
 obtain ⟨WX, hWX⟩ : ∃ W, (w6.alloc (.cells #[.map none] 24)).alloc (.cells #[.map mo] 24) = W := ⟨_, rfl⟩
 have hb6X : Below w6.heap.size w6 WX := by
   rw [← hWX]
   (repeat' (first | (with_reducible first | exact Below.refl _ _ | assumption | refine Below.alloc ?_ ?_ _ | refine Below.drew ?_ | refine Below.setCell ?_ ?_ _ | refine below_setRow ?_ ?_ _ | exact Nat.le_refl _) | omega | (simp; done) | (simp; omega) | (simp at *; omega)))
 have hb5X := b6.trans (hb6X.mono b6.size)
 have r13 : row? WX w6.heap.size = some #[.map none] := by rw [← hWX]; simp [go_sem]
 have r14 : row? WX (w6.heap.size + 1) = some #[.map mo] := by rw [← hWX]; simp [go_sem]
 have r5 := (row?_below hb5X (row?_lt r55)).trans r55
 have r7 := (row?_below hb5X (row?_lt r75)).trans r75
 have r9 := (row?_below hb5X (row?_lt r95)).trans r95
 have BX := Lib.hid (B5.out.trans (hb5X.mono B5.out.size))
 have HPX := Lib.hid (HP5.out.below hb5X)
 have HQX := Lib.hid (HQ5.out.below hb5X)
 have HRX := Lib.hid (HR5.out.below hb5X)
 have HZX := Lib.hid (polV_zero WX)
 have HOX := Lib.hid (h6.below hb6X)
 have HEX := Lib.hid (HE.out.on BX.out)
 clear h6 b6 hb6X hb5X r55 r75 r95 HP5 HQ5 HR5 B5 HO
 go_wp2_with fail
 obtain ⟨g, hg⟩ : ∃ g, g = w6.heap.size := ⟨_, rfl⟩
 rw [← hg] at r13 r14
 have HR := Lib.hid fun W (h : Below WX.heap.size WX W) => show row? W g5 = some #[.map m1] ∧ row? W g7 = some #[.map m2] ∧ row? W g9 = some #[.map m3] ∧ row? W g = some #[.map none] ∧ row? W (g + 1) = some #[.map mo] from ⟨(row?_below h (row?_lt r5)).trans r5, (row?_below h (row?_lt r7)).trans r7, (row?_below h (row?_lt r9)).trans r9, (row?_below h (row?_lt r13)).trans r13, (row?_below h (row?_lt r14)).trans r14⟩
 rw [← hg]
 clear hWX r5 r7 r9 r13 r14 hg
 refine wp_region_mix (fun W => Below WX.heap.size WX W) 80 [(0, false), (1, true), (2, true), (3, true), (5, true), (6, true), (4, false), (7, false), (8, false), (9, true), (10, true), (11, true), (12, true), (14, true), (15, true), (13, false), (16, false), (17, false), (18, true), (19, true), (20, true), (21, true), (23, true), (25, true), (26, true), (27, true), (22, false), (24, false), (28, false), (29, false), (30, false), (31, true), (32, true), (33, true), (34, true), (36, true), (38, true), (39, true), (40, true), (35, false), (37, false), (41, false), (42, false), (43, false), (44, true), (45, true), (46, true), (47, true), (48, true), (51, true), (52, true), (54, true), (55, true), (49, false), (50, false), (53, false), (56, false), (57, false), (58, false), (59, true), (60, true), (61, true), (62, true), (64, true), (63, false), (65, false), (66, true), (67, true), (68, true), (69, true), (71, true), (70, false), (72, false), (73, true), (74, true), (75, true), (76, true), (78, true), (77, false), (79, false)] (by kernel_rfl) (by kernel_rfl) (Below.refl _ _).drew ?_
 have bb0 : Below WX.heap.size WX WX.drew := (Below.refl _ _).drew
 obtain ⟨w0, hw0⟩ : ∃ W, WX.drew = W := ⟨_, rfl⟩
 rw [hw0] at bb0 ⊢
 have B0 := Lib.hid bb0
 clear hw0 bb0
 (first | refine wpPlan_actG rfl rfl ?_ | apply wpPlan_act rfl rfl)
 intro K' hK'
 unfold Oper.wp
 go_simp
 refine (plknown_any _ (HEX.out.on B0.out)).mono ?_
 rintro e w1 ⟨rfl, b1⟩
 have bb1 : Below WX.heap.size WX w1 := B0.out.trans (b1.mono B0.out.size)
 refine hK' _ _ bb1 ?_
 clear hK' K'
 have B1 := Lib.hid bb1
 clear bb1
 clear b1 B0
 repeat (first | (apply wpPlan_still rfl rfl; (intro w hw; obtain ⟨k1, k2, k3, k4, k5⟩ := HR.out w hw; clear hw; go_simp; (try go_ints); (first | with_reducible rfl | (go_simp; with_reducible rfl))); (intro K hK; go_simp; (try go_ints); refine hK _ _ ?_; clear hK K)) | (apply wpPlan_stillG rfl rfl; (intro w hw; obtain ⟨k1, k2, k3, k4, k5⟩ := HR.out w hw; clear hw; go_simp; (try go_ints); (first | with_reducible rfl | (go_simp; with_reducible rfl))); (intro K hK; go_simp; (try go_ints); refine hK _ _ ?_; clear hK K)) | (apply wpPlan_skip rfl rfl; (intro K hK; go_simp; (try go_ints); refine hK _ _ ?_; clear hK K)))
 (first | refine wpPlan_actG rfl rfl ?_ | apply wpPlan_act rfl rfl)
 intro K' hK'
 unfold Oper.wp
 go_simp
 refine (padd_any P Q _ _ _ (HPX.out.below B1.out) (HQX.out.below B1.out) HF.out.pq.sum HF.out.pq.len).mono ?_
 rintro e w4 ⟨v4, rfl, h4, b4⟩
 obtain ⟨m4, rfl, h4⟩ := polV_map h4
 have bb4 : Below WX.heap.size WX w4 := B1.out.trans (b4.mono B1.out.size)
 refine hK' _ _ bb4 ?_
 clear hK' K'
 have B4 := Lib.hid bb4
 clear bb4
 have H4 := Lib.hid h4
 clear h4
 clear b4 B1
 repeat (first | (apply wpPlan_still rfl rfl; (intro w hw; obtain ⟨k1, k2, k3, k4, k5⟩ := HR.out w hw; clear hw; go_simp; (try go_ints); (first | with_reducible rfl | (go_simp; with_reducible rfl))); (intro K hK; go_simp; (try go_ints); refine hK _ _ ?_; clear hK K)) | (apply wpPlan_stillG rfl rfl; (intro w hw; obtain ⟨k1, k2, k3, k4, k5⟩ := HR.out w hw; clear hw; go_simp; (try go_ints); (first | with_reducible rfl | (go_simp; with_reducible rfl))); (intro K hK; go_simp; (try go_ints); refine hK _ _ ?_; clear hK K)) | (apply wpPlan_skip rfl rfl; (intro K hK; go_simp; (try go_ints); refine hK _ _ ?_; clear hK K)))
 (first | refine wpPlan_actG rfl rfl ?_ | apply wpPlan_act rfl rfl)
 intro K' hK'
 unfold Oper.wp
 go_simp
 refine (padd_any Q P _ _ _ (HQX.out.below B4.out) (HPX.out.below B4.out) HF.out.qp.sum HF.out.qp.len).mono ?_
 rintro e w7 ⟨v7, rfl, h7, b7⟩
 obtain ⟨m7, rfl, h7⟩ := polV_map h7
 have bb7 : Below WX.heap.size WX w7 := B4.out.trans (b7.mono B4.out.size)
 refine hK' _ _ bb7 ?_
 clear hK' K'
 have B7 := Lib.hid bb7
 clear bb7
 have H7 := Lib.hid h7
 clear h7
 have H4 := Lib.hid (H4.out.below b7)
 clear b7 B4
 repeat (first | (apply wpPlan_still rfl rfl; (intro w hw; obtain ⟨k1, k2, k3, k4, k5⟩ := HR.out w hw; clear hw; go_simp; (try go_ints); (first | with_reducible rfl | (go_simp; with_reducible rfl))); (intro K hK; go_simp; (try go_ints); refine hK _ _ ?_; clear hK K)) | (apply wpPlan_stillG rfl rfl; (intro w hw; obtain ⟨k1, k2, k3, k4, k5⟩ := HR.out w hw; clear hw; go_simp; (try go_ints); (first | with_reducible rfl | (go_simp; with_reducible rfl))); (intro K hK; go_simp; (try go_ints); refine hK _ _ ?_; clear hK K)) | (apply wpPlan_skip rfl rfl; (intro K hK; go_simp; (try go_ints); refine hK _ _ ?_; clear hK K)))
 (first | refine wpPlan_actG rfl rfl ?_ | apply wpPlan_act rfl rfl)
 intro K' hK'
 unfold Oper.wp
 go_simp
 refine (pequal_any (padd P Q) (padd Q P) _ _ _ H4.out H7.out HF.out.pq.add).mono ?_
 rintro e w8 ⟨rfl, b8⟩
 rw [decide_eq_true (show (padd P Q) = (padd Q P) from padd_comm HMP.out.1.canon HMP.out.2.1.canon)]
 have bb8 : Below WX.heap.size WX w8 := B7.out.trans (b8.mono B7.out.size)
 refine hK' _ _ bb8 ?_
 clear hK' K'
 have B8 := Lib.hid bb8
 clear bb8
 clear b8 B7 H4 H7
 repeat (first | (apply wpPlan_still rfl rfl; (intro w hw; obtain ⟨k1, k2, k3, k4, k5⟩ := HR.out w hw; clear hw; go_simp; (try go_ints); (first | with_reducible rfl | (go_simp; with_reducible rfl))); (intro K hK; go_simp; (try go_ints); refine hK _ _ ?_; clear hK K)) | (apply wpPlan_stillG rfl rfl; (intro w hw; obtain ⟨k1, k2, k3, k4, k5⟩ := HR.out w hw; clear hw; go_simp; (try go_ints); (first | with_reducible rfl | (go_simp; with_reducible rfl))); (intro K hK; go_simp; (try go_ints); refine hK _ _ ?_; clear hK K)) | (apply wpPlan_skip rfl rfl; (intro K hK; go_simp; (try go_ints); refine hK _ _ ?_; clear hK K)))
 (first | refine wpPlan_actG rfl rfl ?_ | apply wpPlan_act rfl rfl)
 intro K' hK'
 unfold Oper.wp
 go_simp
 refine (pmul_any P Q _ _ _ (HPX.out.below B8.out) (HQX.out.below B8.out) HF.out.pq.mul HF.out.pq.p HF.out.pq.q HF.out.pq.lp HF.out.pq.lq).mono ?_
 rintro e w13 ⟨v13, rfl, h13, b13⟩
 obtain ⟨m13, rfl, h13⟩ := polV_map h13
 have bb13 : Below WX.heap.size WX w13 := B8.out.trans (b13.mono B8.out.size)
 refine hK' _ _ bb13 ?_
 clear hK' K'
 have B13 := Lib.hid bb13
 clear bb13
 have H13 := Lib.hid h13
 clear h13
 clear b13 B8
 repeat (first | (apply wpPlan_still rfl rfl; (intro w hw; obtain ⟨k1, k2, k3, k4, k5⟩ := HR.out w hw; clear hw; go_simp; (try go_ints); (first | with_reducible rfl | (go_simp; with_reducible rfl))); (intro K hK; go_simp; (try go_ints); refine hK _ _ ?_; clear hK K)) | (apply wpPlan_stillG rfl rfl; (intro w hw; obtain ⟨k1, k2, k3, k4, k5⟩ := HR.out w hw; clear hw; go_simp; (try go_ints); (first | with_reducible rfl | (go_simp; with_reducible rfl))); (intro K hK; go_simp; (try go_ints); refine hK _ _ ?_; clear hK K)) | (apply wpPlan_skip rfl rfl; (intro K hK; go_simp; (try go_ints); refine hK _ _ ?_; clear hK K)))
 (first | refine wpPlan_actG rfl rfl ?_ | apply wpPlan_act rfl rfl)
 intro K' hK'
 unfold Oper.wp
 go_simp
 refine (pmul_any Q P _ _ _ (HQX.out.below B13.out) (HPX.out.below B13.out) HF.out.qp.mul HF.out.qp.p HF.out.qp.q HF.out.qp.lp HF.out.qp.lq).mono ?_
 rintro e w16 ⟨v16, rfl, h16, b16⟩
 obtain ⟨m16, rfl, h16⟩ := polV_map h16
 have bb16 : Below WX.heap.size WX w16 := B13.out.trans (b16.mono B13.out.size)
 refine hK' _ _ bb16 ?_
 clear hK' K'
 have B16 := Lib.hid bb16
 clear bb16
 have H16 := Lib.hid h16
 clear h16
 have H13 := Lib.hid (H13.out.below b16)
 clear b16 B13
 repeat (first | (apply wpPlan_still rfl rfl; (intro w hw; obtain ⟨k1, k2, k3, k4, k5⟩ := HR.out w hw; clear hw; go_simp; (try go_ints); (first | with_reducible rfl | (go_simp; with_reducible rfl))); (intro K hK; go_simp; (try go_ints); refine hK _ _ ?_; clear hK K)) | (apply wpPlan_stillG rfl rfl; (intro w hw; obtain ⟨k1, k2, k3, k4, k5⟩ := HR.out w hw; clear hw; go_simp; (try go_ints); (first | with_reducible rfl | (go_simp; with_reducible rfl))); (intro K hK; go_simp; (try go_ints); refine hK _ _ ?_; clear hK K)) | (apply wpPlan_skip rfl rfl; (intro K hK; go_simp; (try go_ints); refine hK _ _ ?_; clear hK K)))
 (first | refine wpPlan_actG rfl rfl ?_ | apply wpPlan_act rfl rfl)
 intro K' hK'
 unfold Oper.wp
 go_simp
 refine (pequal_any (pmul P Q) (pmul Q P) _ _ _ H13.out H16.out HF.out.pq.prd).mono ?_
 rintro e w17 ⟨rfl, b17⟩
 rw [decide_eq_true (show (pmul P Q) = (pmul Q P) from pmul_comm P Q)]
 have bb17 : Below WX.heap.size WX w17 := B16.out.trans (b17.mono B16.out.size)
 refine hK' _ _ bb17 ?_
 clear hK' K'
 have B17 := Lib.hid bb17
 clear bb17
 clear b17 B16 H13 H16
 repeat (first | (apply wpPlan_still rfl rfl; (intro w hw; obtain ⟨k1, k2, k3, k4, k5⟩ := HR.out w hw; clear hw; go_simp; (try go_ints); (first | with_reducible rfl | (go_simp; with_reducible rfl))); (intro K hK; go_simp; (try go_ints); refine hK _ _ ?_; clear hK K)) | (apply wpPlan_stillG rfl rfl; (intro w hw; obtain ⟨k1, k2, k3, k4, k5⟩ := HR.out w hw; clear hw; go_simp; (try go_ints); (first | with_reducible rfl | (go_simp; with_reducible rfl))); (intro K hK; go_simp; (try go_ints); refine hK _ _ ?_; clear hK K)) | (apply wpPlan_skip rfl rfl; (intro K hK; go_simp; (try go_ints); refine hK _ _ ?_; clear hK K)))
 (first | refine wpPlan_actG rfl rfl ?_ | apply wpPlan_act rfl rfl)
 intro K' hK'
 unfold Oper.wp
 go_simp
 refine (padd_any P Q _ _ _ (HPX.out.below B17.out) (HQX.out.below B17.out) HF.out.pq.sum HF.out.pq.len).mono ?_
 rintro e w22 ⟨v22, rfl, h22, b22⟩
 obtain ⟨m22, rfl, h22⟩ := polV_map h22
 have bb22 : Below WX.heap.size WX w22 := B17.out.trans (b22.mono B17.out.size)
 refine hK' _ _ bb22 ?_
 clear hK' K'
 have B22 := Lib.hid bb22
 clear bb22
 have H22 := Lib.hid h22
 clear h22
 clear b22 B17
 repeat (first | (apply wpPlan_still rfl rfl; (intro w hw; obtain ⟨k1, k2, k3, k4, k5⟩ := HR.out w hw; clear hw; go_simp; (try go_ints); (first | with_reducible rfl | (go_simp; with_reducible rfl))); (intro K hK; go_simp; (try go_ints); refine hK _ _ ?_; clear hK K)) | (apply wpPlan_stillG rfl rfl; (intro w hw; obtain ⟨k1, k2, k3, k4, k5⟩ := HR.out w hw; clear hw; go_simp; (try go_ints); (first | with_reducible rfl | (go_simp; with_reducible rfl))); (intro K hK; go_simp; (try go_ints); refine hK _ _ ?_; clear hK K)) | (apply wpPlan_skip rfl rfl; (intro K hK; go_simp; (try go_ints); refine hK _ _ ?_; clear hK K)))
 (first | refine wpPlan_actG rfl rfl ?_ | apply wpPlan_act rfl rfl)
 intro K' hK'
 unfold Oper.wp
 go_simp
 refine (padd_any (padd P Q) R _ _ _ H22.out (HRX.out.below B22.out) HF.out.spr.sum HF.out.spr.len).mono ?_
 rintro e w24 ⟨v24, rfl, h24, b24⟩
 obtain ⟨m24, rfl, h24⟩ := polV_map h24
 have bb24 : Below WX.heap.size WX w24 := B22.out.trans (b24.mono B22.out.size)
 refine hK' _ _ bb24 ?_
 clear hK' K'
 have B24 := Lib.hid bb24
 clear bb24
 have H24 := Lib.hid h24
 clear h24
 clear b24 B22 H22
 repeat (first | (apply wpPlan_still rfl rfl; (intro w hw; obtain ⟨k1, k2, k3, k4, k5⟩ := HR.out w hw; clear hw; go_simp; (try go_ints); (first | with_reducible rfl | (go_simp; with_reducible rfl))); (intro K hK; go_simp; (try go_ints); refine hK _ _ ?_; clear hK K)) | (apply wpPlan_stillG rfl rfl; (intro w hw; obtain ⟨k1, k2, k3, k4, k5⟩ := HR.out w hw; clear hw; go_simp; (try go_ints); (first | with_reducible rfl | (go_simp; with_reducible rfl))); (intro K hK; go_simp; (try go_ints); refine hK _ _ ?_; clear hK K)) | (apply wpPlan_skip rfl rfl; (intro K hK; go_simp; (try go_ints); refine hK _ _ ?_; clear hK K)))
 (first | refine wpPlan_actG rfl rfl ?_ | apply wpPlan_act rfl rfl)
 intro K' hK'
 unfold Oper.wp
 go_simp
 refine (padd_any Q R _ _ _ (HQX.out.below B24.out) (HRX.out.below B24.out) HF.out.qr.sum HF.out.qr.len).mono ?_
 rintro e w28 ⟨v28, rfl, h28, b28⟩
 obtain ⟨m28, rfl, h28⟩ := polV_map h28
 have bb28 : Below WX.heap.size WX w28 := B24.out.trans (b28.mono B24.out.size)
 refine hK' _ _ bb28 ?_
 clear hK' K'
 have B28 := Lib.hid bb28
 clear bb28
 have H28 := Lib.hid h28
 clear h28
 have H24 := Lib.hid (H24.out.below b28)
 clear b28 B24
 repeat (first | (apply wpPlan_still rfl rfl; (intro w hw; obtain ⟨k1, k2, k3, k4, k5⟩ := HR.out w hw; clear hw; go_simp; (try go_ints); (first | with_reducible rfl | (go_simp; with_reducible rfl))); (intro K hK; go_simp; (try go_ints); refine hK _ _ ?_; clear hK K)) | (apply wpPlan_stillG rfl rfl; (intro w hw; obtain ⟨k1, k2, k3, k4, k5⟩ := HR.out w hw; clear hw; go_simp; (try go_ints); (first | with_reducible rfl | (go_simp; with_reducible rfl))); (intro K hK; go_simp; (try go_ints); refine hK _ _ ?_; clear hK K)) | (apply wpPlan_skip rfl rfl; (intro K hK; go_simp; (try go_ints); refine hK _ _ ?_; clear hK K)))
 (first | refine wpPlan_actG rfl rfl ?_ | apply wpPlan_act rfl rfl)
 intro K' hK'
 unfold Oper.wp
 go_simp
 refine (padd_any P (padd Q R) _ _ _ (HPX.out.below B28.out) H28.out HF.out.psr.sum HF.out.psr.len).mono ?_
 rintro e w29 ⟨v29, rfl, h29, b29⟩
 obtain ⟨m29, rfl, h29⟩ := polV_map h29
 have bb29 : Below WX.heap.size WX w29 := B28.out.trans (b29.mono B28.out.size)
 refine hK' _ _ bb29 ?_
 clear hK' K'
 have B29 := Lib.hid bb29
 clear bb29
 have H29 := Lib.hid h29
 clear h29
 have H24 := Lib.hid (H24.out.below b29)
 clear b29 B28 H28
 repeat (first | (apply wpPlan_still rfl rfl; (intro w hw; obtain ⟨k1, k2, k3, k4, k5⟩ := HR.out w hw; clear hw; go_simp; (try go_ints); (first | with_reducible rfl | (go_simp; with_reducible rfl))); (intro K hK; go_simp; (try go_ints); refine hK _ _ ?_; clear hK K)) | (apply wpPlan_stillG rfl rfl; (intro w hw; obtain ⟨k1, k2, k3, k4, k5⟩ := HR.out w hw; clear hw; go_simp; (try go_ints); (first | with_reducible rfl | (go_simp; with_reducible rfl))); (intro K hK; go_simp; (try go_ints); refine hK _ _ ?_; clear hK K)) | (apply wpPlan_skip rfl rfl; (intro K hK; go_simp; (try go_ints); refine hK _ _ ?_; clear hK K)))
 (first | refine wpPlan_actG rfl rfl ?_ | apply wpPlan_act rfl rfl)
 intro K' hK'
 unfold Oper.wp
 go_simp
 refine (pequal_any (padd (padd P Q) R) (padd P (padd Q R)) _ _ _ H24.out H29.out HF.out.spr.add).mono ?_
 rintro e w30 ⟨rfl, b30⟩
 rw [decide_eq_true (show (padd (padd P Q) R) = (padd P (padd Q R)) from padd_assoc HMP.out.1.canon)]
 have bb30 : Below WX.heap.size WX w30 := B29.out.trans (b30.mono B29.out.size)
 refine hK' _ _ bb30 ?_
 clear hK' K'
 have B30 := Lib.hid bb30
 clear bb30
 clear b30 B29 H24 H29
 repeat (first | (apply wpPlan_still rfl rfl; (intro w hw; obtain ⟨k1, k2, k3, k4, k5⟩ := HR.out w hw; clear hw; go_simp; (try go_ints); (first | with_reducible rfl | (go_simp; with_reducible rfl))); (intro K hK; go_simp; (try go_ints); refine hK _ _ ?_; clear hK K)) | (apply wpPlan_stillG rfl rfl; (intro w hw; obtain ⟨k1, k2, k3, k4, k5⟩ := HR.out w hw; clear hw; go_simp; (try go_ints); (first | with_reducible rfl | (go_simp; with_reducible rfl))); (intro K hK; go_simp; (try go_ints); refine hK _ _ ?_; clear hK K)) | (apply wpPlan_skip rfl rfl; (intro K hK; go_simp; (try go_ints); refine hK _ _ ?_; clear hK K)))
 (first | refine wpPlan_actG rfl rfl ?_ | apply wpPlan_act rfl rfl)
 intro K' hK'
 unfold Oper.wp
 go_simp
 refine (pmul_any P Q _ _ _ (HPX.out.below B30.out) (HQX.out.below B30.out) HF.out.pq.mul HF.out.pq.p HF.out.pq.q HF.out.pq.lp HF.out.pq.lq).mono ?_
 rintro e w35 ⟨v35, rfl, h35, b35⟩
 obtain ⟨m35, rfl, h35⟩ := polV_map h35
 have bb35 : Below WX.heap.size WX w35 := B30.out.trans (b35.mono B30.out.size)
 refine hK' _ _ bb35 ?_
 clear hK' K'
 have B35 := Lib.hid bb35
 clear bb35
 have H35 := Lib.hid h35
 clear h35
 clear b35 B30
 repeat (first | (apply wpPlan_still rfl rfl; (intro w hw; obtain ⟨k1, k2, k3, k4, k5⟩ := HR.out w hw; clear hw; go_simp; (try go_ints); (first | with_reducible rfl | (go_simp; with_reducible rfl))); (intro K hK; go_simp; (try go_ints); refine hK _ _ ?_; clear hK K)) | (apply wpPlan_stillG rfl rfl; (intro w hw; obtain ⟨k1, k2, k3, k4, k5⟩ := HR.out w hw; clear hw; go_simp; (try go_ints); (first | with_reducible rfl | (go_simp; with_reducible rfl))); (intro K hK; go_simp; (try go_ints); refine hK _ _ ?_; clear hK K)) | (apply wpPlan_skip rfl rfl; (intro K hK; go_simp; (try go_ints); refine hK _ _ ?_; clear hK K)))
 (first | refine wpPlan_actG rfl rfl ?_ | apply wpPlan_act rfl rfl)
 intro K' hK'
 unfold Oper.wp
 go_simp
 refine (pmul_any (pmul P Q) R _ _ _ H35.out (HRX.out.below B35.out) HF.out.mpr.mul HF.out.mpr.p HF.out.mpr.q HF.out.mpr.lp HF.out.mpr.lq).mono ?_
 rintro e w37 ⟨v37, rfl, h37, b37⟩
 obtain ⟨m37, rfl, h37⟩ := polV_map h37
 have bb37 : Below WX.heap.size WX w37 := B35.out.trans (b37.mono B35.out.size)
 refine hK' _ _ bb37 ?_
 clear hK' K'
 have B37 := Lib.hid bb37
 clear bb37
 have H37 := Lib.hid h37
 clear h37
 clear b37 B35 H35
 repeat (first | (apply wpPlan_still rfl rfl; (intro w hw; obtain ⟨k1, k2, k3, k4, k5⟩ := HR.out w hw; clear hw; go_simp; (try go_ints); (first | with_reducible rfl | (go_simp; with_reducible rfl))); (intro K hK; go_simp; (try go_ints); refine hK _ _ ?_; clear hK K)) | (apply wpPlan_stillG rfl rfl; (intro w hw; obtain ⟨k1, k2, k3, k4, k5⟩ := HR.out w hw; clear hw; go_simp; (try go_ints); (first | with_reducible rfl | (go_simp; with_reducible rfl))); (intro K hK; go_simp; (try go_ints); refine hK _ _ ?_; clear hK K)) | (apply wpPlan_skip rfl rfl; (intro K hK; go_simp; (try go_ints); refine hK _ _ ?_; clear hK K)))
 (first | refine wpPlan_actG rfl rfl ?_ | apply wpPlan_act rfl rfl)
 intro K' hK'
 unfold Oper.wp
 go_simp
 refine (pmul_any Q R _ _ _ (HQX.out.below B37.out) (HRX.out.below B37.out) HF.out.qr.mul HF.out.qr.p HF.out.qr.q HF.out.qr.lp HF.out.qr.lq).mono ?_
 rintro e w41 ⟨v41, rfl, h41, b41⟩
 obtain ⟨m41, rfl, h41⟩ := polV_map h41
 have bb41 : Below WX.heap.size WX w41 := B37.out.trans (b41.mono B37.out.size)
 refine hK' _ _ bb41 ?_
 clear hK' K'
 have B41 := Lib.hid bb41
 clear bb41
 have H41 := Lib.hid h41
 clear h41
 have H37 := Lib.hid (H37.out.below b41)
 clear b41 B37
 repeat (first | (apply wpPlan_still rfl rfl; (intro w hw; obtain ⟨k1, k2, k3, k4, k5⟩ := HR.out w hw; clear hw; go_simp; (try go_ints); (first | with_reducible rfl | (go_simp; with_reducible rfl))); (intro K hK; go_simp; (try go_ints); refine hK _ _ ?_; clear hK K)) | (apply wpPlan_stillG rfl rfl; (intro w hw; obtain ⟨k1, k2, k3, k4, k5⟩ := HR.out w hw; clear hw; go_simp; (try go_ints); (first | with_reducible rfl | (go_simp; with_reducible rfl))); (intro K hK; go_simp; (try go_ints); refine hK _ _ ?_; clear hK K)) | (apply wpPlan_skip rfl rfl; (intro K hK; go_simp; (try go_ints); refine hK _ _ ?_; clear hK K)))
 (first | refine wpPlan_actG rfl rfl ?_ | apply wpPlan_act rfl rfl)
 intro K' hK'
 unfold Oper.wp
 go_simp
 refine (pmul_any P (pmul Q R) _ _ _ (HPX.out.below B41.out) H41.out HF.out.pmr.mul HF.out.pmr.p HF.out.pmr.q HF.out.pmr.lp HF.out.pmr.lq).mono ?_
 rintro e w42 ⟨v42, rfl, h42, b42⟩
 obtain ⟨m42, rfl, h42⟩ := polV_map h42
 have bb42 : Below WX.heap.size WX w42 := B41.out.trans (b42.mono B41.out.size)
 refine hK' _ _ bb42 ?_
 clear hK' K'
 have B42 := Lib.hid bb42
 clear bb42
 have H42 := Lib.hid h42
 clear h42
 have H37 := Lib.hid (H37.out.below b42)
 clear b42 B41 H41
 repeat (first | (apply wpPlan_still rfl rfl; (intro w hw; obtain ⟨k1, k2, k3, k4, k5⟩ := HR.out w hw; clear hw; go_simp; (try go_ints); (first | with_reducible rfl | (go_simp; with_reducible rfl))); (intro K hK; go_simp; (try go_ints); refine hK _ _ ?_; clear hK K)) | (apply wpPlan_stillG rfl rfl; (intro w hw; obtain ⟨k1, k2, k3, k4, k5⟩ := HR.out w hw; clear hw; go_simp; (try go_ints); (first | with_reducible rfl | (go_simp; with_reducible rfl))); (intro K hK; go_simp; (try go_ints); refine hK _ _ ?_; clear hK K)) | (apply wpPlan_skip rfl rfl; (intro K hK; go_simp; (try go_ints); refine hK _ _ ?_; clear hK K)))
 (first | refine wpPlan_actG rfl rfl ?_ | apply wpPlan_act rfl rfl)
 intro K' hK'
 unfold Oper.wp
 go_simp
 refine (pequal_any (pmul (pmul P Q) R) (pmul P (pmul Q R)) _ _ _ H37.out H42.out HF.out.mpr.prd).mono ?_
 rintro e w43 ⟨rfl, b43⟩
 rw [decide_eq_true (show (pmul (pmul P Q) R) = (pmul P (pmul Q R)) from pmul_assoc P Q R)]
 have bb43 : Below WX.heap.size WX w43 := B42.out.trans (b43.mono B42.out.size)
 refine hK' _ _ bb43 ?_
 clear hK' K'
 have B43 := Lib.hid bb43
 clear bb43
 clear b43 B42 H37 H42
 repeat (first | (apply wpPlan_still rfl rfl; (intro w hw; obtain ⟨k1, k2, k3, k4, k5⟩ := HR.out w hw; clear hw; go_simp; (try go_ints); (first | with_reducible rfl | (go_simp; with_reducible rfl))); (intro K hK; go_simp; (try go_ints); refine hK _ _ ?_; clear hK K)) | (apply wpPlan_stillG rfl rfl; (intro w hw; obtain ⟨k1, k2, k3, k4, k5⟩ := HR.out w hw; clear hw; go_simp; (try go_ints); (first | with_reducible rfl | (go_simp; with_reducible rfl))); (intro K hK; go_simp; (try go_ints); refine hK _ _ ?_; clear hK K)) | (apply wpPlan_skip rfl rfl; (intro K hK; go_simp; (try go_ints); refine hK _ _ ?_; clear hK K)))
 (first | refine wpPlan_actG rfl rfl ?_ | apply wpPlan_act rfl rfl)
 intro K' hK'
 unfold Oper.wp
 go_simp
 refine (padd_any Q R _ _ _ (HQX.out.below B43.out) (HRX.out.below B43.out) HF.out.qr.sum HF.out.qr.len).mono ?_
 rintro e w49 ⟨v49, rfl, h49, b49⟩
 obtain ⟨m49, rfl, h49⟩ := polV_map h49
 have bb49 : Below WX.heap.size WX w49 := B43.out.trans (b49.mono B43.out.size)
 refine hK' _ _ bb49 ?_
 clear hK' K'
 have B49 := Lib.hid bb49
 clear bb49
 have H49 := Lib.hid h49
 clear h49
 clear b49 B43
 repeat (first | (apply wpPlan_still rfl rfl; (intro w hw; obtain ⟨k1, k2, k3, k4, k5⟩ := HR.out w hw; clear hw; go_simp; (try go_ints); (first | with_reducible rfl | (go_simp; with_reducible rfl))); (intro K hK; go_simp; (try go_ints); refine hK _ _ ?_; clear hK K)) | (apply wpPlan_stillG rfl rfl; (intro w hw; obtain ⟨k1, k2, k3, k4, k5⟩ := HR.out w hw; clear hw; go_simp; (try go_ints); (first | with_reducible rfl | (go_simp; with_reducible rfl))); (intro K hK; go_simp; (try go_ints); refine hK _ _ ?_; clear hK K)) | (apply wpPlan_skip rfl rfl; (intro K hK; go_simp; (try go_ints); refine hK _ _ ?_; clear hK K)))
 (first | refine wpPlan_actG rfl rfl ?_ | apply wpPlan_act rfl rfl)
 intro K' hK'
 unfold Oper.wp
 go_simp
 refine (pmul_any P (padd Q R) _ _ _ (HPX.out.below B49.out) H49.out HF.out.psr.mul HF.out.psr.p HF.out.psr.q HF.out.psr.lp HF.out.psr.lq).mono ?_
 rintro e w50 ⟨v50, rfl, h50, b50⟩
 obtain ⟨m50, rfl, h50⟩ := polV_map h50
 have bb50 : Below WX.heap.size WX w50 := B49.out.trans (b50.mono B49.out.size)
 refine hK' _ _ bb50 ?_
 clear hK' K'
 have B50 := Lib.hid bb50
 clear bb50
 have H50 := Lib.hid h50
 clear h50
 clear b50 B49 H49
 repeat (first | (apply wpPlan_still rfl rfl; (intro w hw; obtain ⟨k1, k2, k3, k4, k5⟩ := HR.out w hw; clear hw; go_simp; (try go_ints); (first | with_reducible rfl | (go_simp; with_reducible rfl))); (intro K hK; go_simp; (try go_ints); refine hK _ _ ?_; clear hK K)) | (apply wpPlan_stillG rfl rfl; (intro w hw; obtain ⟨k1, k2, k3, k4, k5⟩ := HR.out w hw; clear hw; go_simp; (try go_ints); (first | with_reducible rfl | (go_simp; with_reducible rfl))); (intro K hK; go_simp; (try go_ints); refine hK _ _ ?_; clear hK K)) | (apply wpPlan_skip rfl rfl; (intro K hK; go_simp; (try go_ints); refine hK _ _ ?_; clear hK K)))
 (first | refine wpPlan_actG rfl rfl ?_ | apply wpPlan_act rfl rfl)
 intro K' hK'
 unfold Oper.wp
 go_simp
 refine (pmul_any P Q _ _ _ (HPX.out.below B50.out) (HQX.out.below B50.out) HF.out.pq.mul HF.out.pq.p HF.out.pq.q HF.out.pq.lp HF.out.pq.lq).mono ?_
 rintro e w53 ⟨v53, rfl, h53, b53⟩
 obtain ⟨m53, rfl, h53⟩ := polV_map h53
 have bb53 : Below WX.heap.size WX w53 := B50.out.trans (b53.mono B50.out.size)
 refine hK' _ _ bb53 ?_
 clear hK' K'
 have B53 := Lib.hid bb53
 clear bb53
 have H53 := Lib.hid h53
 clear h53
 have H50 := Lib.hid (H50.out.below b53)
 clear b53 B50
 repeat (first | (apply wpPlan_still rfl rfl; (intro w hw; obtain ⟨k1, k2, k3, k4, k5⟩ := HR.out w hw; clear hw; go_simp; (try go_ints); (first | with_reducible rfl | (go_simp; with_reducible rfl))); (intro K hK; go_simp; (try go_ints); refine hK _ _ ?_; clear hK K)) | (apply wpPlan_stillG rfl rfl; (intro w hw; obtain ⟨k1, k2, k3, k4, k5⟩ := HR.out w hw; clear hw; go_simp; (try go_ints); (first | with_reducible rfl | (go_simp; with_reducible rfl))); (intro K hK; go_simp; (try go_ints); refine hK _ _ ?_; clear hK K)) | (apply wpPlan_skip rfl rfl; (intro K hK; go_simp; (try go_ints); refine hK _ _ ?_; clear hK K)))
 (first | refine wpPlan_actG rfl rfl ?_ | apply wpPlan_act rfl rfl)
 intro K' hK'
 unfold Oper.wp
 go_simp
 refine (pmul_any P R _ _ _ (HPX.out.below B53.out) (HRX.out.below B53.out) HF.out.pr.mul HF.out.pr.p HF.out.pr.q HF.out.pr.lp HF.out.pr.lq).mono ?_
 rintro e w56 ⟨v56, rfl, h56, b56⟩
 obtain ⟨m56, rfl, h56⟩ := polV_map h56
 have bb56 : Below WX.heap.size WX w56 := B53.out.trans (b56.mono B53.out.size)
 refine hK' _ _ bb56 ?_
 clear hK' K'
 have B56 := Lib.hid bb56
 clear bb56
 have H56 := Lib.hid h56
 clear h56
 have H50 := Lib.hid (H50.out.below b56)
 have H53 := Lib.hid (H53.out.below b56)
 clear b56 B53
 repeat (first | (apply wpPlan_still rfl rfl; (intro w hw; obtain ⟨k1, k2, k3, k4, k5⟩ := HR.out w hw; clear hw; go_simp; (try go_ints); (first | with_reducible rfl | (go_simp; with_reducible rfl))); (intro K hK; go_simp; (try go_ints); refine hK _ _ ?_; clear hK K)) | (apply wpPlan_stillG rfl rfl; (intro w hw; obtain ⟨k1, k2, k3, k4, k5⟩ := HR.out w hw; clear hw; go_simp; (try go_ints); (first | with_reducible rfl | (go_simp; with_reducible rfl))); (intro K hK; go_simp; (try go_ints); refine hK _ _ ?_; clear hK K)) | (apply wpPlan_skip rfl rfl; (intro K hK; go_simp; (try go_ints); refine hK _ _ ?_; clear hK K)))
 (first | refine wpPlan_actG rfl rfl ?_ | apply wpPlan_act rfl rfl)
 intro K' hK'
 unfold Oper.wp
 go_simp
 refine (padd_any (pmul P Q) (pmul P R) _ _ _ H53.out H56.out HF.out.mm.sum HF.out.mm.len).mono ?_
 rintro e w57 ⟨v57, rfl, h57, b57⟩
 obtain ⟨m57, rfl, h57⟩ := polV_map h57
 have bb57 : Below WX.heap.size WX w57 := B56.out.trans (b57.mono B56.out.size)
 refine hK' _ _ bb57 ?_
 clear hK' K'
 have B57 := Lib.hid bb57
 clear bb57
 have H57 := Lib.hid h57
 clear h57
 have H50 := Lib.hid (H50.out.below b57)
 clear b57 B56 H53 H56
 repeat (first | (apply wpPlan_still rfl rfl; (intro w hw; obtain ⟨k1, k2, k3, k4, k5⟩ := HR.out w hw; clear hw; go_simp; (try go_ints); (first | with_reducible rfl | (go_simp; with_reducible rfl))); (intro K hK; go_simp; (try go_ints); refine hK _ _ ?_; clear hK K)) | (apply wpPlan_stillG rfl rfl; (intro w hw; obtain ⟨k1, k2, k3, k4, k5⟩ := HR.out w hw; clear hw; go_simp; (try go_ints); (first | with_reducible rfl | (go_simp; with_reducible rfl))); (intro K hK; go_simp; (try go_ints); refine hK _ _ ?_; clear hK K)) | (apply wpPlan_skip rfl rfl; (intro K hK; go_simp; (try go_ints); refine hK _ _ ?_; clear hK K)))
 (first | refine wpPlan_actG rfl rfl ?_ | apply wpPlan_act rfl rfl)
 intro K' hK'
 unfold Oper.wp
 go_simp
 refine (pequal_any (pmul P (padd Q R)) (padd (pmul P Q) (pmul P R)) _ _ _ H50.out H57.out HF.out.psr.prd).mono ?_
 rintro e w58 ⟨rfl, b58⟩
 rw [decide_eq_true (show (pmul P (padd Q R)) = (padd (pmul P Q) (pmul P R)) from pmul_padd P Q R)]
 have bb58 : Below WX.heap.size WX w58 := B57.out.trans (b58.mono B57.out.size)
 refine hK' _ _ bb58 ?_
 clear hK' K'
 have B58 := Lib.hid bb58
 clear bb58
 clear b58 B57 H50 H57
 repeat (first | (apply wpPlan_still rfl rfl; (intro w hw; obtain ⟨k1, k2, k3, k4, k5⟩ := HR.out w hw; clear hw; go_simp; (try go_ints); (first | with_reducible rfl | (go_simp; with_reducible rfl))); (intro K hK; go_simp; (try go_ints); refine hK _ _ ?_; clear hK K)) | (apply wpPlan_stillG rfl rfl; (intro w hw; obtain ⟨k1, k2, k3, k4, k5⟩ := HR.out w hw; clear hw; go_simp; (try go_ints); (first | with_reducible rfl | (go_simp; with_reducible rfl))); (intro K hK; go_simp; (try go_ints); refine hK _ _ ?_; clear hK K)) | (apply wpPlan_skip rfl rfl; (intro K hK; go_simp; (try go_ints); refine hK _ _ ?_; clear hK K)))
 (first | refine wpPlan_actG rfl rfl ?_ | apply wpPlan_act rfl rfl)
 intro K' hK'
 unfold Oper.wp
 go_simp
 refine (padd_any P [] _ _ _ (HPX.out.below B58.out) (HZX.out.below B58.out) HF.out.pz.sum HF.out.pz.len).mono ?_
 rintro e w63 ⟨v63, rfl, h63, b63⟩
 obtain ⟨m63, rfl, h63⟩ := polV_map h63
 have bb63 : Below WX.heap.size WX w63 := B58.out.trans (b63.mono B58.out.size)
 refine hK' _ _ bb63 ?_
 clear hK' K'
 have B63 := Lib.hid bb63
 clear bb63
 have H63 := Lib.hid h63
 clear h63
 clear b63 B58
 repeat (first | (apply wpPlan_still rfl rfl; (intro w hw; obtain ⟨k1, k2, k3, k4, k5⟩ := HR.out w hw; clear hw; go_simp; (try go_ints); (first | with_reducible rfl | (go_simp; with_reducible rfl))); (intro K hK; go_simp; (try go_ints); refine hK _ _ ?_; clear hK K)) | (apply wpPlan_stillG rfl rfl; (intro w hw; obtain ⟨k1, k2, k3, k4, k5⟩ := HR.out w hw; clear hw; go_simp; (try go_ints); (first | with_reducible rfl | (go_simp; with_reducible rfl))); (intro K hK; go_simp; (try go_ints); refine hK _ _ ?_; clear hK K)) | (apply wpPlan_skip rfl rfl; (intro K hK; go_simp; (try go_ints); refine hK _ _ ?_; clear hK K)))
 (first | refine wpPlan_actG rfl rfl ?_ | apply wpPlan_act rfl rfl)
 intro K' hK'
 unfold Oper.wp
 go_simp
 refine (pequal_any (padd P []) P _ _ _ H63.out (HPX.out.below B63.out) HF.out.pz.add).mono ?_
 rintro e w65 ⟨rfl, b65⟩
 rw [decide_eq_true (show (padd P []) = P from rfl)]
 have bb65 : Below WX.heap.size WX w65 := B63.out.trans (b65.mono B63.out.size)
 refine hK' _ _ bb65 ?_
 clear hK' K'
 have B65 := Lib.hid bb65
 clear bb65
 clear b65 B63 H63
 repeat (first | (apply wpPlan_still rfl rfl; (intro w hw; obtain ⟨k1, k2, k3, k4, k5⟩ := HR.out w hw; clear hw; go_simp; (try go_ints); (first | with_reducible rfl | (go_simp; with_reducible rfl))); (intro K hK; go_simp; (try go_ints); refine hK _ _ ?_; clear hK K)) | (apply wpPlan_stillG rfl rfl; (intro w hw; obtain ⟨k1, k2, k3, k4, k5⟩ := HR.out w hw; clear hw; go_simp; (try go_ints); (first | with_reducible rfl | (go_simp; with_reducible rfl))); (intro K hK; go_simp; (try go_ints); refine hK _ _ ?_; clear hK K)) | (apply wpPlan_skip rfl rfl; (intro K hK; go_simp; (try go_ints); refine hK _ _ ?_; clear hK K)))
 (first | refine wpPlan_actG rfl rfl ?_ | apply wpPlan_act rfl rfl)
 intro K' hK'
 unfold Oper.wp
 go_simp
 refine (pmul_any P oneP _ _ _ (HPX.out.below B65.out) (HOX.out.below B65.out) HF.out.po.mul HF.out.po.p HF.out.po.q HF.out.po.lp HF.out.po.lq).mono ?_
 rintro e w70 ⟨v70, rfl, h70, b70⟩
 obtain ⟨m70, rfl, h70⟩ := polV_map h70
 have bb70 : Below WX.heap.size WX w70 := B65.out.trans (b70.mono B65.out.size)
 refine hK' _ _ bb70 ?_
 clear hK' K'
 have B70 := Lib.hid bb70
 clear bb70
 have H70 := Lib.hid h70
 clear h70
 clear b70 B65
 repeat (first | (apply wpPlan_still rfl rfl; (intro w hw; obtain ⟨k1, k2, k3, k4, k5⟩ := HR.out w hw; clear hw; go_simp; (try go_ints); (first | with_reducible rfl | (go_simp; with_reducible rfl))); (intro K hK; go_simp; (try go_ints); refine hK _ _ ?_; clear hK K)) | (apply wpPlan_stillG rfl rfl; (intro w hw; obtain ⟨k1, k2, k3, k4, k5⟩ := HR.out w hw; clear hw; go_simp; (try go_ints); (first | with_reducible rfl | (go_simp; with_reducible rfl))); (intro K hK; go_simp; (try go_ints); refine hK _ _ ?_; clear hK K)) | (apply wpPlan_skip rfl rfl; (intro K hK; go_simp; (try go_ints); refine hK _ _ ?_; clear hK K)))
 (first | refine wpPlan_actG rfl rfl ?_ | apply wpPlan_act rfl rfl)
 intro K' hK'
 unfold Oper.wp
 go_simp
 refine (pequal_any (pmul P oneP) P _ _ _ H70.out (HPX.out.below B70.out) HF.out.po.prd).mono ?_
 rintro e w72 ⟨rfl, b72⟩
 rw [decide_eq_true (show (pmul P oneP) = P from pmul_one HMP.out.1.canon HMP.out.1.upto)]
 have bb72 : Below WX.heap.size WX w72 := B70.out.trans (b72.mono B70.out.size)
 refine hK' _ _ bb72 ?_
 clear hK' K'
 have B72 := Lib.hid bb72
 clear bb72
 clear b72 B70 H70
 repeat (first | (apply wpPlan_still rfl rfl; (intro w hw; obtain ⟨k1, k2, k3, k4, k5⟩ := HR.out w hw; clear hw; go_simp; (try go_ints); (first | with_reducible rfl | (go_simp; with_reducible rfl))); (intro K hK; go_simp; (try go_ints); refine hK _ _ ?_; clear hK K)) | (apply wpPlan_stillG rfl rfl; (intro w hw; obtain ⟨k1, k2, k3, k4, k5⟩ := HR.out w hw; clear hw; go_simp; (try go_ints); (first | with_reducible rfl | (go_simp; with_reducible rfl))); (intro K hK; go_simp; (try go_ints); refine hK _ _ ?_; clear hK K)) | (apply wpPlan_skip rfl rfl; (intro K hK; go_simp; (try go_ints); refine hK _ _ ?_; clear hK K)))
 (first | refine wpPlan_actG rfl rfl ?_ | apply wpPlan_act rfl rfl)
 intro K' hK'
 unfold Oper.wp
 go_simp
 refine (pmul_any P [] _ _ _ (HPX.out.below B72.out) (HZX.out.below B72.out) HF.out.pz.mul HF.out.pz.p HF.out.pz.q HF.out.pz.lp HF.out.pz.lq).mono ?_
 rintro e w77 ⟨v77, rfl, h77, b77⟩
 obtain ⟨m77, rfl, h77⟩ := polV_map h77
 have bb77 : Below WX.heap.size WX w77 := B72.out.trans (b77.mono B72.out.size)
 refine hK' _ _ bb77 ?_
 clear hK' K'
 have B77 := Lib.hid bb77
 clear bb77
 have H77 := Lib.hid h77
 clear h77
 clear b77 B72
 repeat (first | (apply wpPlan_still rfl rfl; (intro w hw; obtain ⟨k1, k2, k3, k4, k5⟩ := HR.out w hw; clear hw; go_simp; (try go_ints); (first | with_reducible rfl | (go_simp; with_reducible rfl))); (intro K hK; go_simp; (try go_ints); refine hK _ _ ?_; clear hK K)) | (apply wpPlan_stillG rfl rfl; (intro w hw; obtain ⟨k1, k2, k3, k4, k5⟩ := HR.out w hw; clear hw; go_simp; (try go_ints); (first | with_reducible rfl | (go_simp; with_reducible rfl))); (intro K hK; go_simp; (try go_ints); refine hK _ _ ?_; clear hK K)) | (apply wpPlan_skip rfl rfl; (intro K hK; go_simp; (try go_ints); refine hK _ _ ?_; clear hK K)))
 (first | refine wpPlan_actG rfl rfl ?_ | apply wpPlan_act rfl rfl)
 intro K' hK'
 unfold Oper.wp
 go_simp
 refine (pequal_any (pmul P []) [] _ _ _ H77.out (HZX.out.below B77.out) HF.out.pz.prd).mono ?_
 rintro e w79 ⟨rfl, b79⟩
 rw [decide_eq_true (show (pmul P []) = [] from pmul_zero P)]
 have bb79 : Below WX.heap.size WX w79 := B77.out.trans (b79.mono B77.out.size)
 refine hK' _ _ bb79 ?_
 clear hK' K'
 have B79 := Lib.hid bb79
 clear bb79
 clear b79 B77 H77
 repeat (first | (apply wpPlan_still rfl rfl; (intro w hw; obtain ⟨k1, k2, k3, k4, k5⟩ := HR.out w hw; clear hw; go_simp; (try go_ints); (first | with_reducible rfl | (go_simp; with_reducible rfl))); (intro K hK; go_simp; (try go_ints); refine hK _ _ ?_; clear hK K)) | (apply wpPlan_stillG rfl rfl; (intro w hw; obtain ⟨k1, k2, k3, k4, k5⟩ := HR.out w hw; clear hw; go_simp; (try go_ints); (first | with_reducible rfl | (go_simp; with_reducible rfl))); (intro K hK; go_simp; (try go_ints); refine hK _ _ ?_; clear hK K)) | (apply wpPlan_skip rfl rfl; (intro K hK; go_simp; (try go_ints); refine hK _ _ ?_; clear hK K)))
 refine wpPlan_nil ?_
 simp only [List.append_eq, List.cons_append, List.nil_append, List.drop_succ_cons, List.drop_zero]
 go_wp2_with fail
 go_ret
 exact ⟨rfl, BX.out.trans (B79.out.mono BX.out.size)⟩
end Go.Proofs.YtgnlebnpnpjfmaaGreatDoor
