/- Walk of the laws of polynomials: PolynomialDerivative. -/
import Derived.Test.YtgnlebnpnpjfmaaGreatDoorUQJ
import Derived.Test.YtgnlebnpnpjfmaaGreatDoorUQN
import Derived.Test.YtgnlebnpnpjfmaaGreatDoorUQL
set_option linter.all false
namespace Go.Proofs.YtgnlebnpnpjfmaaGreatDoor
open Go Go.RowKit Go.Pal Go.Shelf
attribute [local go_sem] Oper.semAt_some
theorem fitH {A B : Pol} (h1 : wt A ≤ 1298074214633706907132624082305024) (h2 : wt B ≤ 1298074214633706907132624082305024) (l1 : A.length ≤ 600) (l2 : B.length ≤ 600) : FitPQ A B := by
 have h3 : wt A * wt B ≤ 1298074214633706907132624082305024 * 1298074214633706907132624082305024 := Nat.mul_le_mul h1 h2
 have h4 := wt_pmul A B
 have hk : (221 : Nat) ≤ fitK := by unfold fitK; decide
 have hk2 : (64 : Nat) ≤ fitK := by unfold fitK; decide
 refine ⟨fit_of (k := 64) (by decide) hk2, fit_of (k := 64) (by decide) hk2, fit_of (k := 221) (by omega) hk, fit_of (k := 221) (by omega) hk, fit_of (k := 221) (by omega) hk, fit_of (k := 221) (by rw [wt_padd]; omega) hk, fit_of (k := 221) (by omega) hk, fit_of (k := 221) (by omega) hk, by omega, l1, l2⟩
structure FitDv (P X Y : Pol) : Prop where
 dp : Fit (wt P * 2048)
 lp : P.length ≤ 100000
 up : Upto 4096 P
 fp : Fit (wt P * 4096)
 lq : P.length ≤ 90000
 td : TxB (diffP P)
 xy : FitPQ X Y
 dxy : Fit (wt (pmul X Y) * 2048)
 lxy : (pmul X Y).length ≤ 100000
 dx : Fit (wt X * 2048)
 lx : X.length ≤ 100000
 dy : Fit (wt Y * 2048)
 ly : Y.length ≤ 100000
 dxY : FitPQ (diffP X) Y
 Xdy : FitPQ X (diffP Y)
 sm : FitPQ (pmul (diffP X) Y) (pmul X (diffP Y))
 fe : Fit (wt (diffP (pmul X Y)))
theorem wt_diffP {m : Nat} {p : Pol} (h : Upto m p) : wt (diffP p) ≤ wt p * m := by
 unfold diffP
 rw [wt_nil0]
 exact wt_diffL h
theorem len_diffP (p : Pol) : (diffP p).length ≤ p.length := Nat.le_trans (len_nil0 _) (diffL_len p)
theorem fitDv {P X Y : Pol} (hp : Made 2048 P) (hx : Made 9 X) (hy : Made 9 Y) : FitDv P X Y := by
 have h1 := hp.wt
 have h2 := hx.wt
 have h3 := hy.wt
 have l1 := hp.len
 have l2 := hx.len
 have l3 := hy.len
 have d1 := wt_diffP hp.upto
 have d2 := wt_diffP hx.upto
 have d3 := wt_diffP hy.upto
 have e1 := len_diffP P
 have e2 := len_diffP X
 have e3 := len_diffP Y
 have m1 : wt (pmul X Y) ≤ 34359738368 * 34359738368 := Nat.le_trans (wt_pmul X Y) (Nat.mul_le_mul h2 h3)
 have m2 : wt (pmul (diffP X) Y) ≤ 309237645312 * 34359738368 := Nat.le_trans (wt_pmul _ Y) (Nat.mul_le_mul (by omega) h3)
 have m3 : wt (pmul X (diffP Y)) ≤ 34359738368 * 309237645312 := Nat.le_trans (wt_pmul X _) (Nat.mul_le_mul h2 (by omega))
 have k1 : (pmul X Y).length ≤ 8 * 8 := Nat.le_trans (pmul_len X Y) (Nat.mul_le_mul l2 l3)
 have k2 : (pmul (diffP X) Y).length ≤ 8 * 8 := Nat.le_trans (pmul_len _ Y) (Nat.mul_le_mul (by omega) l3)
 have k3 : (pmul X (diffP Y)).length ≤ 8 * 8 := Nat.le_trans (pmul_len X _) (Nat.mul_le_mul l2 (by omega))
 have hk : (221 : Nat) ≤ fitK := by unfold fitK; decide
 have u1 : Upto 18 (pmul X Y) := hx.upto.pmul hy.upto
 have d4 := wt_diffP u1
 exact ⟨fit_of (k := 221) (by omega) hk, by omega, hp.upto.mono (by omega), fit_of (k := 221) (by omega) hk, by omega, txB hp.upto.diff (by omega) (by omega), fitH (by omega) (by omega) (by omega) (by omega), fit_of (k := 221) (by omega) hk, by omega, fit_of (k := 221) (by omega) hk, by omega, fit_of (k := 221) (by omega) hk, by omega, fitH (by omega) (by omega) (by omega) (by omega), fitH (by omega) (by omega) (by omega) (by omega), fitH (by omega) (by omega) (by omega) (by omega), fit_of (k := 221) (by omega) hk⟩
set_option maxRecDepth 100000 in
set_option maxHeartbeats 16000000 in
theorem plderiv_any (S : List Tm) (hS : ∀ t ∈ S, TmOk t) (T : List Tm) (hT : ∀ t ∈ T, TmOk t) (va vb : Value) (w : World) (hva : Rd tmA 3 w.heap.size w va S) (hvb : Rd tmA 3 w.heap.size w vb T) (hE : Env w) :
   Calls Tryz.prog 10 #[va, vb] w fun e w' => e = .returned (.bool true) ∧ Below w.heap.size w w' := by
 obtain ⟨P, hP⟩ : ∃ P, P = madeP 2048 (S.take 8) := ⟨_, rfl⟩
 obtain ⟨X, hX⟩ : ∃ P, P = madeP 9 (S.take 8) := ⟨_, rfl⟩
 obtain ⟨Y, hY⟩ : ∃ P, P = madeP 9 (T.take 8) := ⟨_, rfl⟩
 have HM0 := Lib.hid (plmade_any 2048 (by decide) S hS va w hva)
 have HMDP := Lib.hid (show Made 2048 P from by rw [hP]; exact made_of 2048 hS)
 have HM1 := Lib.hid fun W (hb : Below w.heap.size w W) => plmade_any 9 (by decide) S hS va W ((hva.below hb (Nat.le_refl _)).mono hb.size)
 have HMDX := Lib.hid (show Made 9 X from by rw [hX]; exact made_of 9 hS)
 have HM2 := Lib.hid fun W (hb : Below w.heap.size w W) => plmade_any 9 (by decide) T hT vb W ((hvb.below hb (Nat.le_refl _)).mono hb.size)
 have HMDY := Lib.hid (show Made 9 Y from by rw [hY]; exact made_of 9 hT)
 have HF := Lib.hid (show FitDv P X Y from fitDv HMDP.out HMDX.out HMDY.out)
 rw [← hP] at HM0
 rw [← hX] at HM1
 rw [← hY] at HM2
 have HE := Lib.hid hE
 obtain ⟨sava, scva, rfl⟩ := hva.sl
 obtain ⟨savb, scvb, rfl⟩ := hvb.sl
 clear hS hva hT hvb hE hP hX hY
 go_enter Tryz.func10, Tryz.ntmps10
 go_wp2_with fail
 refine HM0.out.mono ?_
 rintro e w1 ⟨v1, u1, rfl, h1, ref1, b1⟩
 obtain ⟨m1, rfl, h1⟩ := polV_map h1
 obtain ⟨qa1, qc1, rfl⟩ := refP_sl ref1
 have bw := b1
 have bA : Below w1.heap.size w1 (w1.alloc (.cells #[.map m1] 24)) := (Below.refl _ _).alloc (Nat.le_refl _) _
 have r1 : row? (w1.alloc (.cells #[.map m1] 24)) w1.heap.size = some #[.map m1] := row?_alloc_at _ _ _ _ rfl
 have H1 := Lib.hid (h1.below bA)
 have V1 := Lib.hid (ref1.below bA)
 have bwA := bw.trans (bA.mono bw.size)
 have HM1 := Lib.hid (HM1.out _ bwA)
 have B1 := Lib.hid bwA
 clear h1 ref1 b1 bA bw bwA
 go_wp2_with fail
 refine HM1.out.mono ?_
 rintro e w2 ⟨v2, u2, rfl, h2, ref2, b2⟩
 obtain ⟨m2, rfl, h2⟩ := polV_map h2
 obtain ⟨qa2, qc2, rfl⟩ := refP_sl ref2
 obtain ⟨g1, hg1⟩ : ∃ g, g = w1.heap.size := ⟨_, rfl⟩
 rw [← hg1] at r1 ⊢
 clear hg1
 have r1 := (row?_below b2 (row?_lt r1)).trans r1
 have H1 := Lib.hid (H1.out.below b2)
 have V1 := Lib.hid (V1.out.below b2)
 have bw := B1.out.trans (b2.mono B1.out.size)
 have bA : Below w2.heap.size w2 (w2.alloc (.cells #[.map m2] 24)) := (Below.refl _ _).alloc (Nat.le_refl _) _
 have r1 := (row?_below bA (row?_lt r1)).trans r1
 have H1 := Lib.hid (H1.out.below bA)
 have V1 := Lib.hid (V1.out.below bA)
 have r2 : row? (w2.alloc (.cells #[.map m2] 24)) w2.heap.size = some #[.map m2] := row?_alloc_at _ _ _ _ rfl
 have H2 := Lib.hid (h2.below bA)
 have V2 := Lib.hid (ref2.below bA)
 have bwA := bw.trans (bA.mono bw.size)
 have HM2 := Lib.hid (HM2.out _ bwA)
 have B2 := Lib.hid bwA
 clear h2 ref2 b2 bA bw bwA
 go_wp2_with fail
 refine HM2.out.mono ?_
 rintro e w3 ⟨v3, u3, rfl, h3, ref3, b3⟩
 obtain ⟨m3, rfl, h3⟩ := polV_map h3
 obtain ⟨qa3, qc3, rfl⟩ := refP_sl ref3
 obtain ⟨g2, hg2⟩ : ∃ g, g = w2.heap.size := ⟨_, rfl⟩
 rw [← hg2] at r2 ⊢
 clear hg2
 have r1 := (row?_below b3 (row?_lt r1)).trans r1
 have H1 := Lib.hid (H1.out.below b3)
 have V1 := Lib.hid (V1.out.below b3)
 have r2 := (row?_below b3 (row?_lt r2)).trans r2
 have H2 := Lib.hid (H2.out.below b3)
 have V2 := Lib.hid (V2.out.below b3)
 have bw := B2.out.trans (b3.mono B2.out.size)
 have bA : Below w3.heap.size w3 (w3.alloc (.cells #[.map m3] 24)) := (Below.refl _ _).alloc (Nat.le_refl _) _
 have r1 := (row?_below bA (row?_lt r1)).trans r1
 have H1 := Lib.hid (H1.out.below bA)
 have V1 := Lib.hid (V1.out.below bA)
 have r2 := (row?_below bA (row?_lt r2)).trans r2
 have H2 := Lib.hid (H2.out.below bA)
 have V2 := Lib.hid (V2.out.below bA)
 have r3 : row? (w3.alloc (.cells #[.map m3] 24)) w3.heap.size = some #[.map m3] := row?_alloc_at _ _ _ _ rfl
 have H3 := Lib.hid (h3.below bA)
 have V3 := Lib.hid (ref3.below bA)
 have bwA := bw.trans (bA.mono bw.size)
 have B3 := Lib.hid bwA
 clear h3 ref3 b3 bA bw bwA
 obtain ⟨WX, hWX⟩ : ∃ W, w3.alloc (.cells #[.map m3] 24) = W := ⟨_, rfl⟩
 rw [hWX] at r1 H1 V1 r2 H2 V2 r3 H3 V3 B3
 have BX := Lib.hid B3.out
 have HEX := Lib.hid (HE.out.on BX.out)
 have BXX := Lib.hid (Below.refl WX.heap.size WX)
 have HPX := Lib.hid H1.out
 have VPX := Lib.hid V1.out
 have HXX := Lib.hid H2.out
 have VXX := Lib.hid V2.out
 have HYX := Lib.hid H3.out
 have VYX := Lib.hid V3.out
 go_wp2_with fail
 obtain ⟨g3, hg3⟩ : ∃ g, g = w3.heap.size := ⟨_, rfl⟩
 rw [← hg3] at r3
 have HR := Lib.hid fun W (h : Below WX.heap.size WX W) => show row? W g1 = some #[.map m1] ∧ row? W g2 = some #[.map m2] ∧ row? W g3 = some #[.map m3] from ⟨(row?_below h (row?_lt r1)).trans r1, (row?_below h (row?_lt r2)).trans r2, (row?_below h (row?_lt r3)).trans r3⟩
 rw [← hg3]
 clear hg3 r1 H1 V1 r2 H2 V2 r3 H3 V3
 refine wp_region_mix (fun W => Below WX.heap.size WX W) 24 [(0, false), (1, true), (2, true), (4, true), (3, false), (5, false), (6, false), (7, true), (8, true), (9, true), (10, true), (13, true), (15, true), (17, true), (18, true), (11, false), (12, false), (14, false), (16, false), (19, false), (20, false), (21, false), (22, false), (23, true)] (by kernel_rfl) (by kernel_rfl) (Below.refl _ _).drew ?_
 have bb0 : Below WX.heap.size WX WX.drew := (Below.refl _ _).drew
 obtain ⟨w0, hw0⟩ : ∃ W, WX.drew = W := ⟨_, rfl⟩
 rw [hw0] at bb0 ⊢
 have B0 := Lib.hid bb0
 clear hw0 bb0
 (first | refine wpPlan_actG rfl rfl ?_ | apply wpPlan_act rfl rfl)
 intro K' hK'
 unfold Oper.wp
 go_simp
 refine (plknown_any _ (HEX.out.on B0.out)).mono ?_
 rintro e w1 ⟨rfl, b1⟩
 have bb1 : Below WX.heap.size WX w1 := B0.out.trans (b1.mono B0.out.size)
 refine hK' _ _ bb1 ?_
 clear hK' K'
 have B1 := Lib.hid bb1
 clear bb1
 clear b1 B0
 repeat (first | (apply wpPlan_still rfl rfl; (intro w hw; obtain ⟨k1, k2, k3⟩ := HR.out w hw; clear hw; go_simp; (try go_ints); (first | with_reducible rfl | (go_simp; with_reducible rfl))); (intro K hK; go_simp; (try go_ints); refine hK _ _ ?_; clear hK K)) | (apply wpPlan_stillG rfl rfl; (intro w hw; obtain ⟨k1, k2, k3⟩ := HR.out w hw; clear hw; go_simp; (try go_ints); (first | with_reducible rfl | (go_simp; with_reducible rfl))); (intro K hK; go_simp; (try go_ints); refine hK _ _ ?_; clear hK K)) | (apply wpPlan_skip rfl rfl; (intro K hK; go_simp; (try go_ints); refine hK _ _ ?_; clear hK K)))
 (first | refine wpPlan_actG rfl rfl ?_ | apply wpPlan_act rfl rfl)
 intro K' hK'
 unfold Oper.wp
 go_simp
 refine (pdiff_any P _ _ (HPX.out.below B1.out) HF.out.dp HF.out.lp).mono ?_
 rintro e w3 ⟨v3, rfl, h3, b3⟩
 obtain ⟨m3, rfl, h3⟩ := polV_map h3
 have bb3 : Below WX.heap.size WX w3 := B1.out.trans (b3.mono B1.out.size)
 refine hK' _ _ bb3 ?_
 clear hK' K'
 have B3 := Lib.hid bb3
 clear bb3
 have H3 := Lib.hid h3
 clear h3
 clear b3 B1
 repeat (first | (apply wpPlan_still rfl rfl; (intro w hw; obtain ⟨k1, k2, k3⟩ := HR.out w hw; clear hw; go_simp; (try go_ints); (first | with_reducible rfl | (go_simp; with_reducible rfl))); (intro K hK; go_simp; (try go_ints); refine hK _ _ ?_; clear hK K)) | (apply wpPlan_stillG rfl rfl; (intro w hw; obtain ⟨k1, k2, k3⟩ := HR.out w hw; clear hw; go_simp; (try go_ints); (first | with_reducible rfl | (go_simp; with_reducible rfl))); (intro K hK; go_simp; (try go_ints); refine hK _ _ ?_; clear hK K)) | (apply wpPlan_skip rfl rfl; (intro K hK; go_simp; (try go_ints); refine hK _ _ ?_; clear hK K)))
 (first | refine wpPlan_actG rfl rfl ?_ | apply wpPlan_act rfl rfl)
 intro K' hK'
 unfold Oper.wp
 go_simp
 refine (qdiff_any P _ _ (VPX.out.below B3.out) HMDP.out.canon.pos HF.out.up HF.out.fp HF.out.lq).mono ?_
 rintro e w5 ⟨v5, rfl, h5, b5⟩
 obtain ⟨ra5, rc5, rfl⟩ := refP_sl h5
 have bb5 : Below WX.heap.size WX w5 := B3.out.trans (b5.mono B3.out.size)
 refine hK' _ _ bb5 ?_
 clear hK' K'
 have B5 := Lib.hid bb5
 clear bb5
 have H5 := Lib.hid h5
 clear h5
 have H3 := Lib.hid (H3.out.below b5)
 clear b5 B3
 repeat (first | (apply wpPlan_still rfl rfl; (intro w hw; obtain ⟨k1, k2, k3⟩ := HR.out w hw; clear hw; go_simp; (try go_ints); (first | with_reducible rfl | (go_simp; with_reducible rfl))); (intro K hK; go_simp; (try go_ints); refine hK _ _ ?_; clear hK K)) | (apply wpPlan_stillG rfl rfl; (intro w hw; obtain ⟨k1, k2, k3⟩ := HR.out w hw; clear hw; go_simp; (try go_ints); (first | with_reducible rfl | (go_simp; with_reducible rfl))); (intro K hK; go_simp; (try go_ints); refine hK _ _ ?_; clear hK K)) | (apply wpPlan_skip rfl rfl; (intro K hK; go_simp; (try go_ints); refine hK _ _ ?_; clear hK K)))
 (first | refine wpPlan_actG rfl rfl ?_ | apply wpPlan_act rfl rfl)
 intro K' hK'
 unfold Oper.wp
 go_simp
 refine (plalike_any (diffP P) (diffP P) _ _ _ H3.out H5.out HF.out.td HF.out.td (HEX.out.on B5.out)).mono ?_
 rintro e w6 ⟨rfl, b6⟩
 rw [decide_eq_true (show textP (diffP P) = textP (diffP P) from rfl)]
 have bb6 : Below WX.heap.size WX w6 := B5.out.trans (b6.mono B5.out.size)
 refine hK' _ _ bb6 ?_
 clear hK' K'
 have B6 := Lib.hid bb6
 clear bb6
 clear b6 B5 H3 H5
 repeat (first | (apply wpPlan_still rfl rfl; (intro w hw; obtain ⟨k1, k2, k3⟩ := HR.out w hw; clear hw; go_simp; (try go_ints); (first | with_reducible rfl | (go_simp; with_reducible rfl))); (intro K hK; go_simp; (try go_ints); refine hK _ _ ?_; clear hK K)) | (apply wpPlan_stillG rfl rfl; (intro w hw; obtain ⟨k1, k2, k3⟩ := HR.out w hw; clear hw; go_simp; (try go_ints); (first | with_reducible rfl | (go_simp; with_reducible rfl))); (intro K hK; go_simp; (try go_ints); refine hK _ _ ?_; clear hK K)) | (apply wpPlan_skip rfl rfl; (intro K hK; go_simp; (try go_ints); refine hK _ _ ?_; clear hK K)))
 (first | refine wpPlan_actG rfl rfl ?_ | apply wpPlan_act rfl rfl)
 intro K' hK'
 unfold Oper.wp
 go_simp
 refine (pmul_any X Y _ _ _ (HXX.out.below B6.out) (HYX.out.below B6.out) HF.out.xy.mul HF.out.xy.p HF.out.xy.q HF.out.xy.lp HF.out.xy.lq).mono ?_
 rintro e w11 ⟨v11, rfl, h11, b11⟩
 obtain ⟨m11, rfl, h11⟩ := polV_map h11
 have bb11 : Below WX.heap.size WX w11 := B6.out.trans (b11.mono B6.out.size)
 refine hK' _ _ bb11 ?_
 clear hK' K'
 have B11 := Lib.hid bb11
 clear bb11
 have H11 := Lib.hid h11
 clear h11
 clear b11 B6
 repeat (first | (apply wpPlan_still rfl rfl; (intro w hw; obtain ⟨k1, k2, k3⟩ := HR.out w hw; clear hw; go_simp; (try go_ints); (first | with_reducible rfl | (go_simp; with_reducible rfl))); (intro K hK; go_simp; (try go_ints); refine hK _ _ ?_; clear hK K)) | (apply wpPlan_stillG rfl rfl; (intro w hw; obtain ⟨k1, k2, k3⟩ := HR.out w hw; clear hw; go_simp; (try go_ints); (first | with_reducible rfl | (go_simp; with_reducible rfl))); (intro K hK; go_simp; (try go_ints); refine hK _ _ ?_; clear hK K)) | (apply wpPlan_skip rfl rfl; (intro K hK; go_simp; (try go_ints); refine hK _ _ ?_; clear hK K)))
 (first | refine wpPlan_actG rfl rfl ?_ | apply wpPlan_act rfl rfl)
 intro K' hK'
 unfold Oper.wp
 go_simp
 refine (pdiff_any (pmul X Y) _ _ H11.out HF.out.dxy HF.out.lxy).mono ?_
 rintro e w12 ⟨v12, rfl, h12, b12⟩
 obtain ⟨m12, rfl, h12⟩ := polV_map h12
 have bb12 : Below WX.heap.size WX w12 := B11.out.trans (b12.mono B11.out.size)
 refine hK' _ _ bb12 ?_
 clear hK' K'
 have B12 := Lib.hid bb12
 clear bb12
 have H12 := Lib.hid h12
 clear h12
 clear b12 B11 H11
 repeat (first | (apply wpPlan_still rfl rfl; (intro w hw; obtain ⟨k1, k2, k3⟩ := HR.out w hw; clear hw; go_simp; (try go_ints); (first | with_reducible rfl | (go_simp; with_reducible rfl))); (intro K hK; go_simp; (try go_ints); refine hK _ _ ?_; clear hK K)) | (apply wpPlan_stillG rfl rfl; (intro w hw; obtain ⟨k1, k2, k3⟩ := HR.out w hw; clear hw; go_simp; (try go_ints); (first | with_reducible rfl | (go_simp; with_reducible rfl))); (intro K hK; go_simp; (try go_ints); refine hK _ _ ?_; clear hK K)) | (apply wpPlan_skip rfl rfl; (intro K hK; go_simp; (try go_ints); refine hK _ _ ?_; clear hK K)))
 (first | refine wpPlan_actG rfl rfl ?_ | apply wpPlan_act rfl rfl)
 intro K' hK'
 unfold Oper.wp
 go_simp
 refine (pdiff_any X _ _ (HXX.out.below B12.out) HF.out.dx HF.out.lx).mono ?_
 rintro e w14 ⟨v14, rfl, h14, b14⟩
 obtain ⟨m14, rfl, h14⟩ := polV_map h14
 have bb14 : Below WX.heap.size WX w14 := B12.out.trans (b14.mono B12.out.size)
 refine hK' _ _ bb14 ?_
 clear hK' K'
 have B14 := Lib.hid bb14
 clear bb14
 have H14 := Lib.hid h14
 clear h14
 have H12 := Lib.hid (H12.out.below b14)
 clear b14 B12
 repeat (first | (apply wpPlan_still rfl rfl; (intro w hw; obtain ⟨k1, k2, k3⟩ := HR.out w hw; clear hw; go_simp; (try go_ints); (first | with_reducible rfl | (go_simp; with_reducible rfl))); (intro K hK; go_simp; (try go_ints); refine hK _ _ ?_; clear hK K)) | (apply wpPlan_stillG rfl rfl; (intro w hw; obtain ⟨k1, k2, k3⟩ := HR.out w hw; clear hw; go_simp; (try go_ints); (first | with_reducible rfl | (go_simp; with_reducible rfl))); (intro K hK; go_simp; (try go_ints); refine hK _ _ ?_; clear hK K)) | (apply wpPlan_skip rfl rfl; (intro K hK; go_simp; (try go_ints); refine hK _ _ ?_; clear hK K)))
 (first | refine wpPlan_actG rfl rfl ?_ | apply wpPlan_act rfl rfl)
 intro K' hK'
 unfold Oper.wp
 go_simp
 refine (pmul_any (diffP X) Y _ _ _ H14.out (HYX.out.below B14.out) HF.out.dxY.mul HF.out.dxY.p HF.out.dxY.q HF.out.dxY.lp HF.out.dxY.lq).mono ?_
 rintro e w16 ⟨v16, rfl, h16, b16⟩
 obtain ⟨m16, rfl, h16⟩ := polV_map h16
 have bb16 : Below WX.heap.size WX w16 := B14.out.trans (b16.mono B14.out.size)
 refine hK' _ _ bb16 ?_
 clear hK' K'
 have B16 := Lib.hid bb16
 clear bb16
 have H16 := Lib.hid h16
 clear h16
 have H12 := Lib.hid (H12.out.below b16)
 clear b16 B14 H14
 repeat (first | (apply wpPlan_still rfl rfl; (intro w hw; obtain ⟨k1, k2, k3⟩ := HR.out w hw; clear hw; go_simp; (try go_ints); (first | with_reducible rfl | (go_simp; with_reducible rfl))); (intro K hK; go_simp; (try go_ints); refine hK _ _ ?_; clear hK K)) | (apply wpPlan_stillG rfl rfl; (intro w hw; obtain ⟨k1, k2, k3⟩ := HR.out w hw; clear hw; go_simp; (try go_ints); (first | with_reducible rfl | (go_simp; with_reducible rfl))); (intro K hK; go_simp; (try go_ints); refine hK _ _ ?_; clear hK K)) | (apply wpPlan_skip rfl rfl; (intro K hK; go_simp; (try go_ints); refine hK _ _ ?_; clear hK K)))
 (first | refine wpPlan_actG rfl rfl ?_ | apply wpPlan_act rfl rfl)
 intro K' hK'
 unfold Oper.wp
 go_simp
 refine (pdiff_any Y _ _ (HYX.out.below B16.out) HF.out.dy HF.out.ly).mono ?_
 rintro e w19 ⟨v19, rfl, h19, b19⟩
 obtain ⟨m19, rfl, h19⟩ := polV_map h19
 have bb19 : Below WX.heap.size WX w19 := B16.out.trans (b19.mono B16.out.size)
 refine hK' _ _ bb19 ?_
 clear hK' K'
 have B19 := Lib.hid bb19
 clear bb19
 have H19 := Lib.hid h19
 clear h19
 have H12 := Lib.hid (H12.out.below b19)
 have H16 := Lib.hid (H16.out.below b19)
 clear b19 B16
 repeat (first | (apply wpPlan_still rfl rfl; (intro w hw; obtain ⟨k1, k2, k3⟩ := HR.out w hw; clear hw; go_simp; (try go_ints); (first | with_reducible rfl | (go_simp; with_reducible rfl))); (intro K hK; go_simp; (try go_ints); refine hK _ _ ?_; clear hK K)) | (apply wpPlan_stillG rfl rfl; (intro w hw; obtain ⟨k1, k2, k3⟩ := HR.out w hw; clear hw; go_simp; (try go_ints); (first | with_reducible rfl | (go_simp; with_reducible rfl))); (intro K hK; go_simp; (try go_ints); refine hK _ _ ?_; clear hK K)) | (apply wpPlan_skip rfl rfl; (intro K hK; go_simp; (try go_ints); refine hK _ _ ?_; clear hK K)))
 (first | refine wpPlan_actG rfl rfl ?_ | apply wpPlan_act rfl rfl)
 intro K' hK'
 unfold Oper.wp
 go_simp
 refine (pmul_any X (diffP Y) _ _ _ (HXX.out.below B19.out) H19.out HF.out.Xdy.mul HF.out.Xdy.p HF.out.Xdy.q HF.out.Xdy.lp HF.out.Xdy.lq).mono ?_
 rintro e w20 ⟨v20, rfl, h20, b20⟩
 obtain ⟨m20, rfl, h20⟩ := polV_map h20
 have bb20 : Below WX.heap.size WX w20 := B19.out.trans (b20.mono B19.out.size)
 refine hK' _ _ bb20 ?_
 clear hK' K'
 have B20 := Lib.hid bb20
 clear bb20
 have H20 := Lib.hid h20
 clear h20
 have H12 := Lib.hid (H12.out.below b20)
 have H16 := Lib.hid (H16.out.below b20)
 clear b20 B19 H19
 repeat (first | (apply wpPlan_still rfl rfl; (intro w hw; obtain ⟨k1, k2, k3⟩ := HR.out w hw; clear hw; go_simp; (try go_ints); (first | with_reducible rfl | (go_simp; with_reducible rfl))); (intro K hK; go_simp; (try go_ints); refine hK _ _ ?_; clear hK K)) | (apply wpPlan_stillG rfl rfl; (intro w hw; obtain ⟨k1, k2, k3⟩ := HR.out w hw; clear hw; go_simp; (try go_ints); (first | with_reducible rfl | (go_simp; with_reducible rfl))); (intro K hK; go_simp; (try go_ints); refine hK _ _ ?_; clear hK K)) | (apply wpPlan_skip rfl rfl; (intro K hK; go_simp; (try go_ints); refine hK _ _ ?_; clear hK K)))
 (first | refine wpPlan_actG rfl rfl ?_ | apply wpPlan_act rfl rfl)
 intro K' hK'
 unfold Oper.wp
 go_simp
 refine (padd_any (pmul (diffP X) Y) (pmul X (diffP Y)) _ _ _ H16.out H20.out HF.out.sm.sum HF.out.sm.len).mono ?_
 rintro e w21 ⟨v21, rfl, h21, b21⟩
 obtain ⟨m21, rfl, h21⟩ := polV_map h21
 have bb21 : Below WX.heap.size WX w21 := B20.out.trans (b21.mono B20.out.size)
 refine hK' _ _ bb21 ?_
 clear hK' K'
 have B21 := Lib.hid bb21
 clear bb21
 have H21 := Lib.hid h21
 clear h21
 have H12 := Lib.hid (H12.out.below b21)
 clear b21 B20 H16 H20
 repeat (first | (apply wpPlan_still rfl rfl; (intro w hw; obtain ⟨k1, k2, k3⟩ := HR.out w hw; clear hw; go_simp; (try go_ints); (first | with_reducible rfl | (go_simp; with_reducible rfl))); (intro K hK; go_simp; (try go_ints); refine hK _ _ ?_; clear hK K)) | (apply wpPlan_stillG rfl rfl; (intro w hw; obtain ⟨k1, k2, k3⟩ := HR.out w hw; clear hw; go_simp; (try go_ints); (first | with_reducible rfl | (go_simp; with_reducible rfl))); (intro K hK; go_simp; (try go_ints); refine hK _ _ ?_; clear hK K)) | (apply wpPlan_skip rfl rfl; (intro K hK; go_simp; (try go_ints); refine hK _ _ ?_; clear hK K)))
 (first | refine wpPlan_actG rfl rfl ?_ | apply wpPlan_act rfl rfl)
 intro K' hK'
 unfold Oper.wp
 go_simp
 refine (pequal_any (diffP (pmul X Y)) (padd (pmul (diffP X) Y) (pmul X (diffP Y))) _ _ _ H12.out H21.out HF.out.fe).mono ?_
 rintro e w22 ⟨rfl, b22⟩
 rw [decide_eq_true (show diffP (pmul X Y) = padd (pmul (diffP X) Y) (pmul X (diffP Y)) from diff_pmul (HMDX.out.upto.mono (by decide)) (HMDY.out.upto.mono (by decide)))]
 have bb22 : Below WX.heap.size WX w22 := B21.out.trans (b22.mono B21.out.size)
 refine hK' _ _ bb22 ?_
 clear hK' K'
 have B22 := Lib.hid bb22
 clear bb22
 clear b22 B21 H12 H21
 repeat (first | (apply wpPlan_still rfl rfl; (intro w hw; obtain ⟨k1, k2, k3⟩ := HR.out w hw; clear hw; go_simp; (try go_ints); (first | with_reducible rfl | (go_simp; with_reducible rfl))); (intro K hK; go_simp; (try go_ints); refine hK _ _ ?_; clear hK K)) | (apply wpPlan_stillG rfl rfl; (intro w hw; obtain ⟨k1, k2, k3⟩ := HR.out w hw; clear hw; go_simp; (try go_ints); (first | with_reducible rfl | (go_simp; with_reducible rfl))); (intro K hK; go_simp; (try go_ints); refine hK _ _ ?_; clear hK K)) | (apply wpPlan_skip rfl rfl; (intro K hK; go_simp; (try go_ints); refine hK _ _ ?_; clear hK K)))
 refine wpPlan_nil ?_
 simp only [List.append_eq, List.cons_append, List.nil_append, List.drop_succ_cons, List.drop_zero]
 go_wp2_with fail
 go_ret
 exact ⟨rfl, BX.out.trans (B22.out.mono BX.out.size)⟩
end Go.Proofs.YtgnlebnpnpjfmaaGreatDoor
