/- Walk of the laws of polynomials: PolynomialTexts. -/
import Derived.Test.YtgnlebnpnpjfmaaGreatDoorUQJ
import Derived.Test.YtgnlebnpnpjfmaaGreatDoorUQL
set_option maxHeartbeats 16000000
set_option maxRecDepth 100000
set_option linter.all false
namespace Go.Proofs.YtgnlebnpnpjfmaaGreatDoor
open Go Go.RowKit Go.Pal Go.Shelf
attribute [local go_sem] Oper.semAt_some
structure FitTx (P Q : Pol) : Prop where
 tp : TxB P
 tq : TxB Q
 s7 : (textP P).length ≤ 7000
theorem fitTx {a b : Nat} {P Q : Pol} (ha : a ≤ 2048) (hb : b ≤ 2048) (hp : Made a P) (hq : Made b Q) : FitTx P Q := by
 have h1 := hp.wt
 have h2 := hq.wt
 have l1 := hp.len
 have l2 := hq.len
 have u1 := hp.upto.mono ha
 have u2 := hq.upto.mono hb
 refine ⟨txB u1 (by omega) (by omega), txB u2 (by omega) (by omega), ?_⟩
 have h := textP_len (d := 11) u1 (dec_wt (by omega) (Nat.lt_of_le_of_lt h1 (by decide)))
 have h3 : P.length * (11 + 27) ≤ 8 * (11 + 27) := Nat.mul_le_mul_right _ l1
 omega
theorem textD {P Q : Pol} (hp : Canon P) (hq : Canon Q) (hu : Upto 2048 P) (hv : Upto 2048 Q) : decide (textP P = textP Q) = decide (P = Q) := by
 rw [decide_eq_decide]
 exact ⟨textP_inj hp hq hu hv, fun h => by rw [h]⟩
theorem pltexts_true (S : List Tm) (hS : ∀ t ∈ S, TmOk t) (T : List Tm) (hT : ∀ t ∈ T, TmOk t) (va vb : Value) (w : World) (hva : Rd tmA 3 w.heap.size w va S) (hvb : Rd tmA 3 w.heap.size w vb T) (hE : Env w) :
   Calls Tryz.prog 7 #[va, vb, .bool true] w fun e w' => e = .returned (.bool true) ∧ Below w.heap.size w w' := by
 obtain ⟨P, hP⟩ : ∃ P, P = madeP 1 (S.take 8) := ⟨_, rfl⟩
 obtain ⟨Q, hQ⟩ : ∃ P, P = madeP 1 (T.take 8) := ⟨_, rfl⟩
 have HM0 := Lib.hid (plmade_any 1 (by decide) S hS va w hva)
 have HMDP := Lib.hid (show Made 1 P from by rw [hP]; exact made_of 1 hS)
 have HM1 := Lib.hid fun W (hb : Below w.heap.size w W) => plmade_any 1 (by decide) T hT vb W ((hvb.below hb (Nat.le_refl _)).mono hb.size)
 have HMDQ := Lib.hid (show Made 1 Q from by rw [hQ]; exact made_of 1 hT)
 have HF := Lib.hid (show FitTx P Q from fitTx (by decide) (by decide) HMDP.out HMDQ.out)
 have HPT := Lib.hid (show parseP (textP P) = (P, 0) from parse_text HMDP.out.canon (HMDP.out.upto.mono (by decide)))
 have HDT := Lib.hid (show decide (textP P = textP Q) = decide (P = Q) from textD HMDP.out.canon HMDQ.out.canon (HMDP.out.upto.mono (by decide)) (HMDQ.out.upto.mono (by decide)))
 obtain ⟨D, hD⟩ : ∃ D, decide (P = Q) = D := ⟨_, rfl⟩
 have HD := Lib.hid hD
 rw [hD] at HDT
 clear hD
 rw [← hP] at HM0
 rw [← hQ] at HM1
 have HE := Lib.hid hE
 obtain ⟨sava, scva, rfl⟩ := hva.sl
 obtain ⟨savb, scvb, rfl⟩ := hvb.sl
 clear hS hva hT hvb hE hP hQ
 go_enter Tryz.func7, Tryz.ntmps7
 go_wp2_with fail
 refine HM0.out.mono ?_
 rintro e w1 ⟨v1, u1, rfl, h1, ref1, b1⟩
 obtain ⟨m1, rfl, h1⟩ := polV_map h1
 obtain ⟨qa1, qc1, rfl⟩ := refP_sl ref1
 have bw := b1
 have bA : Below w1.heap.size w1 (w1.alloc (.cells #[.map m1] 24)) := (Below.refl _ _).alloc (Nat.le_refl _) _
 have r1 : row? (w1.alloc (.cells #[.map m1] 24)) w1.heap.size = some #[.map m1] := row?_alloc_at _ _ _ _ rfl
 have H1 := Lib.hid (h1.below bA)
 have V1 := Lib.hid (ref1.below bA)
 have bwA := bw.trans (bA.mono bw.size)
 have HM1 := Lib.hid (HM1.out _ bwA)
 have B1 := Lib.hid bwA
 clear h1 ref1 b1 bA bw bwA
 go_wp2_with fail
 refine HM1.out.mono ?_
 rintro e w2 ⟨v2, u2, rfl, h2, ref2, b2⟩
 obtain ⟨m2, rfl, h2⟩ := polV_map h2
 obtain ⟨qa2, qc2, rfl⟩ := refP_sl ref2
 obtain ⟨g1, hg1⟩ : ∃ g, g = w1.heap.size := ⟨_, rfl⟩
 rw [← hg1] at r1 ⊢
 clear hg1
 have r1 := (row?_below b2 (row?_lt r1)).trans r1
 have H1 := Lib.hid (H1.out.below b2)
 have V1 := Lib.hid (V1.out.below b2)
 have bw := B1.out.trans (b2.mono B1.out.size)
 have bA : Below w2.heap.size w2 (w2.alloc (.cells #[.map m2] 24)) := (Below.refl _ _).alloc (Nat.le_refl _) _
 have r1 := (row?_below bA (row?_lt r1)).trans r1
 have H1 := Lib.hid (H1.out.below bA)
 have V1 := Lib.hid (V1.out.below bA)
 have r2 : row? (w2.alloc (.cells #[.map m2] 24)) w2.heap.size = some #[.map m2] := row?_alloc_at _ _ _ _ rfl
 have H2 := Lib.hid (h2.below bA)
 have V2 := Lib.hid (ref2.below bA)
 have bwA := bw.trans (bA.mono bw.size)
 have B2 := Lib.hid bwA
 clear h2 ref2 b2 bA bw bwA
 obtain ⟨WX, hWX⟩ : ∃ W, w2.alloc (.cells #[.map m2] 24) = W := ⟨_, rfl⟩
 rw [hWX] at r1 H1 V1 r2 H2 V2 B2
 have BX := Lib.hid B2.out
 have HEX := Lib.hid (HE.out.on BX.out)
 have BXX := Lib.hid (Below.refl WX.heap.size WX)
 have HPX := Lib.hid H1.out
 have VPX := Lib.hid V1.out
 have HQX := Lib.hid H2.out
 have VQX := Lib.hid V2.out
 obtain ⟨X, hX⟩ : ∃ X, textP P = X := ⟨_, rfl⟩
 obtain ⟨Y, hY⟩ : ∃ Y, textP Q = Y := ⟨_, rfl⟩
 have HX := Lib.hid hX
 have HY := Lib.hid hY
 have hXY : (X == Y) = D := by
   rw [← HDT.out, hX, hY, Bool.eq_iff_iff]
   simp
 have HXY := Lib.hid hXY
 have HPA := Lib.hid fun W (h : Below WX.heap.size WX W) => pparse_any (textP P) HF.out.s7 W (HEX.out.on h)
 rw [HPT.out, hX] at HPA
 clear hX hY hXY
 go_wp2_with fail
 refine (ptext_any P _ _ HPX.out HF.out.tp.fit HF.out.tp.len HF.out.tp.txt HEX.out).mono ?_
 rintro e wa ⟨rfl, ba⟩
 rw [HX.out]
 have BA := Lib.hid ba
 clear ba
 go_wp2_with fail
 refine (HPA.out wa BA.out).mono ?_
 rintro e w3 ⟨vb3, rfl, h3, bb⟩
 obtain ⟨m3, rfl, h3⟩ := polV_map h3
 have bb2 := BA.out.trans (bb.mono BA.out.size)
 have bAl : Below w3.heap.size w3 (w3.alloc (.cells #[.map m3] 24)) := (Below.refl _ _).alloc (Nat.le_refl _) _
 have bYX := bb2.trans (bAl.mono bb2.size)
 obtain ⟨g2, hg2⟩ : ∃ g, g = w2.heap.size := ⟨_, rfl⟩
 rw [← hg2] at r2 ⊢
 clear hg2
 have r1 := (row?_below bYX (row?_lt r1)).trans r1
 have H1 := Lib.hid (H1.out.below bYX)
 have V1 := Lib.hid (V1.out.below bYX)
 have r2 := (row?_below bYX (row?_lt r2)).trans r2
 have H2 := Lib.hid (H2.out.below bYX)
 have V2 := Lib.hid (V2.out.below bYX)
 have BX := Lib.hid (BX.out.trans (bYX.mono BX.out.size))
 have HEX := Lib.hid (HE.out.on BX.out)
 have HPX := Lib.hid H1.out
 have HQX := Lib.hid H2.out
 have VPX := Lib.hid V1.out
 have VQX := Lib.hid V2.out
 have HZX := Lib.hid (h3.below bAl)
 have r3 : row? (w3.alloc (.cells #[.map m3] 24)) w3.heap.size = some #[.map m3] := row?_alloc_at _ _ _ _ rfl
 have V3 := Lib.hid trivial
 have H3 := Lib.hid trivial
 obtain ⟨WX, hWX⟩ : ∃ W, w3.alloc (.cells #[.map m3] 24) = W := ⟨_, rfl⟩
 rw [hWX] at r1 r2 r3 HPX HQX VPX VQX HZX BX HEX
 clear h3 bb bb2 bAl bYX
 go_wp2_with fail
 obtain ⟨g3, hg3⟩ : ∃ g, g = w3.heap.size := ⟨_, rfl⟩
 rw [← hg3] at r3
 have HR := Lib.hid fun W (h : Below WX.heap.size WX W) => show row? W g1 = some #[.map m1] ∧ row? W g2 = some #[.map m2] ∧ row? W g3 = some #[.map m3] from ⟨(row?_below h (row?_lt r1)).trans r1, (row?_below h (row?_lt r2)).trans r2, (row?_below h (row?_lt r3)).trans r3⟩
 rw [← hg3]
 clear hg3 r1 H1 V1 r2 H2 V2 r3 H3 V3
 refine wp_region_mix (fun W => Below WX.heap.size WX W) 30 [(0, false), (1, true), (2, true), (3, true), (5, true), (6, true), (4, false), (7, false), (8, true), (9, true), (10, true), (11, true), (12, true), (14, true), (16, true), (13, false), (15, false), (17, false), (18, true), (19, true), (20, true), (21, true), (22, true), (23, true), (24, true), (25, true), (26, true), (27, true), (28, false), (29, true)] (by kernel_rfl) (by kernel_rfl) (Below.refl _ _).drew ?_
 have bb0 : Below WX.heap.size WX WX.drew := (Below.refl _ _).drew
 obtain ⟨w0, hw0⟩ : ∃ W, WX.drew = W := ⟨_, rfl⟩
 rw [hw0] at bb0 ⊢
 have B0 := Lib.hid bb0
 clear hw0 bb0
 (first | refine wpPlan_actG rfl rfl ?_ | apply wpPlan_act rfl rfl)
 intro K' hK'
 unfold Oper.wp
 go_simp
 refine (plknown_any _ (HEX.out.on B0.out)).mono ?_
 rintro e w1 ⟨rfl, b1⟩
 have bb1 : Below WX.heap.size WX w1 := B0.out.trans (b1.mono B0.out.size)
 refine hK' _ _ bb1 ?_
 clear hK' K'
 have B1 := Lib.hid bb1
 clear bb1
 clear b1 B0
 repeat (first | (apply wpPlan_still rfl rfl; (intro w hw; obtain ⟨k1, k2, k3⟩ := HR.out w hw; clear hw; go_simp; (try go_ints); (first | with_reducible rfl | (go_simp; with_reducible rfl))); (intro K hK; go_simp; (try go_ints); refine hK _ _ ?_; clear hK K)) | (apply wpPlan_stillG rfl rfl; (intro w hw; obtain ⟨k1, k2, k3⟩ := HR.out w hw; clear hw; go_simp; (try go_ints); (first | with_reducible rfl | (go_simp; with_reducible rfl))); (intro K hK; go_simp; (try go_ints); refine hK _ _ ?_; clear hK K)) | (apply wpPlan_skip rfl rfl; (intro K hK; go_simp; (try go_ints); refine hK _ _ ?_; clear hK K)))
 (first | refine wpPlan_actG rfl rfl ?_ | apply wpPlan_act rfl rfl)
 intro K' hK'
 unfold Oper.wp
 go_simp
 refine (pequal_any P Q _ _ _ (HPX.out.below B1.out) (HQX.out.below B1.out) HF.out.tp.fit).mono ?_
 rintro e w4 ⟨rfl, b4⟩
 rw [HD.out]
 have bb4 : Below WX.heap.size WX w4 := B1.out.trans (b4.mono B1.out.size)
 refine hK' _ _ bb4 ?_
 clear hK' K'
 have B4 := Lib.hid bb4
 clear bb4
 clear b4 B1
 repeat (first | (apply wpPlan_still rfl rfl; (intro w hw; obtain ⟨k1, k2, k3⟩ := HR.out w hw; clear hw; go_simp; (try go_ints); (first | with_reducible rfl | (go_simp; with_reducible rfl))); (intro K hK; go_simp; (try go_ints); refine hK _ _ ?_; clear hK K)) | (apply wpPlan_stillG rfl rfl; (intro w hw; obtain ⟨k1, k2, k3⟩ := HR.out w hw; clear hw; go_simp; (try go_ints); (first | with_reducible rfl | (go_simp; with_reducible rfl))); (intro K hK; go_simp; (try go_ints); refine hK _ _ ?_; clear hK K)) | (apply wpPlan_skip rfl rfl; (intro K hK; go_simp; (try go_ints); refine hK _ _ ?_; clear hK K)))
 (first | refine wpPlan_actG rfl rfl ?_ | apply wpPlan_act rfl rfl)
 intro K' hK'
 unfold Oper.wp
 go_simp
 refine (qsame_any P Q HF.out.tp.upto HF.out.tp.fit HF.out.tp.len HF.out.tq.upto HF.out.tq.fit HF.out.tq.len _ _ _ (VPX.out.below B4.out) (VQX.out.below B4.out)).mono ?_
 rintro e w7 ⟨rfl, b7⟩
 rw [HDT.out]
 have bb7 : Below WX.heap.size WX w7 := B4.out.trans (b7.mono B4.out.size)
 refine hK' _ _ bb7 ?_
 clear hK' K'
 have B7 := Lib.hid bb7
 clear bb7
 clear b7 B4
 repeat (first | (apply wpPlan_still rfl rfl; (intro w hw; obtain ⟨k1, k2, k3⟩ := HR.out w hw; clear hw; go_simp; (try go_ints); (first | with_reducible rfl | (go_simp; with_reducible rfl))); (intro K hK; go_simp; (try go_ints); refine hK _ _ ?_; clear hK K)) | (apply wpPlan_stillG rfl rfl; (intro w hw; obtain ⟨k1, k2, k3⟩ := HR.out w hw; clear hw; go_simp; (try go_ints); (first | with_reducible rfl | (go_simp; with_reducible rfl))); (intro K hK; go_simp; (try go_ints); refine hK _ _ ?_; clear hK K)) | (apply wpPlan_skip rfl rfl; (intro K hK; go_simp; (try go_ints); refine hK _ _ ?_; clear hK K)))
 (first | refine wpPlan_actG rfl rfl ?_ | apply wpPlan_act rfl rfl)
 intro K' hK'
 unfold Oper.wp
 go_simp
 refine (pequal_any P Q _ _ _ (HPX.out.below B7.out) (HQX.out.below B7.out) HF.out.tp.fit).mono ?_
 rintro e w13 ⟨rfl, b13⟩
 rw [HD.out]
 have bb13 : Below WX.heap.size WX w13 := B7.out.trans (b13.mono B7.out.size)
 refine hK' _ _ bb13 ?_
 clear hK' K'
 have B13 := Lib.hid bb13
 clear bb13
 clear b13 B7
 repeat (first | (apply wpPlan_still rfl rfl; (intro w hw; obtain ⟨k1, k2, k3⟩ := HR.out w hw; clear hw; go_simp; (try go_ints); (first | with_reducible rfl | (go_simp; with_reducible rfl))); (intro K hK; go_simp; (try go_ints); refine hK _ _ ?_; clear hK K)) | (apply wpPlan_stillG rfl rfl; (intro w hw; obtain ⟨k1, k2, k3⟩ := HR.out w hw; clear hw; go_simp; (try go_ints); (first | with_reducible rfl | (go_simp; with_reducible rfl))); (intro K hK; go_simp; (try go_ints); refine hK _ _ ?_; clear hK K)) | (apply wpPlan_skip rfl rfl; (intro K hK; go_simp; (try go_ints); refine hK _ _ ?_; clear hK K)))
 (first | refine wpPlan_actG rfl rfl ?_ | apply wpPlan_act rfl rfl)
 intro K' hK'
 unfold Oper.wp
 go_simp
 refine (ptext_any P _ _ (HPX.out.below B13.out) HF.out.tp.fit HF.out.tp.len HF.out.tp.txt (HEX.out.on B13.out)).mono ?_
 rintro e w15 ⟨rfl, b15⟩
 rw [HX.out]
 have bb15 : Below WX.heap.size WX w15 := B13.out.trans (b15.mono B13.out.size)
 refine hK' _ _ bb15 ?_
 clear hK' K'
 have B15 := Lib.hid bb15
 clear bb15
 clear b15 B13
 repeat (first | (apply wpPlan_still rfl rfl; (intro w hw; obtain ⟨k1, k2, k3⟩ := HR.out w hw; clear hw; go_simp; (try go_ints); (first | with_reducible rfl | (go_simp; with_reducible rfl))); (intro K hK; go_simp; (try go_ints); refine hK _ _ ?_; clear hK K)) | (apply wpPlan_stillG rfl rfl; (intro w hw; obtain ⟨k1, k2, k3⟩ := HR.out w hw; clear hw; go_simp; (try go_ints); (first | with_reducible rfl | (go_simp; with_reducible rfl))); (intro K hK; go_simp; (try go_ints); refine hK _ _ ?_; clear hK K)) | (apply wpPlan_skip rfl rfl; (intro K hK; go_simp; (try go_ints); refine hK _ _ ?_; clear hK K)))
 (first | refine wpPlan_actG rfl rfl ?_ | apply wpPlan_act rfl rfl)
 intro K' hK'
 unfold Oper.wp
 go_simp
 refine (ptext_any Q _ _ (HQX.out.below B15.out) HF.out.tq.fit HF.out.tq.len HF.out.tq.txt (HEX.out.on B15.out)).mono ?_
 rintro e w17 ⟨rfl, b17⟩
 rw [HY.out]
 have bb17 : Below WX.heap.size WX w17 := B15.out.trans (b17.mono B15.out.size)
 refine hK' _ _ bb17 ?_
 clear hK' K'
 have B17 := Lib.hid bb17
 clear bb17
 clear b17 B15
 have hXY := HXY.out
 repeat (first | (apply wpPlan_still rfl rfl; (intro w hw; obtain ⟨k1, k2, k3⟩ := HR.out w hw; clear hw; go_simp; (try go_ints); (first | with_reducible rfl | (go_simp; with_reducible rfl))); (intro K hK; go_simp; (try go_ints); refine hK _ _ ?_; clear hK K)) | (apply wpPlan_stillG rfl rfl; (intro w hw; obtain ⟨k1, k2, k3⟩ := HR.out w hw; clear hw; go_simp; (try go_ints); (first | with_reducible rfl | (go_simp; with_reducible rfl))); (intro K hK; go_simp; (try go_ints); refine hK _ _ ?_; clear hK K)) | (apply wpPlan_skip rfl rfl; (intro K hK; go_simp; (try go_ints); refine hK _ _ ?_; clear hK K)))
 (first | refine wpPlan_actG rfl rfl ?_ | apply wpPlan_act rfl rfl)
 intro K' hK'
 unfold Oper.wp
 go_simp
 refine (pequal_any P P _ _ _ (HZX.out.below B17.out) (HPX.out.below B17.out) HF.out.tp.fit).mono ?_
 rintro e w28 ⟨rfl, b28⟩
 rw [decide_eq_true (show P = P from rfl)]
 have bb28 : Below WX.heap.size WX w28 := B17.out.trans (b28.mono B17.out.size)
 refine hK' _ _ bb28 ?_
 clear hK' K'
 have B28 := Lib.hid bb28
 clear bb28
 clear b28 B17
 repeat (first | (apply wpPlan_still rfl rfl; (intro w hw; obtain ⟨k1, k2, k3⟩ := HR.out w hw; clear hw; go_simp; (try go_ints); (first | with_reducible rfl | (go_simp; with_reducible rfl))); (intro K hK; go_simp; (try go_ints); refine hK _ _ ?_; clear hK K)) | (apply wpPlan_stillG rfl rfl; (intro w hw; obtain ⟨k1, k2, k3⟩ := HR.out w hw; clear hw; go_simp; (try go_ints); (first | with_reducible rfl | (go_simp; with_reducible rfl))); (intro K hK; go_simp; (try go_ints); refine hK _ _ ?_; clear hK K)) | (apply wpPlan_skip rfl rfl; (intro K hK; go_simp; (try go_ints); refine hK _ _ ?_; clear hK K)))
 refine wpPlan_nil ?_
 simp only [List.append_eq, List.cons_append, List.nil_append, List.drop_succ_cons, List.drop_zero]
 go_wp2_with fail
 go_ret
 exact ⟨rfl, BX.out.trans (B28.out.mono BX.out.size)⟩
theorem pltexts_false (S : List Tm) (hS : ∀ t ∈ S, TmOk t) (T : List Tm) (hT : ∀ t ∈ T, TmOk t) (va vb : Value) (w : World) (hva : Rd tmA 3 w.heap.size w va S) (hvb : Rd tmA 3 w.heap.size w vb T) (hE : Env w) :
   Calls Tryz.prog 7 #[va, vb, .bool false] w fun e w' => e = .returned (.bool true) ∧ Below w.heap.size w w' := by
 obtain ⟨P, hP⟩ : ∃ P, P = madeP 2048 (S.take 8) := ⟨_, rfl⟩
 obtain ⟨Q, hQ⟩ : ∃ P, P = madeP 2048 (T.take 8) := ⟨_, rfl⟩
 have HM0 := Lib.hid (plmade_any 2048 (by decide) S hS va w hva)
 have HMDP := Lib.hid (show Made 2048 P from by rw [hP]; exact made_of 2048 hS)
 have HM1 := Lib.hid fun W (hb : Below w.heap.size w W) => plmade_any 2048 (by decide) T hT vb W ((hvb.below hb (Nat.le_refl _)).mono hb.size)
 have HMDQ := Lib.hid (show Made 2048 Q from by rw [hQ]; exact made_of 2048 hT)
 have HF := Lib.hid (show FitTx P Q from fitTx (by decide) (by decide) HMDP.out HMDQ.out)
 have HPT := Lib.hid (show parseP (textP P) = (P, 0) from parse_text HMDP.out.canon (HMDP.out.upto.mono (by decide)))
 have HDT := Lib.hid (show decide (textP P = textP Q) = decide (P = Q) from textD HMDP.out.canon HMDQ.out.canon (HMDP.out.upto.mono (by decide)) (HMDQ.out.upto.mono (by decide)))
 obtain ⟨D, hD⟩ : ∃ D, decide (P = Q) = D := ⟨_, rfl⟩
 have HD := Lib.hid hD
 rw [hD] at HDT
 clear hD
 rw [← hP] at HM0
 rw [← hQ] at HM1
 have HE := Lib.hid hE
 obtain ⟨sava, scva, rfl⟩ := hva.sl
 obtain ⟨savb, scvb, rfl⟩ := hvb.sl
 clear hS hva hT hvb hE hP hQ
 go_enter Tryz.func7, Tryz.ntmps7
 go_wp2_with fail
 refine HM0.out.mono ?_
 rintro e w1 ⟨v1, u1, rfl, h1, ref1, b1⟩
 obtain ⟨m1, rfl, h1⟩ := polV_map h1
 obtain ⟨qa1, qc1, rfl⟩ := refP_sl ref1
 have bw := b1
 have bA : Below w1.heap.size w1 (w1.alloc (.cells #[.map m1] 24)) := (Below.refl _ _).alloc (Nat.le_refl _) _
 have r1 : row? (w1.alloc (.cells #[.map m1] 24)) w1.heap.size = some #[.map m1] := row?_alloc_at _ _ _ _ rfl
 have H1 := Lib.hid (h1.below bA)
 have V1 := Lib.hid (ref1.below bA)
 have bwA := bw.trans (bA.mono bw.size)
 have HM1 := Lib.hid (HM1.out _ bwA)
 have B1 := Lib.hid bwA
 clear h1 ref1 b1 bA bw bwA
 go_wp2_with fail
 refine HM1.out.mono ?_
 rintro e w2 ⟨v2, u2, rfl, h2, ref2, b2⟩
 obtain ⟨m2, rfl, h2⟩ := polV_map h2
 obtain ⟨qa2, qc2, rfl⟩ := refP_sl ref2
 obtain ⟨g1, hg1⟩ : ∃ g, g = w1.heap.size := ⟨_, rfl⟩
 rw [← hg1] at r1 ⊢
 clear hg1
 have r1 := (row?_below b2 (row?_lt r1)).trans r1
 have H1 := Lib.hid (H1.out.below b2)
 have V1 := Lib.hid (V1.out.below b2)
 have bw := B1.out.trans (b2.mono B1.out.size)
 have bA : Below w2.heap.size w2 (w2.alloc (.cells #[.map m2] 24)) := (Below.refl _ _).alloc (Nat.le_refl _) _
 have r1 := (row?_below bA (row?_lt r1)).trans r1
 have H1 := Lib.hid (H1.out.below bA)
 have V1 := Lib.hid (V1.out.below bA)
 have r2 : row? (w2.alloc (.cells #[.map m2] 24)) w2.heap.size = some #[.map m2] := row?_alloc_at _ _ _ _ rfl
 have H2 := Lib.hid (h2.below bA)
 have V2 := Lib.hid (ref2.below bA)
 have bwA := bw.trans (bA.mono bw.size)
 have B2 := Lib.hid bwA
 clear h2 ref2 b2 bA bw bwA
 obtain ⟨WX, hWX⟩ : ∃ W, w2.alloc (.cells #[.map m2] 24) = W := ⟨_, rfl⟩
 rw [hWX] at r1 H1 V1 r2 H2 V2 B2
 have BX := Lib.hid B2.out
 have HEX := Lib.hid (HE.out.on BX.out)
 have BXX := Lib.hid (Below.refl WX.heap.size WX)
 have HPX := Lib.hid H1.out
 have VPX := Lib.hid V1.out
 have HQX := Lib.hid H2.out
 have VQX := Lib.hid V2.out
 obtain ⟨X, hX⟩ : ∃ X, textP P = X := ⟨_, rfl⟩
 obtain ⟨Y, hY⟩ : ∃ Y, textP Q = Y := ⟨_, rfl⟩
 have HX := Lib.hid hX
 have HY := Lib.hid hY
 have hXY : (X == Y) = D := by
   rw [← HDT.out, hX, hY, Bool.eq_iff_iff]
   simp
 have HXY := Lib.hid hXY
 have HPA := Lib.hid fun W (h : Below WX.heap.size WX W) => pparse_any (textP P) HF.out.s7 W (HEX.out.on h)
 rw [HPT.out, hX] at HPA
 clear hX hY hXY
 go_wp2_with fail
 refine (ptext_any P _ _ HPX.out HF.out.tp.fit HF.out.tp.len HF.out.tp.txt HEX.out).mono ?_
 rintro e wa ⟨rfl, ba⟩
 rw [HX.out]
 have BA := Lib.hid ba
 clear ba
 go_wp2_with fail
 refine (HPA.out wa BA.out).mono ?_
 rintro e w3 ⟨vb3, rfl, h3, bb⟩
 obtain ⟨m3, rfl, h3⟩ := polV_map h3
 have bb2 := BA.out.trans (bb.mono BA.out.size)
 have bAl : Below w3.heap.size w3 (w3.alloc (.cells #[.map m3] 24)) := (Below.refl _ _).alloc (Nat.le_refl _) _
 have bYX := bb2.trans (bAl.mono bb2.size)
 obtain ⟨g2, hg2⟩ : ∃ g, g = w2.heap.size := ⟨_, rfl⟩
 rw [← hg2] at r2 ⊢
 clear hg2
 have r1 := (row?_below bYX (row?_lt r1)).trans r1
 have H1 := Lib.hid (H1.out.below bYX)
 have V1 := Lib.hid (V1.out.below bYX)
 have r2 := (row?_below bYX (row?_lt r2)).trans r2
 have H2 := Lib.hid (H2.out.below bYX)
 have V2 := Lib.hid (V2.out.below bYX)
 have BX := Lib.hid (BX.out.trans (bYX.mono BX.out.size))
 have HEX := Lib.hid (HE.out.on BX.out)
 have HPX := Lib.hid H1.out
 have HQX := Lib.hid H2.out
 have VPX := Lib.hid V1.out
 have VQX := Lib.hid V2.out
 have HZX := Lib.hid (h3.below bAl)
 have r3 : row? (w3.alloc (.cells #[.map m3] 24)) w3.heap.size = some #[.map m3] := row?_alloc_at _ _ _ _ rfl
 have V3 := Lib.hid trivial
 have H3 := Lib.hid trivial
 obtain ⟨WX, hWX⟩ : ∃ W, w3.alloc (.cells #[.map m3] 24) = W := ⟨_, rfl⟩
 rw [hWX] at r1 r2 r3 HPX HQX VPX VQX HZX BX HEX
 clear h3 bb bb2 bAl bYX
 go_wp2_with fail
 obtain ⟨g3, hg3⟩ : ∃ g, g = w3.heap.size := ⟨_, rfl⟩
 rw [← hg3] at r3
 have HR := Lib.hid fun W (h : Below WX.heap.size WX W) => show row? W g1 = some #[.map m1] ∧ row? W g2 = some #[.map m2] ∧ row? W g3 = some #[.map m3] from ⟨(row?_below h (row?_lt r1)).trans r1, (row?_below h (row?_lt r2)).trans r2, (row?_below h (row?_lt r3)).trans r3⟩
 rw [← hg3]
 clear hg3 r1 H1 V1 r2 H2 V2 r3 H3 V3
 refine wp_region_mix (fun W => Below WX.heap.size WX W) 30 [(0, false), (1, true), (2, true), (3, true), (5, true), (6, true), (4, false), (7, false), (8, true), (9, true), (10, true), (11, true), (12, true), (14, true), (16, true), (13, false), (15, false), (17, false), (18, true), (19, true), (20, true), (21, true), (22, true), (23, true), (24, true), (25, true), (26, true), (27, true), (28, false), (29, true)] (by kernel_rfl) (by kernel_rfl) (Below.refl _ _).drew ?_
 have bb0 : Below WX.heap.size WX WX.drew := (Below.refl _ _).drew
 obtain ⟨w0, hw0⟩ : ∃ W, WX.drew = W := ⟨_, rfl⟩
 rw [hw0] at bb0 ⊢
 have B0 := Lib.hid bb0
 clear hw0 bb0
 (first | refine wpPlan_actG rfl rfl ?_ | apply wpPlan_act rfl rfl)
 intro K' hK'
 unfold Oper.wp
 go_simp
 refine (plknown_any _ (HEX.out.on B0.out)).mono ?_
 rintro e w1 ⟨rfl, b1⟩
 have bb1 : Below WX.heap.size WX w1 := B0.out.trans (b1.mono B0.out.size)
 refine hK' _ _ bb1 ?_
 clear hK' K'
 have B1 := Lib.hid bb1
 clear bb1
 clear b1 B0
 repeat (first | (apply wpPlan_still rfl rfl; (intro w hw; obtain ⟨k1, k2, k3⟩ := HR.out w hw; clear hw; go_simp; (try go_ints); (first | with_reducible rfl | (go_simp; with_reducible rfl))); (intro K hK; go_simp; (try go_ints); refine hK _ _ ?_; clear hK K)) | (apply wpPlan_stillG rfl rfl; (intro w hw; obtain ⟨k1, k2, k3⟩ := HR.out w hw; clear hw; go_simp; (try go_ints); (first | with_reducible rfl | (go_simp; with_reducible rfl))); (intro K hK; go_simp; (try go_ints); refine hK _ _ ?_; clear hK K)) | (apply wpPlan_skip rfl rfl; (intro K hK; go_simp; (try go_ints); refine hK _ _ ?_; clear hK K)))
 (first | refine wpPlan_actG rfl rfl ?_ | apply wpPlan_act rfl rfl)
 intro K' hK'
 unfold Oper.wp
 go_simp
 refine (pequal_any P Q _ _ _ (HPX.out.below B1.out) (HQX.out.below B1.out) HF.out.tp.fit).mono ?_
 rintro e w4 ⟨rfl, b4⟩
 rw [HD.out]
 have bb4 : Below WX.heap.size WX w4 := B1.out.trans (b4.mono B1.out.size)
 refine hK' _ _ bb4 ?_
 clear hK' K'
 have B4 := Lib.hid bb4
 clear bb4
 clear b4 B1
 repeat (first | (apply wpPlan_still rfl rfl; (intro w hw; obtain ⟨k1, k2, k3⟩ := HR.out w hw; clear hw; go_simp; (try go_ints); (first | with_reducible rfl | (go_simp; with_reducible rfl))); (intro K hK; go_simp; (try go_ints); refine hK _ _ ?_; clear hK K)) | (apply wpPlan_stillG rfl rfl; (intro w hw; obtain ⟨k1, k2, k3⟩ := HR.out w hw; clear hw; go_simp; (try go_ints); (first | with_reducible rfl | (go_simp; with_reducible rfl))); (intro K hK; go_simp; (try go_ints); refine hK _ _ ?_; clear hK K)) | (apply wpPlan_skip rfl rfl; (intro K hK; go_simp; (try go_ints); refine hK _ _ ?_; clear hK K)))
 (first | refine wpPlan_actG rfl rfl ?_ | apply wpPlan_act rfl rfl)
 intro K' hK'
 unfold Oper.wp
 go_simp
 refine (qsame_any P Q HF.out.tp.upto HF.out.tp.fit HF.out.tp.len HF.out.tq.upto HF.out.tq.fit HF.out.tq.len _ _ _ (VPX.out.below B4.out) (VQX.out.below B4.out)).mono ?_
 rintro e w7 ⟨rfl, b7⟩
 rw [HDT.out]
 have bb7 : Below WX.heap.size WX w7 := B4.out.trans (b7.mono B4.out.size)
 refine hK' _ _ bb7 ?_
 clear hK' K'
 have B7 := Lib.hid bb7
 clear bb7
 clear b7 B4
 repeat (first | (apply wpPlan_still rfl rfl; (intro w hw; obtain ⟨k1, k2, k3⟩ := HR.out w hw; clear hw; go_simp; (try go_ints); (first | with_reducible rfl | (go_simp; with_reducible rfl))); (intro K hK; go_simp; (try go_ints); refine hK _ _ ?_; clear hK K)) | (apply wpPlan_stillG rfl rfl; (intro w hw; obtain ⟨k1, k2, k3⟩ := HR.out w hw; clear hw; go_simp; (try go_ints); (first | with_reducible rfl | (go_simp; with_reducible rfl))); (intro K hK; go_simp; (try go_ints); refine hK _ _ ?_; clear hK K)) | (apply wpPlan_skip rfl rfl; (intro K hK; go_simp; (try go_ints); refine hK _ _ ?_; clear hK K)))
 (first | refine wpPlan_actG rfl rfl ?_ | apply wpPlan_act rfl rfl)
 intro K' hK'
 unfold Oper.wp
 go_simp
 refine (pequal_any P Q _ _ _ (HPX.out.below B7.out) (HQX.out.below B7.out) HF.out.tp.fit).mono ?_
 rintro e w13 ⟨rfl, b13⟩
 rw [HD.out]
 have bb13 : Below WX.heap.size WX w13 := B7.out.trans (b13.mono B7.out.size)
 refine hK' _ _ bb13 ?_
 clear hK' K'
 have B13 := Lib.hid bb13
 clear bb13
 clear b13 B7
 repeat (first | (apply wpPlan_still rfl rfl; (intro w hw; obtain ⟨k1, k2, k3⟩ := HR.out w hw; clear hw; go_simp; (try go_ints); (first | with_reducible rfl | (go_simp; with_reducible rfl))); (intro K hK; go_simp; (try go_ints); refine hK _ _ ?_; clear hK K)) | (apply wpPlan_stillG rfl rfl; (intro w hw; obtain ⟨k1, k2, k3⟩ := HR.out w hw; clear hw; go_simp; (try go_ints); (first | with_reducible rfl | (go_simp; with_reducible rfl))); (intro K hK; go_simp; (try go_ints); refine hK _ _ ?_; clear hK K)) | (apply wpPlan_skip rfl rfl; (intro K hK; go_simp; (try go_ints); refine hK _ _ ?_; clear hK K)))
 (first | refine wpPlan_actG rfl rfl ?_ | apply wpPlan_act rfl rfl)
 intro K' hK'
 unfold Oper.wp
 go_simp
 refine (ptext_any P _ _ (HPX.out.below B13.out) HF.out.tp.fit HF.out.tp.len HF.out.tp.txt (HEX.out.on B13.out)).mono ?_
 rintro e w15 ⟨rfl, b15⟩
 rw [HX.out]
 have bb15 : Below WX.heap.size WX w15 := B13.out.trans (b15.mono B13.out.size)
 refine hK' _ _ bb15 ?_
 clear hK' K'
 have B15 := Lib.hid bb15
 clear bb15
 clear b15 B13
 repeat (first | (apply wpPlan_still rfl rfl; (intro w hw; obtain ⟨k1, k2, k3⟩ := HR.out w hw; clear hw; go_simp; (try go_ints); (first | with_reducible rfl | (go_simp; with_reducible rfl))); (intro K hK; go_simp; (try go_ints); refine hK _ _ ?_; clear hK K)) | (apply wpPlan_stillG rfl rfl; (intro w hw; obtain ⟨k1, k2, k3⟩ := HR.out w hw; clear hw; go_simp; (try go_ints); (first | with_reducible rfl | (go_simp; with_reducible rfl))); (intro K hK; go_simp; (try go_ints); refine hK _ _ ?_; clear hK K)) | (apply wpPlan_skip rfl rfl; (intro K hK; go_simp; (try go_ints); refine hK _ _ ?_; clear hK K)))
 (first | refine wpPlan_actG rfl rfl ?_ | apply wpPlan_act rfl rfl)
 intro K' hK'
 unfold Oper.wp
 go_simp
 refine (ptext_any Q _ _ (HQX.out.below B15.out) HF.out.tq.fit HF.out.tq.len HF.out.tq.txt (HEX.out.on B15.out)).mono ?_
 rintro e w17 ⟨rfl, b17⟩
 rw [HY.out]
 have bb17 : Below WX.heap.size WX w17 := B15.out.trans (b17.mono B15.out.size)
 refine hK' _ _ bb17 ?_
 clear hK' K'
 have B17 := Lib.hid bb17
 clear bb17
 clear b17 B15
 have hXY := HXY.out
 repeat (first | (apply wpPlan_still rfl rfl; (intro w hw; obtain ⟨k1, k2, k3⟩ := HR.out w hw; clear hw; go_simp; (try go_ints); (first | with_reducible rfl | (go_simp; with_reducible rfl))); (intro K hK; go_simp; (try go_ints); refine hK _ _ ?_; clear hK K)) | (apply wpPlan_stillG rfl rfl; (intro w hw; obtain ⟨k1, k2, k3⟩ := HR.out w hw; clear hw; go_simp; (try go_ints); (first | with_reducible rfl | (go_simp; with_reducible rfl))); (intro K hK; go_simp; (try go_ints); refine hK _ _ ?_; clear hK K)) | (apply wpPlan_skip rfl rfl; (intro K hK; go_simp; (try go_ints); refine hK _ _ ?_; clear hK K)))
 (first | refine wpPlan_actG rfl rfl ?_ | apply wpPlan_act rfl rfl)
 intro K' hK'
 unfold Oper.wp
 go_simp
 refine (pequal_any P P _ _ _ (HZX.out.below B17.out) (HPX.out.below B17.out) HF.out.tp.fit).mono ?_
 rintro e w28 ⟨rfl, b28⟩
 rw [decide_eq_true (show P = P from rfl)]
 have bb28 : Below WX.heap.size WX w28 := B17.out.trans (b28.mono B17.out.size)
 refine hK' _ _ bb28 ?_
 clear hK' K'
 have B28 := Lib.hid bb28
 clear bb28
 clear b28 B17
 repeat (first | (apply wpPlan_still rfl rfl; (intro w hw; obtain ⟨k1, k2, k3⟩ := HR.out w hw; clear hw; go_simp; (try go_ints); (first | with_reducible rfl | (go_simp; with_reducible rfl))); (intro K hK; go_simp; (try go_ints); refine hK _ _ ?_; clear hK K)) | (apply wpPlan_stillG rfl rfl; (intro w hw; obtain ⟨k1, k2, k3⟩ := HR.out w hw; clear hw; go_simp; (try go_ints); (first | with_reducible rfl | (go_simp; with_reducible rfl))); (intro K hK; go_simp; (try go_ints); refine hK _ _ ?_; clear hK K)) | (apply wpPlan_skip rfl rfl; (intro K hK; go_simp; (try go_ints); refine hK _ _ ?_; clear hK K)))
 refine wpPlan_nil ?_
 simp only [List.append_eq, List.cons_append, List.nil_append, List.drop_succ_cons, List.drop_zero]
 go_wp2_with fail
 go_ret
 exact ⟨rfl, BX.out.trans (B28.out.mono BX.out.size)⟩
theorem pltexts_any (S : List Tm) (hS : ∀ t ∈ S, TmOk t) (T : List Tm) (hT : ∀ t ∈ T, TmOk t) (z : Bool) (va vb : Value) (w : World) (hva : Rd tmA 3 w.heap.size w va S) (hvb : Rd tmA 3 w.heap.size w vb T) (hE : Env w) :
   Calls Tryz.prog 7 #[va, vb, .bool z] w fun e w' => e = .returned (.bool true) ∧ Below w.heap.size w w' := by
 cases z
 · exact pltexts_false S hS T hT va vb w hva hvb hE
 · exact pltexts_true S hS T hT va vb w hva hvb hE
end Go.Proofs.YtgnlebnpnpjfmaaGreatDoor
