/- Walk of the laws of polynomials: known (the document's example). Walk of the laws of .. -/
import Derived.Test.YtgnlebnpnpjfmaaGreatDoorUOS
set_option linter.all false
namespace Go.Pal
def kxP : Pol := [((1, 0), 1)]
def kyP : Pol := [((0, 1), 1)]
def kP : Pol := [((0, 0), 1), ((0, 1), 1), ((1, 0), 1), ((1, 1), 1)]
theorem k_sum1 : padd oneP kxP = [((0, 0), 1), ((1, 0), 1)] := by decide
theorem k_sum2 : padd oneP kyP = [((0, 0), 1), ((0, 1), 1)] := by decide
theorem k_prod : pmul [((0, 0), 1), ((1, 0), 1)] [((0, 0), 1), ((0, 1), 1)] = kP := by decide
theorem k_deg : degP kP = (1, 1) := by decide
theorem k_canon : Canon kP := by rw [← k_prod]; exact canon_pmul _ _
theorem k_upto : Upto 2048 kP := by rw [← k_prod]; exact upto_pmul _ _
theorem k_text : textP kP = [49, 32, 43, 32, 49, 32, 121, 94, 49, 32, 43, 32, 49, 32, 120, 94, 49, 32, 43, 32, 49, 32, 120, 94, 49, 32, 121, 94, 49] := by
 have h1 : Lib.decDigits 1 = [49] := dec_small (by omega)
 unfold textP kP
 simp [termT, pwT, h1, Lib.join, List.intercalate]
theorem k_pow : ∀ t ∈ kP, (2 + 1) ^ (2 * t.1.1 + 1) < 18446744073709551616 ∧ (3 + 1) ^ (2 * t.1.2 + 1) < 18446744073709551616 ∧ t.2 * 2 ^ t.1.1 < 18446744073709551616 := by decide
theorem k_eval : evalP kP 2 3 = 12 := by decide
end Go.Pal
namespace Go.Proofs.YtgnlebnpnpjfmaaGreatDoor
open Go Go.RowKit Go.Pal Go.Shelf
attribute [local go_sem] Oper.semAt_some
theorem polV_map {w : World} {v : Value} {p : Pol} (h : PolV w v p) : ∃ m : Option Nat, v = .agg #[.map m] ∧ PolV w (.agg #[.map m]) p := by
 obtain ⟨m, rfl, hm⟩ := h
 exact ⟨m, rfl, m, rfl, hm⟩
theorem fitS {n : Nat} (h : n < 18446744073709551616) : Fit n := fit_small h
set_option maxRecDepth 100000 in
set_option maxHeartbeats 8000000 in
theorem plknown_any (w : World) (hE : Env w) : Calls Tryz.prog 14 #[] w fun e w' => e = .returned (.bool true) ∧ Below w.heap.size w w' := by
 have HE := Lib.hid hE
 clear hE
 go_enter Tryz.func14, Tryz.ntmps14
 go_wp2_with fail
 refine (pone_any w).mono ?_
 rintro e w1 ⟨v1, rfl, h1, b1⟩
 obtain ⟨m1, rfl, h1⟩ := polV_map h1
 have H1 := Lib.hid h1
 have B1 := Lib.hid b1
 clear h1 b1
 go_wp2_with fail
 refine (pxx_any w1).mono ?_
 rintro e w2 ⟨v2, rfl, h2, b2⟩
 obtain ⟨m2, rfl, h2⟩ := polV_map h2
 have H2 := Lib.hid h2
 have H1' := Lib.hid (H1.out.below b2)
 have B2 := Lib.hid (B1.out.trans (b2.mono B1.out.size))
 clear h2 b2 H1 B1
 go_wp2_with fail
 refine (padd_any oneP kxP _ _ w2 H1'.out H2.out (fitS (by decide)) (by decide)).mono ?_
 rintro e w3 ⟨v3, rfl, h3, b3⟩
 rw [k_sum1] at h3
 obtain ⟨m3, rfl, h3⟩ := polV_map h3
 have H3 := Lib.hid h3
 have B3 := Lib.hid (B2.out.trans (b3.mono B2.out.size))
 clear h3 b3 H1' H2 B2
 go_wp2_with fail
 refine (pone_any w3).mono ?_
 rintro e w4 ⟨v4, rfl, h4, b4⟩
 obtain ⟨m4, rfl, h4⟩ := polV_map h4
 have H4 := Lib.hid h4
 have H34 := Lib.hid (H3.out.below b4)
 have B4 := Lib.hid (B3.out.trans (b4.mono B3.out.size))
 clear h4 b4 H3 B3
 go_wp2_with fail
 refine (pyy_any w4).mono ?_
 rintro e w5 ⟨v5, rfl, h5, b5⟩
 obtain ⟨m5, rfl, h5⟩ := polV_map h5
 have H5 := Lib.hid h5
 have H45 := Lib.hid (H4.out.below b5)
 have H35 := Lib.hid (H34.out.below b5)
 have B5 := Lib.hid (B4.out.trans (b5.mono B4.out.size))
 clear h5 b5 H4 H34 B4
 go_wp2_with fail
 refine (padd_any oneP kyP _ _ w5 H45.out H5.out (fitS (by decide)) (by decide)).mono ?_
 rintro e w6 ⟨v6, rfl, h6, b6⟩
 rw [k_sum2] at h6
 obtain ⟨m6, rfl, h6⟩ := polV_map h6
 have H6 := Lib.hid h6
 have H36 := Lib.hid (H35.out.below b6)
 have B6 := Lib.hid (B5.out.trans (b6.mono B5.out.size))
 clear h6 b6 H45 H5 H35 B5
 go_wp2_with fail
 refine (pmul_any _ _ _ _ w6 H36.out H6.out (fitS (by decide)) (fitS (by decide)) (fitS (by decide)) (by decide) (by decide)).mono ?_
 rintro e w7 ⟨v7, rfl, h7, b7⟩
 rw [k_prod] at h7
 obtain ⟨m7, rfl, h7⟩ := polV_map h7
 have B7 := Lib.hid (B6.out.trans (b7.mono B6.out.size))
 have hbA : Below w7.heap.size w7 (w7.alloc (.cells #[.map m7] 24)) := (Below.refl _ _).alloc (Nat.le_refl _) _
 obtain ⟨g, hg⟩ : ∃ g, g = w7.heap.size := ⟨_, rfl⟩
 obtain ⟨W8, hW8⟩ : ∃ W, w7.alloc (.cells #[.map m7] 24) = W := ⟨_, rfl⟩
 have r8 : row? W8 g = some #[.map m7] := by rw [← hW8]; exact row?_alloc_at _ _ _ _ hg
 rw [hW8] at hbA
 have H8 := Lib.hid (h7.below hbA)
 have B8 := Lib.hid (B7.out.trans (hbA.mono B7.out.size))
 have HW8 := Lib.hid hW8
 have HG := Lib.hid hg
 clear h7 b7 H6 H36 B6 B7 hbA hW8
 have hdg := pdegree_any kP _ W8 H8.out
 rw [k_deg] at hdg
 have HDG := Lib.hid hdg
 clear hdg hg
 have r7 : row? (w7.alloc (.cells #[.map m7] 24)) w7.heap.size = some #[.map m7] := row?_alloc_at _ _ _ _ rfl
 go_wp2_with fail
 rw [HW8.out, ← HG.out]
 clear r7
 refine HDG.out.mono ?_
 rintro e w9 ⟨rfl, b9⟩
 have r9 := (row?_below b9 (row?_lt r8)).trans r8
 have H9 := Lib.hid (H8.out.below b9)
 have B9 := Lib.hid (B8.out.trans (b9.mono B8.out.size))
 have HT9 := Lib.hid (ptext_any kP _ w9 H9.out (fitS (by decide)) (by decide) (by rw [k_text]; decide) (HE.out.on B9.out))
 rw [k_text] at HT9
 have h9l := row?_lt r9
 clear b9 H8 B8 HDG r8
 go_wp2_with fail
 refine HT9.out.mono ?_
 rintro e wa ⟨rfl, ba⟩
 have ra := (row?_below ba (row?_lt r9)).trans r9
 have HA := Lib.hid (H9.out.below ba)
 have BA := Lib.hid (B9.out.trans (ba.mono B9.out.size))
 have hpp := pparse_any (textP kP) (by rw [k_text]; decide) wa (HE.out.on BA.out)
 rw [parse_text k_canon k_upto, k_text] at hpp
 have HPP := Lib.hid hpp
 clear ba H9 B9 HT9 r9 hpp
 go_wp2_with fail
 refine HPP.out.mono ?_
 rintro e wb ⟨vb, rfl, hb, bb⟩
 obtain ⟨mb, rfl, hb⟩ := polV_map hb
 have rb := (row?_below bb (row?_lt ra)).trans ra
 have HBb := Lib.hid hb
 have HAb := Lib.hid (HA.out.below bb)
 have BB := Lib.hid (BA.out.trans (bb.mono BA.out.size))
 have hbl := row?_lt rb
 clear bb hb HA BA HPP ra h9l
 go_wp2_with fail
 obtain ⟨WX, hWX⟩ : ∃ W, wb.alloc (.cells #[.map mb] 24) = W := ⟨_, rfl⟩
 have hbX : Below wb.heap.size wb WX := by rw [← hWX]; exact (Below.refl _ _).alloc (Nat.le_refl _) _
 obtain ⟨q, hq⟩ : ∃ q, q = wb.heap.size := ⟨_, rfl⟩
 have rq : row? WX q = some #[.map mb] := by rw [← hWX]; exact row?_alloc_at _ _ _ _ hq
 have rg := (row?_below hbX (row?_lt rb)).trans rb
 have HPX := Lib.hid (HAb.out.below hbX)
 have HQX := Lib.hid (HBb.out.below hbX)
 have BX := Lib.hid (BB.out.trans (hbX.mono BB.out.size))
 have HR := Lib.hid fun W (h : Below WX.heap.size WX W) => show row? W g = some #[.map m7] ∧ row? W q = some #[.map mb] from ⟨(row?_below h (row?_lt rg)).trans rg, (row?_below h (row?_lt rq)).trans rq⟩
 have HWX := Lib.hid (And.intro hWX hq)
 rw [hWX, ← hq]
 clear hWX hq rq rg rb hbX hbl HAb HBb BB
 refine wp_region_mix (fun W => Below WX.heap.size WX W) 33 [(0, true), (1, false), (2, true), (3, true), (4, true), (5, false), (6, true), (7, true), (8, true), (9, true), (10, true), (11, true), (12, true), (13, true), (14, true), (15, true), (16, true), (17, true), (18, true), (19, true), (20, true), (21, true), (22, true), (23, false), (24, true), (25, true), (26, true), (27, false), (28, false), (29, false), (30, false), (31, false), (32, true)] (by kernel_rfl) (by kernel_rfl) (Below.refl _ _).drew ?_
 repeat (first | (apply wpPlan_still rfl rfl; (intro w hw; obtain ⟨k1, k2⟩ := HR.out w hw; clear hw; go_simp; (try go_ints); (first | with_reducible rfl | (go_simp; with_reducible rfl))); (intro K hK; go_simp; (try go_ints); refine hK _ _ ?_; clear hK K)) | (apply wpPlan_stillG rfl rfl; (intro w hw; obtain ⟨k1, k2⟩ := HR.out w hw; clear hw; go_simp; (try go_ints); (first | with_reducible rfl | (go_simp; with_reducible rfl))); (intro K hK; go_simp; (try go_ints); refine hK _ _ ?_; clear hK K)) | (apply wpPlan_skip rfl rfl; (intro K hK; go_simp; (try go_ints); refine hK _ _ ?_; clear hK K)))
 have ht := ptext_any kP _ WX.drew (HPX.out.below (Below.refl _ _).drew) (fitS (by decide)) (by decide) (by rw [k_text]; decide) (HE.out.on BX.out.drew)
 rw [k_text] at ht
 apply wpPlan_act rfl rfl
 intro K' hK'
 unfold Oper.wp
 go_simp
 refine ht.mono ?_
 rintro e wc ⟨rfl, bc⟩
 have hbc : Below WX.heap.size WX wc := (Below.refl _ _).drew.trans bc
 refine hK' _ _ hbc ?_
 clear hK' K' bc ht
 have BC := Lib.hid hbc
 clear hbc
 repeat (first | (apply wpPlan_still rfl rfl; (intro w hw; obtain ⟨k1, k2⟩ := HR.out w hw; clear hw; go_simp; (try go_ints); (first | with_reducible rfl | (go_simp; with_reducible rfl))); (intro K hK; go_simp; (try go_ints); refine hK _ _ ?_; clear hK K)) | (apply wpPlan_stillG rfl rfl; (intro w hw; obtain ⟨k1, k2⟩ := HR.out w hw; clear hw; go_simp; (try go_ints); (first | with_reducible rfl | (go_simp; with_reducible rfl))); (intro K hK; go_simp; (try go_ints); refine hK _ _ ?_; clear hK K)) | (apply wpPlan_skip rfl rfl; (intro K hK; go_simp; (try go_ints); refine hK _ _ ?_; clear hK K)))
 refine wpPlan_actG rfl rfl ?_
 intro K' hK'
 unfold Oper.wp
 go_simp
 refine (pnum_any kP _ wc (HPX.out.below BC.out)).mono ?_
 rintro e wd ⟨rfl, bd⟩
 have hbd : Below WX.heap.size WX wd := BC.out.trans (bd.mono BC.out.size)
 refine hK' _ _ hbd ?_
 clear hK' K' bd BC
 have BD := Lib.hid hbd
 clear hbd
 have hk4 : (kP.length : Int) = 4 := rfl
 repeat (first | (apply wpPlan_still rfl rfl; (intro w hw; obtain ⟨k1, k2⟩ := HR.out w hw; clear hw; go_simp; (try go_ints); (first | with_reducible rfl | (go_simp; with_reducible rfl))); (intro K hK; go_simp; (try go_ints); refine hK _ _ ?_; clear hK K)) | (apply wpPlan_stillG rfl rfl; (intro w hw; obtain ⟨k1, k2⟩ := HR.out w hw; clear hw; go_simp; (try go_ints); (first | with_reducible rfl | (go_simp; with_reducible rfl))); (intro K hK; go_simp; (try go_ints); refine hK _ _ ?_; clear hK K)) | (apply wpPlan_skip rfl rfl; (intro K hK; go_simp; (try go_ints); refine hK _ _ ?_; clear hK K)))
 refine wpPlan_actG rfl rfl ?_
 intro K' hK'
 unfold Oper.wp
 go_simp
 refine (pequal_any kP kP _ _ wd (HQX.out.below BD.out) (HPX.out.below BD.out) (fitS (by decide))).mono ?_
 rintro e we ⟨rfl, be⟩
 have hbe : Below WX.heap.size WX we := BD.out.trans (be.mono BD.out.size)
 have hdec : decide (kP = kP) = true := decide_eq_true rfl
 rw [hdec]
 refine hK' _ _ hbe ?_
 clear hK' K' be BD
 have BE := Lib.hid hbe
 clear hbe
 repeat (first | (apply wpPlan_still rfl rfl; (intro w hw; obtain ⟨k1, k2⟩ := HR.out w hw; clear hw; go_simp; (try go_ints); (first | with_reducible rfl | (go_simp; with_reducible rfl))); (intro K hK; go_simp; (try go_ints); refine hK _ _ ?_; clear hK K)) | (apply wpPlan_stillG rfl rfl; (intro w hw; obtain ⟨k1, k2⟩ := HR.out w hw; clear hw; go_simp; (try go_ints); (first | with_reducible rfl | (go_simp; with_reducible rfl))); (intro K hK; go_simp; (try go_ints); refine hK _ _ ?_; clear hK K)) | (apply wpPlan_skip rfl rfl; (intro K hK; go_simp; (try go_ints); refine hK _ _ ?_; clear hK K)))
 refine wpPlan_actG rfl rfl ?_
 intro K' hK'
 unfold Oper.wp
 go_simp
 refine (nfrom_any 2 (by decide) we).mono ?_
 rintro e wf ⟨vf, rfl, hvf, bf⟩
 have hbf : Below WX.heap.size WX wf := BE.out.trans (bf.mono BE.out.size)
 refine hK' _ _ hbf ?_
 clear hK' K' bf BE
 have BF := Lib.hid hbf
 have HVF := Lib.hid hvf
 clear hbf hvf
 refine wpPlan_actG rfl rfl ?_
 intro K' hK'
 unfold Oper.wp
 go_simp
 refine (nfrom_any 3 (by decide) wf).mono ?_
 rintro e wg ⟨vg, rfl, hvg, bg⟩
 have hbg : Below WX.heap.size WX wg := BF.out.trans (bg.mono BF.out.size)
 refine hK' _ _ hbg ?_
 clear hK' K'
 have BG := Lib.hid hbg
 have HVG := Lib.hid hvg
 have HVF2 := Lib.hid (HVF.out.below bg)
 clear hbg hvg bg BF HVF
 refine wpPlan_actG rfl rfl ?_
 intro K' hK'
 unfold Oper.wp
 go_simp
 refine (peval_any kP 2 3 _ _ _ wg (HPX.out.below BG.out) HVF2.out HVG.out ⟨fitS (by decide), fitS (by decide), fun t ht => fitS (k_pow t ht).1, fun t ht => fitS (k_pow t ht).2.1, fun t ht => fitS (k_pow t ht).2.2⟩).mono ?_
 rintro e wh ⟨vh, rfl, hvh, bh⟩
 rw [k_eval] at hvh
 have hbh : Below WX.heap.size WX wh := BG.out.trans (bh.mono BG.out.size)
 refine hK' _ _ hbh ?_
 clear hK' K' bh BG HVF2 HVG
 have BH := Lib.hid hbh
 have HVH := Lib.hid hvh
 clear hbh hvh
 refine wpPlan_actG rfl rfl ?_
 intro K' hK'
 unfold Oper.wp
 go_simp
 refine (nfrom_any 12 (by decide) wh).mono ?_
 rintro e wi ⟨vi, rfl, hvi, bi⟩
 have hbi : Below WX.heap.size WX wi := BH.out.trans (bi.mono BH.out.size)
 refine hK' _ _ hbi ?_
 clear hK' K'
 have BI := Lib.hid hbi
 have HVI := Lib.hid hvi
 have HVH2 := Lib.hid (HVH.out.below bi)
 clear hbi hvi bi BH HVH
 refine wpPlan_actG rfl rfl ?_
 intro K' hK'
 unfold Oper.wp
 go_simp
 refine (nequal_any 12 12 _ _ wi HVH2.out HVI.out (fitS (by decide))).mono ?_
 rintro e wj ⟨rfl, bj⟩
 have hbj : Below WX.heap.size WX wj := BI.out.trans (bj.mono BI.out.size)
 have hdec2 : decide (12 = 12) = true := by decide
 rw [hdec2]
 refine hK' _ _ hbj ?_
 clear hK' K' bj BI
 have BJ := Lib.hid hbj
 clear hbj
 repeat (first | (apply wpPlan_still rfl rfl; (intro w hw; obtain ⟨k1, k2⟩ := HR.out w hw; clear hw; go_simp; (try go_ints); (first | with_reducible rfl | (go_simp; with_reducible rfl))); (intro K hK; go_simp; (try go_ints); refine hK _ _ ?_; clear hK K)) | (apply wpPlan_stillG rfl rfl; (intro w hw; obtain ⟨k1, k2⟩ := HR.out w hw; clear hw; go_simp; (try go_ints); (first | with_reducible rfl | (go_simp; with_reducible rfl))); (intro K hK; go_simp; (try go_ints); refine hK _ _ ?_; clear hK K)) | (apply wpPlan_skip rfl rfl; (intro K hK; go_simp; (try go_ints); refine hK _ _ ?_; clear hK K)))
 refine wpPlan_nil ?_
 simp only [List.drop_succ_cons, List.drop_zero]
 go_wp2_with fail
 go_ret
 exact ⟨rfl, BX.out.trans (BJ.out.mono BX.out.size)⟩
end Go.Proofs.YtgnlebnpnpjfmaaGreatDoor
