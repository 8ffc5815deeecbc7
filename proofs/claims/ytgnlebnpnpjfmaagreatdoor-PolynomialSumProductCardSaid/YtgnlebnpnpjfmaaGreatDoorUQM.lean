/- Walk of the laws of polynomials: PolynomialSumProduct. -/
import Derived.Test.YtgnlebnpnpjfmaaGreatDoorUQJ
import Derived.Test.YtgnlebnpnpjfmaaGreatDoorUQL
import Derived.Test.YtgnlebnpnpjfmaaGreatDoorUQH
set_option maxHeartbeats 16000000
set_option maxRecDepth 100000
set_option linter.all false
namespace Go.Proofs.YtgnlebnpnpjfmaaGreatDoor
open Go Go.RowKit Go.Pal Go.Shelf
attribute [local go_sem] Oper.semAt_some
structure FitSP (P Q : Pol) : Prop where
 pq : FitPQ P Q
 tp : TxB P
 tq : TxB Q
 ta : TxB (padd P Q)
 tm : TxB (pmul P Q)
 up : Upto 4096 P
 uq : Upto 4096 Q
 ln : P.length * Q.length ≤ 90000
 lp : P.length ≤ 100000
 lq : Q.length ≤ 100000
theorem fitSP {a b : Nat} {P Q : Pol} (ha : a ≤ 2048) (hb : b ≤ 2048) (hp : Made a P) (hq : Made b Q) : FitSP P Q := by
 have h1 := hp.wt
 have h2 := hq.wt
 have l1 := hp.len
 have l2 := hq.len
 have m1 : wt (pmul P Q) ≤ 34359738368 * 34359738368 := Nat.le_trans (wt_pmul P Q) (Nat.mul_le_mul h1 h2)
 have k1 : (pmul P Q).length ≤ 8 * 8 := Nat.le_trans (pmul_len P Q) (Nat.mul_le_mul l1 l2)
 have s1 := wt_padd P Q
 have t1 := padd_len P Q
 have n1 : P.length * Q.length ≤ 8 * 8 := Nat.mul_le_mul l1 l2
 have u1 := hp.upto.mono ha
 have u2 := hq.upto.mono hb
 exact ⟨fitPQ hp hq, txB u1 (by omega) (by omega), txB u2 (by omega) (by omega), txB (u1.padd u2) (by omega) (by omega), txB (upto_pmul P Q) (by omega) (by omega), u1.mono (by omega), u2.mono (by omega), by omega, by omega, by omega⟩
theorem plsum_true (S T : List Tm) (hS : ∀ t ∈ S, TmOk t) (hT : ∀ t ∈ T, TmOk t) (va vb : Value) (w : World) (hva : Rd tmA 3 w.heap.size w va S) (hvb : Rd tmA 3 w.heap.size w vb T) (hE : Env w) :
   Calls Tryz.prog 4 #[va, vb, .bool true] w fun e w' => e = .returned (.bool true) ∧ Below w.heap.size w w' := by
 have HS := Lib.hid (fitSP (by decide) (by decide) (made_of 3 hS) (made_of 3 hT))
 obtain ⟨P, hP⟩ : ∃ P, P = madeP 3 (S.take 8) := ⟨_, rfl⟩
 obtain ⟨Q, hQ⟩ : ∃ Q, Q = madeP 3 (T.take 8) := ⟨_, rfl⟩
 have HM1 := Lib.hid (plmade_any 3 (by decide) S hS va w hva)
 have HM2 := Lib.hid fun W (hb : Below w.heap.size w W) => plmade_any 3 (by decide) T hT vb W ((hvb.below hb (Nat.le_refl _)).mono hb.size)
 have HF := Lib.hid (show FitPQ P Q from by rw [hP, hQ]; exact fitPQ (made_of 3 hS) (made_of 3 hT))
 have HMP := Lib.hid (show Made 3 P ∧ Made 3 Q from by rw [hP, hQ]; exact ⟨made_of 3 hS, made_of 3 hT⟩)
 rw [← hP] at HM1
 rw [← hQ] at HM2
 have HPQ := Lib.hid (And.intro hP hQ)
 have HE := Lib.hid hE
 obtain ⟨ta, tc, rfl⟩ := hva.sl
 obtain ⟨ua, uc, rfl⟩ := hvb.sl
 obtain ⟨D, hD⟩ : ∃ D, decide (P = Q) = D := ⟨_, rfl⟩
 have HD := Lib.hid hD
 clear hS hT hva hvb hE hP hQ hD
 go_enter Tryz.func4, Tryz.ntmps4
 go_wp2_with fail
 refine HM1.out.mono ?_
 rintro e w1 ⟨v1, u1, rfl, h1, ref1, b1⟩
 obtain ⟨m1, rfl, h1⟩ := polV_map h1
 obtain ⟨qa1, qc1, rfl⟩ := refP_sl ref1
 have b1A : Below w.heap.size w (w1.alloc (.cells #[.map m1] 24)) := b1.alloc b1.size _
 have bA : Below w1.heap.size w1 (w1.alloc (.cells #[.map m1] 24)) := (Below.refl _ _).alloc (Nat.le_refl _) _
 have r51 : row? (w1.alloc (.cells #[.map m1] 24)) w1.heap.size = some #[.map m1] := row?_alloc_at _ _ _ _ rfl
 have HM2 := Lib.hid (HM2.out _ b1A)
 have H1 := Lib.hid (h1.below bA)
 have HR1 := Lib.hid (ref1.below bA)
 have B1 := Lib.hid b1A
 clear h1 ref1 b1 bA b1A
 go_wp2_with fail
 refine HM2.out.mono ?_
 rintro e w2 ⟨v2, u2, rfl, h2, ref2, b2⟩
 obtain ⟨m2, rfl, h2⟩ := polV_map h2
 obtain ⟨qa2, qc2, rfl⟩ := refP_sl ref2
 have r52 := (row?_below b2 (row?_lt r51)).trans r51
 have H2 := Lib.hid h2
 have H12 := Lib.hid (H1.out.below b2)
 have HR2 := Lib.hid ref2
 have HR12 := Lib.hid (HR1.out.below b2)
 have B2 := Lib.hid (B1.out.trans (b2.mono B1.out.size))
 obtain ⟨g5, hg5⟩ : ∃ g, g = w1.heap.size := ⟨_, rfl⟩
 rw [← hg5] at r52 ⊢
 have hl52 := row?_lt r52
 clear h2 ref2 b2 H1 HR1 B1 hg5 r51
 go_wp2_with fail
 rw [← HPQ.out.1, ← HPQ.out.2] at HS
 obtain ⟨WX, hWX⟩ : ∃ W, w2.alloc (.cells #[.map m2] 24) = W := ⟨_, rfl⟩
 have hb2X : Below w2.heap.size w2 WX := by rw [← hWX]; exact (Below.refl _ _).alloc (Nat.le_refl _) _
 have r7 : row? WX w2.heap.size = some #[.map m2] := by rw [← hWX]; exact row?_alloc_at _ _ _ _ rfl
 have r5 := (row?_below hb2X (row?_lt r52)).trans r52
 have BX := Lib.hid (B2.out.trans (hb2X.mono B2.out.size))
 have HPX := Lib.hid (H12.out.below hb2X)
 have HQX := Lib.hid (H2.out.below hb2X)
 have HVX := Lib.hid (HR12.out.below hb2X)
 have HWX := Lib.hid (HR2.out.below hb2X)
 have HEX := Lib.hid (HE.out.on BX.out)
 obtain ⟨g7, hg7⟩ : ∃ g, g = w2.heap.size := ⟨_, rfl⟩
 rw [← hg7] at r7
 have HR := Lib.hid fun W (h : Below WX.heap.size WX W) => show row? W g5 = some #[.map m1] ∧ row? W g7 = some #[.map m2] from ⟨(row?_below h (row?_lt r5)).trans r5, (row?_below h (row?_lt r7)).trans r7⟩
 have BXX := Lib.hid (Below.refl WX.heap.size WX)
 have HTX := Lib.hid (And.intro hWX hg7)
 rw [hWX, ← hg7]
 clear hWX hb2X r5 r7 H12 H2 HR2 HR12 B2 r52 hl52 hg7
 refine (plknown_any _ (HEX.out.on BXX.out)).mono ?_
 rintro e w1 ⟨rfl, b1⟩
 have bb1 : Below WX.heap.size WX w1 := BXX.out.trans (b1.mono BXX.out.size)
 have B1 := Lib.hid bb1
 clear bb1 b1 BXX
 obtain ⟨k1, k2⟩ := HR.out w1 B1.out
 go_wp2_with fail
 clear k1 k2
 refine (padd_any P Q _ _ _ (HPX.out.below B1.out) (HQX.out.below B1.out) HF.out.sum HF.out.len).mono ?_
 rintro e w2 ⟨v2, rfl, h2, b2⟩
 obtain ⟨m2, rfl, h2⟩ := polV_map h2
 have H2 := Lib.hid h2
 clear h2
 have bb2 : Below WX.heap.size WX w2 := B1.out.trans (b2.mono B1.out.size)
 have B2 := Lib.hid bb2
 clear bb2 b2 B1
 obtain ⟨k1, k2⟩ := HR.out w2 B2.out
 go_wp2_with fail
 clear k1 k2
 refine (qadd_any P Q _ _ _ (HVX.out.below B2.out) (HWX.out.below B2.out) HMP.out.2.canon.pos HF.out.sum HF.out.len).mono ?_
 rintro e w3 ⟨v3, rfl, h3, b3⟩
 obtain ⟨ra3, rc3, rfl⟩ := refP_sl h3
 have H3 := Lib.hid h3
 clear h3
 have bb3 : Below WX.heap.size WX w3 := B2.out.trans (b3.mono B2.out.size)
 have B3 := Lib.hid bb3
 have H2 := Lib.hid (H2.out.below b3)
 clear bb3 b3 B2
 obtain ⟨k1, k2⟩ := HR.out w3 B3.out
 go_wp2_with fail
 clear k1 k2
 refine (plalike_any (padd P Q) (padd P Q) _ _ _ H2.out H3.out HS.out.ta HS.out.ta (HEX.out.on B3.out)).mono ?_
 rintro e w4 ⟨rfl, b4⟩
 rw [decide_eq_true (show textP (padd P Q) = textP (padd P Q) from rfl)]
 have bb4 : Below WX.heap.size WX w4 := B3.out.trans (b4.mono B3.out.size)
 have B4 := Lib.hid bb4
 clear bb4 b4 B3 H2 H3
 obtain ⟨k1, k2⟩ := HR.out w4 B4.out
 go_wp2_with fail
 clear k1 k2
 refine (pmul_any P Q _ _ _ (HPX.out.below B4.out) (HQX.out.below B4.out) HF.out.mul HF.out.p HF.out.q HF.out.lp HF.out.lq).mono ?_
 rintro e w5 ⟨v5, rfl, h5, b5⟩
 obtain ⟨m5, rfl, h5⟩ := polV_map h5
 have H5 := Lib.hid h5
 clear h5
 have bb5 : Below WX.heap.size WX w5 := B4.out.trans (b5.mono B4.out.size)
 have B5 := Lib.hid bb5
 clear bb5 b5 B4
 obtain ⟨k1, k2⟩ := HR.out w5 B5.out
 go_wp2_with fail
 clear k1 k2
 refine (qmul_any P Q _ _ _ (HVX.out.below B5.out) (HWX.out.below B5.out) HMP.out.1.canon.pos HMP.out.2.canon.pos HS.out.up HS.out.uq HF.out.mul HF.out.p HF.out.q HS.out.ln HS.out.lp HS.out.lq).mono ?_
 rintro e w6 ⟨v6, rfl, h6, b6⟩
 obtain ⟨ra6, rc6, rfl⟩ := refP_sl h6
 have H6 := Lib.hid h6
 clear h6
 have bb6 : Below WX.heap.size WX w6 := B5.out.trans (b6.mono B5.out.size)
 have B6 := Lib.hid bb6
 have H5 := Lib.hid (H5.out.below b6)
 clear bb6 b6 B5
 obtain ⟨k1, k2⟩ := HR.out w6 B6.out
 go_wp2_with fail
 clear k1 k2
 refine (plalike_any (pmul P Q) (pmul P Q) _ _ _ H5.out H6.out HS.out.tm HS.out.tm (HEX.out.on B6.out)).mono ?_
 rintro e w7 ⟨rfl, b7⟩
 rw [decide_eq_true (show textP (pmul P Q) = textP (pmul P Q) from rfl)]
 have bb7 : Below WX.heap.size WX w7 := B6.out.trans (b7.mono B6.out.size)
 have B7 := Lib.hid bb7
 clear bb7 b7 B6 H5 H6
 obtain ⟨k1, k2⟩ := HR.out w7 B7.out
 go_wp2_with fail
 clear k1 k2
 refine (plalike_any P P _ _ _ (HPX.out.below B7.out) (HVX.out.below B7.out) HS.out.tp HS.out.tp (HEX.out.on B7.out)).mono ?_
 rintro e w8 ⟨rfl, b8⟩
 rw [decide_eq_true (show textP P = textP P from rfl)]
 have bb8 : Below WX.heap.size WX w8 := B7.out.trans (b8.mono B7.out.size)
 have B8 := Lib.hid bb8
 clear bb8 b8 B7
 obtain ⟨k1, k2⟩ := HR.out w8 B8.out
 go_wp2_with fail
 clear k1 k2
 refine (plalike_any Q Q _ _ _ (HQX.out.below B8.out) (HWX.out.below B8.out) HS.out.tq HS.out.tq (HEX.out.on B8.out)).mono ?_
 rintro e w9 ⟨rfl, b9⟩
 rw [decide_eq_true (show textP Q = textP Q from rfl)]
 have bb9 : Below WX.heap.size WX w9 := B8.out.trans (b9.mono B8.out.size)
 have B9 := Lib.hid bb9
 clear bb9 b9 B8
 obtain ⟨k1, k2⟩ := HR.out w9 B9.out
 go_wp2_with fail
 go_ret
 exact ⟨rfl, BX.out.trans (B9.out.mono BX.out.size)⟩
theorem plsum_false (S T : List Tm) (hS : ∀ t ∈ S, TmOk t) (hT : ∀ t ∈ T, TmOk t) (va vb : Value) (w : World) (hva : Rd tmA 3 w.heap.size w va S) (hvb : Rd tmA 3 w.heap.size w vb T) (hE : Env w) :
   Calls Tryz.prog 4 #[va, vb, .bool false] w fun e w' => e = .returned (.bool true) ∧ Below w.heap.size w w' := by
 have HS := Lib.hid (fitSP (by decide) (by decide) (made_of 2048 hS) (made_of 2048 hT))
 obtain ⟨P, hP⟩ : ∃ P, P = madeP 2048 (S.take 8) := ⟨_, rfl⟩
 obtain ⟨Q, hQ⟩ : ∃ Q, Q = madeP 2048 (T.take 8) := ⟨_, rfl⟩
 have HM1 := Lib.hid (plmade_any 2048 (by decide) S hS va w hva)
 have HM2 := Lib.hid fun W (hb : Below w.heap.size w W) => plmade_any 2048 (by decide) T hT vb W ((hvb.below hb (Nat.le_refl _)).mono hb.size)
 have HF := Lib.hid (show FitPQ P Q from by rw [hP, hQ]; exact fitPQ (made_of 2048 hS) (made_of 2048 hT))
 have HMP := Lib.hid (show Made 2048 P ∧ Made 2048 Q from by rw [hP, hQ]; exact ⟨made_of 2048 hS, made_of 2048 hT⟩)
 rw [← hP] at HM1
 rw [← hQ] at HM2
 have HPQ := Lib.hid (And.intro hP hQ)
 have HE := Lib.hid hE
 obtain ⟨ta, tc, rfl⟩ := hva.sl
 obtain ⟨ua, uc, rfl⟩ := hvb.sl
 obtain ⟨D, hD⟩ : ∃ D, decide (P = Q) = D := ⟨_, rfl⟩
 have HD := Lib.hid hD
 clear hS hT hva hvb hE hP hQ hD
 go_enter Tryz.func4, Tryz.ntmps4
 go_wp2_with fail
 refine HM1.out.mono ?_
 rintro e w1 ⟨v1, u1, rfl, h1, ref1, b1⟩
 obtain ⟨m1, rfl, h1⟩ := polV_map h1
 obtain ⟨qa1, qc1, rfl⟩ := refP_sl ref1
 have b1A : Below w.heap.size w (w1.alloc (.cells #[.map m1] 24)) := b1.alloc b1.size _
 have bA : Below w1.heap.size w1 (w1.alloc (.cells #[.map m1] 24)) := (Below.refl _ _).alloc (Nat.le_refl _) _
 have r51 : row? (w1.alloc (.cells #[.map m1] 24)) w1.heap.size = some #[.map m1] := row?_alloc_at _ _ _ _ rfl
 have HM2 := Lib.hid (HM2.out _ b1A)
 have H1 := Lib.hid (h1.below bA)
 have HR1 := Lib.hid (ref1.below bA)
 have B1 := Lib.hid b1A
 clear h1 ref1 b1 bA b1A
 go_wp2_with fail
 refine HM2.out.mono ?_
 rintro e w2 ⟨v2, u2, rfl, h2, ref2, b2⟩
 obtain ⟨m2, rfl, h2⟩ := polV_map h2
 obtain ⟨qa2, qc2, rfl⟩ := refP_sl ref2
 have r52 := (row?_below b2 (row?_lt r51)).trans r51
 have H2 := Lib.hid h2
 have H12 := Lib.hid (H1.out.below b2)
 have HR2 := Lib.hid ref2
 have HR12 := Lib.hid (HR1.out.below b2)
 have B2 := Lib.hid (B1.out.trans (b2.mono B1.out.size))
 obtain ⟨g5, hg5⟩ : ∃ g, g = w1.heap.size := ⟨_, rfl⟩
 rw [← hg5] at r52 ⊢
 have hl52 := row?_lt r52
 clear h2 ref2 b2 H1 HR1 B1 hg5 r51
 go_wp2_with fail
 rw [← HPQ.out.1, ← HPQ.out.2] at HS
 obtain ⟨WX, hWX⟩ : ∃ W, w2.alloc (.cells #[.map m2] 24) = W := ⟨_, rfl⟩
 have hb2X : Below w2.heap.size w2 WX := by rw [← hWX]; exact (Below.refl _ _).alloc (Nat.le_refl _) _
 have r7 : row? WX w2.heap.size = some #[.map m2] := by rw [← hWX]; exact row?_alloc_at _ _ _ _ rfl
 have r5 := (row?_below hb2X (row?_lt r52)).trans r52
 have BX := Lib.hid (B2.out.trans (hb2X.mono B2.out.size))
 have HPX := Lib.hid (H12.out.below hb2X)
 have HQX := Lib.hid (H2.out.below hb2X)
 have HVX := Lib.hid (HR12.out.below hb2X)
 have HWX := Lib.hid (HR2.out.below hb2X)
 have HEX := Lib.hid (HE.out.on BX.out)
 obtain ⟨g7, hg7⟩ : ∃ g, g = w2.heap.size := ⟨_, rfl⟩
 rw [← hg7] at r7
 have HR := Lib.hid fun W (h : Below WX.heap.size WX W) => show row? W g5 = some #[.map m1] ∧ row? W g7 = some #[.map m2] from ⟨(row?_below h (row?_lt r5)).trans r5, (row?_below h (row?_lt r7)).trans r7⟩
 have BXX := Lib.hid (Below.refl WX.heap.size WX)
 have HTX := Lib.hid (And.intro hWX hg7)
 rw [hWX, ← hg7]
 clear hWX hb2X r5 r7 H12 H2 HR2 HR12 B2 r52 hl52 hg7
 refine (plknown_any _ (HEX.out.on BXX.out)).mono ?_
 rintro e w1 ⟨rfl, b1⟩
 have bb1 : Below WX.heap.size WX w1 := BXX.out.trans (b1.mono BXX.out.size)
 have B1 := Lib.hid bb1
 clear bb1 b1 BXX
 obtain ⟨k1, k2⟩ := HR.out w1 B1.out
 go_wp2_with fail
 clear k1 k2
 refine (padd_any P Q _ _ _ (HPX.out.below B1.out) (HQX.out.below B1.out) HF.out.sum HF.out.len).mono ?_
 rintro e w2 ⟨v2, rfl, h2, b2⟩
 obtain ⟨m2, rfl, h2⟩ := polV_map h2
 have H2 := Lib.hid h2
 clear h2
 have bb2 : Below WX.heap.size WX w2 := B1.out.trans (b2.mono B1.out.size)
 have B2 := Lib.hid bb2
 clear bb2 b2 B1
 obtain ⟨k1, k2⟩ := HR.out w2 B2.out
 go_wp2_with fail
 clear k1 k2
 refine (qadd_any P Q _ _ _ (HVX.out.below B2.out) (HWX.out.below B2.out) HMP.out.2.canon.pos HF.out.sum HF.out.len).mono ?_
 rintro e w3 ⟨v3, rfl, h3, b3⟩
 obtain ⟨ra3, rc3, rfl⟩ := refP_sl h3
 have H3 := Lib.hid h3
 clear h3
 have bb3 : Below WX.heap.size WX w3 := B2.out.trans (b3.mono B2.out.size)
 have B3 := Lib.hid bb3
 have H2 := Lib.hid (H2.out.below b3)
 clear bb3 b3 B2
 obtain ⟨k1, k2⟩ := HR.out w3 B3.out
 go_wp2_with fail
 clear k1 k2
 refine (plalike_any (padd P Q) (padd P Q) _ _ _ H2.out H3.out HS.out.ta HS.out.ta (HEX.out.on B3.out)).mono ?_
 rintro e w4 ⟨rfl, b4⟩
 rw [decide_eq_true (show textP (padd P Q) = textP (padd P Q) from rfl)]
 have bb4 : Below WX.heap.size WX w4 := B3.out.trans (b4.mono B3.out.size)
 have B4 := Lib.hid bb4
 clear bb4 b4 B3 H2 H3
 obtain ⟨k1, k2⟩ := HR.out w4 B4.out
 go_wp2_with fail
 clear k1 k2
 refine (pmul_any P Q _ _ _ (HPX.out.below B4.out) (HQX.out.below B4.out) HF.out.mul HF.out.p HF.out.q HF.out.lp HF.out.lq).mono ?_
 rintro e w5 ⟨v5, rfl, h5, b5⟩
 obtain ⟨m5, rfl, h5⟩ := polV_map h5
 have H5 := Lib.hid h5
 clear h5
 have bb5 : Below WX.heap.size WX w5 := B4.out.trans (b5.mono B4.out.size)
 have B5 := Lib.hid bb5
 clear bb5 b5 B4
 obtain ⟨k1, k2⟩ := HR.out w5 B5.out
 go_wp2_with fail
 clear k1 k2
 refine (qmul_any P Q _ _ _ (HVX.out.below B5.out) (HWX.out.below B5.out) HMP.out.1.canon.pos HMP.out.2.canon.pos HS.out.up HS.out.uq HF.out.mul HF.out.p HF.out.q HS.out.ln HS.out.lp HS.out.lq).mono ?_
 rintro e w6 ⟨v6, rfl, h6, b6⟩
 obtain ⟨ra6, rc6, rfl⟩ := refP_sl h6
 have H6 := Lib.hid h6
 clear h6
 have bb6 : Below WX.heap.size WX w6 := B5.out.trans (b6.mono B5.out.size)
 have B6 := Lib.hid bb6
 have H5 := Lib.hid (H5.out.below b6)
 clear bb6 b6 B5
 obtain ⟨k1, k2⟩ := HR.out w6 B6.out
 go_wp2_with fail
 clear k1 k2
 refine (plalike_any (pmul P Q) (pmul P Q) _ _ _ H5.out H6.out HS.out.tm HS.out.tm (HEX.out.on B6.out)).mono ?_
 rintro e w7 ⟨rfl, b7⟩
 rw [decide_eq_true (show textP (pmul P Q) = textP (pmul P Q) from rfl)]
 have bb7 : Below WX.heap.size WX w7 := B6.out.trans (b7.mono B6.out.size)
 have B7 := Lib.hid bb7
 clear bb7 b7 B6 H5 H6
 obtain ⟨k1, k2⟩ := HR.out w7 B7.out
 go_wp2_with fail
 clear k1 k2
 refine (plalike_any P P _ _ _ (HPX.out.below B7.out) (HVX.out.below B7.out) HS.out.tp HS.out.tp (HEX.out.on B7.out)).mono ?_
 rintro e w8 ⟨rfl, b8⟩
 rw [decide_eq_true (show textP P = textP P from rfl)]
 have bb8 : Below WX.heap.size WX w8 := B7.out.trans (b8.mono B7.out.size)
 have B8 := Lib.hid bb8
 clear bb8 b8 B7
 obtain ⟨k1, k2⟩ := HR.out w8 B8.out
 go_wp2_with fail
 clear k1 k2
 refine (plalike_any Q Q _ _ _ (HQX.out.below B8.out) (HWX.out.below B8.out) HS.out.tq HS.out.tq (HEX.out.on B8.out)).mono ?_
 rintro e w9 ⟨rfl, b9⟩
 rw [decide_eq_true (show textP Q = textP Q from rfl)]
 have bb9 : Below WX.heap.size WX w9 := B8.out.trans (b9.mono B8.out.size)
 have B9 := Lib.hid bb9
 clear bb9 b9 B8
 obtain ⟨k1, k2⟩ := HR.out w9 B9.out
 go_wp2_with fail
 go_ret
 exact ⟨rfl, BX.out.trans (B9.out.mono BX.out.size)⟩
theorem plsum_any (S : List Tm) (hS : ∀ t ∈ S, TmOk t) (T : List Tm) (hT : ∀ t ∈ T, TmOk t) (z : Bool) (va vb : Value) (w : World) (hva : Rd tmA 3 w.heap.size w va S) (hvb : Rd tmA 3 w.heap.size w vb T) (hE : Env w) :
   Calls Tryz.prog 4 #[va, vb, .bool z] w fun e w' => e = .returned (.bool true) ∧ Below w.heap.size w w' := by
 cases z
 · exact plsum_false S T hS hT va vb w hva hvb hE
 · exact plsum_true S T hS hT va vb w hva hvb hE
end Go.Proofs.YtgnlebnpnpjfmaaGreatDoor
