/- Walk of the laws of polynomials: PolynomialCoefficients. -/
import Derived.Test.YtgnlebnpnpjfmaaGreatDoorUQD
import Derived.Test.YtgnlebnpnpjfmaaGreatDoorUQY
set_option linter.all false
namespace Go.Proofs.YtgnlebnpnpjfmaaGreatDoor
open Go Go.RowKit Go.Pal Go.Shelf
attribute [local go_sem] Oper.semAt_some
theorem rowN_sl {w : World} {v : Value} {T : Nat} {f : Nat → Nat} (h : RowN w v T f) : ∃ a c, v = .slice a T c := by
 obtain ⟨L, h1, h2, -⟩ := h
 obtain ⟨a, c, rfl⟩ := h1.sl
 exact ⟨a, c, by rw [h2]⟩
theorem rowR_sl {w : World} {v : Value} {T : Nat} {f : Nat → Nat} (h : RowR w v T f) : ∃ a c, v = .slice a T c := by
 obtain ⟨L, h1, h2, -⟩ := h
 obtain ⟨a, c, rfl⟩ := h1.sl
 exact ⟨a, c, by rw [h2]⟩
theorem rowN_at {w : World} {a : Option Addr} {n c T : Nat} {f : Nat → Nat} (h : RowN w (.slice a n c) T f) {q : Nat} (hq : q < T) :
   ∃ b off s1 s2 s3, a = some ⟨b, off, none⟩ ∧ NatV w (.agg #[.slice s1 s2 s3]) (f q) ∧ ∀ W, Below w.heap.size w W → rowLoad Tryz.prog 49 ⟨b, off + q, none⟩ W = .ok (.agg #[.slice s1 s2 s3]) W := by
 obtain ⟨L, h1, h2, h3⟩ := h
 obtain ⟨b, off, c', s, hsl, hb, hs, hcc⟩ := h1.at (i := q) (by omega)
 simp only [Value.slice.injEq] at hsl
 obtain ⟨rfl, -, rfl⟩ := hsl
 refine ⟨b, off, s.1, s.2.1, s.2.2, rfl, h3 q s hs, fun W hW => ?_⟩
 refine load_cells Tryz.isAgg49 Tryz.sizeOf49 W b _ (slC s) rfl fun j u hj => ?_
 have := hcc W hW j u hj
 rwa [Nat.mul_one] at this
theorem rowR_at {w : World} {a : Option Addr} {n c T : Nat} {f : Nat → Nat} (h : RowR w (.slice a n c) T f) {q : Nat} (hq : q < T) :
   ∃ b off s1 s2 s3, a = some ⟨b, off, none⟩ ∧ RefV w (.slice s1 s2 s3) (f q) ∧ ∀ W, Below w.heap.size w W → W.cell? ⟨b, off + q, none⟩ = some (.slice s1 s2 s3) := by
 obtain ⟨L, h1, h2, h3⟩ := h
 obtain ⟨b, off, c', s, hsl, hb, hs, hcc⟩ := h1.at (i := q) (by omega)
 simp only [Value.slice.injEq] at hsl
 obtain ⟨rfl, -, rfl⟩ := hsl
 refine ⟨b, off, s.1, s.2.1, s.2.2, rfl, h3 q s hs, fun W hW => ?_⟩
 have := hcc W hW 0 (slV s) rfl
 rwa [Nat.mul_one, Nat.add_zero] at this
theorem coefZ_le (p : Pol) (a b : Int) : coefZ p a b ≤ wt p := by
 unfold coefZ
 split
 · exact coef_le _ _
 · omega
set_option maxRecDepth 100000 in
set_option maxHeartbeats 16000000 in
theorem plcoefs_any (S : List Tm) (hS : ∀ t ∈ S, TmOk t) (n : Int) (hn : InI n) (va : Value) (w : World) (hva : Rd tmA 3 w.heap.size w va S) (hE : Env w) :
   Calls Tryz.prog 11 #[va, .int .i64 n] w fun e w' => e = .returned (.bool true) ∧ Below w.heap.size w w' := by
 obtain ⟨P, hP⟩ : ∃ P, P = madeP 12 (S.take 8) := ⟨_, rfl⟩
 have HM0 := Lib.hid (plmade_any 12 (by decide) S hS va w hva)
 have HMDP := Lib.hid (show Made 12 P from by rw [hP]; exact made_of 12 hS)
 have HW := Lib.hid (show Fit (wt P) ∧ P.length ≤ 100000 ∧ Upto 4096 P from ⟨fit_small (by have := HMDP.out.wt; omega), by have := HMDP.out.len; omega, HMDP.out.upto.mono (by decide)⟩)
 rw [← hP] at HM0
 have HE := Lib.hid hE
 obtain ⟨sava, scva, rfl⟩ := hva.sl
 clear hS hva hE hP
 go_enter Tryz.func11, Tryz.ntmps11
 go_wp2_with fail
 refine HM0.out.mono ?_
 rintro e w1 ⟨v1, u1, rfl, h1, ref1, b1⟩
 obtain ⟨m1, rfl, h1⟩ := polV_map h1
 obtain ⟨qa1, qc1, rfl⟩ := refP_sl ref1
 have bw := b1
 have bA : Below w1.heap.size w1 (w1.alloc (.cells #[.map m1] 24)) := (Below.refl _ _).alloc (Nat.le_refl _) _
 have r1 : row? (w1.alloc (.cells #[.map m1] 24)) w1.heap.size = some #[.map m1] := row?_alloc_at _ _ _ _ rfl
 have H1 := Lib.hid (h1.below bA)
 have V1 := Lib.hid (ref1.below bA)
 have bwA := bw.trans (bA.mono bw.size)
 have B1 := Lib.hid bwA
 clear h1 ref1 b1 bA bw bwA
 obtain ⟨WX, hWX⟩ : ∃ W, w1.alloc (.cells #[.map m1] 24) = W := ⟨_, rfl⟩
 rw [hWX] at r1 H1 V1 B1
 have BX := Lib.hid B1.out
 have HEX := Lib.hid (HE.out.on BX.out)
 have BXX := Lib.hid (Below.refl WX.heap.size WX)
 have HPX := Lib.hid H1.out
 have VPX := Lib.hid V1.out
 have HTP := Lib.hid fun z => show topP P z ≤ 13 from topP_le HMDP.out.upto z
 go_wp2_with fail
 obtain ⟨g1, hg1⟩ : ∃ g, g = w1.heap.size := ⟨_, rfl⟩
 rw [← hg1] at r1
 have HR := Lib.hid fun W (h : Below WX.heap.size WX W) => show row? W g1 = some #[.map m1] from ((row?_below h (row?_lt r1)).trans r1)
 rw [← hg1]
 clear hg1 r1 H1 V1
 go_loopw [7] (fun k wr => ∃ z : Int, -1 ≤ z ∧ z ≤ 14 ∧ k = .int .i64 z ∧ Below WX.heap.size WX wr) (fun k _ => (14 - intOf k).toNat)
 case atStart => exact ⟨-1, by omega, by omega, rfl, Below.refl _ _⟩
 case round =>
   obtain ⟨z, hz1, hz2, rfl, hbl⟩ := hrel
   have HB := Lib.hid hbl
   have k1 := HR.out wr hbl
   clear hbl
   rcases Int.lt_or_le 13 z with hz | hz
   · have hdz : decide (z ≤ 13) = false := decide_eq_false (by omega)
     go_wp2_with fail
     refine (plknown_any wr (HEX.out.on HB.out)).mono ?_
     rintro e wa ⟨rfl, ba⟩
     have BA := Lib.hid (HB.out.trans (ba.mono HB.out.size))
     have k1 := HR.out wa BA.out
     clear ba
     go_wp2_with fail
     refine (prow_any P n hn _ wa (HPX.out.below BA.out)).mono ?_
     rintro e wb ⟨v8, rfl, h8, bb⟩
     obtain ⟨na, nc, rfl⟩ := rowN_sl h8
     have BB := Lib.hid (BA.out.trans (bb.mono BA.out.size))
     have htn := HTP.out n
     obtain ⟨T, hT⟩ : ∃ T, T = topP P n := ⟨_, rfl⟩
     have HQ := Lib.hid (qrow_any P HMDP.out.canon HW.out.2.2 HW.out.2.1 n hn _ wb (VPX.out.below BB.out))
     rw [← hT] at HQ htn ⊢
     clear bb h8 k1 hT
     go_wp2_with fail
     refine HQ.out.mono ?_
     rintro e wd ⟨v9, rfl, h9, bd⟩
     obtain ⟨ra, rc, rfl⟩ := rowR_sl h9
     have BD := Lib.hid (BB.out.trans (bd.mono BB.out.size))
     clear bd h9
     go_wp2_with fail
     go_ret
     exact ⟨rfl, BX.out.trans (BD.out.mono BX.out.size)⟩
   · have hdz : decide (z ≤ 13) = true := decide_eq_true hz
     have hzi : InI z := by unfold InI; omega
     go_wp2_with fail
     refine (prow_any P z hzi _ wr (HPX.out.below HB.out)).mono ?_
     rintro e wb ⟨v8, rfl, h8, bb⟩
     obtain ⟨na, nc, rfl⟩ := rowN_sl h8
     have BB := Lib.hid (HB.out.trans (bb.mono HB.out.size))
     have htn := HTP.out z
     have HQ := Lib.hid (qrow_any P HMDP.out.canon HW.out.2.2 HW.out.2.1 z hzi _ wb (VPX.out.below BB.out))
     obtain ⟨T, hT⟩ : ∃ T, T = topP P z := ⟨_, rfl⟩
     rw [← hT] at HQ htn h8 ⊢
     have H8 := Lib.hid h8
     clear bb h8 k1 hT
     go_wp2_with fail
     refine HQ.out.mono ?_
     rintro e wd ⟨v9, rfl, h9, bd⟩
     obtain ⟨ra, rc, rfl⟩ := rowR_sl h9
     have BD := Lib.hid (BB.out.trans (bd.mono BB.out.size))
     have H8 := Lib.hid (H8.out.below bd)
     have H9 := Lib.hid h9
     clear bd h9
     go_wp2_with fail
     go_loopw [10] (fun i wi => ∃ q : Nat, q ≤ T ∧ i = .int .i64 (q : Int) ∧ Below wd.heap.size wd wi) (fun i _ => T - (intOf i).toNat)
     case atStart => exact ⟨0, Nat.zero_le _, rfl, Below.refl _ _⟩
     case round =>
       obtain ⟨q, hq, rfl, hbi⟩ := hrel
       have HBI := Lib.hid hbi
       clear hbi
       rcases Nat.lt_or_ge q T with hq2 | hq2
       · have hdq : decide (q < T) = true := decide_eq_true hq2
         obtain ⟨b1, o1, s1, s2, s3, rfl, hnv, hl1⟩ := rowN_at H8.out hq2
         obtain ⟨b2, o2, t1, t2, t3, rfl, hrv, hl2⟩ := rowR_at H9.out hq2
         have HL := Lib.hid fun W (h : Below wd.heap.size wd W) => And.intro (hl1 W h) (hl2 W h)
         have HNV := Lib.hid hnv
         have HRV := Lib.hid hrv
         have HFC := Lib.hid (show Fit (coefZ P (q : Int) z) from HW.out.1.mono (coefZ_le P _ _))
         obtain ⟨X, hX⟩ : ∃ X, Lib.decDigits (coefZ P (q : Int) z) = X := ⟨_, rfl⟩
         have HX := Lib.hid hX
         clear hnv hrv hl1 hl2 hX
         go_wp2_with fail
         refine wp_region_mix (fun W => Below wd.heap.size wd W) 10 [(0, true), (1, true), (2, true), (3, true), (5, true), (6, true), (7, true), (8, true), (4, false), (9, false)] (by kernel_rfl) (by kernel_rfl) HBI.out.drew ?_
         have B0 := Lib.hid HBI.out.drew
         repeat (apply wpPlan_still rfl rfl; (intro w hw; obtain ⟨k1, k2⟩ := HL.out w hw; clear hw; go_simp; (try go_ints); (first | with_reducible rfl | (go_simp; with_reducible rfl))); (intro K hK; go_simp; (try go_ints); refine hK _ _ ?_; clear hK K))
         apply wpPlan_act rfl rfl
         intro K' hK'
         unfold Oper.wp
         go_simp
         refine (nstring_any (coefZ P (q : Int) z) _ _ (HNV.out.below B0.out) HFC.out (HEX.out.on ((BD.out).trans (B0.out.mono BD.out.size)))).mono ?_
         rintro e w5 ⟨rfl, b5⟩
         rw [HX.out]
         have bb5 := B0.out.trans (b5.mono B0.out.size)
         refine hK' _ _ bb5 ?_
         clear hK' K'
         have B5 := Lib.hid bb5
         clear bb5 b5
         apply wpPlan_act rfl rfl
         intro K' hK'
         unfold Oper.wp
         go_simp
         refine (dtext_any (coefZ P (q : Int) z) _ _ (HRV.out.below B5.out) HFC.out).mono ?_
         rintro e w6 ⟨rfl, b6⟩
         rw [HX.out]
         have bb6 := B5.out.trans (b6.mono B5.out.size)
         refine hK' _ _ bb6 ?_
         clear hK' K'
         have B6 := Lib.hid bb6
         clear bb6 b6
         refine wpPlan_nil ?_
         simp only [List.drop_succ_cons, List.drop_zero]
         go_wp2_with fail
         go_roundw
         case rel => exact ⟨q + 1, by omega, by go_num, B6.out⟩
         case measure => simp [intOf]; omega
       · have hdq : decide (q < T) = false := decide_eq_false (by omega)
         go_wp2_with fail
         go_roundw
         case rel => exact ⟨z + 1, by omega, by omega, by go_num, BD.out.trans (HBI.out.mono BD.out.size)⟩
         case measure => simp [intOf]; omega
end Go.Proofs.YtgnlebnpnpjfmaaGreatDoor
