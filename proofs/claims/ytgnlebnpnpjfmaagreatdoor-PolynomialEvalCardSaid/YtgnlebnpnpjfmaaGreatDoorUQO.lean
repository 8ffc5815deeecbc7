/- Walk of the laws of polynomials: PolynomialEval. -/
import Derived.Test.YtgnlebnpnpjfmaaGreatDoorUQJ
import Derived.Test.YtgnlebnpnpjfmaaGreatDoorUQT
import Derived.Deep.Cut
import Derived.Deep.CutRange
import Derived.Deep.DeepCutAuto
set_option linter.all false
namespace Go.Proofs.YtgnlebnpnpjfmaaGreatDoor
open Go Go.RowKit Go.Pal Go.Shelf
attribute [local go_sem] Oper.semAt_some
structure FitEv (P Q : Pol) (x y : Nat) : Prop where
 pq : FitPQ P Q
 evp : EvB P x y
 evq : EvB Q x y
 eva : EvB (padd P Q) x y
 evm : EvB (pmul P Q) x y
 vp : ValB P x y
 up : Upto 2048 P
 lp : P.length ≤ 100000
 fx : Fit x
 fy : Fit y
theorem fitEv {P Q : Pol} {x y : Nat} (hp : Made 6 P) (hq : Made 6 Q) (hx : x < 65536) (hy : y < 65536) : FitEv P Q x y := by
 have h1 := hp.wt
 have h2 := hq.wt
 have s1 := wt_padd P Q
 have m1 : wt (pmul P Q) ≤ 34359738368 * 34359738368 := Nat.le_trans (wt_pmul P Q) (Nat.mul_le_mul h1 h2)
 have k0 : 34359738368 * 34359738368 ≤ 2 ^ 80 := by decide
 have k1 : 34359738368 + 34359738368 ≤ 2 ^ 80 := by decide
 have k2 : 34359738368 ≤ 2 ^ 80 := by decide
 have l1 := hp.len
 exact ⟨fitPQ hp hq, evB (by decide) hp.upto (Nat.le_trans h1 k2) hx hy, evB (by decide) hq.upto (Nat.le_trans h2 k2) hx hy, evB (m := 6) (by decide) (hp.upto.padd hq.upto) (Nat.le_trans (by rw [s1]; exact Nat.add_le_add h1 h2) k1) hx hy, evB (m := 6 + 6) (by decide) (hp.upto.pmul hq.upto) (Nat.le_trans m1 k0) hx hy, valB (by decide) hp.upto (Nat.le_trans h1 k2) hx hy, hp.upto.mono (by decide), by clear k0 k1 k2 m1; omega, fit_small (by clear k0 k1 k2 m1; omega), fit_small (by clear k0 k1 k2 m1; omega)⟩
set_option maxRecDepth 100000 in
set_option maxHeartbeats 16000000 in
theorem pleval_any (S : List Tm) (hS : ∀ t ∈ S, TmOk t) (T : List Tm) (hT : ∀ t ∈ T, TmOk t) (x y : Nat) (hx : x < 65536) (hy : y < 65536) (va vb : Value) (w : World) (hva : Rd tmA 3 w.heap.size w va S) (hvb : Rd tmA 3 w.heap.size w vb T) (hE : Env w) :
   Calls Tryz.prog 6 #[va, vb, .agg #[.int .u16 (x : Int), .int .u16 (y : Int)]] w fun e w' => e = .returned (.bool true) ∧ Below w.heap.size w w' := by
 obtain ⟨P, hP⟩ : ∃ P, P = madeP 6 (S.take 8) := ⟨_, rfl⟩
 obtain ⟨Q, hQ⟩ : ∃ P, P = madeP 6 (T.take 8) := ⟨_, rfl⟩
 have HM0 := Lib.hid fun W (hb : Below w.heap.size w W) => plmade_any 6 (by decide) S hS va W ((hva.below hb (Nat.le_refl _)).mono hb.size)
 have HMDP := Lib.hid (show Made 6 P from by rw [hP]; exact made_of 6 hS)
 have HM1 := Lib.hid fun W (hb : Below w.heap.size w W) => plmade_any 6 (by decide) T hT vb W ((hvb.below hb (Nat.le_refl _)).mono hb.size)
 have HMDQ := Lib.hid (show Made 6 Q from by rw [hQ]; exact made_of 6 hT)
 have HF := Lib.hid (show FitEv P Q x y from fitEv HMDP.out HMDQ.out hx hy)
 rw [← hP] at HM0
 rw [← hQ] at HM1
 have HE := Lib.hid hE
 obtain ⟨sava, scva, rfl⟩ := hva.sl
 obtain ⟨savb, scvb, rfl⟩ := hvb.sl
 clear hS hva hT hvb hE hP hQ
 go_enter Tryz.func6, Tryz.ntmps6
 go_wp2_with fail
 have bA0 : Below w.heap.size w (w.alloc (.cells #[.int .u16 (x : Int), .int .u16 (y : Int)] 46)) := (Below.refl _ _).alloc (Nat.le_refl _) _
 have r0 : row? (w.alloc (.cells #[.int .u16 (x : Int), .int .u16 (y : Int)] 46)) w.heap.size = some #[.int .u16 (x : Int), .int .u16 (y : Int)] := row?_alloc_at _ _ _ _ rfl
 have c0 := (cell?_row (i := 0) r0).trans rfl
 have c1 := (cell?_row (i := 1) r0).trans rfl
 have BPre := Lib.hid bA0.drew
 refine wp_region_mix (fun W => W = World.drew (w.alloc (.cells #[.int .u16 (x : Int), .int .u16 (y : Int)] 46))) 5 [(0, true), (1, true), (2, true), (3, true), (4, true)] (by kernel_rfl) (by kernel_rfl) rfl ?_
 repeat (apply wpPlan_still rfl rfl; (intro w hw; subst hw; go_simp; (try go_ints); (first | with_reducible rfl | (go_simp; with_reducible rfl))); (intro K hK; go_simp; (try go_ints); refine hK _ _ ?_; clear hK K))
 refine wpPlan_nil ?_
 simp only [List.drop_succ_cons, List.drop_zero]
 clear bA0 r0
 go_wp2_with fail
 clear c0 c1
 refine (HM0.out _ BPre.out).mono ?_
 rintro e w1 ⟨v1, u1, rfl, h1, ref1, b1⟩
 obtain ⟨m1, rfl, h1⟩ := polV_map h1
 obtain ⟨qa1, qc1, rfl⟩ := refP_sl ref1
 have bw := BPre.out.trans (b1.mono BPre.out.size)
 have bA : Below w1.heap.size w1 (w1.alloc (.cells #[.map m1] 24)) := (Below.refl _ _).alloc (Nat.le_refl _) _
 have r1 : row? (w1.alloc (.cells #[.map m1] 24)) w1.heap.size = some #[.map m1] := row?_alloc_at _ _ _ _ rfl
 have H1 := Lib.hid (h1.below bA)
 have V1 := Lib.hid (ref1.below bA)
 have bwA := bw.trans (bA.mono bw.size)
 have HM1 := Lib.hid (HM1.out _ bwA)
 have B1 := Lib.hid bwA
 clear h1 ref1 b1 bA bw bwA
 go_wp2_with fail
 refine HM1.out.mono ?_
 rintro e w2 ⟨v2, u2, rfl, h2, ref2, b2⟩
 obtain ⟨m2, rfl, h2⟩ := polV_map h2
 obtain ⟨qa2, qc2, rfl⟩ := refP_sl ref2
 obtain ⟨g1, hg1⟩ : ∃ g, g = w1.heap.size := ⟨_, rfl⟩
 rw [← hg1] at r1 ⊢
 clear hg1
 have r1 := (row?_below b2 (row?_lt r1)).trans r1
 have H1 := Lib.hid (H1.out.below b2)
 have V1 := Lib.hid (V1.out.below b2)
 have bw := B1.out.trans (b2.mono B1.out.size)
 have bA : Below w2.heap.size w2 (w2.alloc (.cells #[.map m2] 24)) := (Below.refl _ _).alloc (Nat.le_refl _) _
 have r1 := (row?_below bA (row?_lt r1)).trans r1
 have H1 := Lib.hid (H1.out.below bA)
 have V1 := Lib.hid (V1.out.below bA)
 have r2 : row? (w2.alloc (.cells #[.map m2] 24)) w2.heap.size = some #[.map m2] := row?_alloc_at _ _ _ _ rfl
 have H2 := Lib.hid (h2.below bA)
 have V2 := Lib.hid (ref2.below bA)
 have bwA := bw.trans (bA.mono bw.size)
 have B2 := Lib.hid bwA
 clear h2 ref2 b2 bA bw bwA
 obtain ⟨WX, hWX⟩ : ∃ W, w2.alloc (.cells #[.map m2] 24) = W := ⟨_, rfl⟩
 rw [hWX] at r1 H1 V1 r2 H2 V2 B2
 have BX := Lib.hid B2.out
 have HEX := Lib.hid (HE.out.on BX.out)
 have BXX := Lib.hid (Below.refl WX.heap.size WX)
 have HPX := Lib.hid H1.out
 have VPX := Lib.hid V1.out
 have HQX := Lib.hid H2.out
 have VQX := Lib.hid V2.out
 go_wp2_with fail
 refine (nfrom_any x (by omega) _).mono ?_
 rintro e wa ⟨v7, rfl, h7, ba⟩
 obtain ⟨xa, xc, rfl, -⟩ := natV_sl h7
 obtain ⟨xl, hxl⟩ : ∃ l, l = (digB 4294967296 x).length := ⟨_, rfl⟩
 rw [← hxl] at h7 ⊢
 clear hxl
 have BA := Lib.hid ba
 have H7 := Lib.hid h7
 clear ba h7
 go_wp2_with fail
 refine (nfrom_any y (by omega) wa).mono ?_
 rintro e wb ⟨v8, rfl, h8, bb⟩
 obtain ⟨ya, yc, rfl, -⟩ := natV_sl h8
 obtain ⟨yl, hyl⟩ : ∃ l, l = (digB 4294967296 y).length := ⟨_, rfl⟩
 rw [← hyl] at h8 ⊢
 clear hyl
 obtain ⟨g2, hg2⟩ : ∃ g, g = w2.heap.size := ⟨_, rfl⟩
 rw [← hg2] at r2 ⊢
 clear hg2
 have bb2 := BA.out.trans (bb.mono BA.out.size)
 obtain ⟨WY, hWY⟩ : ∃ W, (wb.alloc (.cells #[.slice xa xl xc] 49)).alloc (.cells #[.slice ya yl yc] 49) = W := ⟨_, rfl⟩
 have bAl : Below wb.heap.size wb WY := by
   rw [← hWY]
   (repeat' (first | (with_reducible first | exact Below.refl _ _ | assumption | refine Below.alloc ?_ ?_ _ | refine Below.drew ?_ | refine Below.setCell ?_ ?_ _ | refine below_setRow ?_ ?_ _ | exact Nat.le_refl _) | omega | (simp; done) | (simp; omega) | (simp at *; omega)))
 have r3 : row? WY wb.heap.size = some #[.slice xa xl xc] := by rw [← hWY]; simp [go_sem]
 have r4 : row? WY (wb.heap.size + 1) = some #[.slice ya yl yc] := by rw [← hWY]; simp [go_sem]
 have bYX := bb2.trans (bAl.mono bb2.size)
 have r1 := (row?_below bYX (row?_lt r1)).trans r1
 have H1 := Lib.hid (H1.out.below bYX)
 have V1 := Lib.hid (V1.out.below bYX)
 have r2 := (row?_below bYX (row?_lt r2)).trans r2
 have H2 := Lib.hid (H2.out.below bYX)
 have V2 := Lib.hid (V2.out.below bYX)
 have BX := Lib.hid (BX.out.trans (bYX.mono BX.out.size))
 have HEX := Lib.hid (HE.out.on BX.out)
 have HPX := Lib.hid H1.out
 have HQX := Lib.hid H2.out
 have VPX := Lib.hid V1.out
 have HMX := Lib.hid (H7.out.below (bb.trans (bAl.mono bb.size)))
 have HNX := Lib.hid (h8.below bAl)
 obtain ⟨WX, hWX⟩ : ∃ W, WY = W := ⟨_, rfl⟩
 rw [hWX] at hWY r1 r2 r3 r4 HPX HQX VPX HMX HNX BX HEX
 clear h8 bb bb2 bAl bYX H1 H2 V1 V2 H7 BA hWX
 go_wp2_with fail
 obtain ⟨g3, hg3⟩ : ∃ g, g = wb.heap.size := ⟨_, rfl⟩
 rw [← hg3] at r3 r4 ⊢
 clear hWY hg3
 have HR := Lib.hid fun W (h : Below WX.heap.size WX W) => show row? W g1 = some #[.map m1] ∧ row? W g2 = some #[.map m2] ∧ row? W g3 = some #[.slice xa xl xc] ∧ row? W (g3 + 1) = some #[.slice ya yl yc] from ⟨(row?_below h (row?_lt r1)).trans r1, (row?_below h (row?_lt r2)).trans r2, (row?_below h (row?_lt r3)).trans r3, (row?_below h (row?_lt r4)).trans r4⟩
 clear r1 r2 r3 r4
 go_cut [15, 16] from 37 to 44 (fun a b wx => ∃ (p q : Nat) (ua : Option Addr) (ul uc : Nat) (va : Option Addr) (vl vc : Nat), a = .pointer (some ⟨p, 0, none⟩) ∧ b = .pointer (some ⟨q, 0, none⟩) ∧ row? wx p = some #[.slice ua ul uc] ∧ row? wx q = some #[.slice va vl vc] ∧ NatV wx (.agg #[.slice ua ul uc]) (evalP P x y) ∧ NatV wx (.agg #[.slice va vl vc]) (evalP Q x y) ∧ Below WX.heap.size WX wx)
 case first =>
   refine wp_region_mixT (fun W => Below WX.heap.size WX W) 10 (.read 0 (.read 1 (.read 2 (.read 4 (.read 5 (.read 6 (.fork3 3 8 9 (.fork3 7 8 9 (.fork 8 9 (.act 9 .done) (.act 8 .done)) (.fork 7 9 (.act 9 .done) (.act 7 .done)) (.fork 7 8 (.act 8 .done) (.act 7 .done))) (.fork 3 9 (.fork 7 9 (.act 9 .done) (.act 7 .done)) (.act 3 (.act 7 .done))) (.fork 3 8 (.fork 7 8 (.act 8 .done) (.act 7 .done)) (.act 3 (.act 7 .done)))))))))) (by kernel_rfl) (by kernel_rfl) (Below.refl _ _).drew ?_
   have bc : Below WX.heap.size WX WX.drew := (Below.refl _ _).drew
   repeat (apply wpPlanT_still rfl rfl; (intro w hw; obtain ⟨k1, k2, k3, k4⟩ := HR.out w hw; clear hw; go_simp; (try go_ints); (first | with_reducible rfl | (go_simp; with_reducible rfl))); (intro K hK; go_simp; (try go_ints); refine hK _ _ ?_; clear hK K))
   refine wpPlanT_fork3 ?_ ?_ ?_
   · apply wpPlanT_act rfl rfl
     intro K hK
     unfold Oper.wp
     go_simp
     refine (peval_any P x y _ _ _ _ (HPX.out.below bc) (HMX.out.below bc) (HNX.out.below bc) HF.out.evp).mono ?_
     rintro e wq1 ⟨vu, rfl, hu, bn⟩
     obtain ⟨ua, uc, rfl, -⟩ := natV_sl hu
     obtain ⟨ul, hul⟩ : ∃ l, l = (digB 4294967296 (evalP P x y)).length := ⟨_, rfl⟩
     rw [← hul] at hu ⊢
     clear hul
     have bc := bc.trans (bn.mono bc.size)
     refine hK _ _ bc ?_
     clear hK K bn
     refine wpPlanT_fork3 ?_ ?_ ?_
     · apply wpPlanT_act rfl rfl
       intro K hK
       unfold Oper.wp
       go_simp
       refine (peval_any Q x y _ _ _ _ (HQX.out.below bc) (HMX.out.below bc) (HNX.out.below bc) HF.out.evq).mono ?_
       rintro e wq2 ⟨vv, rfl, hv, bn⟩
       obtain ⟨va, vc, rfl, -⟩ := natV_sl hv
       obtain ⟨vl, hvl⟩ : ∃ l, l = (digB 4294967296 (evalP Q x y)).length := ⟨_, rfl⟩
       rw [← hvl] at hv ⊢
       clear hvl
       have bc := bc.trans (bn.mono bc.size)
       have hu := hu.below bn
       refine hK _ _ bc ?_
       clear hK K bn
       refine wpPlanT_fork ?_ ?_
       · refine wpPlanT_alloc #[.slice none 0 0] 49 rfl rfl (by intro W; go_simp) ?_
         intro p wq3 hp hle hlt bn
         have hpge : WX.heap.size ≤ p := Nat.le_trans bc.size hle
         have bc := bc.trans (bn.mono bc.size)
         have hu := hu.below bn
         have hv := hv.below bn
         refine ⟨bc, fun K hK => ?_⟩
         go_simp
         refine hK _ _ ?_
         clear hK K bn hle hlt
         refine wpPlanT_alloc #[.slice none 0 0] 49 rfl rfl (by intro W; go_simp) ?_
         intro q wq4 hq hle hlt bn
         have hqge : WX.heap.size ≤ q := Nat.le_trans bc.size hle
         have bc := bc.trans (bn.mono bc.size)
         have hu := hu.below bn
         have hv := hv.below bn
         have hpq : ¬ p = q := by have := row?_lt hp; omega
         have hp := (row?_below bn (row?_lt hp)).trans hp
         refine ⟨bc, fun K hK => ?_⟩
         go_simp
         refine hK _ _ ?_
         clear hK K bn hle hlt
         refine wpPlanT_done ?_
         simp only [List.drop_succ_cons, List.drop_zero]
         have hqp : ¬ q = p := fun e => hpq e.symm
         have BC := Lib.hid bc
         have HU := Lib.hid hu
         have HVV := Lib.hid hv
         clear bc hu hv
         go_wp2_with fail
         go_meet
         case rel => exact ⟨p, q, ua, ul, uc, va, vl, vc, rfl, rfl, (row?_setRow_other _ _ _ _ hpq).trans (row?_setRow_same _ _ _ (by rw [hp]; rfl)), row?_setRow_same _ _ _ (by rw [row?_setRow_other _ _ _ _ hqp, hq]; rfl), (HU.out.setRow hp _).setRow ((row?_setRow_other _ _ _ _ hqp).trans hq) _, (HVV.out.setRow hp _).setRow ((row?_setRow_other _ _ _ _ hqp).trans hq) _, below_setRow (below_setRow BC.out hpge _) hqge _⟩
       · refine wpPlanT_alloc #[.slice none 0 0] 49 rfl rfl (by intro W; go_simp) ?_
         intro q wq3 hq hle hlt bn
         have hqge : WX.heap.size ≤ q := Nat.le_trans bc.size hle
         have bc := bc.trans (bn.mono bc.size)
         have hu := hu.below bn
         have hv := hv.below bn
         refine ⟨bc, fun K hK => ?_⟩
         go_simp
         refine hK _ _ ?_
         clear hK K bn hle hlt
         refine wpPlanT_alloc #[.slice none 0 0] 49 rfl rfl (by intro W; go_simp) ?_
         intro p wq4 hp hle hlt bn
         have hpge : WX.heap.size ≤ p := Nat.le_trans bc.size hle
         have bc := bc.trans (bn.mono bc.size)
         have hu := hu.below bn
         have hv := hv.below bn
         have hpq : ¬ p = q := by have := row?_lt hq; omega
         have hq := (row?_below bn (row?_lt hq)).trans hq
         refine ⟨bc, fun K hK => ?_⟩
         go_simp
         refine hK _ _ ?_
         clear hK K bn hle hlt
         refine wpPlanT_done ?_
         simp only [List.drop_succ_cons, List.drop_zero]
         have hqp : ¬ q = p := fun e => hpq e.symm
         have BC := Lib.hid bc
         have HU := Lib.hid hu
         have HVV := Lib.hid hv
         clear bc hu hv
         go_wp2_with fail
         go_meet
         case rel => exact ⟨p, q, ua, ul, uc, va, vl, vc, rfl, rfl, (row?_setRow_other _ _ _ _ hpq).trans (row?_setRow_same _ _ _ (by rw [hp]; rfl)), row?_setRow_same _ _ _ (by rw [row?_setRow_other _ _ _ _ hqp, hq]; rfl), (HU.out.setRow hp _).setRow ((row?_setRow_other _ _ _ _ hqp).trans hq) _, (HVV.out.setRow hp _).setRow ((row?_setRow_other _ _ _ _ hqp).trans hq) _, below_setRow (below_setRow BC.out hpge _) hqge _⟩
     · refine wpPlanT_alloc #[.slice none 0 0] 49 rfl rfl (by intro W; go_simp) ?_
       intro p wq2 hp hle hlt bn
       have hpge : WX.heap.size ≤ p := Nat.le_trans bc.size hle
       have bc := bc.trans (bn.mono bc.size)
       have hu := hu.below bn
       refine ⟨bc, fun K hK => ?_⟩
       go_simp
       refine hK _ _ ?_
       clear hK K bn hle hlt
       refine wpPlanT_fork ?_ ?_
       · apply wpPlanT_act rfl rfl
         intro K hK
         unfold Oper.wp
         go_simp
         refine (peval_any Q x y _ _ _ _ (HQX.out.below bc) (HMX.out.below bc) (HNX.out.below bc) HF.out.evq).mono ?_
         rintro e wq3 ⟨vv, rfl, hv, bn⟩
         obtain ⟨va, vc, rfl, -⟩ := natV_sl hv
         obtain ⟨vl, hvl⟩ : ∃ l, l = (digB 4294967296 (evalP Q x y)).length := ⟨_, rfl⟩
         rw [← hvl] at hv ⊢
         clear hvl
         have bc := bc.trans (bn.mono bc.size)
         have hu := hu.below bn
         have hp := (row?_below bn (row?_lt hp)).trans hp
         refine hK _ _ bc ?_
         clear hK K bn
         refine wpPlanT_alloc #[.slice none 0 0] 49 rfl rfl (by intro W; go_simp) ?_
         intro q wq4 hq hle hlt bn
         have hqge : WX.heap.size ≤ q := Nat.le_trans bc.size hle
         have bc := bc.trans (bn.mono bc.size)
         have hu := hu.below bn
         have hv := hv.below bn
         have hpq : ¬ p = q := by have := row?_lt hp; omega
         have hp := (row?_below bn (row?_lt hp)).trans hp
         refine ⟨bc, fun K hK => ?_⟩
         go_simp
         refine hK _ _ ?_
         clear hK K bn hle hlt
         refine wpPlanT_done ?_
         simp only [List.drop_succ_cons, List.drop_zero]
         have hqp : ¬ q = p := fun e => hpq e.symm
         have BC := Lib.hid bc
         have HU := Lib.hid hu
         have HVV := Lib.hid hv
         clear bc hu hv
         go_wp2_with fail
         go_meet
         case rel => exact ⟨p, q, ua, ul, uc, va, vl, vc, rfl, rfl, (row?_setRow_other _ _ _ _ hpq).trans (row?_setRow_same _ _ _ (by rw [hp]; rfl)), row?_setRow_same _ _ _ (by rw [row?_setRow_other _ _ _ _ hqp, hq]; rfl), (HU.out.setRow hp _).setRow ((row?_setRow_other _ _ _ _ hqp).trans hq) _, (HVV.out.setRow hp _).setRow ((row?_setRow_other _ _ _ _ hqp).trans hq) _, below_setRow (below_setRow BC.out hpge _) hqge _⟩
       · refine wpPlanT_alloc #[.slice none 0 0] 49 rfl rfl (by intro W; go_simp) ?_
         intro q wq3 hq hle hlt bn
         have hqge : WX.heap.size ≤ q := Nat.le_trans bc.size hle
         have bc := bc.trans (bn.mono bc.size)
         have hu := hu.below bn
         have hpq : ¬ p = q := by have := row?_lt hp; omega
         have hp := (row?_below bn (row?_lt hp)).trans hp
         refine ⟨bc, fun K hK => ?_⟩
         go_simp
         refine hK _ _ ?_
         clear hK K bn hle hlt
         apply wpPlanT_act rfl rfl
         intro K hK
         unfold Oper.wp
         go_simp
         refine (peval_any Q x y _ _ _ _ (HQX.out.below bc) (HMX.out.below bc) (HNX.out.below bc) HF.out.evq).mono ?_
         rintro e wq4 ⟨vv, rfl, hv, bn⟩
         obtain ⟨va, vc, rfl, -⟩ := natV_sl hv
         obtain ⟨vl, hvl⟩ : ∃ l, l = (digB 4294967296 (evalP Q x y)).length := ⟨_, rfl⟩
         rw [← hvl] at hv ⊢
         clear hvl
         have bc := bc.trans (bn.mono bc.size)
         have hu := hu.below bn
         have hp := (row?_below bn (row?_lt hp)).trans hp
         have hq := (row?_below bn (row?_lt hq)).trans hq
         refine hK _ _ bc ?_
         clear hK K bn
         refine wpPlanT_done ?_
         simp only [List.drop_succ_cons, List.drop_zero]
         have hqp : ¬ q = p := fun e => hpq e.symm
         have BC := Lib.hid bc
         have HU := Lib.hid hu
         have HVV := Lib.hid hv
         clear bc hu hv
         go_wp2_with fail
         go_meet
         case rel => exact ⟨p, q, ua, ul, uc, va, vl, vc, rfl, rfl, (row?_setRow_other _ _ _ _ hpq).trans (row?_setRow_same _ _ _ (by rw [hp]; rfl)), row?_setRow_same _ _ _ (by rw [row?_setRow_other _ _ _ _ hqp, hq]; rfl), (HU.out.setRow hp _).setRow ((row?_setRow_other _ _ _ _ hqp).trans hq) _, (HVV.out.setRow hp _).setRow ((row?_setRow_other _ _ _ _ hqp).trans hq) _, below_setRow (below_setRow BC.out hpge _) hqge _⟩
     · refine wpPlanT_alloc #[.slice none 0 0] 49 rfl rfl (by intro W; go_simp) ?_
       intro q wq2 hq hle hlt bn
       have hqge : WX.heap.size ≤ q := Nat.le_trans bc.size hle
       have bc := bc.trans (bn.mono bc.size)
       have hu := hu.below bn
       refine ⟨bc, fun K hK => ?_⟩
       go_simp
       refine hK _ _ ?_
       clear hK K bn hle hlt
       refine wpPlanT_fork ?_ ?_
       · apply wpPlanT_act rfl rfl
         intro K hK
         unfold Oper.wp
         go_simp
         refine (peval_any Q x y _ _ _ _ (HQX.out.below bc) (HMX.out.below bc) (HNX.out.below bc) HF.out.evq).mono ?_
         rintro e wq3 ⟨vv, rfl, hv, bn⟩
         obtain ⟨va, vc, rfl, -⟩ := natV_sl hv
         obtain ⟨vl, hvl⟩ : ∃ l, l = (digB 4294967296 (evalP Q x y)).length := ⟨_, rfl⟩
         rw [← hvl] at hv ⊢
         clear hvl
         have bc := bc.trans (bn.mono bc.size)
         have hu := hu.below bn
         have hq := (row?_below bn (row?_lt hq)).trans hq
         refine hK _ _ bc ?_
         clear hK K bn
         refine wpPlanT_alloc #[.slice none 0 0] 49 rfl rfl (by intro W; go_simp) ?_
         intro p wq4 hp hle hlt bn
         have hpge : WX.heap.size ≤ p := Nat.le_trans bc.size hle
         have bc := bc.trans (bn.mono bc.size)
         have hu := hu.below bn
         have hv := hv.below bn
         have hpq : ¬ p = q := by have := row?_lt hq; omega
         have hq := (row?_below bn (row?_lt hq)).trans hq
         refine ⟨bc, fun K hK => ?_⟩
         go_simp
         refine hK _ _ ?_
         clear hK K bn hle hlt
         refine wpPlanT_done ?_
         simp only [List.drop_succ_cons, List.drop_zero]
         have hqp : ¬ q = p := fun e => hpq e.symm
         have BC := Lib.hid bc
         have HU := Lib.hid hu
         have HVV := Lib.hid hv
         clear bc hu hv
         go_wp2_with fail
         go_meet
         case rel => exact ⟨p, q, ua, ul, uc, va, vl, vc, rfl, rfl, (row?_setRow_other _ _ _ _ hpq).trans (row?_setRow_same _ _ _ (by rw [hp]; rfl)), row?_setRow_same _ _ _ (by rw [row?_setRow_other _ _ _ _ hqp, hq]; rfl), (HU.out.setRow hp _).setRow ((row?_setRow_other _ _ _ _ hqp).trans hq) _, (HVV.out.setRow hp _).setRow ((row?_setRow_other _ _ _ _ hqp).trans hq) _, below_setRow (below_setRow BC.out hpge _) hqge _⟩
       · refine wpPlanT_alloc #[.slice none 0 0] 49 rfl rfl (by intro W; go_simp) ?_
         intro p wq3 hp hle hlt bn
         have hpge : WX.heap.size ≤ p := Nat.le_trans bc.size hle
         have bc := bc.trans (bn.mono bc.size)
         have hu := hu.below bn
         have hpq : ¬ p = q := by have := row?_lt hq; omega
         have hq := (row?_below bn (row?_lt hq)).trans hq
         refine ⟨bc, fun K hK => ?_⟩
         go_simp
         refine hK _ _ ?_
         clear hK K bn hle hlt
         apply wpPlanT_act rfl rfl
         intro K hK
         unfold Oper.wp
         go_simp
         refine (peval_any Q x y _ _ _ _ (HQX.out.below bc) (HMX.out.below bc) (HNX.out.below bc) HF.out.evq).mono ?_
         rintro e wq4 ⟨vv, rfl, hv, bn⟩
         obtain ⟨va, vc, rfl, -⟩ := natV_sl hv
         obtain ⟨vl, hvl⟩ : ∃ l, l = (digB 4294967296 (evalP Q x y)).length := ⟨_, rfl⟩
         rw [← hvl] at hv ⊢
         clear hvl
         have bc := bc.trans (bn.mono bc.size)
         have hu := hu.below bn
         have hp := (row?_below bn (row?_lt hp)).trans hp
         have hq := (row?_below bn (row?_lt hq)).trans hq
         refine hK _ _ bc ?_
         clear hK K bn
         refine wpPlanT_done ?_
         simp only [List.drop_succ_cons, List.drop_zero]
         have hqp : ¬ q = p := fun e => hpq e.symm
         have BC := Lib.hid bc
         have HU := Lib.hid hu
         have HVV := Lib.hid hv
         clear bc hu hv
         go_wp2_with fail
         go_meet
         case rel => exact ⟨p, q, ua, ul, uc, va, vl, vc, rfl, rfl, (row?_setRow_other _ _ _ _ hpq).trans (row?_setRow_same _ _ _ (by rw [hp]; rfl)), row?_setRow_same _ _ _ (by rw [row?_setRow_other _ _ _ _ hqp, hq]; rfl), (HU.out.setRow hp _).setRow ((row?_setRow_other _ _ _ _ hqp).trans hq) _, (HVV.out.setRow hp _).setRow ((row?_setRow_other _ _ _ _ hqp).trans hq) _, below_setRow (below_setRow BC.out hpge _) hqge _⟩
   · refine wpPlanT_alloc #[.slice none 0 0] 49 rfl rfl (by intro W; go_simp) ?_
     intro p wq1 hp hle hlt bn
     have hpge : WX.heap.size ≤ p := Nat.le_trans bc.size hle
     have bc := bc.trans (bn.mono bc.size)
     refine ⟨bc, fun K hK => ?_⟩
     go_simp
     refine hK _ _ ?_
     clear hK K bn hle hlt
     refine wpPlanT_fork ?_ ?_
     · apply wpPlanT_act rfl rfl
       intro K hK
       unfold Oper.wp
       go_simp
       refine (peval_any P x y _ _ _ _ (HPX.out.below bc) (HMX.out.below bc) (HNX.out.below bc) HF.out.evp).mono ?_
       rintro e wq2 ⟨vu, rfl, hu, bn⟩
       obtain ⟨ua, uc, rfl, -⟩ := natV_sl hu
       obtain ⟨ul, hul⟩ : ∃ l, l = (digB 4294967296 (evalP P x y)).length := ⟨_, rfl⟩
       rw [← hul] at hu ⊢
       clear hul
       have bc := bc.trans (bn.mono bc.size)
       have hp := (row?_below bn (row?_lt hp)).trans hp
       refine hK _ _ bc ?_
       clear hK K bn
       refine wpPlanT_fork ?_ ?_
       · apply wpPlanT_act rfl rfl
         intro K hK
         unfold Oper.wp
         go_simp
         refine (peval_any Q x y _ _ _ _ (HQX.out.below bc) (HMX.out.below bc) (HNX.out.below bc) HF.out.evq).mono ?_
         rintro e wq3 ⟨vv, rfl, hv, bn⟩
         obtain ⟨va, vc, rfl, -⟩ := natV_sl hv
         obtain ⟨vl, hvl⟩ : ∃ l, l = (digB 4294967296 (evalP Q x y)).length := ⟨_, rfl⟩
         rw [← hvl] at hv ⊢
         clear hvl
         have bc := bc.trans (bn.mono bc.size)
         have hu := hu.below bn
         have hp := (row?_below bn (row?_lt hp)).trans hp
         refine hK _ _ bc ?_
         clear hK K bn
         refine wpPlanT_alloc #[.slice none 0 0] 49 rfl rfl (by intro W; go_simp) ?_
         intro q wq4 hq hle hlt bn
         have hqge : WX.heap.size ≤ q := Nat.le_trans bc.size hle
         have bc := bc.trans (bn.mono bc.size)
         have hu := hu.below bn
         have hv := hv.below bn
         have hpq : ¬ p = q := by have := row?_lt hp; omega
         have hp := (row?_below bn (row?_lt hp)).trans hp
         refine ⟨bc, fun K hK => ?_⟩
         go_simp
         refine hK _ _ ?_
         clear hK K bn hle hlt
         refine wpPlanT_done ?_
         simp only [List.drop_succ_cons, List.drop_zero]
         have hqp : ¬ q = p := fun e => hpq e.symm
         have BC := Lib.hid bc
         have HU := Lib.hid hu
         have HVV := Lib.hid hv
         clear bc hu hv
         go_wp2_with fail
         go_meet
         case rel => exact ⟨p, q, ua, ul, uc, va, vl, vc, rfl, rfl, (row?_setRow_other _ _ _ _ hpq).trans (row?_setRow_same _ _ _ (by rw [hp]; rfl)), row?_setRow_same _ _ _ (by rw [row?_setRow_other _ _ _ _ hqp, hq]; rfl), (HU.out.setRow hp _).setRow ((row?_setRow_other _ _ _ _ hqp).trans hq) _, (HVV.out.setRow hp _).setRow ((row?_setRow_other _ _ _ _ hqp).trans hq) _, below_setRow (below_setRow BC.out hpge _) hqge _⟩
       · refine wpPlanT_alloc #[.slice none 0 0] 49 rfl rfl (by intro W; go_simp) ?_
         intro q wq3 hq hle hlt bn
         have hqge : WX.heap.size ≤ q := Nat.le_trans bc.size hle
         have bc := bc.trans (bn.mono bc.size)
         have hu := hu.below bn
         have hpq : ¬ p = q := by have := row?_lt hp; omega
         have hp := (row?_below bn (row?_lt hp)).trans hp
         refine ⟨bc, fun K hK => ?_⟩
         go_simp
         refine hK _ _ ?_
         clear hK K bn hle hlt
         apply wpPlanT_act rfl rfl
         intro K hK
         unfold Oper.wp
         go_simp
         refine (peval_any Q x y _ _ _ _ (HQX.out.below bc) (HMX.out.below bc) (HNX.out.below bc) HF.out.evq).mono ?_
         rintro e wq4 ⟨vv, rfl, hv, bn⟩
         obtain ⟨va, vc, rfl, -⟩ := natV_sl hv
         obtain ⟨vl, hvl⟩ : ∃ l, l = (digB 4294967296 (evalP Q x y)).length := ⟨_, rfl⟩
         rw [← hvl] at hv ⊢
         clear hvl
         have bc := bc.trans (bn.mono bc.size)
         have hu := hu.below bn
         have hp := (row?_below bn (row?_lt hp)).trans hp
         have hq := (row?_below bn (row?_lt hq)).trans hq
         refine hK _ _ bc ?_
         clear hK K bn
         refine wpPlanT_done ?_
         simp only [List.drop_succ_cons, List.drop_zero]
         have hqp : ¬ q = p := fun e => hpq e.symm
         have BC := Lib.hid bc
         have HU := Lib.hid hu
         have HVV := Lib.hid hv
         clear bc hu hv
         go_wp2_with fail
         go_meet
         case rel => exact ⟨p, q, ua, ul, uc, va, vl, vc, rfl, rfl, (row?_setRow_other _ _ _ _ hpq).trans (row?_setRow_same _ _ _ (by rw [hp]; rfl)), row?_setRow_same _ _ _ (by rw [row?_setRow_other _ _ _ _ hqp, hq]; rfl), (HU.out.setRow hp _).setRow ((row?_setRow_other _ _ _ _ hqp).trans hq) _, (HVV.out.setRow hp _).setRow ((row?_setRow_other _ _ _ _ hqp).trans hq) _, below_setRow (below_setRow BC.out hpge _) hqge _⟩
     · refine wpPlanT_alloc #[.slice none 0 0] 49 rfl rfl (by intro W; go_simp) ?_
       intro q wq2 hq hle hlt bn
       have hqge : WX.heap.size ≤ q := Nat.le_trans bc.size hle
       have bc := bc.trans (bn.mono bc.size)
       have hpq : ¬ p = q := by have := row?_lt hp; omega
       have hp := (row?_below bn (row?_lt hp)).trans hp
       refine ⟨bc, fun K hK => ?_⟩
       go_simp
       refine hK _ _ ?_
       clear hK K bn hle hlt
       apply wpPlanT_act rfl rfl
       intro K hK
       unfold Oper.wp
       go_simp
       refine (peval_any P x y _ _ _ _ (HPX.out.below bc) (HMX.out.below bc) (HNX.out.below bc) HF.out.evp).mono ?_
       rintro e wq3 ⟨vu, rfl, hu, bn⟩
       obtain ⟨ua, uc, rfl, -⟩ := natV_sl hu
       obtain ⟨ul, hul⟩ : ∃ l, l = (digB 4294967296 (evalP P x y)).length := ⟨_, rfl⟩
       rw [← hul] at hu ⊢
       clear hul
       have bc := bc.trans (bn.mono bc.size)
       have hp := (row?_below bn (row?_lt hp)).trans hp
       have hq := (row?_below bn (row?_lt hq)).trans hq
       refine hK _ _ bc ?_
       clear hK K bn
       apply wpPlanT_act rfl rfl
       intro K hK
       unfold Oper.wp
       go_simp
       refine (peval_any Q x y _ _ _ _ (HQX.out.below bc) (HMX.out.below bc) (HNX.out.below bc) HF.out.evq).mono ?_
       rintro e wq4 ⟨vv, rfl, hv, bn⟩
       obtain ⟨va, vc, rfl, -⟩ := natV_sl hv
       obtain ⟨vl, hvl⟩ : ∃ l, l = (digB 4294967296 (evalP Q x y)).length := ⟨_, rfl⟩
       rw [← hvl] at hv ⊢
       clear hvl
       have bc := bc.trans (bn.mono bc.size)
       have hu := hu.below bn
       have hp := (row?_below bn (row?_lt hp)).trans hp
       have hq := (row?_below bn (row?_lt hq)).trans hq
       refine hK _ _ bc ?_
       clear hK K bn
       refine wpPlanT_done ?_
       simp only [List.drop_succ_cons, List.drop_zero]
       have hqp : ¬ q = p := fun e => hpq e.symm
       have BC := Lib.hid bc
       have HU := Lib.hid hu
       have HVV := Lib.hid hv
       clear bc hu hv
       go_wp2_with fail
       go_meet
       case rel => exact ⟨p, q, ua, ul, uc, va, vl, vc, rfl, rfl, (row?_setRow_other _ _ _ _ hpq).trans (row?_setRow_same _ _ _ (by rw [hp]; rfl)), row?_setRow_same _ _ _ (by rw [row?_setRow_other _ _ _ _ hqp, hq]; rfl), (HU.out.setRow hp _).setRow ((row?_setRow_other _ _ _ _ hqp).trans hq) _, (HVV.out.setRow hp _).setRow ((row?_setRow_other _ _ _ _ hqp).trans hq) _, below_setRow (below_setRow BC.out hpge _) hqge _⟩
   · refine wpPlanT_alloc #[.slice none 0 0] 49 rfl rfl (by intro W; go_simp) ?_
     intro q wq1 hq hle hlt bn
     have hqge : WX.heap.size ≤ q := Nat.le_trans bc.size hle
     have bc := bc.trans (bn.mono bc.size)
     refine ⟨bc, fun K hK => ?_⟩
     go_simp
     refine hK _ _ ?_
     clear hK K bn hle hlt
     refine wpPlanT_fork ?_ ?_
     · apply wpPlanT_act rfl rfl
       intro K hK
       unfold Oper.wp
       go_simp
       refine (peval_any P x y _ _ _ _ (HPX.out.below bc) (HMX.out.below bc) (HNX.out.below bc) HF.out.evp).mono ?_
       rintro e wq2 ⟨vu, rfl, hu, bn⟩
       obtain ⟨ua, uc, rfl, -⟩ := natV_sl hu
       obtain ⟨ul, hul⟩ : ∃ l, l = (digB 4294967296 (evalP P x y)).length := ⟨_, rfl⟩
       rw [← hul] at hu ⊢
       clear hul
       have bc := bc.trans (bn.mono bc.size)
       have hq := (row?_below bn (row?_lt hq)).trans hq
       refine hK _ _ bc ?_
       clear hK K bn
       refine wpPlanT_fork ?_ ?_
       · apply wpPlanT_act rfl rfl
         intro K hK
         unfold Oper.wp
         go_simp
         refine (peval_any Q x y _ _ _ _ (HQX.out.below bc) (HMX.out.below bc) (HNX.out.below bc) HF.out.evq).mono ?_
         rintro e wq3 ⟨vv, rfl, hv, bn⟩
         obtain ⟨va, vc, rfl, -⟩ := natV_sl hv
         obtain ⟨vl, hvl⟩ : ∃ l, l = (digB 4294967296 (evalP Q x y)).length := ⟨_, rfl⟩
         rw [← hvl] at hv ⊢
         clear hvl
         have bc := bc.trans (bn.mono bc.size)
         have hu := hu.below bn
         have hq := (row?_below bn (row?_lt hq)).trans hq
         refine hK _ _ bc ?_
         clear hK K bn
         refine wpPlanT_alloc #[.slice none 0 0] 49 rfl rfl (by intro W; go_simp) ?_
         intro p wq4 hp hle hlt bn
         have hpge : WX.heap.size ≤ p := Nat.le_trans bc.size hle
         have bc := bc.trans (bn.mono bc.size)
         have hu := hu.below bn
         have hv := hv.below bn
         have hpq : ¬ p = q := by have := row?_lt hq; omega
         have hq := (row?_below bn (row?_lt hq)).trans hq
         refine ⟨bc, fun K hK => ?_⟩
         go_simp
         refine hK _ _ ?_
         clear hK K bn hle hlt
         refine wpPlanT_done ?_
         simp only [List.drop_succ_cons, List.drop_zero]
         have hqp : ¬ q = p := fun e => hpq e.symm
         have BC := Lib.hid bc
         have HU := Lib.hid hu
         have HVV := Lib.hid hv
         clear bc hu hv
         go_wp2_with fail
         go_meet
         case rel => exact ⟨p, q, ua, ul, uc, va, vl, vc, rfl, rfl, (row?_setRow_other _ _ _ _ hpq).trans (row?_setRow_same _ _ _ (by rw [hp]; rfl)), row?_setRow_same _ _ _ (by rw [row?_setRow_other _ _ _ _ hqp, hq]; rfl), (HU.out.setRow hp _).setRow ((row?_setRow_other _ _ _ _ hqp).trans hq) _, (HVV.out.setRow hp _).setRow ((row?_setRow_other _ _ _ _ hqp).trans hq) _, below_setRow (below_setRow BC.out hpge _) hqge _⟩
       · refine wpPlanT_alloc #[.slice none 0 0] 49 rfl rfl (by intro W; go_simp) ?_
         intro p wq3 hp hle hlt bn
         have hpge : WX.heap.size ≤ p := Nat.le_trans bc.size hle
         have bc := bc.trans (bn.mono bc.size)
         have hu := hu.below bn
         have hpq : ¬ p = q := by have := row?_lt hq; omega
         have hq := (row?_below bn (row?_lt hq)).trans hq
         refine ⟨bc, fun K hK => ?_⟩
         go_simp
         refine hK _ _ ?_
         clear hK K bn hle hlt
         apply wpPlanT_act rfl rfl
         intro K hK
         unfold Oper.wp
         go_simp
         refine (peval_any Q x y _ _ _ _ (HQX.out.below bc) (HMX.out.below bc) (HNX.out.below bc) HF.out.evq).mono ?_
         rintro e wq4 ⟨vv, rfl, hv, bn⟩
         obtain ⟨va, vc, rfl, -⟩ := natV_sl hv
         obtain ⟨vl, hvl⟩ : ∃ l, l = (digB 4294967296 (evalP Q x y)).length := ⟨_, rfl⟩
         rw [← hvl] at hv ⊢
         clear hvl
         have bc := bc.trans (bn.mono bc.size)
         have hu := hu.below bn
         have hp := (row?_below bn (row?_lt hp)).trans hp
         have hq := (row?_below bn (row?_lt hq)).trans hq
         refine hK _ _ bc ?_
         clear hK K bn
         refine wpPlanT_done ?_
         simp only [List.drop_succ_cons, List.drop_zero]
         have hqp : ¬ q = p := fun e => hpq e.symm
         have BC := Lib.hid bc
         have HU := Lib.hid hu
         have HVV := Lib.hid hv
         clear bc hu hv
         go_wp2_with fail
         go_meet
         case rel => exact ⟨p, q, ua, ul, uc, va, vl, vc, rfl, rfl, (row?_setRow_other _ _ _ _ hpq).trans (row?_setRow_same _ _ _ (by rw [hp]; rfl)), row?_setRow_same _ _ _ (by rw [row?_setRow_other _ _ _ _ hqp, hq]; rfl), (HU.out.setRow hp _).setRow ((row?_setRow_other _ _ _ _ hqp).trans hq) _, (HVV.out.setRow hp _).setRow ((row?_setRow_other _ _ _ _ hqp).trans hq) _, below_setRow (below_setRow BC.out hpge _) hqge _⟩
     · refine wpPlanT_alloc #[.slice none 0 0] 49 rfl rfl (by intro W; go_simp) ?_
       intro p wq2 hp hle hlt bn
       have hpge : WX.heap.size ≤ p := Nat.le_trans bc.size hle
       have bc := bc.trans (bn.mono bc.size)
       have hpq : ¬ p = q := by have := row?_lt hq; omega
       have hq := (row?_below bn (row?_lt hq)).trans hq
       refine ⟨bc, fun K hK => ?_⟩
       go_simp
       refine hK _ _ ?_
       clear hK K bn hle hlt
       apply wpPlanT_act rfl rfl
       intro K hK
       unfold Oper.wp
       go_simp
       refine (peval_any P x y _ _ _ _ (HPX.out.below bc) (HMX.out.below bc) (HNX.out.below bc) HF.out.evp).mono ?_
       rintro e wq3 ⟨vu, rfl, hu, bn⟩
       obtain ⟨ua, uc, rfl, -⟩ := natV_sl hu
       obtain ⟨ul, hul⟩ : ∃ l, l = (digB 4294967296 (evalP P x y)).length := ⟨_, rfl⟩
       rw [← hul] at hu ⊢
       clear hul
       have bc := bc.trans (bn.mono bc.size)
       have hp := (row?_below bn (row?_lt hp)).trans hp
       have hq := (row?_below bn (row?_lt hq)).trans hq
       refine hK _ _ bc ?_
       clear hK K bn
       apply wpPlanT_act rfl rfl
       intro K hK
       unfold Oper.wp
       go_simp
       refine (peval_any Q x y _ _ _ _ (HQX.out.below bc) (HMX.out.below bc) (HNX.out.below bc) HF.out.evq).mono ?_
       rintro e wq4 ⟨vv, rfl, hv, bn⟩
       obtain ⟨va, vc, rfl, -⟩ := natV_sl hv
       obtain ⟨vl, hvl⟩ : ∃ l, l = (digB 4294967296 (evalP Q x y)).length := ⟨_, rfl⟩
       rw [← hvl] at hv ⊢
       clear hvl
       have bc := bc.trans (bn.mono bc.size)
       have hu := hu.below bn
       have hp := (row?_below bn (row?_lt hp)).trans hp
       have hq := (row?_below bn (row?_lt hq)).trans hq
       refine hK _ _ bc ?_
       clear hK K bn
       refine wpPlanT_done ?_
       simp only [List.drop_succ_cons, List.drop_zero]
       have hqp : ¬ q = p := fun e => hpq e.symm
       have BC := Lib.hid bc
       have HU := Lib.hid hu
       have HVV := Lib.hid hv
       clear bc hu hv
       go_wp2_with fail
       go_meet
       case rel => exact ⟨p, q, ua, ul, uc, va, vl, vc, rfl, rfl, (row?_setRow_other _ _ _ _ hpq).trans (row?_setRow_same _ _ _ (by rw [hp]; rfl)), row?_setRow_same _ _ _ (by rw [row?_setRow_other _ _ _ _ hqp, hq]; rfl), (HU.out.setRow hp _).setRow ((row?_setRow_other _ _ _ _ hqp).trans hq) _, (HVV.out.setRow hp _).setRow ((row?_setRow_other _ _ _ _ hqp).trans hq) _, below_setRow (below_setRow BC.out hpge _) hqge _⟩
 case rest =>
   obtain ⟨p, q, ua, ul, uc, va, vl, vc, rfl, rfl, hp, hq, hu, hv, hbw⟩ := hcut
   obtain ⟨k1, k2, k3, k4⟩ := HR.out wc hbw
   have BX := Lib.hid (BX.out.trans (hbw.mono BX.out.size))
   have HEX := Lib.hid (HE.out.on BX.out)
   have HPX := Lib.hid (HPX.out.below hbw)
   have HQX := Lib.hid (HQX.out.below hbw)
   have VPX := Lib.hid (VPX.out.below hbw)
   have HMX := Lib.hid (HMX.out.below hbw)
   have HNX := Lib.hid (HNX.out.below hbw)
   have HUX := Lib.hid hu
   have HVX := Lib.hid hv
   obtain ⟨WX, hWX⟩ : ∃ W, wc = W := ⟨_, rfl⟩
   rw [hWX] at k1 k2 k3 k4 hp hq BX HEX HPX HQX VPX HMX HNX HUX HVX ⊢
   have HR := Lib.hid fun W (h : Below WX.heap.size WX W) => show row? W g1 = some #[.map m1] ∧ row? W g2 = some #[.map m2] ∧ row? W g3 = some #[.slice xa xl xc] ∧ row? W (g3 + 1) = some #[.slice ya yl yc] ∧ row? W p = some #[.slice ua ul uc] ∧ row? W q = some #[.slice va vl vc] from ⟨(row?_below h (row?_lt k1)).trans k1, (row?_below h (row?_lt k2)).trans k2, (row?_below h (row?_lt k3)).trans k3, (row?_below h (row?_lt k4)).trans k4, (row?_below h (row?_lt hp)).trans hp, (row?_below h (row?_lt hq)).trans hq⟩
   clear hWX hu hv hbw k1 k2 k3 k4 hp hq
   obtain ⟨X, hX⟩ : ∃ X, Lib.decDigits (evalP P x y) = X := ⟨_, rfl⟩
   have HX := Lib.hid hX
   clear hX
   go_wp2_with fail
   refine wp_region_mix (fun W => Below WX.heap.size WX W) 39 [(0, false), (1, true), (2, true), (4, true), (5, true), (6, true), (8, true), (9, true), (3, false), (7, false), (10, false), (11, false), (12, false), (13, true), (14, true), (15, true), (16, true), (17, true), (19, true), (20, true), (22, true), (23, true), (18, false), (21, false), (24, false), (25, false), (26, true), (27, true), (28, true), (29, true), (31, true), (32, true), (34, true), (35, true), (30, false), (33, false), (36, false), (37, false), (38, true)] (by kernel_rfl) (by kernel_rfl) (Below.refl _ _).drew ?_
   have bb0 : Below WX.heap.size WX WX.drew := (Below.refl _ _).drew
   obtain ⟨w0, hw0⟩ : ∃ W, WX.drew = W := ⟨_, rfl⟩
   rw [hw0] at bb0 ⊢
   have B0 := Lib.hid bb0
   clear hw0 bb0
   (first | refine wpPlan_actG rfl rfl ?_ | apply wpPlan_act rfl rfl)
   intro K' hK'
   unfold Oper.wp
   go_simp
   refine (plknown_any _ (HEX.out.on B0.out)).mono ?_
   rintro e w1 ⟨rfl, b1⟩
   have bb1 : Below WX.heap.size WX w1 := B0.out.trans (b1.mono B0.out.size)
   refine hK' _ _ bb1 ?_
   clear hK' K'
   have B1 := Lib.hid bb1
   clear bb1
   clear b1 B0
   repeat (first | (apply wpPlan_still rfl rfl; (intro w hw; obtain ⟨k1, k2, k3, k4, k5, k6⟩ := HR.out w hw; clear hw; go_simp; (try go_ints); (first | with_reducible rfl | (go_simp; with_reducible rfl))); (intro K hK; go_simp; (try go_ints); refine hK _ _ ?_; clear hK K)) | (apply wpPlan_stillG rfl rfl; (intro w hw; obtain ⟨k1, k2, k3, k4, k5, k6⟩ := HR.out w hw; clear hw; go_simp; (try go_ints); (first | with_reducible rfl | (go_simp; with_reducible rfl))); (intro K hK; go_simp; (try go_ints); refine hK _ _ ?_; clear hK K)) | (apply wpPlan_skip rfl rfl; (intro K hK; go_simp; (try go_ints); refine hK _ _ ?_; clear hK K)))
   (first | refine wpPlan_actG rfl rfl ?_ | apply wpPlan_act rfl rfl)
   intro K' hK'
   unfold Oper.wp
   go_simp
   refine (nstring_any (evalP P x y) _ _ (HUX.out.below B1.out) HF.out.evp.val (HEX.out.on B1.out)).mono ?_
   rintro e w3 ⟨rfl, b3⟩
   rw [HX.out]
   have bb3 : Below WX.heap.size WX w3 := B1.out.trans (b3.mono B1.out.size)
   refine hK' _ _ bb3 ?_
   clear hK' K'
   have B3 := Lib.hid bb3
   clear bb3
   clear b3 B1
   repeat (first | (apply wpPlan_still rfl rfl; (intro w hw; obtain ⟨k1, k2, k3, k4, k5, k6⟩ := HR.out w hw; clear hw; go_simp; (try go_ints); (first | with_reducible rfl | (go_simp; with_reducible rfl))); (intro K hK; go_simp; (try go_ints); refine hK _ _ ?_; clear hK K)) | (apply wpPlan_stillG rfl rfl; (intro w hw; obtain ⟨k1, k2, k3, k4, k5, k6⟩ := HR.out w hw; clear hw; go_simp; (try go_ints); (first | with_reducible rfl | (go_simp; with_reducible rfl))); (intro K hK; go_simp; (try go_ints); refine hK _ _ ?_; clear hK K)) | (apply wpPlan_skip rfl rfl; (intro K hK; go_simp; (try go_ints); refine hK _ _ ?_; clear hK K)))
   (first | refine wpPlan_actG rfl rfl ?_ | apply wpPlan_act rfl rfl)
   intro K' hK'
   unfold Oper.wp
   go_simp
   refine (dof_any x (by omega) _).mono ?_
   rintro e w7 ⟨v7, rfl, h7, b7⟩
   obtain ⟨na7, nc7, rfl, -, -⟩ := id h7
   have bb7 : Below WX.heap.size WX w7 := B3.out.trans (b7.mono B3.out.size)
   refine hK' _ _ bb7 ?_
   clear hK' K'
   have B7 := Lib.hid bb7
   clear bb7
   have H7 := Lib.hid h7
   clear h7
   clear b7 B3
   repeat (first | (apply wpPlan_still rfl rfl; (intro w hw; obtain ⟨k1, k2, k3, k4, k5, k6⟩ := HR.out w hw; clear hw; go_simp; (try go_ints); (first | with_reducible rfl | (go_simp; with_reducible rfl))); (intro K hK; go_simp; (try go_ints); refine hK _ _ ?_; clear hK K)) | (apply wpPlan_stillG rfl rfl; (intro w hw; obtain ⟨k1, k2, k3, k4, k5, k6⟩ := HR.out w hw; clear hw; go_simp; (try go_ints); (first | with_reducible rfl | (go_simp; with_reducible rfl))); (intro K hK; go_simp; (try go_ints); refine hK _ _ ?_; clear hK K)) | (apply wpPlan_skip rfl rfl; (intro K hK; go_simp; (try go_ints); refine hK _ _ ?_; clear hK K)))
   (first | refine wpPlan_actG rfl rfl ?_ | apply wpPlan_act rfl rfl)
   intro K' hK'
   unfold Oper.wp
   go_simp
   refine (dof_any y (by omega) _).mono ?_
   rintro e w10 ⟨v10, rfl, h10, b10⟩
   obtain ⟨na10, nc10, rfl, -, -⟩ := id h10
   have bb10 : Below WX.heap.size WX w10 := B7.out.trans (b10.mono B7.out.size)
   refine hK' _ _ bb10 ?_
   clear hK' K'
   have B10 := Lib.hid bb10
   clear bb10
   have H10 := Lib.hid h10
   clear h10
   have H7 := Lib.hid (H7.out.below b10)
   clear b10 B7
   repeat (first | (apply wpPlan_still rfl rfl; (intro w hw; obtain ⟨k1, k2, k3, k4, k5, k6⟩ := HR.out w hw; clear hw; go_simp; (try go_ints); (first | with_reducible rfl | (go_simp; with_reducible rfl))); (intro K hK; go_simp; (try go_ints); refine hK _ _ ?_; clear hK K)) | (apply wpPlan_stillG rfl rfl; (intro w hw; obtain ⟨k1, k2, k3, k4, k5, k6⟩ := HR.out w hw; clear hw; go_simp; (try go_ints); (first | with_reducible rfl | (go_simp; with_reducible rfl))); (intro K hK; go_simp; (try go_ints); refine hK _ _ ?_; clear hK K)) | (apply wpPlan_skip rfl rfl; (intro K hK; go_simp; (try go_ints); refine hK _ _ ?_; clear hK K)))
   (first | refine wpPlan_actG rfl rfl ?_ | apply wpPlan_act rfl rfl)
   intro K' hK'
   unfold Oper.wp
   go_simp
   refine (qvalue_any P x y HF.out.up HF.out.vp HF.out.lp _ _ _ _ (VPX.out.below B10.out) H7.out H10.out).mono ?_
   rintro e w11 ⟨v11, rfl, h11, b11⟩
   obtain ⟨na11, nc11, rfl, -, -⟩ := id h11
   have bb11 : Below WX.heap.size WX w11 := B10.out.trans (b11.mono B10.out.size)
   refine hK' _ _ bb11 ?_
   clear hK' K'
   have B11 := Lib.hid bb11
   clear bb11
   have H11 := Lib.hid h11
   clear h11
   clear b11 B10 H7 H10
   repeat (first | (apply wpPlan_still rfl rfl; (intro w hw; obtain ⟨k1, k2, k3, k4, k5, k6⟩ := HR.out w hw; clear hw; go_simp; (try go_ints); (first | with_reducible rfl | (go_simp; with_reducible rfl))); (intro K hK; go_simp; (try go_ints); refine hK _ _ ?_; clear hK K)) | (apply wpPlan_stillG rfl rfl; (intro w hw; obtain ⟨k1, k2, k3, k4, k5, k6⟩ := HR.out w hw; clear hw; go_simp; (try go_ints); (first | with_reducible rfl | (go_simp; with_reducible rfl))); (intro K hK; go_simp; (try go_ints); refine hK _ _ ?_; clear hK K)) | (apply wpPlan_skip rfl rfl; (intro K hK; go_simp; (try go_ints); refine hK _ _ ?_; clear hK K)))
   (first | refine wpPlan_actG rfl rfl ?_ | apply wpPlan_act rfl rfl)
   intro K' hK'
   unfold Oper.wp
   go_simp
   refine (dtext_any (evalP P x y) _ _ H11.out HF.out.vp.val).mono ?_
   rintro e w12 ⟨rfl, b12⟩
   rw [HX.out]
   have bb12 : Below WX.heap.size WX w12 := B11.out.trans (b12.mono B11.out.size)
   refine hK' _ _ bb12 ?_
   clear hK' K'
   have B12 := Lib.hid bb12
   clear bb12
   clear b12 B11 H11
   repeat (first | (apply wpPlan_still rfl rfl; (intro w hw; obtain ⟨k1, k2, k3, k4, k5, k6⟩ := HR.out w hw; clear hw; go_simp; (try go_ints); (first | with_reducible rfl | (go_simp; with_reducible rfl))); (intro K hK; go_simp; (try go_ints); refine hK _ _ ?_; clear hK K)) | (apply wpPlan_stillG rfl rfl; (intro w hw; obtain ⟨k1, k2, k3, k4, k5, k6⟩ := HR.out w hw; clear hw; go_simp; (try go_ints); (first | with_reducible rfl | (go_simp; with_reducible rfl))); (intro K hK; go_simp; (try go_ints); refine hK _ _ ?_; clear hK K)) | (apply wpPlan_skip rfl rfl; (intro K hK; go_simp; (try go_ints); refine hK _ _ ?_; clear hK K)))
   (first | refine wpPlan_actG rfl rfl ?_ | apply wpPlan_act rfl rfl)
   intro K' hK'
   unfold Oper.wp
   go_simp
   refine (padd_any P Q _ _ _ (HPX.out.below B12.out) (HQX.out.below B12.out) HF.out.pq.sum HF.out.pq.len).mono ?_
   rintro e w18 ⟨v18, rfl, h18, b18⟩
   obtain ⟨m18, rfl, h18⟩ := polV_map h18
   have bb18 : Below WX.heap.size WX w18 := B12.out.trans (b18.mono B12.out.size)
   refine hK' _ _ bb18 ?_
   clear hK' K'
   have B18 := Lib.hid bb18
   clear bb18
   have H18 := Lib.hid h18
   clear h18
   clear b18 B12
   repeat (first | (apply wpPlan_still rfl rfl; (intro w hw; obtain ⟨k1, k2, k3, k4, k5, k6⟩ := HR.out w hw; clear hw; go_simp; (try go_ints); (first | with_reducible rfl | (go_simp; with_reducible rfl))); (intro K hK; go_simp; (try go_ints); refine hK _ _ ?_; clear hK K)) | (apply wpPlan_stillG rfl rfl; (intro w hw; obtain ⟨k1, k2, k3, k4, k5, k6⟩ := HR.out w hw; clear hw; go_simp; (try go_ints); (first | with_reducible rfl | (go_simp; with_reducible rfl))); (intro K hK; go_simp; (try go_ints); refine hK _ _ ?_; clear hK K)) | (apply wpPlan_skip rfl rfl; (intro K hK; go_simp; (try go_ints); refine hK _ _ ?_; clear hK K)))
   (first | refine wpPlan_actG rfl rfl ?_ | apply wpPlan_act rfl rfl)
   intro K' hK'
   unfold Oper.wp
   go_simp
   refine (peval_any (padd P Q) x y _ _ _ _ H18.out (HMX.out.below B18.out) (HNX.out.below B18.out) HF.out.eva).mono ?_
   rintro e w21 ⟨v21, rfl, h21, b21⟩
   obtain ⟨na21, rfl, -⟩ := id h21
   have bb21 : Below WX.heap.size WX w21 := B18.out.trans (b21.mono B18.out.size)
   refine hK' _ _ bb21 ?_
   clear hK' K'
   have B21 := Lib.hid bb21
   clear bb21
   have H21 := Lib.hid h21
   clear h21
   clear b21 B18 H18
   repeat (first | (apply wpPlan_still rfl rfl; (intro w hw; obtain ⟨k1, k2, k3, k4, k5, k6⟩ := HR.out w hw; clear hw; go_simp; (try go_ints); (first | with_reducible rfl | (go_simp; with_reducible rfl))); (intro K hK; go_simp; (try go_ints); refine hK _ _ ?_; clear hK K)) | (apply wpPlan_stillG rfl rfl; (intro w hw; obtain ⟨k1, k2, k3, k4, k5, k6⟩ := HR.out w hw; clear hw; go_simp; (try go_ints); (first | with_reducible rfl | (go_simp; with_reducible rfl))); (intro K hK; go_simp; (try go_ints); refine hK _ _ ?_; clear hK K)) | (apply wpPlan_skip rfl rfl; (intro K hK; go_simp; (try go_ints); refine hK _ _ ?_; clear hK K)))
   (first | refine wpPlan_actG rfl rfl ?_ | apply wpPlan_act rfl rfl)
   intro K' hK'
   unfold Oper.wp
   go_simp
   refine (nadd_any (evalP P x y) (evalP Q x y) _ _ _ (HUX.out.below B21.out) (HVX.out.below B21.out) HF.out.evp.val HF.out.evq.val).mono ?_
   rintro e w24 ⟨v24, rfl, h24, b24⟩
   obtain ⟨na24, rfl, -⟩ := id h24
   have bb24 : Below WX.heap.size WX w24 := B21.out.trans (b24.mono B21.out.size)
   refine hK' _ _ bb24 ?_
   clear hK' K'
   have B24 := Lib.hid bb24
   clear bb24
   have H24 := Lib.hid h24
   clear h24
   have H21 := Lib.hid (H21.out.below b24)
   clear b24 B21
   repeat (first | (apply wpPlan_still rfl rfl; (intro w hw; obtain ⟨k1, k2, k3, k4, k5, k6⟩ := HR.out w hw; clear hw; go_simp; (try go_ints); (first | with_reducible rfl | (go_simp; with_reducible rfl))); (intro K hK; go_simp; (try go_ints); refine hK _ _ ?_; clear hK K)) | (apply wpPlan_stillG rfl rfl; (intro w hw; obtain ⟨k1, k2, k3, k4, k5, k6⟩ := HR.out w hw; clear hw; go_simp; (try go_ints); (first | with_reducible rfl | (go_simp; with_reducible rfl))); (intro K hK; go_simp; (try go_ints); refine hK _ _ ?_; clear hK K)) | (apply wpPlan_skip rfl rfl; (intro K hK; go_simp; (try go_ints); refine hK _ _ ?_; clear hK K)))
   (first | refine wpPlan_actG rfl rfl ?_ | apply wpPlan_act rfl rfl)
   intro K' hK'
   unfold Oper.wp
   go_simp
   refine (nequal_any (evalP (padd P Q) x y) (evalP P x y + evalP Q x y) _ _ _ H21.out H24.out HF.out.eva.val).mono ?_
   rintro e w25 ⟨rfl, b25⟩
   rw [decide_eq_true (show evalP (padd P Q) x y = evalP P x y + evalP Q x y from eval_padd P Q x y)]
   have bb25 : Below WX.heap.size WX w25 := B24.out.trans (b25.mono B24.out.size)
   refine hK' _ _ bb25 ?_
   clear hK' K'
   have B25 := Lib.hid bb25
   clear bb25
   clear b25 B24 H21 H24
   repeat (first | (apply wpPlan_still rfl rfl; (intro w hw; obtain ⟨k1, k2, k3, k4, k5, k6⟩ := HR.out w hw; clear hw; go_simp; (try go_ints); (first | with_reducible rfl | (go_simp; with_reducible rfl))); (intro K hK; go_simp; (try go_ints); refine hK _ _ ?_; clear hK K)) | (apply wpPlan_stillG rfl rfl; (intro w hw; obtain ⟨k1, k2, k3, k4, k5, k6⟩ := HR.out w hw; clear hw; go_simp; (try go_ints); (first | with_reducible rfl | (go_simp; with_reducible rfl))); (intro K hK; go_simp; (try go_ints); refine hK _ _ ?_; clear hK K)) | (apply wpPlan_skip rfl rfl; (intro K hK; go_simp; (try go_ints); refine hK _ _ ?_; clear hK K)))
   (first | refine wpPlan_actG rfl rfl ?_ | apply wpPlan_act rfl rfl)
   intro K' hK'
   unfold Oper.wp
   go_simp
   refine (pmul_any P Q _ _ _ (HPX.out.below B25.out) (HQX.out.below B25.out) HF.out.pq.mul HF.out.pq.p HF.out.pq.q HF.out.pq.lp HF.out.pq.lq).mono ?_
   rintro e w30 ⟨v30, rfl, h30, b30⟩
   obtain ⟨m30, rfl, h30⟩ := polV_map h30
   have bb30 : Below WX.heap.size WX w30 := B25.out.trans (b30.mono B25.out.size)
   refine hK' _ _ bb30 ?_
   clear hK' K'
   have B30 := Lib.hid bb30
   clear bb30
   have H30 := Lib.hid h30
   clear h30
   clear b30 B25
   repeat (first | (apply wpPlan_still rfl rfl; (intro w hw; obtain ⟨k1, k2, k3, k4, k5, k6⟩ := HR.out w hw; clear hw; go_simp; (try go_ints); (first | with_reducible rfl | (go_simp; with_reducible rfl))); (intro K hK; go_simp; (try go_ints); refine hK _ _ ?_; clear hK K)) | (apply wpPlan_stillG rfl rfl; (intro w hw; obtain ⟨k1, k2, k3, k4, k5, k6⟩ := HR.out w hw; clear hw; go_simp; (try go_ints); (first | with_reducible rfl | (go_simp; with_reducible rfl))); (intro K hK; go_simp; (try go_ints); refine hK _ _ ?_; clear hK K)) | (apply wpPlan_skip rfl rfl; (intro K hK; go_simp; (try go_ints); refine hK _ _ ?_; clear hK K)))
   (first | refine wpPlan_actG rfl rfl ?_ | apply wpPlan_act rfl rfl)
   intro K' hK'
   unfold Oper.wp
   go_simp
   refine (peval_any (pmul P Q) x y _ _ _ _ H30.out (HMX.out.below B30.out) (HNX.out.below B30.out) HF.out.evm).mono ?_
   rintro e w33 ⟨v33, rfl, h33, b33⟩
   obtain ⟨na33, rfl, -⟩ := id h33
   have bb33 : Below WX.heap.size WX w33 := B30.out.trans (b33.mono B30.out.size)
   refine hK' _ _ bb33 ?_
   clear hK' K'
   have B33 := Lib.hid bb33
   clear bb33
   have H33 := Lib.hid h33
   clear h33
   clear b33 B30 H30
   repeat (first | (apply wpPlan_still rfl rfl; (intro w hw; obtain ⟨k1, k2, k3, k4, k5, k6⟩ := HR.out w hw; clear hw; go_simp; (try go_ints); (first | with_reducible rfl | (go_simp; with_reducible rfl))); (intro K hK; go_simp; (try go_ints); refine hK _ _ ?_; clear hK K)) | (apply wpPlan_stillG rfl rfl; (intro w hw; obtain ⟨k1, k2, k3, k4, k5, k6⟩ := HR.out w hw; clear hw; go_simp; (try go_ints); (first | with_reducible rfl | (go_simp; with_reducible rfl))); (intro K hK; go_simp; (try go_ints); refine hK _ _ ?_; clear hK K)) | (apply wpPlan_skip rfl rfl; (intro K hK; go_simp; (try go_ints); refine hK _ _ ?_; clear hK K)))
   (first | refine wpPlan_actG rfl rfl ?_ | apply wpPlan_act rfl rfl)
   intro K' hK'
   unfold Oper.wp
   go_simp
   refine (nmul_any (evalP P x y) (evalP Q x y) _ _ _ (HUX.out.below B33.out) (HVX.out.below B33.out) HF.out.evp.val HF.out.evq.val).mono ?_
   rintro e w36 ⟨v36, rfl, h36, b36⟩
   obtain ⟨na36, rfl, -⟩ := id h36
   have bb36 : Below WX.heap.size WX w36 := B33.out.trans (b36.mono B33.out.size)
   refine hK' _ _ bb36 ?_
   clear hK' K'
   have B36 := Lib.hid bb36
   clear bb36
   have H36 := Lib.hid h36
   clear h36
   have H33 := Lib.hid (H33.out.below b36)
   clear b36 B33
   repeat (first | (apply wpPlan_still rfl rfl; (intro w hw; obtain ⟨k1, k2, k3, k4, k5, k6⟩ := HR.out w hw; clear hw; go_simp; (try go_ints); (first | with_reducible rfl | (go_simp; with_reducible rfl))); (intro K hK; go_simp; (try go_ints); refine hK _ _ ?_; clear hK K)) | (apply wpPlan_stillG rfl rfl; (intro w hw; obtain ⟨k1, k2, k3, k4, k5, k6⟩ := HR.out w hw; clear hw; go_simp; (try go_ints); (first | with_reducible rfl | (go_simp; with_reducible rfl))); (intro K hK; go_simp; (try go_ints); refine hK _ _ ?_; clear hK K)) | (apply wpPlan_skip rfl rfl; (intro K hK; go_simp; (try go_ints); refine hK _ _ ?_; clear hK K)))
   (first | refine wpPlan_actG rfl rfl ?_ | apply wpPlan_act rfl rfl)
   intro K' hK'
   unfold Oper.wp
   go_simp
   refine (nequal_any (evalP (pmul P Q) x y) (evalP P x y * evalP Q x y) _ _ _ H33.out H36.out HF.out.evm.val).mono ?_
   rintro e w37 ⟨rfl, b37⟩
   rw [decide_eq_true (show evalP (pmul P Q) x y = evalP P x y * evalP Q x y from eval_pmul (HMDP.out.upto.mono (by decide)) (HMDQ.out.upto.mono (by decide)) x y)]
   have bb37 : Below WX.heap.size WX w37 := B36.out.trans (b37.mono B36.out.size)
   refine hK' _ _ bb37 ?_
   clear hK' K'
   have B37 := Lib.hid bb37
   clear bb37
   clear b37 B36 H33 H36
   repeat (first | (apply wpPlan_still rfl rfl; (intro w hw; obtain ⟨k1, k2, k3, k4, k5, k6⟩ := HR.out w hw; clear hw; go_simp; (try go_ints); (first | with_reducible rfl | (go_simp; with_reducible rfl))); (intro K hK; go_simp; (try go_ints); refine hK _ _ ?_; clear hK K)) | (apply wpPlan_stillG rfl rfl; (intro w hw; obtain ⟨k1, k2, k3, k4, k5, k6⟩ := HR.out w hw; clear hw; go_simp; (try go_ints); (first | with_reducible rfl | (go_simp; with_reducible rfl))); (intro K hK; go_simp; (try go_ints); refine hK _ _ ?_; clear hK K)) | (apply wpPlan_skip rfl rfl; (intro K hK; go_simp; (try go_ints); refine hK _ _ ?_; clear hK K)))
   refine wpPlan_nil ?_
   simp only [List.append_eq, List.cons_append, List.nil_append, List.drop_succ_cons, List.drop_zero]
   go_wp2_with fail
   go_ret
   exact ⟨rfl, BX.out.trans (B37.out.mono BX.out.size)⟩
end Go.Proofs.YtgnlebnpnpjfmaaGreatDoor
