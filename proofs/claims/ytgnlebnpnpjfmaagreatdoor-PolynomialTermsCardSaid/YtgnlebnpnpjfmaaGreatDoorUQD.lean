/- Walk of the laws of polynomials: made. -/
import Derived.Test.YtgnlebnpnpjfmaaGreatDoorUQF
import Derived.Test.YtgnlebnpnpjfmaaGreatDoorUOp
import Derived.Test.YtgnlebnpnpjfmaaGreatDoorUPD
import Derived.Test.YtgnlebnpnpjfmaaGreatDoorUOu
set_option linter.all false
namespace Go.Proofs.YtgnlebnpnpjfmaaGreatDoor
open Go Go.RowKit Go.Pal Go.Shelf
attribute [local go_sem] Oper.semAt_some
theorem RefP.set_map {w : World} {v : Value} {p : Pol} {g : Nat} {m : Option Nat} (h : RefP w v p) (hg : row? w g = some #[.map m]) (c : Array Value) : RefP (w.setRow g c) v p := by
 obtain ⟨L, h1, h2, h3⟩ := h
 have hs := same_some w g c
 have hno : ∀ x : Int, w.cell? ⟨g, 0, none⟩ ≠ some (.int .i64 x) := fun x e => by rw [cell?_row hg] at e; simp at e
 refine ⟨L, ?_, ⟨h2.1, fun i x y hx hy => refV_same (h2.2 i x y hx hy) hs hno⟩, h3⟩
 obtain ⟨a, cc, hv, hr⟩ := h1
 refine ⟨a, cc, hv, ?_⟩
 rcases hr with hr | ⟨b, off, ha, hb, hc⟩
 · exact .inl hr
 · cases L with
   | nil => exact .inl rfl
   | cons x r =>
     have hbg : b ≠ g := by
       rintro rfl
       have h0 := hc 0 x rfl 0 (slV x.1) rfl
       rw [cell?_row hg] at h0
       have : ∀ k : Nat, (#[Value.map m])[k]? ≠ some (slV x.1) := by intro k; cases k <;> simp [slV]
       exact this _ h0
     exact .inr ⟨b, off, ha, Nat.lt_of_lt_of_le hb hs.size, fun i y hy j u hu => (World.cell?_of_block (hs.block b hb (by simpa using fun e => hbg e.symm))).trans (hc i y hy j u hu)⟩
theorem PolV.set_map {w : World} {v : Value} {p : Pol} {g : Nat} {m : Option Nat} (h : PolV w v p) (hg : row? w g = some #[.map m]) (c : Array Value) : PolV (w.setRow g c) v p := by
 obtain ⟨m1, rfl, hm⟩ := h
 refine ⟨m1, rfl, ?_⟩
 rcases hm with ⟨rfl, h0⟩ | ⟨mb, rfl, hp⟩
 · exact .inl ⟨rfl, h0⟩
 · refine .inr ⟨mb, rfl, ?_⟩
   have hne : mb ≠ g := fun e => hp.noInt 0 (.map m) (by rw [e, cell?_row hg]; rfl)
   exact hp.same (g := some g) (same_some _ _ _) (by simpa using fun e => hne e.symm) (fun j hj x => by cases hj; rw [cell?_row hg]; simp)
set_option maxRecDepth 100000 in
set_option maxHeartbeats 8000000 in
theorem plmade_any (most : Nat) (hm : most ≤ 2048) (l : List Tm) (hl : ∀ t ∈ l, TmOk t) (vl : Value) (w : World) (hv : Rd tmA 3 w.heap.size w vl l) :
   Calls Tryz.prog 17 #[vl, .int .i64 (most : Int)] w fun e w' => ∃ v1 v2, e = .returned (.tuple #[v1, v2]) ∧ PolV w' v1 (madeP most (l.take 8)) ∧ RefP w' v2 (madeP most (l.take 8)) ∧ Below w.heap.size w w' := by
 obtain ⟨la, lc, rfl⟩ := hv.sl
 have HV := Lib.hid hv
 have HL := Lib.hid hl
 have HM := Lib.hid hm
 clear hv hl
 go_enter Tryz.func17, Tryz.ntmps17
 go_wp2_with fail
 refine (pzero_any _).mono ?_
 rintro e w1 ⟨rfl, b1⟩
 have r4 := (row?_below b1 (by simp)).trans (row?_alloc_at w #[Value.map none] 24 w.heap.size rfl)
 have hbA : Below w.heap.size w (w.alloc (.cells #[.map none] 24)) := (Below.refl _ _).alloc (Nat.le_refl _) _
 have b1w := hbA.trans (b1.mono hbA.size)
 have l4 := row?_lt r4
 have R4 := Lib.hid r4
 have B1 := Lib.hid b1w
 clear b1 hbA b1w r4
 go_wp2_with fail
 obtain ⟨W1, hW1⟩ : ∃ W1, w1.alloc (.cells #[.map none] 24) = W1 := ⟨_, rfl⟩
 have bA : Below w1.heap.size w1 W1 := by rw [← hW1]; exact (Below.refl _ _).alloc (Nat.le_refl _) _
 have r6 : row? W1 w1.heap.size = some #[.map none] := by rw [← hW1]; exact row?_alloc_at _ _ _ _ rfl
 have r4 := (row?_below bA l4).trans R4.out
 have BW := Lib.hid (B1.out.trans (bA.mono B1.out.size))
 obtain ⟨g, hg⟩ : ∃ g, g = w1.heap.size := ⟨_, rfl⟩
 have hgw : w.heap.size < g := by omega
 rw [hW1]
 rw [← hg] at r6 ⊢
 have R6 := Lib.hid r6
 have R4 := Lib.hid r4
 clear hW1 bA l4 hg r4 r6 B1
 go_loopw [7, 8] (fun v7 i wr => ∃ (j : Nat) (m : Option Nat), j ≤ 8 ∧ j ≤ l.length ∧ i = .int .i64 (j : Int) ∧ RefP wr v7 (madeP most (l.take j)) ∧ row? wr g = some #[.map m] ∧ PolV wr (.agg #[.map m]) (madeP most (l.take j)) ∧ row? wr w.heap.size = some #[.map none] ∧ Below w.heap.size w wr) (fun _ i _ => 8 - (intOf i).toNat)
 case atStart => exact ⟨0, none, by omega, Nat.zero_le _, rfl, refP_nil _, R6.out, polV_zero _, R4.out, BW.out⟩
 case round =>
   obtain ⟨j, m, hj8, hjl, rfl, hrf, hr6, hpv, hr4, hb⟩ := hrel
   obtain ⟨qa, qc, rfl⟩ := refP_sl hrf
   have HMD := Lib.hid (made_of most (l := l.take j) (fun t ht => HL.out t (List.mem_of_mem_take ht)))
   rw [List.take_take, Nat.min_eq_right hj8] at HMD
   obtain ⟨P, hP⟩ : ∃ P, P = madeP most (l.take j) := ⟨_, rfl⟩
   have HP := Lib.hid hP
   rw [← hP] at hrf hpv HMD ⊢
   have HRF := Lib.hid hrf
   have HPV := Lib.hid hpv
   have HB := Lib.hid hb
   have hsz := hb.size
   have hl6 := row?_lt hr6
   clear hrf hpv hb hP R6 R4 BW
   rcases Nat.lt_or_ge j l.length with hj | hj
   · have hdj : decide (j < l.length) = true := decide_eq_true hj
     rcases Nat.lt_or_ge j 8 with hj2 | hj2
     · have hd8 : decide (j < 8) = true := decide_eq_true hj2
       have hd8' : decide ((j : Int) < 8) = true := decide_eq_true (by omega)
       obtain ⟨b, off, c, x, hsl, hbB, hx, hcc⟩ := HV.out.at hj
       simp only [Value.slice.injEq] at hsl
       obtain ⟨rfl, -, rfl⟩ := hsl
       obtain ⟨n, A, B⟩ := x
       obtain ⟨hn, hA, hB⟩ := HL.out _ (List.mem_of_getElem? hx)
       simp only at hn hA hB
       obtain ⟨a, ha⟩ : ∃ a, a = A % (most + 1) := ⟨_, rfl⟩
       obtain ⟨b2, hb2⟩ : ∃ b2, b2 = B % (most + 1) := ⟨_, rfl⟩
       have ha1 : a ≤ most := by have := Nat.mod_lt A (show 0 < most + 1 by omega); omega
       have hb1 : b2 ≤ most := by have := Nat.mod_lt B (show 0 < most + 1 by omega); omega
       have ea : (A : Int) % ((most : Int) + 1) = (a : Int) := by rw [ha]; push_cast; rfl
       have eb : (B : Int) % ((most : Int) + 1) = (b2 : Int) := by rw [hb2]; push_cast; rfl
       have HC := Lib.hid fun W (hW : Below w.heap.size w W) => show W.cell? ⟨b, off + j * 3, none⟩ = some (.int .u32 (n : Int)) ∧ W.cell? ⟨b, off + j * 3 + 1, none⟩ = some (.int .u16 (A : Int)) ∧ W.cell? ⟨b, off + j * 3 + 2, none⟩ = some (.int .u16 (B : Int)) from ⟨hcc W hW 0 (.int .u32 (n : Int)) rfl, hcc W hW 1 (.int .u16 (A : Int)) rfl, hcc W hW 2 (.int .u16 (B : Int)) rfl⟩
       have HX := Lib.hid (show tmX most (n, A, B) = ((a, b2), n) ∧ madeP most (l.take (j + 1)) = padd P (addT [] ((a, b2), n)) from by
         have e : tmX most (n, A, B) = ((a, b2), n) := by unfold tmX; rw [ha, hb2]
         exact ⟨e, by rw [take_snoc hx, madeP_snoc, e, ← HP.out]⟩)
       clear hcc hbB hx ha hb2
       go_wp2_with fail
       refine wp_region_mix (fun W => Below w.heap.size w W) 19 [(0, true), (1, true), (2, true), (3, true), (4, true), (5, true), (6, true), (7, true), (8, true), (9, true), (10, true), (11, true), (12, true), (13, true), (14, true), (15, true), (16, true), (17, true), (18, true)] (by kernel_rfl) (by kernel_rfl) HB.out.drew ?_
       have hm1 : ¬ most + 1 = 0 := by omega
       have hm2 : ¬ (most : Int) + 1 = 0 := by omega
       repeat (apply wpPlan_still rfl rfl; (intro w hw; obtain ⟨k0, k1, k2⟩ := HC.out w hw; clear hw; go_simp; (try go_ints); (first | with_reducible rfl | (go_simp; with_reducible rfl))); (intro K hK; go_simp; (try go_ints); refine hK _ _ ?_; clear hK K))
       refine wpPlan_nil ?_
       simp only [List.drop_succ_cons, List.drop_zero]
       obtain ⟨k0', k1, k2⟩ := HC.out wr HB.out
       have k0 : wr.cell? ⟨b, off + j * 3, none⟩ = some (.int .u32 (n : Int)) := k0'
       clear k0' ea eb hm1 hm2
       have hdr : Below wr.heap.size wr wr.drew := (Below.refl _ _).drew
       have RF0 := Lib.hid (HRF.out.below hdr)
       have PV0 := Lib.hid (HPV.out.below hdr)
       have B0 := Lib.hid HB.out.drew
       have RR := Lib.hid (And.intro hr6 hr4)
       clear hdr
       go_wp2_with fail
       refine (nfrom_any n (by omega) _).mono ?_
       rintro e w3 ⟨v3, rfl, h3, b3⟩
       obtain ⟨s3, rfl, -⟩ := id h3
       have q6 := (row?_below b3 (by simpa using hl6)).trans (show row? wr.drew g = _ from hr6)
       have q4 := (row?_below b3 (by simpa using row?_lt hr4)).trans (show row? wr.drew w.heap.size = _ from hr4)
       have RF3 := Lib.hid (RF0.out.below b3)
       have PV3 := Lib.hid (PV0.out.below b3)
       have B3 := Lib.hid (B0.out.trans (b3.mono B0.out.size))
       have H3 := Lib.hid h3
       clear b3 h3 RF0 PV0 B0 hr6 hr4 hl6 k0 k1 k2
       go_wp2_with fail
       refine (pmono_any a b2 (by omega) n _ w3 H3.out (fit_small (by omega))).mono ?_
       rintro e w4 ⟨v4, rfl, h4, b4⟩
       obtain ⟨m4, rfl, h4⟩ := polV_map h4
       have q6 := (row?_below b4 (row?_lt q6)).trans q6
       have q4 := (row?_below b4 (row?_lt q4)).trans q4
       have hbA : Below w4.heap.size w4 (w4.alloc (.cells #[.map m4] 24)) := (Below.refl _ _).alloc (Nat.le_refl _) _
       have b4A := b4.trans (hbA.mono b4.size)
       have q6A := (row?_below hbA (row?_lt q6)).trans q6
       have q4A := (row?_below hbA (row?_lt q4)).trans q4
       have q11 : row? (w4.alloc (.cells #[.map m4] 24)) w4.heap.size = some #[.map m4] := row?_alloc_at _ _ _ _ rfl
       have RF4 := Lib.hid (RF3.out.below b4A)
       have PV4 := Lib.hid (PV3.out.below b4A)
       have T4 := Lib.hid (h4.below hbA)
       have B4 := Lib.hid (B3.out.trans (b4A.mono B3.out.size))
       have hwt := HMD.out.wt
       have hln := HMD.out.len
       have HFT := Lib.hid (show Fit (wt P + wt (addT [] ((a, b2), n))) ∧ P.length + (addT [] ((a, b2), n)).length ≤ 100000 from by
         have h1 := wt_addT [] ((a, b2), n)
         have h2 := addT_len [] ((a, b2), n)
         have h3 : wt ([] : Pol) = 0 := rfl
         simp only [List.length_nil] at h2
         exact ⟨fit_small (by omega), by omega⟩)
       clear b4 h4 b4A hbA RF3 PV3 B3 H3 q6 q4 hwt hln
       go_wp2_with fail
       refine (padd_any P (addT [] ((a, b2), n)) _ _ _ PV4.out T4.out HFT.out.1 HFT.out.2).mono ?_
       rintro e w5 ⟨v5, rfl, h5, b5⟩
       obtain ⟨m5, rfl, h5⟩ := polV_map h5
       rw [← HX.out.2] at h5
       have q6 := (row?_below b5 (row?_lt q6A)).trans q6A
       have q4 := (row?_below b5 (row?_lt q4A)).trans q4A
       have hg6 := row?_lt q6
       obtain ⟨W6, hW6⟩ : ∃ W, w5.setRow g #[.map m5] = W := ⟨_, rfl⟩
       have c6 : row? W6 g = some #[.map m5] := by rw [← hW6]; exact row?_setRow_same _ _ _ (by rw [q6]; rfl)
       have c4 : row? W6 w.heap.size = some #[.map none] := by
         rw [← hW6]
         exact (row?_setRow_other _ _ _ _ (by omega)).trans q4
       have B5 := B4.out.trans (b5.mono B4.out.size)
       have B6 := Lib.hid (show Below w.heap.size w W6 from by rw [← hW6]; exact below_setRow B5 (by omega) _)
       have P6 := Lib.hid (show PolV W6 (.agg #[.map m5]) _ from by rw [← hW6]; exact h5.set_map q6 _)
       have R6 := Lib.hid (show RefP W6 _ P from by rw [← hW6]; exact (RF4.out.below b5).set_map q6 _)
       obtain ⟨k0', k1, k2⟩ := HC.out W6 B6.out
       have k0 : W6.cell? ⟨b, off + j * 3, none⟩ = some (.int .u32 (n : Int)) := k0'
       clear k0' b5 h5 q4 B5 RF4 PV4 T4 B4 q6A q4A q11
       go_wp2_with fail
       refine (dof_any n (by omega) W6).mono ?_
       rintro e w7 ⟨v7, rfl, h7, b7⟩
       obtain ⟨na, nc, rfl, -, -⟩ := id h7
       obtain ⟨nl, hnl⟩ : ∃ l, l = (digB 10 n).length := ⟨_, rfl⟩
       rw [← hnl] at h7 ⊢
       have c6 := (row?_below b7 (row?_lt c6)).trans c6
       have c4 := (row?_below b7 (row?_lt c4)).trans c4
       have P7 := Lib.hid (P6.out.below b7)
       have R7 := Lib.hid (R6.out.below b7)
       have B7 := Lib.hid (B6.out.trans (b7.mono B6.out.size))
       have H7 := Lib.hid h7
       clear b7 h7 P6 R6 B6 k0 k1 k2 hW6 hnl q6
       go_wp2_with fail
       refine (qof_any (a, b2) n _ w7 H7.out).mono ?_
       rintro e w8 ⟨v8, rfl, h8, b8⟩
       obtain ⟨ra, rc, rfl⟩ := refP_sl h8
       have c6 := (row?_below b8 (row?_lt c6)).trans c6
       have c4 := (row?_below b8 (row?_lt c4)).trans c4
       have P8 := Lib.hid (P7.out.below b8)
       have R8 := Lib.hid (R7.out.below b8)
       have B8 := Lib.hid (B7.out.trans (b8.mono B7.out.size))
       have H8 := Lib.hid h8
       have HPO := Lib.hid (show ∀ x ∈ addT [] ((a, b2), n), 0 < x.2 from (Canon.nil.addT _).pos)
       clear b8 h8 P7 R7 B7 H7
       go_wp2_with fail
       refine (qadd_any P (addT [] ((a, b2), n)) _ _ w8 R8.out H8.out HPO.out HFT.out.1 HFT.out.2).mono ?_
       rintro e w9 ⟨v9, rfl, h9, b9⟩
       rw [← HX.out.2] at h9
       obtain ⟨sa, sc, rfl⟩ := refP_sl h9
       have c6 := (row?_below b9 (row?_lt c6)).trans c6
       have c4 := (row?_below b9 (row?_lt c4)).trans c4
       have P9 := Lib.hid (P8.out.below b9)
       have B9 := Lib.hid (B8.out.trans (b9.mono B8.out.size))
       have H9 := Lib.hid h9
       have C9 := Lib.hid (And.intro c6 c4)
       clear b9 h9 P8 R8 B8 H8 c6 c4
       go_wp2_with fail
       go_roundw
       case rel => exact ⟨j + 1, m5, by omega, by omega, by go_num, H9.out, C9.out.1, P9.out, C9.out.2, B9.out⟩
       case measure => simp [intOf]; omega
     · have hd8 : decide (j < 8) = false := decide_eq_false (by omega)
       have hd8' : decide ((j : Int) < 8) = false := decide_eq_false (by omega)
       have HT := Lib.hid (show l.take 8 = l.take j from by rw [show j = 8 by omega])
       have hl4 := row?_lt hr4
       have hne : ¬ w.heap.size = g := by omega
       go_wp2_with fail
       refine ret_row_tmp w.heap.size #[.map m] rfl Tryz.isAgg24 Tryz.sizeOf24 rfl rfl (row?_setRow_same _ _ _ (by rw [hr4]; rfl)) rfl ?_
       refine ⟨_, _, rfl, ?_, ?_, below_setRow HB.out (Nat.le_refl _) _⟩
       · rw [HT.out, ← HP.out]
         exact HPV.out.set_map hr4 _
       · rw [HT.out, ← HP.out]
         exact HRF.out.set_map hr4 _
   · have hdj : decide (j < l.length) = false := decide_eq_false (by omega)
     have HT := Lib.hid (show l.take 8 = l.take j from by rw [List.take_of_length_le hj, List.take_of_length_le (by omega)])
     have hl4 := row?_lt hr4
     have hne : ¬ w.heap.size = g := by omega
     go_wp2_with fail
     refine ret_row_tmp w.heap.size #[.map m] rfl Tryz.isAgg24 Tryz.sizeOf24 rfl rfl (row?_setRow_same _ _ _ (by rw [hr4]; rfl)) rfl ?_
     refine ⟨_, _, rfl, ?_, ?_, below_setRow HB.out (Nat.le_refl _) _⟩
     · rw [HT.out, ← HP.out]
       exact HPV.out.set_map hr4 _
     · rw [HT.out, ← HP.out]
       exact HRF.out.set_map hr4 _
end Go.Proofs.YtgnlebnpnpjfmaaGreatDoor
