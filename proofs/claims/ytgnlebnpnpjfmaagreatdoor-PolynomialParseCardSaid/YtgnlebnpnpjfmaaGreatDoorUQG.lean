/- Walks of the reference's polynomials: Text, Same. -/
import Derived.Test.YtgnlebnpnpjfmaaGreatDoorUQF
import Derived.Test.YtgnlebnpnpjfmaaGreatDoorUOw
import Derived.Test.YtgnlebnpnpjfmaaGreatDoorUNQ
set_option linter.all false
namespace Go.Proofs.YtgnlebnpnpjfmaaGreatDoor
open Go Go.RowKit Go.Pal
attribute [local go_sem] Oper.semAt_some
theorem app_str (x y : List UInt8) : (⟨x.toArray⟩ : ByteArray) ++ ⟨y.toArray⟩ = ⟨(x ++ y).toArray⟩ := by
 apply ByteArray.ext
 simp
theorem app_lit (x : List UInt8) (a b c : UInt8) : (⟨x.toArray⟩ : ByteArray) ++ ⟨#[a, b, c]⟩ = ⟨(x ++ [a, b, c]).toArray⟩ := app_str x [a, b, c]
set_option maxRecDepth 100000 in
set_option maxHeartbeats 4000000 in
theorem qtext_any (p : Pol) (hu : Upto 2048 p) (hf : Fit (wt p)) (hl : p.length ≤ 100000) (v : Value) (w : World) (hv : RefP w v p) :
   Calls Tryz.prog 65 #[v] w fun e w' => e = .returned (.string ⟨(textP p).toArray⟩) ∧ Below w.heap.size w w' := by
 obtain ⟨pa, c, rfl⟩ := refP_sl hv
 have HV := Lib.hid hv
 have HU := Lib.hid hu
 have HF := Lib.hid hf
 clear hv hu hf
 rcases Nat.eq_zero_or_pos p.length with h0 | h0
 · have hp : p = [] := List.length_eq_zero_iff.1 h0
   have HP := Lib.hid hp
   have e0 : ((p.length : Int) == 0) = true := by rw [beq_iff_eq]; omega
   clear hp
   go_enter Tryz.func65, Tryz.ntmps65
   go_wp2_with fail
   go_ret
   exact ⟨by rw [HP.out]; rfl, Below.refl _ _⟩
 · have e0 : ((p.length : Int) == 0) = false := by rw [beq_eq_false_iff_ne]; omega
   have en : ¬ p.length = 0 := by omega
   have HNE := Lib.hid (show textP p = textU p from textP_U (fun e => by rw [e] at h0; simp at h0))
   have HTL := Lib.hid fun j => show (textU (p.take j)).length ≤ 2000000000 from by
     have h1 := textU_len (p := p.take j) (d := 11001) (fun x hx => HU.out x (List.mem_of_mem_take hx)) (fun x hx => by have := dec_fit (HF.out.mono (wt_mem (List.mem_of_mem_take hx))); omega)
     have h2 : (p.take j).length ≤ 100000 := by rw [List.length_take]; omega
     have h3 : (p.take j).length * (11001 + 27) ≤ 100000 * (11001 + 27) := Nat.mul_le_mul_right _ h2
     omega
   go_enter Tryz.func65, Tryz.ntmps65
   go_wp2_with fail
   go_loopw [3, 4] (fun s i wr => ∃ j : Nat, j ≤ p.length ∧ i = .int .i64 (j : Int) ∧ s = .string ⟨(textU (p.take j)).toArray⟩ ∧ Below w.heap.size w wr) (fun _ i _ => p.length - (intOf i).toNat)
   case atStart => exact ⟨0, Nat.zero_le _, rfl, by simp [textU_nil], Below.refl _ _⟩
   case round =>
     obtain ⟨j, hj, rfl, rfl, hb⟩ := hrel
     have HB := Lib.hid hb
     clear hb
     rcases Nat.lt_or_ge j p.length with hj2 | hj2
     · obtain ⟨⟨k, m⟩, hx⟩ : ∃ x, p[j]? = some x := ⟨_, List.getElem?_eq_getElem hj2⟩
       obtain ⟨b, off, s1, s2, s3, rfl, hrv, hcc⟩ := refP_at HV.out hx
       have hdj : decide (j < p.length) = true := decide_eq_true hj2
       have HC := Lib.hid hcc
       have HRV := Lib.hid hrv
       have hlt : (p.take j).length = j := by rw [List.length_take]; omega
       have HN := Lib.hid (show textU (p.take (j + 1)) = (if j = 0 then [] else textU (p.take j) ++ [32, 43, 32]) ++ (Lib.decDigits m ++ (if k.1 = 0 then [] else 32 :: 120 :: 94 :: Lib.decDigits k.1) ++ (if k.2 = 0 then [] else 32 :: 121 :: 94 :: Lib.decDigits k.2)) from by rw [take_snoc hx, textU_snoc, hlt]; rfl)
       have HM := Lib.hid (show Fit m from HF.out.mono (wt_mem (List.mem_of_getElem? hx)))
       have hk := HU.out _ (List.mem_of_getElem? hx)
       have hk1 : k.1 ≤ 2048 := hk.1
       have hk2 : k.2 ≤ 2048 := hk.2
       have hTl := HTL.out j
       have hl0 := dec_fit HM.out
       have hT0 : j = 0 → textU (p.take j) = [] := fun e => by rw [e]; exact textU_nil
       have HT0 := Lib.hid hT0
       obtain ⟨T, hT⟩ : ∃ T, T = textU (p.take j) := ⟨_, rfl⟩
       obtain ⟨l0, hl0e⟩ : ∃ l, Lib.decDigits m = l := ⟨_, rfl⟩
       obtain ⟨la, hlae⟩ : ∃ l, Lib.decDigits k.1 = l := ⟨_, rfl⟩
       obtain ⟨lb, hlbe⟩ : ∃ l, Lib.decDigits k.2 = l := ⟨_, rfl⟩
       have hla : la.length ≤ 9 := by rw [← hlae]; exact (dec9_pos (by omega)).2
       have hlb : lb.length ≤ 9 := by rw [← hlbe]; exact (dec9_pos (by omega)).2
       rw [← hT] at HN HT0 hTl ⊢
       rw [hl0e] at hl0
       rw [hl0e, hlae, hlbe] at HN
       have HL0 := Lib.hid hl0e
       have HLA := Lib.hid hlae
       have HLB := Lib.hid hlbe
       clear hcc hrv hx hlt hk hT hT0 hl0e hlae hlbe
       obtain ⟨k0', k1, k2⟩ := HC.out wr HB.out
       have k0 : wr.cell? ⟨b, off + j * 3, none⟩ = some (.slice s1 s2 s3) := k0'
       clear k0'
       rcases Nat.eq_zero_or_pos j with hj0 | hj0
       · have hdz : decide (0 < j) = false := decide_eq_false (by omega)
         have HNX := Lib.hid (show textU (p.take (j + 1)) = T ++ (l0 ++ (if k.1 = 0 then [] else 32 :: 120 :: 94 :: la) ++ (if k.2 = 0 then [] else 32 :: 121 :: 94 :: lb)) from by rw [HN.out, if_pos hj0, HT0.out hj0])
         clear hj0
         go_wp2_with fail
         refine (dtext_any m _ _ (HRV.out.below HB.out) HM.out).mono ?_
         rintro e w2 ⟨rfl, hb2⟩
         rw [HL0.out]
         have HB2 := Lib.hid (HB.out.trans (hb2.mono HB.out.size))
         obtain ⟨k0, k1, k2⟩ := HC.out w2 HB2.out
         clear hb2
         rcases Nat.eq_zero_or_pos k.1 with ha | ha
         · have hda : decide (0 < k.1) = false := decide_eq_false (by omega)
           have HAZ := Lib.hid ha
           rcases Nat.eq_zero_or_pos k.2 with hb | hb
           · have hdb : decide (0 < k.2) = false := decide_eq_false (by omega)
             have HBZ := Lib.hid hb
             clear ha hb
             go_wp2_with (refine wpList_strAdd rfl _ _ _ _ rfl (T) l0 rfl rfl (by simp <;> omega) ?_)
             go_roundw
             case rel => exact ⟨j + 1, by omega, by go_num, by rw [HNX.out]; simp [HAZ.out, HBZ.out, app_str, app_lit], HB2.out⟩
             case measure => simp [intOf]; omega
           · have hdb : decide (0 < k.2) = true := decide_eq_true (by omega)
             have HBZ := Lib.hid (show ¬ k.2 = 0 by omega)
             clear ha hb
             go_wp2_with (first | (refine wpList_strAdd rfl _ _ _ _ rfl (T) l0 rfl rfl (by simp <;> omega) ?_) | (refine wpList_strAdd rfl _ _ _ _ rfl (T ++ l0) [32, 121, 94] rfl rfl (by simp <;> omega) ?_))
             refine (qdigits_any k.2 (by omega) _).mono ?_
             rintro e w3 ⟨rfl, hbn⟩
             rw [HLB.out]
             have HB2 := Lib.hid (HB2.out.trans (hbn.mono HB2.out.size))
             obtain ⟨k0, k1, k2⟩ := HC.out w3 HB2.out
             clear hbn
             go_wp2_with (refine wpList_strAdd rfl _ _ _ _ rfl (T ++ l0 ++ [32, 121, 94]) lb rfl rfl (by simp <;> omega) ?_)
             go_roundw
             case rel => exact ⟨j + 1, by omega, by go_num, by rw [HNX.out]; simp [HAZ.out, HBZ.out, app_str, app_lit], HB2.out⟩
             case measure => simp [intOf]; omega
         · have hda : decide (0 < k.1) = true := decide_eq_true (by omega)
           have HAZ := Lib.hid (show ¬ k.1 = 0 by omega)
           rcases Nat.eq_zero_or_pos k.2 with hb | hb
           · have hdb : decide (0 < k.2) = false := decide_eq_false (by omega)
             have HBZ := Lib.hid hb
             clear ha hb
             go_wp2_with (first | (refine wpList_strAdd rfl _ _ _ _ rfl (T) l0 rfl rfl (by simp <;> omega) ?_) | (refine wpList_strAdd rfl _ _ _ _ rfl (T ++ l0) [32, 120, 94] rfl rfl (by simp <;> omega) ?_))
             refine (qdigits_any k.1 (by omega) _).mono ?_
             rintro e w3 ⟨rfl, hbn⟩
             rw [HLA.out]
             have HB2 := Lib.hid (HB2.out.trans (hbn.mono HB2.out.size))
             obtain ⟨k0, k1, k2⟩ := HC.out w3 HB2.out
             clear hbn
             go_wp2_with (refine wpList_strAdd rfl _ _ _ _ rfl (T ++ l0 ++ [32, 120, 94]) la rfl rfl (by simp <;> omega) ?_)
             go_roundw
             case rel => exact ⟨j + 1, by omega, by go_num, by rw [HNX.out]; simp [HAZ.out, HBZ.out, app_str, app_lit], HB2.out⟩
             case measure => simp [intOf]; omega
           · have hdb : decide (0 < k.2) = true := decide_eq_true (by omega)
             have HBZ := Lib.hid (show ¬ k.2 = 0 by omega)
             clear ha hb
             go_wp2_with (first | (refine wpList_strAdd rfl _ _ _ _ rfl (T) l0 rfl rfl (by simp <;> omega) ?_) | (refine wpList_strAdd rfl _ _ _ _ rfl (T ++ l0) [32, 120, 94] rfl rfl (by simp <;> omega) ?_))
             refine (qdigits_any k.1 (by omega) _).mono ?_
             rintro e w3 ⟨rfl, hbn⟩
             rw [HLA.out]
             have HB2 := Lib.hid (HB2.out.trans (hbn.mono HB2.out.size))
             obtain ⟨k0, k1, k2⟩ := HC.out w3 HB2.out
             clear hbn
             go_wp2_with (first | (refine wpList_strAdd rfl _ _ _ _ rfl (T ++ l0 ++ [32, 120, 94]) la rfl rfl (by simp <;> omega) ?_) | (refine wpList_strAdd rfl _ _ _ _ rfl (T ++ l0 ++ [32, 120, 94] ++ la) [32, 121, 94] rfl rfl (by simp <;> omega) ?_))
             refine (qdigits_any k.2 (by omega) _).mono ?_
             rintro e w4 ⟨rfl, hbn⟩
             rw [HLB.out]
             have HB2 := Lib.hid (HB2.out.trans (hbn.mono HB2.out.size))
             obtain ⟨k0, k1, k2⟩ := HC.out w4 HB2.out
             clear hbn
             go_wp2_with (refine wpList_strAdd rfl _ _ _ _ rfl (T ++ l0 ++ [32, 120, 94] ++ la ++ [32, 121, 94]) lb rfl rfl (by simp <;> omega) ?_)
             go_roundw
             case rel => exact ⟨j + 1, by omega, by go_num, by rw [HNX.out]; simp [HAZ.out, HBZ.out, app_str, app_lit], HB2.out⟩
             case measure => simp [intOf]; omega
       · have hdz : decide (0 < j) = true := decide_eq_true hj0
         have HNX := Lib.hid (show textU (p.take (j + 1)) = T ++ [32, 43, 32] ++ (l0 ++ (if k.1 = 0 then [] else 32 :: 120 :: 94 :: la) ++ (if k.2 = 0 then [] else 32 :: 121 :: 94 :: lb)) from by rw [HN.out, if_neg (by omega)])
         go_wp2_with (refine wpList_strAdd rfl _ _ _ _ rfl T [32, 43, 32] rfl rfl (by simp <;> omega) ?_)
         refine (dtext_any m _ _ (HRV.out.below HB.out) HM.out).mono ?_
         rintro e w2 ⟨rfl, hb2⟩
         rw [HL0.out]
         have HB2 := Lib.hid (HB.out.trans (hb2.mono HB.out.size))
         obtain ⟨k0, k1, k2⟩ := HC.out w2 HB2.out
         clear hb2
         rcases Nat.eq_zero_or_pos k.1 with ha | ha
         · have hda : decide (0 < k.1) = false := decide_eq_false (by omega)
           have HAZ := Lib.hid ha
           rcases Nat.eq_zero_or_pos k.2 with hb | hb
           · have hdb : decide (0 < k.2) = false := decide_eq_false (by omega)
             have HBZ := Lib.hid hb
             clear ha hb
             go_wp2_with (refine wpList_strAdd rfl _ _ _ _ rfl (T ++ [32, 43, 32]) l0 rfl rfl (by simp <;> omega) ?_)
             go_roundw
             case rel => exact ⟨j + 1, by omega, by go_num, by rw [HNX.out]; simp [HAZ.out, HBZ.out, app_str, app_lit], HB2.out⟩
             case measure => simp [intOf]; omega
           · have hdb : decide (0 < k.2) = true := decide_eq_true (by omega)
             have HBZ := Lib.hid (show ¬ k.2 = 0 by omega)
             clear ha hb
             go_wp2_with (first | (refine wpList_strAdd rfl _ _ _ _ rfl (T ++ [32, 43, 32]) l0 rfl rfl (by simp <;> omega) ?_) | (refine wpList_strAdd rfl _ _ _ _ rfl (T ++ [32, 43, 32] ++ l0) [32, 121, 94] rfl rfl (by simp <;> omega) ?_))
             refine (qdigits_any k.2 (by omega) _).mono ?_
             rintro e w3 ⟨rfl, hbn⟩
             rw [HLB.out]
             have HB2 := Lib.hid (HB2.out.trans (hbn.mono HB2.out.size))
             obtain ⟨k0, k1, k2⟩ := HC.out w3 HB2.out
             clear hbn
             go_wp2_with (refine wpList_strAdd rfl _ _ _ _ rfl (T ++ [32, 43, 32] ++ l0 ++ [32, 121, 94]) lb rfl rfl (by simp <;> omega) ?_)
             go_roundw
             case rel => exact ⟨j + 1, by omega, by go_num, by rw [HNX.out]; simp [HAZ.out, HBZ.out, app_str, app_lit], HB2.out⟩
             case measure => simp [intOf]; omega
         · have hda : decide (0 < k.1) = true := decide_eq_true (by omega)
           have HAZ := Lib.hid (show ¬ k.1 = 0 by omega)
           rcases Nat.eq_zero_or_pos k.2 with hb | hb
           · have hdb : decide (0 < k.2) = false := decide_eq_false (by omega)
             have HBZ := Lib.hid hb
             clear ha hb
             go_wp2_with (first | (refine wpList_strAdd rfl _ _ _ _ rfl (T ++ [32, 43, 32]) l0 rfl rfl (by simp <;> omega) ?_) | (refine wpList_strAdd rfl _ _ _ _ rfl (T ++ [32, 43, 32] ++ l0) [32, 120, 94] rfl rfl (by simp <;> omega) ?_))
             refine (qdigits_any k.1 (by omega) _).mono ?_
             rintro e w3 ⟨rfl, hbn⟩
             rw [HLA.out]
             have HB2 := Lib.hid (HB2.out.trans (hbn.mono HB2.out.size))
             obtain ⟨k0, k1, k2⟩ := HC.out w3 HB2.out
             clear hbn
             go_wp2_with (refine wpList_strAdd rfl _ _ _ _ rfl (T ++ [32, 43, 32] ++ l0 ++ [32, 120, 94]) la rfl rfl (by simp <;> omega) ?_)
             go_roundw
             case rel => exact ⟨j + 1, by omega, by go_num, by rw [HNX.out]; simp [HAZ.out, HBZ.out, app_str, app_lit], HB2.out⟩
             case measure => simp [intOf]; omega
           · have hdb : decide (0 < k.2) = true := decide_eq_true (by omega)
             have HBZ := Lib.hid (show ¬ k.2 = 0 by omega)
             clear ha hb
             go_wp2_with (first | (refine wpList_strAdd rfl _ _ _ _ rfl (T ++ [32, 43, 32]) l0 rfl rfl (by simp <;> omega) ?_) | (refine wpList_strAdd rfl _ _ _ _ rfl (T ++ [32, 43, 32] ++ l0) [32, 120, 94] rfl rfl (by simp <;> omega) ?_))
             refine (qdigits_any k.1 (by omega) _).mono ?_
             rintro e w3 ⟨rfl, hbn⟩
             rw [HLA.out]
             have HB2 := Lib.hid (HB2.out.trans (hbn.mono HB2.out.size))
             obtain ⟨k0, k1, k2⟩ := HC.out w3 HB2.out
             clear hbn
             go_wp2_with (first | (refine wpList_strAdd rfl _ _ _ _ rfl (T ++ [32, 43, 32] ++ l0 ++ [32, 120, 94]) la rfl rfl (by simp <;> omega) ?_) | (refine wpList_strAdd rfl _ _ _ _ rfl (T ++ [32, 43, 32] ++ l0 ++ [32, 120, 94] ++ la) [32, 121, 94] rfl rfl (by simp <;> omega) ?_))
             refine (qdigits_any k.2 (by omega) _).mono ?_
             rintro e w4 ⟨rfl, hbn⟩
             rw [HLB.out]
             have HB2 := Lib.hid (HB2.out.trans (hbn.mono HB2.out.size))
             obtain ⟨k0, k1, k2⟩ := HC.out w4 HB2.out
             clear hbn
             go_wp2_with (refine wpList_strAdd rfl _ _ _ _ rfl (T ++ [32, 43, 32] ++ l0 ++ [32, 120, 94] ++ la ++ [32, 121, 94]) lb rfl rfl (by simp <;> omega) ?_)
             go_roundw
             case rel => exact ⟨j + 1, by omega, by go_num, by rw [HNX.out]; simp [HAZ.out, HBZ.out, app_str, app_lit], HB2.out⟩
             case measure => simp [intOf]; omega
     · have hkl : p.take j = p := List.take_of_length_le hj2
       have hdj : decide (j < p.length) = false := decide_eq_false (by omega)
       rw [hkl, ← HNE.out]
       clear hkl
       obtain ⟨T, hT⟩ : ∃ T, T = textP p := ⟨_, rfl⟩
       rw [← hT]
       have HT := Lib.hid hT
       clear hT
       go_wp2_with fail
       go_ret
       exact ⟨by rw [← HT.out]; rfl, HB.out⟩
theorem qsame_any (p q : Pol) (hu : Upto 2048 p) (hf : Fit (wt p)) (hl : p.length ≤ 100000) (hu2 : Upto 2048 q) (hf2 : Fit (wt q)) (hl2 : q.length ≤ 100000) (v u : Value) (w : World) (hv : RefP w v p) (hq : RefP w u q) :
   Calls Tryz.prog 34 #[v, u] w fun e w' => e = .returned (.bool (decide (textP p = textP q))) ∧ Below w.heap.size w w' := by
 have HV := Lib.hid (qtext_any p hu hf hl v w hv)
 have HQ := Lib.hid fun W (hb : Below w.heap.size w W) => qtext_any q hu2 hf2 hl2 u W (hq.below hb)
 obtain ⟨a, c, rfl⟩ := refP_sl hv
 obtain ⟨a2, c2, rfl⟩ := refP_sl hq
 clear hv hq hu hu2 hf hf2
 go_enter Tryz.func34, Tryz.ntmps34
 go_wp2_with fail
 refine HV.out.mono ?_
 rintro e w1 ⟨rfl, b1⟩
 have B1 := Lib.hid b1
 clear b1
 go_wp2_with fail
 refine (HQ.out w1 B1.out).mono ?_
 rintro e w2 ⟨rfl, b2⟩
 have B2 := Lib.hid (B1.out.trans (b2.mono B1.out.size))
 clear b2
 obtain ⟨S, hS⟩ : ∃ S, S = textP p := ⟨_, rfl⟩
 obtain ⟨T, hT⟩ : ∃ T, T = textP q := ⟨_, rfl⟩
 rw [← hS, ← hT]
 have HS := Lib.hid hS
 have HT := Lib.hid hT
 clear hS hT
 go_wp2_with fail
 go_ret
 have e1 : (S == T) = decide (S = T) := by rw [Bool.eq_iff_iff]; simp
 exact ⟨by rw [← HS.out, ← HT.out, ← e1]; rfl, B2.out⟩
end Go.Proofs.YtgnlebnpnpjfmaaGreatDoor
