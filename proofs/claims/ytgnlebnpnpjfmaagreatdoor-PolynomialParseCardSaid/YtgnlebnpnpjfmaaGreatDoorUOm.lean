/- Walk of package polynomial: Text. Walk of package polynomial: number; Parse's closure, .. -/
import Derived.Test.YtgnlebnpnpjfmaaGreatDoorUOk
import Derived.Test.YtgnlebnpnpjfmaaGreatDoorUNs
import Derived.Test.YtgnlebnpnpjfmaaGreatDoorUPl
import Derived.Test.YtgnlebnpnpjfmaaGreatDoorUOo
set_option maxHeartbeats 4000000
set_option maxRecDepth 100000
set_option linter.all false
namespace Go.Proofs.YtgnlebnpnpjfmaaGreatDoor
open Go Go.RowKit Go.Pal Go.Shelf Go.Sort Go.Lib
theorem ptext_any (p : Pol) (vp : Value) (w : World) (hp : PolV w vp p) (hf : Fit (wt p)) (hlen : p.length ≤ 100000) (htl : (textP p).length ≤ 1000000) (hE : Env w) :
   Calls Tryz.prog 16 #[vp] w fun e w' => e = .returned (.string ⟨(textP p).toArray⟩) ∧ Below w.heap.size w w' := by
 obtain ⟨m1, rfl, hm1⟩ := hp
 have HC := Lib.hid hm1.canon
 have HUP := Lib.hid hm1.upto
 obtain ⟨W0, hW0⟩ : ∃ W0, w.alloc (.cells #[.map m1] 24) = W0 := ⟨_, rfl⟩
 have hb0 : Below w.heap.size w W0 := by
   rw [← hW0]
   (repeat' (first | (with_reducible first | exact Below.refl _ _ | assumption | refine Below.alloc ?_ ?_ _ | refine Below.drew ?_ | refine Below.setCell ?_ ?_ _ | refine below_setRow ?_ ?_ _ | exact Nat.le_refl _) | omega | (simp; done) | (simp; omega) | (simp at *; omega)))
 have e0 : row? W0 w.heap.size = some #[.map m1] := by rw [← hW0]; simp [go_sem]
 have hl1 := (hm1.below hb0).len
 rw [← hW0] at hl1
 have HB0 := Lib.hid hb0
 have HM0 := Lib.hid (hm1.below hb0)
 have HE0 := Lib.hid (hE.on hb0)
 have HR0 := Lib.hid e0
 have HF := Lib.hid hf
 have HTL := Lib.hid htl
 have HW0 := Lib.hid hW0
 clear hm1 hb0 e0 hE hf htl hW0
 by_cases hz : p = []
 · subst hz
   have ht : textP [] = [48] := rfl
   have hzl : (([] : Pol).length : Int) = 0 := rfl
   rw [hzl] at hl1
   go_enter Tryz.func16, Tryz.ntmps16
   go_wp2_with fail
   go_ret
   refine ⟨by rw [ht]; rfl, ?_⟩
   rw [HW0.out]
   exact HB0.out
 · have HNE := Lib.hid hz
   have hd0 : ((p.length : Int) == 0) = false := by
     have : p.length ≠ 0 := fun e => hz (List.length_eq_zero_iff.1 e)
     rw [beq_eq_false_iff_ne]
     omega
   have HPW := Lib.hid (ppowers_any p hz hlen _ W0 ⟨m1, rfl, HM0.out⟩)
   clear hz
   go_enter Tryz.func16, Tryz.ntmps16
   go_wp2_with fail
   rw [HW0.out]
   refine HPW.out.mono ?_
   rintro r w1 ⟨v1, rfl, hO1, hb1⟩
   have hrd1 := hO1.rd elX
   have hkl : (p.map (·.1)).length = p.length := by simp
   have hmA := HM0.out.below hb1
   have r0 := (row?_below hb1 (row?_lt HR0.out)).trans HR0.out
   have hbw1 := HB0.out.trans (hb1.mono HB0.out.size)
   have HRD := Lib.hid hrd1
   have HMA := Lib.hid hmA
   have HRW := Lib.hid r0
   have HBW := Lib.hid hbw1
   have HEA := Lib.hid (HE0.out.on hb1)
   have HKL := Lib.hid hkl
   obtain ⟨va, vc, hv1⟩ := hO1.sl
   rw [hkl] at hv1
   subst hv1
   have hls := row?_lt r0
   clear hO1 hb1 hrd1 hmA r0 hbw1 hl1 hd0 HPW HR0 HM0 HE0 hkl
   go_wp2_with fail
   go_loopw [3, 14] (fun s i wr => ∃ k : Nat, k ≤ p.length ∧ i = .int .i64 (k : Int) ∧ OwnStr w1.heap.size wr s ((p.map termT).take k) ∧ Below w1.heap.size w1 wr) (fun _ i _ => p.length - (intOf i).toNat)
   case atStart => exact ⟨0, by omega, rfl, OwnR.nil _ _, Below.refl _ _⟩
   case round =>
     obtain ⟨k, hk, rfl, hO, hb⟩ := hrel
     obtain ⟨oa, oc, rfl⟩ := hO.sl
     have HO := Lib.hid hO
     have HB := Lib.hid hb
     have hsz := hb.size
     have htk : ((p.map termT).take k).length = k := by simp; omega
     rw [htk] at HO ⊢
     clear hO hb
     rcases Nat.lt_or_ge k p.length with hk2 | hk2
     · obtain ⟨b, off, c, x, hsl, hbB, hx, hcc⟩ := HRD.out.at (i := k) (by simpa using hk2)
       rw [HKL.out] at hsl
       simp only [Value.slice.injEq] at hsl
       obtain ⟨rfl, -, rfl⟩ := hsl
       obtain ⟨⟨ke, n⟩, hpk, rfl⟩ : ∃ t : Ex × Nat, p[k]? = some t ∧ t.1 = x := by
         rw [List.getElem?_map] at hx
         exact Option.map_eq_some_iff.1 hx
       have hmem := List.mem_of_getElem? hpk
       obtain ⟨hk3, hk4⟩ := HUP.out _ hmem
       have hnw := wt_mem hmem
       have hcf := mem_coef HC.out hmem
       simp only at hk3 hk4 hnw hcf hcc
       have jl : rowLoad Tryz.prog 90 ⟨b, off + k * 2, none⟩ wr = .ok (.agg #[.int .i64 (ke.1 : Int), .int .i64 (ke.2 : Int)]) wr := load_cells Tryz.isAgg90 Tryz.sizeOf90 wr b _ (pwA ke) rfl fun j u hu => hcc wr HB.out j u hu
       have hmr := HMA.out.below HB.out
       obtain ⟨hd, hlk, hnv⟩ := hmr.look (ke.1 : Int) (ke.2 : Int) (by unfold InI; omega) (by unfold InI; omega)
       replace hnv : NatV wr (hdrV hd) n := by rw [coefZ_nat] at hnv; rw [← hcf]; exact hnv
       obtain ⟨qa, qn, qc, hq⟩ := hdr_sl hd
       unfold hdrV at hnv
       rw [hq] at hlk hnv
       have hbA : Below wr.heap.size wr (wr.alloc (.cells #[.int .i64 (ke.1 : Int), .int .i64 (ke.2 : Int)] 90)) := (Below.refl _ _).alloc (Nat.le_refl _) _
       have hlkA := hlk _ hbA
       have c0 : (wr.alloc (.cells #[.int .i64 (ke.1 : Int), .int .i64 (ke.2 : Int)] 90)).cell? ⟨w.heap.size, 0, none⟩ = some (.map m1) := cell?_row (i := 0) ((row?_below hbA (by omega)).trans ((row?_below HB.out hls).trans HRW.out))
       have HNV := Lib.hid (hnv.below hbA)
       have HBA := Lib.hid hbA
       have HFN := Lib.hid (HF.out.mono hnw)
       have HPK := Lib.hid hpk
       have hdk : decide (k < p.length) = true := decide_eq_true hk2
       clear hx hcc hbB hmem hnw hcf hmr hlk hnv hq hbA hpk htk
       go_wp2_with fail
       refine (nstring_any n _ _ HNV.out HFN.out ((HEA.out.on HB.out).on HBA.out)).mono ?_
       rintro e w2 ⟨rfl, hb2⟩
       have hl0 := dec_fit HFN.out
       obtain ⟨l0, hl0e⟩ : ∃ l, l = Lib.decDigits n := ⟨_, rfl⟩
       obtain ⟨la, hlae⟩ : ∃ l, l = Lib.decDigits ke.1 := ⟨_, rfl⟩
       obtain ⟨lb, hlbe⟩ : ∃ l, l = Lib.decDigits ke.2 := ⟨_, rfl⟩
       have hla : la.length ≤ 9 := by rw [hlae]; exact (dec9_pos (by omega)).2
       have hlb : lb.length ≤ 9 := by rw [hlbe]; exact (dec9_pos (by omega)).2
       have HTT := Lib.hid (show termT (ke, n) = l0 ++ (if ke.1 = 0 then [] else 32 :: 120 :: 94 :: la) ++ (if ke.2 = 0 then [] else 32 :: 121 :: 94 :: lb) by rw [hl0e, hlae, hlbe]; rfl)
       have HIA := Lib.hid fun W (hE : Env W) => itoa_any ke.1 (by omega) W hE
       have HIB := Lib.hid fun W (hE : Env W) => itoa_any ke.2 (by omega) W hE
       rw [← hl0e] at hl0 ⊢
       rw [← hlae] at HIA
       rw [← hlbe] at HIB
       have hb12 : Below wr.heap.size wr w2 := HBA.out.trans (hb2.mono HBA.out.size)
       have hwk : ∀ W, Below wr.heap.size wr W → (row? W wr.heap.size = some #[.int .i64 (ke.1 : Int), .int .i64 (ke.2 : Int)] → W.cell? ⟨wr.heap.size, 0, none⟩ = some (.int .i64 (ke.1 : Int)) ∧ W.cell? ⟨wr.heap.size, 1, none⟩ = some (.int .i64 (ke.2 : Int))) := fun W _ h => ⟨cell?_row (i := 0) h, cell?_row (i := 1) h⟩
       have hrw2 := (row?_below hb2 (by simp)).trans (row?_alloc_at wr #[Value.int .i64 (ke.1 : Int), .int .i64 (ke.2 : Int)] 90 wr.heap.size rfl)
       obtain ⟨c3, c4⟩ := hwk w2 hb12 hrw2
       have HRW2 := Lib.hid hrw2
       have HB2 := Lib.hid hb12
       have HE2 := Lib.hid ((HEA.out.on HB.out).on hb12)
       have hss : ((p.map termT).take k).length < 4000000 := by simp; omega
       have HTK := Lib.hid (show (p.map termT).take (k + 1) = (p.map termT).take k ++ [termT (ke, n)] by rw [List.take_add_one, List.getElem?_map, HPK.out]; rfl)
       clear hb2 hb12 hwk hl0e hlae hlbe hlkA c0 jl hrw2 HNV
       rcases Nat.eq_zero_or_pos ke.1 with ha | ha
       · have hda : decide (0 < ke.1) = false := decide_eq_false (by omega)
         have HAZ := Lib.hid ha
         rcases Nat.eq_zero_or_pos ke.2 with hb | hb
         · have hdb : decide (0 < ke.2) = false := decide_eq_false (by omega)
           have HBZ := Lib.hid hb
           clear ha hb
           have HT := Lib.hid (show termT (ke, n) = l0 by rw [HTT.out, if_pos HAZ.out, if_pos HBZ.out]; simp)
           have HBX := HB2
           have hszx : w1.heap.size ≤ (w2).heap.size := by have := HBX.out.size; omega
           have HOX := Lib.hid (HO.out.below HBX.out (Nat.le_refl _))
           go_wp2_with (first | (at_builtin; refine wpList_appO elStr 86 Tryz.underlying86 rfl _ _ rfl w1.heap.size _ ((p.map termT).take k) rfl (HOX.out.alloc _) _ (l0) _ rfl (row?_alloc_at _ _ _ _ (by simp)) (by simp; omega) (by simp; omega) ?_) | (refine wpList_strAdd rfl _ _ _ _ rfl (l0) (l0) rfl rfl (by simp <;> omega) ?_) | (refine wpList_strAdd rfl _ _ _ _ rfl (l0) (l0) rfl rfl (by simp <;> omega) ?_))
           intro v5 w5 hO5 hb5 hg5 hl5
           have HT5 := Lib.hid (HB.out.trans (((HBX.out.mono hsz).trans (((Below.refl w1.heap.size _).alloc hszx _).trans hb5)).mono (Nat.le_refl _)))
           obtain ⟨oa5, oc5, rfl⟩ := hO5.sl
           have HO5 := Lib.hid hO5
           clear hO5 hb5 hg5 hl5
           go_wp2_with fail
           go_roundw
           case rel => exact ⟨k + 1, by omega, by go_num, by rw [HTK.out, HT.out]; exact HO5.out, HT5.out⟩
           case measure => simp [intOf]; omega
         · have hdb : decide (0 < ke.2) = true := decide_eq_true (by omega)
           have HBZ := Lib.hid (show ¬ ke.2 = 0 by omega)
           clear ha hb
           have HT := Lib.hid (show termT (ke, n) = l0 ++ 32 :: 121 :: 94 :: lb by rw [HTT.out, if_pos HAZ.out, if_neg HBZ.out]; simp)
           go_wp2_with fail
           refine (HIB.out _ HE2.out).mono ?_
           rintro e w3 ⟨rfl, hb3⟩
           have HBX := Lib.hid (HB2.out.trans (hb3.mono HB2.out.size))
           clear hb3
           have hszx : w1.heap.size ≤ (w3).heap.size := by have := HBX.out.size; omega
           have HOX := Lib.hid (HO.out.below HBX.out (Nat.le_refl _))
           go_wp2_with (first | (at_builtin; refine wpList_appO elStr 86 Tryz.underlying86 rfl _ _ rfl w1.heap.size _ ((p.map termT).take k) rfl (HOX.out.alloc _) _ (l0 ++ 32 :: 121 :: 94 :: lb) _ rfl (row?_alloc_at _ _ _ _ (by simp)) (by simp; omega) (by simp; omega) ?_) | (refine wpList_strAdd rfl _ _ _ _ rfl ([32, 121, 94]) (lb) rfl rfl (by simp <;> omega) ?_) | (refine wpList_strAdd rfl _ _ _ _ rfl (l0) (([32, 121, 94] ++ lb)) rfl rfl (by simp <;> omega) ?_))
           intro v5 w5 hO5 hb5 hg5 hl5
           have HT5 := Lib.hid (HB.out.trans (((HBX.out.mono hsz).trans (((Below.refl w1.heap.size _).alloc hszx _).trans hb5)).mono (Nat.le_refl _)))
           obtain ⟨oa5, oc5, rfl⟩ := hO5.sl
           have HO5 := Lib.hid hO5
           clear hO5 hb5 hg5 hl5
           go_wp2_with fail
           go_roundw
           case rel => exact ⟨k + 1, by omega, by go_num, by rw [HTK.out, HT.out]; exact HO5.out, HT5.out⟩
           case measure => simp [intOf]; omega
       · have hda : decide (0 < ke.1) = true := decide_eq_true (by omega)
         have HAZ := Lib.hid (show ¬ ke.1 = 0 by omega)
         rcases Nat.eq_zero_or_pos ke.2 with hb | hb
         · have hdb : decide (0 < ke.2) = false := decide_eq_false (by omega)
           have HBZ := Lib.hid hb
           clear ha hb
           have HT := Lib.hid (show termT (ke, n) = l0 ++ 32 :: 120 :: 94 :: la by rw [HTT.out, if_neg HAZ.out, if_pos HBZ.out]; simp)
           go_wp2_with fail
           refine (HIA.out _ HE2.out).mono ?_
           rintro e w3 ⟨rfl, hb3⟩
           have c4 := (cell?_row (i := 1) ((row?_below hb3 (row?_lt HRW2.out)).trans HRW2.out)).trans rfl
           have HBX := Lib.hid (HB2.out.trans (hb3.mono HB2.out.size))
           clear hb3
           have hszx : w1.heap.size ≤ (w3).heap.size := by have := HBX.out.size; omega
           have HOX := Lib.hid (HO.out.below HBX.out (Nat.le_refl _))
           go_wp2_with (first | (at_builtin; refine wpList_appO elStr 86 Tryz.underlying86 rfl _ _ rfl w1.heap.size _ ((p.map termT).take k) rfl (HOX.out.alloc _) _ (l0 ++ 32 :: 120 :: 94 :: la) _ rfl (row?_alloc_at _ _ _ _ (by simp)) (by simp; omega) (by simp; omega) ?_) | (refine wpList_strAdd rfl _ _ _ _ rfl ([32, 120, 94]) (la) rfl rfl (by simp <;> omega) ?_) | (refine wpList_strAdd rfl _ _ _ _ rfl (l0) (([32, 120, 94] ++ la)) rfl rfl (by simp <;> omega) ?_))
           intro v5 w5 hO5 hb5 hg5 hl5
           have HT5 := Lib.hid (HB.out.trans (((HBX.out.mono hsz).trans (((Below.refl w1.heap.size _).alloc hszx _).trans hb5)).mono (Nat.le_refl _)))
           obtain ⟨oa5, oc5, rfl⟩ := hO5.sl
           have HO5 := Lib.hid hO5
           clear hO5 hb5 hg5 hl5
           go_wp2_with fail
           go_roundw
           case rel => exact ⟨k + 1, by omega, by go_num, by rw [HTK.out, HT.out]; exact HO5.out, HT5.out⟩
           case measure => simp [intOf]; omega
         · have hdb : decide (0 < ke.2) = true := decide_eq_true (by omega)
           have HBZ := Lib.hid (show ¬ ke.2 = 0 by omega)
           clear ha hb
           have HT := Lib.hid (show termT (ke, n) = l0 ++ 32 :: 120 :: 94 :: (la ++ 32 :: 121 :: 94 :: lb) by rw [HTT.out, if_neg HAZ.out, if_neg HBZ.out]; simp)
           go_wp2_with fail
           refine (HIA.out _ HE2.out).mono ?_
           rintro e w3 ⟨rfl, hb3⟩
           have c4 := (cell?_row (i := 1) ((row?_below hb3 (row?_lt HRW2.out)).trans HRW2.out)).trans rfl
           have HB3 := Lib.hid (HB2.out.trans (hb3.mono HB2.out.size))
           have HE3 := Lib.hid (HE2.out.on hb3)
           clear hb3
           go_wp2_with (first | (refine wpList_strAdd rfl _ _ _ _ rfl [32, 120, 94] la rfl rfl (by simp <;> omega) ?_) | (refine wpList_strAdd rfl _ _ _ _ rfl l0 ([32, 120, 94] ++ la) rfl rfl (by simp <;> omega) ?_))
           refine (HIB.out _ HE3.out).mono ?_
           rintro e w4 ⟨rfl, hb4⟩
           have HBX := Lib.hid (HB3.out.trans (hb4.mono HB3.out.size))
           clear hb4
           have hszx : w1.heap.size ≤ (w4).heap.size := by have := HBX.out.size; omega
           have HOX := Lib.hid (HO.out.below HBX.out (Nat.le_refl _))
           go_wp2_with (first | (at_builtin; refine wpList_appO elStr 86 Tryz.underlying86 rfl _ _ rfl w1.heap.size _ ((p.map termT).take k) rfl (HOX.out.alloc _) _ (l0 ++ 32 :: 120 :: 94 :: (la ++ 32 :: 121 :: 94 :: lb)) _ rfl (row?_alloc_at _ _ _ _ (by simp)) (by simp; omega) (by simp; omega) ?_) | (refine wpList_strAdd rfl _ _ _ _ rfl ([32, 121, 94]) (lb) rfl rfl (by simp <;> omega) ?_) | (refine wpList_strAdd rfl _ _ _ _ rfl ((l0 ++ ([32, 120, 94] ++ la))) (([32, 121, 94] ++ lb)) rfl rfl (by simp <;> omega) ?_))
           intro v5 w5 hO5 hb5 hg5 hl5
           have HT5 := Lib.hid (HB.out.trans (((HBX.out.mono hsz).trans (((Below.refl w1.heap.size _).alloc hszx _).trans hb5)).mono (Nat.le_refl _)))
           obtain ⟨oa5, oc5, rfl⟩ := hO5.sl
           have HO5 := Lib.hid hO5
           clear hO5 hb5 hg5 hl5
           go_wp2_with fail
           go_roundw
           case rel => exact ⟨k + 1, by omega, by go_num, by rw [HTK.out, HT.out]; exact HO5.out, HT5.out⟩
           case measure => simp [intOf]; omega
     · have hkl : k = p.length := by omega
       have hdk : decide (k < p.length) = false := decide_eq_false (by omega)
       have hall : (p.map termT).take k = p.map termT := List.take_of_length_le (by simp; omega)
       rw [hall] at HO
       have htx : Lib.join (p.map termT) [32, 43, 32] = textP p := by unfold textP; rw [if_neg HNE.out]
       have HJ := Lib.hid (join_own _ (p.map termT) _ wr HO.out [32, 43, 32] (by simp; omega) (by rw [htx]; exact HTL.out))
       rw [htx] at HJ
       clear htx hall hkl htk
       go_wp2_with fail
       refine HJ.out.mono ?_
       rintro r w5 ⟨rfl, hb5⟩
       have HB5 := Lib.hid (HBW.out.trans ((HB.out.trans (hb5.mono HB.out.size)).mono HBW.out.size))
       clear hb5 HJ
       go_wp2_with fail
       go_ret
       exact ⟨rfl, HB5.out⟩
end Go.Proofs.YtgnlebnpnpjfmaaGreatDoor
namespace Go.Proofs.YtgnlebnpnpjfmaaGreatDoor
open Go Go.RowKit Go.Pal Go.Shelf
attribute [local go_sem] str_get
theorem pnumber_any (s : List UInt8) (hl : s.length ≤ 8388608) (w : World) :
   Calls Tryz.prog 85 #[.string ⟨s.toArray⟩] w fun e w' => e = .returned (.bool (numS s)) ∧ Below w.heap.size w w' := by
 have HT := Lib.hid fun W => trim_any s hl W
 have HTN := Lib.hid (trim_nil s)
 have HN := Lib.hid (numS_iff (s := s))
 cases s with
 | nil =>
   have hn : numS [] = false := rfl
   go_enter Tryz.func85, Tryz.ntmps85
   go_wp2_with fail
   go_ret
   exact ⟨by rw [hn]; rfl, Below.refl _ _⟩
 | cons c0 r =>
   by_cases hc : c0 = 48
   · subst hc
     have hn : numS (48 :: r) = false := by
       rw [← Bool.not_eq_true]
       intro h
       exact (HN.out.1 h).2.1 rfl
     go_enter Tryz.func85, Tryz.ntmps85
     go_wp2_with fail
     go_ret
     exact ⟨by rw [hn]; rfl, Below.refl _ _⟩
   · have hcn : ¬ (c0.toNat : Int) = 48 := fun e => hc (UInt8.toNat_inj.1 (by show c0.toNat = 48; omega))
     have hcb : ((c0.toNat : Int) != 48) = true := by rw [bne_iff_ne]; exact hcn
     obtain ⟨T, hT⟩ : ∃ T, T = Lib.trimS (c0 :: r) [48, 49, 50, 51, 52, 53, 54, 55, 56, 57] := ⟨_, rfl⟩
     rw [← hT] at HT HTN
     have hn : numS (c0 :: r) = decide (T = []) := by
       rw [Bool.eq_iff_iff, HN.out, decide_eq_true_eq, HTN.out]
       constructor
       · exact fun h => h.2.2
       · exact fun h => ⟨by simp, by simpa using hc, h⟩
     rw [hn]
     clear hT HN HTN hn
     go_enter Tryz.func85, Tryz.ntmps85
     go_wp2_with fail
     refine (HT.out _).mono ?_
     rintro e w1 ⟨rfl, hb1⟩
     have HB := Lib.hid hb1
     clear hb1 HT
     cases T with
     | nil =>
       go_wp2_with fail
       go_ret
       exact ⟨rfl, HB.out⟩
     | cons a t =>
       go_wp2_with fail
       go_ret
       exact ⟨rfl, HB.out⟩
def bigX (k : Ex) : Bool := decide (2048 < k.1) || decide (2048 < k.2)
theorem pbig_any (k : Ex) (w : World) :
   Calls Tryz.prog 55 #[.agg (pwA k)] w fun e w' => e = .returned (.bool (bigX k)) ∧ Below w.heap.size w w' := by
 obtain ⟨a, b⟩ := k
 have hm : decide ((2048 : Int) < max (a : Int) (b : Int)) = bigX (a, b) := by
   unfold bigX
   rw [Bool.eq_iff_iff]
   simp only [Bool.or_eq_true, decide_eq_true_eq]
   omega
 unfold pwA
 go_enter Tryz.func55, Tryz.ntmps55
 go_wp2_with fail
 go_ret
 refine ⟨by first | (rw [← hm]; rfl) | (rw [hm]; rfl), ?_⟩
 (repeat' (first | (with_reducible first | exact Below.refl _ _ | assumption | refine Below.alloc ?_ ?_ _ | refine Below.drew ?_ | refine Below.setCell ?_ ?_ _ | refine below_setRow ?_ ?_ _ | exact Nat.le_refl _) | omega | (simp; done) | (simp; omega) | (simp at *; omega)))
theorem pindex_any (B : Nat) (l : List Ex) (v : Value) (w : World) (h : Rd pwA 2 B w v l) (hB : B ≤ w.heap.size) (hl : l.length ≤ 1000000) :
   Calls Tryz.prog 90 #[v, .func (.func 55) #[] #[]] w fun e w' => ∃ i : Int, e = .returned (.int .i64 i) ∧ (decide (0 ≤ i) = l.any bigX) ∧ Below w.heap.size w w' := by
 have HF := Lib.hid fun k W => pbig_any k W
 have H := Lib.hid h
 obtain ⟨a, c, rfl⟩ := h.sl
 clear h
 go_enter Tryz.func90, Tryz.ntmps90
 go_wp2_with fail
 go_loopw [8] (fun i wr => ∃ k : Nat, k ≤ l.length ∧ i = .int .i64 (k : Int) ∧ (l.take k).any bigX = false ∧ Below w.heap.size w wr) (fun i _ => l.length - (intOf i).toNat)
 case atStart => exact ⟨0, by omega, rfl, rfl, Below.refl _ _⟩
 case round =>
   obtain ⟨k, hk, rfl, hany, hb⟩ := hrel
   have HA := Lib.hid hany
   have HB := Lib.hid hb
   clear hany hb
   rcases Nat.lt_or_ge k l.length with hk2 | hk2
   · obtain ⟨b, off, c', x, hsl, hbB, hx, hcc⟩ := H.out.at hk2
     simp only [Value.slice.injEq] at hsl
     obtain ⟨rfl, -, rfl⟩ := hsl
     have jl : rowLoad Tryz.prog 90 ⟨b, off + k * 2, none⟩ wr = .ok (.agg (pwA x)) wr := load_cells Tryz.isAgg90 Tryz.sizeOf90 wr b _ (pwA x) rfl fun j u hu => hcc wr (HB.out.mono hB) j u hu
     have HX := Lib.hid hx
     clear hcc hx hbB
     go_wp2_with fail
     refine (HF.out x wr).mono ?_
     rintro e w2 ⟨rfl, hb2⟩
     have HB2 := Lib.hid (HB.out.trans (hb2.mono HB.out.size))
     have htk : (l.take (k + 1)).any bigX = bigX x := by
       rw [List.take_add_one, HX.out, List.any_append, HA.out]
       simp
     have HTK := Lib.hid htk
     clear hb2 jl htk
     cases hbx : bigX x with
     | true =>
       have HBX := Lib.hid hbx
       clear hbx
       go_wp2_with fail
       go_ret
       refine ⟨_, rfl, ?_, HB2.out⟩
       have : l.any bigX = true := by
         rw [List.any_eq_true]
         exact ⟨x, List.mem_of_getElem? HX.out, HBX.out⟩
       rw [this, decide_eq_true (by omega)]
     | false =>
       have HBX := Lib.hid hbx
       clear hbx
       go_wp2_with fail
       go_roundw
       case rel => exact ⟨k + 1, by omega, by go_num, by rw [HTK.out, HBX.out], HB2.out⟩
       case measure => simp [intOf]; omega
   · have hkl : k = l.length := by omega
     have hall : l.any bigX = false := by
       have := HA.out
       rwa [hkl, List.take_length] at this
     have HALL := Lib.hid hall
     clear hall hkl
     go_wp2_with fail
     go_ret
     exact ⟨_, rfl, by rw [HALL.out]; rfl, HB.out⟩
theorem pcontains_any (B : Nat) (l : List Ex) (v : Value) (w : World) (h : Rd pwA 2 B w v l) (hB : B ≤ w.heap.size) (hl : l.length ≤ 1000000) :
   Calls Tryz.prog 54 #[v, .func (.func 55) #[] #[]] w fun e w' => e = .returned (.bool (l.any bigX)) ∧ Below w.heap.size w w' := by
 have H := Lib.hid (pindex_any B l v w h hB hl)
 obtain ⟨a, c, rfl⟩ := h.sl
 clear h
 go_enter Tryz.func54, Tryz.ntmps54
 go_wp2_with fail
 refine H.out.mono ?_
 rintro e w1 ⟨i, rfl, hi, hb⟩
 have HI := Lib.hid hi
 have HB := Lib.hid hb
 clear hi hb H
 go_wp2_with fail
 go_ret
 exact ⟨by rw [← HI.out]; rfl, HB.out⟩
end Go.Proofs.YtgnlebnpnpjfmaaGreatDoor
namespace Go.Pal
theorem powW_cons (c : UInt8) (w : List UInt8) (r : List (List UInt8)) : powW c (w :: r) = if [c, 94].isPrefixOf w then (if numS (w.drop 2) && decide ((w.drop 2).length ≤ 9) then some (dval 0 (w.drop 2), r) else none) else some (0, w :: r) := rfl
def StR (L : List (List UInt8)) (k a b : Nat) (rem : List (List UInt8)) : Prop :=
 (k = 0 ∧ a = 0 ∧ b = 0 ∧ rem = L.tail) ∨ (k = 1 ∧ b = 0 ∧ powW 120 L.tail = some (a, rem)) ∨ (k = 2 ∧ ∃ r1, powW 120 L.tail = some (a, r1) ∧ powW 121 r1 = some (b, rem))
def chR (k : Nat) : UInt8 := if k = 0 then 120 else 121
theorem StR.step {L : List (List UInt8)} {k a b v : Nat} {rem rem' : List (List UInt8)} (h : StR L k a b rem) (hk : k < 2) (hp : powW (chR k) rem = some (v, rem')) : StR L (k + 1) (if k = 0 then v else a) (if k = 0 then b else v) rem' := by
 rcases h with ⟨rfl, rfl, rfl, rfl⟩ | ⟨rfl, rfl, h⟩ | ⟨rfl, -⟩
 · exact .inr (.inl ⟨rfl, rfl, hp⟩)
 · exact .inr (.inr ⟨rfl, rem, h, hp⟩)
 · omega
theorem StR.zero {L : List (List UInt8)} {k a b : Nat} {rem : List (List UInt8)} (h : StR L k a b rem) (hk : k < 2) : (if k = 0 then 0 else a) = a ∧ (if k = 0 then b else 0) = b := by
 rcases h with ⟨rfl, rfl, rfl, rfl⟩ | ⟨rfl, rfl, h⟩ | ⟨rfl, -⟩
 · exact ⟨rfl, rfl⟩
 · exact ⟨rfl, rfl⟩
 · omega
theorem StR.bad {t : List UInt8} {k a b : Nat} {rem : List (List UInt8)} (h : StR (partsA 32 [] t) k a b rem) (hk : k < 2) (hp : powW (chR k) rem = none) : readT t = none := by
 unfold readT
 split
 · rcases h with ⟨rfl, rfl, rfl, rfl⟩ | ⟨rfl, rfl, h⟩ | ⟨rfl, -⟩
   · rw [show powW 120 (partsA 32 [] t).tail = none from hp]
   · rw [h]
     show (match powW 121 rem with | none => none | some (b, l) => _) = none
     rw [show powW 121 rem = none from hp]
   · omega
 · rfl
theorem StR.done {t : List UInt8} {a b : Nat} {rem : List (List UInt8)} (h : StR (partsA 32 [] t) 2 a b rem) (hn : numS ((partsA 32 [] t).head?.getD []) = true) : readT t = if rem = [] then some ((a, b), dval 0 ((partsA 32 [] t).head?.getD [])) else none := by
 rcases h with ⟨h, -⟩ | ⟨h, -⟩ | ⟨-, r1, h1, h2⟩
 · omega
 · omega
 · unfold readT
   rw [if_pos hn, h1]
   show (match powW 121 r1 with | none => none | some (b, l) => _) = _
   rw [h2]
theorem readT_nonum {t : List UInt8} (hn : numS ((partsA 32 [] t).head?.getD []) = false) : readT t = none := by
 unfold readT
 rw [hn]
 rfl
end Go.Pal
