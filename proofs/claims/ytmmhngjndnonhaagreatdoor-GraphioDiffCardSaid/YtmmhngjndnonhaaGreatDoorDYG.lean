/-
  The walk of the statement GraphioDiff.
-/
import Derived.Test.YtmmhngjndnonhaaGreatDoorDYE
import Derived.Test.YtmmhngjndnonhaaGreatDoorDYH
import Derived.Test.YtmmhngjndnonhaaGreatDoorDVF
import Derived.Test.YtmmhngjndnonhaaGreatDoorDVd
import Derived.Test.YtmmhngjndnonhaaGreatDoorDPG
set_option linter.unusedSimpArgs false
set_option linter.unusedVariables false
namespace Go.Proofs.YtmmhngjndnonhaaGreatDoor
open Go Go.RowKit Go.Pal
attribute [local go_sem] Oper.semAt_some

set_option maxRecDepth 10000 in
set_option maxHeartbeats 16000000 in
theorem dfLaw_any (es : List Ed) (hes : ∀ e ∈ es, e.Wf) (fs : List Ed) (hfs : ∀ e ∈ fs, e.Wf) (vl vm : Value) (w : World) (hl : Rd edC 5 w.heap.size w vl es) (hc : ∃ a n c, vl = .slice a n c ∧ n ≤ c ∧ c ≤ 9223372036854775807) (hm : Rd edC 5 w.heap.size w vm fs) (hd : ∃ a n c, vm = .slice a n c ∧ n ≤ c ∧ c ≤ 9223372036854775807) (hT : Tab3 w) :
    Calls Tryz.prog 3 #[vl, vm] w fun e w' => e = .returned (.bool true) ∧ Below w.heap.size w w' := by
  have HFe := Lib.hid (few_any es hes vl w hl hc)
  have HFf := Lib.hid fun W (hW : Below w.heap.size w W) => few_any fs hfs vm W ((hm.below hW (Nat.le_refl _)).mono hW.size) hd
  have hGk := fewG_ok hes
  have hHk := fewG_ok hfs
  obtain ⟨G, hG⟩ : ∃ G, G = fewG es := ⟨_, rfl⟩
  obtain ⟨H, hH⟩ : ∃ G, G = fewG fs := ⟨_, rfl⟩
  rw [← hG] at HFe hGk
  rw [← hH] at HFf hHk
  have HG := Lib.hid hGk
  have HH := Lib.hid hHk
  have HK := Lib.hid fun W (h : Below w.heap.size w W) => known06_any W (hT.on h)
  obtain ⟨D, hD⟩ : ∃ D, D = diffL G H := ⟨_, rfl⟩
  obtain ⟨E, hE⟩ : ∃ D, D = diffL Gr.none H := ⟨_, rfl⟩
  have hrD := diff_runs hGk hHk
  have hrE := diff_runs gr_none_ok hHk
  rw [← hD] at hrD
  rw [← hE] at hrE
  have HRD := Lib.hid hrD
  have HRE := Lib.hid hrE
  have HD := Lib.hid hD
  have HE := Lib.hid hE
  have hDl : D.length ≤ 100000 := by
    rw [hD, diffL_flat]
    have := hGk.len
    have := hGk.most
    have := hHk.len
    have := hHk.most
    have a1 := flatMap_le (f := dA H) (b := 1) (l := G.V) (dA_len H)
    have a2 := flatMap_le (f := dB H) (b := 1) (l := G.E) (dB_len H)
    have a3 := flatMap_le (f := dC G) (b := 1) (l := H.V) (dC_len G)
    have a4 := flatMap_le (f := dD G) (b := 2) (l := H.V) (dD_len G)
    have a5 := flatMap_le (f := dE G) (b := 2) (l := H.E) (dE_len G)
    simp only [List.length_append]
    omega
  have hEl : E.length ≤ 100000 := by
    rw [hE, diffL_flat]
    have := hHk.len
    have := hHk.most
    have a1 := flatMap_le (f := dA H) (b := 1) (l := Gr.none.V) (dA_len H)
    have a2 := flatMap_le (f := dB H) (b := 1) (l := Gr.none.E) (dB_len H)
    have a3 := flatMap_le (f := dC Gr.none) (b := 1) (l := H.V) (dC_len Gr.none)
    have a4 := flatMap_le (f := dD Gr.none) (b := 2) (l := H.V) (dD_len Gr.none)
    have a5 := flatMap_le (f := dE Gr.none) (b := 2) (l := H.E) (dE_len Gr.none)
    have z1 : Gr.none.V.length = 0 := rfl
    have z2 : Gr.none.E.length = 0 := rfl
    simp only [List.length_append]
    omega
  have h0l : (diffL G G).length = 0 := by rw [diff_self hGk]; rfl
  have H0L := Lib.hid h0l
  obtain ⟨al, nl, cl, rfl, -, -⟩ := hc
  obtain ⟨am, nm, cm, rfl, -, -⟩ := hd
  obtain ⟨few1, hfew1⟩ : ∃ few, few = decide (es.length ≤ 40) := ⟨_, rfl⟩
  obtain ⟨few2, hfew2⟩ : ∃ few, few = decide (fs.length ≤ 40) := ⟨_, rfl⟩
  rw [← hfew1] at HFe
  rw [← hfew2] at HFf
  clear hl hm hes hfs hT hG hGk hH hHk hfew1 hfew2 hD hE hrD hrE h0l
  go_enter Tryz.func3, Tryz.ntmps3
  go_wp2_with fail
  refine HFe.out.mono ?_
  rintro r w1 ⟨g, bV, bE, vV, vE, rfl, hG1, hRG, -, hb1⟩
  have HG1 := Lib.hid hG1
  have HB1 := Lib.hid hb1
  have HRG := Lib.hid hRG
  obtain ⟨aV, cV, hvV⟩ := hRG.1.sl
  obtain ⟨aE, cE, hvE⟩ := hRG.2.sl
  subst hvV hvE
  obtain ⟨LV, hLV⟩ : ∃ n, n = G.V.length := ⟨_, rfl⟩
  obtain ⟨LE, hLE⟩ : ∃ n, n = G.E.length := ⟨_, rfl⟩
  rw [← hLV, ← hLE] at HRG ⊢
  clear hG1 hRG hb1 HFe hLV hLE
  go_wp2_with fail
  generalize hW1 : World.alloc w1 _ = W1
  obtain ⟨hra, hba⟩ := alloc_row hW1
  have hsa := row?_lt hra
  have HRA := Lib.hid hra
  have HBA := Lib.hid hba
  clear hW1 hra hba
  refine (HFf.out W1 (HB1.out.trans (HBA.out.mono HB1.out.size))).mono ?_
  rintro r w2 ⟨h, bVh, bEh, vV2, vE2, rfl, hH2, hRH, -, hb2⟩
  have HH2 := Lib.hid hH2
  have HB2 := Lib.hid hb2
  have HRH := Lib.hid hRH
  obtain ⟨aV2, cV2, hvV⟩ := hRH.1.sl
  obtain ⟨aE2, cE2, hvE⟩ := hRH.2.sl
  subst hvV hvE
  obtain ⟨MV, hMV⟩ : ∃ n, n = H.V.length := ⟨_, rfl⟩
  obtain ⟨ME, hME⟩ : ∃ n, n = H.E.length := ⟨_, rfl⟩
  rw [← hMV, ← hME] at HRH ⊢
  clear hH2 hRH hb2 HFf hMV hME
  go_wp2_with fail
  generalize hW2 : World.alloc w2 _ = W2
  obtain ⟨hrb, hbb⟩ := alloc_row hW2
  have hsb := row?_lt hrb
  have HB12 := Lib.hid (HBA.out.trans (HB2.out.mono HBA.out.size))
  have hs12 := HB2.out.size
  have HW2 := Lib.hid (HB1.out.trans ((HB12.out.trans (hbb.mono HB12.out.size)).mono HB1.out.size))
  have hsW := hbb.size
  refine (HK.out W2 HW2.out).mono ?_
  rintro r w3 ⟨rfl, hb3⟩
  have hs3 := hb3.size
  have hb23 : Below w2.heap.size w2 w3 := hbb.trans (hb3.mono hsW)
  have HB3 := Lib.hid (HW2.out.trans (hb3.mono HW2.out.size))
  have HG3 := Lib.hid (HG1.out.below (HB12.out.trans (hb23.mono HB12.out.size)))
  have HRG3 := Lib.hid (HRG.out.below (HB12.out.trans (hb23.mono HB12.out.size)))
  have HH3 := Lib.hid (HH2.out.below hb23)
  have HRH3 := Lib.hid (HRH.out.below hb23)
  have HRab := Lib.hid fun W (hW : Below w3.heap.size w3 W) => show row? W w1.heap.size = some #[.slice aV LV cV, .slice aE LE cE] ∧ row? W w2.heap.size = some #[.slice aV2 MV cV2, .slice aE2 ME cE2] from
    ⟨(row?_below (HB2.out.trans ((hb23.trans (hW.mono hb23.size)).mono HB2.out.size)) hsa).trans HRA.out, (row?_below (hb3.trans (hW.mono hb3.size)) hsb).trans hrb⟩
  have hl1 : w1.heap.size < w3.heap.size := by omega
  have hl2 : w2.heap.size < w3.heap.size := by omega
  clear hW2 hrb hbb hb3 hb23 HW2 HB12 HRA HBA HG1 HRG HH2 HRH HB1 HB2
  have hkn : ∀ (few1 few2 : Bool), (few1 && few2) = false ∨ (few1 = true ∧ few2 = true) := by decide
  rcases hkn few1 few2 with hff | ⟨rfl, rfl⟩
  · clear hkn
    cases few1 <;> cases few2 <;> first | (exact absurd hff (by decide)) | skip
    all_goals
      go_wp2_with fail
      refine (HK.out _ HB3.out).mono ?_
      rintro r w4 ⟨rfl, hb4⟩
      have HB4 := Lib.hid (HB3.out.trans (hb4.mono HB3.out.size))
      clear hb4
      go_wp2_with fail
      go_ret
      exact ⟨rfl, HB4.out⟩
  clear hkn
  go_wp2_with fail
  refine wp_region_mix (fun W => Below w3.heap.size w3 W) 7 [(0, true), (1, true), (3, true), (4, true), (2, false), (5, false), (6, true)] (by kernel_rfl) (by kernel_rfl) (Below.refl _ _).drew ?_
  repeat (apply wpPlan_still rfl rfl; (intro w hw; obtain ⟨k1, k2⟩ := HRab.out _ hw; clear hw; go_simp; (try go_ints); (first | with_reducible rfl | (go_simp; with_reducible rfl))); (intro K hK; go_simp; (try go_ints); refine hK _ _ ?_; clear hK K))
  apply wpPlan_act rfl rfl
  intro K hK
  unfold Oper.wp
  go_simp
  refine (diff_any (.pointer (some ⟨g, 0, none⟩)) (.pointer (some ⟨h, 0, none⟩)) G H HG.out HH.out w3.drew (.of (HG3.out.below (Below.refl _ _).drew)) (.of (HH3.out.below (Below.refl _ _).drew)) (.inr ⟨h, bVh, bEh, rfl, HH3.out.below (Below.refl _ _).drew⟩)).mono ?_
  rintro r w4 ⟨vx, rfl, hOx, hb4⟩
  have HB4 := Lib.hid (show Below w3.heap.size w3 w4 from (Below.refl _ w3).drew.trans hb4)
  rw [← HD.out] at hOx
  obtain ⟨qx, cx, rfl⟩ := hOx.sl
  have HOx := Lib.hid hOx
  refine hK _ _ HB4.out ?_
  clear hK K hOx hb4
  apply wpPlan_act rfl rfl
  intro K hK
  unfold Oper.wp
  go_simp
  refine (rsteps_any G H HG.out HH.out _ _ _ _ w4 (HRG3.out.below HB4.out) (HRH3.out.below HB4.out)).mono ?_
  rintro r w5 ⟨vy, rfl, hOy, hb5⟩
  rw [← HD.out] at hOy
  obtain ⟨qy, cy, rfl⟩ := hOy.sl
  have HB5 := Lib.hid (HB4.out.trans (hb5.mono HB4.out.size))
  have HRx := Lib.hid ((HOx.out.below hb5 (Nat.le_refl _)).rd elED)
  have HRy := Lib.hid (hOy.rd elRD)
  refine hK _ _ HB5.out ?_
  clear hK K hOy hb5 HOx HB4
  repeat (apply wpPlan_still rfl rfl; (intro w hw; clear hw; go_simp; (try go_ints); (first | with_reducible rfl | (go_simp; with_reducible rfl))); (intro K hK; go_simp; (try go_ints); refine hK _ _ ?_; clear hK K))
  refine wpPlan_nil ?_
  simp only [List.drop_succ_cons, List.drop_zero]
  obtain ⟨n, hn⟩ : ∃ n, n = D.length := ⟨_, rfl⟩
  have HN := Lib.hid hn
  rw [← hn] at HRx HRy hDl ⊢
  clear hn
  go_wp2_with fail
  -- the difference of a graph and itself
  refine (diff_any (.pointer (some ⟨g, 0, none⟩)) (.pointer (some ⟨g, 0, none⟩)) G G HG.out HG.out w5 (.of (HG3.out.below HB5.out)) (.of (HG3.out.below HB5.out)) (.inr ⟨g, bV, bE, rfl, HG3.out.below HB5.out⟩)).mono ?_
  rintro r w6 ⟨v6, rfl, hO6, hb6⟩
  obtain ⟨q6, c6, rfl⟩ := hO6.sl
  have HB56 := Lib.hid hb6
  rw [H0L.out]
  clear hO6 hb6
  go_wp2_with fail
  refine (diff_any (.pointer none) (.pointer none) Gr.none Gr.none gr_none_ok gr_none_ok w6 (.inl ⟨rfl, rfl⟩) (.inl ⟨rfl, rfl⟩) (.inl rfl)).mono ?_
  rintro r w7 ⟨v7, rfl, hO7, hb7⟩
  obtain ⟨q7, c7, rfl⟩ := hO7.sl
  have hb57 := HB56.out.trans (hb7.mono HB56.out.size)
  rw [show (diffL Gr.none Gr.none).length = 0 from rfl]
  have HB7 := Lib.hid (HB5.out.trans (hb57.mono HB5.out.size))
  have HRx7 := Lib.hid ((HRx.out.below hb57 (Nat.le_refl _)).mono hb57.size)
  have HRy7 := Lib.hid ((HRy.out.below hb57 (Nat.le_refl _)).mono hb57.size)
  clear hO7 hb7 hb57 HRx HRy HB56 HB5
  go_wp2_with fail
  refine (gclone_any g bV bE G w7 (HG3.out.below HB7.out)).mono ?_
  rintro r w8 ⟨go, bVo, bEo, rfl, hGo, ⟨ho1, ho2, ho3⟩, hb8⟩
  have HGo := Lib.hid hGo
  have HB8 := Lib.hid hb8
  clear hGo hb8
  go_wp2_with fail
  go_loopw [14] (fun i wr => ∃ k : Nat, k ≤ n ∧ i = .int .i64 (k : Int) ∧ GOk wr go bVo bEo ((D.take k).foldl Gr.app G) ∧ Below w7.heap.size w7 wr) (fun i _ => n - (intOf i).toNat)
  case atStart => exact ⟨0, by omega, rfl, HGo.out, HB8.out⟩
  case round =>
    obtain ⟨k, hk, rfl, hGk, hb⟩ := hrel
    have HGk := Lib.hid hGk
    have HB := Lib.hid hb
    have hsz := hb.size
    clear hGk hb
    by_cases hlt : k < n
    · obtain ⟨b, off, c', e, h1, hbb, hx, hc⟩ := HRx7.out.at (by rw [← HN.out]; exact hlt)
      simp only [Value.slice.injEq] at h1
      obtain ⟨rfl, -, rfl⟩ := h1
      obtain ⟨b2, off2, c2, e', h2, hbb2, hx', hc2⟩ := HRy7.out.at (by rw [← HN.out]; exact hlt)
      rw [hx] at hx'
      cases hx'
      simp only [Value.slice.injEq] at h2
      obtain ⟨rfl, -, rfl⟩ := h2
      obtain ⟨hA, hwf, hwr⟩ := HRD.out.at hx
      have hst : (D.take (k + 1)).foldl Gr.app G = ((D.take k).foldl Gr.app G).app e := by rw [take_snoc hx, List.foldl_append]; rfl
      have HST := Lib.hid hst
      have HAp := Lib.hid fun W (hW : GOk W go bVo bEo ((D.take k).foldl Gr.app G)) => gapplyW_any e hwf go bVo bEo _ hA W hW hwr
      obtain ⟨A, hAd⟩ : ∃ A, A = (D.take k).foldl Gr.app G := ⟨_, rfl⟩
      rw [← hAd] at HGk HST HAp
      have HDc := Lib.hid fun W => d06_any e W
      obtain ⟨eo, eu, ev, el, et⟩ := e
      rw [show edC ⟨eo, eu, ev, el, et⟩ = #[.int .i64 eo, .int .i64 eu, .int .i64 ev, .int .u8 (el : Int), .int .i64 et] from rfl] at HAp HDc
      have HL := Lib.hid fun W (hW : Below w7.heap.size w7 W) => show rowLoad Tryz.prog 38 ⟨b, off + k * 5, none⟩ W = .ok (.agg #[.int .i64 eo, .int .i64 eu, .int .i64 ev, .int .u8 (el : Int), .int .i64 et]) W ∧ rowLoad Tryz.prog 36 ⟨b2, off2 + k * 5, none⟩ W = .ok (.agg #[.int .i64 eo, .int .i64 eu, .int .i64 ev, .int .u8 (el : Int), .int .i64 et]) W from
        ⟨load_cells Tryz.isAgg38 Tryz.sizeOf38 W b _ _ rfl fun j u hu => hc W hW j u hu, load_cells Tryz.isAgg36 Tryz.sizeOf36 W b2 _ _ rfl fun j u hu => hc2 W hW j u hu⟩
      have hgR := guardRD
      have heR := eqRD
      clear hx hc hc2 hA hwf hwr hst hAd
      go_wp2_with fail
      refine wp_region_mix (fun W => Below w7.heap.size w7 W) 18 [(0, true), (1, true), (2, true), (3, true), (5, true), (6, true), (7, true), (8, true), (4, false), (9, true), (10, true), (11, true), (12, true), (13, true), (14, true), (15, true), (16, false), (17, true)] (by kernel_rfl) (by kernel_rfl) HB.out.drew ?_
      repeat (first | (apply wpPlan_still rfl rfl; (intro w hw; obtain ⟨k1, k2⟩ := HL.out _ hw; clear hw; go_simp; (try go_ints); (first | with_reducible rfl | (go_simp; with_reducible rfl))); (intro K hK; go_simp; (try go_ints); refine hK _ _ ?_; clear hK K)) | (apply wpPlan_stillG rfl rfl; (intro w hw; obtain ⟨k1, k2⟩ := HL.out _ hw; clear hw; go_simp; (try go_ints); (first | with_reducible rfl | (go_simp; with_reducible rfl))); (intro K hK; go_simp; (try go_ints); refine hK _ _ ?_; clear hK K)))
      apply wpPlan_actG (by simp only [List.getElem?_toArray, List.getElem?_cons_succ, List.getElem?_cons_zero]; rfl) (by rfl)
      intro K hK
      unfold Oper.wp
      go_simp
      refine (HDc.out _).mono ?_
      rintro r w9 ⟨rfl, hb9⟩
      have hb9' : Below wr.heap.size wr w9 := (Below.refl _ wr).drew.trans hb9
      have HB9 := Lib.hid (HB.out.trans (hb9'.mono hsz))
      have HG9 := Lib.hid (HGk.out.below hb9')
      have hs9 := hb9'.size
      refine hK _ _ HB9.out ?_
      clear hK K hb9 hb9'
      repeat (first | (apply wpPlan_still rfl rfl; (intro w hw; obtain ⟨k1, k2⟩ := HL.out _ hw; clear hw; go_simp; (try go_ints); (first | with_reducible rfl | (go_simp; with_reducible rfl))); (intro K hK; go_simp; (try go_ints); refine hK _ _ ?_; clear hK K)) | (apply wpPlan_stillG rfl rfl; (intro w hw; obtain ⟨k1, k2⟩ := HL.out _ hw; clear hw; go_simp; (try go_ints); (first | with_reducible rfl | (go_simp; with_reducible rfl))); (intro K hK; go_simp; (try go_ints); refine hK _ _ ?_; clear hK K)))
      apply wpPlan_actG (by simp only [List.getElem?_toArray, List.getElem?_cons_succ, List.getElem?_cons_zero]; rfl) (by rfl)
      intro K hK
      unfold Oper.wp
      go_simp
      refine (HAp.out _ HG9.out).mono ?_
      rintro r w10 ⟨rfl, hd10⟩
      have HB10 := Lib.hid (HB9.out.trans (hd10.2.below (B := w7.heap.size) (by omega) fun j hj => ⟨by omega, by omega⟩))
      have HG10 := Lib.hid hd10.1
      refine hK _ _ HB10.out ?_
      clear hK K hd10
      repeat (first | (apply wpPlan_still rfl rfl; (intro w hw; clear hw; go_simp; (try go_ints); (first | with_reducible rfl | (go_simp; with_reducible rfl))); (intro K hK; go_simp; (try go_ints); refine hK _ _ ?_; clear hK K)) | (apply wpPlan_stillG rfl rfl; (intro w hw; clear hw; go_simp; (try go_ints); (first | with_reducible rfl | (go_simp; with_reducible rfl))); (intro K hK; go_simp; (try go_ints); refine hK _ _ ?_; clear hK K)))
      refine wpPlan_nil ?_
      simp only [List.drop_succ_cons, List.drop_zero]
      go_wp2_with fail
      go_roundw
      case rel => exact ⟨k + 1, by omega, by go_num, by rw [HST.out]; exact HG10.out, HB10.out⟩
      case measure => simp [intOf]; omega
    · have hkn : n = k := by omega
      subst hkn
      have HGH : Hid (GOk wr go bVo bEo H) := Lib.hid (by have := HGk.out; rwa [HN.out, HRD.out.allTake] at this)
      have HBx := HB
      obtain ⟨w11, rfl⟩ : ∃ W : World, W = wr := ⟨_, rfl⟩
      have HB11 := Lib.hid (HB7.out.trans (HB.out.mono HB7.out.size))
      clear HGk HB hlt hk
      go_wp2_with fail
      refine (gnew_ok w11).mono ?_
      rintro r w12 ⟨gn, bVn, bEn, rfl, hGn, hn1, hn2, hn3, hb12⟩
      have hs12 := hb12.size
      have HGn := Lib.hid hGn
      have HB12 := Lib.hid hb12
      have HB12' := Lib.hid (HB11.out.trans (hb12.mono HB11.out.size))
      have hgn := hGn.lt
      have hgg := hGn.gne
      clear hGn hb12
      go_wp2_with fail
      refine (diff_any (.pointer none) (.pointer (some ⟨h, 0, none⟩)) Gr.none H gr_none_ok HH.out w12 (.inl ⟨rfl, rfl⟩) (.of (HH3.out.below HB12'.out)) (.inl rfl)).mono ?_
      rintro r w13 ⟨vz, rfl, hOz, hb13⟩
      rw [← HE.out] at hOz
      obtain ⟨qz, cz, rfl⟩ := hOz.sl
      have hs13 := hb13.size
      have HRz := Lib.hid (hOz.rd elED)
      have hqz : ∀ a, qz = some a → w12.heap.size ≤ a.block := fun a ha => hOz.block a.block (by rw [ha]; rfl)
      have HQz := Lib.hid hqz
      have HGn13 := Lib.hid (HGn.out.below hb13)
      have HB13 := Lib.hid (HB12.out.trans (hb13.mono hs12))
      obtain ⟨m, hm⟩ : ∃ n, n = E.length := ⟨_, rfl⟩
      have HM := Lib.hid hm
      rw [← hm] at HRz hEl ⊢
      clear hOz hb13 hqz hm HGn HB12
      go_wp2_with fail
      go_loopw [95] (fun i wr => ∃ k : Nat, k ≤ m ∧ i = .int .i64 (k : Int) ∧ GOk wr gn bVn bEn ((E.take k).foldl Gr.app Gr.none) ∧ Same (fun j => j < w13.heap.size ∧ j ≠ bVn ∧ j ≠ bEn) w13 wr) (fun i _ => m - (intOf i).toNat)
      case atStart => exact ⟨0, by omega, rfl, HGn13.out, Same.refl _ _⟩
      case round =>
        obtain ⟨k, hk, rfl, hGk, hS⟩ := hrel
        have HGk := Lib.hid hGk
        have HS := Lib.hid hS
        have hsz := hS.size
        clear hGk hS
        by_cases hlt : k < m
        · obtain ⟨b, off, c', e, h1, hbb, hx, hc⟩ := HRz.out.at (by rw [← HM.out]; exact hlt)
          simp only [Value.slice.injEq] at h1
          obtain ⟨rfl, -, rfl⟩ := h1
          have hbq := HQz.out ⟨b, off, none⟩ rfl
          simp only at hbq
          have hbw := HS.out.block b hbb ⟨hbb, by omega, by omega⟩
          obtain ⟨hA, hwf, hwr⟩ := HRE.out.at hx
          have hst : (E.take (k + 1)).foldl Gr.app Gr.none = ((E.take k).foldl Gr.app Gr.none).app e := by rw [take_snoc hx, List.foldl_append]; rfl
          have HST := Lib.hid hst
          have HAp := Lib.hid fun W (hW : GOk W gn bVn bEn ((E.take k).foldl Gr.app Gr.none)) => gapplyW_any e hwf gn bVn bEn _ hA W hW hwr
          obtain ⟨A, hAd⟩ : ∃ A, A = (E.take k).foldl Gr.app Gr.none := ⟨_, rfl⟩
          rw [← hAd] at HGk HST HAp
          obtain ⟨eo, eu, ev, el, et⟩ := e
          rw [show edC ⟨eo, eu, ev, el, et⟩ = #[.int .i64 eo, .int .i64 eu, .int .i64 ev, .int .u8 (el : Int), .int .i64 et] from rfl] at HAp
          have jl : rowLoad Tryz.prog 38 ⟨b, off + k * 5, none⟩ wr = .ok (.agg #[.int .i64 eo, .int .i64 eu, .int .i64 ev, .int .u8 (el : Int), .int .i64 et]) wr := load_cells Tryz.isAgg38 Tryz.sizeOf38 wr b _ _ rfl fun j u hu => (World.cell?_of_block hbw).trans (hc w13 (Below.refl _ _) j u hu)
          have hrt : row? (wr.alloc (.cells #[.int .i64 eo, .int .i64 eu, .int .i64 ev, .int .u8 (el : Int), .int .i64 et] 38)) wr.heap.size = some #[.int .i64 eo, .int .i64 eu, .int .i64 ev, .int .u8 (el : Int), .int .i64 et] := row?_alloc_at _ _ _ _ rfl
          clear hx hc hA hwf hwr hst hAd hbw hbq
          go_wp2_with fail
          refine (HAp.out _ (HGk.out.below ((Below.refl _ wr).alloc (Nat.le_refl _) _))).mono ?_
          rintro r w14 ⟨rfl, hd14⟩
          have HG14 := Lib.hid hd14.1
          have HS14 := Lib.hid ((HS.out.trans ((Same.of_below ((Below.refl _ wr).alloc (Nat.le_refl _) (.cells #[.int .i64 eo, .int .i64 eu, .int .i64 ev, .int .u8 (el : Int), .int .i64 et] 38))).mono fun j hj h => by omega)).trans (hd14.2.mono fun j _ h => h.2))
          clear jl hrt hd14
          go_wp2_with fail
          go_roundw
          case rel => exact ⟨k + 1, by omega, by go_num, by rw [HST.out]; exact HG14.out, HS14.out⟩
          case measure => simp [intOf]; omega
        · have hkn : m = k := by omega
          subst hkn
          have HGnH : Hid (GOk wr gn bVn bEn H) := Lib.hid (by have := HGk.out; rwa [HM.out, HRE.out.allTake] at this)
          obtain ⟨w14, rfl⟩ : ∃ W : World, W = wr := ⟨_, rfl⟩
          have HB14 := Lib.hid (HB13.out.trans (HS.out.below (B := w11.heap.size) (by omega) fun j hj => ⟨by omega, by omega, by omega⟩))
          have HB314 := Lib.hid (HB11.out.trans (HB14.out.mono HB11.out.size))
          have HGoH := Lib.hid (HGH.out.below HB14.out)
          have HGg := Lib.hid (HG3.out.below HB314.out)
          have HHh := Lib.hid (HH3.out.below HB314.out)
          have HRGa := Lib.hid (HRG3.out.below HB314.out)
          have HRa := Lib.hid fun W (hW : Below w14.heap.size w14 W) => (HRab.out W (HB314.out.trans (hW.mono HB314.out.size))).1
          clear HGk HS
          go_wp2_with fail
          refine wp_region_mix (fun W => Below w14.heap.size w14 W) 14 [(0, true), (1, true), (2, false), (3, true), (4, true), (5, true), (6, false), (7, true), (8, true), (9, true), (11, true), (10, false), (12, false), (13, true)] (by kernel_rfl) (by kernel_rfl) (Below.refl _ _).drew ?_
          repeat (first | (apply wpPlan_still rfl rfl; (intro w hw; clear hw; go_simp; (try go_ints); (first | with_reducible rfl | (go_simp; with_reducible rfl))); (intro K hK; go_simp; (try go_ints); refine hK _ _ ?_; clear hK K)) | (apply wpPlan_stillG rfl rfl; (intro w hw; clear hw; go_simp; (try go_ints); (first | with_reducible rfl | (go_simp; with_reducible rfl))); (intro K hK; go_simp; (try go_ints); refine hK _ _ ?_; clear hK K)))
          apply wpPlan_actG (by simp only [List.getElem?_toArray, List.getElem?_cons_succ, List.getElem?_cons_zero]; rfl) (by rfl)
          intro K hK
          unfold Oper.wp
          go_simp
          refine (gequal_any go bVo bEo h bVh bEh H _ (HGoH.out.below (Below.refl _ _).drew) (HHh.out.below (Below.refl _ _).drew)).mono ?_
          rintro r w15 ⟨rfl, hb15⟩
          have HB15 := Lib.hid (show Below w14.heap.size w14 w15 from (Below.refl _ w14).drew.trans hb15)
          refine hK _ _ HB15.out ?_
          clear hK K hb15
          repeat (first | (apply wpPlan_still rfl rfl; (intro w hw; clear hw; go_simp; (try go_ints); (first | with_reducible rfl | (go_simp; with_reducible rfl))); (intro K hK; go_simp; (try go_ints); refine hK _ _ ?_; clear hK K)) | (apply wpPlan_stillG rfl rfl; (intro w hw; clear hw; go_simp; (try go_ints); (first | with_reducible rfl | (go_simp; with_reducible rfl))); (intro K hK; go_simp; (try go_ints); refine hK _ _ ?_; clear hK K)))
          apply wpPlan_actG (by simp only [List.getElem?_toArray, List.getElem?_cons_succ, List.getElem?_cons_zero]; rfl) (by rfl)
          intro K hK
          unfold Oper.wp
          go_simp
          refine (gequal_any gn bVn bEn h bVh bEh H _ (HGnH.out.below HB15.out) (HHh.out.below HB15.out)).mono ?_
          rintro r w16 ⟨rfl, hb16⟩
          have HB16 := Lib.hid (HB15.out.trans (hb16.mono HB15.out.size))
          refine hK _ _ HB16.out ?_
          clear hK K hb16
          repeat (first | (apply wpPlan_still rfl rfl; (intro w hw; have k1 := HRa.out _ hw; clear hw; go_simp; (try go_ints); (first | with_reducible rfl | (go_simp; with_reducible rfl))); (intro K hK; go_simp; (try go_ints); refine hK _ _ ?_; clear hK K)) | (apply wpPlan_stillG rfl rfl; (intro w hw; have k1 := HRa.out _ hw; clear hw; go_simp; (try go_ints); (first | with_reducible rfl | (go_simp; with_reducible rfl))); (intro K hK; go_simp; (try go_ints); refine hK _ _ ?_; clear hK K)))
          apply wpPlan_actG (by simp only [List.getElem?_toArray, List.getElem?_cons_succ, List.getElem?_cons_zero]; rfl) (by rfl)
          intro K hK
          unfold Oper.wp
          go_simp
          refine (to_any g bV bE G HG.out _ (HGg.out.below HB16.out)).mono ?_
          rintro r w17 ⟨vVt, vEt, rfl, hRt, hb17⟩
          have HB17 := Lib.hid (HB16.out.trans (hb17.mono HB16.out.size))
          have HRt := Lib.hid hRt
          refine hK _ _ HB17.out ?_
          clear hK K hb17 hRt
          repeat (first | (apply wpPlan_still rfl rfl; (intro w hw; clear hw; go_simp; (try go_ints); (first | with_reducible rfl | (go_simp; with_reducible rfl))); (intro K hK; go_simp; (try go_ints); refine hK _ _ ?_; clear hK K)) | (apply wpPlan_stillG rfl rfl; (intro w hw; clear hw; go_simp; (try go_ints); (first | with_reducible rfl | (go_simp; with_reducible rfl))); (intro K hK; go_simp; (try go_ints); refine hK _ _ ?_; clear hK K)))
          apply wpPlan_actG (by simp only [List.getElem?_toArray, List.getElem?_cons_succ, List.getElem?_cons_zero]; rfl) (by rfl)
          intro K hK
          unfold Oper.wp
          go_simp
          refine (rsame_any G HG.out _ _ _ _ w17 HRt.out (HRGa.out.below HB17.out)).mono ?_
          rintro r w18 ⟨rfl, hb18⟩
          have HB18 := Lib.hid (HB17.out.trans (hb18.mono HB17.out.size))
          refine hK _ _ HB18.out ?_
          clear hK K hb18
          repeat (first | (apply wpPlan_still rfl rfl; (intro w hw; clear hw; go_simp; (try go_ints); (first | with_reducible rfl | (go_simp; with_reducible rfl))); (intro K hK; go_simp; (try go_ints); refine hK _ _ ?_; clear hK K)) | (apply wpPlan_stillG rfl rfl; (intro w hw; clear hw; go_simp; (try go_ints); (first | with_reducible rfl | (go_simp; with_reducible rfl))); (intro K hK; go_simp; (try go_ints); refine hK _ _ ?_; clear hK K)))
          refine wpPlan_nil ?_
          simp only [List.drop_succ_cons, List.drop_zero]
          go_wp2_with fail
          go_ret
          exact ⟨rfl, HB3.out.trans ((HB314.out.trans (HB18.out.mono HB314.out.size)).mono HB3.out.size)⟩
end Go.Proofs.YtmmhngjndnonhaaGreatDoor
