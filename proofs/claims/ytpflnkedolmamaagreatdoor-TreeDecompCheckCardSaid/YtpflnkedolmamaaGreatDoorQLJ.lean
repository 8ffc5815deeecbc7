/-
  The walk of the statement TreeDecompCheck.
-/
import Derived.Test.YtpflnkedolmamaaGreatDoorQLm
import Derived.Test.YtpflnkedolmamaaGreatDoorQJI
set_option linter.unusedSimpArgs false
set_option linter.unusedVariables false
namespace Go.Proofs.YtpflnkedolmamaaGreatDoor
open Go Go.RowKit Go.Pal
attribute [local go_sem] Oper.semAt_some

set_option maxRecDepth 10000 in
set_option maxHeartbeats 8000000 in
theorem tcLaw_any (T : List Bg) (hSet : ∀ x ∈ T, IsSet x.2) (hPr : ∀ x ∈ T, -9223372036854775808 ≤ x.1 ∧ x.1 ≤ 9223372036854775807) (es : List Ed) (hes : ∀ e ∈ es, e.Wf) (id : Int) (vt vl : Value) (w : World)
    (ht : Rd bagA 17 w.heap.size w vt T) (htl : T.length ≤ 9223372036854775807) (hl : Rd edC 5 w.heap.size w vl es) (hc : ∃ a n c, vl = .slice a n c ∧ n ≤ c ∧ c ≤ 9223372036854775807) (hT : Tab2 w) :
    Calls Tryz.prog 7 #[vt, vl, .int .i64 id] w fun e w' => e = .returned (.bool true) ∧ Below w.heap.size w w' := by
  have HT := Lib.hid hT
  have HBe := Lib.hid (begun_any es hes [] (by simp) vl (.slice none 0 0) w hl hc ⟨none, 0, rfl, .inl rfl⟩ (by simp))
  have HK := Lib.hid fun W (h : Below w.heap.size w W) => known26_any W (hT.on h)
  have hwf : ∀ e ∈ es.take 40, e.Wf := fun e he => hes e (List.mem_of_mem_take he)
  have hGk := madeTo_ok hwf (es.take 40).length
  have hGl := madeTo_len hwf (es.take 40).length
  have h40 : (es.take 40).length ≤ 40 := List.length_take_le _ _
  obtain ⟨G, hG⟩ : ∃ G, G = madeTo (es.take 40) (es.take 40).length := ⟨_, rfl⟩
  rw [← hG] at HBe hGk hGl
  have HG := Lib.hid hGk
  obtain ⟨al, nl, cl, rfl, -, -⟩ := hc
  have HV := Lib.hid ht
  have HSet := Lib.hid hSet
  have HPr := Lib.hid hPr
  obtain ⟨a, c, rfl⟩ := ht.sl
  obtain ⟨few, hfew⟩ : ∃ few, few = decide (es.length ≤ 40) := ⟨_, rfl⟩
  rw [← hfew] at HBe
  clear hl ht hes hT hwf hG hGk hfew hSet hPr
  go_enter Tryz.func7, Tryz.ntmps7
  go_wp2_with fail
  refine HBe.out.mono ?_
  rintro r w1 ⟨g, bV, bE, vV, vE, vo, o, rfl, hG1, hRG, ho, hp, hb1⟩
  have HG1 := Lib.hid hG1
  have HRG := Lib.hid hRG
  have HB1 := Lib.hid hb1
  obtain ⟨aV, cV, hvV⟩ := hRG.1.sl
  obtain ⟨aE, cE, hvE⟩ := hRG.2.sl
  subst hvV hvE
  obtain ⟨ao, co, rfl, -⟩ := ho
  clear hG1 hRG hp hb1 HBe
  go_wp2_with fail
  obtain ⟨W1, hW1⟩ : ∃ W1, W1 = w1.alloc (.cells #[.slice aV G.V.length cV, .slice aE G.E.length cE] 44) := ⟨_, rfl⟩
  have hba : Below w1.heap.size w1 W1 := by rw [hW1]; exact (Below.refl _ w1).alloc (Nat.le_refl _) _
  have hra : row? W1 w1.heap.size = some #[.slice aV G.V.length cV, .slice aE G.E.length cE] := by rw [hW1]; exact row?_alloc_at _ _ _ _ rfl
  have hsa : w1.heap.size < W1.heap.size := by rw [hW1]; simp
  rw [← hW1]
  clear hW1
  refine (HK.out _ (HB1.out.trans (hba.mono HB1.out.size))).mono ?_
  rintro r w2 ⟨rfl, hb2⟩
  have hc2 := hba.trans (hb2.mono (by omega))
  have HC2 := Lib.hid hc2
  have HB2 := Lib.hid (HB1.out.trans (hc2.mono HB1.out.size))
  have hr2 := (row?_below hb2 hsa).trans hra
  have hs12 := hc2.size
  have hsb := hb2.size
  have hw2 : w1.heap.size < w2.heap.size := by omega
  have HR2 := Lib.hid hr2
  clear hba hb2 hc2 hra hr2
  cases few with
  | false =>
    go_wp2_with fail
    refine (HK.out _ HB2.out).mono ?_
    rintro r w3 ⟨rfl, hb3⟩
    have HB3 := Lib.hid (HB2.out.trans (hb3.mono HB2.out.size))
    clear hb3
    go_wp2_with fail
    go_ret
    exact ⟨rfl, HB3.out⟩
  | true =>
    by_cases h30 : T.length ≤ 30
    · have hd30 : decide ((30 : Int) < (T.length : Int)) = false := by simp; omega
      have hd31 : decide (30 < T.length) = false := by simp; omega
      go_wp2_with fail
      refine (l26To_any T _ w2 ((HV.out.below HB2.out (Nat.le_refl _)).mono HB2.out.size) (by omega) HSet.out).mono ?_
      clear hd30 hd31
      rintro r w3 ⟨v3, rfl, hv3, hb3⟩
      have HB3 := Lib.hid (HB2.out.trans (hb3.mono HB2.out.size))
      have HC3 := Lib.hid (HC2.out.trans (hb3.mono HC2.out.size))
      have HX := Lib.hid hv3
      have hs3 := hb3.size
      have hw3 : w1.heap.size < w3.heap.size := by omega
      have HR3 := Lib.hid ((row?_below hb3 hw2).trans HR2.out)
      obtain ⟨a3, c3, rfl, -⟩ := hv3
      clear hb3
      go_wp2_with fail
      refine (rcheck_any T _ w3 HX.out (by omega) HPr.out).mono ?_
      rintro r w4 ⟨rfl, hb4⟩
      have HB4 := Lib.hid (HB3.out.trans (hb4.mono HB3.out.size))
      have HC4 := Lib.hid (HC3.out.trans (hb4.mono HC3.out.size))
      have HX4 := Lib.hid fun W (hw : Below w4.heap.size w4 W) => (HX.out.below hb4).below hw
      have hs4 := hb4.size
      have hw4 : w1.heap.size < w4.heap.size := by omega
      have HR4 := Lib.hid ((row?_below hb4 hw3).trans HR3.out)
      clear hb4
      have HVt := Lib.hid fun W (hw : Below w4.heap.size w4 W) => (HV.out.below (HB4.out.trans (hw.mono HB4.out.size)) (Nat.le_refl _)).mono (HB4.out.trans (hw.mono HB4.out.size)).size
      have HCk := Lib.hid fun W (hw : Below w4.heap.size w4 W) => tcheck_any T HSet.out (.slice a T.length c) W (HVt.out W hw) (by omega)
      have HCg := Lib.hid fun W (hw : Below w4.heap.size w4 W) => tcg_all T HSet.out g bV bE G HG.out (.slice a T.length c) W (HVt.out W hw) (by omega) (HG1.out.below (HC4.out.trans (hw.mono HC4.out.size)))
      have HFi := Lib.hid fun W (hw : Below w4.heap.size w4 W) => rfits_any G HG.out T HSet.out HPr.out (.slice a3 T.length c3) (.slice aV G.V.length cV) (.slice aE G.E.length cE) W (HX4.out W hw) (by omega) ((HRG.out.below (HC4.out.trans (hw.mono HC4.out.size))).1) ((HRG.out.below (HC4.out.trans (hw.mono HC4.out.size))).2) fun n W' hw' => rwhere_any T n (.slice a3 T.length c3) W' (HX4.out W' (hw.trans (hw'.mono hw.size))) (by omega)
      have HCn := Lib.hid fun W => tcg_nil (.slice a T.length c) W ⟨_, _, _, rfl⟩
      have HWd := Lib.hid fun W (hw : Below w4.heap.size w4 W) => width_any T (.slice a T.length c) W (HVt.out W hw) (by omega)
      have HRw := Lib.hid fun W (hw : Below w4.heap.size w4 W) => rwidth_any T (.slice a3 T.length c3) W (HX4.out W hw) (by omega)
      have HBg := Lib.hid fun W (hw : Below w4.heap.size w4 W) => bagsOf_any T id (.slice a T.length c) W (HVt.out W hw) (by omega)
      have HWh := Lib.hid fun W (hw : Below w4.heap.size w4 W) => rwhere_any T id (.slice a3 T.length c3) W (HX4.out W hw) (by omega)
      have hwl := whereTo_len T id T.length
      obtain ⟨R, hR⟩ : ∃ R, R = rCheckN T := ⟨_, rfl⟩
      obtain ⟨F, hF⟩ : ∃ F, F = rFitsN G T := ⟨_, rfl⟩
      obtain ⟨D, hD⟩ : ∃ D, D = widTo T T.length := ⟨_, rfl⟩
      obtain ⟨L, hL⟩ : ∃ L, L = whereTo T id T.length := ⟨_, rfl⟩
      have HRR := Lib.hid hR
      rw [← hR] at HCk ⊢
      rw [← hF] at HCg HFi
      rw [← hD] at HWd HRw
      rw [← hL] at HBg HWh hwl
      have HFc := Lib.hid fun W (hw : Below w4.heap.size w4 W) => (row?_below hw hw4).trans HR4.out
      clear hR hF hD hL
      go_wp2_with fail
      refine wp_region_mix (fun W => Below w4.heap.size w4 W) 34 [(0, true), (2, true), (1, false), (3, true), (4, true), (5, true), (6, true), (8, true), (9, true), (7, false), (10, false), (11, true), (12, true), (13, true), (14, true), (15, false), (16, true), (17, true), (18, true), (19, true), (21, true), (20, false), (22, false), (23, true), (24, true), (25, true), (26, true), (27, true), (29, true), (30, true), (28, false), (31, false), (32, false), (33, true)] (by kernel_rfl) (by kernel_rfl) (Below.refl _ _).drew ?_
      have HD0 := Lib.hid (Below.refl w4.heap.size w4).drew
      repeat (first | (apply wpPlan_still rfl rfl; (intro w hw; have k1 := HFc.out _ hw; clear hw; go_simp; (try go_ints); (first | with_reducible rfl | (go_simp; with_reducible rfl))); (intro K hK; go_simp; (try go_ints); refine hK _ _ ?_; clear hK K)) | (apply wpPlan_stillG rfl rfl; (intro w hw; have k1 := HFc.out _ hw; clear hw; go_simp; (try go_ints); (first | with_reducible rfl | (go_simp; with_reducible rfl))); (intro K hK; go_simp; (try go_ints); refine hK _ _ ?_; clear hK K)))
      apply wpPlan_actG (by simp only [List.getElem?_toArray, List.getElem?_cons_succ, List.getElem?_cons_zero]; rfl) (by rfl)
      intro K hK
      unfold Oper.wp
      go_simp
      refine (HCk.out _ HD0.out).mono ?_
      rintro e Wa ⟨rfl, hbz⟩
      have HDa := Lib.hid ((HD0.out).trans (hbz.mono (HD0.out).size))
      refine hK _ _ (HDa).out ?_
      clear hK K hbz
      repeat (first | (apply wpPlan_still rfl rfl; (intro w hw; have k1 := HFc.out _ hw; clear hw; go_simp; (try go_ints); (first | with_reducible rfl | (go_simp; with_reducible rfl))); (intro K hK; go_simp; (try go_ints); refine hK _ _ ?_; clear hK K)) | (apply wpPlan_stillG rfl rfl; (intro w hw; have k1 := HFc.out _ hw; clear hw; go_simp; (try go_ints); (first | with_reducible rfl | (go_simp; with_reducible rfl))); (intro K hK; go_simp; (try go_ints); refine hK _ _ ?_; clear hK K)))
      apply wpPlan_actG (by simp only [List.getElem?_toArray, List.getElem?_cons_succ, List.getElem?_cons_zero]; rfl) (by rfl)
      intro K hK
      unfold Oper.wp
      go_simp
      refine (HCg.out _ HDa.out).mono ?_
      rintro e Wb ⟨rfl, hbz⟩
      have HDb := Lib.hid ((HDa.out).trans (hbz.mono (HDa.out).size))
      refine hK _ _ (HDb).out ?_
      clear hK K hbz
      apply wpPlan_actG (by simp only [List.getElem?_toArray, List.getElem?_cons_succ, List.getElem?_cons_zero]; rfl) (by rfl)
      intro K hK
      unfold Oper.wp
      go_simp
      refine (HFi.out _ HDb.out).mono ?_
      rintro e Wc ⟨rfl, hbz⟩
      have HDc := Lib.hid ((HDb.out).trans (hbz.mono (HDb.out).size))
      refine hK _ _ (HDc).out ?_
      clear hK K hbz
      repeat (first | (apply wpPlan_still rfl rfl; (intro w hw; have k1 := HFc.out _ hw; clear hw; go_simp; (try go_ints); (first | with_reducible rfl | (go_simp; with_reducible rfl))); (intro K hK; go_simp; (try go_ints); refine hK _ _ ?_; clear hK K)) | (apply wpPlan_stillG rfl rfl; (intro w hw; have k1 := HFc.out _ hw; clear hw; go_simp; (try go_ints); (first | with_reducible rfl | (go_simp; with_reducible rfl))); (intro K hK; go_simp; (try go_ints); refine hK _ _ ?_; clear hK K)))
      apply wpPlan_actG (by simp only [List.getElem?_toArray, List.getElem?_cons_succ, List.getElem?_cons_zero]; rfl) (by rfl)
      intro K hK
      unfold Oper.wp
      go_simp
      refine (HCn.out _).mono ?_
      rintro e Wd ⟨rfl, hbz⟩
      have HDd := Lib.hid ((HDc.out).trans (hbz.mono (HDc.out).size))
      refine hK _ _ (HDd).out ?_
      clear hK K hbz
      repeat (first | (apply wpPlan_still rfl rfl; (intro w hw; have k1 := HFc.out _ hw; clear hw; go_simp; (try go_ints); (first | with_reducible rfl | (go_simp; with_reducible rfl))); (intro K hK; go_simp; (try go_ints); refine hK _ _ ?_; clear hK K)) | (apply wpPlan_stillG rfl rfl; (intro w hw; have k1 := HFc.out _ hw; clear hw; go_simp; (try go_ints); (first | with_reducible rfl | (go_simp; with_reducible rfl))); (intro K hK; go_simp; (try go_ints); refine hK _ _ ?_; clear hK K)))
      apply wpPlan_actG (by simp only [List.getElem?_toArray, List.getElem?_cons_succ, List.getElem?_cons_zero]; rfl) (by rfl)
      intro K hK
      unfold Oper.wp
      go_simp
      refine (HWd.out _ HDd.out).mono ?_
      rintro e We ⟨rfl, hbz⟩
      have HDe := Lib.hid ((HDd.out).trans (hbz.mono (HDd.out).size))
      refine hK _ _ (HDe).out ?_
      clear hK K hbz
      apply wpPlan_actG (by simp only [List.getElem?_toArray, List.getElem?_cons_succ, List.getElem?_cons_zero]; rfl) (by rfl)
      intro K hK
      unfold Oper.wp
      go_simp
      refine (HRw.out _ HDe.out).mono ?_
      rintro e wz ⟨rfl, rfl⟩
      refine hK _ _ (HDe.out) ?_
      clear hK K
      repeat (first | (apply wpPlan_still rfl rfl; (intro w hw; have k1 := HFc.out _ hw; clear hw; go_simp; (try go_ints); (first | with_reducible rfl | (go_simp; with_reducible rfl))); (intro K hK; go_simp; (try go_ints); refine hK _ _ ?_; clear hK K)) | (apply wpPlan_stillG rfl rfl; (intro w hw; have k1 := HFc.out _ hw; clear hw; go_simp; (try go_ints); (first | with_reducible rfl | (go_simp; with_reducible rfl))); (intro K hK; go_simp; (try go_ints); refine hK _ _ ?_; clear hK K)))
      apply wpPlan_actG (by simp only [List.getElem?_toArray, List.getElem?_cons_succ, List.getElem?_cons_zero]; rfl) (by rfl)
      intro K hK
      unfold Oper.wp
      go_simp
      refine (HBg.out _ HDe.out).mono ?_
      rintro e Wf ⟨vz, rfl, hoz, hbz⟩
      have HDf := Lib.hid ((HDe.out).trans (hbz.mono (HDe.out).size))
      have HZWf := Lib.hid hbz
      have HLf := Lib.hid hoz.rdl
      obtain ⟨af, cf, rfl⟩ := hoz.sl
      refine hK _ _ (HDf).out ?_
      clear hK K hbz hoz
      apply wpPlan_actG (by simp only [List.getElem?_toArray, List.getElem?_cons_succ, List.getElem?_cons_zero]; rfl) (by rfl)
      intro K hK
      unfold Oper.wp
      go_simp
      refine (HWh.out _ HDf.out).mono ?_
      rintro e Wg ⟨vz, rfl, hoz, hbz⟩
      have HDg := Lib.hid ((HDf.out).trans (hbz.mono (HDf.out).size))
      have HZWg := Lib.hid hbz
      have HLg := Lib.hid hoz.rdl
      obtain ⟨ag, cg, rfl⟩ := hoz.sl
      refine hK _ _ (HDg).out ?_
      clear hK K hbz hoz
      apply wpPlan_actG (by simp only [List.getElem?_toArray, List.getElem?_cons_succ, List.getElem?_cons_zero]; rfl) (by rfl)
      intro K hK
      unfold Oper.wp
      go_simp
      refine (ints_any L L _ _ Wg (HLf.out.below HZWg.out) HLg.out (by omega)).mono ?_
      rintro e Wh ⟨rfl, hbz⟩
      have HDh := Lib.hid ((HDg.out).trans (hbz.mono (HDg.out).size))
      refine hK _ _ (HDh).out ?_
      clear hK K hbz
      rw [decide_eq_true rfl]
      repeat (first | (apply wpPlan_still rfl rfl; (intro w hw; have k1 := HFc.out _ hw; clear hw; go_simp; (try go_ints); (first | with_reducible rfl | (go_simp; with_reducible rfl))); (intro K hK; go_simp; (try go_ints); refine hK _ _ ?_; clear hK K)) | (apply wpPlan_stillG rfl rfl; (intro w hw; have k1 := HFc.out _ hw; clear hw; go_simp; (try go_ints); (first | with_reducible rfl | (go_simp; with_reducible rfl))); (intro K hK; go_simp; (try go_ints); refine hK _ _ ?_; clear hK K)))
      refine wpPlan_nil ?_
      simp only [List.drop_succ_cons, List.drop_zero]
      clear HCg HFi HCn HWd HRw HBg HWh HLf HLg hwl
      have HB5 := Lib.hid (HB4.out.trans (HDh.out.mono HB4.out.size))
      by_cases hR0 : R = 0
      · obtain ⟨-, -, hpar, hroot, hup, -⟩ := rCheckN_zero (HRR.out.symm.trans hR0)
        obtain ⟨r, hrt, hrr⟩ := rooted_of hpar hroot
        have hall := hrt.up_iff.1 hup
        have hPA := parAt_of hpar
        have hPI := parIn_of hpar
        have hup1 : upI T (r : Int) < 0 := by rw [← parU_eq, hrt.head]; omega
        have hup2 : ∀ j, j < r → 0 ≤ upI T (j : Int) := fun j hj => by
          obtain ⟨p, h1, -⟩ := hrt.par j (by have := hrt.lt; omega) (by omega)
          rw [← parU_eq, h1]
          omega
        have HRr := Lib.hid fun W (hw : Below w4.heap.size w4 W) => rroot_any T (.slice a3 T.length c3) W (HX4.out W hw) (by omega) r hrt.lt hup1 hup2
        subst hR0
        have HTr := Lib.hid fun W (hw : Below w4.heap.size w4 W) => tRoot_rt T r hrr (.slice a T.length c) W (HVt.out W hw) (by omega) (HCk.out W hw)
        have HTd := Lib.hid fun W (hw : Below w4.heap.size w4 W) => tDepth_any T r hrt hrr hall (.slice a T.length c) W (HVt.out W hw) (by omega) fun W' hw' => HCk.out W' (hw.trans (hw'.mono hw.size))
        have HRd := Lib.hid fun W (hw : Below w4.heap.size w4 W) => rdeep_any T (.slice a3 T.length c3) W (HX4.out W hw) hPI (by omega)
        have HRk := Lib.hid fun W (hw : Below w4.heap.size w4 W) b => rkids_any T (.slice a3 T.length c3) W (HX4.out W hw) (by omega) b
        have HTc := Lib.hid (tChildren_rt T hPA (.slice a T.length c) Wh (HVt.out Wh HDh.out) (by omega) (HCk.out Wh HDh.out))
        obtain ⟨dp, hdp⟩ : ∃ dp, dp = deepTo T T.length := ⟨_, rfl⟩
        rw [← hdp] at HTd HRd
        clear hpar hroot hup hrt hrr hall hPA hPI hup1 hup2 hdp
        go_wp2_with fail
        refine HTc.out.mono ?_
        rintro e w6 ⟨gk, vs, rfl, hgk, hvs, hGr, hb6⟩
        have HD6 := Lib.hid (HDh.out.trans (hb6.mono HDh.out.size))
        have HGr := Lib.hid hGr
        clear hGr hb6 HTc
        go_wp2_with fail
        refine (HTr.out w6 HD6.out).mono ?_
        rintro e w7 ⟨rfl, hb7⟩
        have HD7 := Lib.hid (HD6.out.trans (hb7.mono HD6.out.size))
        have HE7 := Lib.hid hb7
        clear hb7 HTr
        go_wp2_with fail
        refine (HRr.out w7 HD7.out).mono ?_
        rintro e w7x ⟨rfl, hw7⟩
        have hw7 := hw7.symm
        subst hw7
        clear HRr
        go_wp2_with fail
        refine (HTd.out w7 HD7.out).mono ?_
        rintro e w8 ⟨rfl, hb8⟩
        have HD8 := Lib.hid (HD7.out.trans (hb8.mono HD7.out.size))
        have HE8 := Lib.hid (HE7.out.trans (hb8.mono HE7.out.size))
        clear hb8 HTd
        go_wp2_with fail
        refine (HRd.out w8 HD8.out).mono ?_
        rintro e w9 ⟨rfl, hb9⟩
        have HD9 := Lib.hid (HD8.out.trans (hb9.mono HD8.out.size))
        have HE9 := Lib.hid (HE8.out.trans (hb9.mono HE8.out.size))
        clear hb9 HRd
        go_wp2_with fail
        go_loopw [14] (fun j wr => ∃ i : Nat, i ≤ T.length ∧ j = .int .i64 (i : Int) ∧ Below w9.heap.size w9 wr) (fun j _ => T.length - (intOf j).toNat)
        case atStart => exact ⟨0, by omega, rfl, Below.refl _ _⟩
        case round =>
          obtain ⟨i, hi, rfl, hbr⟩ := hrel
          have HBr := Lib.hid hbr
          have hsr := hbr.size
          clear hbr
          by_cases hlt : i < T.length
          · have HG9 := Lib.hid (HGr.out.same fun k _ hk => (HE9.out.trans (HBr.out.mono HE9.out.size)).block k hk)
            obtain ⟨u, hu⟩ : ∃ u, vs[i]? = some u := ⟨_, List.getElem?_eq_getElem (by omega)⟩
            have hLu := (HG9.out.own i u hu).rdl
            obtain ⟨qu, cu, rfl⟩ := (HG9.out.own i u hu).sl
            have hku := kidsTo_le T T.length i
            have hgl := row?_lt HG9.out.row
            have HF := Lib.hid fun W (hw : Below wr.heap.size wr W) => (show W.cell? ⟨gk, i, none⟩ = some (.slice qu (kidsTo T T.length i).length cu) from (cell?_row ((row?_below hw hgl).trans HG9.out.row)).trans (by simp [hu]))
            have HLu := Lib.hid hLu
            have HDr := Lib.hid (HD9.out.trans (HBr.out.mono HD9.out.size))
            obtain ⟨KL, hKL⟩ : ∃ KL, KL = kidsTo T T.length i := ⟨_, rfl⟩
            have HKi := Lib.hid fun W (hw : Below w4.heap.size w4 W) => HRk.out W hw i
            rw [← hKL] at HF HLu HKi hku
            clear hLu hu hKL
            go_wp2_with fail
            refine wp_region_mix (fun W => Below wr.heap.size wr W) 8 [(0, true), (1, true), (2, true), (3, true), (4, true), (5, true), (6, false), (7, false)] (by kernel_rfl) (by kernel_rfl) (Below.refl _ _).drew ?_
            have HM0 := Lib.hid (Below.refl wr.heap.size wr).drew
            repeat (first | (apply wpPlan_still rfl rfl; (intro w hw; have k1 := HF.out _ hw; clear hw; go_simp; (try go_ints); (first | with_reducible rfl | (go_simp; with_reducible rfl))); (intro K hK; go_simp; (try go_ints); refine hK _ _ ?_; clear hK K)) | (apply wpPlan_stillG rfl rfl; (intro w hw; have k1 := HF.out _ hw; clear hw; go_simp; (try go_ints); (first | with_reducible rfl | (go_simp; with_reducible rfl))); (intro K hK; go_simp; (try go_ints); refine hK _ _ ?_; clear hK K)))
            apply wpPlan_actG (by simp only [List.getElem?_toArray, List.getElem?_cons_succ, List.getElem?_cons_zero]; rfl) (by rfl)
            intro K hK
            unfold Oper.wp
            go_simp
            refine (HKi.out _ (HDr.out.trans (HM0.out.mono HDr.out.size))).mono ?_
            rintro e Wi ⟨vz, rfl, hoz, hbz⟩
            have HMi := Lib.hid ((HM0.out).trans (hbz.mono (HM0.out).size))
            have HZWi := Lib.hid hbz
            have HLi := Lib.hid hoz.rdl
            obtain ⟨ai, ci, rfl⟩ := hoz.sl
            refine hK _ _ (HMi).out ?_
            clear hK K hbz hoz
            apply wpPlan_actG (by simp only [List.getElem?_toArray, List.getElem?_cons_succ, List.getElem?_cons_zero]; rfl) (by rfl)
            intro K hK
            unfold Oper.wp
            go_simp
            refine (ints_any KL KL _ _ Wi (HLu.out.below HMi.out) HLi.out (by omega)).mono ?_
            rintro e Wj ⟨rfl, hbz⟩
            have HMj := Lib.hid ((HMi.out).trans (hbz.mono (HMi.out).size))
            refine hK _ _ (HMj).out ?_
            clear hK K hbz
            rw [decide_eq_true rfl]
            refine wpPlan_nil ?_
            simp only [List.drop_succ_cons, List.drop_zero]
            go_wp2_with fail
            go_roundw
            case rel => exact ⟨i + 1, by omega, by go_num, HBr.out.trans (HMj.out.mono HBr.out.size)⟩
            case measure => simp [intOf]; omega
          · go_wp2_with fail
            go_ret
            exact ⟨rfl, HB4.out.trans ((HD9.out.trans (HBr.out.mono HD9.out.size)).mono HB4.out.size)⟩
      · have h2 : (R != 0) = true := by simpa using hR0
        have h3 : (R == 0) = false := by simpa using hR0
        have HTc := Lib.hid fun W (hw : Below w4.heap.size w4 W) => tChildren_bad R hR0 (.slice a T.length c) W ⟨_, _, _, rfl⟩ (HCk.out W hw)
        have HTr := Lib.hid fun W (hw : Below w4.heap.size w4 W) => tRoot_bad R hR0 (.slice a T.length c) W ⟨_, _, _, rfl⟩ (HCk.out W hw)
        have HTd := Lib.hid fun W (hw : Below w4.heap.size w4 W) => tDepth_bad T R hR0 (.slice a T.length c) W ⟨_, _, _, rfl⟩ (HCk.out W hw)
        go_wp2_with fail
        refine (HTc.out Wh HDh.out).mono ?_
        rintro e w6 ⟨rfl, hb6⟩
        have HD6 := Lib.hid (HDh.out.trans (hb6.mono HDh.out.size))
        clear hb6
        go_wp2_with fail
        refine (HTr.out w6 HD6.out).mono ?_
        rintro e w7 ⟨rfl, hb7⟩
        have HD7 := Lib.hid (HD6.out.trans (hb7.mono HD6.out.size))
        clear hb7
        go_wp2_with fail
        refine (HTd.out w7 HD7.out).mono ?_
        rintro e w8 ⟨rfl, hb8⟩
        have HD8 := Lib.hid (HD7.out.trans (hb8.mono HD7.out.size))
        clear hb8
        go_wp2_with fail
        go_ret
        exact ⟨rfl, HB4.out.trans (HD8.out.mono HB4.out.size)⟩
    · have hd30 : decide ((30 : Int) < (T.length : Int)) = true := by simp; omega
      have hd31 : decide (30 < T.length) = true := by simp; omega
      go_wp2_with fail
      refine (HK.out _ HB2.out).mono ?_
      rintro r w3 ⟨rfl, hb3⟩
      have HB3 := Lib.hid (HB2.out.trans (hb3.mono HB2.out.size))
      clear hb3
      go_wp2_with fail
      go_ret
      exact ⟨rfl, HB3.out⟩
end Go.Proofs.YtpflnkedolmamaaGreatDoor
