/- The walk of the statement TreeDecompCheck. The walk of the statement TreeDecompTransform. -/
import Derived.Test.YtmmhngjndnonhaaGreatDoorTLm
import Derived.Test.YtmmhngjndnonhaaGreatDoorTJx
import Derived.Test.YtmmhngjndnonhaaGreatDoorTUb
import Derived.Test.YtmmhngjndnonhaaGreatDoorTUe
import Derived.Test.YtmmhngjndnonhaaGreatDoorTUG
import Derived.Test.YtmmhngjndnonhaaGreatDoorTUi
set_option linter.all false
namespace Go.Proofs.YtmmhngjndnonhaaGreatDoor
open Go Go.RowKit Go.Pal
attribute [local go_sem] Oper.semAt_some
set_option maxRecDepth 10000 in
set_option maxHeartbeats 8000000 in
theorem tfLaw_any (T : List Bg) (hSet : ∀ x ∈ T, IsSet x.2) (hPr : ∀ x ∈ T, -9223372036854775808 ≤ x.1 ∧ x.1 ≤ 9223372036854775807) (es : List Ed) (hes : ∀ e ∈ es, e.Wf) (id : Int) (vt vl : Value) (w : World)
   (ht : Rd bagA 17 w.heap.size w vt T) (htl : T.length ≤ 9223372036854775807) (hl : Rd edC 5 w.heap.size w vl es) (hc : ∃ a n c, vl = .slice a n c ∧ n ≤ c ∧ c ≤ 9223372036854775807) (hT : Tab2 w) :
   Calls Tryz.prog 4 #[vt, vl, .int .i64 id] w fun e w' => e = .returned (.bool true) ∧ Below w.heap.size w w' := by
 have HT := Lib.hid hT
 have HBe := Lib.hid (begun_any es hes [] (by simp) vl (.slice none 0 0) w hl hc ⟨none, 0, rfl, .inl rfl⟩ (by simp))
 have HK := Lib.hid fun W (h : Below w.heap.size w W) => known26_any W (hT.on h)
 have hwf : ∀ e ∈ es.take 40, e.Wf := fun e he => hes e (List.mem_of_mem_take he)
 have hGk := madeTo_ok hwf (es.take 40).length
 have hGl := madeTo_len hwf (es.take 40).length
 have h40 : (es.take 40).length ≤ 40 := List.length_take_le _ _
 obtain ⟨G, hG⟩ : ∃ G, G = madeTo (es.take 40) (es.take 40).length := ⟨_, rfl⟩
 rw [← hG] at HBe hGk hGl
 have HG := Lib.hid hGk
 obtain ⟨al, nl, cl, rfl, -, -⟩ := hc
 have HV := Lib.hid ht
 have HSet := Lib.hid hSet
 have HPr := Lib.hid hPr
 obtain ⟨a, c, rfl⟩ := ht.sl
 obtain ⟨few, hfew⟩ : ∃ few, few = decide (es.length ≤ 40) := ⟨_, rfl⟩
 rw [← hfew] at HBe
 clear hl ht hes hT hwf hG hGk hfew hSet hPr
 go_enter Tryz.func4, Tryz.ntmps4
 go_wp2_with fail
 refine HBe.out.mono ?_
 rintro r w1 ⟨g, bV, bE, vV, vE, vo, o, rfl, hG1, hRG, ho, hp, hb1⟩
 have HG1 := Lib.hid hG1
 have HRG := Lib.hid hRG
 have HB1 := Lib.hid hb1
 obtain ⟨aV, cV, hvV⟩ := hRG.1.sl
 obtain ⟨aE, cE, hvE⟩ := hRG.2.sl
 subst hvV hvE
 obtain ⟨ao, co, rfl, -⟩ := ho
 clear hG1 hRG hp hb1 HBe
 go_wp2_with fail
 obtain ⟨W1, hW1⟩ : ∃ W1, W1 = w1.alloc (.cells #[.slice aV G.V.length cV, .slice aE G.E.length cE] 27) := ⟨_, rfl⟩
 have hba : Below w1.heap.size w1 W1 := by rw [hW1]; exact (Below.refl _ w1).alloc (Nat.le_refl _) _
 have hra : row? W1 w1.heap.size = some #[.slice aV G.V.length cV, .slice aE G.E.length cE] := by rw [hW1]; exact row?_alloc_at _ _ _ _ rfl
 have hsa : w1.heap.size < W1.heap.size := by rw [hW1]; simp
 rw [← hW1]
 clear hW1
 refine (HK.out _ (HB1.out.trans (hba.mono HB1.out.size))).mono ?_
 rintro r w2 ⟨rfl, hb2⟩
 have hc2 := hba.trans (hb2.mono (by omega))
 have HC2 := Lib.hid hc2
 have HB2 := Lib.hid (HB1.out.trans (hc2.mono HB1.out.size))
 have hr2 := (row?_below hb2 hsa).trans hra
 have hs12 := hc2.size
 have hsb := hb2.size
 have hw2 : w1.heap.size < w2.heap.size := by omega
 have HR2 := Lib.hid hr2
 clear hba hb2 hc2 hra hr2
 cases few with
 | false =>
   go_wp2_with fail
   refine (HK.out _ HB2.out).mono ?_
   rintro r w3 ⟨rfl, hb3⟩
   have HB3 := Lib.hid (HB2.out.trans (hb3.mono HB2.out.size))
   clear hb3
   go_wp2_with fail
   go_ret
   exact ⟨rfl, HB3.out⟩
 | true =>
   by_cases h30 : T.length ≤ 30
   · have hd30 : decide ((30 : Int) < (T.length : Int)) = false := by simp; omega
     have hd31 : decide (30 < T.length) = false := by simp; omega
     go_wp2_with fail
     refine (l26To_any T _ w2 ((HV.out.below HB2.out (Nat.le_refl _)).mono HB2.out.size) (by omega) HSet.out).mono ?_
     clear hd30 hd31
     rintro r w3 ⟨v3, rfl, hv3, hb3⟩
     have HB3 := Lib.hid (HB2.out.trans (hb3.mono HB2.out.size))
     have HC3 := Lib.hid (HC2.out.trans (hb3.mono HC2.out.size))
     have HX := Lib.hid hv3
     have hs3 := hb3.size
     have hw3 : w1.heap.size < w3.heap.size := by omega
     have HR3 := Lib.hid ((row?_below hb3 hw2).trans HR2.out)
     obtain ⟨a3, c3, rfl, -⟩ := hv3
     clear hb3
     go_wp2_with fail
     refine (rcheck_any T _ w3 HX.out (by omega) HPr.out).mono ?_
     rintro r w4 ⟨rfl, hb4⟩
     have HB4 := Lib.hid (HB3.out.trans (hb4.mono HB3.out.size))
     have HC4 := Lib.hid (HC3.out.trans (hb4.mono HC3.out.size))
     have HX4 := Lib.hid fun W (hw : Below w4.heap.size w4 W) => (HX.out.below hb4).below hw
     have hs4 := hb4.size
     have hw4 : w1.heap.size < w4.heap.size := by omega
     have HR4 := Lib.hid ((row?_below hb4 hw3).trans HR3.out)
     clear hb4
     have HVt := Lib.hid fun W (hw : Below w4.heap.size w4 W) => (HV.out.below (HB4.out.trans (hw.mono HB4.out.size)) (Nat.le_refl _)).mono (HB4.out.trans (hw.mono HB4.out.size)).size
     have HCk := Lib.hid fun W (hw : Below w4.heap.size w4 W) => tcheck_any T HSet.out (.slice a T.length c) W (HVt.out W hw) (by omega)
     have HCg := Lib.hid fun W (hw : Below w4.heap.size w4 W) => tcg_all T HSet.out g bV bE G HG.out (.slice a T.length c) W (HVt.out W hw) (by omega) (HG1.out.below (HC4.out.trans (hw.mono HC4.out.size)))
     have HFi := Lib.hid fun W (hw : Below w4.heap.size w4 W) => rfits_any G HG.out T HSet.out HPr.out (.slice a3 T.length c3) (.slice aV G.V.length cV) (.slice aE G.E.length cE) W (HX4.out W hw) (by omega) ((HRG.out.below (HC4.out.trans (hw.mono HC4.out.size))).1) ((HRG.out.below (HC4.out.trans (hw.mono HC4.out.size))).2) fun n W' hw' => rwhere_any T n (.slice a3 T.length c3) W' (HX4.out W' (hw.trans (hw'.mono hw.size))) (by omega)
     have HVx := Lib.hid fun W (hw : Below w4.heap.size w4 W) => gvertexSet_any g bV bE G HG.out W (HG1.out.below (HC4.out.trans (hw.mono HC4.out.size)))
     by_cases h0 : rCheckN T = 0
     · obtain ⟨r0, hTok⟩ := tok_of_check h0 HSet.out
       obtain ⟨rk, hrk⟩ := hTok.rankP
       have hPI : ParIn T := parIn_of (rCheckN_zero h0).2.2.1
       have hpos := hTok.lt
       have hne : T ≠ [] := fun e => by rw [e] at hpos; simp at hpos
       rw [fits_eq HG.out h0] at HCg HFi
       rw [h0] at HCk ⊢
       have HRk := Lib.hid hrk
       have HTok := Lib.hid hTok
       have HPI := Lib.hid hPI
       have HNe := Lib.hid hne
       have HRed := Lib.hid fun W (hw : Below w4.heap.size w4 W) => reduce_any T rk hrk HSet.out (.slice a T.length c) W (HVt.out W hw) hne (by omega) fun W' hw' => HCk.out W' (hw.trans (hw'.mono hw.size))
       have HRer := Lib.hid fun W (hw : Below w4.heap.size w4 W) => reroot_all T r0 hTok HSet.out (.slice a T.length c) id W (HVt.out W hw) (by omega) (HCk.out W hw)
       have HRes := Lib.hid fun W (hw : Below w4.heap.size w4 W) => restrict_any T G.vset (.slice a T.length c) W (HVt.out W hw) hne (by omega) fun W' hw' => HCk.out W' (hw.trans (hw'.mono hw.size))
       have HEli := Lib.hid fun W (hw : Below w4.heap.size w4 W) => elim_all T r0 hTok HSet.out (by omega) g bV bE G HG.out (.slice a T.length c) W (HVt.out W hw) (HG1.out.below (HC4.out.trans (hw.mono HC4.out.size))) (HT.out.on (HB4.out.trans (hw.mono HB4.out.size))) (HCg.out W hw)
       clear hTok hPI hne h0 hrk
       go_wp2_with fail
       refine (HVx.out w4 (Below.refl _ _)).mono ?_
       rintro r w5 ⟨rfl, hb5⟩
       have HB5 := Lib.hid hb5
       have hs5 := hb5.size
       clear hb5 HVx
       go_wp2_with fail
       obtain ⟨W5, hW5⟩ : ∃ W5, W5 = w5.alloc (.cells (words G.vset) 57) := ⟨_, rfl⟩
       have hB5 : Below w4.heap.size w4 W5 := by rw [hW5]; exact HB5.out.alloc HB5.out.size _
       have hr5 : row? W5 w5.heap.size = some (words G.vset) := by rw [hW5]; exact row?_alloc_at _ _ _ _ rfl
       rw [← hW5]
       obtain ⟨qi, hqi⟩ : ∃ qi, qi = w5.heap.size := ⟨_, rfl⟩
       rw [← hqi] at hr5 ⊢
       have hl5 := row?_lt hr5
       have HR5 := Lib.hid hr5
       have HB5 := Lib.hid hB5
       clear hW5 hqi hB5 hr5
       refine (HRed.out _ HB5.out).mono ?_
       rintro r w6 ⟨va, rfl, hOa, hb6⟩
       have HB6 := Lib.hid (HB5.out.trans (hb6.mono HB5.out.size))
       have HR6 := Lib.hid ((row?_below hb6 hl5).trans HR5.out)
       have hs6 := hb6.size
       have HVa := Lib.hid fun W (hw : Below w6.heap.size w6 W) => ((hOa.rd elB).below hw (Nat.le_refl _)).mono hw.size
       obtain ⟨qa, ca, rfl⟩ := hOa.sl
       clear hb6 hOa HRed
       go_wp2_with fail
       refine (HRer.out _ HB6.out).mono ?_
       rintro r w7 ⟨vb, U, nb, rfl, hOb, hUs, hcase, hb7⟩
       have HB7 := Lib.hid (HB6.out.trans (hb7.mono HB6.out.size))
       have HR7 := Lib.hid ((row?_below hb7 (by omega)).trans HR6.out)
       have hr7 := HR7.out
       have hs7 := hb7.size
       have HVb := Lib.hid fun W (hw : Below w7.heap.size w7 W) => (hOb.below hw (Nat.le_refl _)).mono hw.size
       have HUs := Lib.hid hUs
       have HCase := Lib.hid hcase
       obtain ⟨qb, cb, rfl⟩ := hOb.sl
       have HC67 := Lib.hid hb7
       clear hb7 hOb HRer hUs hcase
       go_wp2_with fail
       refine (HRes.out _ HB7.out).mono ?_
       rintro r w8 ⟨vc, rfl, hOc, hb8⟩
       have HB8 := Lib.hid (HB7.out.trans (hb8.mono HB7.out.size))
       have HR8 := Lib.hid ((row?_below hb8 (by omega)).trans HR7.out)
       have hs8 := hb8.size
       have HVc := Lib.hid fun W (hw : Below w8.heap.size w8 W) => ((hOc.rd elB).below hw (Nat.le_refl _)).mono hw.size
       obtain ⟨qc, cc, rfl⟩ := hOc.sl
       have HC78 := Lib.hid hb8
       clear hb8 hOc HRes hr7
       go_wp2_with fail
       refine (HEli.out _ HB8.out).mono ?_
       rintro r w9 ⟨vo, lo, rfl, hOo, hcaseo, hb9⟩
       have HB9 := Lib.hid (HB8.out.trans (hb9.mono HB8.out.size))
       have HR9 := Lib.hid ((row?_below hb9 (by omega)).trans HR8.out)
       have HOo := Lib.hid hOo
       have HCo := Lib.hid hcaseo
       obtain ⟨qo, co, rfl, -⟩ := hOo
       have HC89 := Lib.hid hb9
       clear hb9 HEli hcaseo
       go_wp2_with fail
       have HFq := Lib.hid fun W (hw : Below w9.heap.size w9 W) => (row?_below hw (row?_lt HR9.out)).trans HR9.out
       have HX9 := Lib.hid fun W (hw : Below w9.heap.size w9 W) => HX4.out W (HB9.out.trans (hw.mono HB9.out.size))
       obtain ⟨-, hrs, -, -, hrl, -⟩ := redTo_all T.length T r0 (by omega) HTok.out HSet.out
       have HRt := Lib.hid fun W v (hv : RefT W v T) => rtrim_any T rk HRk.out v W hv HNe.out (by omega)
       have HPa := Lib.hid fun W v vi (hv : RefT W v T) (hi : RdS W vi G.vset) => rpart_any T G.vset v vi W hv hi (by omega) HSet.out
       have HTA := Lib.hid fun W (hw : Below w9.heap.size w9 W) => l26To_any (redTo T.length T) _ W (HVa.out W (HC67.out.trans ((HC78.out.trans ((HC89.out.trans (hw.mono HC89.out.size)).mono HC78.out.size)).mono HC67.out.size))) (by omega) hrs
       have HTC := Lib.hid fun W (hw : Below w9.heap.size w9 W) => l26To_any (resT T G.vset) _ W (HVc.out W (HC89.out.trans (hw.mono HC89.out.size))) (by rw [resT_len]; omega) (fun x hx => by
         obtain ⟨y, hy, rfl⟩ := List.mem_map.1 hx
         exact fun n hn => HSet.out y hy n (by rw [Nat.testBit_and, Bool.and_eq_true] at hn; exact hn.1))
       have hpl : (resT T G.vset).length ≤ 65536 := by rw [resT_len]; omega
       have hrl2 : (redTo T.length T).length ≤ 65536 := by omega
       obtain ⟨RT, hRT⟩ : ∃ RT, RT = redTo T.length T := ⟨_, rfl⟩
       obtain ⟨PT, hPT⟩ : ∃ PT, PT = resT T G.vset := ⟨_, rfl⟩
       have HSm := Lib.hid fun (X : List Bg) (hX : X.length ≤ 65536) va vb W (ha : RefT W va X) (hb : RefT W vb X) => (show Calls Tryz.prog 26 #[va, vb] W fun e w' => e = .returned (.bool true) ∧ Below W.heap.size W w' from by
         have := r26same_any X X va vb W ha hb hX hX
         rwa [decide_eq_true rfl] at this)
       rw [← hRT] at HTA HRt hrl2 ⊢
       rw [← hPT] at HTC HPa hpl ⊢
       have HRT := Lib.hid hRT
       have HPT := Lib.hid hPT
       clear hrs hrl hRT hPT
       refine wp_region_mix (fun W => Below w9.heap.size w9 W) 23 [(0, true), (1, true), (2, true), (3, true), (4, true), (5, true), (6, true), (7, true), (9, true), (8, false), (10, false), (11, false), (12, true), (13, true), (14, true), (15, true), (17, true), (18, true), (16, false), (19, false), (20, false), (21, false), (22, true)] (by kernel_rfl) (by kernel_rfl) (Below.refl _ _).drew ?_
       have HD0 := Lib.hid (Below.refl w9.heap.size w9).drew
       repeat ((first | apply wpPlan_still rfl rfl | apply wpPlan_stillG rfl rfl); (intro w hw; have k1 := HFq.out _ hw; clear hw; go_simp; (try go_ints); (first | with_reducible rfl | (go_simp; with_reducible rfl))); (intro K hK; go_simp; (try go_ints); refine hK _ _ ?_; clear hK K))
       apply wpPlan_actG (by simp only [List.getElem?_toArray, List.getElem?_cons_succ, List.getElem?_cons_zero]; rfl) (by rfl)
       intro K hK
       unfold Oper.wp
       go_simp
       refine (HTA.out _ HD0.out).mono ?_
       rintro e Wa ⟨vz, rfl, hoz, hbz⟩
       have HDa := Lib.hid ((HD0.out).trans (hbz.mono (HD0.out).size))
       have HZWa := Lib.hid hbz
       have HXa := Lib.hid hoz
       obtain ⟨qxa, cxa, rfl, -⟩ := hoz
       refine hK _ _ (HDa).out ?_
       clear hK K hbz
       repeat ((first | apply wpPlan_still rfl rfl | apply wpPlan_stillG rfl rfl); (intro w hw; have k1 := HFq.out _ hw; clear hw; go_simp; (try go_ints); (first | with_reducible rfl | (go_simp; with_reducible rfl))); (intro K hK; go_simp; (try go_ints); refine hK _ _ ?_; clear hK K))
       apply wpPlan_actG (by simp only [List.getElem?_toArray, List.getElem?_cons_succ, List.getElem?_cons_zero]; rfl) (by rfl)
       intro K hK
       unfold Oper.wp
       go_simp
       refine (HRt.out Wa _ (HX9.out _ HDa.out)).mono ?_
       rintro e Wb ⟨vz, rfl, hoz, hbz⟩
       have HDb := Lib.hid ((HDa.out).trans (hbz.mono (HDa.out).size))
       have HZWb := Lib.hid hbz
       have HXb := Lib.hid hoz
       obtain ⟨qxb, cxb, rfl, -⟩ := hoz
       refine hK _ _ (HDb).out ?_
       clear hK K hbz
       repeat ((first | apply wpPlan_still rfl rfl | apply wpPlan_stillG rfl rfl); (intro w hw; have k1 := HFq.out _ hw; clear hw; go_simp; (try go_ints); (first | with_reducible rfl | (go_simp; with_reducible rfl))); (intro K hK; go_simp; (try go_ints); refine hK _ _ ?_; clear hK K))
       apply wpPlan_actG (by simp only [List.getElem?_toArray, List.getElem?_cons_succ, List.getElem?_cons_zero]; rfl) (by rfl)
       intro K hK
       unfold Oper.wp
       go_simp
       refine (HSm.out RT hrl2 _ _ Wb (HXa.out.below HZWb.out) HXb.out).mono ?_
       rintro e Wc ⟨rfl, hbz⟩
       have HDc := Lib.hid ((HDb.out).trans (hbz.mono (HDb.out).size))
       refine hK _ _ (HDc).out ?_
       clear hK K hbz
       repeat ((first | apply wpPlan_still rfl rfl | apply wpPlan_stillG rfl rfl); (intro w hw; have k1 := HFq.out _ hw; clear hw; go_simp; (try go_ints); (first | with_reducible rfl | (go_simp; with_reducible rfl))); (intro K hK; go_simp; (try go_ints); refine hK _ _ ?_; clear hK K))
       apply wpPlan_actG (by simp only [List.getElem?_toArray, List.getElem?_cons_succ, List.getElem?_cons_zero]; rfl) (by rfl)
       intro K hK
       unfold Oper.wp
       go_simp
       refine (HTC.out _ HDc.out).mono ?_
       rintro e Wd ⟨vz, rfl, hoz, hbz⟩
       have HDd := Lib.hid ((HDc.out).trans (hbz.mono (HDc.out).size))
       have HZWd := Lib.hid hbz
       have HXd := Lib.hid hoz
       obtain ⟨qxd, cxd, rfl, -⟩ := hoz
       refine hK _ _ (HDd).out ?_
       clear hK K hbz
       repeat ((first | apply wpPlan_still rfl rfl | apply wpPlan_stillG rfl rfl); (intro w hw; have k1 := HFq.out _ hw; clear hw; go_simp; (try go_ints); (first | with_reducible rfl | (go_simp; with_reducible rfl))); (intro K hK; go_simp; (try go_ints); refine hK _ _ ?_; clear hK K))
       apply wpPlan_actG (by simp only [List.getElem?_toArray, List.getElem?_cons_succ, List.getElem?_cons_zero]; rfl) (by rfl)
       intro K hK
       unfold Oper.wp
       go_simp
       refine (l01To_any G.vset Wd).mono ?_
       rintro e We ⟨vz, rfl, hoz, hbz⟩
       have HDe := Lib.hid ((HDd.out).trans (hbz.mono (HDd.out).size))
       have HZWe := Lib.hid hbz
       have HXe := Lib.hid hoz.rdl
       obtain ⟨qxe, cxe, rfl⟩ := hoz.sl
       refine hK _ _ (HDe).out ?_
       clear hK K hbz hoz
       repeat ((first | apply wpPlan_still rfl rfl | apply wpPlan_stillG rfl rfl); (intro w hw; have k1 := HFq.out _ hw; clear hw; go_simp; (try go_ints); (first | with_reducible rfl | (go_simp; with_reducible rfl))); (intro K hK; go_simp; (try go_ints); refine hK _ _ ?_; clear hK K))
       apply wpPlan_actG (by simp only [List.getElem?_toArray, List.getElem?_cons_succ, List.getElem?_cons_zero]; rfl) (by rfl)
       intro K hK
       unfold Oper.wp
       go_simp
       refine (HPa.out We _ _ (HX9.out _ HDe.out) ⟨HXe.out, HG.out.isSet_vset⟩).mono ?_
       rintro e Wf ⟨vz, rfl, hoz, hbz⟩
       have HDf := Lib.hid ((HDe.out).trans (hbz.mono (HDe.out).size))
       have HZWf := Lib.hid hbz
       have HXf := Lib.hid hoz
       obtain ⟨qxf, cxf, rfl, -⟩ := hoz
       refine hK _ _ (HDf).out ?_
       clear hK K hbz
       repeat ((first | apply wpPlan_still rfl rfl | apply wpPlan_stillG rfl rfl); (intro w hw; have k1 := HFq.out _ hw; clear hw; go_simp; (try go_ints); (first | with_reducible rfl | (go_simp; with_reducible rfl))); (intro K hK; go_simp; (try go_ints); refine hK _ _ ?_; clear hK K))
       apply wpPlan_actG (by simp only [List.getElem?_toArray, List.getElem?_cons_succ, List.getElem?_cons_zero]; rfl) (by rfl)
       intro K hK
       unfold Oper.wp
       go_simp
       refine (HSm.out PT hpl _ _ Wf ((HXd.out.below HZWe.out).below HZWf.out) HXf.out).mono ?_
       rintro e Wg ⟨rfl, hbz⟩
       have HDg := Lib.hid ((HDf.out).trans (hbz.mono (HDf.out).size))
       refine hK _ _ (HDg).out ?_
       clear hK K hbz
       repeat ((first | apply wpPlan_still rfl rfl | apply wpPlan_stillG rfl rfl); (intro w hw; have k1 := HFq.out _ hw; clear hw; go_simp; (try go_ints); (first | with_reducible rfl | (go_simp; with_reducible rfl))); (intro K hK; go_simp; (try go_ints); refine hK _ _ ?_; clear hK K))
       refine wpPlan_nil ?_
       simp only [List.drop_succ_cons, List.drop_zero]
       have HFg := Lib.hid fun W (hw : Below w9.heap.size w9 W) => (row?_below (HB9.out.trans (hw.mono HB9.out.size)) hw4).trans HR4.out
       rcases HCase.out with ⟨h0k, hlk, rfl, hU, hUl⟩ | ⟨hout, rfl, rfl⟩
       · have e1 : decide (id < 0) = false := decide_eq_false (by omega)
         have e2 : decide ((T.length : Int) ≤ id) = false := decide_eq_false (by omega)
         have e3 : ¬ id < 0 := by omega
         have e4 : ¬ (T.length : Int) ≤ id := by omega
         have hUl2 : U.length ≤ 65536 := by omega
         have HU := Lib.hid hU
         have HTu := Lib.hid fun W v (hv : RefT W v T) => (show Calls Tryz.prog 30 #[v, .int .i64 id] W fun e w' => ∃ v', e = .returned v' ∧ RefT w' v' U ∧ Below W.heap.size W w' from by
           have := rturn_any T r0 HTok.out id.toNat (by omega) v W hv HPI.out (by omega)
           rwa [Int.toNat_of_nonneg h0k, ← HU.out] at this)
         have HVu := Lib.hid fun W (hw : Below w9.heap.size w9 W) => HVb.out W (HC78.out.trans ((HC89.out.trans (hw.mono HC89.out.size)).mono HC78.out.size))
         clear hU hUl
         go_wp2_with fail
         refine (l26To_any U _ Wg (HVu.out _ HDg.out) hUl2 HUs.out).mono ?_
         rintro r Wm ⟨vm, rfl, hRm, hbm⟩
         have HDm := Lib.hid (HDg.out.trans (hbm.mono HDg.out.size))
         have HRm := Lib.hid hRm
         obtain ⟨qm, cm, rfl, -⟩ := hRm
         clear hbm
         go_wp2_with fail
         refine (HTu.out Wm _ (HX9.out _ HDm.out)).mono ?_
         rintro r Wn ⟨vn, rfl, hRn, hbn⟩
         have HDn := Lib.hid (HDm.out.trans (hbn.mono HDm.out.size))
         have HRmn := Lib.hid (HRm.out.below hbn)
         have HRn := Lib.hid hRn
         obtain ⟨qn, cn, rfl, -⟩ := hRn
         clear hbn
         go_wp2_with fail
         refine (HSm.out U hUl2 _ _ Wn HRmn.out HRn.out).mono ?_
         rintro r Wo ⟨rfl, hbo⟩
         have HDo := Lib.hid (HDn.out.trans (hbo.mono HDn.out.size))
         clear hbo
         have hgr := HFg.out _ HDo.out
         clear e1 e2 e3 e4
         go_wp2_with fail
         refine (HFi.out _ (HB9.out.trans ((HDo).out.mono HB9.out.size))).mono ?_
         rintro r Wh ⟨rfl, hbh⟩
         have HDh := Lib.hid (((HDo).out).trans (hbh.mono ((HDo).out).size))
         have hgh := HFg.out _ HDh.out
         have HRGh := Lib.hid (HRG.out.below (HC4.out.trans ((HB9.out.trans (HDh.out.mono HB9.out.size)).mono HC4.out.size)))
         have HVh := Lib.hid fun W (hw : Below w9.heap.size w9 W) => HVt.out W (HB9.out.trans (hw.mono HB9.out.size))
         clear hbh hgr
         rcases HCo.out with ⟨hf0, hlo⟩ | ⟨hf1, rfl⟩
         · have HLo := Lib.hid hlo
           have HTp := Lib.hid (tops_of_id HG.out HTok.out hf0)
           have hll : lo.length ≤ 1000000 := by
             rw [hlo]
             have h1 := ordTo_len T G.ids' T.length (T.length + 1)
             have h2 : G.ids'.length = G.V.length := by rw [Gr.ids', List.length_map]
             have h3 : (T.length + 1) * G.ids'.length ≤ 31 * 40 := Nat.mul_le_mul (by omega) (by omega)
             omega
           have hf2 : ((G.fitT T : Nat) : Int) = 0 := by rw [hf0]; rfl
           clear hlo hf0
           simp only [hf2]
           clear hf2
           go_wp2_with fail
           refine (rorder_any T HPI.out (by omega) G HG.out (by omega) _ _ _ Wh (HX9.out _ HDh.out) HRGh.out HTp.out).mono ?_
           rintro r Wi ⟨vi, rfl, hOi, hbi⟩
           have HDi := Lib.hid (HDh.out.trans (hbi.mono HDh.out.size))
           have HOi := Lib.hid hOi.rdl
           clear hbi hOi hgh
           go_wp2_with fail
           refine (ints_any lo lo _ _ Wi (HOo.out.below HDi.out) (by rw [HLo.out]; exact HOi.out) hll).mono ?_
           rw [decide_eq_true rfl]
           rintro r Wj ⟨rfl, hbj⟩
           have HDj := Lib.hid (HDi.out.trans (hbj.mono HDi.out.size))
           clear hbj
           go_wp2_with fail
           refine (l26To_any T _ Wj (HVh.out _ HDj.out) (by omega) HSet.out).mono ?_
           rintro r Wk ⟨vk, rfl, hRk, hbk⟩
           have HDk := Lib.hid (HDj.out.trans (hbk.mono HDj.out.size))
           have HRk := Lib.hid hRk
           obtain ⟨qk, ck, rfl, -⟩ := hRk
           clear hbk
           go_wp2_with fail
           refine (HSm.out T (by omega) _ _ Wk HRk.out (HX9.out _ HDk.out)).mono ?_
           rintro r Wl ⟨rfl, hbl⟩
           have HDl := Lib.hid (HDk.out.trans (hbl.mono HDk.out.size))
           clear hbl
           go_wp2_with fail
           go_ret
           exact ⟨rfl, HB4.out.trans ((HB9.out.trans (HDl.out.mono HB9.out.size)).mono HB4.out.size)⟩
         · have z1 : ((G.fitT T : Int) != 0) = true := by simpa using hf1
           have z2 : ((G.fitT T : Int) == 0) = false := by simpa using hf1
           clear hgh
           go_wp2_with fail
           go_ret
           exact ⟨rfl, HB4.out.trans ((HB9.out.trans (HDh.out.mono HB9.out.size)).mono HB4.out.size)⟩
       · have hgr := HFg.out _ HDg.out
         rcases (show id < 0 ∨ 0 ≤ id by omega) with h | h
         · have e1 : decide (id < 0) = true := decide_eq_true h
           go_wp2_with fail
           refine (HFi.out _ (HB9.out.trans ((HDg).out.mono HB9.out.size))).mono ?_
           rintro r Wh ⟨rfl, hbh⟩
           have HDh := Lib.hid (((HDg).out).trans (hbh.mono ((HDg).out).size))
           have hgh := HFg.out _ HDh.out
           have HRGh := Lib.hid (HRG.out.below (HC4.out.trans ((HB9.out.trans (HDh.out.mono HB9.out.size)).mono HC4.out.size)))
           have HVh := Lib.hid fun W (hw : Below w9.heap.size w9 W) => HVt.out W (HB9.out.trans (hw.mono HB9.out.size))
           clear hbh hgr
           rcases HCo.out with ⟨hf0, hlo⟩ | ⟨hf1, rfl⟩
           · have HLo := Lib.hid hlo
             have HTp := Lib.hid (tops_of_id HG.out HTok.out hf0)
             have hll : lo.length ≤ 1000000 := by
               rw [hlo]
               have h1 := ordTo_len T G.ids' T.length (T.length + 1)
               have h2 : G.ids'.length = G.V.length := by rw [Gr.ids', List.length_map]
               have h3 : (T.length + 1) * G.ids'.length ≤ 31 * 40 := Nat.mul_le_mul (by omega) (by omega)
               omega
             have hf2 : ((G.fitT T : Nat) : Int) = 0 := by rw [hf0]; rfl
             clear hlo hf0
             simp only [hf2]
             clear hf2
             go_wp2_with fail
             refine (rorder_any T HPI.out (by omega) G HG.out (by omega) _ _ _ Wh (HX9.out _ HDh.out) HRGh.out HTp.out).mono ?_
             rintro r Wi ⟨vi, rfl, hOi, hbi⟩
             have HDi := Lib.hid (HDh.out.trans (hbi.mono HDh.out.size))
             have HOi := Lib.hid hOi.rdl
             clear hbi hOi hgh
             go_wp2_with fail
             refine (ints_any lo lo _ _ Wi (HOo.out.below HDi.out) (by rw [HLo.out]; exact HOi.out) hll).mono ?_
             rw [decide_eq_true rfl]
             rintro r Wj ⟨rfl, hbj⟩
             have HDj := Lib.hid (HDi.out.trans (hbj.mono HDi.out.size))
             clear hbj
             go_wp2_with fail
             refine (l26To_any T _ Wj (HVh.out _ HDj.out) (by omega) HSet.out).mono ?_
             rintro r Wk ⟨vk, rfl, hRk, hbk⟩
             have HDk := Lib.hid (HDj.out.trans (hbk.mono HDj.out.size))
             have HRk := Lib.hid hRk
             obtain ⟨qk, ck, rfl, -⟩ := hRk
             clear hbk
             go_wp2_with fail
             refine (HSm.out T (by omega) _ _ Wk HRk.out (HX9.out _ HDk.out)).mono ?_
             rintro r Wl ⟨rfl, hbl⟩
             have HDl := Lib.hid (HDk.out.trans (hbl.mono HDk.out.size))
             clear hbl
             go_wp2_with fail
             go_ret
             exact ⟨rfl, HB4.out.trans ((HB9.out.trans (HDl.out.mono HB9.out.size)).mono HB4.out.size)⟩
           · have z1 : ((G.fitT T : Int) != 0) = true := by simpa using hf1
             have z2 : ((G.fitT T : Int) == 0) = false := by simpa using hf1
             clear hgh
             go_wp2_with fail
             go_ret
             exact ⟨rfl, HB4.out.trans ((HB9.out.trans (HDh.out.mono HB9.out.size)).mono HB4.out.size)⟩
         · have h2 : (T.length : Int) ≤ id := by omega
           have e1 : decide (id < 0) = false := decide_eq_false (by omega)
           have e2 : decide ((T.length : Int) ≤ id) = true := decide_eq_true h2
           have e4 : ¬ id < 0 := by omega
           go_wp2_with fail
           refine (HFi.out _ (HB9.out.trans ((HDg).out.mono HB9.out.size))).mono ?_
           rintro r Wh ⟨rfl, hbh⟩
           have HDh := Lib.hid (((HDg).out).trans (hbh.mono ((HDg).out).size))
           have hgh := HFg.out _ HDh.out
           have HRGh := Lib.hid (HRG.out.below (HC4.out.trans ((HB9.out.trans (HDh.out.mono HB9.out.size)).mono HC4.out.size)))
           have HVh := Lib.hid fun W (hw : Below w9.heap.size w9 W) => HVt.out W (HB9.out.trans (hw.mono HB9.out.size))
           clear hbh hgr
           rcases HCo.out with ⟨hf0, hlo⟩ | ⟨hf1, rfl⟩
           · have HLo := Lib.hid hlo
             have HTp := Lib.hid (tops_of_id HG.out HTok.out hf0)
             have hll : lo.length ≤ 1000000 := by
               rw [hlo]
               have h1 := ordTo_len T G.ids' T.length (T.length + 1)
               have h2 : G.ids'.length = G.V.length := by rw [Gr.ids', List.length_map]
               have h3 : (T.length + 1) * G.ids'.length ≤ 31 * 40 := Nat.mul_le_mul (by omega) (by omega)
               omega
             have hf2 : ((G.fitT T : Nat) : Int) = 0 := by rw [hf0]; rfl
             clear hlo hf0
             simp only [hf2]
             clear hf2
             go_wp2_with fail
             refine (rorder_any T HPI.out (by omega) G HG.out (by omega) _ _ _ Wh (HX9.out _ HDh.out) HRGh.out HTp.out).mono ?_
             rintro r Wi ⟨vi, rfl, hOi, hbi⟩
             have HDi := Lib.hid (HDh.out.trans (hbi.mono HDh.out.size))
             have HOi := Lib.hid hOi.rdl
             clear hbi hOi hgh
             go_wp2_with fail
             refine (ints_any lo lo _ _ Wi (HOo.out.below HDi.out) (by rw [HLo.out]; exact HOi.out) hll).mono ?_
             rw [decide_eq_true rfl]
             rintro r Wj ⟨rfl, hbj⟩
             have HDj := Lib.hid (HDi.out.trans (hbj.mono HDi.out.size))
             clear hbj
             go_wp2_with fail
             refine (l26To_any T _ Wj (HVh.out _ HDj.out) (by omega) HSet.out).mono ?_
             rintro r Wk ⟨vk, rfl, hRk, hbk⟩
             have HDk := Lib.hid (HDj.out.trans (hbk.mono HDj.out.size))
             have HRk := Lib.hid hRk
             obtain ⟨qk, ck, rfl, -⟩ := hRk
             clear hbk
             go_wp2_with fail
             refine (HSm.out T (by omega) _ _ Wk HRk.out (HX9.out _ HDk.out)).mono ?_
             rintro r Wl ⟨rfl, hbl⟩
             have HDl := Lib.hid (HDk.out.trans (hbl.mono HDk.out.size))
             clear hbl
             go_wp2_with fail
             go_ret
             exact ⟨rfl, HB4.out.trans ((HB9.out.trans (HDl.out.mono HB9.out.size)).mono HB4.out.size)⟩
           · have z1 : ((G.fitT T : Int) != 0) = true := by simpa using hf1
             have z2 : ((G.fitT T : Int) == 0) = false := by simpa using hf1
             clear hgh
             go_wp2_with fail
             go_ret
             exact ⟨rfl, HB4.out.trans ((HB9.out.trans (HDh.out.mono HB9.out.size)).mono HB4.out.size)⟩
     · obtain ⟨R, hR⟩ : ∃ R, R = rCheckN T := ⟨_, rfl⟩
       have hF : rFitsN G T = R := by unfold rFitsN; rw [if_pos h0, hR]
       rw [← hR] at HCk h0
       rw [hF] at HCg
       rw [← hR]
       have hz1 : ((R : Int) != 0) = true := by simpa using h0
       have hz2 : ((R : Int) == 0) = false := by simpa using h0
       clear hR hF
       go_wp2_with fail
       refine (HVx.out w4 (Below.refl _ _)).mono ?_
       rintro r w5 ⟨rfl, hb5⟩
       have HB5 := Lib.hid hb5
       have hs5 := hb5.size
       clear hb5 HVx
       go_wp2_with fail
       obtain ⟨W5, hW5⟩ : ∃ W5, W5 = w5.alloc (.cells (words G.vset) 57) := ⟨_, rfl⟩
       have hB5 : Below w4.heap.size w4 W5 := by rw [hW5]; exact HB5.out.alloc HB5.out.size _
       have hr5 : row? W5 w5.heap.size = some (words G.vset) := by rw [hW5]; exact row?_alloc_at _ _ _ _ rfl
       rw [← hW5]
       obtain ⟨qi, hqi⟩ : ∃ qi, qi = w5.heap.size := ⟨_, rfl⟩
       rw [← hqi] at hr5 ⊢
       have hl5 := row?_lt hr5
       have HR5 := Lib.hid hr5
       have HB5 := Lib.hid hB5
       clear hW5 hqi hB5 hr5
       refine (reduce_bad R h0 _ W5 ⟨_, _, _, rfl⟩ (HCk.out _ HB5.out)).mono ?_
       rintro r w6 ⟨rfl, hb6⟩
       have HB6 := Lib.hid (HB5.out.trans (hb6.mono HB5.out.size))
       have HR6 := Lib.hid ((row?_below hb6 hl5).trans HR5.out)
       have hs6 := hb6.size
       clear hb6
       go_wp2_with fail
       refine (reroot_bad R h0 _ id w6 ⟨_, _, _, rfl⟩ (HCk.out _ HB6.out)).mono ?_
       rintro r w7 ⟨rfl, hb7⟩
       have HB7 := Lib.hid (HB6.out.trans (hb7.mono HB6.out.size))
       have hr7 := (row?_below hb7 (by omega)).trans HR6.out
       have hs7 := hb7.size
       clear hb7
       go_wp2_with fail
       refine (restrict_bad R h0 _ G.vset w7 ⟨_, _, _, rfl⟩ fun W hw => HCk.out _ (HB7.out.trans (hw.mono HB7.out.size))).mono ?_
       rintro r w8 ⟨rfl, hb8⟩
       have HB8 := Lib.hid (HB7.out.trans (hb8.mono HB7.out.size))
       clear hb8 hr7
       go_wp2_with fail
       refine (elim_bad R h0 _ _ w8 ⟨⟨_, _, _, rfl⟩, _, rfl⟩ (HCg.out _ HB8.out)).mono ?_
       rintro r w9 ⟨rfl, hb9⟩
       have HB9 := Lib.hid (HB4.out.trans ((HB8.out.trans (hb9.mono HB8.out.size)).mono HB4.out.size))
       clear hb9
       go_wp2_with fail
       go_ret
       exact ⟨rfl, HB9.out⟩
   · have hd30 : decide ((30 : Int) < (T.length : Int)) = true := by simp; omega
     have hd31 : decide (30 < T.length) = true := by simp; omega
     go_wp2_with fail
     refine (HK.out _ HB2.out).mono ?_
     rintro r w3 ⟨rfl, hb3⟩
     have HB3 := Lib.hid (HB2.out.trans (hb3.mono HB2.out.size))
     clear hb3
     go_wp2_with fail
     go_ret
     exact ⟨rfl, HB3.out⟩
end Go.Proofs.YtmmhngjndnonhaaGreatDoor
