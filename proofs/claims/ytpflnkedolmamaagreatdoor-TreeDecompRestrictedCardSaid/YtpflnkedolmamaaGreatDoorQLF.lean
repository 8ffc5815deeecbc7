/-
  The walk of the statement TreeDecompRestricted.
-/
import Derived.Test.YtpflnkedolmamaaGreatDoorQLq
import Derived.Test.YtpflnkedolmamaaGreatDoorQLb
import Derived.Test.YtpflnkedolmamaaGreatDoorQJI
set_option linter.unusedSimpArgs false
set_option linter.unusedVariables false
namespace Go.Proofs.YtpflnkedolmamaaGreatDoor
open Go Go.RowKit Go.Pal
attribute [local go_sem] Oper.semAt_some

set_option maxRecDepth 10000 in
set_option maxHeartbeats 2000000 in
theorem resLaw_any (es : List Ed) (hes : ∀ e ∈ es, e.Wf) (ts : List Nat) (hts : ∀ t ∈ ts, t < 256) (I : Nat) (vl vt : Value) (w : World) (hl : Rd edC 5 w.heap.size w vl es) (hc : ∃ a n c, vl = .slice a n c ∧ n ≤ c ∧ c ≤ 9223372036854775807) (ht : Rd u8C 1 w.heap.size w vt ts) (htl : ts.length ≤ 9223372036854775807) (hT : Tab2 w) :
    Calls Tryz.prog 8 #[vl, vt, .agg (words I)] w fun e w' => e = .returned (.bool true) ∧ Below w.heap.size w w' := by
  have HT := Lib.hid hT
  have HBe := Lib.hid fun W (hb : Below w.heap.size w W) => begun_any es hes ts hts vl vt W ((hl.below hb (Nat.le_refl _)).mono hb.size) hc ((ht.below hb (Nat.le_refl _)).mono hb.size) htl
  have HK := Lib.hid fun W (h : Below w.heap.size w W) => known26_any W (hT.on h)
  have hwf : ∀ e ∈ es.take 40, e.Wf := fun e he => hes e (List.mem_of_mem_take he)
  have hGk := madeTo_ok hwf (es.take 40).length
  have hGl := madeTo_len hwf (es.take 40).length
  have h40 : (es.take 40).length ≤ 40 := List.length_take_le _ _
  obtain ⟨G, hG⟩ : ∃ G, G = madeTo (es.take 40) (es.take 40).length := ⟨_, rfl⟩
  rw [← hG] at HBe hGk hGl
  have HG := Lib.hid hGk
  obtain ⟨al, nl, cl, rfl, -, -⟩ := hc
  obtain ⟨at', ct, rfl⟩ := ht.sl
  obtain ⟨few, hfew⟩ : ∃ few, few = decide (es.length ≤ 40) := ⟨_, rfl⟩
  rw [← hfew] at HBe
  clear hl ht hes hts hT hwf hG hGk hfew
  go_enter Tryz.func8, Tryz.ntmps8
  go_wp2_with fail
  obtain ⟨W0, hW0⟩ : ∃ W0, W0 = w.alloc (Obj.cells (words I) 33) := ⟨_, rfl⟩
  have hB0 : Below w.heap.size w W0 := by rw [hW0]; exact (Below.refl _ w).alloc (Nat.le_refl _) _
  have hr0 : row? W0 w.heap.size = some (words I) := by rw [hW0]; exact row?_alloc_at _ _ _ _ rfl
  have hs0 : w.heap.size < W0.heap.size := by rw [hW0]; simp
  rw [← hW0]
  have HB0 := Lib.hid hB0
  have HR0 := Lib.hid hr0
  clear hW0 hB0 hr0
  refine (HBe.out W0 HB0.out).mono ?_
  rintro r w1 ⟨g, bV, bE, vV, vE, vo, o, rfl, hG1, hRG, ho, hp, hb1⟩
  have HG1 := Lib.hid hG1
  have HO := Lib.hid ho
  have hol : o.length ≤ 64 := by rw [hp.length_eq, Gr.ids', List.length_map]; omega
  have hs01 := hb1.size
  have HR1 := Lib.hid ((row?_below hb1 hs0).trans HR0.out)
  have HB1 := Lib.hid (HB0.out.trans (hb1.mono HB0.out.size))
  have h0 : G.ordE o = 0 := (HG.out.ordE_iff o).2 hp
  obtain ⟨o', ho', hlt, hnd, hcl, hl', hids⟩ := HG.out.order hp
  have hfT : foT G o = foTree (fun x => G.near (x : Int)) o' := by rw [foT, if_pos h0, ho', toNat_cast]
  have htok := foTree_tok HG.out hnd hcl
  have hfit := foTree_fit HG.out hnd hcl hids
  have hset := foT_set HG.out o
  have hlen : (foT G o).length ≤ 65 := Nat.le_trans foT_len (by omega)
  rw [← hfT] at htok hfit
  obtain ⟨aV, cV, hvV⟩ := hRG.1.sl
  obtain ⟨aE, cE, hvE⟩ := hRG.2.sl
  subst hvV hvE
  obtain ⟨ao, co, rfl, -⟩ := ho
  have H0 := Lib.hid h0
  have hle : (foT G o).length ≤ 1024 := by omega
  obtain ⟨tt, hval, hlab, -⟩ := htok.val hle hset
  obtain ⟨T, hTT⟩ : ∃ T, T = foT G o := ⟨_, rfl⟩
  obtain ⟨r0, hr0⟩ : ∃ r0, r0 = o'.length - 1 := ⟨_, rfl⟩
  rw [← hTT] at htok hfit hset hlen hval hle
  rw [← hr0] at htok
  have HTok := Lib.hid htok
  have HFit := Lib.hid hfit
  have HSet := Lib.hid hset
  have HVal := Lib.hid hval
  have HTT := Lib.hid hTT
  have hpos := htok.lt
  clear hG1 hRG hp hb1 HBe hids hcl hnd hlt hl' h0 hfT htok hfit hset hval hlab hTT hr0 ho'
  go_wp2_with fail
  have hba : Below w1.heap.size w1 (w1.alloc (.cells #[.slice aV G.V.length cV, .slice aE G.E.length cE] 44)) := (Below.refl _ w1).alloc (Nat.le_refl _) _
  refine (HK.out _ (HB1.out.trans (hba.mono HB1.out.size))).mono ?_
  rintro r w2 ⟨rfl, hb2⟩
  have hc2 := hba.trans (hb2.mono (by simp))
  have HC2 := Lib.hid hc2
  have HB2 := Lib.hid (HB1.out.trans (hc2.mono HB1.out.size))
  clear hba hb2 hc2
  cases few with
  | false =>
    go_wp2_with fail
    refine (HK.out _ HB2.out).mono ?_
    rintro r w3 ⟨rfl, hb3⟩
    have HB3 := Lib.hid (HB2.out.trans (hb3.mono HB2.out.size))
    clear hb3
    go_wp2_with fail
    go_ret
    exact ⟨rfl, HB3.out⟩
  | true =>
    have hfo := fun W (hw : Below w2.heap.size w2 W) => fo_any G HG.out o hol g bV bE W _ (HO.out.below (HC2.out.trans (hw.mono HC2.out.size))) (HG1.out.below (HC2.out.trans (hw.mono HC2.out.size))) (HT.out.on (HB2.out.trans (hw.mono HB2.out.size)))
    rw [H0.out, ← HTT.out] at hfo
    have HFo := Lib.hid hfo
    clear hfo
    go_wp2_with fail
    refine (HFo.out w2 (Below.refl _ _)).mono ?_
    rintro r w3 ⟨v1, rfl, hv1, hb3⟩
    have HV1 := Lib.hid hv1
    have HB3 := Lib.hid hb3
    have HB03 := Lib.hid (HB2.out.trans (hb3.mono HB2.out.size))
    have hr3 := (row?_below (HC2.out.trans (hb3.mono HC2.out.size)) (by omega)).trans HR1.out
    have HR3 := Lib.hid hr3
    have hs3 := HB03.out.size
    have hs13 := (HC2.out.trans (hb3.mono HC2.out.size)).size
    have hw3 : w.heap.size < w3.heap.size := by omega
    have HG3 := Lib.hid (HG1.out.below (HC2.out.trans (hb3.mono HC2.out.size)))
    obtain ⟨q1, c1, rfl⟩ := hv1.sl
    have HVr := Lib.hid fun W (hw : Below w3.heap.size w3 W) => (hv1.below hw (Nat.le_refl _)).mono hw.size
    clear hv1 hb3 HFo
    go_wp2_with fail
    refine (restrict_any T I _ w3 (HVr.out w3 (Below.refl _ _)) (fun e => by rw [e] at hpos; simp at hpos) (by omega) fun W hb => check_val0 T tt HVal.out _ W (HVr.out W hb)).mono ?_
    clear hr3
    rintro r w5 ⟨v5, rfl, hO5, hb5⟩
    have hUok := res_tok HTok.out I
    have hUS := res_sets HSet.out I
    have hUl := resT_len T I
    have hUfit := res_fit HG.out HFit.out I
    have hUwid := res_wid HSet.out I
    have hUcnt := fun v hv => res_count HG.out HFit.out I (v := v) hv
    obtain ⟨U, hU⟩ : ∃ U, U = resT T I := ⟨_, rfl⟩
    rw [← hU] at hO5 hUok hUS hUl hUfit hUwid hUcnt
    obtain ⟨tu, huv, -, -⟩ := hUok.val (by omega) hUS
    have HUV := Lib.hid huv
    have HUS := Lib.hid hUS
    have HUfit := Lib.hid hUfit
    have HUwid := Lib.hid hUwid
    have HUcnt := Lib.hid hUcnt
    have HV5 := Lib.hid fun W (hw : Below w5.heap.size w5 W) => ((hO5.rd elB).below hw (Nat.le_refl _)).mono hw.size
    have HC5 := Lib.hid hb5
    have hr5 := (row?_below hb5 hw3).trans HR3.out
    have hs35 := hb5.size
    have hw5 : w.heap.size < w5.heap.size := by omega
    obtain ⟨q5, c5, rfl⟩ := hO5.sl
    have HUL := Lib.hid hUl
    clear hO5 hb5 hUok hUS hUfit hUwid hUcnt huv hU hUl
    go_wp2_with fail
    refine (check_val0 U tu HUV.out _ w5 (HV5.out w5 (Below.refl _ _))).mono ?_
    rintro r w6 ⟨rfl, hb6⟩
    have HC6 := Lib.hid hb6
    have hr6 := (row?_below hb6 hw5).trans hr5
    have hs56 := hb6.size
    have hw6 : w.heap.size < w6.heap.size := by omega
    clear hb6 hr5
    go_wp2_with fail
    refine (ginduced_any I g bV bE G HG.out w6 (HG3.out.below (HC5.out.trans (HC6.out.mono HC5.out.size)))).mono ?_
    rintro r w7 ⟨g', bV', bE', rfl, hG7, hb7⟩
    have HG7 := Lib.hid hG7
    have HC7 := Lib.hid (HC6.out.trans (hb7.mono HC6.out.size))
    have hr7 := (row?_below hb7 hw6).trans hr6
    have hs67 := hb7.size
    have hw7 : w.heap.size < w7.heap.size := by omega
    have hcg := checkGraph_any U HUS.out g' bV' bE' (G.ind I) (HG.out.ind I) (.slice q5 U.length c5) w7 (HV5.out w7 HC7.out) (by have := HUL.out; omega) HG7.out fun W' hw' => check_val0 U tu HUV.out _ W' (HV5.out W' (HC7.out.trans (hw'.mono HC7.out.size)))
    rw [HUfit.out] at hcg
    have HCG := Lib.hid hcg
    clear hG7 hb7 hr6 hcg
    go_wp2_with fail
    refine HCG.out.mono ?_
    rintro r w8 ⟨rfl, hb8⟩
    have HC8 := Lib.hid (HC7.out.trans (hb8.mono HC7.out.size))
    have hr8 := (row?_below hb8 hw7).trans hr7
    have hs78 := hb8.size
    have hw8 : w.heap.size < w8.heap.size := by omega
    have HWU := Lib.hid fun W (hw : Below w5.heap.size w5 W) => width_any U (.slice q5 U.length c5) W (HV5.out W hw) (by have := HUL.out; omega)
    have HWT := Lib.hid fun W (hw : Below w5.heap.size w5 W) => width_any T (.slice q1 T.length c1) W (HVr.out W (HC5.out.trans (hw.mono HC5.out.size))) (by omega)
    obtain ⟨wu, hwu⟩ : ∃ wu, wu = widTo U U.length := ⟨_, rfl⟩
    obtain ⟨wt, hwt⟩ : ∃ wt, wt = widTo T T.length := ⟨_, rfl⟩
    have hwle : wu ≤ wt := by rw [hwu, hwt]; exact HUwid.out
    have hwd : decide (wt < wu) = false := by simp; omega
    rw [← hwu] at HWU
    rw [← hwt] at HWT
    clear hb8 hr7 HCG hwu hwt hwle
    go_wp2_with fail
    refine (HWU.out w8 HC8.out).mono ?_
    rintro r w9 ⟨rfl, hb9⟩
    have HC9 := Lib.hid (HC8.out.trans (hb9.mono HC8.out.size))
    have hr9 := (row?_below hb9 hw8).trans hr8
    have hs89 := hb9.size
    have hw9 : w.heap.size < w9.heap.size := by omega
    clear hb9 hr8
    go_wp2_with fail
    refine (HWT.out w9 HC9.out).mono ?_
    rintro r w10 ⟨rfl, hb10⟩
    have HC10 := Lib.hid (HC9.out.trans (hb10.mono HC9.out.size))
    have hr10 := (row?_below hb10 hw9).trans hr9
    have hs910 := hb10.size
    have hw10 : w.heap.size < w10.heap.size := by omega
    clear hb10 hr9 HWU HWT
    go_wp2_with fail
    refine (gvertexSet_any g bV bE G HG.out w10 (HG3.out.below (HC5.out.trans (HC10.out.mono HC5.out.size)))).mono ?_
    rintro r w11 ⟨rfl, hb11⟩
    have HC11 := Lib.hid (HC10.out.trans (hb11.mono HC10.out.size))
    have hr11 := (row?_below hb11 hw10).trans hr10
    have hs1011 := hb11.size
    have hw11 : w.heap.size < w11.heap.size := by omega
    have HB11 := Lib.hid (HB03.out.trans ((HC5.out.trans (HC11.out.mono HC5.out.size)).mono HB03.out.size))
    have hvs : IsSet G.vset := HG.out.isSet_vset
    have HVS := Lib.hid hvs
    clear hb11 hr10 hwd hvs
    go_wp2_with fail
    have htab := HT.out.on HB11.out
    refine (elements_any G.vset HVS.out w11 htab.1 htab.2).mono ?_
    rintro r w12 ⟨v12, rfl, hO12, hb12⟩
    have HC12 := Lib.hid (HC11.out.trans (hb12.mono HC11.out.size))
    have hr12 := (row?_below hb12 hw11).trans hr11
    have hs12 := hb12.size
    have hw12 : w.heap.size < w12.heap.size := by omega
    have HR12 := Lib.hid hr12
    have hLen := elemsI_length G.vset
    obtain ⟨q12, n12, c12, rfl⟩ := hO12.slice
    have hn12 := hO12.len
    subst hn12
    have HL := Lib.hid hO12.rdl
    have hLin : ∀ z ∈ elemsI G.vset, ∃ v : Nat, z = (v : Int) ∧ (v : Int) ∈ G.ids' := fun z hz => by
      unfold elemsI at hz
      obtain ⟨v, hv, rfl⟩ := List.mem_map.1 hz
      refine ⟨v, rfl, ?_⟩
      have := (mem_elems HVS.out).1 hv
      rw [HG.out.vset_bit] at this
      simpa using this
    obtain ⟨L, hLL⟩ : ∃ L, L = elemsI G.vset := ⟨_, rfl⟩
    rw [← hLL] at HL hLin hLen ⊢
    have HLin := Lib.hid hLin
    clear hb12 hr11 hr12 hO12 hLL hLin htab
    go_wp2_with fail
    go_loopw [75] (fun j wr => ∃ i : Nat, i ≤ L.length ∧ j = .int .i64 (i : Int) ∧ Below w12.heap.size w12 wr) (fun j _ => L.length - (intOf j).toNat)
    case atStart => exact ⟨0, by omega, rfl, Below.refl _ _⟩
    case round =>
      obtain ⟨i, hi, rfl, hbr⟩ := hrel
      have HBr := Lib.hid hbr
      have hsr := hbr.size
      clear hbr
      by_cases hlt : i < L.length
      · obtain ⟨b, off, c', z, h1, hz, hcz⟩ := HL.out.at hlt
        simp only [Value.slice.injEq] at h1
        obtain ⟨rfl, -, rfl⟩ := h1
        have c0 := hcz wr HBr.out
        obtain ⟨v, rfl, hv⟩ := HLin.out z (List.mem_of_getElem? hz)
        obtain ⟨hA, hB⟩ := HUcnt.out v hv
        have HBU := Lib.hid fun W (hw : Below w5.heap.size w5 W) => bagsOf_any U (v : Int) (.slice q5 U.length c5) W (HV5.out W hw) (by have := HUL.out; omega)
        have HBT := Lib.hid fun W (hw : Below w5.heap.size w5 W) => bagsOf_any T (v : Int) (.slice q1 T.length c1) W (HVr.out W (HC5.out.trans (hw.mono HC5.out.size))) (by omega)
        have hnl : (whereTo U (v : Int) U.length).length ≤ T.length := by have := whereTo_len U (v : Int) U.length; have := HUL.out; omega
        have hml := whereTo_len T (v : Int) T.length
        have hHas := fun W => has_any I (v : Int) W
        rw [show (decide (0 ≤ (v : Int) ∧ (v : Int) < 1024) && I.testBit (v : Int).toNat) = hasI I (v : Int) from rfl, hA] at hHas
        obtain ⟨LU, hLU⟩ : ∃ LU, LU = whereTo U (v : Int) U.length := ⟨_, rfl⟩
        obtain ⟨LT, hLT⟩ : ∃ LT, LT = whereTo T (v : Int) T.length := ⟨_, rfl⟩
        rw [← hLU] at HBU hnl hHas hB
        rw [← hLT] at HBT hml hB
        obtain ⟨N, hN⟩ : ∃ N, N = LU.length := ⟨_, rfl⟩
        rw [← hN] at hnl hHas hB
        have HN := Lib.hid hN
        have HHas := Lib.hid hHas
        have HBB := Lib.hid hB
        have HBr5 := Lib.hid (HC12.out.trans (HBr.out.mono HC12.out.size))
        clear hcz hz hA hB hHas hLU hLT hv hN
        go_wp2_with fail
        refine (HBU.out wr HBr5.out).mono ?_
        rintro r w13 ⟨v13, rfl, hO13, hb13⟩
        obtain ⟨q13, n13, c13, rfl⟩ := hO13.slice
        have hn13 := hO13.len
        rw [← HN.out] at hn13
        have hn13 := hn13.symm
        subst hn13
        have HB13 := Lib.hid (HBr5.out.trans (hb13.mono HBr5.out.size))
        have HD13 := Lib.hid (HBr.out.trans (hb13.mono HBr.out.size))
        have hr13 := (row?_below HD13.out hw12).trans HR12.out
        have hs13 := hb13.size
        have hw13 : w.heap.size < w13.heap.size := by omega
        clear hO13 hb13 c0 HBU
        go_wp2_with fail
        refine (HHas.out w13).mono ?_
        rintro r w14 ⟨rfl, hb14⟩
        have HB14 := Lib.hid (HB13.out.trans (hb14.mono HB13.out.size))
        have HD14 := Lib.hid (HD13.out.trans (hb14.mono HD13.out.size))
        clear hb14 hr13 HHas
        by_cases hN0 : 0 < N
        · have hM := HBB.out hN0
          have hd1 : decide (0 < N) = true := by simpa using hN0
          have hd2 : decide ((0 : Int) < (N : Int)) = true := by simpa using hN0
          have HM := Lib.hid hM
          clear hM
          rw [hd1]
          go_wp2_with fail
          refine (HBT.out w14 HB14.out).mono ?_
          rintro r w15 ⟨v15, rfl, hO15, hb15⟩
          obtain ⟨q15, n15, c15, rfl⟩ := hO15.slice
          have hn15 := hO15.len
          rw [← HM.out] at hn15
          have hn15 := hn15.symm
          subst hn15
          have HD15 := Lib.hid (HD14.out.trans (hb15.mono HD14.out.size))
          clear hO15 hb15 HBT
          go_wp2_with fail
          go_roundw
          case rel => exact ⟨i + 1, by omega, by go_num, HD15.out⟩
          case measure => simp [intOf]; omega
        · have hd1 : decide (0 < N) = false := by simpa using hN0
          have hd2 : decide ((0 : Int) < (N : Int)) = false := by simp; omega
          rw [hd1]
          go_wp2_with fail
          go_roundw
          case rel => exact ⟨i + 1, by omega, by go_num, HD14.out⟩
          case measure => simp [intOf]; omega
      · go_wp2_with fail
        go_ret
        exact ⟨rfl, HB03.out.trans ((HC5.out.trans ((HC12.out.trans (HBr.out.mono HC12.out.size)).mono HC5.out.size)).mono HB03.out.size)⟩
end Go.Proofs.YtpflnkedolmamaaGreatDoor
