/-
  The walk of the statement TreeDecompRerooted.
-/
import Derived.Test.YtpflnkedolmamaaGreatDoorQKW
import Derived.Test.YtpflnkedolmamaaGreatDoorQJI
set_option linter.unusedSimpArgs false
set_option linter.unusedVariables false
namespace Go.Proofs.YtpflnkedolmamaaGreatDoor
open Go Go.RowKit Go.Pal
attribute [local go_sem] Oper.semAt_some

set_option maxRecDepth 10000 in
set_option maxHeartbeats 8000000 in
theorem rrLaw_any (es : List Ed) (hes : ∀ e ∈ es, e.Wf) (ts : List Nat) (hts : ∀ t ∈ ts, t < 256) (k0 : Nat) (hk0 : k0 < 256) (vl vt : Value) (w : World) (hl : Rd edC 5 w.heap.size w vl es) (hc : ∃ a n c, vl = .slice a n c ∧ n ≤ c ∧ c ≤ 9223372036854775807) (ht : Rd u8C 1 w.heap.size w vt ts) (htl : ts.length ≤ 9223372036854775807) (hT : Tab2 w) :
    Calls Tryz.prog 6 #[vl, vt, .int .u8 (k0 : Int)] w fun e w' => e = .returned (.bool true) ∧ Below w.heap.size w w' := by
  have HT := Lib.hid hT
  have HBe := Lib.hid (begun_any es hes ts hts vl vt w hl hc ht htl)
  have HK := Lib.hid fun W (h : Below w.heap.size w W) => known26_any W (hT.on h)
  have hwf : ∀ e ∈ es.take 40, e.Wf := fun e he => hes e (List.mem_of_mem_take he)
  have hGk := madeTo_ok hwf (es.take 40).length
  have hGl := madeTo_len hwf (es.take 40).length
  have h40 : (es.take 40).length ≤ 40 := List.length_take_le _ _
  obtain ⟨G, hG⟩ : ∃ G, G = madeTo (es.take 40) (es.take 40).length := ⟨_, rfl⟩
  rw [← hG] at HBe hGk hGl
  have HG := Lib.hid hGk
  obtain ⟨al, nl, cl, rfl, -, -⟩ := hc
  obtain ⟨at', ct, rfl⟩ := ht.sl
  obtain ⟨few, hfew⟩ : ∃ few, few = decide (es.length ≤ 40) := ⟨_, rfl⟩
  rw [← hfew] at HBe
  clear hl ht hes hts hT hwf hG hGk hfew
  go_enter Tryz.func6, Tryz.ntmps6
  go_wp2_with fail
  refine HBe.out.mono ?_
  rintro r w1 ⟨g, bV, bE, vV, vE, vo, o, rfl, hG1, hRG, ho, hp, hb1⟩
  have HG1 := Lib.hid hG1
  have HO := Lib.hid ho
  have hol : o.length ≤ 64 := by rw [hp.length_eq, Gr.ids', List.length_map]; omega
  have HB1 := Lib.hid hb1
  have h0 : G.ordE o = 0 := (HG.out.ordE_iff o).2 hp
  obtain ⟨o', ho', hlt, hnd, hcl, hl', hids⟩ := HG.out.order hp
  have hfT : foT G o = foTree (fun x => G.near (x : Int)) o' := by rw [foT, if_pos h0, ho', toNat_cast]
  have htok := foTree_tok HG.out hnd hcl
  have hfit := foTree_fit HG.out hnd hcl hids
  have hset := foT_set HG.out o
  have hlen : (foT G o).length ≤ 65 := Nat.le_trans foT_len (by omega)
  rw [← hfT] at htok hfit
  obtain ⟨aV, cV, hvV⟩ := hRG.1.sl
  obtain ⟨aE, cE, hvE⟩ := hRG.2.sl
  subst hvV hvE
  obtain ⟨ao, co, rfl, -⟩ := ho
  have H0 := Lib.hid h0
  have hle : (foT G o).length ≤ 1024 := by omega
  obtain ⟨tt, hval, hlab, -⟩ := htok.val hle hset
  obtain ⟨T, hTT⟩ : ∃ T, T = foT G o := ⟨_, rfl⟩
  obtain ⟨r0, hr0⟩ : ∃ r0, r0 = o'.length - 1 := ⟨_, rfl⟩
  rw [← hTT] at htok hfit hset hlen hval hle
  rw [← hr0] at htok hlab
  have HTok := Lib.hid htok
  have HFit := Lib.hid hfit
  have HSet := Lib.hid hset
  have HVal := Lib.hid hval
  have HLab := Lib.hid hlab
  have HTT := Lib.hid hTT
  have hpos := htok.lt
  clear hG1 hRG hp hb1 HBe hids hcl hnd hlt hl' h0 hfT htok hfit hset hval hlab hTT hr0 ho'
  go_wp2_with fail
  have hba : Below w1.heap.size w1 (w1.alloc (.cells #[.slice aV G.V.length cV, .slice aE G.E.length cE] 44)) := (Below.refl _ w1).alloc (Nat.le_refl _) _
  refine (HK.out _ (HB1.out.trans (hba.mono HB1.out.size))).mono ?_
  rintro r w2 ⟨rfl, hb2⟩
  have hc2 := hba.trans (hb2.mono (by simp))
  have HC2 := Lib.hid hc2
  have HB2 := Lib.hid (HB1.out.trans (hc2.mono HB1.out.size))
  clear hba hb2 hc2
  cases few with
  | false =>
    go_wp2_with fail
    refine (HK.out _ HB2.out).mono ?_
    rintro r w3 ⟨rfl, hb3⟩
    have HB3 := Lib.hid (HB2.out.trans (hb3.mono HB2.out.size))
    clear hb3
    go_wp2_with fail
    go_ret
    exact ⟨rfl, HB3.out⟩
  | true =>
    have hfo := fun W (hw : Below w2.heap.size w2 W) => fo_any G HG.out o hol g bV bE W _ (HO.out.below (HC2.out.trans (hw.mono HC2.out.size))) (HG1.out.below (HC2.out.trans (hw.mono HC2.out.size))) (HT.out.on (HB2.out.trans (hw.mono HB2.out.size)))
    rw [H0.out, ← HTT.out] at hfo
    have HFo := Lib.hid hfo
    clear hfo
    go_wp2_with fail
    refine (HFo.out w2 (Below.refl _ _)).mono ?_
    rintro r w3 ⟨v1, rfl, hv1, hb3⟩
    have HV1 := Lib.hid hv1
    have HB3 := Lib.hid hb3
    obtain ⟨q1, c1, rfl⟩ := hv1.sl
    have hs3 := hb3.size
    have HVr := Lib.hid fun W (hw : Below w3.heap.size w3 W) => (hv1.below hw (Nat.le_refl _)).mono hw.size
    clear hv1 hb3 HFo
    go_wp2_with fail
    refine (tRoot_val0 T tt HVal.out _ w3 HV1.out).mono ?_
    rw [HLab.out]
    rintro r w4 ⟨rfl, hb4⟩
    have HC4 := Lib.hid hb4
    clear hb4
    obtain ⟨k, hkd⟩ : ∃ k, k = k0 % T.length := ⟨_, rfl⟩
    have hkl : k < T.length := by rw [hkd]; exact Nat.mod_lt _ (by omega)
    have hkm : ((k0 : Int) % (T.length : Int)) = (k : Int) := by rw [hkd]; exact (Int.natCast_emod k0 T.length).symm
    have HKM := Lib.hid hkm
    clear hkd hkm
    go_wp2_with fail
    rw [HKM.out]
    refine (reroot_any T r0 HTok.out HSet.out _ k hkl w4 (HVr.out w4 HC4.out) hle).mono ?_
    rintro r w5 ⟨v5, U, rfl, hO5, hU, hTU, hb5⟩
    have HU := Lib.hid hU
    have HTU := Lib.hid hTU
    have hUl : U.length = T.length := hTU.len
    have HUS := Lib.hid (sets_same hTU.bags HSet.out)
    have HV5 := Lib.hid fun W (hw : Below w5.heap.size w5 W) => ((hO5.rd elB).below hw (Nat.le_refl _)).mono hw.size
    have HC5 := Lib.hid (HC4.out.trans (hb5.mono HC4.out.size))
    obtain ⟨q5, c5, rfl⟩ := hO5.sl
    have HUL := Lib.hid hUl
    rw [hUl]
    clear hO5 hU hTU hb5 hUl
    go_wp2_with fail
    have hrr := reroot_any U k HU.out HUS.out (.slice q5 U.length c5) r0 (by rw [HUL.out]; exact hpos) w5 (HV5.out w5 (Below.refl _ _)) (by rw [HUL.out]; exact hle)
    rw [HUL.out] at hrr
    refine hrr.mono ?_
    rintro r w6 ⟨v6, U2, rfl, hO6, hU2, hUU, hb6⟩
    have hsame := HTU.out.trans hUU
    have hU2T : T = U2 := by
      obtain ⟨rk, M, hrk⟩ := hU2.rk
      symm
      refine turn_unique HTok.out hsame hU2.head fun i hi => ?_
      rcases parU_neg hrk hi with h | ⟨p, h, -, -⟩
      · exact .inl h
      · exact .inr ⟨p, h⟩
    subst hU2T
    have HV6 := Lib.hid fun W (hw : Below w6.heap.size w6 W) => ((hO6.rd elB).below hw (Nat.le_refl _)).mono hw.size
    have HV5 := Lib.hid fun W (hw : Below w6.heap.size w6 W) => HV5.out W (hb6.trans (hw.mono hb6.size))
    have HC6 := Lib.hid (HC5.out.trans (hb6.mono HC5.out.size))
    have HD6 := Lib.hid (HB3.out.trans (HC6.out.mono HB3.out.size))
    obtain ⟨q6, c6, rfl⟩ := hO6.sl
    obtain ⟨tu, huv, hulab, -⟩ := HU.out.val (by rw [HUL.out]; exact hle) HUS.out
    have HUV := Lib.hid huv
    have HULab := Lib.hid hulab
    clear hrr hO6 hU2 hUU hb6 hsame huv hulab
    have hv5 := HV5.out w6 (Below.refl _ _)
    rw [HUL.out] at hv5
    have HR6 := Lib.hid (tRoot_val0 U tu HUV.out _ w6 hv5)
    rw [HULab.out] at HR6
    have hcg := fun W (hw : Below w6.heap.size w6 W) => checkGraph_any U HUS.out g bV bE G HG.out (.slice q5 U.length c5) W (HV5.out W hw) (by rw [HUL.out]; omega) (HG1.out.below (HC2.out.trans ((HD6.out.trans (hw.mono HD6.out.size)).mono HC2.out.size))) fun W' hw' => check_val0 U tu HUV.out _ W' (HV5.out W' (hw.trans (hw'.mono hw.size)))
    rw [fitT_same G HTU.out.bags, HFit.out, HUL.out] at hcg
    have HCG := Lib.hid hcg
    have hwu := fun W (hw : Below w6.heap.size w6 W) => width_any U (.slice q5 U.length c5) W (HV5.out W hw) (by rw [HUL.out]; omega)
    rw [widTo_same HTU.out.bags, HUL.out] at hwu
    have HWU := Lib.hid hwu
    have HWT := Lib.hid fun W (hw : Below w6.heap.size w6 W) => width_any T _ W (HVr.out W (HC6.out.trans (hw.mono HC6.out.size))) (by omega)
    have HEq := Lib.hid fun W (hw : Below w6.heap.size w6 W) => tdEqual_any T T HSet.out HSet.out _ _ W (HV6.out W hw) (HVr.out W (HC6.out.trans (hw.mono HC6.out.size))) (by omega) (by omega)
    obtain ⟨wid, hwid⟩ : ∃ wid, wid = widTo T T.length := ⟨_, rfl⟩
    rw [← hwid] at HWU HWT
    rw [decide_eq_true rfl] at HEq
    clear hv5 hcg hwu hwid
    go_wp2_with fail
    refine HR6.out.mono ?_
    rintro r w7 ⟨rfl, hb7⟩
    have HC7 := Lib.hid hb7
    clear hb7 HR6
    go_wp2_with fail
    refine (HCG.out w7 HC7.out).mono ?_
    rintro r w8 ⟨rfl, hb8⟩
    have HC8 := Lib.hid (HC7.out.trans (hb8.mono HC7.out.size))
    clear hb8 HCG
    go_wp2_with fail
    refine (HWU.out w8 HC8.out).mono ?_
    rintro r w9 ⟨rfl, hb9⟩
    have HC9 := Lib.hid (HC8.out.trans (hb9.mono HC8.out.size))
    clear hb9 HWU
    go_wp2_with fail
    refine (HWT.out w9 HC9.out).mono ?_
    rintro r w10 ⟨rfl, hb10⟩
    have HC10 := Lib.hid (HC9.out.trans (hb10.mono HC9.out.size))
    clear hb10 HWT
    go_wp2_with fail
    refine (HEq.out w10 HC10.out).mono ?_
    rintro r w11 ⟨rfl, hb11⟩
    have HC11 := Lib.hid (HC10.out.trans (hb11.mono HC10.out.size))
    clear hb11 HEq
    go_wp2_with fail
    have HVt := Lib.hid fun W (hw : Below w6.heap.size w6 W) => HVr.out W (HC6.out.trans (hw.mono HC6.out.size))
    go_loopw [19] (fun j wr => ∃ i : Nat, i ≤ T.length ∧ j = .int .i64 (i : Int) ∧ Below w6.heap.size w6 wr) (fun j _ => T.length - (intOf j).toNat)
    case atStart => exact ⟨0, by omega, rfl, HC11.out⟩
    case round =>
      obtain ⟨i, hi, rfl, hbr⟩ := hrel
      have HBr := Lib.hid hbr
      have hsr := hbr.size
      clear hbr
      by_cases hlt : i < T.length
      · obtain ⟨bt, ot, ct1, x, h1, hbt, hx, hcx⟩ := (HVt.out wr HBr.out).at hlt
        have hvu := HV5.out wr HBr.out
        obtain ⟨bu, ou, cu1, y, h2, hbu, hy, hcy⟩ := hvu.at (show i < U.length by rw [HUL.out]; exact hlt)
        simp only [Value.slice.injEq] at h1 h2
        obtain ⟨rfl, -, rfl⟩ := h1
        obtain ⟨rfl, -, rfl⟩ := h2
        have hbag := HTU.out.bag i
        rw [bagN_of hx, bagN_of hy] at hbag
        obtain ⟨pt, S⟩ := x
        obtain ⟨pu, S'⟩ := y
        simp only at hbag
        subst hbag
        have hpt : parU T i = pt := by simp [parU, hx]
        have hpu : parU U i = pu := by simp [parU, hy]
        have hq : eqW S' S' = true := eqW_self S'
        have hpu2 : pu = -1 ∨ ∃ p : Nat, pu = (p : Int) ∧ p < T.length := by
          obtain ⟨rk, M, hrk⟩ := HU.out.rk
          rcases parU_neg hrk (show i < U.length by rw [HUL.out]; exact hlt) with h | ⟨p, h, h3, -⟩
          · exact .inl (by rw [← hpu, h])
          · exact .inr ⟨p, by rw [← hpu, h], by rw [← HUL.out]; exact h3⟩
        have ld : ∀ (b off : Nat) (q : Int) (R : Nat), (∀ W, Below wr.heap.size wr W → ∀ j u, (bagA (q, R))[j]? = some u → W.cell? ⟨b, off + i * 17 + j, none⟩ = some u) → ∀ W, Below wr.heap.size wr W → rowLoad Tryz.prog 33 ⟨b, off + i * 17 + 1, none⟩ W = .ok (.agg (words R)) W ∧ W.cell? ⟨b, off + i * 17, none⟩ = some (.int .i64 q) := fun b off q R hc W hw =>
          ⟨load_cells Tryz.isAgg33 Tryz.sizeOf33 W b _ (words R) (words_size _) fun j u hu => by
            have := hc W hw (j + 1) u (by rw [bagA_succ]; exact hu)
            rw [show off + i * 17 + 1 + j = off + i * 17 + (j + 1) by omega]
            exact this, by have := hc W hw 0 _ (bagA_zero (q, R)); simpa using this⟩
        have HLt := Lib.hid (ld _ _ _ _ hcx)
        have HLu := Lib.hid (ld _ _ _ _ hcy)
        have hadj := HTU.out.adj i
        have HVt2 := HVt
        by_cases hc1 : pu < 0
        · have hge : decide (0 ≤ pu) = false := by simpa using hc1
          have HF := Lib.hid fun W (hw : Below wr.heap.size wr W) => (⟨(HLu.out W hw).1, (HLu.out W hw).2, (HLt.out W hw).1, (HLt.out W hw).2, trivial⟩ : _ ∧ _ ∧ _ ∧ _ ∧ True)
          clear hx hy hcx hcy hpt hpu hpu2 hadj ld hc1
          go_wp2_with fail
          refine wp_region_free (fun w' => Below wr.heap.size wr w') (by kernel_rfl) (by kernel_rfl) (Below.refl _ _).drew ?_
          repeat (first | (apply wpFree_still; (intro w hw; obtain ⟨k1, k2, k3, k4, k5⟩ := HF.out _ hw; clear hw; go_simp; (try go_ints); (first | with_reducible rfl | (go_simp; with_reducible rfl))); with_reducible rfl; (intro K hK; go_simp; (try go_ints); refine hK _ ?_; clear hK K)) | (apply wpFree_stillG rfl; (intro w hw; obtain ⟨k1, k2, k3, k4, k5⟩ := HF.out _ hw; clear hw; go_simp; (try go_ints); (first | with_reducible rfl | (go_simp; with_reducible rfl))); (intro K hK; go_simp; (try go_ints); refine hK _ ?_; clear hK K)) | (apply wpFree_skip rfl; (intro K hK; go_simp; (try go_ints); refine hK _ ?_; clear hK K)))
          with_reducible refine wpFree_nil ?_
          intro w12 hb12
          have HB12 := Lib.hid (HBr.out.trans (hb12.mono HBr.out.size))
          clear hb12
          go_wp2_with fail
          go_roundw
          case rel => exact ⟨i + 1, by omega, by go_num, HB12.out⟩
          case measure => simp [intOf]; omega
        · have hge : decide (0 ≤ pu) = true := by simpa using hc1
          by_cases hc2 : pu = pt
          · subst hc2
            have HF := Lib.hid fun W (hw : Below wr.heap.size wr W) => (⟨(HLu.out W hw).1, (HLu.out W hw).2, (HLt.out W hw).1, (HLt.out W hw).2, trivial⟩ : _ ∧ _ ∧ _ ∧ _ ∧ True)
            clear hx hy hcx hcy hpt hpu hpu2 hadj ld hc1
            go_wp2_with fail
            refine wp_region_free (fun w' => Below wr.heap.size wr w') (by kernel_rfl) (by kernel_rfl) (Below.refl _ _).drew ?_
            repeat (first | (apply wpFree_still; (intro w hw; obtain ⟨k1, k2, k3, k4, k5⟩ := HF.out _ hw; clear hw; go_simp; (try go_ints); (first | with_reducible rfl | (go_simp; with_reducible rfl))); with_reducible rfl; (intro K hK; go_simp; (try go_ints); refine hK _ ?_; clear hK K)) | (apply wpFree_stillG rfl; (intro w hw; obtain ⟨k1, k2, k3, k4, k5⟩ := HF.out _ hw; clear hw; go_simp; (try go_ints); (first | with_reducible rfl | (go_simp; with_reducible rfl))); (intro K hK; go_simp; (try go_ints); refine hK _ ?_; clear hK K)) | (apply wpFree_skip rfl; (intro K hK; go_simp; (try go_ints); refine hK _ ?_; clear hK K)))
            with_reducible refine wpFree_nil ?_
            intro w12 hb12
            have HB12 := Lib.hid (HBr.out.trans (hb12.mono HBr.out.size))
            clear hb12
            go_wp2_with fail
            go_roundw
            case rel => exact ⟨i + 1, by omega, by go_num, HB12.out⟩
            case measure => simp [intOf]; omega
          · obtain ⟨p, rfl, hpl⟩ : ∃ p : Nat, pu = (p : Int) ∧ p < T.length := by
              rcases hpu2 with h | h
              · omega
              · exact h
            have hpi : parU T p = (i : Int) := by
              rcases (hadj p).1 (.inl hpu) with h | h
              · rw [hpt] at h
                exact absurd h.symm hc2
              · exact h
            obtain ⟨b3, o3, c3, z, h3, hb3, hz, hcz⟩ := (HVt.out wr HBr.out).at hpl
            simp only [Value.slice.injEq, Option.some.injEq, Addr.mk.injEq, and_true] at h3
            obtain ⟨⟨rfl, rfl⟩, -⟩ := h3
            have hz1 : z.1 = (i : Int) := by
              have : parU T p = z.1 := by simp [parU, hz]
              rw [← this, hpi]
            have hne : ((p : Int) != pt) = true := by simpa using hc2
            have hg2 : decide (T.length ≤ p) = false := by simp; omega
            have hg3 : decide ((T.length : Int) ≤ (p : Int)) = false := by simp; omega
            have HF := Lib.hid fun W (hw : Below wr.heap.size wr W) => (⟨(HLu.out W hw).1, (HLu.out W hw).2, (HLt.out W hw).1, (HLt.out W hw).2, by have := hcz W hw 0 _ (bagA_zero z); rw [hz1] at this; simpa using this⟩ : _ ∧ _ ∧ _ ∧ _ ∧ W.cell? ⟨bt, ot + p * 17, none⟩ = some (.int .i64 (i : Int)))
            clear hx hy hcx hcy hpt hpu hpu2 hadj ld hc1 hz hcz hz1 hpi hb3 hc2
            go_wp2_with fail
            refine wp_region_free (fun w' => Below wr.heap.size wr w') (by kernel_rfl) (by kernel_rfl) (Below.refl _ _).drew ?_
            repeat (first | (apply wpFree_still; (intro w hw; obtain ⟨k1, k2, k3, k4, k5⟩ := HF.out _ hw; clear hw; go_simp; (try go_ints); (first | with_reducible rfl | (go_simp; with_reducible rfl))); with_reducible rfl; (intro K hK; go_simp; (try go_ints); refine hK _ ?_; clear hK K)) | (apply wpFree_stillG rfl; (intro w hw; obtain ⟨k1, k2, k3, k4, k5⟩ := HF.out _ hw; clear hw; go_simp; (try go_ints); (first | with_reducible rfl | (go_simp; with_reducible rfl))); (intro K hK; go_simp; (try go_ints); refine hK _ ?_; clear hK K)) | (apply wpFree_skip rfl; (intro K hK; go_simp; (try go_ints); refine hK _ ?_; clear hK K)))
            with_reducible refine wpFree_nil ?_
            intro w12 hb12
            have HB12 := Lib.hid (HBr.out.trans (hb12.mono HBr.out.size))
            clear hb12
            go_wp2_with fail
            go_roundw
            case rel => exact ⟨i + 1, by omega, by go_num, HB12.out⟩
            case measure => simp [intOf]; omega
      · go_wp2_with fail
        go_ret
        exact ⟨rfl, HB2.out.trans ((HD6.out.trans (HBr.out.mono HD6.out.size)).mono HB2.out.size)⟩
end Go.Proofs.YtpflnkedolmamaaGreatDoor
