/-
  The walk of the statement TreeDecompReduced.
-/
import Derived.Test.YtpflnkedolmamaaGreatDoorQKW
import Derived.Test.YtpflnkedolmamaaGreatDoorQLp
import Derived.Test.YtpflnkedolmamaaGreatDoorQJI
set_option linter.unusedSimpArgs false
set_option linter.unusedVariables false
namespace Go.Pal
open Go
theorem TOk.rankP {T : List Bg} {r : Nat} (h : TOk T r) : ∃ rk, RankP T rk := by
  obtain ⟨rk, M, hk⟩ := h.rk
  refine ⟨rk, fun i x hx => ?_⟩
  have hp : parU T i = x.1 := by simp [parU, hx]
  rcases parU_neg hk (List.getElem?_eq_some_iff.1 hx).1 with h1 | ⟨p, h1, h2, h3⟩
  · exact .inl (by rw [← hp, h1])
  · exact .inr ⟨p, by rw [← hp, h1], h2, h3⟩
theorem redTo_stop {T : List Bg} (h : idx (drawnP T) T < 0) (n : Nat) : redTo n T = T := by
  cases n with
  | zero => rfl
  | succ n =>
    unfold redTo
    rw [if_pos h]
end Go.Pal
namespace Go.Proofs.YtpflnkedolmamaaGreatDoor
open Go Go.RowKit Go.Pal
attribute [local go_sem] Oper.semAt_some

set_option maxRecDepth 10000 in
set_option maxHeartbeats 8000000 in
theorem redLaw_any (es : List Ed) (hes : ∀ e ∈ es, e.Wf) (ts : List Nat) (hts : ∀ t ∈ ts, t < 256) (k0 : Nat) (hk0 : k0 < 256) (vl vt : Value) (w : World) (hl : Rd edC 5 w.heap.size w vl es) (hc : ∃ a n c, vl = .slice a n c ∧ n ≤ c ∧ c ≤ 9223372036854775807) (ht : Rd u8C 1 w.heap.size w vt ts) (htl : ts.length ≤ 9223372036854775807) (hT : Tab2 w) :
    Calls Tryz.prog 5 #[vl, vt, .int .u8 (k0 : Int)] w fun e w' => e = .returned (.bool true) ∧ Below w.heap.size w w' := by
  have HT := Lib.hid hT
  have HBe := Lib.hid (begun_any es hes ts hts vl vt w hl hc ht htl)
  have HK := Lib.hid fun W (h : Below w.heap.size w W) => known26_any W (hT.on h)
  have hwf : ∀ e ∈ es.take 40, e.Wf := fun e he => hes e (List.mem_of_mem_take he)
  have hGk := madeTo_ok hwf (es.take 40).length
  have hGl := madeTo_len hwf (es.take 40).length
  have h40 : (es.take 40).length ≤ 40 := List.length_take_le _ _
  obtain ⟨G, hG⟩ : ∃ G, G = madeTo (es.take 40) (es.take 40).length := ⟨_, rfl⟩
  rw [← hG] at HBe hGk hGl
  have HG := Lib.hid hGk
  obtain ⟨al, nl, cl, rfl, -, -⟩ := hc
  obtain ⟨at', ct, rfl⟩ := ht.sl
  obtain ⟨few, hfew⟩ : ∃ few, few = decide (es.length ≤ 40) := ⟨_, rfl⟩
  rw [← hfew] at HBe
  clear hl ht hes hts hT hwf hG hGk hfew
  go_enter Tryz.func5, Tryz.ntmps5
  go_wp2_with fail
  refine HBe.out.mono ?_
  rintro r w1 ⟨g, bV, bE, vV, vE, vo, o, rfl, hG1, hRG, ho, hp, hb1⟩
  have HG1 := Lib.hid hG1
  have HO := Lib.hid ho
  have hol : o.length ≤ 64 := by rw [hp.length_eq, Gr.ids', List.length_map]; omega
  have HB1 := Lib.hid hb1
  have h0 : G.ordE o = 0 := (HG.out.ordE_iff o).2 hp
  obtain ⟨o', ho', hlt, hnd, hcl, hl', hids⟩ := HG.out.order hp
  have hfT : foT G o = foTree (fun x => G.near (x : Int)) o' := by rw [foT, if_pos h0, ho', toNat_cast]
  have htok := foTree_tok HG.out hnd hcl
  have hfit := foTree_fit HG.out hnd hcl hids
  have hset := foT_set HG.out o
  have hlen : (foT G o).length ≤ 65 := Nat.le_trans foT_len (by omega)
  rw [← hfT] at htok hfit
  obtain ⟨aV, cV, hvV⟩ := hRG.1.sl
  obtain ⟨aE, cE, hvE⟩ := hRG.2.sl
  subst hvV hvE
  obtain ⟨ao, co, rfl, -⟩ := ho
  have H0 := Lib.hid h0
  have hle : (foT G o).length ≤ 1024 := by omega
  obtain ⟨tt, hval, hlab, -⟩ := htok.val hle hset
  have hTlen : (foT G o).length = max 1 o.length := by
    rw [hfT, ho']
    unfold foTree
    split
    · rename_i h; simp [h]
    · rename_i h; rw [foTo_length]; simp; omega
  have HTlen := Lib.hid hTlen
  clear hTlen
  obtain ⟨T, hTT⟩ : ∃ T, T = foT G o := ⟨_, rfl⟩
  obtain ⟨r0, hr0⟩ : ∃ r0, r0 = o'.length - 1 := ⟨_, rfl⟩
  rw [← hTT] at htok hfit hset hlen hval hle HTlen
  rw [← hr0] at htok hlab
  have HTok := Lib.hid htok
  have HFit := Lib.hid hfit
  have HSet := Lib.hid hset
  have HVal := Lib.hid hval
  have HLab := Lib.hid hlab
  have HTT := Lib.hid hTT
  have hpos := htok.lt
  clear hG1 hRG hp hb1 HBe hids hcl hnd hlt hl' h0 hfT htok hfit hset hval hlab hTT hr0 ho'
  go_wp2_with fail
  have hba : Below w1.heap.size w1 (w1.alloc (.cells #[.slice aV G.V.length cV, .slice aE G.E.length cE] 44)) := (Below.refl _ w1).alloc (Nat.le_refl _) _
  refine (HK.out _ (HB1.out.trans (hba.mono HB1.out.size))).mono ?_
  rintro r w2 ⟨rfl, hb2⟩
  have hc2 := hba.trans (hb2.mono (by simp))
  have HC2 := Lib.hid hc2
  have HB2 := Lib.hid (HB1.out.trans (hc2.mono HB1.out.size))
  clear hba hb2 hc2
  cases few with
  | false =>
    go_wp2_with fail
    refine (HK.out _ HB2.out).mono ?_
    rintro r w3 ⟨rfl, hb3⟩
    have HB3 := Lib.hid (HB2.out.trans (hb3.mono HB2.out.size))
    clear hb3
    go_wp2_with fail
    go_ret
    exact ⟨rfl, HB3.out⟩
  | true =>
    have hfo := fun W (hw : Below w2.heap.size w2 W) => fo_any G HG.out o hol g bV bE W _ (HO.out.below (HC2.out.trans (hw.mono HC2.out.size))) (HG1.out.below (HC2.out.trans (hw.mono HC2.out.size))) (HT.out.on (HB2.out.trans (hw.mono HB2.out.size)))
    rw [H0.out, ← HTT.out] at hfo
    have HFo := Lib.hid hfo
    clear hfo
    go_wp2_with fail
    refine (HFo.out w2 (Below.refl _ _)).mono ?_
    rintro r w3 ⟨v1, rfl, hv1, hb3⟩
    have HV1 := Lib.hid hv1
    have HB3 := Lib.hid hb3
    obtain ⟨q1, c1, rfl⟩ := hv1.sl
    have hs3 := hb3.size
    have HVr := Lib.hid fun W (hw : Below w3.heap.size w3 W) => (hv1.below hw (Nat.le_refl _)).mono hw.size
    clear hv1 hb3 HFo
    obtain ⟨k, hkd⟩ : ∃ k, k = k0 % T.length := ⟨_, rfl⟩
    have hkl : k < T.length := by rw [hkd]; exact Nat.mod_lt _ (by omega)
    have hkm : ((k0 : Int) % (T.length : Int)) = (k : Int) := by rw [hkd]; exact (Int.natCast_emod k0 T.length).symm
    have HKM := Lib.hid hkm
    clear hkd hkm
    go_wp2_with fail
    rw [HKM.out]
    refine (reroot_any T r0 HTok.out HSet.out _ k hkl w3 (HVr.out w3 (Below.refl _ _)) hle).mono ?_
    rintro r w5 ⟨v5, U, rfl, hO5, hU, hTU, hb5⟩
    have HU := Lib.hid hU
    have HTU := Lib.hid hTU
    have hUl : U.length = T.length := hTU.len
    have HUS := Lib.hid (sets_same hTU.bags HSet.out)
    have HV5 := Lib.hid fun W (hw : Below w5.heap.size w5 W) => ((hO5.rd elB).below hw (Nat.le_refl _)).mono hw.size
    have HC5 := Lib.hid hb5
    obtain ⟨q5, c5, rfl⟩ := hO5.sl
    have HUL := Lib.hid hUl
    rw [hUl]
    clear hO5 hU hTU hb5 hUl
    go_wp2_with fail
    obtain ⟨rkU, hrkU⟩ := HU.out.rankP
    obtain ⟨⟨r', hR⟩, hRS, hUR, hRU, hRl, hRd⟩ := redTo_all U.length U k (by omega) HU.out HUS.out
    obtain ⟨tu, huv, -, -⟩ := HU.out.val (by rw [HUL.out]; exact hle) HUS.out
    have HUV := Lib.hid huv
    have hrr := reduce_any U rkU hrkU HUS.out (.slice q5 U.length c5) w5 (HV5.out w5 (Below.refl _ _)) (fun e => by have := HU.out.lt; rw [e] at this; simp at this) (by rw [HUL.out]; omega) fun W hb => check_val0 U tu HUV.out _ W (HV5.out W hb)
    obtain ⟨R, hRR⟩ : ∃ R, R = redTo U.length U := ⟨_, rfl⟩
    rw [← hRR] at hR hRS hUR hRU hRl hRd hrr
    rw [HUL.out] at hrr hRl
    have hRle : R.length ≤ 1024 := by omega
    obtain ⟨tr, hrv, -, -⟩ := hR.val hRle hRS
    obtain ⟨rkR, hrkR⟩ := hR.rankP
    have HRS := Lib.hid hRS
    have HRok := Lib.hid hR
    have HRV := Lib.hid hrv
    have HRRk := Lib.hid hrkR
    have HFitR := Lib.hid (BagLe.fit HG.out hUR (by rw [fitT_same G HTU.out.bags, HFit.out]))
    have HWid := Lib.hid (show widTo R R.length = widTo U U.length from Int.le_antisymm (hRU.wid HUS.out) (hUR.wid hRS))
    have HRd := Lib.hid hRd
    have hRpos := hR.lt
    have HRr := Lib.hid hrr
    clear hrkU huv hR hRS hUR hRU hRd hrv hrkR hrr hRR
    refine HRr.out.mono ?_
    rintro r w6 ⟨v6, rfl, hO6, hb6⟩
    have HV6 := Lib.hid fun W (hw : Below w6.heap.size w6 W) => ((hO6.rd elB).below hw (Nat.le_refl _)).mono hw.size
    have HV5b := Lib.hid fun W (hw : Below w6.heap.size w6 W) => HV5.out W (hb6.trans (hw.mono hb6.size))
    have HC6 := Lib.hid (HC5.out.trans (hb6.mono HC5.out.size))
    obtain ⟨q6, c6, rfl⟩ := hO6.sl
    clear hO6 hb6 HRr
    go_wp2_with fail
    have hr2 := reduce_any R rkR HRRk.out HRS.out _ w6 (HV6.out w6 (Below.refl _ _)) (fun e => by rw [e] at hRpos; simp at hRpos) (by omega) fun W hb => check_val0 R tr HRV.out _ W (HV6.out W hb)
    rw [redTo_stop HRd.out] at hr2
    refine hr2.mono ?_
    rintro r w7 ⟨v7, rfl, hO7, hb7⟩
    have HV7 := Lib.hid fun W (hw : Below w7.heap.size w7 W) => ((hO7.rd elB).below hw (Nat.le_refl _)).mono hw.size
    have HC7 := Lib.hid hb7
    have HC67 := Lib.hid (HC6.out.trans (hb7.mono HC6.out.size))
    obtain ⟨q7, c7, rfl⟩ := hO7.sl
    clear hO7 hb7 hr2
    have HCG := Lib.hid fun W (hw : Below w6.heap.size w6 W) => checkGraph_any R HRS.out g bV bE G HG.out (.slice q6 R.length c6) W (HV6.out W hw) (by omega) (HG1.out.below (HC2.out.trans ((HB3.out.trans ((HC6.out.trans (hw.mono HC6.out.size)).mono HB3.out.size)).mono HC2.out.size))) fun W' hw' => check_val0 R tr HRV.out _ W' (HV6.out W' (hw.trans (hw'.mono hw.size)))
    rw [HFitR.out] at HCG
    have HWR := Lib.hid fun W (hw : Below w6.heap.size w6 W) => width_any R (.slice q6 R.length c6) W (HV6.out W hw) (by omega)
    have hwu := fun W (hw : Below w6.heap.size w6 W) => width_any U (.slice q5 U.length c5) W (HV5b.out W hw) (by rw [HUL.out]; omega)
    rw [← HWid.out, HUL.out] at hwu
    have HWU := Lib.hid hwu
    have HEq := Lib.hid fun W (hw : Below w7.heap.size w7 W) => tdEqual_any R R HRS.out HRS.out (.slice q6 R.length c6) (.slice q7 R.length c7) W (HV6.out W (HC7.out.trans (hw.mono HC7.out.size))) (HV7.out W hw) (by omega) (by omega)
    obtain ⟨wid, hwid⟩ : ∃ wid, wid = widTo R R.length := ⟨_, rfl⟩
    rw [← hwid] at HWR HWU
    rw [decide_eq_true rfl] at HEq
    clear hwu hwid
    go_wp2_with fail
    refine (HCG.out w7 HC7.out).mono ?_
    rintro r w8 ⟨rfl, hb8⟩
    have HC8 := Lib.hid hb8
    clear hb8 HCG
    go_wp2_with fail
    refine (HWR.out w8 (HC7.out.trans (HC8.out.mono HC7.out.size))).mono ?_
    rintro r w9 ⟨rfl, hb9⟩
    have HC9 := Lib.hid (HC8.out.trans (hb9.mono HC8.out.size))
    clear hb9 HWR
    go_wp2_with fail
    refine (HWU.out w9 (HC7.out.trans (HC9.out.mono HC7.out.size))).mono ?_
    rintro r w10 ⟨rfl, hb10⟩
    have HC10 := Lib.hid (HC9.out.trans (hb10.mono HC9.out.size))
    clear hb10 HWU
    go_wp2_with fail
    refine (HEq.out w10 HC10.out).mono ?_
    rintro r w11 ⟨rfl, hb11⟩
    have HC11 := Lib.hid (HC10.out.trans (hb11.mono HC10.out.size))
    clear hb11 HEq
    have hlt1 : decide (T.length < R.length) = false := by simp; omega
    have hlt2 : decide ((T.length : Int) < (R.length : Int)) = false := by simp; omega
    go_wp2_with fail
    go_loopw [17] (fun j wr => ∃ i : Nat, i ≤ R.length ∧ j = .int .i64 (i : Int) ∧ Below w6.heap.size w6 wr) (fun j _ => R.length - (intOf j).toNat)
    case atStart => exact ⟨0, by omega, rfl, HC7.out.trans (HC11.out.mono HC7.out.size)⟩
    case round =>
      obtain ⟨i, hi, rfl, hbr⟩ := hrel
      have HBr := Lib.hid hbr
      have hsr := hbr.size
      clear hbr
      by_cases hlt : i < R.length
      · obtain ⟨bt, ot, ct1, x, h1, hbt, hx, hcx⟩ := (HV6.out wr HBr.out).at hlt
        simp only [Value.slice.injEq] at h1
        obtain ⟨rfl, -, rfl⟩ := h1
        obtain ⟨pu, S⟩ := x
        have hisS : IsSet S := HRS.out _ (List.mem_of_getElem? hx)
        have hpu : parU R i = pu := by simp [parU, hx]
        have hp2 : pu = -1 ∨ ∃ p : Nat, pu = (p : Int) ∧ p < R.length := by
          obtain ⟨rk, M, hrk⟩ := HRok.out.rk
          rcases parU_neg hrk hlt with h | ⟨p, h, h3, -⟩
          · exact .inl (by rw [← hpu, h])
          · exact .inr ⟨p, by rw [← hpu, h], h3⟩
        have ld : ∀ (b off i : Nat) (q : Int) (R : Nat), (∀ W, Below wr.heap.size wr W → ∀ j u, (bagA (q, R))[j]? = some u → W.cell? ⟨b, off + i * 17 + j, none⟩ = some u) → ∀ W, Below wr.heap.size wr W → rowLoad Tryz.prog 33 ⟨b, off + i * 17 + 1, none⟩ W = .ok (.agg (words R)) W ∧ W.cell? ⟨b, off + i * 17, none⟩ = some (.int .i64 q) := fun b off i q R hc W hw =>
          ⟨load_cells Tryz.isAgg33 Tryz.sizeOf33 W b _ (words R) (words_size _) fun j u hu => by
            have := hc W hw (j + 1) u (by rw [bagA_succ]; exact hu)
            rw [show off + i * 17 + 1 + j = off + i * 17 + (j + 1) by omega]
            exact this, by have := hc W hw 0 _ (bagA_zero (q, R)); simpa using this⟩
        have HLt := Lib.hid (ld _ _ _ _ _ hcx)
        have hkP := (HLt.out wr (Below.refl _ _)).2
        rcases hp2 with hpu1 | ⟨p, hpp, hpl⟩
        · have hge : decide (0 ≤ pu) = false := by simp [hpu1]
          clear hcx ld hpu hpu1 hx hisS hbt
          go_wp2_with fail
          clear hkP
          refine wp_region_free (fun w' => Below wr.heap.size wr w') (by kernel_rfl) (by kernel_rfl) (Below.refl _ _).drew ?_
          repeat (first | (apply wpFree_still; (intro w hw; clear hw; go_simp; (try go_ints); (first | with_reducible rfl | (go_simp; with_reducible rfl))); with_reducible rfl; (intro K hK; go_simp; (try go_ints); refine hK _ ?_; clear hK K)) | (apply wpFree_stillG rfl; (intro w hw; clear hw; go_simp; (try go_ints); (first | with_reducible rfl | (go_simp; with_reducible rfl))); (intro K hK; go_simp; (try go_ints); refine hK _ ?_; clear hK K)) | (apply wpFree_skip rfl; (intro K hK; go_simp; (try go_ints); refine hK _ ?_; clear hK K)))
          with_reducible refine wpFree_nil ?_
          intro w12 hb12
          have HB12 := Lib.hid (HBr.out.trans (hb12.mono HBr.out.size))
          clear hb12
          go_wp2_with fail
          go_roundw
          case rel => exact ⟨i + 1, by omega, by go_num, HB12.out⟩
          case measure => simp [intOf]; omega
        · subst hpp
          obtain ⟨b3, o3, c3, z, h3, hb3, hz, hcz⟩ := (HV6.out wr HBr.out).at hpl
          simp only [Value.slice.injEq, Option.some.injEq, Addr.mk.injEq, and_true] at h3
          obtain ⟨⟨rfl, rfl⟩, -⟩ := h3
          obtain ⟨pz, Z⟩ := z
          have hisZ : IsSet Z := HRS.out _ (List.mem_of_getElem? hz)
          have hmg : mergeable S Z = false := by
            rw [← drawnP_of hz]
            have h0 : ¬ 0 ≤ idx (drawnP R) R := by have := HRd.out; omega
            rw [idx_nonneg'] at h0
            cases hd : drawnP R ((p : Int), S) with
            | false => rfl
            | true => exact absurd ⟨_, List.mem_of_getElem? hx, hd⟩ h0
          unfold mergeable at hmg
          rw [Bool.or_eq_false_iff] at hmg
          have hs1 := fun W => subsetOf_any S Z hisS W
          have hs2 := fun W => subsetOf_any Z S hisZ W
          simp only [hmg.1] at hs1
          simp only [hmg.2] at hs2
          have HS1 := Lib.hid hs1
          have HS2 := Lib.hid hs2
          have HLz := Lib.hid (ld _ _ _ _ _ hcz)
          have hge : decide ((0 : Int) ≤ (p : Int)) = true := by simp
          have hg2 : decide (R.length ≤ p) = false := by simp; omega
          have hg3 : decide ((R.length : Int) ≤ (p : Int)) = false := by simp; omega
          have hg4 : decide (p < R.length) = true := by simp; omega
          have hg5 : decide ((p : Int) < (R.length : Int)) = true := by simp; omega
          clear hcx ld hpu hx hisS hbt hcz hz hisZ hmg hs1 hs2 hb3
          go_wp2_with fail
          clear hkP
          refine wp_region_free (fun w' => Below wr.heap.size wr w') (by kernel_rfl) (by kernel_rfl) (Below.refl _ _).drew ?_
          repeat (first | (apply wpFree_still; (intro w hw; obtain ⟨k1, k2⟩ := HLt.out _ hw; obtain ⟨k3, k4⟩ := HLz.out _ hw; clear hw; go_simp; (try go_ints); (first | with_reducible rfl | (go_simp; with_reducible rfl))); with_reducible rfl; (intro K hK; go_simp; (try go_ints); refine hK _ ?_; clear hK K)) | (apply wpFree_stillG rfl; (intro w hw; obtain ⟨k1, k2⟩ := HLt.out _ hw; obtain ⟨k3, k4⟩ := HLz.out _ hw; clear hw; go_simp; (try go_ints); (first | with_reducible rfl | (go_simp; with_reducible rfl))); (intro K hK; go_simp; (try go_ints); refine hK _ ?_; clear hK K)) | (apply wpFree_skip rfl; (intro K hK; go_simp; (try go_ints); refine hK _ ?_; clear hK K)))
          apply wpFree_callG rfl
          · intro w hw; go_simp; first | with_reducible rfl | with_reducible exact ⟨rfl, rfl⟩
          · intro w hw; refine (HS1.out w).mono ?_; rintro e w' ⟨h1, h2⟩; exact ⟨h1, hw.trans (h2.mono hw.size)⟩
          intro K hK; go_simp; (try go_ints); refine hK _ ?_; clear hK K
          repeat (first | (apply wpFree_still; (intro w hw; obtain ⟨k1, k2⟩ := HLt.out _ hw; obtain ⟨k3, k4⟩ := HLz.out _ hw; clear hw; go_simp; (try go_ints); (first | with_reducible rfl | (go_simp; with_reducible rfl))); with_reducible rfl; (intro K hK; go_simp; (try go_ints); refine hK _ ?_; clear hK K)) | (apply wpFree_stillG rfl; (intro w hw; obtain ⟨k1, k2⟩ := HLt.out _ hw; obtain ⟨k3, k4⟩ := HLz.out _ hw; clear hw; go_simp; (try go_ints); (first | with_reducible rfl | (go_simp; with_reducible rfl))); (intro K hK; go_simp; (try go_ints); refine hK _ ?_; clear hK K)) | (apply wpFree_skip rfl; (intro K hK; go_simp; (try go_ints); refine hK _ ?_; clear hK K)))
          apply wpFree_callG rfl
          · intro w hw; go_simp; first | with_reducible rfl | with_reducible exact ⟨rfl, rfl⟩
          · intro w hw; refine (HS2.out w).mono ?_; rintro e w' ⟨h1, h2⟩; exact ⟨h1, hw.trans (h2.mono hw.size)⟩
          intro K hK; go_simp; (try go_ints); refine hK _ ?_; clear hK K
          repeat (first | (apply wpFree_still; (intro w hw; clear hw; go_simp; (try go_ints); (first | with_reducible rfl | (go_simp; with_reducible rfl))); with_reducible rfl; (intro K hK; go_simp; (try go_ints); refine hK _ ?_; clear hK K)) | (apply wpFree_stillG rfl; (intro w hw; clear hw; go_simp; (try go_ints); (first | with_reducible rfl | (go_simp; with_reducible rfl))); (intro K hK; go_simp; (try go_ints); refine hK _ ?_; clear hK K)) | (apply wpFree_skip rfl; (intro K hK; go_simp; (try go_ints); refine hK _ ?_; clear hK K)))
          with_reducible refine wpFree_nil ?_
          intro w12 hb12
          have HB12 := Lib.hid (HBr.out.trans (hb12.mono HBr.out.size))
          clear hb12
          go_wp2_with fail
          go_roundw
          case rel => exact ⟨i + 1, by omega, by go_num, HB12.out⟩
          case measure => simp [intOf]; omega
      · have HD6 := Lib.hid (HB3.out.trans (HC6.out.mono HB3.out.size))
        have hml : decide ((R.length : Int) ≤ max 1 (o.length : Int)) = true := by have := HTlen.out; simp; omega
        go_wp2_with fail
        go_ret
        exact ⟨rfl, HB2.out.trans ((HD6.out.trans (HBr.out.mono HD6.out.size)).mono HB2.out.size)⟩
end Go.Proofs.YtpflnkedolmamaaGreatDoor
