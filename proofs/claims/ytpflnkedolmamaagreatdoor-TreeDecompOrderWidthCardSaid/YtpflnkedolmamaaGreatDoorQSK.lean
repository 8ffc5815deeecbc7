/-
  The walk of the statement TreeDecompOrderWidth.
-/
import Derived.Test.YtpflnkedolmamaaGreatDoorQSH
import Derived.Test.YtpflnkedolmamaaGreatDoorQJI
set_option linter.unusedSimpArgs false
set_option linter.unusedVariables false
namespace Go.Pal
open Go
theorem vset_perm {G : Gr} (hG : G.Ok) {l : List Int} (h : l.Perm (elemsI G.vset)) : l.Perm G.ids' := by
  have hn : (elemsI G.vset).Nodup := (elemsI_sorted _).imp fun h e => by omega
  have hm : ∀ z, z ∈ elemsI G.vset ↔ z ∈ G.ids' := fun z => by
    constructor
    · intro hz
      obtain ⟨n, hm, rfl⟩ := List.mem_map.1 hz
      have hb := (mem_elems hG.isSet_vset).1 hm
      rw [hG.vset_bit] at hb
      simpa using hb
    · intro hz
      obtain ⟨h0, h1⟩ := hG.ids_range z hz
      obtain ⟨n, rfl⟩ : ∃ n : Nat, z = (n : Int) := ⟨z.toNat, by omega⟩
      rw [mem_elemsI hG.isSet_vset, hG.vset_bit]
      simpa using hz
  exact h.trans (perm_of_nodup hn (fun x hx => (hm x).1 hx) (nodup_length hG.ids_nodup fun x hx => (hm x).2 hx))
end Go.Pal
namespace Go.Proofs.YtpflnkedolmamaaGreatDoor
open Go Go.RowKit Go.Pal
attribute [local go_sem] Oper.semAt_some

set_option maxRecDepth 10000 in
set_option maxHeartbeats 8000000 in
theorem owLaw_any (es : List Ed) (hes : ∀ e ∈ es, e.Wf) (ts : List Nat) (hts : ∀ t ∈ ts, t < 256) (vl vt : Value) (w : World) (hl : Rd edC 5 w.heap.size w vl es) (hc : ∃ a n c, vl = .slice a n c ∧ n ≤ c ∧ c ≤ 9223372036854775807) (ht : Rd u8C 1 w.heap.size w vt ts) (htl : ts.length ≤ 9223372036854775807) (hT : Tab2 w) :
    Calls Tryz.prog 9 #[vl, vt] w fun e w' => e = .returned (.bool true) ∧ Below w.heap.size w w' := by
  have HT := Lib.hid hT
  have HBe := Lib.hid (begun_any es hes ts hts vl vt w hl hc ht htl)
  have HK := Lib.hid fun W (h : Below w.heap.size w W) => known26_any W (hT.on h)
  have hwf : ∀ e ∈ es.take 40, e.Wf := fun e he => hes e (List.mem_of_mem_take he)
  have hGk := madeTo_ok hwf (es.take 40).length
  have hGl := madeTo_len hwf (es.take 40).length
  have h40 : (es.take 40).length ≤ 40 := List.length_take_le _ _
  obtain ⟨G, hG⟩ : ∃ G, G = madeTo (es.take 40) (es.take 40).length := ⟨_, rfl⟩
  rw [← hG] at HBe hGk hGl
  have HG := Lib.hid hGk
  obtain ⟨al, nl, cl, rfl, -, -⟩ := hc
  obtain ⟨at', ct, rfl⟩ := ht.sl
  obtain ⟨few, hfew⟩ : ∃ few, few = decide (es.length ≤ 40) := ⟨_, rfl⟩
  rw [← hfew] at HBe
  clear hl ht hes hts hT hwf hG hGk hfew
  go_enter Tryz.func9, Tryz.ntmps9
  go_wp2_with fail
  refine HBe.out.mono ?_
  rintro r w1 ⟨g, bV, bE, vV, vE, vo, o, rfl, hG1, hRG, ho, hp, hb1⟩
  have HG1 := Lib.hid hG1
  have HO := Lib.hid ho
  have hol : o.length ≤ 64 := by rw [hp.length_eq, Gr.ids', List.length_map]; omega
  have HB1 := Lib.hid hb1
  have h0 : G.ordE o = 0 := (HG.out.ordE_iff o).2 hp
  obtain ⟨o', ho', hlt, hnd, hcl, hl', hids⟩ := HG.out.order hp
  have hfT : foT G o = foTree (fun x => G.near (x : Int)) o' := by rw [foT, if_pos h0, ho', toNat_cast]
  have htok := foTree_tok HG.out hnd hcl
  have hfit := foTree_fit HG.out hnd hcl hids
  have hset := foT_set HG.out o
  have hlen : (foT G o).length ≤ 65 := Nat.le_trans foT_len (by omega)
  rw [← hfT] at htok hfit
  obtain ⟨aV, cV, hvV⟩ := hRG.1.sl
  obtain ⟨aE, cE, hvE⟩ := hRG.2.sl
  subst hvV hvE
  obtain ⟨ao, co, rfl, -⟩ := ho
  have H0 := Lib.hid h0
  have hwt := foTree_wid HG.out hnd hlt hcl
  have hfl := foTree_length (o := o') (fun x : Nat => G.near (x : Int))
  rw [← hfT] at hwt hfl
  have hol' : (o.length : Int) = (o'.length : Int) := by rw [ho', List.length_map]
  rw [← hol'] at hfl
  have HEW := Lib.hid fun W v (hv : RdL W v o) (hg : GOk W g bV bE G) (hT : Tab2 W) => ewidth_any o' g bV bE G HG.out W v (by rw [← ho']; exact hv) hg (by rw [← ho']; exact h0) hlt hnd hcl (by omega) hT.1 hT.2
  have hle : (foT G o).length ≤ 1024 := by omega
  obtain ⟨tt, hval, hlab, -⟩ := htok.val hle hset
  obtain ⟨T, hTT⟩ : ∃ T, T = foT G o := ⟨_, rfl⟩
  obtain ⟨r0, hr0⟩ : ∃ r0, r0 = o'.length - 1 := ⟨_, rfl⟩
  rw [← hTT] at htok hfit hset hlen hval hle hwt hfl
  obtain ⟨Wd, hWd⟩ : ∃ Wd, Wd = widTo T T.length := ⟨_, rfl⟩
  rw [← hwt, ← hWd] at HEW
  have HWd := Lib.hid hWd
  have HFl := Lib.hid hfl
  rw [← hr0] at htok hlab
  have HTok := Lib.hid htok
  have HFit := Lib.hid hfit
  have HSet := Lib.hid hset
  have HVal := Lib.hid hval
  have HLab := Lib.hid hlab
  have HTT := Lib.hid hTT
  have hpos := htok.lt
  clear hG1 hRG hp hb1 HBe hids hcl hnd hlt hl' h0 hfT htok hfit hset hval hlab hTT hr0 ho' hwt hfl hol' hWd
  go_wp2_with fail
  have hba : Below w1.heap.size w1 (w1.alloc (.cells #[.slice aV G.V.length cV, .slice aE G.E.length cE] 44)) := (Below.refl _ w1).alloc (Nat.le_refl _) _
  refine (HK.out _ (HB1.out.trans (hba.mono HB1.out.size))).mono ?_
  rintro r w2 ⟨rfl, hb2⟩
  have hc2 := hba.trans (hb2.mono (by simp))
  have HC2 := Lib.hid hc2
  have HB2 := Lib.hid (HB1.out.trans (hc2.mono HB1.out.size))
  clear hba hb2 hc2
  cases few with
  | false =>
    go_wp2_with fail
    refine (HK.out _ HB2.out).mono ?_
    rintro r w3 ⟨rfl, hb3⟩
    have HB3 := Lib.hid (HB2.out.trans (hb3.mono HB2.out.size))
    clear hb3
    go_wp2_with fail
    go_ret
    exact ⟨rfl, HB3.out⟩
  | true =>
    have hfo := fun W (hw : Below w2.heap.size w2 W) => fo_any G HG.out o hol g bV bE W _ (HO.out.below (HC2.out.trans (hw.mono HC2.out.size))) (HG1.out.below (HC2.out.trans (hw.mono HC2.out.size))) (HT.out.on (HB2.out.trans (hw.mono HB2.out.size)))
    rw [H0.out, ← HTT.out] at hfo
    have HFo := Lib.hid hfo
    clear hfo
    go_wp2_with fail
    refine (HFo.out w2 (Below.refl _ _)).mono ?_
    rintro r w3 ⟨v1, rfl, hv1, hb3⟩
    have HV1 := Lib.hid hv1
    have HB3 := Lib.hid hb3
    obtain ⟨q1, c1, rfl⟩ := hv1.sl
    have hs3 := hb3.size
    have HVr := Lib.hid fun W (hw : Below w3.heap.size w3 W) => (hv1.below hw (Nat.le_refl _)).mono hw.size
    have HEw := Lib.hid fun W (hw : Below w2.heap.size w2 W) => HEW.out W _ (HO.out.below (HC2.out.trans (hw.mono HC2.out.size))) (HG1.out.below (HC2.out.trans (hw.mono HC2.out.size))) (HT.out.on (HB2.out.trans (hw.mono HB2.out.size)))
    have hqT : ((T.length : Int) == max 1 (o.length : Int)) = true := by rw [beq_iff_eq]; exact HFl.out
    have hqT2 : ((T.length : Int) != max 1 (o.length : Int)) = false := by rw [bne_eq_false_iff_eq]; exact HFl.out
    clear hv1 hb3 HFo HEW
    go_wp2_with fail
    refine (HEw.out w3 HB3.out).mono ?_
    rintro r w4 ⟨rfl, hb4⟩
    have HC4 := Lib.hid hb4
    clear hb4 HEw
    go_wp2_with fail
    refine (check_val0 T tt HVal.out _ w4 (HVr.out w4 HC4.out)).mono ?_
    rintro r w5 ⟨rfl, hb5⟩
    have HC5 := Lib.hid (HC4.out.trans (hb5.mono HC4.out.size))
    clear hb5
    go_wp2_with fail
    have hcg := fun W (hw : Below w3.heap.size w3 W) => checkGraph_any T HSet.out g bV bE G HG.out (.slice q1 T.length c1) W (HVr.out W hw) (by omega) (HG1.out.below (HC2.out.trans ((HB3.out.trans (hw.mono HB3.out.size)).mono HC2.out.size))) fun W' hw' => check_val0 T tt HVal.out _ W' (HVr.out W' (hw.trans (hw'.mono hw.size)))
    rw [HFit.out] at hcg
    refine (hcg w5 HC5.out).mono ?_
    rintro r w6 ⟨rfl, hb6⟩
    have HC6 := Lib.hid (HC5.out.trans (hb6.mono HC5.out.size))
    clear hb6 hcg
    go_wp2_with fail
    have hwu := width_any T (.slice q1 T.length c1) w6 (HVr.out w6 HC6.out) (by omega)
    rw [← HWd.out] at hwu
    refine hwu.mono ?_
    rintro r w7 ⟨rfl, hb7⟩
    have HC7 := Lib.hid (HC6.out.trans (hb7.mono HC6.out.size))
    clear hb7 hwu
    go_wp2_with fail
    have HD7 := Lib.hid (HB3.out.trans (HC7.out.mono HB3.out.size))
    refine (elim_any T r0 HTok.out HSet.out (by omega) g bV bE G HG.out HFit.out (.slice q1 T.length c1) w7 (HVr.out w7 HC7.out) (HG1.out.below (HC2.out.trans (HD7.out.mono HC2.out.size))) (HT.out.on (HB2.out.trans (HD7.out.mono HB2.out.size)))).mono ?_
    rintro r w8 ⟨vs, l, rfl, hvs, hperm, hpw, hb8⟩
    have hp2 := vset_perm HG.out hperm
    have h02 : G.ordE l = 0 := (HG.out.ordE_iff l).2 hp2
    obtain ⟨o2, ho2, hlt2, hnd2, hcl2, hl2, hids2⟩ := HG.out.order hp2
    have hDp : Deepest T o2 := deepest_of HTok.out HSet.out (by rw [← ho2]; exact hpw)
    have hle2 := deepest_width HG.out HTok.out HSet.out HFit.out hnd2 hlt2 hcl2 (fun x hx => (hids2 x).1 hx) hDp
    rw [← HWd.out] at hle2
    have hll : l.length ≤ 1024 := by rw [ho2, List.length_map]; exact hl2
    have HC8 := Lib.hid (HD7.out.trans (hb8.mono HD7.out.size))
    have HL := Lib.hid hvs
    have hE2 := ewidth_any o2 g bV bE G HG.out w8 vs (by rw [← ho2]; exact hvs) (HG1.out.below (HC2.out.trans (HC8.out.mono HC2.out.size))) (by rw [← ho2]; exact h02) hlt2 hnd2 hcl2 hl2 (HT.out.on (HB2.out.trans (HC8.out.mono HB2.out.size))).1 (HT.out.on (HB2.out.trans (HC8.out.mono HB2.out.size))).2
    obtain ⟨W2, hW2⟩ : ∃ W2, W2 = gwid (fun x : Nat => G.near (x : Int)) o2 o2.length := ⟨_, rfl⟩
    rw [← hW2] at hE2 hle2
    have HE2 := Lib.hid hE2
    have HCk := Lib.hid fun W (hw : Below w8.heap.size w8 W) => echeck_any l vs g bV bE G HG.out W (hvs.below hw) (HG1.out.below (HC2.out.trans ((HC8.out.trans (hw.mono HC8.out.size)).mono HC2.out.size))) (by omega)
    rw [h02] at HCk
    obtain ⟨q8, c8, rfl, -⟩ := hvs
    clear hperm hpw hb8 hp2 h02 ho2 hlt2 hnd2 hcl2 hl2 hids2 hDp hW2 hE2
    go_wp2_with fail
    refine HE2.out.mono ?_
    rintro r w9 ⟨rfl, hb9⟩
    have HC9 := Lib.hid hb9
    clear hb9 HE2
    go_wp2_with fail
    refine (HCk.out w9 HC9.out).mono ?_
    rintro r w10 ⟨rfl, hb10⟩
    have HC10 := Lib.hid (HB2.out.trans ((HC8.out.trans ((HC9.out.trans (hb10.mono HC9.out.size)).mono HC8.out.size)).mono HB2.out.size))
    clear hb10 HCk
    go_wp2_with fail
    go_ret
    exact ⟨rfl, HC10.out⟩
end Go.Proofs.YtpflnkedolmamaaGreatDoor
