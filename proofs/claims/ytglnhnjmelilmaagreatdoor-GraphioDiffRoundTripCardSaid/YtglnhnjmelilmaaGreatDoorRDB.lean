/- The walk of the statement GraphioDiffRoundTrip. -/
import Derived.Test.YtglnhnjmelilmaaGreatDoorRDA
import Derived.Test.YtglnhnjmelilmaaGreatDoorRCC
import Derived.Test.YtglnhnjmelilmaaGreatDoorRJg
import Derived.Test.YtglnhnjmelilmaaGreatDoorRVd
import Derived.Test.YtglnhnjmelilmaaGreatDoorRYf
import Derived.Test.YtglnhnjmelilmaaGreatDoorRYd
set_option linter.all false
namespace Go.Pal
open Go Go.RowKit
theorem eds_len (D : List Ed) : (D.flatMap fun e => e.text.1 ++ [10]).length ≤ 99 * D.length :=
 flatMap_len fun e _ => by have := Ed.text_len e; simp; omega
theorem diffL_len {G H : Gr} (hG : G.Ok) (hH : H.Ok) (h1 : G.V.length ≤ 40) (h2 : H.V.length ≤ 40) : (diffL G H).length ≤ 3300 := by
 rw [diffL_flat]
 have := hG.most
 have := hH.most
 have a1 := flatMap_le (f := dA H) (b := 1) (l := G.V) (dA_len H)
 have a2 := flatMap_le (f := dB H) (b := 1) (l := G.E) (dB_len H)
 have a3 := flatMap_le (f := dC G) (b := 1) (l := H.V) (dC_len G)
 have a4 := flatMap_le (f := dD G) (b := 2) (l := H.V) (dD_len G)
 have a5 := flatMap_le (f := dE G) (b := 2) (l := H.E) (dE_len G)
 simp only [List.length_append]
 omega
end Go.Pal
namespace Go.Proofs.YtglnhnjmelilmaaGreatDoor
open Go Go.RowKit Go.Pal
attribute [local go_sem] Oper.semAt_some
set_option maxRecDepth 10000 in
set_option maxHeartbeats 8000000 in
theorem drLaw_any (es : List Ed) (hes : ∀ e ∈ es, e.Wf) (fs : List Ed) (hfs : ∀ e ∈ fs, e.Wf) (vl vm : Value) (w : World) (hl : Rd edC 5 w.heap.size w vl es) (hc : ∃ a n c, vl = .slice a n c ∧ n ≤ c ∧ c ≤ 9223372036854775807) (hm : Rd edC 5 w.heap.size w vm fs) (hd : ∃ a n c, vm = .slice a n c ∧ n ≤ c ∧ c ≤ 9223372036854775807) (hT : Tab3 w) (hErr : Errs w) (hMx : Mxl w) (hFo : FormsOk w) :
   Calls Tryz.prog 8 #[vl, vm] w fun e w' => e = .returned (.bool true) ∧ Below w.heap.size w w' := by
 have HFe := Lib.hid (few_any es hes vl w hl hc)
 have HFf := Lib.hid fun W (hW : Below w.heap.size w W) => few_any fs hfs vm W ((hm.below hW (Nat.le_refl _)).mono hW.size) hd
 have hGk := fewG_ok hes
 have hHk := fewG_ok hfs
 have hGl := fewG_len hes
 have hHl := fewG_len hfs
 obtain ⟨G, hG⟩ : ∃ G, G = fewG es := ⟨_, rfl⟩
 obtain ⟨H, hH⟩ : ∃ G, G = fewG fs := ⟨_, rfl⟩
 rw [← hG] at HFe hGk hGl
 rw [← hH] at HFf hHk hHl
 have HG := Lib.hid hGk
 have HH := Lib.hid hHk
 have HK := Lib.hid fun W (h : Below w.heap.size w W) => known06_any W (hT.on h)
 obtain ⟨D, hD⟩ : ∃ D, D = diffL G H := ⟨_, rfl⟩
 obtain ⟨E, hE⟩ : ∃ D, D = diffL H G := ⟨_, rfl⟩
 have hrD := diff_runs hGk hHk
 have hrE := diff_runs hHk hGk
 rw [← hD] at hrD
 rw [← hE] at hrE
 have HD := Lib.hid hD
 have HE := Lib.hid hE
 have hDl : D.length ≤ 3300 := by rw [hD]; exact diffL_len hGk hHk hGl hHl
 have hEl : E.length ≤ 3300 := by rw [hE]; exact diffL_len hHk hGk hHl hGl
 have hDb : ∀ e ∈ D, e.bad = 0 := by rw [hD]; exact diff_bad hGk hHk
 have hEb : ∀ e ∈ E, e.bad = 0 := by rw [hE]; exact diff_bad hHk hGk
 have HFD := Lib.hid fun v W (hv : Rd edC 5 W.heap.size W v D) (h : Below w.heap.size w W) => fedits_any D hrD.wf (by omega) v W hv (hT.on h).2 (hFo.on h)
 have HFE := Lib.hid fun v W (hv : Rd edC 5 W.heap.size W v E) (h : Below w.heap.size w W) => fedits_any E hrE.wf (by omega) v W hv (hT.on h).2 (hFo.on h)
 rw [edsA_good D [] hDb, List.nil_append] at HFD
 rw [edsA_good E [] hEb, List.nil_append] at HFE
 have hSl := eds_len D
 have hTl := eds_len E
 have hread := readEds_text (l := D ++ E) fun e he => (List.mem_append.1 he).elim (hDb e) (hEb e)
 rw [List.flatMap_append] at hread
 obtain ⟨S, hS⟩ : ∃ S, S = D.flatMap fun e => e.text.1 ++ [10] := ⟨_, rfl⟩
 obtain ⟨T, hTx⟩ : ∃ S, S = E.flatMap fun e => e.text.1 ++ [10] := ⟨_, rfl⟩
 rw [← hS] at HFD hSl hread
 rw [← hTx] at HFE hTl hread
 have HPs := Lib.hid fun W (h : Below w.heap.size w W) => pedits_any (S ++ T) (by rw [List.length_append]; omega) W (hT.on h).2 (hErr.on h) (hMx.on h) (hFo.on h)
 rw [hread] at HPs
 obtain ⟨Q, hQ⟩ : ∃ Q, Q = D ++ E := ⟨_, rfl⟩
 have hQl : Q.length ≤ 6600 := by rw [hQ, List.length_append]; omega
 have HRQ := Lib.hid (show Runs G Q G from by rw [hQ]; exact hrD.trans hrE)
 rw [← hQ] at HPs
 have hSl2 : S.length ≤ 330000 := by omega
 have hTl2 : T.length ≤ 330000 := by omega
 clear hGl hHl hDb hEb hread hS hTx hQ hSl hTl
 obtain ⟨al, nl, cl, rfl, -, -⟩ := hc
 obtain ⟨am, nm, cm, rfl, -, -⟩ := hd
 obtain ⟨few1, hfew1⟩ : ∃ few, few = decide (es.length ≤ 40) := ⟨_, rfl⟩
 obtain ⟨few2, hfew2⟩ : ∃ few, few = decide (fs.length ≤ 40) := ⟨_, rfl⟩
 rw [← hfew1] at HFe
 rw [← hfew2] at HFf
 clear hl hm hes hfs hT hErr hMx hFo hG hGk hH hHk hfew1 hfew2 hD hE hrD hrE
 go_enter Tryz.func8, Tryz.ntmps8
 go_wp2_with fail
 refine HFe.out.mono ?_
 rintro r w1 ⟨g, bV, bE, vV, vE, rfl, hG1, hRG, -, hb1⟩
 have HG1 := Lib.hid hG1
 have HB1 := Lib.hid hb1
 have HRG := Lib.hid hRG
 obtain ⟨aV, cV, hvV⟩ := hRG.1.sl
 obtain ⟨aE, cE, hvE⟩ := hRG.2.sl
 subst hvV hvE
 obtain ⟨LV, hLV⟩ : ∃ n, n = G.V.length := ⟨_, rfl⟩
 obtain ⟨LE, hLE⟩ : ∃ n, n = G.E.length := ⟨_, rfl⟩
 rw [← hLV, ← hLE] at HRG ⊢
 clear hG1 hRG hb1 HFe hLV hLE
 go_wp2_with fail
 generalize hW1 : World.alloc w1 _ = W1
 obtain ⟨hra, hba⟩ := alloc_row hW1
 have hsa := row?_lt hra
 have HRA := Lib.hid hra
 have HBA := Lib.hid hba
 clear hW1 hra hba
 refine (HFf.out W1 (HB1.out.trans (HBA.out.mono HB1.out.size))).mono ?_
 rintro r w2 ⟨h, bVh, bEh, vV2, vE2, rfl, hH2, hRH, -, hb2⟩
 have HH2 := Lib.hid hH2
 have HB2 := Lib.hid hb2
 have HRH := Lib.hid hRH
 obtain ⟨aV2, cV2, hvV⟩ := hRH.1.sl
 obtain ⟨aE2, cE2, hvE⟩ := hRH.2.sl
 subst hvV hvE
 obtain ⟨MV, hMV⟩ : ∃ n, n = H.V.length := ⟨_, rfl⟩
 obtain ⟨ME, hME⟩ : ∃ n, n = H.E.length := ⟨_, rfl⟩
 rw [← hMV, ← hME] at HRH ⊢
 clear hH2 hRH hb2 HFf hMV hME
 go_wp2_with fail
 generalize hW2 : World.alloc w2 _ = W2
 obtain ⟨hrb, hbb⟩ := alloc_row hW2
 have hsb := row?_lt hrb
 have HB12 := Lib.hid (HBA.out.trans (HB2.out.mono HBA.out.size))
 have hs12 := HB2.out.size
 have HW2 := Lib.hid (HB1.out.trans ((HB12.out.trans (hbb.mono HB12.out.size)).mono HB1.out.size))
 have hsW := hbb.size
 refine (HK.out W2 HW2.out).mono ?_
 rintro r w3 ⟨rfl, hb3⟩
 have hs3 := hb3.size
 have hb23 : Below w2.heap.size w2 w3 := hbb.trans (hb3.mono hsW)
 have HB3 := Lib.hid (HW2.out.trans (hb3.mono HW2.out.size))
 have HG3 := Lib.hid (HG1.out.below (HB12.out.trans (hb23.mono HB12.out.size)))
 have HRG3 := Lib.hid (HRG.out.below (HB12.out.trans (hb23.mono HB12.out.size)))
 have HH3 := Lib.hid (HH2.out.below hb23)
 have HRH3 := Lib.hid (HRH.out.below hb23)
 have HRab := Lib.hid fun W (hW : Below w3.heap.size w3 W) => show row? W w1.heap.size = some #[.slice aV LV cV, .slice aE LE cE] ∧ row? W w2.heap.size = some #[.slice aV2 MV cV2, .slice aE2 ME cE2] from
   ⟨(row?_below (HB2.out.trans ((hb23.trans (hW.mono hb23.size)).mono HB2.out.size)) hsa).trans HRA.out, (row?_below (hb3.trans (hW.mono hb3.size)) hsb).trans hrb⟩
 have hl1 : w1.heap.size < w3.heap.size := by omega
 have hl2 : w2.heap.size < w3.heap.size := by omega
 clear hW2 hrb hbb hb3 hb23 HW2 HB12 HRA HBA HG1 HRG HH2 HRH HB1 HB2
 have hkn : ∀ (few1 few2 : Bool), (few1 && few2) = false ∨ (few1 = true ∧ few2 = true) := by decide
 rcases hkn few1 few2 with hff | ⟨rfl, rfl⟩
 · clear hkn
   cases few1 <;> cases few2 <;> first | (exact absurd hff (by decide)) | skip
   all_goals
     go_wp2_with fail
     refine (HK.out _ HB3.out).mono ?_
     rintro r w4 ⟨rfl, hb4⟩
     have HB4 := Lib.hid (HB3.out.trans (hb4.mono HB3.out.size))
     clear hb4
     go_wp2_with fail
     go_ret
     exact ⟨rfl, HB4.out⟩
 clear hkn
 go_wp2_with fail
 refine (diff_any (.pointer (some ⟨g, 0, none⟩)) (.pointer (some ⟨h, 0, none⟩)) G H HG.out HH.out w3 (.of HG3.out) (.of HH3.out) (.inr ⟨h, bVh, bEh, rfl, HH3.out⟩)).mono ?_
 rintro r w4 ⟨vx, rfl, hOx, hb4⟩
 rw [← HD.out] at hOx
 obtain ⟨qx, cx, rfl⟩ := hOx.sl
 have HB4 := Lib.hid (HB3.out.trans (hb4.mono HB3.out.size))
 have HB34 := Lib.hid hb4
 have HOx := Lib.hid (hOx.rd elED)
 obtain ⟨nD, hnD⟩ : ∃ n, n = D.length := ⟨_, rfl⟩
 rw [← hnD] at HOx ⊢
 clear hOx hb4 hnD
 go_wp2_with fail
 refine (HFD.out _ w4 HOx.out HB4.out).mono ?_
 rintro r w5 ⟨rfl, hb5⟩
 have HB5 := Lib.hid (HB4.out.trans (hb5.mono HB4.out.size))
 have HB35 := Lib.hid (HB34.out.trans (hb5.mono HB34.out.size))
 clear hb5 HFD HOx
 go_wp2_with fail
 refine (diff_any (.pointer (some ⟨h, 0, none⟩)) (.pointer (some ⟨g, 0, none⟩)) H G HH.out HG.out w5 (.of (HH3.out.below HB35.out)) (.of (HG3.out.below HB35.out)) (.inr ⟨g, bV, bE, rfl, HG3.out.below HB35.out⟩)).mono ?_
 rintro r w6 ⟨vy, rfl, hOy, hb6⟩
 rw [← HE.out] at hOy
 obtain ⟨qy, cy, rfl⟩ := hOy.sl
 have HB6 := Lib.hid (HB5.out.trans (hb6.mono HB5.out.size))
 have HB36 := Lib.hid (HB35.out.trans (hb6.mono HB35.out.size))
 have HOy := Lib.hid (hOy.rd elED)
 obtain ⟨nE, hnE⟩ : ∃ n, n = E.length := ⟨_, rfl⟩
 rw [← hnE] at HOy ⊢
 clear hOy hb6 hnE
 go_wp2_with fail
 refine (HFE.out _ w6 HOy.out HB6.out).mono ?_
 rintro r w7 ⟨rfl, hb7⟩
 have HB7 := Lib.hid (HB6.out.trans (hb7.mono HB6.out.size))
 have HB37 := Lib.hid (HB36.out.trans (hb7.mono HB36.out.size))
 clear hb7 HFE HOy
 go_wp2_with (refine wpList_strAdd rfl _ _ _ _ rfl S T rfl rfl (by omega) ?_)
 refine (HPs.out w7 HB7.out).mono ?_
 rintro r w8 ⟨h8, hb8⟩
 have HB8 := Lib.hid (HB7.out.trans (hb8.mono HB7.out.size))
 have HB38 := Lib.hid (HB37.out.trans (hb8.mono HB37.out.size))
 clear hb8 HPs
 rcases h8 with ⟨-, v8, rfl, hO8⟩ | ⟨h0, -⟩
 · obtain ⟨q8, c8, rfl⟩ := hO8.sl
   simp only at hO8
   obtain ⟨n, hn⟩ : ∃ n, n = Q.length := ⟨_, rfl⟩
   have HN := Lib.hid hn
   have HRx := Lib.hid (hO8.rd elED)
   rw [← hn] at HRx hQl
   simp only [← hn]
   clear hO8 hn
   go_wp2_with fail
   refine (gclone_any g bV bE G w8 (HG3.out.below HB38.out)).mono ?_
   rintro r w9 ⟨go, bVo, bEo, rfl, hGo, ⟨ho1, ho2, ho3⟩, hb9⟩
   have HGo := Lib.hid hGo
   have HB9 := Lib.hid hb9
   clear hGo hb9
   go_wp2_with fail
   (try simp only [Int.cast_ofNat_Int])
   go_loopw [19] (fun i wr => ∃ k : Nat, k ≤ n ∧ i = .int .i64 (k : Int) ∧ GOk wr go bVo bEo ((Q.take k).foldl Gr.app G) ∧ Below w8.heap.size w8 wr) (fun i _ => n - (intOf i).toNat)
   case atStart => exact ⟨0, by omega, rfl, HGo.out, HB9.out⟩
   case round =>
     obtain ⟨k, hk, rfl, hGk, hb⟩ := hrel
     have HGk := Lib.hid hGk
     have HB := Lib.hid hb
     have hsz := hb.size
     clear hGk hb
     by_cases hlt : k < n
     · obtain ⟨b, off, c', e, h1, hbb, hx, hcc⟩ := HRx.out.at (by rw [← HN.out]; exact hlt)
       simp only [Value.slice.injEq] at h1
       obtain ⟨rfl, -, rfl⟩ := h1
       obtain ⟨hA, hwf, hwr⟩ := HRQ.out.at hx
       have hst : (Q.take (k + 1)).foldl Gr.app G = ((Q.take k).foldl Gr.app G).app e := by rw [take_snoc hx, List.foldl_append]; rfl
       have HST := Lib.hid hst
       have HAp := Lib.hid fun W (hW : GOk W go bVo bEo ((Q.take k).foldl Gr.app G)) => gapplyW_any e hwf go bVo bEo _ hA W hW hwr
       obtain ⟨A, hAd⟩ : ∃ A, A = (Q.take k).foldl Gr.app G := ⟨_, rfl⟩
       rw [← hAd] at HGk HST HAp
       obtain ⟨eo, eu, ev, el, et⟩ := e
       rw [show edC ⟨eo, eu, ev, el, et⟩ = #[.int .i64 eo, .int .i64 eu, .int .i64 ev, .int .u8 (el : Int), .int .i64 et] from rfl] at HAp
       have jl : rowLoad Tryz.prog 23 ⟨b, off + k * 5, none⟩ wr = .ok (.agg #[.int .i64 eo, .int .i64 eu, .int .i64 ev, .int .u8 (el : Int), .int .i64 et]) wr := load_cells Tryz.isAgg23 Tryz.sizeOf23 wr b _ _ rfl fun j u hu => hcc wr HB.out j u hu
       have hki : (k : Int) < (n : Int) := by omega
       clear hx hcc hA hwf hwr hst hAd
       go_wp2_with fail
       refine (HAp.out _ HGk.out).mono ?_
       rintro r w10 ⟨rfl, hd10⟩
       have HB10 := Lib.hid (HB.out.trans (hd10.2.below (B := w8.heap.size) (by omega) fun j hj => ⟨by omega, by omega⟩))
       have HG10 := Lib.hid hd10.1
       clear hd10 jl
       go_wp2_with fail
       go_roundw
       case rel => exact ⟨k + 1, by omega, by go_num, by rw [HST.out]; exact HG10.out, HB10.out⟩
       case measure => simp [intOf]; omega
     · have hkn : n = k := by omega
       have hki : ¬ (k : Int) < (n : Int) := by omega
       have HGG := Lib.hid (show GOk wr go bVo bEo G from by have := HGk.out; rw [← hkn] at this; rwa [HN.out, HRQ.out.allTake] at this)
       have HB3r := Lib.hid (HB38.out.trans (HB.out.mono HB38.out.size))
       have HBr := Lib.hid (HB8.out.trans (HB.out.mono HB8.out.size))
       clear HGk
       go_wp2_with fail
       refine (gequal_any go bVo bEo g bV bE G wr HGG.out (HG3.out.below HB3r.out)).mono ?_
       rintro r w11 ⟨rfl, hb11⟩
       have HB11 := Lib.hid (HBr.out.trans (hb11.mono HBr.out.size))
       clear hb11
       go_wp2_with fail
       go_ret
       exact ⟨rfl, HB11.out⟩
 · exact absurd rfl h0
end Go.Proofs.YtglnhnjmelilmaaGreatDoor
