/- The walk of the statement GraphioRoundTrip. -/
import Derived.Test.YtlmccbepllgbfaaGreatDoorDII
import Derived.Test.YtlmccbepllgbfaaGreatDoorDJg
import Derived.Test.YtlmccbepllgbfaaGreatDoorDVd
import Derived.Test.YtlmccbepllgbfaaGreatDoorDYf
set_option linter.all false
namespace Go.Proofs.YtlmccbepllgbfaaGreatDoor
open Go Go.RowKit Go.Pal
attribute [local go_sem] Oper.semAt_some
theorem Gr.text_most {G : Gr} (h : G.Ok) : G.text.length ≤ 1048576 := by
 have h1 := Gr.textV_len h G.V.length
 have h2 := Gr.textE_len h G.E.length
 rw [List.take_length] at h1 h2
 unfold Gr.text
 rw [List.length_append]
 omega
set_option maxRecDepth 10000 in
set_option maxHeartbeats 4000000 in
theorem rtLaw_any (es : List Ed) (hes : ∀ e ∈ es, e.Wf) (t : List UInt8) (vl : Value) (w : World) (hl : Rd edC 5 w.heap.size w vl es) (hc : ∃ a n c, vl = .slice a n c ∧ n ≤ c ∧ c ≤ 9223372036854775807) (hT : Tab3 w) (hE : Errs w) (hM : Mxl w) :
   Calls Tryz.prog 5 #[vl, .string ⟨t.toArray⟩] w fun e w' => e = .returned (.bool true) ∧ Below w.heap.size w w' := by
 have HFe := Lib.hid (few_any es hes vl w hl hc)
 have hGk := fewG_ok hes
 obtain ⟨G, hG⟩ : ∃ G, G = fewG es := ⟨_, rfl⟩
 rw [← hG] at HFe hGk
 have HG := Lib.hid hGk
 have HT := Lib.hid fun W (h : Below w.heap.size w W) => hT.on h
 have HEr := Lib.hid fun W (h : Below w.heap.size w W) => hE.on h
 have HMx := Lib.hid fun W (h : Below w.heap.size w W) => hM.on h
 obtain ⟨al, nl, cl, rfl, -, -⟩ := hc
 obtain ⟨few1, hfew1⟩ : ∃ few, few = decide (es.length ≤ 40) := ⟨_, rfl⟩
 rw [← hfew1] at HFe
 clear hl hes hT hE hM hG hGk hfew1
 go_enter Tryz.func5, Tryz.ntmps5
 go_wp2_with fail
 refine HFe.out.mono ?_
 rintro r w1 ⟨g, bV, bE, vV, vE, rfl, hG1, hRG, -, hb1⟩
 have HG1 := Lib.hid hG1
 have HB1 := Lib.hid hb1
 obtain ⟨aV, cV, hvV⟩ := hRG.1.sl
 obtain ⟨aE, cE, hvE⟩ := hRG.2.sl
 subst hvV hvE
 obtain ⟨LV, hLV⟩ : ∃ n, n = G.V.length := ⟨_, rfl⟩
 obtain ⟨LE, hLE⟩ : ∃ n, n = G.E.length := ⟨_, rfl⟩
 rw [← hLV, ← hLE]
 clear hG1 hRG hb1 HFe hLV hLE
 go_wp2_with fail
 generalize hW1 : World.alloc w1 _ = W1
 obtain ⟨-, hba⟩ := alloc_row hW1
 clear hW1
 refine (known06_any W1 (HT.out W1 (HB1.out.trans (hba.mono HB1.out.size)))).mono ?_
 rintro r w3 ⟨rfl, hb3⟩
 have hb13 := hba.trans (hb3.mono hba.size)
 have HB3 := Lib.hid (HB1.out.trans (hb13.mono HB1.out.size))
 have HG3 := Lib.hid (HG1.out.below hb13)
 clear hba hb3 hb13 HG1 HB1
 by_cases hlen : 3000 < t.length
 · have d1 : decide ((3000 : Int) < (t.length : Int)) = true := decide_eq_true (by omega)
   cases few1
   all_goals
     go_wp2_with fail
     refine (known06_any _ (HT.out _ HB3.out)).mono ?_
     rintro r w4 ⟨rfl, hb4⟩
     have HB4 := Lib.hid (HB3.out.trans (hb4.mono HB3.out.size))
     clear hb4
     go_wp2_with fail
     go_ret
     exact ⟨rfl, HB4.out⟩
 have d1 : decide ((3000 : Int) < (t.length : Int)) = false := decide_eq_false (by omega)
 have d2 : t.length ≤ 3000 := by omega
 clear hlen
 cases few1 with
 | false =>
   go_wp2_with fail
   refine (known06_any _ (HT.out _ HB3.out)).mono ?_
   rintro r w4 ⟨rfl, hb4⟩
   have HB4 := Lib.hid (HB3.out.trans (hb4.mono HB3.out.size))
   clear hb4
   go_wp2_with fail
   go_ret
   exact ⟨rfl, HB4.out⟩
 | true =>
 go_wp2_with fail
 refine (format_any g bV bE G HG.out w3 HG3.out (HT.out _ HB3.out).2).mono ?_
 rintro r w4 ⟨rfl, hb4⟩
 have HB4 := Lib.hid (HB3.out.trans (hb4.mono HB3.out.size))
 have HG4 := Lib.hid (HG3.out.below hb4)
 obtain ⟨T, hTx⟩ : ∃ T, T = G.text := ⟨_, rfl⟩
 have hTl : T.length ≤ 1048576 := by rw [hTx]; exact Gr.text_most HG.out
 have HPg := Lib.hid (gparse_any T hTl w4 (HT.out _ HB4.out).2 (HEr.out _ HB4.out) (HMx.out _ HB4.out))
 have HSelf := Lib.hid (show readG T = (G, 0, 0) from by rw [hTx]; exact readG_self HG.out)
 rw [← hTx]
 rw [HSelf.out] at HPg
 clear hb4 hTx HG3 HB3 HSelf
 go_wp2_with fail
 refine HPg.out.mono ?_
 rintro r w5 ⟨h5, hb5⟩
 have HB5 := Lib.hid (HB4.out.trans (hb5.mono HB4.out.size))
 have HG5 := Lib.hid (HG4.out.below hb5)
 rcases h5 with ⟨-, g2, bV2, bE2, rfl, hG2, -⟩ | ⟨h5, -⟩
 · have HG2 := Lib.hid hG2
   clear hb5 hG2 HPg HG4 HB4
   go_wp2_with fail
   refine (gequal_any g2 bV2 bE2 g bV bE G w5 HG2.out HG5.out).mono ?_
   rintro r w6 ⟨rfl, hb6⟩
   have HB6 := Lib.hid (HB5.out.trans (hb6.mono HB5.out.size))
   have HPt := Lib.hid (gparse_any t (by omega) w6 (HT.out _ HB6.out).2 (HEr.out _ HB6.out) (HMx.out _ HB6.out))
   have hok := readG_ok t
   have hline := linesP_line lineG (partsA 10 [] t) Gr.none 1
   have hgood := linesP_good lineG (partsA 10 [] t) Gr.none 1
   have htxt := @readG_text t
   rw [show linesP lineG Gr.none 1 (partsA 10 [] t) = readG t from rfl] at hline hgood
   obtain ⟨X, hX⟩ : ∃ X, X = readG t := ⟨_, rfl⟩
   rw [← hX] at HPt hok hline hgood htxt
   obtain ⟨H, n, c⟩ := X
   clear hb6 HB5 HG5 HG2 hX
   go_wp2_with fail
   refine HPt.out.mono ?_
   rintro r w7 ⟨h7, hb7⟩
   have HB7 := Lib.hid (HB6.out.trans (hb7.mono HB6.out.size))
   rcases h7 with ⟨h0, g3, bV3, bE3, rfl, hG3, -⟩ | ⟨h0, rfl⟩
   · have HG3 := Lib.hid hG3
     have HTx := Lib.hid (htxt h0)
     have HOk := Lib.hid hok
     simp only at h0 hok
     clear hb7 hG3 HPt HB6 hline hgood htxt hok h0
     go_wp2_with fail
     refine (format_any g3 bV3 bE3 H HOk.out w7 HG3.out (HT.out _ HB7.out).2).mono ?_
     rintro r w8 ⟨rfl, hb8⟩
     have HB8 := Lib.hid (HB7.out.trans (hb8.mono HB7.out.size))
     rw [show H.text = t from HTx.out]
     clear hb8
     go_wp2_with fail
     go_ret
     exact ⟨rfl, HB8.out⟩
   · have hn1 : 1 ≤ n := hline h0
     have hc0 : ¬ c = 0 := h0
     have e1 : ((c : Int) != 0) = true := by rw [bne_iff_ne]; omega
     have e2 : ¬ (c : Int) = 0 := by omega
     have e3 : decide ((1 : Int) ≤ (n : Int)) = true := decide_eq_true (by omega)
     have e4 : decide (1 ≤ n) = true := decide_eq_true hn1
     clear hb7 HPt HB6 hline hgood htxt hok h0
     go_wp2_with fail
     go_ret
     exact ⟨rfl, HB7.out⟩
 · exact absurd rfl h5
end Go.Proofs.YtlmccbepllgbfaaGreatDoor
