/- The walk of the statement GraphioGraphs. -/
import Derived.Test.YtlmccbepllgbfaaGreatDoorDII
import Derived.Test.YtlmccbepllgbfaaGreatDoorDIN
import Derived.Test.YtlmccbepllgbfaaGreatDoorDIL
import Derived.Test.YtlmccbepllgbfaaGreatDoorDIM
import Derived.Test.YtlmccbepllgbfaaGreatDoorDJg
import Derived.Test.YtlmccbepllgbfaaGreatDoorDVd
import Derived.Test.YtlmccbepllgbfaaGreatDoorDYf
import Derived.Test.YtlmccbepllgbfaaGreatDoorDPG
set_option linter.all false
namespace Go.Proofs.YtlmccbepllgbfaaGreatDoor
open Go Go.RowKit Go.Pal
attribute [local go_sem] Oper.semAt_some
set_option maxRecDepth 10000 in
set_option maxHeartbeats 4000000 in
theorem ggLaw_any (es : List Ed) (hes : ∀ e ∈ es, e.Wf) (t : List UInt8) (vl : Value) (w : World) (hl : Rd edC 5 w.heap.size w vl es) (hc : ∃ a n c, vl = .slice a n c ∧ n ≤ c ∧ c ≤ 9223372036854775807) (hT : Tab3 w) (hE : Errs w) (hM : Mxl w) :
   Calls Tryz.prog 4 #[vl, .string ⟨t.toArray⟩] w fun e w' => e = .returned (.bool true) ∧ Below w.heap.size w w' := by
 have HFe := Lib.hid (few_any es hes vl w hl hc)
 have hGk := fewG_ok hes
 obtain ⟨G, hG⟩ : ∃ G, G = fewG es := ⟨_, rfl⟩
 rw [← hG] at HFe hGk
 have HG := Lib.hid hGk
 have HT := Lib.hid fun W (h : Below w.heap.size w W) => hT.on h
 have HEr := Lib.hid fun W (h : Below w.heap.size w W) => hE.on h
 have HMx := Lib.hid fun W (h : Below w.heap.size w W) => hM.on h
 obtain ⟨al, nl, cl, rfl, -, -⟩ := hc
 obtain ⟨few1, hfew1⟩ : ∃ few, few = decide (es.length ≤ 40) := ⟨_, rfl⟩
 rw [← hfew1] at HFe
 clear hl hes hT hE hM hG hGk hfew1
 go_enter Tryz.func4, Tryz.ntmps4
 go_wp2_with fail
 refine HFe.out.mono ?_
 rintro r w1 ⟨g, bV, bE, vV, vE, rfl, hG1, hRG, -, hb1⟩
 have HG1 := Lib.hid hG1
 have HB1 := Lib.hid hb1
 obtain ⟨aV, cV, hvV⟩ := hRG.1.sl
 obtain ⟨aE, cE, hvE⟩ := hRG.2.sl
 subst hvV hvE
 obtain ⟨LV, hLV⟩ : ∃ n, n = G.V.length := ⟨_, rfl⟩
 obtain ⟨LE, hLE⟩ : ∃ n, n = G.E.length := ⟨_, rfl⟩
 rw [← hLV, ← hLE]
 rw [← hLV, ← hLE] at hRG
 have HRG := Lib.hid hRG
 clear hG1 hRG hb1 HFe hLV hLE
 go_wp2_with fail
 generalize hW1 : World.alloc w1 _ = W1
 obtain ⟨hr1, hba⟩ := alloc_row hW1
 have hsr := row?_lt hr1
 clear hW1
 refine (known06_any W1 (HT.out W1 (HB1.out.trans (hba.mono HB1.out.size)))).mono ?_
 rintro r w3 ⟨rfl, hb3⟩
 have hb13 := hba.trans (hb3.mono hba.size)
 have HB3 := Lib.hid (HB1.out.trans (hb13.mono HB1.out.size))
 have HG3 := Lib.hid (HG1.out.below hb13)
 have HRG3 := Lib.hid (HRG.out.below hb13)
 have hr3 := (row?_below hb3 hsr).trans hr1
 have hsr3 : w1.heap.size < w3.heap.size := Nat.lt_of_lt_of_le hsr hb3.size
 have HRow := Lib.hid fun W (hW : Below w3.heap.size w3 W) => (row?_below hW hsr3).trans hr3
 clear hba hb3 hb13 HG1 HB1 hr1 hsr HRG hr3
 by_cases hlen : 3000 < t.length
 · have d1 : decide ((3000 : Int) < (t.length : Int)) = true := decide_eq_true (by omega)
   cases few1
   all_goals
     go_wp2_with fail
     refine (known06_any _ (HT.out _ HB3.out)).mono ?_
     rintro r w4 ⟨rfl, hb4⟩
     have HB4 := Lib.hid (HB3.out.trans (hb4.mono HB3.out.size))
     clear hb4
     go_wp2_with fail
     go_ret
     exact ⟨rfl, HB4.out⟩
 have d1 : decide ((3000 : Int) < (t.length : Int)) = false := decide_eq_false (by omega)
 have d2 : t.length ≤ 3000 := by omega
 clear hlen
 cases few1 with
 | false =>
   go_wp2_with fail
   refine (known06_any _ (HT.out _ HB3.out)).mono ?_
   rintro r w4 ⟨rfl, hb4⟩
   have HB4 := Lib.hid (HB3.out.trans (hb4.mono HB3.out.size))
   clear hb4
   go_wp2_with fail
   go_ret
   exact ⟨rfl, HB4.out⟩
 | true =>
 have HFm := Lib.hid fun W (hW : Below w3.heap.size w3 W) => format_any g bV bE G HG.out W (HG3.out.below hW) (HT.out _ (HB3.out.trans (hW.mono HB3.out.size))).2
 have HRf := Lib.hid fun W (hW : Below w3.heap.size w3 W) => rgraphT_any G HG.out _ _ W (RefG.below HRG3.out hW)
 obtain ⟨T, hTx⟩ : ∃ T, T = G.text := ⟨_, rfl⟩
 rw [← hTx] at HFm HRf
 have hTT : (T != T) = false := bne_self_eq_false _
 clear hTx
 go_wp2_with fail
 refine wp_region_free_tail (fun W => Below w3.heap.size w3 W) 8 (by kernel_rfl) (by kernel_rfl) (Below.refl _ _).drew ?_
 simp only [List.take_succ_cons, List.take_zero, List.drop_succ_cons, List.drop_zero]
 repeat (first | ((first | apply wpFree_still (hg := rfl) | apply wpFree_stillG rfl); (intro w hw; have r1 := HRow.out _ hw; clear hw; go_simp; (try go_ints); (first | with_reducible rfl | (go_simp; with_reducible rfl))); (intro K hK; go_simp; (try go_ints); refine hK _ ?_; clear hK K)) | (apply wpFree_skip rfl; (intro K hK; go_simp; (try go_ints); refine hK _ ?_; clear hK K)))
 apply wpFree_call
 · intro w hw; go_simp; first | with_reducible rfl | with_reducible exact ⟨rfl, rfl⟩
 · with_reducible rfl
 · intro w hw; exact (HFm.out w hw).mono fun e w' ⟨h1, h2⟩ => ⟨h1, hw.trans (h2.mono hw.size)⟩
 intro K hK; go_simp; (try go_ints); refine hK _ ?_; clear hK K
 repeat (first | ((first | apply wpFree_still (hg := rfl) | apply wpFree_stillG rfl); (intro w hw; have r1 := HRow.out _ hw; clear hw; go_simp; (try go_ints); (first | with_reducible rfl | (go_simp; with_reducible rfl))); (intro K hK; go_simp; (try go_ints); refine hK _ ?_; clear hK K)) | (apply wpFree_skip rfl; (intro K hK; go_simp; (try go_ints); refine hK _ ?_; clear hK K)))
 apply wpFree_call
 · intro w hw; go_simp; first | with_reducible rfl | with_reducible exact ⟨rfl, rfl⟩
 · with_reducible rfl
 · intro w hw; exact (HRf.out w hw).mono fun e w' ⟨h1, h2⟩ => ⟨h1, hw.trans (h2.mono hw.size)⟩
 intro K hK; go_simp; (try go_ints); refine hK _ ?_; clear hK K
 repeat (first | ((first | apply wpFree_still (hg := rfl) | apply wpFree_stillG rfl); (intro w hw; clear hw; go_simp; (try go_ints); (first | with_reducible rfl | (go_simp; with_reducible rfl))); (intro K hK; go_simp; (try go_ints); refine hK _ ?_; clear hK K)) | (apply wpFree_skip rfl; (intro K hK; go_simp; (try go_ints); refine hK _ ?_; clear hK K)))
 apply wpFree_callG rfl
 · intro w hw; go_simp; first | with_reducible rfl | with_reducible exact ⟨rfl, rfl⟩
 · intro w hw; exact (format_nil w).mono fun e w' ⟨h1, h2⟩ => ⟨h1, hw.trans (h2.mono hw.size)⟩
 intro K hK; go_simp; (try go_ints); refine hK _ ?_; clear hK K
 repeat (first | ((first | apply wpFree_still (hg := rfl) | apply wpFree_stillG rfl); (intro w hw; clear hw; go_simp; (try go_ints); (first | with_reducible rfl | (go_simp; with_reducible rfl))); (intro K hK; go_simp; (try go_ints); refine hK _ ?_; clear hK K)) | (apply wpFree_skip rfl; (intro K hK; go_simp; (try go_ints); refine hK _ ?_; clear hK K)))
 with_reducible refine wpFree_nil ?_
 intro w4 hb4
 have HB4 := Lib.hid (HB3.out.trans (hb4.mono HB3.out.size))
 have HPt := Lib.hid (gparse_any t (by omega) w4 (HT.out _ HB4.out).2 (HEr.out _ HB4.out) (HMx.out _ HB4.out))
 have HRd := Lib.hid fun W => rreadG_any t (by omega) W
 have hok := readG_ok t
 have hgood := linesP_good lineG (partsA 10 [] t) Gr.none 1
 rw [show linesP lineG Gr.none 1 (partsA 10 [] t) = readG t from rfl] at hgood
 obtain ⟨X, hX⟩ : ∃ X, X = readG t := ⟨_, rfl⟩
 rw [← hX] at HPt hok hgood HRd
 obtain ⟨H, n, c⟩ := X
 clear hb4 HB3 HFm HRf HRow hsr3 hX HG3 HRG3 hTT
 go_wp2_with fail
 refine HPt.out.mono ?_
 rintro r w5 ⟨h5, hb5⟩
 have HB5 := Lib.hid (HB4.out.trans (hb5.mono HB4.out.size))
 rcases h5 with ⟨h0, g3, bV3, bE3, rfl, hG3, -⟩ | ⟨h0, rfl⟩
 · have HOk := Lib.hid hok
   have HG5 := Lib.hid hG3
   have hc0 : c = 0 := h0
   have hn0 : n = 0 := hgood h0
   subst hc0
   subst hn0
   clear hb5 hG3 HPt HB4 hgood hok h0
   go_wp2_with fail
   refine (HRd.out w5).mono ?_
   rintro r w6 ⟨aV', nV, cV', aE', nE, cE', rfl, hR6, hb6⟩
   have HR6 := Lib.hid (hR6 (by first | trivial | rfl))
   have HB6 := Lib.hid (HB5.out.trans (hb6.mono HB5.out.size))
   have HG6 := Lib.hid (HG5.out.below hb6)
   clear hb6 hR6 HRd
   go_wp2_with fail
   generalize hW7 : World.alloc w6 _ = w7
   obtain ⟨r7, hb7⟩ := alloc_row hW7
   have hs7 := row?_lt r7
   have HRow := Lib.hid fun W (hW : Below w7.heap.size w7 W) => (row?_below hW hs7).trans r7
   have HB7 := Lib.hid (HB6.out.trans (hb7.mono HB6.out.size))
   have HG7 := Lib.hid (HG6.out.below hb7)
   have HR7 := Lib.hid (HR6.out.below hb7)
   clear hW7 r7 hb7
   refine wp_region_mix (fun W => Below w7.heap.size w7 W) 25 [(0, true), (1, true), (2, true), (3, true), (4, true), (5, true), (6, true), (7, true), (8, true), (9, true), (10, true), (11, true), (12, true), (13, true), (14, true), (15, true), (16, true), (17, true), (18, true), (19, true), (21, true), (20, false), (22, false), (23, true), (24, true)] (by kernel_rfl) (by kernel_rfl) (Below.refl _ _).drew ?_
   repeat ((first | apply wpPlan_still rfl rfl | apply wpPlan_stillG rfl rfl); (intro w hw; have r1 := HRow.out _ hw; clear hw; go_simp; (try go_ints); (first | with_reducible rfl | (go_simp; with_reducible rfl))); (intro K hK; go_simp; (try go_ints); refine hK _ _ ?_; clear hK K))
   apply wpPlan_actG rfl rfl
   intro K hK
   unfold Oper.wp
   go_simp
   refine (to_any g3 bV3 bE3 H HOk.out w7.drew (HG7.out.below (Below.refl _ _).drew)).mono ?_
   rintro r w8 ⟨vV8, vE8, rfl, hR8, hb8⟩
   have hb8' := (Below.refl w7.heap.size w7).drew.trans hb8
   have HR8 := Lib.hid hR8
   have HB8 := Lib.hid hb8'
   refine hK _ _ hb8' ?_
   clear hK K hR8 hb8 hb8'
   apply wpPlan_actG rfl rfl
   intro K hK
   unfold Oper.wp
   go_simp
   refine (rsame_any H HOk.out _ _ _ _ w8 HR8.out (HR7.out.below HB8.out)).mono ?_
   rintro r w9 ⟨rfl, hb9⟩
   have hb9' := HB8.out.trans (hb9.mono HB8.out.size)
   have HB9 := Lib.hid hb9'
   refine hK _ _ hb9' ?_
   clear hK K hb9 hb9'
   repeat ((first | apply wpPlan_still rfl rfl | apply wpPlan_stillG rfl rfl); (intro w hw; clear hw; go_simp; (try go_ints); (first | with_reducible rfl | (go_simp; with_reducible rfl))); (intro K hK; go_simp; (try go_ints); refine hK _ _ ?_; clear hK K))
   refine wpPlan_nil ?_
   simp only [List.drop_succ_cons, List.drop_zero]
   go_wp2_with fail
   go_ret
   exact ⟨rfl, HB7.out.trans (HB9.out.mono HB7.out.size)⟩
 · have hc0 : ¬ c = 0 := h0
   have e1 : ((c : Int) == 0) = false := beq_false_of_ne (by omega)
   have e2 : ¬ (c : Int) = 0 := by omega
   have e3 : ((c : Int) == (c : Int)) = true := beq_self_eq_true _
   have e4 : ((n : Int) == (n : Int)) = true := beq_self_eq_true _
   clear hb5 HPt HB4 hgood hok h0
   go_wp2_with fail
   refine (HRd.out w5).mono ?_
   rintro r w6 ⟨aV', nV, cV', aE', nE, cE', rfl, -, hb6⟩
   have HB6 := Lib.hid (HB5.out.trans (hb6.mono HB5.out.size))
   clear hb6 HRd
   go_wp2_with fail
   generalize hW7 : World.alloc w6 _ = w7
   obtain ⟨-, hb7⟩ := alloc_row hW7
   have HB7 := Lib.hid (HB6.out.trans (hb7.mono HB6.out.size))
   clear hW7 hb7
   refine wp_region_free_tail (fun W => Below w7.heap.size w7 W) 25 (by kernel_rfl) (by kernel_rfl) (Below.refl _ _).drew ?_
   simp only [List.take_succ_cons, List.take_zero, List.drop_succ_cons, List.drop_zero]
   repeat (first | ((first | apply wpFree_still (hg := rfl) | apply wpFree_stillG rfl); (intro w hw; clear hw; go_simp; (try go_ints); (first | with_reducible rfl | (go_simp; with_reducible rfl))); (intro K hK; go_simp; (try go_ints); refine hK _ ?_; clear hK K)) | (apply wpFree_skip rfl; (intro K hK; go_simp; (try go_ints); refine hK _ ?_; clear hK K)))
   with_reducible refine wpFree_nil ?_
   intro w8 hb8
   have HB8 := Lib.hid (HB7.out.trans (hb8.mono HB7.out.size))
   clear hb8
   go_wp2_with fail
   go_ret
   exact ⟨rfl, HB8.out⟩
end Go.Proofs.YtlmccbepllgbfaaGreatDoor
