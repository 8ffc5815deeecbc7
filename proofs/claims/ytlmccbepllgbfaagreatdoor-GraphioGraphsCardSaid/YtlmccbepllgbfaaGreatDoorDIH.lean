/- Walk: a draft's edge. -/
import Derived.Test.YtlmccbepllgbfaaGreatDoorDIG
import Derived.Test.YtlmccbepllgbfaaGreatDoorDZa
set_option linter.all false
namespace Go.Proofs.YtlmccbepllgbfaaGreatDoor
open Go Go.RowKit Go.Pal Go.Shelf
attribute [local go_sem] Oper.semAt_some
set_option maxRecDepth 10000 in
set_option maxHeartbeats 4000000 in
theorem dedge_any (d : Nat) (G : Gr) (vs es : Value) (S : Nat) (a b c t : Int) (g cap : Nat) (w : World) (h : DOk w d G vs es S) (hc : ∀ i z, [a, b, c, t][i]? = some z → w.cell? ⟨g, i, none⟩ = some (.int .i64 z)) (hgl : g < w.heap.size) (hgd : g ≠ d) (hgv : vs.ownBlock ≠ some g) (hge : es.ownBlock ≠ some g) :
   Calls Tryz.prog 114 #[.pointer (some ⟨d, 0, none⟩), .slice (some ⟨g, 0, none⟩) 4 cap] w fun e w' => e = .returned (.int .i64 ((eStep G a b c t).2 : Nat)) ∧ DfSt w d (eStep G a b c t).1 w' := by
 have H0 := Lib.hid h
 have hdl := h.lt
 have hrow := h.row
 obtain ⟨qv, cv, rfl⟩ := h.V.sl
 obtain ⟨qe, ce, rfl⟩ := h.E.sl
 obtain ⟨X, hX⟩ : ∃ X, X = eStep G a b c t := ⟨_, rfl⟩
 rw [← hX]
 have HX := Lib.hid hX
 have hlV := h.ok.len
 have hlE := h.ok.most
 obtain ⟨LV, hLV⟩ : ∃ n, n = G.V.length := ⟨_, rfl⟩
 obtain ⟨LE, hLE⟩ : ∃ n, n = G.E.length := ⟨_, rfl⟩
 rw [← hLV] at hlV hrow
 rw [← hLE] at hlE hrow
 have HLV := Lib.hid hLV
 have HLE := Lib.hid hLE
 rw [← hLV, ← hLE] at H0
 have HST := Lib.hid (show DfSt w d G w from ⟨⟨_, _, _, h⟩, Below.refl _ _⟩)
 obtain ⟨ua, hua⟩ : ∃ u, u = (Pal.look G.V a).isSome := ⟨_, rfl⟩
 obtain ⟨ub, hub⟩ : ∃ u, u = (Pal.look G.V b).isSome := ⟨_, rfl⟩
 have HUa := Lib.hid hua
 have HUb := Lib.hid hub
 obtain ⟨w1, hw1⟩ : ∃ w1, w1 = w := ⟨_, rfl⟩
 subst hw1
 have HK := Lib.hid fun W (hW : Below w1.heap.size w1 W) => show W.cell? ⟨g, 0, none⟩ = some (.int .i64 a) ∧ W.cell? ⟨g, 1, none⟩ = some (.int .i64 b) ∧ W.cell? ⟨g, 2, none⟩ = some (.int .i64 c) ∧ W.cell? ⟨g, 3, none⟩ = some (.int .i64 t) from
   ⟨(hW.cell (p := ⟨g, 0, none⟩) hgl).trans (hc 0 a rfl), (hW.cell (p := ⟨g, 1, none⟩) hgl).trans (hc 1 b rfl), (hW.cell (p := ⟨g, 2, none⟩) hgl).trans (hc 2 c rfl), (hW.cell (p := ⟨g, 3, none⟩) hgl).trans (hc 3 t rfl)⟩
 have HFF := Lib.hid fun W (hW : Below w1.heap.size w1 W) => show W.cell? ⟨d, 0, none⟩ = some (.slice qv LV cv) ∧ W.cell? ⟨d, 1, none⟩ = some (.slice qe LE ce) ∧ rowLoad Tryz.prog 80 ⟨d, 2, none⟩ W = .ok (.agg (words S)) W from
   have hr := (row?_below hW hdl).trans hrow
   ⟨(cell?_row (i := 0) hr).trans (dRow_0 _ _ _), (cell?_row (i := 1) hr).trans (dRow_1 _ _ _), dRow_load hr⟩
 have HHa := Lib.hid fun W (hW : Below w1.heap.size w1 W) (hi : idB a = true) => show Calls Tryz.prog 77 #[.agg (words S), .int .i64 a] W fun e w' => e = .returned (.bool ua) ∧ Below w1.heap.size w1 w' from (has_any S a W).mono fun e w' ⟨h1, h2⟩ =>
   ⟨by rw [h1, decide_eq_true (idB_iff.1 hi), Bool.true_and, h.bit a hi, hua], hW.trans (h2.mono hW.size)⟩
 have HHb := Lib.hid fun W (hW : Below w1.heap.size w1 W) (hi : idB b = true) => show Calls Tryz.prog 77 #[.agg (words S), .int .i64 b] W fun e w' => e = .returned (.bool ub) ∧ Below w1.heap.size w1 w' from (has_any S b W).mono fun e w' ⟨h1, h2⟩ =>
   ⟨by rw [h1, decide_eq_true (idB_iff.1 hi), Bool.true_and, h.bit b hi, hub], hW.trans (h2.mono hW.size)⟩
 obtain ⟨k0, k1, k2, k3⟩ := HK.out w1 (Below.refl _ _)
 clear h hc hX hrow hLV hLE hua hub
 go_enter Tryz.func114, Tryz.ntmps114
 cases h1 : idB a with
 | false =>
   have HE := Lib.hid (show X = (G, 2) from by rw [HX.out]; unfold eStep; simp [h1])
   go_wp2_with (refine (fid_any a _).mono ?_; rintro e w1 ⟨rfl, rfl⟩; rw [h1])
   go_ret
   exact ⟨by rw [HE.out]; rfl, by rw [HE.out]; exact HST.out⟩
 | true =>
 cases h2 : idB b with
 | false =>
   have HE := Lib.hid (show X = (G, 2) from by rw [HX.out]; unfold eStep; simp [h1, h2])
   go_wp2_with (first | (refine (fid_any a _).mono ?_; rintro e w1 ⟨rfl, rfl⟩; rw [h1]) | (refine (fid_any b _).mono ?_; rintro e w1 ⟨rfl, rfl⟩; rw [h2]))
   go_ret
   exact ⟨by rw [HE.out]; rfl, by rw [HE.out]; exact HST.out⟩
 | true =>
 cases h3 : labB c with
 | false =>
   have HE := Lib.hid (show X = (G, 2) from by rw [HX.out]; unfold eStep; simp [h1, h2, h3])
   go_wp2_with (first | (refine (fid_any a _).mono ?_; rintro e w1 ⟨rfl, rfl⟩; rw [h1]) | (refine (fid_any b _).mono ?_; rintro e w1 ⟨rfl, rfl⟩; rw [h2]) | (refine (flab_any c _).mono ?_; rintro e w1 ⟨rfl, rfl⟩; rw [h3]))
   go_ret
   exact ⟨by rw [HE.out]; rfl, by rw [HE.out]; exact HST.out⟩
 | true =>
 cases h4 : wtB t with
 | false =>
   have HE := Lib.hid (show X = (G, 2) from by rw [HX.out]; unfold eStep; simp [h1, h2, h3, h4])
   go_wp2_with (first | (refine (fid_any a _).mono ?_; rintro e w1 ⟨rfl, rfl⟩; rw [h1]) | (refine (fid_any b _).mono ?_; rintro e w1 ⟨rfl, rfl⟩; rw [h2]) | (refine (flab_any c _).mono ?_; rintro e w1 ⟨rfl, rfl⟩; rw [h3]) | (refine (fwt_any t _).mono ?_; rintro e w1 ⟨rfl, rfl⟩; rw [h4]))
   go_ret
   exact ⟨by rw [HE.out]; rfl, by rw [HE.out]; exact HST.out⟩
 | true =>
 have HX2 := Lib.hid (show X = if a = b then (G, 15) else if b < a ∨ lastE G.E a b = true then (G, 3) else if ((Pal.look G.V a).isSome && (Pal.look G.V b).isSome) = true then if G.E.length = 1024 then (G, 8) else (⟨G.V, G.E ++ [((a, b), (c.toNat, t))]⟩, 0) else (G, 9) from by rw [HX.out]; unfold eStep; simp only [h1, h2, h3, h4, Bool.true_and, if_true])
 have HHa := Lib.hid fun W hW => HHa.out W hW h1
 have HHb := Lib.hid fun W hW => HHb.out W hW h2
 go_wp2_with (first | (refine (fid_any a _).mono ?_; rintro e w0 ⟨rfl, hw0⟩; rw [h1, hw0]; clear hw0) | (refine (fid_any b _).mono ?_; rintro e w0 ⟨rfl, hw0⟩; rw [h2, hw0]; clear hw0) | (refine (flab_any c _).mono ?_; rintro e w0 ⟨rfl, hw0⟩; rw [h3, hw0]; clear hw0) | (refine (fwt_any t _).mono ?_; rintro e w0 ⟨rfl, hw0⟩; rw [h4, hw0]; clear hw0))
 clear k0 k1 k2 k3
 by_cases hab : a = b
 · have HE := Lib.hid (HX2.out.trans (if_pos hab))
   have e1 : (a == b) = true := by rw [hab]; exact beq_self_eq_true _
   have HAB := Lib.hid hab
   clear hab
   refine wp_region_free_tail (fun W => Below w1.heap.size w1 W) 7 (by kernel_rfl) (by kernel_rfl) (Below.refl _ _).drew ?_
   simp only [List.take_succ_cons, List.take_zero, List.drop_succ_cons, List.drop_zero]
   repeat (first | ((first | apply wpFree_still (hg := rfl) | apply wpFree_stillG rfl); (intro w hw; obtain ⟨k0, k1, k2, k3⟩ := HK.out _ hw; clear hw; go_simp; (try go_ints); (first | with_reducible rfl | (go_simp; with_reducible rfl))); (intro K hK; go_simp; (try go_ints); refine hK _ ?_; clear hK K)) | (apply wpFree_skip rfl; (intro K hK; go_simp; (try go_ints); refine hK _ ?_; clear hK K)))
   with_reducible refine wpFree_nil ?_
   intro w2 hb2
   have HB2 := Lib.hid hb2
   clear hb2
   go_wp2_with fail
   go_ret
   exact ⟨by rw [HE.out]; rfl, by rw [HE.out]; exact HST.out.below HB2.out⟩
 · have HX3 := Lib.hid (HX2.out.trans (if_neg hab))
   have e1 : (a == b) = false := beq_false_of_ne hab
   have e2 : ¬ a = b := hab
   refine wp_region_free_tail (fun W => Below w1.heap.size w1 W) 7 (by kernel_rfl) (by kernel_rfl) (Below.refl _ _).drew ?_
   simp only [List.take_succ_cons, List.take_zero, List.drop_succ_cons, List.drop_zero]
   repeat (first | ((first | apply wpFree_still (hg := rfl) | apply wpFree_stillG rfl); (intro w hw; obtain ⟨k0, k1, k2, k3⟩ := HK.out _ hw; clear hw; go_simp; (try go_ints); (first | with_reducible rfl | (go_simp; with_reducible rfl))); (intro K hK; go_simp; (try go_ints); refine hK _ ?_; clear hK K)) | (apply wpFree_skip rfl; (intro K hK; go_simp; (try go_ints); refine hK _ ?_; clear hK K)))
   with_reducible refine wpFree_nil ?_
   intro w2 hb2
   have HB2 := Lib.hid hb2
   clear hb2
   go_wp2_with fail
   clear e1 e2
   by_cases hba : b < a
   · have HE := Lib.hid (HX3.out.trans (if_pos (.inl hba)))
     have d1 : decide (b < a) = true := decide_eq_true hba
     refine wp_region_free_tail (fun W => Below w1.heap.size w1 W) 37 (by kernel_rfl) (by kernel_rfl) HB2.out.drew ?_
     simp only [List.take_succ_cons, List.take_zero, List.drop_succ_cons, List.drop_zero]
     repeat (first | ((first | apply wpFree_still (hg := rfl) | apply wpFree_stillG rfl); (intro w hw; obtain ⟨k0, k1, k2, k3⟩ := HK.out _ hw; obtain ⟨f0, f1, f2⟩ := HFF.out _ hw; clear hw; go_simp; (try go_ints); (first | with_reducible rfl | (go_simp; with_reducible rfl))); (intro K hK; go_simp; (try go_ints); refine hK _ ?_; clear hK K)) | (apply wpFree_skip rfl; (intro K hK; go_simp; (try go_ints); refine hK _ ?_; clear hK K)))
     with_reducible refine wpFree_nil ?_
     intro w3 hb3
     have HB3 := Lib.hid hb3
     clear hb3
     go_wp2_with fail
     go_ret
     exact ⟨by rw [HE.out]; rfl, by rw [HE.out]; exact HST.out.below HB3.out⟩
   · have d1 : decide (b < a) = false := decide_eq_false hba
     by_cases hE0 : LE = 0
     · have d2 : decide ((0 : Int) < (LE : Int)) = false := decide_eq_false (by omega)
       have d3 : decide (0 < LE) = false := decide_eq_false (by omega)
       have d4 : ¬ 0 < LE := by omega
       have hEn : G.E = [] := List.length_eq_zero_iff.1 (HLE.out.symm.trans hE0)
       have HX4 := Lib.hid (HX3.out.trans (if_neg (by rintro (h | h); · exact hba h
                                                      · rw [hEn] at h; cases h)))
       clear hEn hE0
       refine wp_region_free_tail (fun W => Below w1.heap.size w1 W) 37 (by kernel_rfl) (by kernel_rfl) HB2.out.drew ?_
       simp only [List.take_succ_cons, List.take_zero, List.drop_succ_cons, List.drop_zero]
       repeat (first | ((first | apply wpFree_still (hg := rfl) | apply wpFree_stillG rfl); (intro w hw; obtain ⟨k0, k1, k2, k3⟩ := HK.out _ hw; obtain ⟨f0, f1, f2⟩ := HFF.out _ hw; clear hw; go_simp; (try go_ints); (first | with_reducible rfl | (go_simp; with_reducible rfl))); (intro K hK; go_simp; (try go_ints); refine hK _ ?_; clear hK K)) | (apply wpFree_skip rfl; (intro K hK; go_simp; (try go_ints); refine hK _ ?_; clear hK K)))
       with_reducible refine wpFree_nil ?_
       intro w3 hb3
       have HB3 := Lib.hid hb3
       clear hb3
       go_wp2_with fail
       clear d1 d2 d3 d4 hba hab
       cases ua with
       | false =>
         have HE := Lib.hid (HX4.out.trans (if_neg (by rw [← HUa.out]; simp)))
         refine wp_region_free_tail (fun W => Below w1.heap.size w1 W) 20 (by kernel_rfl) (by kernel_rfl) HB3.out.drew ?_
         simp only [List.take_succ_cons, List.take_zero, List.drop_succ_cons, List.drop_zero]
         repeat (first | ((first | apply wpFree_still (hg := rfl) | apply wpFree_stillG rfl); (intro w hw; obtain ⟨k0, k1, k2, k3⟩ := HK.out _ hw; obtain ⟨f0, f1, f2⟩ := HFF.out _ hw; clear hw; go_simp; (try go_ints); (first | with_reducible rfl | (go_simp; with_reducible rfl))); (intro K hK; go_simp; (try go_ints); refine hK _ ?_; clear hK K)) | (apply wpFree_skip rfl; (intro K hK; go_simp; (try go_ints); refine hK _ ?_; clear hK K)))
         apply wpFree_call
         · intro w hw; go_simp; first | with_reducible rfl | with_reducible exact ⟨rfl, rfl⟩
         · with_reducible rfl
         · intro w hw; exact HHa.out w hw
         intro K hK; go_simp; (try go_ints); refine hK _ ?_; clear hK K
         repeat (first | ((first | apply wpFree_still (hg := rfl) | apply wpFree_stillG rfl); (intro w hw; obtain ⟨k0, k1, k2, k3⟩ := HK.out _ hw; obtain ⟨f0, f1, f2⟩ := HFF.out _ hw; clear hw; go_simp; (try go_ints); (first | with_reducible rfl | (go_simp; with_reducible rfl))); (intro K hK; go_simp; (try go_ints); refine hK _ ?_; clear hK K)) | (apply wpFree_skip rfl; (intro K hK; go_simp; (try go_ints); refine hK _ ?_; clear hK K)))
         skip
         with_reducible refine wpFree_nil ?_
         intro w4 hb4
         obtain ⟨f0, f1, f2⟩ := HFF.out w4 hb4
         have HB4 := Lib.hid hb4
         clear hb4
         go_wp2_with fail
         go_ret
         exact ⟨by rw [HE.out]; rfl, by rw [HE.out]; exact HST.out.below HB4.out⟩
       | true =>
       cases ub with
       | false =>
         have HE := Lib.hid (HX4.out.trans (if_neg (by rw [← HUa.out, ← HUb.out]; simp)))
         refine wp_region_free_tail (fun W => Below w1.heap.size w1 W) 20 (by kernel_rfl) (by kernel_rfl) HB3.out.drew ?_
         simp only [List.take_succ_cons, List.take_zero, List.drop_succ_cons, List.drop_zero]
         repeat (first | ((first | apply wpFree_still (hg := rfl) | apply wpFree_stillG rfl); (intro w hw; obtain ⟨k0, k1, k2, k3⟩ := HK.out _ hw; obtain ⟨f0, f1, f2⟩ := HFF.out _ hw; clear hw; go_simp; (try go_ints); (first | with_reducible rfl | (go_simp; with_reducible rfl))); (intro K hK; go_simp; (try go_ints); refine hK _ ?_; clear hK K)) | (apply wpFree_skip rfl; (intro K hK; go_simp; (try go_ints); refine hK _ ?_; clear hK K)))
         apply wpFree_call
         · intro w hw; go_simp; first | with_reducible rfl | with_reducible exact ⟨rfl, rfl⟩
         · with_reducible rfl
         · intro w hw; exact HHa.out w hw
         intro K hK; go_simp; (try go_ints); refine hK _ ?_; clear hK K
         repeat (first | ((first | apply wpFree_still (hg := rfl) | apply wpFree_stillG rfl); (intro w hw; obtain ⟨k0, k1, k2, k3⟩ := HK.out _ hw; obtain ⟨f0, f1, f2⟩ := HFF.out _ hw; clear hw; go_simp; (try go_ints); (first | with_reducible rfl | (go_simp; with_reducible rfl))); (intro K hK; go_simp; (try go_ints); refine hK _ ?_; clear hK K)) | (apply wpFree_skip rfl; (intro K hK; go_simp; (try go_ints); refine hK _ ?_; clear hK K)))
         apply wpFree_callG rfl
         · intro w hw; go_simp; first | with_reducible rfl | with_reducible exact ⟨rfl, rfl⟩
         · intro w hw; exact HHb.out w hw
         intro K hK; go_simp; (try go_ints); refine hK _ ?_; clear hK K
         repeat (first | ((first | apply wpFree_still (hg := rfl) | apply wpFree_stillG rfl); (intro w hw; clear hw; go_simp; (try go_ints); (first | with_reducible rfl | (go_simp; with_reducible rfl))); (intro K hK; go_simp; (try go_ints); refine hK _ ?_; clear hK K)) | (apply wpFree_skip rfl; (intro K hK; go_simp; (try go_ints); refine hK _ ?_; clear hK K)))
         with_reducible refine wpFree_nil ?_
         intro w4 hb4
         obtain ⟨f0, f1, f2⟩ := HFF.out w4 hb4
         have HB4 := Lib.hid hb4
         clear hb4
         go_wp2_with fail
         go_ret
         exact ⟨by rw [HE.out]; rfl, by rw [HE.out]; exact HST.out.below HB4.out⟩
       | true =>
       have HX5 := Lib.hid (HX4.out.trans (if_pos (by rw [← HUa.out, ← HUb.out]; rfl)))
       by_cases h1024 : LE = 1024
       · have HE := Lib.hid (HX5.out.trans (if_pos (by rw [← HLE.out]; exact h1024)))
         have e1 : ((LE : Int) == 1024) = true := by rw [h1024]; rfl
         have e2 : (LE : Int) = 1024 := by omega
         have HE2 := Lib.hid e2
         clear h1024 e2
         refine wp_region_free_tail (fun W => Below w1.heap.size w1 W) 20 (by kernel_rfl) (by kernel_rfl) HB3.out.drew ?_
         simp only [List.take_succ_cons, List.take_zero, List.drop_succ_cons, List.drop_zero]
         repeat (first | ((first | apply wpFree_still (hg := rfl) | apply wpFree_stillG rfl); (intro w hw; obtain ⟨k0, k1, k2, k3⟩ := HK.out _ hw; obtain ⟨f0, f1, f2⟩ := HFF.out _ hw; clear hw; go_simp; (try go_ints); (first | with_reducible rfl | (go_simp; with_reducible rfl))); (intro K hK; go_simp; (try go_ints); refine hK _ ?_; clear hK K)) | (apply wpFree_skip rfl; (intro K hK; go_simp; (try go_ints); refine hK _ ?_; clear hK K)))
         apply wpFree_call
         · intro w hw; go_simp; first | with_reducible rfl | with_reducible exact ⟨rfl, rfl⟩
         · with_reducible rfl
         · intro w hw; exact HHa.out w hw
         intro K hK; go_simp; (try go_ints); refine hK _ ?_; clear hK K
         repeat (first | ((first | apply wpFree_still (hg := rfl) | apply wpFree_stillG rfl); (intro w hw; obtain ⟨k0, k1, k2, k3⟩ := HK.out _ hw; obtain ⟨f0, f1, f2⟩ := HFF.out _ hw; clear hw; go_simp; (try go_ints); (first | with_reducible rfl | (go_simp; with_reducible rfl))); (intro K hK; go_simp; (try go_ints); refine hK _ ?_; clear hK K)) | (apply wpFree_skip rfl; (intro K hK; go_simp; (try go_ints); refine hK _ ?_; clear hK K)))
         apply wpFree_callG rfl
         · intro w hw; go_simp; first | with_reducible rfl | with_reducible exact ⟨rfl, rfl⟩
         · intro w hw; exact HHb.out w hw
         intro K hK; go_simp; (try go_ints); refine hK _ ?_; clear hK K
         repeat (first | ((first | apply wpFree_still (hg := rfl) | apply wpFree_stillG rfl); (intro w hw; clear hw; go_simp; (try go_ints); (first | with_reducible rfl | (go_simp; with_reducible rfl))); (intro K hK; go_simp; (try go_ints); refine hK _ ?_; clear hK K)) | (apply wpFree_skip rfl; (intro K hK; go_simp; (try go_ints); refine hK _ ?_; clear hK K)))
         with_reducible refine wpFree_nil ?_
         intro w4 hb4
         obtain ⟨f0, f1, f2⟩ := HFF.out w4 hb4
         have HB4 := Lib.hid hb4
         clear hb4
         go_wp2_with fail
         go_ret
         exact ⟨by rw [HE.out]; rfl, by rw [HE.out]; exact HST.out.below HB4.out⟩
       · have HE := Lib.hid (HX5.out.trans (if_neg (by rw [← HLE.out]; exact h1024)))
         have e1 : ((LE : Int) == 1024) = false := beq_false_of_ne (by omega)
         have e2 : ¬ (LE : Int) = 1024 := by omega
         have h1k : LE < 1024 := by omega
         clear h1024
         refine wp_region_free_tail (fun W => Below w1.heap.size w1 W) 20 (by kernel_rfl) (by kernel_rfl) HB3.out.drew ?_
         simp only [List.take_succ_cons, List.take_zero, List.drop_succ_cons, List.drop_zero]
         repeat (first | ((first | apply wpFree_still (hg := rfl) | apply wpFree_stillG rfl); (intro w hw; obtain ⟨k0, k1, k2, k3⟩ := HK.out _ hw; obtain ⟨f0, f1, f2⟩ := HFF.out _ hw; clear hw; go_simp; (try go_ints); (first | with_reducible rfl | (go_simp; with_reducible rfl))); (intro K hK; go_simp; (try go_ints); refine hK _ ?_; clear hK K)) | (apply wpFree_skip rfl; (intro K hK; go_simp; (try go_ints); refine hK _ ?_; clear hK K)))
         apply wpFree_call
         · intro w hw; go_simp; first | with_reducible rfl | with_reducible exact ⟨rfl, rfl⟩
         · with_reducible rfl
         · intro w hw; exact HHa.out w hw
         intro K hK; go_simp; (try go_ints); refine hK _ ?_; clear hK K
         repeat (first | ((first | apply wpFree_still (hg := rfl) | apply wpFree_stillG rfl); (intro w hw; obtain ⟨k0, k1, k2, k3⟩ := HK.out _ hw; obtain ⟨f0, f1, f2⟩ := HFF.out _ hw; clear hw; go_simp; (try go_ints); (first | with_reducible rfl | (go_simp; with_reducible rfl))); (intro K hK; go_simp; (try go_ints); refine hK _ ?_; clear hK K)) | (apply wpFree_skip rfl; (intro K hK; go_simp; (try go_ints); refine hK _ ?_; clear hK K)))
         apply wpFree_callG rfl
         · intro w hw; go_simp; first | with_reducible rfl | with_reducible exact ⟨rfl, rfl⟩
         · intro w hw; exact HHb.out w hw
         intro K hK; go_simp; (try go_ints); refine hK _ ?_; clear hK K
         repeat (first | ((first | apply wpFree_still (hg := rfl) | apply wpFree_stillG rfl); (intro w hw; clear hw; go_simp; (try go_ints); (first | with_reducible rfl | (go_simp; with_reducible rfl))); (intro K hK; go_simp; (try go_ints); refine hK _ ?_; clear hK K)) | (apply wpFree_skip rfl; (intro K hK; go_simp; (try go_ints); refine hK _ ?_; clear hK K)))
         with_reducible refine wpFree_nil ?_
         intro w4 hb4
         obtain ⟨f0, f1, f2⟩ := HFF.out w4 hb4
         have HB4 := Lib.hid hb4
         clear hb4
         go_wp2_with fail
         clear f0 f1 f2
         obtain ⟨cn, hcn⟩ : ∃ cn : Nat, c = (cn : Int) := ⟨c.toNat, by rw [labB_iff] at h3; omega⟩
         subst hcn
         have hb255 : cn ≤ 255 := by rw [labB_iff] at h3; omega
         rw [Int.toNat_natCast] at HE
         have HA := Lib.hid (H0.out.below HB4.out)
         have hdl2 : d < w4.heap.size := Nat.lt_of_lt_of_le hdl HB4.out.size
         have hgl2 : g < w4.heap.size := Nat.lt_of_lt_of_le hgl HB4.out.size
         have HQ := Lib.hid fun W (hW : Below w4.heap.size w4 W) => show W.cell? ⟨d, 1, none⟩ = some (.slice (qe) LE ce) ∧ W.cell? ⟨g, 0, none⟩ = some (.int .i64 a) ∧ W.cell? ⟨g, 1, none⟩ = some (.int .i64 b) ∧ W.cell? ⟨g, 2, none⟩ = some (.int .i64 (cn : Int)) ∧ W.cell? ⟨g, 3, none⟩ = some (.int .i64 t) from
           ⟨(HFF.out W (HB4.out.trans (hW.mono HB4.out.size))).2.1, HK.out W (HB4.out.trans (hW.mono HB4.out.size))⟩
         clear HFF HK
         refine wp_region_mix (fun W => W.cell? ⟨d, 1, none⟩ = some (.slice (qe) LE ce) ∧ W.cell? ⟨g, 0, none⟩ = some (.int .i64 a) ∧ W.cell? ⟨g, 1, none⟩ = some (.int .i64 b) ∧ W.cell? ⟨g, 2, none⟩ = some (.int .i64 (cn : Int)) ∧ W.cell? ⟨g, 3, none⟩ = some (.int .i64 t)) 23 [(0, true), (1, true), (2, true), (3, true), (4, true), (5, true), (6, true), (7, true), (8, true), (9, true), (10, true), (11, true), (12, true), (13, true), (14, true), (15, true), (16, true), (17, true), (18, true), (19, false), (20, false), (21, true), (22, true)] (by kernel_rfl) (by kernel_rfl) (HQ.out _ (Below.refl _ _).drew) ?_
         repeat (apply wpPlan_still rfl rfl; (intro w hw; obtain ⟨f0, k0, k1, k2, k3⟩ := hw; go_simp; (try go_ints); (first | with_reducible rfl | (go_simp; with_reducible rfl))); (intro K hK; go_simp; (try go_ints); refine hK _ _ ?_; clear hK K))
         apply wpPlan_act rfl rfl
         intro K hK
         unfold Oper.wp
         go_simp
         refine hK _ _ (HQ.out _ ((Below.refl _ w4).drew.alloc (Nat.le_refl _) _)) ?_
         clear hK K
         apply wpPlan_act rfl rfl
         intro K hK
         refine wp_appO elE 122 Tryz.underlying122 _ _ rfl (d + 1) (.slice (qe) LE ce) G.E rfl ?_ _ ((a, b), (cn, t)) _ rfl (row?_alloc_at _ _ _ _ rfl) (by rw [← HLE.out]; omega) (by simp; omega) ?_
         · exact (HA.out.E.below (Below.refl _ w4).drew (Nat.le_refl _)).alloc _
         intro v' w5 hO2 hb2 hg2 hbk2
         obtain ⟨q2, cap2, hv2⟩ := hO2.sl
         rw [show (G.E ++ [((a, b), (cn, t))]).length = LE + 1 from by rw [List.length_append, ← HLE.out]; rfl] at hv2
         subst hv2
         have HO2 := Lib.hid hO2
         have HBx := Lib.hid hb2
         have HV2 := Lib.hid (show OwnV (d + 1) w5 (.slice qv LV cv) G.V from ((HA.out.V.below (Below.refl _ w4).drew (Nat.le_refl _)).alloc _).same fun j hj => hg2.block j (by have := HA.out.V.lt j hj; simp; omega) (fun e => HA.out.ne j hj e.symm))
         have HN2 := Lib.hid (show ∀ j, (Value.slice qv LV cv).ownBlock = some j → (Value.slice q2 (LE + 1) cap2).ownBlock ≠ some j from fun j hj he => by
           rcases hbk2 with h | h
           · exact HA.out.ne j hj (h.symm.trans he)
           · have h3 := h.symm.trans he
             have h4 := HA.out.V.lt j hj
             simp at h3
             omega)
         have hd2 : row? w5 d = some (dRow (.slice qv LV cv) (.slice (qe) LE ce) S) := (row?_below hb2 (by omega)).trans ((row?_below (((Below.refl _ w4).drew.alloc (Nat.le_refl _) _)) hdl2).trans HA.out.row)
         have HD2 := Lib.hid hd2
         have hkk : ∀ i, w5.cell? ⟨g, i, none⟩ = w4.cell? ⟨g, i, none⟩ := fun i => by
           have e1 : w5.heap[g]? = (w4.drew.alloc (.cells #[.int .i64 a, .int .i64 b, .int .u8 (cn : Int), .int .i64 t] 125)).heap[g]? := hg2.block g (by simp; omega) (fun e => hge (by rw [HLE.out] at e; exact e.symm))
           exact (World.cell?_of_block e1).trans (((Below.refl _ w4).drew.alloc (Nat.le_refl _) _).cell (p := ⟨g, i, none⟩) hgl2)
         obtain ⟨f0, k0, k1, k2, k3⟩ := HQ.out w4 (Below.refl _ _)
         refine hK _ _ ⟨(cell?_row (i := 1) hd2).trans (dRow_1 _ _ _), (hkk 0).trans k0, (hkk 1).trans k1, (hkk 2).trans k2, (hkk 3).trans k3⟩ ?_
         clear hK K hO2 hb2 hg2 hbk2 hkk f0 k0 k1 k2 k3
         repeat (apply wpPlan_still rfl rfl; (intro w hw; clear hw; go_simp; (try go_ints); (first | with_reducible rfl | (go_simp; with_reducible rfl))); (intro K hK; go_simp; (try go_ints); refine hK _ _ ?_; clear hK K))
         refine wpPlan_nil ?_
         simp only [List.drop_succ_cons, List.drop_zero]
         have c0 : w5.cell? ⟨d, 1, none⟩ = some (.slice (qe) LE ce) := (cell?_row (i := 1) hd2).trans (dRow_1 _ _ _)
         have z0 : w5.frozen? ⟨d, 1, none⟩ = false := frozen?_row hd2
         go_wp2_with fail
         go_ret
         exact ⟨by rw [HE.out]; rfl, by
           rw [HE.out]
           refine ⟨⟨.slice qv LV cv, .slice q2 (LE + 1) cap2, S, ⟨dRow_second HD2.out _, ?_, ?_, HN2.out, H0.out.set, H0.out.bit, ?_⟩⟩, ?_⟩
           · exact HV2.out.same fun j hj => heap_setCell_other _ _ _ _ (by have := HV2.out.block j hj; show j ≠ d; omega)
           · exact HO2.out.same fun j hj => heap_setCell_other _ _ _ _ (by have := HO2.out.block j hj; show j ≠ d; omega)
           · have := eStep_ok H0.out.ok a b (cn : Int) t
             rw [← HX.out, HE.out] at this
             exact this
           · exact ((((HB4.out.mono (Nat.le_of_lt hdl)).trans ((Below.refl _ w4).drew.mono (Nat.le_of_lt hdl2))).alloc (by show d ≤ w4.heap.size; omega) _).trans (HBx.out.mono (by omega))).setCell (Nat.le_refl d) _⟩
     · obtain ⟨p, hp⟩ : ∃ p, G.E.getLast? = some p := by
         cases hg : G.E.getLast? with
         | none => rw [List.getLast?_eq_none_iff] at hg; rw [hg] at HLE; exact absurd HLE.out hE0
         | some p => exact ⟨p, rfl⟩
       have hpi : G.E[LE - 1]? = some p := by rw [← hp, List.getLast?_eq_getElem?, HLE.out]
       obtain ⟨b0, off, c', x, e1, hbb, hx, hcell⟩ := (H0.out.E.rd elE).at (i := LE - 1) (by rw [← HLE.out]; omega)
       rw [hpi] at hx
       cases hx
       simp only [Value.slice.injEq] at e1
       obtain ⟨e1, -, e2⟩ := e1
       subst e2
       subst e1
       obtain ⟨⟨pu, pv⟩, pl, pw⟩ := p
       have HP := Lib.hid fun W (hW : Below w1.heap.size w1 W) => show rowLoad Tryz.prog 125 ⟨b0, off + (LE - 1) * 4, none⟩ W = .ok (.agg #[.int .i64 pu, .int .i64 pv, .int .u8 (pl : Int), .int .i64 pw]) W from
         load_cells Tryz.isAgg125 Tryz.sizeOf125 W b0 _ _ rfl fun j u hu => hcell W hW j u hu
       have hlast := lastE_of hp a b
       have d2 : decide ((0 : Int) < (LE : Int)) = true := decide_eq_true (by omega)
       have d3 : decide (0 < LE) = true := decide_eq_true (by omega)
       have d4 : 0 < LE := by omega
       have d5 : (LE : Int) - 1 = ((LE - 1 : Nat) : Int) := by omega
       have d6 : LE - 1 < LE := by omega
       clear hpi hcell hbb
       obtain ⟨bh, hbh⟩ : ∃ bh, bh = behB a b (pu, pv) := ⟨_, rfl⟩
       have HBeh := Lib.hid fun W => behind_any a b pu pv (pl : Int) pw W
       rw [← hbh] at hlast HBeh
       cases bh with
       | false =>
         have HE := Lib.hid (HX3.out.trans (if_pos (.inr (by rw [hlast]; rfl))))
         clear hlast hp hE0 hbh
         refine wp_region_free_tail (fun W => Below w1.heap.size w1 W) 37 (by kernel_rfl) (by kernel_rfl) HB2.out.drew ?_
         simp only [List.take_succ_cons, List.take_zero, List.drop_succ_cons, List.drop_zero]
         repeat (first | ((first | apply wpFree_still (hg := rfl) | apply wpFree_stillG rfl); (intro w hw; obtain ⟨k0, k1, k2, k3⟩ := HK.out _ hw; obtain ⟨f0, f1, f2⟩ := HFF.out _ hw; have f3 := HP.out _ hw; clear hw; go_simp; (try go_ints); (first | with_reducible rfl | (go_simp; with_reducible rfl))); (intro K hK; go_simp; (try go_ints); refine hK _ ?_; clear hK K)) | (apply wpFree_skip rfl; (intro K hK; go_simp; (try go_ints); refine hK _ ?_; clear hK K)))
         apply wpFree_callG rfl
         · intro w hw; go_simp; first | with_reducible rfl | with_reducible exact ⟨rfl, rfl⟩
         · intro w hw; exact (HBeh.out w).mono fun e w' ⟨h1, h2⟩ => ⟨h1, hw.trans (h2.mono hw.size)⟩
         intro K hK; go_simp; (try go_ints); refine hK _ ?_; clear hK K
         repeat (first | ((first | apply wpFree_still (hg := rfl) | apply wpFree_stillG rfl); (intro w hw; clear hw; go_simp; (try go_ints); (first | with_reducible rfl | (go_simp; with_reducible rfl))); (intro K hK; go_simp; (try go_ints); refine hK _ ?_; clear hK K)) | (apply wpFree_skip rfl; (intro K hK; go_simp; (try go_ints); refine hK _ ?_; clear hK K)))
         with_reducible refine wpFree_nil ?_
         intro w3 hb3
         have HB3 := Lib.hid hb3
         clear hb3
         go_wp2_with fail
         go_ret
         exact ⟨by rw [HE.out]; rfl, by rw [HE.out]; exact HST.out.below HB3.out⟩
       | true =>
         have HX4 := Lib.hid (HX3.out.trans (if_neg (by rintro (h | h); · exact hba h
                                                        · rw [hlast] at h; cases h)))
         clear hlast hp hE0 hbh
         refine wp_region_free_tail (fun W => Below w1.heap.size w1 W) 37 (by kernel_rfl) (by kernel_rfl) HB2.out.drew ?_
         simp only [List.take_succ_cons, List.take_zero, List.drop_succ_cons, List.drop_zero]
         repeat (first | ((first | apply wpFree_still (hg := rfl) | apply wpFree_stillG rfl); (intro w hw; obtain ⟨k0, k1, k2, k3⟩ := HK.out _ hw; obtain ⟨f0, f1, f2⟩ := HFF.out _ hw; have f3 := HP.out _ hw; clear hw; go_simp; (try go_ints); (first | with_reducible rfl | (go_simp; with_reducible rfl))); (intro K hK; go_simp; (try go_ints); refine hK _ ?_; clear hK K)) | (apply wpFree_skip rfl; (intro K hK; go_simp; (try go_ints); refine hK _ ?_; clear hK K)))
         apply wpFree_callG rfl
         · intro w hw; go_simp; first | with_reducible rfl | with_reducible exact ⟨rfl, rfl⟩
         · intro w hw; exact (HBeh.out w).mono fun e w' ⟨h1, h2⟩ => ⟨h1, hw.trans (h2.mono hw.size)⟩
         intro K hK; go_simp; (try go_ints); refine hK _ ?_; clear hK K
         repeat (first | ((first | apply wpFree_still (hg := rfl) | apply wpFree_stillG rfl); (intro w hw; clear hw; go_simp; (try go_ints); (first | with_reducible rfl | (go_simp; with_reducible rfl))); (intro K hK; go_simp; (try go_ints); refine hK _ ?_; clear hK K)) | (apply wpFree_skip rfl; (intro K hK; go_simp; (try go_ints); refine hK _ ?_; clear hK K)))
         with_reducible refine wpFree_nil ?_
         intro w3 hb3
         have HB3 := Lib.hid hb3
         clear hb3
         go_wp2_with fail
         clear HP HBeh d1 d2 d3 d4 d5 d6 hba hab
         cases ua with
         | false =>
           have HE := Lib.hid (HX4.out.trans (if_neg (by rw [← HUa.out]; simp)))
           refine wp_region_free_tail (fun W => Below w1.heap.size w1 W) 20 (by kernel_rfl) (by kernel_rfl) HB3.out.drew ?_
           simp only [List.take_succ_cons, List.take_zero, List.drop_succ_cons, List.drop_zero]
           repeat (first | ((first | apply wpFree_still (hg := rfl) | apply wpFree_stillG rfl); (intro w hw; obtain ⟨k0, k1, k2, k3⟩ := HK.out _ hw; obtain ⟨f0, f1, f2⟩ := HFF.out _ hw; clear hw; go_simp; (try go_ints); (first | with_reducible rfl | (go_simp; with_reducible rfl))); (intro K hK; go_simp; (try go_ints); refine hK _ ?_; clear hK K)) | (apply wpFree_skip rfl; (intro K hK; go_simp; (try go_ints); refine hK _ ?_; clear hK K)))
           apply wpFree_call
           · intro w hw; go_simp; first | with_reducible rfl | with_reducible exact ⟨rfl, rfl⟩
           · with_reducible rfl
           · intro w hw; exact HHa.out w hw
           intro K hK; go_simp; (try go_ints); refine hK _ ?_; clear hK K
           repeat (first | ((first | apply wpFree_still (hg := rfl) | apply wpFree_stillG rfl); (intro w hw; obtain ⟨k0, k1, k2, k3⟩ := HK.out _ hw; obtain ⟨f0, f1, f2⟩ := HFF.out _ hw; clear hw; go_simp; (try go_ints); (first | with_reducible rfl | (go_simp; with_reducible rfl))); (intro K hK; go_simp; (try go_ints); refine hK _ ?_; clear hK K)) | (apply wpFree_skip rfl; (intro K hK; go_simp; (try go_ints); refine hK _ ?_; clear hK K)))
           skip
           with_reducible refine wpFree_nil ?_
           intro w4 hb4
           obtain ⟨f0, f1, f2⟩ := HFF.out w4 hb4
           have HB4 := Lib.hid hb4
           clear hb4
           go_wp2_with fail
           go_ret
           exact ⟨by rw [HE.out]; rfl, by rw [HE.out]; exact HST.out.below HB4.out⟩
         | true =>
         cases ub with
         | false =>
           have HE := Lib.hid (HX4.out.trans (if_neg (by rw [← HUa.out, ← HUb.out]; simp)))
           refine wp_region_free_tail (fun W => Below w1.heap.size w1 W) 20 (by kernel_rfl) (by kernel_rfl) HB3.out.drew ?_
           simp only [List.take_succ_cons, List.take_zero, List.drop_succ_cons, List.drop_zero]
           repeat (first | ((first | apply wpFree_still (hg := rfl) | apply wpFree_stillG rfl); (intro w hw; obtain ⟨k0, k1, k2, k3⟩ := HK.out _ hw; obtain ⟨f0, f1, f2⟩ := HFF.out _ hw; clear hw; go_simp; (try go_ints); (first | with_reducible rfl | (go_simp; with_reducible rfl))); (intro K hK; go_simp; (try go_ints); refine hK _ ?_; clear hK K)) | (apply wpFree_skip rfl; (intro K hK; go_simp; (try go_ints); refine hK _ ?_; clear hK K)))
           apply wpFree_call
           · intro w hw; go_simp; first | with_reducible rfl | with_reducible exact ⟨rfl, rfl⟩
           · with_reducible rfl
           · intro w hw; exact HHa.out w hw
           intro K hK; go_simp; (try go_ints); refine hK _ ?_; clear hK K
           repeat (first | ((first | apply wpFree_still (hg := rfl) | apply wpFree_stillG rfl); (intro w hw; obtain ⟨k0, k1, k2, k3⟩ := HK.out _ hw; obtain ⟨f0, f1, f2⟩ := HFF.out _ hw; clear hw; go_simp; (try go_ints); (first | with_reducible rfl | (go_simp; with_reducible rfl))); (intro K hK; go_simp; (try go_ints); refine hK _ ?_; clear hK K)) | (apply wpFree_skip rfl; (intro K hK; go_simp; (try go_ints); refine hK _ ?_; clear hK K)))
           apply wpFree_callG rfl
           · intro w hw; go_simp; first | with_reducible rfl | with_reducible exact ⟨rfl, rfl⟩
           · intro w hw; exact HHb.out w hw
           intro K hK; go_simp; (try go_ints); refine hK _ ?_; clear hK K
           repeat (first | ((first | apply wpFree_still (hg := rfl) | apply wpFree_stillG rfl); (intro w hw; clear hw; go_simp; (try go_ints); (first | with_reducible rfl | (go_simp; with_reducible rfl))); (intro K hK; go_simp; (try go_ints); refine hK _ ?_; clear hK K)) | (apply wpFree_skip rfl; (intro K hK; go_simp; (try go_ints); refine hK _ ?_; clear hK K)))
           with_reducible refine wpFree_nil ?_
           intro w4 hb4
           obtain ⟨f0, f1, f2⟩ := HFF.out w4 hb4
           have HB4 := Lib.hid hb4
           clear hb4
           go_wp2_with fail
           go_ret
           exact ⟨by rw [HE.out]; rfl, by rw [HE.out]; exact HST.out.below HB4.out⟩
         | true =>
         have HX5 := Lib.hid (HX4.out.trans (if_pos (by rw [← HUa.out, ← HUb.out]; rfl)))
         by_cases h1024 : LE = 1024
         · have HE := Lib.hid (HX5.out.trans (if_pos (by rw [← HLE.out]; exact h1024)))
           have e1 : ((LE : Int) == 1024) = true := by rw [h1024]; rfl
           have e2 : (LE : Int) = 1024 := by omega
           have HE2 := Lib.hid e2
           clear h1024 e2
           refine wp_region_free_tail (fun W => Below w1.heap.size w1 W) 20 (by kernel_rfl) (by kernel_rfl) HB3.out.drew ?_
           simp only [List.take_succ_cons, List.take_zero, List.drop_succ_cons, List.drop_zero]
           repeat (first | ((first | apply wpFree_still (hg := rfl) | apply wpFree_stillG rfl); (intro w hw; obtain ⟨k0, k1, k2, k3⟩ := HK.out _ hw; obtain ⟨f0, f1, f2⟩ := HFF.out _ hw; clear hw; go_simp; (try go_ints); (first | with_reducible rfl | (go_simp; with_reducible rfl))); (intro K hK; go_simp; (try go_ints); refine hK _ ?_; clear hK K)) | (apply wpFree_skip rfl; (intro K hK; go_simp; (try go_ints); refine hK _ ?_; clear hK K)))
           apply wpFree_call
           · intro w hw; go_simp; first | with_reducible rfl | with_reducible exact ⟨rfl, rfl⟩
           · with_reducible rfl
           · intro w hw; exact HHa.out w hw
           intro K hK; go_simp; (try go_ints); refine hK _ ?_; clear hK K
           repeat (first | ((first | apply wpFree_still (hg := rfl) | apply wpFree_stillG rfl); (intro w hw; obtain ⟨k0, k1, k2, k3⟩ := HK.out _ hw; obtain ⟨f0, f1, f2⟩ := HFF.out _ hw; clear hw; go_simp; (try go_ints); (first | with_reducible rfl | (go_simp; with_reducible rfl))); (intro K hK; go_simp; (try go_ints); refine hK _ ?_; clear hK K)) | (apply wpFree_skip rfl; (intro K hK; go_simp; (try go_ints); refine hK _ ?_; clear hK K)))
           apply wpFree_callG rfl
           · intro w hw; go_simp; first | with_reducible rfl | with_reducible exact ⟨rfl, rfl⟩
           · intro w hw; exact HHb.out w hw
           intro K hK; go_simp; (try go_ints); refine hK _ ?_; clear hK K
           repeat (first | ((first | apply wpFree_still (hg := rfl) | apply wpFree_stillG rfl); (intro w hw; clear hw; go_simp; (try go_ints); (first | with_reducible rfl | (go_simp; with_reducible rfl))); (intro K hK; go_simp; (try go_ints); refine hK _ ?_; clear hK K)) | (apply wpFree_skip rfl; (intro K hK; go_simp; (try go_ints); refine hK _ ?_; clear hK K)))
           with_reducible refine wpFree_nil ?_
           intro w4 hb4
           obtain ⟨f0, f1, f2⟩ := HFF.out w4 hb4
           have HB4 := Lib.hid hb4
           clear hb4
           go_wp2_with fail
           go_ret
           exact ⟨by rw [HE.out]; rfl, by rw [HE.out]; exact HST.out.below HB4.out⟩
         · have HE := Lib.hid (HX5.out.trans (if_neg (by rw [← HLE.out]; exact h1024)))
           have e1 : ((LE : Int) == 1024) = false := beq_false_of_ne (by omega)
           have e2 : ¬ (LE : Int) = 1024 := by omega
           have h1k : LE < 1024 := by omega
           clear h1024
           refine wp_region_free_tail (fun W => Below w1.heap.size w1 W) 20 (by kernel_rfl) (by kernel_rfl) HB3.out.drew ?_
           simp only [List.take_succ_cons, List.take_zero, List.drop_succ_cons, List.drop_zero]
           repeat (first | ((first | apply wpFree_still (hg := rfl) | apply wpFree_stillG rfl); (intro w hw; obtain ⟨k0, k1, k2, k3⟩ := HK.out _ hw; obtain ⟨f0, f1, f2⟩ := HFF.out _ hw; clear hw; go_simp; (try go_ints); (first | with_reducible rfl | (go_simp; with_reducible rfl))); (intro K hK; go_simp; (try go_ints); refine hK _ ?_; clear hK K)) | (apply wpFree_skip rfl; (intro K hK; go_simp; (try go_ints); refine hK _ ?_; clear hK K)))
           apply wpFree_call
           · intro w hw; go_simp; first | with_reducible rfl | with_reducible exact ⟨rfl, rfl⟩
           · with_reducible rfl
           · intro w hw; exact HHa.out w hw
           intro K hK; go_simp; (try go_ints); refine hK _ ?_; clear hK K
           repeat (first | ((first | apply wpFree_still (hg := rfl) | apply wpFree_stillG rfl); (intro w hw; obtain ⟨k0, k1, k2, k3⟩ := HK.out _ hw; obtain ⟨f0, f1, f2⟩ := HFF.out _ hw; clear hw; go_simp; (try go_ints); (first | with_reducible rfl | (go_simp; with_reducible rfl))); (intro K hK; go_simp; (try go_ints); refine hK _ ?_; clear hK K)) | (apply wpFree_skip rfl; (intro K hK; go_simp; (try go_ints); refine hK _ ?_; clear hK K)))
           apply wpFree_callG rfl
           · intro w hw; go_simp; first | with_reducible rfl | with_reducible exact ⟨rfl, rfl⟩
           · intro w hw; exact HHb.out w hw
           intro K hK; go_simp; (try go_ints); refine hK _ ?_; clear hK K
           repeat (first | ((first | apply wpFree_still (hg := rfl) | apply wpFree_stillG rfl); (intro w hw; clear hw; go_simp; (try go_ints); (first | with_reducible rfl | (go_simp; with_reducible rfl))); (intro K hK; go_simp; (try go_ints); refine hK _ ?_; clear hK K)) | (apply wpFree_skip rfl; (intro K hK; go_simp; (try go_ints); refine hK _ ?_; clear hK K)))
           with_reducible refine wpFree_nil ?_
           intro w4 hb4
           obtain ⟨f0, f1, f2⟩ := HFF.out w4 hb4
           have HB4 := Lib.hid hb4
           clear hb4
           go_wp2_with fail
           clear f0 f1 f2
           obtain ⟨cn, hcn⟩ : ∃ cn : Nat, c = (cn : Int) := ⟨c.toNat, by rw [labB_iff] at h3; omega⟩
           subst hcn
           have hb255 : cn ≤ 255 := by rw [labB_iff] at h3; omega
           rw [Int.toNat_natCast] at HE
           have HA := Lib.hid (H0.out.below HB4.out)
           have hdl2 : d < w4.heap.size := Nat.lt_of_lt_of_le hdl HB4.out.size
           have hgl2 : g < w4.heap.size := Nat.lt_of_lt_of_le hgl HB4.out.size
           have HQ := Lib.hid fun W (hW : Below w4.heap.size w4 W) => show W.cell? ⟨d, 1, none⟩ = some (.slice (some ⟨b0, off, none⟩) LE ce) ∧ W.cell? ⟨g, 0, none⟩ = some (.int .i64 a) ∧ W.cell? ⟨g, 1, none⟩ = some (.int .i64 b) ∧ W.cell? ⟨g, 2, none⟩ = some (.int .i64 (cn : Int)) ∧ W.cell? ⟨g, 3, none⟩ = some (.int .i64 t) from
             ⟨(HFF.out W (HB4.out.trans (hW.mono HB4.out.size))).2.1, HK.out W (HB4.out.trans (hW.mono HB4.out.size))⟩
           clear HFF HK
           refine wp_region_mix (fun W => W.cell? ⟨d, 1, none⟩ = some (.slice (some ⟨b0, off, none⟩) LE ce) ∧ W.cell? ⟨g, 0, none⟩ = some (.int .i64 a) ∧ W.cell? ⟨g, 1, none⟩ = some (.int .i64 b) ∧ W.cell? ⟨g, 2, none⟩ = some (.int .i64 (cn : Int)) ∧ W.cell? ⟨g, 3, none⟩ = some (.int .i64 t)) 23 [(0, true), (1, true), (2, true), (3, true), (4, true), (5, true), (6, true), (7, true), (8, true), (9, true), (10, true), (11, true), (12, true), (13, true), (14, true), (15, true), (16, true), (17, true), (18, true), (19, false), (20, false), (21, true), (22, true)] (by kernel_rfl) (by kernel_rfl) (HQ.out _ (Below.refl _ _).drew) ?_
           repeat (apply wpPlan_still rfl rfl; (intro w hw; obtain ⟨f0, k0, k1, k2, k3⟩ := hw; go_simp; (try go_ints); (first | with_reducible rfl | (go_simp; with_reducible rfl))); (intro K hK; go_simp; (try go_ints); refine hK _ _ ?_; clear hK K))
           apply wpPlan_act rfl rfl
           intro K hK
           unfold Oper.wp
           go_simp
           refine hK _ _ (HQ.out _ ((Below.refl _ w4).drew.alloc (Nat.le_refl _) _)) ?_
           clear hK K
           apply wpPlan_act rfl rfl
           intro K hK
           refine wp_appO elE 122 Tryz.underlying122 _ _ rfl (d + 1) (.slice (some ⟨b0, off, none⟩) LE ce) G.E rfl ?_ _ ((a, b), (cn, t)) _ rfl (row?_alloc_at _ _ _ _ rfl) (by rw [← HLE.out]; omega) (by simp; omega) ?_
           · exact (HA.out.E.below (Below.refl _ w4).drew (Nat.le_refl _)).alloc _
           intro v' w5 hO2 hb2 hg2 hbk2
           obtain ⟨q2, cap2, hv2⟩ := hO2.sl
           rw [show (G.E ++ [((a, b), (cn, t))]).length = LE + 1 from by rw [List.length_append, ← HLE.out]; rfl] at hv2
           subst hv2
           have HO2 := Lib.hid hO2
           have HBx := Lib.hid hb2
           have HV2 := Lib.hid (show OwnV (d + 1) w5 (.slice qv LV cv) G.V from ((HA.out.V.below (Below.refl _ w4).drew (Nat.le_refl _)).alloc _).same fun j hj => hg2.block j (by have := HA.out.V.lt j hj; simp; omega) (fun e => HA.out.ne j hj e.symm))
           have HN2 := Lib.hid (show ∀ j, (Value.slice qv LV cv).ownBlock = some j → (Value.slice q2 (LE + 1) cap2).ownBlock ≠ some j from fun j hj he => by
             rcases hbk2 with h | h
             · exact HA.out.ne j hj (h.symm.trans he)
             · have h3 := h.symm.trans he
               have h4 := HA.out.V.lt j hj
               simp at h3
               omega)
           have hd2 : row? w5 d = some (dRow (.slice qv LV cv) (.slice (some ⟨b0, off, none⟩) LE ce) S) := (row?_below hb2 (by omega)).trans ((row?_below (((Below.refl _ w4).drew.alloc (Nat.le_refl _) _)) hdl2).trans HA.out.row)
           have HD2 := Lib.hid hd2
           have hkk : ∀ i, w5.cell? ⟨g, i, none⟩ = w4.cell? ⟨g, i, none⟩ := fun i => by
             have e1 : w5.heap[g]? = (w4.drew.alloc (.cells #[.int .i64 a, .int .i64 b, .int .u8 (cn : Int), .int .i64 t] 125)).heap[g]? := hg2.block g (by simp; omega) (fun e => hge (by rw [HLE.out] at e; exact e.symm))
             exact (World.cell?_of_block e1).trans (((Below.refl _ w4).drew.alloc (Nat.le_refl _) _).cell (p := ⟨g, i, none⟩) hgl2)
           obtain ⟨f0, k0, k1, k2, k3⟩ := HQ.out w4 (Below.refl _ _)
           refine hK _ _ ⟨(cell?_row (i := 1) hd2).trans (dRow_1 _ _ _), (hkk 0).trans k0, (hkk 1).trans k1, (hkk 2).trans k2, (hkk 3).trans k3⟩ ?_
           clear hK K hO2 hb2 hg2 hbk2 hkk f0 k0 k1 k2 k3
           repeat (apply wpPlan_still rfl rfl; (intro w hw; clear hw; go_simp; (try go_ints); (first | with_reducible rfl | (go_simp; with_reducible rfl))); (intro K hK; go_simp; (try go_ints); refine hK _ _ ?_; clear hK K))
           refine wpPlan_nil ?_
           simp only [List.drop_succ_cons, List.drop_zero]
           have c0 : w5.cell? ⟨d, 1, none⟩ = some (.slice (some ⟨b0, off, none⟩) LE ce) := (cell?_row (i := 1) hd2).trans (dRow_1 _ _ _)
           have z0 : w5.frozen? ⟨d, 1, none⟩ = false := frozen?_row hd2
           go_wp2_with fail
           go_ret
           exact ⟨by rw [HE.out]; rfl, by
             rw [HE.out]
             refine ⟨⟨.slice qv LV cv, .slice q2 (LE + 1) cap2, S, ⟨dRow_second HD2.out _, ?_, ?_, HN2.out, H0.out.set, H0.out.bit, ?_⟩⟩, ?_⟩
             · exact HV2.out.same fun j hj => heap_setCell_other _ _ _ _ (by have := HV2.out.block j hj; show j ≠ d; omega)
             · exact HO2.out.same fun j hj => heap_setCell_other _ _ _ _ (by have := HO2.out.block j hj; show j ≠ d; omega)
             · have := eStep_ok H0.out.ok a b (cn : Int) t
               rw [← HX.out, HE.out] at this
               exact this
             · exact ((((HB4.out.mono (Nat.le_of_lt hdl)).trans ((Below.refl _ w4).drew.mono (Nat.le_of_lt hdl2))).alloc (by show d ≤ w4.heap.size; omega) _).trans (HBx.out.mono (by omega))).setCell (Nat.le_refl d) _⟩
end Go.Proofs.YtlmccbepllgbfaaGreatDoor
