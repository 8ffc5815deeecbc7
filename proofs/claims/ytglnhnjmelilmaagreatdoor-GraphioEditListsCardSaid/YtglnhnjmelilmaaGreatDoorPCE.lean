/- The walk of the statement GraphioEditLists. -/
import Derived.Test.YtglnhnjmelilmaaGreatDoorPCb
import Derived.Test.YtglnhnjmelilmaaGreatDoorPCC
import Derived.Test.YtglnhnjmelilmaaGreatDoorPCD
import Derived.Test.YtglnhnjmelilmaaGreatDoorPVd
import Derived.Test.YtglnhnjmelilmaaGreatDoorPYf
import Derived.Test.YtglnhnjmelilmaaGreatDoorPJm
set_option linter.all false
namespace Go.Pal
open Go
theorem linesP_edlen : ∀ (P : List (List UInt8)) (l : List Ed) (n : Nat), (linesP edLine l n P).1.length ≤ l.length + P.length
 | [], l, n => Nat.le_refl _
 | [p], l, n => by rw [linesP_last]; split <;> simp
 | p :: q :: P, l, n => by
   rw [linesP_cons edLine l n p (by simp)]
   split
   · have := linesP_edlen (q :: P) (edLine l p).1 (n + 1)
     simp [edLine] at this ⊢
     omega
   · simp [edLine]
end Go.Pal
namespace Go.Proofs.YtglnhnjmelilmaaGreatDoor
open Go Go.RowKit Go.Pal
attribute [local go_sem] Oper.semAt_some
set_option maxRecDepth 10000 in
set_option maxHeartbeats 4000000 in
theorem elLaw_any (es : List Ed) (hes : ∀ e ∈ es, e.Wf) (t : List UInt8) (vl : Value) (w : World) (hl : Rd edC 5 w.heap.size w vl es) (hc : ∃ a n c, vl = .slice a n c ∧ n ≤ c ∧ c ≤ 9223372036854775807) (hT : Tab3 w) (hE : Errs w) (hM : Mxl w) (hF : FormsOk w) :
   Calls Tryz.prog 6 #[vl, .string ⟨t.toArray⟩] w fun e w' => e = .returned (.bool true) ∧ Below w.heap.size w w' := by
 have HT := Lib.hid fun W (h : Below w.heap.size w W) => hT.on h
 have HL := Lib.hid fun W (h : Below w.heap.size w W) => (hl.below h (Nat.le_refl _)).mono h.size
 have HFs := Lib.hid fun (h40 : es.length ≤ 40) W (h : Below w.heap.size w W) => fedits_any es hes (by omega) vl W (HL.out W h) (hT.on h).2 (hF.on h)
 have HPs := Lib.hid fun (h : t.length ≤ 3000) W (hW : Below w.heap.size w W) => pedits_any t (by omega) W (hT.on hW).2 (hE.on hW) (hM.on hW) (hF.on hW)
 have HRs := Lib.hid fun (h : t.length ≤ 3000) W => rreadEds_any t (by omega) W
 have HWf := Lib.hid hes
 obtain ⟨al, nl, cl, hvl, -, -⟩ := hc
 have hnl : nl = es.length := by
   obtain ⟨a', c', hv⟩ := hl.sl
   rw [hvl] at hv
   simp only [Value.slice.injEq] at hv
   exact hv.2.1
 subst hvl
 obtain ⟨X, hX⟩ : ∃ X, X = edsA [] es := ⟨_, rfl⟩
 rw [← hX] at HFs
 have HX := Lib.hid hX
 obtain ⟨Y, hY⟩ : ∃ Y, Y = readEds t := ⟨_, rfl⟩
 rw [← hY] at HPs HRs
 have HYl := Lib.hid (show Y.1.length ≤ t.length + 1 from by rw [hY]; exact Nat.le_trans (linesP_edlen _ _ _) (by have := partsA_count 10 t []; simp; omega))
 have HGd := Lib.hid (show Y.2.2 = 0 → Y.2.1 = 0 from by rw [hY]; exact linesP_good edLine (partsA 10 [] t) [] 1)
 have HNL := Lib.hid hnl
 clear hl hes hT hE hM hF hX hY hnl
 go_enter Tryz.func6, Tryz.ntmps6
 go_wp2_with fail
 refine (known06_any w (HT.out w (Below.refl _ _))).mono ?_
 rintro r w1 ⟨rfl, hb1⟩
 have HB1 := Lib.hid hb1
 clear hb1
 by_cases h40 : 40 < nl
 · have d1 : decide ((40 : Int) < (nl : Int)) = true := decide_eq_true (by omega)
   go_wp2_with fail
   refine (known06_any _ (HT.out _ HB1.out)).mono ?_
   rintro r w4 ⟨rfl, hb4⟩
   have HB4 := Lib.hid (HB1.out.trans (hb4.mono HB1.out.size))
   clear hb4
   go_wp2_with fail
   go_ret
   exact ⟨rfl, HB4.out⟩
 have d1 : decide ((40 : Int) < (nl : Int)) = false := decide_eq_false (by omega)
 have h40' : nl ≤ 40 := by omega
 clear h40
 by_cases hlen : 3000 < t.length
 · have d2 : decide ((3000 : Int) < (t.length : Int)) = true := decide_eq_true (by omega)
   go_wp2_with fail
   refine (known06_any _ (HT.out _ HB1.out)).mono ?_
   rintro r w4 ⟨rfl, hb4⟩
   have HB4 := Lib.hid (HB1.out.trans (hb4.mono HB1.out.size))
   clear hb4
   go_wp2_with fail
   go_ret
   exact ⟨rfl, HB4.out⟩
 have d2 : decide ((3000 : Int) < (t.length : Int)) = false := decide_eq_false (by omega)
 have d3 : t.length ≤ 3000 := by omega
 clear hlen
 go_wp2_with fail
 refine (HFs.out (by rw [← HNL.out]; exact h40') w1 HB1.out).mono ?_
 rintro r w2 ⟨rfl, hb2⟩
 have HB2 := Lib.hid (HB1.out.trans (hb2.mono HB1.out.size))
 obtain ⟨T, c0⟩ := X
 simp only
 clear hb2 HFs
 go_wp2_with fail
 go_loopw [7, 8, 9] (fun wv nv i wr => ∃ (k : Nat) (acc : List UInt8) (n : Nat), i = .int .i64 (k : Int) ∧ k ≤ nl ∧ wv = .string ⟨acc.toArray⟩ ∧ nv = .int .i64 (n : Int) ∧ acc.length ≤ 99 * k ∧ (n = 0 → (T, c0) = edsA acc (es.drop k)) ∧ (n ≠ 0 → (T, c0) = ([], n)) ∧ Below w2.heap.size w2 wr) (fun _ _ i _ => nl - (intOf i).toNat)
 case atStart => exact ⟨0, [], 0, rfl, by omega, rfl, rfl, by simp, fun _ => HX.out, fun h => absurd rfl h, Below.refl _ _⟩
 case round =>
   obtain ⟨k, acc, n, rfl, hk, rfl, rfl, hal, hx0, hx1, hb⟩ := hrel
   have HB := Lib.hid (HB2.out.trans (hb.mono HB2.out.size))
   have HBr := Lib.hid hb
   rename World => W3
   clear hb
   by_cases hn : n = 0
   · subst hn
     have HXk := Lib.hid (hx0 rfl)
     clear hx0 hx1
     by_cases hlt : k < nl
     · obtain ⟨b, off, c', y, h1, hbb, hy, hcc⟩ := (HL.out W3 HB.out).at (i := k) (by rw [← HNL.out]; exact hlt)
       simp only [Value.slice.injEq] at h1
       obtain ⟨rfl, -, rfl⟩ := h1
       have hwf := HWf.out y (List.mem_of_getElem? hy)
       have HD := Lib.hid (show (T, c0) = if y.text.2 = 0 then edsA (acc ++ (y.text.1 ++ [10])) (es.drop (k + 1)) else ([], y.text.2) from by
         obtain ⟨h1, h2⟩ := List.getElem?_eq_some_iff.1 hy
         rw [HXk.out, List.drop_eq_getElem_cons h1, h2]
         rfl)
       have htl := Ed.text_len y
       have HRe := Lib.hid fun W => redit_any y hwf W
       have HDe := Lib.hid fun W => d06_any y W
       obtain ⟨U, hU⟩ : ∃ U, U = y.text := ⟨_, rfl⟩
       have hU0 : U.2 ≠ 0 → U.1 = [] := by
         intro h
         rw [hU] at h ⊢
         unfold Ed.text at h ⊢
         split
         · rename_i h2; rw [if_pos h2] at h; exact absurd rfl h
         · rfl
       rw [← hU] at HD HRe htl
       obtain ⟨u, f⟩ := U
       obtain ⟨op, uu, vv, lab, wt⟩ := y
       have jl : rowLoad Tryz.prog 23 ⟨b, off + k * 5, none⟩ W3 = .ok (.agg #[.int .i64 op, .int .i64 uu, .int .i64 vv, .int .u8 (lab : Int), .int .i64 wt]) W3 := load_cells Tryz.isAgg23 Tryz.sizeOf23 W3 b _ _ rfl fun j z hz => hcc W3 (Below.refl _ _) j z hz
       rw [show edC ⟨op, uu, vv, lab, wt⟩ = #[.int .i64 op, .int .i64 uu, .int .i64 vv, .int .u8 (lab : Int), .int .i64 wt] from rfl] at HRe HDe
       simp only at HD HRe htl hU0
       have hki : (k : Int) < (nl : Int) := by omega
       have hU00 := Lib.hid hU0
       clear hbb hy hcc hwf hU hU0
       go_wp2_with fail
       refine (HDe.out _).mono ?_
       rintro r w5 ⟨rfl, hb5⟩
       have HB5 := Lib.hid (HBr.out.trans (hb5.mono HBr.out.size))
       clear hb5 HDe jl
       go_wp2_with fail
       refine (HRe.out _).mono ?_
       rintro r w6 ⟨rfl, hb6⟩
       have HB6 := Lib.hid (HB5.out.trans (hb6.mono HB5.out.size))
       clear hb6 HRe
       have n1 : ¬ 9223372036854775807 < acc.length + u.length := by omega
       have n2 : ¬ 9223372036854775807 < acc.length + u.length + 1 := by omega
       go_wp2_with fail
       go_roundw
       case rel =>
         refine ⟨k + 1, acc ++ u ++ [10], f, by go_num, by omega, ?_, rfl, by simp; omega, fun h => ?_, fun h => ?_, HB6.out⟩
         · first
             | rfl
             | (show Value.string ((⟨acc.toArray⟩ ++ ⟨u.toArray⟩) ++ (⟨([10] : List UInt8).toArray⟩ : ByteArray)) = _; rw [str_app, str_app])
         · rw [HD.out, if_pos h, List.append_assoc]
         · rw [HD.out, if_neg h]
       case measure => simp [intOf]; omega
     · have hkn : nl = k := by omega
       have HE := Lib.hid (show (T, c0) = (acc, 0) from by rw [HXk.out, List.drop_eq_nil_of_le (by rw [← HNL.out]; omega)]; rfl)
       obtain ⟨rfl, rfl⟩ : T = acc ∧ c0 = 0 := by have := HE.out; simp only [Prod.mk.injEq] at this; exact this
       subst hkn
       go_wp2_with fail
       refine (HPs.out d3 W3 HB.out).mono ?_
       rintro r w7 ⟨h7, hb7⟩
       have HB7 := Lib.hid (HB.out.trans (hb7.mono HB.out.size))
       clear hb7 HPs
       obtain ⟨L, ln, ec⟩ := Y
       rcases h7 with ⟨h0, v7, rfl, hO7⟩ | ⟨h0, rfl⟩
       · have h0' : ec = 0 := h0
         have hln : ln = 0 := HGd.out h0
         subst h0'
         subst hln
         obtain ⟨qo, co, hsl⟩ := hO7.sl
         subst hsl
         simp only at hO7
         obtain ⟨NL, hNL⟩ : ∃ n, n = L.length := ⟨_, rfl⟩
         have HNL2 := Lib.hid hNL
         have hNLb : NL ≤ 3001 := by have h9 := HYl.out; simp only at h9; omega
         have HO7 := Lib.hid (hO7.rd elED)
         rw [← hNL] at HO7
         simp only [← hNL]
         clear h0 hO7 hNL
         go_wp2_with fail
         refine (HRs.out d3 w7).mono ?_
         rintro r w8 ⟨⟨v8, rfl, hR8⟩, hb8⟩
         simp only [if_true] at hR8 ⊢
         obtain ⟨q8, c8, hsl8⟩ := hR8.sl
         subst hsl8
         have HR8 := Lib.hid hR8
         rw [← HNL2.out] at HR8 ⊢
         have HR78 := Lib.hid fun W (hW : Below w8.heap.size w8 W) => show (Rd edC 5 W.heap.size W (.slice qo NL co) L) ∧ Rd edC 5 W.heap.size W (.slice q8 NL c8) L from
           ⟨((HO7.out.below (hb8.trans (hW.mono hb8.size)) (Nat.le_refl _)).mono (Nat.le_trans hb8.size hW.size)), (HR8.out.below hW (Nat.le_refl _)).mono hW.size⟩
         have HB8 := Lib.hid (HB7.out.trans (hb8.mono HB7.out.size))
         clear hR8 hb8 HRs HO7 HR8
         go_wp2_with fail
         (try simp only [Int.cast_ofNat_Int])
         go_loopw [18] (fun i wr => ∃ k : Nat, k ≤ NL ∧ i = .int .i64 (k : Int) ∧ Below w8.heap.size w8 wr) (fun i _ => NL - (intOf i).toNat)
         case atStart => exact ⟨0, by omega, rfl, Below.refl _ _⟩
         case round =>
           obtain ⟨k, hk, rfl, hb⟩ := hrel
           have HBk := Lib.hid hb
           have HBkw := Lib.hid (HB8.out.trans (hb.mono HB8.out.size))
           obtain ⟨hra, hrb⟩ := HR78.out wr hb
           clear hb
           by_cases hlt : k < NL
           · obtain ⟨b, off, c', y, h1, hbb, hy, hcc⟩ := hra.at (i := k) (by rw [← HNL2.out]; exact hlt)
             simp only [Value.slice.injEq] at h1
             obtain ⟨rfl, -, rfl⟩ := h1
             obtain ⟨b2, off2, c2', y2, h2, hbb2, hy2, hcc2⟩ := hrb.at (i := k) (by rw [← HNL2.out]; exact hlt)
             simp only [Value.slice.injEq] at h2
             obtain ⟨rfl, -, rfl⟩ := h2
             rw [hy] at hy2
             cases hy2
             have HDy := Lib.hid fun W => d06_any y W
             obtain ⟨yo, yu, yv, yl, yt⟩ := y
             rw [show edC ⟨yo, yu, yv, yl, yt⟩ = #[.int .i64 yo, .int .i64 yu, .int .i64 yv, .int .u8 (yl : Int), .int .i64 yt] from rfl] at HDy
             have HLd := Lib.hid fun W (hW : Below wr.heap.size wr W) => show rowLoad Tryz.prog 23 ⟨b, off + k * 5, none⟩ W = .ok (.agg #[.int .i64 yo, .int .i64 yu, .int .i64 yv, .int .u8 (yl : Int), .int .i64 yt]) W ∧ rowLoad Tryz.prog 30 ⟨b2, off2 + k * 5, none⟩ W = .ok (.agg #[.int .i64 yo, .int .i64 yu, .int .i64 yv, .int .u8 (yl : Int), .int .i64 yt]) W from
               ⟨load_cells Tryz.isAgg23 Tryz.sizeOf23 W b _ _ rfl fun j z hz => hcc W hW j z hz, load_cells Tryz.isAgg30 Tryz.sizeOf30 W b2 _ _ rfl fun j z hz => hcc2 W hW j z hz⟩
             have hgR := guardRD
             have heR := eqRD
             have hki : (k : Int) < (NL : Int) := by omega
             clear hra hrb hbb hbb2 hy hcc hcc2
             go_wp2_with fail
             refine wp_region_mix (fun W => Below wr.heap.size wr W) 9 [(0, true), (1, true), (2, true), (3, true), (5, true), (6, true), (7, true), (8, true), (4, false)] (by kernel_rfl) (by kernel_rfl) (Below.refl _ _).drew ?_
             repeat (apply wpPlan_still rfl rfl; (intro w hw; obtain ⟨k1, k2⟩ := HLd.out _ hw; clear hw; go_simp; (try go_ints); (first | with_reducible rfl | (go_simp; with_reducible rfl))); (intro K hK; go_simp; (try go_ints); refine hK _ _ ?_; clear hK K))
             apply wpPlan_act rfl rfl
             intro K hK
             unfold Oper.wp
             go_simp
             refine (HDy.out _).mono ?_
             rintro r wb ⟨rfl, hbb⟩
             have hbb' : Below wr.heap.size wr wb := (Below.refl _ wr).drew.trans hbb
             have HBb := Lib.hid (HBk.out.trans (hbb'.mono HBk.out.size))
             refine hK _ _ hbb' ?_
             clear hK K hbb hbb' HDy HLd
             refine wpPlan_nil ?_
             simp only [List.drop_succ_cons, List.drop_zero]
             go_wp2_with fail
             go_roundw
             case rel => exact ⟨k + 1, by omega, by go_num, HBb.out⟩
             case measure => simp [intOf]; omega
           · have hki : ¬ (k : Int) < (NL : Int) := by omega
             clear hra hrb
             go_wp2_with fail
             go_ret
             exact ⟨rfl, HBkw.out⟩
       · have h0' : ¬ ec = 0 := h0
         have g1 : ((ec : Int) != 0) = true := by rw [bne_iff_ne]; omega
         clear h0
         go_wp2_with fail
         refine (HRs.out d3 w7).mono ?_
         rintro r w8 ⟨⟨v8, rfl, hR8⟩, hb8⟩
         simp only at hR8 ⊢
         rw [if_neg h0'] at hR8
         obtain ⟨q8, c8, hsl8⟩ := hR8.sl
         subst hsl8
         have HB8 := Lib.hid (HB7.out.trans (hb8.mono HB7.out.size))
         simp only [List.length_nil]
         clear hR8 hb8 HRs g1 h0'
         go_wp2_with fail
         go_loopw [18] (fun i wr => i = .int .i64 0 ∧ wr = w8) (fun i _ => 0)
         case atStart => exact ⟨rfl, rfl⟩
         case round =>
           obtain ⟨rfl, rfl⟩ := hrel
           go_wp2_with fail
           go_ret
           exact ⟨rfl, HB8.out⟩
   · have HE := Lib.hid (hx1 hn)
     obtain ⟨rfl, rfl⟩ : T = [] ∧ c0 = n := by have := HE.out; simp only [Prod.mk.injEq] at this; exact this
     have e1 : ((c0 : Int) == 0) = false := beq_false_of_ne (by omega)
     have e2 : ((c0 : Int) != 0) = true := by rw [bne_iff_ne]; omega
     have e3 : ¬ (c0 : Int) = 0 := by omega
     have HN := Lib.hid hn
     clear hx0 hx1 hn
     by_cases hlt : k < nl
     · have hki : decide ((k : Int) < (nl : Int)) = true := decide_eq_true (by omega)
       have hki2 : (k : Int) < (nl : Int) := by omega
       go_wp2_with fail
       refine (HPs.out d3 W3 HB.out).mono ?_
       rintro r w7 ⟨h7, hb7⟩
       have HB7 := Lib.hid (HB.out.trans (hb7.mono HB.out.size))
       clear hb7 HPs
       obtain ⟨L, ln, ec⟩ := Y
       rcases h7 with ⟨h0, v7, rfl, hO7⟩ | ⟨h0, rfl⟩
       · have h0' : ec = 0 := h0
         have hln : ln = 0 := HGd.out h0
         subst h0'
         subst hln
         obtain ⟨qo, co, hsl⟩ := hO7.sl
         subst hsl
         simp only at hO7
         obtain ⟨NL, hNL⟩ : ∃ n, n = L.length := ⟨_, rfl⟩
         have HNL2 := Lib.hid hNL
         have hNLb : NL ≤ 3001 := by have h9 := HYl.out; simp only at h9; omega
         have HO7 := Lib.hid (hO7.rd elED)
         rw [← hNL] at HO7
         simp only [← hNL]
         clear h0 hO7 hNL
         go_wp2_with fail
         refine (HRs.out d3 w7).mono ?_
         rintro r w8 ⟨⟨v8, rfl, hR8⟩, hb8⟩
         simp only [if_true] at hR8 ⊢
         obtain ⟨q8, c8, hsl8⟩ := hR8.sl
         subst hsl8
         have HR8 := Lib.hid hR8
         rw [← HNL2.out] at HR8 ⊢
         have HR78 := Lib.hid fun W (hW : Below w8.heap.size w8 W) => show (Rd edC 5 W.heap.size W (.slice qo NL co) L) ∧ Rd edC 5 W.heap.size W (.slice q8 NL c8) L from
           ⟨((HO7.out.below (hb8.trans (hW.mono hb8.size)) (Nat.le_refl _)).mono (Nat.le_trans hb8.size hW.size)), (HR8.out.below hW (Nat.le_refl _)).mono hW.size⟩
         have HB8 := Lib.hid (HB7.out.trans (hb8.mono HB7.out.size))
         clear hR8 hb8 HRs HO7 HR8
         go_wp2_with fail
         (try simp only [Int.cast_ofNat_Int])
         go_loopw [18] (fun i wr => ∃ k : Nat, k ≤ NL ∧ i = .int .i64 (k : Int) ∧ Below w8.heap.size w8 wr) (fun i _ => NL - (intOf i).toNat)
         case atStart => exact ⟨0, by omega, rfl, Below.refl _ _⟩
         case round =>
           obtain ⟨k, hk, rfl, hb⟩ := hrel
           have HBk := Lib.hid hb
           have HBkw := Lib.hid (HB8.out.trans (hb.mono HB8.out.size))
           obtain ⟨hra, hrb⟩ := HR78.out wr hb
           clear hb
           by_cases hlt : k < NL
           · obtain ⟨b, off, c', y, h1, hbb, hy, hcc⟩ := hra.at (i := k) (by rw [← HNL2.out]; exact hlt)
             simp only [Value.slice.injEq] at h1
             obtain ⟨rfl, -, rfl⟩ := h1
             obtain ⟨b2, off2, c2', y2, h2, hbb2, hy2, hcc2⟩ := hrb.at (i := k) (by rw [← HNL2.out]; exact hlt)
             simp only [Value.slice.injEq] at h2
             obtain ⟨rfl, -, rfl⟩ := h2
             rw [hy] at hy2
             cases hy2
             have HDy := Lib.hid fun W => d06_any y W
             obtain ⟨yo, yu, yv, yl, yt⟩ := y
             rw [show edC ⟨yo, yu, yv, yl, yt⟩ = #[.int .i64 yo, .int .i64 yu, .int .i64 yv, .int .u8 (yl : Int), .int .i64 yt] from rfl] at HDy
             have HLd := Lib.hid fun W (hW : Below wr.heap.size wr W) => show rowLoad Tryz.prog 23 ⟨b, off + k * 5, none⟩ W = .ok (.agg #[.int .i64 yo, .int .i64 yu, .int .i64 yv, .int .u8 (yl : Int), .int .i64 yt]) W ∧ rowLoad Tryz.prog 30 ⟨b2, off2 + k * 5, none⟩ W = .ok (.agg #[.int .i64 yo, .int .i64 yu, .int .i64 yv, .int .u8 (yl : Int), .int .i64 yt]) W from
               ⟨load_cells Tryz.isAgg23 Tryz.sizeOf23 W b _ _ rfl fun j z hz => hcc W hW j z hz, load_cells Tryz.isAgg30 Tryz.sizeOf30 W b2 _ _ rfl fun j z hz => hcc2 W hW j z hz⟩
             have hgR := guardRD
             have heR := eqRD
             have hki : (k : Int) < (NL : Int) := by omega
             clear hra hrb hbb hbb2 hy hcc hcc2
             go_wp2_with fail
             refine wp_region_mix (fun W => Below wr.heap.size wr W) 9 [(0, true), (1, true), (2, true), (3, true), (5, true), (6, true), (7, true), (8, true), (4, false)] (by kernel_rfl) (by kernel_rfl) (Below.refl _ _).drew ?_
             repeat (apply wpPlan_still rfl rfl; (intro w hw; obtain ⟨k1, k2⟩ := HLd.out _ hw; clear hw; go_simp; (try go_ints); (first | with_reducible rfl | (go_simp; with_reducible rfl))); (intro K hK; go_simp; (try go_ints); refine hK _ _ ?_; clear hK K))
             apply wpPlan_act rfl rfl
             intro K hK
             unfold Oper.wp
             go_simp
             refine (HDy.out _).mono ?_
             rintro r wb ⟨rfl, hbb⟩
             have hbb' : Below wr.heap.size wr wb := (Below.refl _ wr).drew.trans hbb
             have HBb := Lib.hid (HBk.out.trans (hbb'.mono HBk.out.size))
             refine hK _ _ hbb' ?_
             clear hK K hbb hbb' HDy HLd
             refine wpPlan_nil ?_
             simp only [List.drop_succ_cons, List.drop_zero]
             go_wp2_with fail
             go_roundw
             case rel => exact ⟨k + 1, by omega, by go_num, HBb.out⟩
             case measure => simp [intOf]; omega
           · have hki : ¬ (k : Int) < (NL : Int) := by omega
             clear hra hrb
             go_wp2_with fail
             go_ret
             exact ⟨rfl, HBkw.out⟩
       · have h0' : ¬ ec = 0 := h0
         have g1 : ((ec : Int) != 0) = true := by rw [bne_iff_ne]; omega
         clear h0
         go_wp2_with fail
         refine (HRs.out d3 w7).mono ?_
         rintro r w8 ⟨⟨v8, rfl, hR8⟩, hb8⟩
         simp only at hR8 ⊢
         rw [if_neg h0'] at hR8
         obtain ⟨q8, c8, hsl8⟩ := hR8.sl
         subst hsl8
         have HB8 := Lib.hid (HB7.out.trans (hb8.mono HB7.out.size))
         simp only [List.length_nil]
         clear hR8 hb8 HRs g1 h0'
         go_wp2_with fail
         go_loopw [18] (fun i wr => i = .int .i64 0 ∧ wr = w8) (fun i _ => 0)
         case atStart => exact ⟨rfl, rfl⟩
         case round =>
           obtain ⟨rfl, rfl⟩ := hrel
           go_wp2_with fail
           go_ret
           exact ⟨rfl, HB8.out⟩
     · have hki : decide ((k : Int) < (nl : Int)) = false := decide_eq_false (by omega)
       have hki2 : ¬ (k : Int) < (nl : Int) := by omega
       go_wp2_with fail
       refine (HPs.out d3 W3 HB.out).mono ?_
       rintro r w7 ⟨h7, hb7⟩
       have HB7 := Lib.hid (HB.out.trans (hb7.mono HB.out.size))
       clear hb7 HPs
       obtain ⟨L, ln, ec⟩ := Y
       rcases h7 with ⟨h0, v7, rfl, hO7⟩ | ⟨h0, rfl⟩
       · have h0' : ec = 0 := h0
         have hln : ln = 0 := HGd.out h0
         subst h0'
         subst hln
         obtain ⟨qo, co, hsl⟩ := hO7.sl
         subst hsl
         simp only at hO7
         obtain ⟨NL, hNL⟩ : ∃ n, n = L.length := ⟨_, rfl⟩
         have HNL2 := Lib.hid hNL
         have hNLb : NL ≤ 3001 := by have h9 := HYl.out; simp only at h9; omega
         have HO7 := Lib.hid (hO7.rd elED)
         rw [← hNL] at HO7
         simp only [← hNL]
         clear h0 hO7 hNL
         go_wp2_with fail
         refine (HRs.out d3 w7).mono ?_
         rintro r w8 ⟨⟨v8, rfl, hR8⟩, hb8⟩
         simp only [if_true] at hR8 ⊢
         obtain ⟨q8, c8, hsl8⟩ := hR8.sl
         subst hsl8
         have HR8 := Lib.hid hR8
         rw [← HNL2.out] at HR8 ⊢
         have HR78 := Lib.hid fun W (hW : Below w8.heap.size w8 W) => show (Rd edC 5 W.heap.size W (.slice qo NL co) L) ∧ Rd edC 5 W.heap.size W (.slice q8 NL c8) L from
           ⟨((HO7.out.below (hb8.trans (hW.mono hb8.size)) (Nat.le_refl _)).mono (Nat.le_trans hb8.size hW.size)), (HR8.out.below hW (Nat.le_refl _)).mono hW.size⟩
         have HB8 := Lib.hid (HB7.out.trans (hb8.mono HB7.out.size))
         clear hR8 hb8 HRs HO7 HR8
         go_wp2_with fail
         (try simp only [Int.cast_ofNat_Int])
         go_loopw [18] (fun i wr => ∃ k : Nat, k ≤ NL ∧ i = .int .i64 (k : Int) ∧ Below w8.heap.size w8 wr) (fun i _ => NL - (intOf i).toNat)
         case atStart => exact ⟨0, by omega, rfl, Below.refl _ _⟩
         case round =>
           obtain ⟨k, hk, rfl, hb⟩ := hrel
           have HBk := Lib.hid hb
           have HBkw := Lib.hid (HB8.out.trans (hb.mono HB8.out.size))
           obtain ⟨hra, hrb⟩ := HR78.out wr hb
           clear hb
           by_cases hlt : k < NL
           · obtain ⟨b, off, c', y, h1, hbb, hy, hcc⟩ := hra.at (i := k) (by rw [← HNL2.out]; exact hlt)
             simp only [Value.slice.injEq] at h1
             obtain ⟨rfl, -, rfl⟩ := h1
             obtain ⟨b2, off2, c2', y2, h2, hbb2, hy2, hcc2⟩ := hrb.at (i := k) (by rw [← HNL2.out]; exact hlt)
             simp only [Value.slice.injEq] at h2
             obtain ⟨rfl, -, rfl⟩ := h2
             rw [hy] at hy2
             cases hy2
             have HDy := Lib.hid fun W => d06_any y W
             obtain ⟨yo, yu, yv, yl, yt⟩ := y
             rw [show edC ⟨yo, yu, yv, yl, yt⟩ = #[.int .i64 yo, .int .i64 yu, .int .i64 yv, .int .u8 (yl : Int), .int .i64 yt] from rfl] at HDy
             have HLd := Lib.hid fun W (hW : Below wr.heap.size wr W) => show rowLoad Tryz.prog 23 ⟨b, off + k * 5, none⟩ W = .ok (.agg #[.int .i64 yo, .int .i64 yu, .int .i64 yv, .int .u8 (yl : Int), .int .i64 yt]) W ∧ rowLoad Tryz.prog 30 ⟨b2, off2 + k * 5, none⟩ W = .ok (.agg #[.int .i64 yo, .int .i64 yu, .int .i64 yv, .int .u8 (yl : Int), .int .i64 yt]) W from
               ⟨load_cells Tryz.isAgg23 Tryz.sizeOf23 W b _ _ rfl fun j z hz => hcc W hW j z hz, load_cells Tryz.isAgg30 Tryz.sizeOf30 W b2 _ _ rfl fun j z hz => hcc2 W hW j z hz⟩
             have hgR := guardRD
             have heR := eqRD
             have hki : (k : Int) < (NL : Int) := by omega
             clear hra hrb hbb hbb2 hy hcc hcc2
             go_wp2_with fail
             refine wp_region_mix (fun W => Below wr.heap.size wr W) 9 [(0, true), (1, true), (2, true), (3, true), (5, true), (6, true), (7, true), (8, true), (4, false)] (by kernel_rfl) (by kernel_rfl) (Below.refl _ _).drew ?_
             repeat (apply wpPlan_still rfl rfl; (intro w hw; obtain ⟨k1, k2⟩ := HLd.out _ hw; clear hw; go_simp; (try go_ints); (first | with_reducible rfl | (go_simp; with_reducible rfl))); (intro K hK; go_simp; (try go_ints); refine hK _ _ ?_; clear hK K))
             apply wpPlan_act rfl rfl
             intro K hK
             unfold Oper.wp
             go_simp
             refine (HDy.out _).mono ?_
             rintro r wb ⟨rfl, hbb⟩
             have hbb' : Below wr.heap.size wr wb := (Below.refl _ wr).drew.trans hbb
             have HBb := Lib.hid (HBk.out.trans (hbb'.mono HBk.out.size))
             refine hK _ _ hbb' ?_
             clear hK K hbb hbb' HDy HLd
             refine wpPlan_nil ?_
             simp only [List.drop_succ_cons, List.drop_zero]
             go_wp2_with fail
             go_roundw
             case rel => exact ⟨k + 1, by omega, by go_num, HBb.out⟩
             case measure => simp [intOf]; omega
           · have hki : ¬ (k : Int) < (NL : Int) := by omega
             clear hra hrb
             go_wp2_with fail
             go_ret
             exact ⟨rfl, HBkw.out⟩
       · have h0' : ¬ ec = 0 := h0
         have g1 : ((ec : Int) != 0) = true := by rw [bne_iff_ne]; omega
         clear h0
         go_wp2_with fail
         refine (HRs.out d3 w7).mono ?_
         rintro r w8 ⟨⟨v8, rfl, hR8⟩, hb8⟩
         simp only at hR8 ⊢
         rw [if_neg h0'] at hR8
         obtain ⟨q8, c8, hsl8⟩ := hR8.sl
         subst hsl8
         have HB8 := Lib.hid (HB7.out.trans (hb8.mono HB7.out.size))
         simp only [List.length_nil]
         clear hR8 hb8 HRs g1 h0'
         go_wp2_with fail
         go_loopw [18] (fun i wr => i = .int .i64 0 ∧ wr = w8) (fun i _ => 0)
         case atStart => exact ⟨rfl, rfl⟩
         case round =>
           obtain ⟨rfl, rfl⟩ := hrel
           go_wp2_with fail
           go_ret
           exact ⟨rfl, HB8.out⟩
end Go.Proofs.YtglnhnjmelilmaaGreatDoor
