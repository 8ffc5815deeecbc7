/- Walks: a row of sets compared with an equal one: the library's way (CompareSlices), the .. -/
import Derived.Test.YtglnhnjmelilmaaGreatDoorSBI
import Derived.Test.YtglnhnjmelilmaaGreatDoorSJm
import Derived.Test.YtglnhnjmelilmaaGreatDoorSGrG
set_option maxHeartbeats 1000000
set_option maxRecDepth 10000
set_option linter.all false
namespace Go.Proofs.YtglnhnjmelilmaaGreatDoor
open Go Go.RowKit Go.Pal Go.Shelf
attribute [local go_sem] Oper.semAt_some
theorem isnanu_any (n : Int) (w : World) : Calls Tryz.prog 183 #[.int .u64 n] w fun e w' => e = .returned (.bool false) ∧ w' = w := by
 go_enter Tryz.func183, Tryz.ntmps183
 go_wp2_with fail
 go_ret
 exact ⟨rfl, rfl⟩
theorem cmpu_same (x : Int) (w : World) : Calls Tryz.prog 129 #[.int .u64 x, .int .u64 x] w fun e w' => e = .returned (.int .i64 0) ∧ w' = w := by
 have H := Lib.hid fun n W => isnanu_any n W
 have h1 : ¬ x < x := by omega
 go_enter Tryz.func129, Tryz.ntmps129
 go_wp2_with fail
 refine (H.out _ _).mono ?_
 rintro e w1 ⟨rfl, rfl⟩
 go_wp2_with fail
 refine (H.out _ _).mono ?_
 rintro e w1 ⟨rfl, rfl⟩
 go_wp2_with fail
 go_ret
 exact ⟨rfl, rfl⟩
theorem bcompare_same (S : Nat) (w : World) : Calls Tryz.prog 77 #[.agg (words S), .agg (words S)] w fun e w' => e = .returned (.int .i64 0) ∧ Below w.heap.size w w' := by
 have H := Lib.hid fun n W => cmpu_same n W
 go_enter Tryz.func77, Tryz.ntmps77
 go_wp2
 go_loopw [5] (fun i wr => ∃ k : Nat, k ≤ 16 ∧ i = .int .i64 ((k : Int) - 1) ∧ row? wr w.heap.size = some (words S) ∧ row? wr (w.heap.size + 1) = some (words S) ∧ Below w.heap.size w wr) (fun i _ => (intOf i + 1).toNat)
 case atStart => exact ⟨16, by omega, rfl, by simp [go_sem], by simp [go_sem], by go_grown⟩
 case round =>
   obtain ⟨k, hk, rfl, hr1, hr2, hb⟩ := hrel
   have HB := Lib.hid hb
   have HR1 := Lib.hid hr1
   have HR2 := Lib.hid hr2
   clear hb
   by_cases hk0 : k = 0
   · subst hk0
     clear hr1 hr2
     go_wp2_with fail
     go_ret
     exact ⟨rfl, HB.out⟩
   · obtain ⟨m, rfl⟩ : ∃ m, k = m + 1 := ⟨k - 1, by omega⟩
     have hlt : m < 16 := by omega
     have hmi : (m : Int) < 16 := by omega
     have e1 : (((m + 1 : Nat) : Int) - 1) = (m : Int) := by omega
     rw [e1]
     have HC := Lib.hid fun W (hW : Below wr.heap.size wr W) => show W.cell? ⟨w.heap.size, m, none⟩ = some (.int .u64 (wd S m : Int)) ∧ W.cell? ⟨w.heap.size + 1, m, none⟩ = some (.int .u64 (wd S m : Int)) from
       ⟨(cell?_row (i := m) ((row?_below hW (row?_lt hr1)).trans hr1)).trans (words_get S hlt), (cell?_row (i := m) ((row?_below hW (row?_lt hr2)).trans hr2)).trans (words_get S hlt)⟩
     clear hr1 hr2 hk0 e1
     go_wp2_with fail
     refine wp_region_mix (fun W => Below wr.heap.size wr W) 7 [(0, true), (1, true), (2, true), (3, true), (4, true), (5, true), (6, false)] (by kernel_rfl) (by kernel_rfl) (Below.refl _ _).drew ?_
     repeat ((first | apply wpPlan_still rfl rfl | apply wpPlan_stillG rfl rfl); (intro w hw; have r1 := (HC.out _ hw).1; have r2 := (HC.out _ hw).2; clear hw; go_simp; (try go_ints); (first | with_reducible rfl | (go_simp; with_reducible rfl))); (intro K hK; go_simp; (try go_ints); refine hK _ _ ?_; clear hK K))
     apply wpPlan_actG rfl rfl
     intro K hK
     unfold Oper.wp
     go_simp
     refine (H.out _ _).mono ?_
     rintro r w8 ⟨rfl, rfl⟩
     refine hK _ _ (Below.refl _ _).drew ?_
     clear hK K
     refine wpPlan_nil ?_
     simp only [List.drop_succ_cons, List.drop_zero]
     go_wp2_with fail
     go_roundw
     case rel => exact ⟨m, by omega, by go_num, by simp [go_sem, HR1.out], by simp [go_sem, HR2.out], HB.out.drew⟩
     case measure => simp [intOf]
theorem comparef_same (L : List Nat) (hlen : L.length ≤ 100000) (v v2 : Value) (w : World) (hv : Rd words 16 w.heap.size w v L) (hv2 : Rd words 16 w.heap.size w v2 L) :
   Calls Tryz.prog 76 #[v, v2, .func (.func 77) #[] #[]] w fun e w' => e = .returned (.int .i64 0) ∧ Below w.heap.size w w' := by
 have H := Lib.hid fun S W => bcompare_same S W
 have HV := Lib.hid hv
 have HV2 := Lib.hid hv2
 obtain ⟨a, c, rfl⟩ := hv.sl
 obtain ⟨a2, c2, rfl⟩ := hv2.sl
 obtain ⟨N, hN⟩ : ∃ N, N = L.length := ⟨_, rfl⟩
 have HN := Lib.hid hN
 rw [← hN] at HV HV2 hlen ⊢
 clear hv hv2 hN
 go_enter Tryz.func76, Tryz.ntmps76
 go_wp2_with fail
 go_loopw [13] (fun i wr => ∃ k : Nat, k ≤ N ∧ i = .int .i64 (k : Int) ∧ Below w.heap.size w wr) (fun i _ => N - (intOf i).toNat)
 case atStart => exact ⟨0, by omega, rfl, Below.refl _ _⟩
 case round =>
   obtain ⟨k, hk, rfl, hb⟩ := hrel
   have HB := Lib.hid hb
   have hs := hb.size
   clear hb
   by_cases hlt : k < N
   · obtain ⟨b, off, c', S, h1, hbb, hy, hc⟩ := HV.out.at (i := k) (by rw [← HN.out]; exact hlt)
     simp only [Value.slice.injEq] at h1
     obtain ⟨rfl, -, rfl⟩ := h1
     obtain ⟨b2, off2, c', S2, h1, hbb2, hy2, hc2⟩ := HV2.out.at (i := k) (by rw [← HN.out]; exact hlt)
     simp only [Value.slice.injEq] at h1
     obtain ⟨rfl, -, rfl⟩ := h1
     rw [hy] at hy2
     obtain rfl := Option.some.inj hy2
     have jl : rowLoad Tryz.prog 79 ⟨b, off + k * 16, none⟩ wr = .ok (.agg (words S)) wr := load_cells Tryz.isAgg79 Tryz.sizeOf79 wr b _ _ (words_size S) fun j u hu => hc wr HB.out j u hu
     have HJ2 := Lib.hid fun W (hW : Below w.heap.size w W) => show rowLoad Tryz.prog 79 ⟨b2, off2 + k * 16, none⟩ W = .ok (.agg (words S)) W from load_cells Tryz.isAgg79 Tryz.sizeOf79 W b2 _ _ (words_size S) fun j u hu => hc2 W hW j u hu
     have hki : (k : Int) < (N : Int) := by omega
     have hkn : ¬ (N : Int) ≤ (k : Int) := by omega
     have HBa := Lib.hid (HB.out.alloc hs (.cells (words S) 79))
     have jl2 : rowLoad Tryz.prog 79 ⟨b2, off2 + k * 16, none⟩ (wr.alloc (.cells (words S) 79)) = .ok (.agg (words S)) (wr.alloc (.cells (words S) 79)) := HJ2.out _ HBa.out
     clear hbb hbb2 hy hy2 hc hc2
     go_wp2_with fail
     refine (H.out S _).mono ?_
     rintro r w8 ⟨rfl, hb8⟩
     have HB8 := Lib.hid (((HBa.out.alloc HBa.out.size (.cells (words S) 79))).trans (hb8.mono (by simp; omega)))
     clear hb8 jl jl2
     go_wp2_with fail
     go_roundw
     case rel => exact ⟨k + 1, by omega, by go_num, HB8.out⟩
     case measure => simp [intOf]; omega
   · have hki : ¬ (k : Int) < (N : Int) := by omega
     go_wp2_with fail
     go_ret
     exact ⟨rfl, HB.out⟩
theorem cmpslices_same (L : List Nat) (hlen : L.length ≤ 100000) (v v2 : Value) (w : World) (hv : Rd words 16 w.heap.size w v L) (hv2 : Rd words 16 w.heap.size w v2 L) :
   Calls Tryz.prog 31 #[v, v2] w fun e w' => e = .returned (.int .i64 0) ∧ Below w.heap.size w w' := by
 have H := Lib.hid (comparef_same L hlen v v2 w hv hv2)
 obtain ⟨a, c, rfl⟩ := hv.sl
 obtain ⟨a2, c2, rfl⟩ := hv2.sl
 go_enter Tryz.func31, Tryz.ntmps31
 go_wp2_with fail
 refine H.out.mono ?_
 rintro e w1 ⟨rfl, hb1⟩
 have HB1 := Lib.hid hb1
 clear hb1 H
 go_wp2_with fail
 go_ret
 exact ⟨rfl, HB1.out⟩
theorem cmplists_same (L : List Nat) (hlen : L.length ≤ 100000) (v v2 : Value) (w : World) (hv : RowsOk w v L) (hv2 : RowsOk w v2 L) :
   Calls Tryz.prog 79 #[v, v2] w fun e w' => e = .returned (.int .i64 0) ∧ Below w.heap.size w w' := by
 have HV := Lib.hid hv
 have HV2 := Lib.hid hv2
 obtain ⟨a, c, rfl⟩ := hv.sl
 obtain ⟨a2, c2, rfl⟩ := hv2.sl
 obtain ⟨N, hN⟩ : ∃ N, N = L.length := ⟨_, rfl⟩
 have HN := Lib.hid hN
 rw [← hN] at HV HV2 hlen ⊢
 clear hv hv2 hN
 go_enter Tryz.func79, Tryz.ntmps79
 go_wp2_with fail
 go_loopw [5] (fun i wr => ∃ k : Nat, k ≤ N ∧ i = .int .i64 (k : Int) ∧ Below w.heap.size w wr) (fun i _ => N - (intOf i).toNat)
 case atStart => exact ⟨0, by omega, rfl, Below.refl _ _⟩
 case round =>
   obtain ⟨k, hk, rfl, hb⟩ := hrel
   have HB := Lib.hid hb
   clear hb
   by_cases hlt : k < N
   · obtain ⟨S, hS⟩ : ∃ S, L[k]? = some S := ⟨_, List.getElem?_eq_getElem (by rw [← HN.out]; exact hlt)⟩
     obtain ⟨b, off, c', s, h1, hc, hrd⟩ := HV.out.at hS
     rw [← HN.out] at h1
     simp only [Value.slice.injEq] at h1
     obtain ⟨rfl, -, rfl⟩ := h1
     obtain ⟨b2, off2, c', s2, h1, hc2, hrd2⟩ := HV2.out.at hS
     rw [← HN.out] at h1
     simp only [Value.slice.injEq] at h1
     obtain ⟨rfl, -, rfl⟩ := h1
     have HC := Lib.hid fun W (hW : Below wr.heap.size wr W) => And.intro (hc W (HB.out.trans (hW.mono HB.out.size))) (hc2 W (HB.out.trans (hW.mono HB.out.size)))
     have hel := elems_len2 S
     have HK := Lib.hid (rcmp_same (elemsI S) _ _ wr.drew (hrd.below HB.out.drew) (hrd2.below HB.out.drew) (by simp [elemsI]; omega))
     obtain ⟨s1, s2', s3⟩ := s
     obtain ⟨u1, u2, u3⟩ := s2
     simp only at HC HK
     have hki : (k : Int) < (N : Int) := by omega
     clear hS hc hc2 hrd hrd2
     go_wp2_with fail
     refine wp_region_mix (fun W => Below wr.heap.size wr W) 9 [(0, true), (1, true), (2, true), (3, true), (4, true), (5, true), (6, true), (7, true), (8, false)] (by kernel_rfl) (by kernel_rfl) (Below.refl _ _).drew ?_
     repeat ((first | apply wpPlan_still rfl rfl | apply wpPlan_stillG rfl rfl); (intro w hw; have r1 := (HC.out _ hw).1; have r2 := (HC.out _ hw).2; clear hw; go_simp; (try go_ints); (first | with_reducible rfl | (go_simp; with_reducible rfl))); (intro K hK; go_simp; (try go_ints); refine hK _ _ ?_; clear hK K))
     apply wpPlan_actG rfl rfl
     intro K hK
     unfold Oper.wp
     go_simp
     refine HK.out.mono ?_
     rintro r w8 ⟨rfl, hb8⟩
     have hb8' := (Below.refl wr.heap.size wr).drew.trans hb8
     have HB8 := Lib.hid (HB.out.trans (hb8'.mono HB.out.size))
     refine hK _ _ hb8' ?_
     clear hK K hb8 hb8' HK
     refine wpPlan_nil ?_
     simp only [List.drop_succ_cons, List.drop_zero]
     go_wp2_with fail
     go_roundw
     case rel => exact ⟨k + 1, by omega, by go_num, HB8.out⟩
     case measure => simp [intOf]; omega
   · have hki : ¬ (k : Int) < (N : Int) := by omega
     go_wp2_with fail
     go_ret
     exact ⟨rfl, HB.out⟩
theorem sames_same (L : List Nat) (hlen : L.length ≤ 100000) (v v2 : Value) (w : World) (hv : RowsOk w v L) (hv2 : RowsOk w v2 L) :
   Calls Tryz.prog 33 #[v, v2] w fun e w' => e = .returned (.bool true) ∧ Below w.heap.size w w' := by
 have H := Lib.hid (cmplists_same L hlen v v2 w hv hv2)
 obtain ⟨a, c, rfl⟩ := hv.sl
 obtain ⟨a2, c2, rfl⟩ := hv2.sl
 go_enter Tryz.func33, Tryz.ntmps33
 go_wp2_with fail
 refine H.out.mono ?_
 rintro e w1 ⟨rfl, hb1⟩
 have HB1 := Lib.hid hb1
 clear hb1 H
 go_wp2_with fail
 go_ret
 exact ⟨rfl, HB1.out⟩
end Go.Proofs.YtglnhnjmelilmaaGreatDoor
