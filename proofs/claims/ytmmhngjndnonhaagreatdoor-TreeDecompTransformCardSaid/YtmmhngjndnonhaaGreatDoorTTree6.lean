/- Walks of package treedecomp: tops, Check of a valid tree. -/
import Derived.Test.YtmmhngjndnonhaaGreatDoorTTre4
import Derived.Test.YtmmhngjndnonhaaGreatDoorTPlain
set_option linter.all false
namespace Go.Proofs.YtmmhngjndnonhaaGreatDoor
open Go Go.RowKit Go.Pal
theorem tops_any (T : List Bg) (t : Tr) (hV : Valid T t) (v : Value) (w : World) (hv : Rd bagA 17 w.heap.size w v T) (i : Nat) (hi : i < T.length) :
   Calls Tryz.prog 71 #[v, .int .i64 (i : Int)] w fun e w' => e = .returned (.agg (words (topS T i))) ∧ Below w.heap.size w w' := by
 obtain ⟨x, hx⟩ : ∃ x, T[i]? = some x := ⟨_, List.getElem?_eq_getElem hi⟩
 have hl := hV.le
 rcases hV.par i x hx with hp | ⟨p, hp, hpl⟩
 · rw [topS_root hx hp]
   exact tops_root T v w hv (by omega) i x hx hp
 · obtain ⟨y, hy⟩ : ∃ y, T[p]? = some y := ⟨_, List.getElem?_eq_getElem hpl⟩
   rw [topS_other hx hp hy]
   exact tops_other T v w hv (by omega) i p x y hx hp hy
set_option maxRecDepth 10000 in
set_option maxHeartbeats 1000000 in
theorem check_valid (T : List Bg) (t : Tr) (hV : Valid T t) (v : Value) (w : World) (hv : Rd bagA 17 w.heap.size w v T) :
   Calls Tryz.prog 64 #[v] w fun e w' => e = .returned (.int .i64 0) ∧ Below w.heap.size w w' := by
 have HV := Lib.hid hv
 obtain ⟨a, c, rfl, -⟩ := hv
 have hle := hV.le
 have hpos := hV.pos
 have HVal := Lib.hid hV; clear hV
 have hl0 : ((T.length : Int) == 0) = false := by rw [beq_eq_false_iff_ne]; omega
 have hl1 : decide ((4096 : Int) < (T.length : Int)) = false := decide_eq_false (by omega)
 go_enter Tryz.func64, Tryz.ntmps64
 go_wp2_with fail
 have hB1 : Below w.heap.size w (w.alloc (Obj.cells #[.slice a T.length c] 46)) := (Below.refl _ w).alloc (Nat.le_refl _) _
 have hr1 : row? (w.alloc (Obj.cells #[.slice a T.length c] 46)) w.heap.size = some #[.slice a T.length c] := by simp [go_sem]
 obtain ⟨W1, hW1⟩ : ∃ W1, W1 = w.alloc (Obj.cells #[.slice a T.length c] 46) := ⟨_, rfl⟩
 have hs1 : W1.heap.size = w.heap.size + 1 := by rw [hW1]; simp
 rw [← hW1] at hB1 hr1 ⊢
 clear hW1
 have hany : T.any (fun b => decide (b.1 < -1) || decide ((T.length : Int) ≤ b.1)) = false := by
   rw [List.any_eq_false]
   intro x hx
   obtain ⟨i, hi⟩ := List.mem_iff_getElem?.1 hx
   simp only [Bool.or_eq_true, decide_eq_true_eq]
   rcases HVal.out.par i x hi with h | ⟨p, h, _⟩ <;> omega
 have hcf := containsFuncT (fun b => decide (b.1 < -1) || decide ((T.length : Int) ≤ b.1)) 133 #[.pointer (some ⟨w.heap.size, 0, none⟩)] (fun args w => by simp [go_sem]) T (.slice a T.length c) W1 ((HV.out.below hB1 (Nat.le_refl _)).mono hB1.size) (by omega)
   fun W hW x _ => check1_any x w.heap.size (.slice a T.length c) T.length W ((row?_below hW (by omega)).trans hr1) ⟨_, _, rfl⟩
 rw [hany] at hcf
 refine hcf.mono ?_
 rintro e w2 ⟨rfl, hb2⟩
 have hr2 := (row?_below hb2 (by omega)).trans hr1
 have hB2 := hB1.trans (hb2.mono (by omega))
 have hs2 := hb2.size
 have e1 : w2.cell? ⟨w.heap.size, 0, none⟩ = _ := cell?_row (i := 0) hr2
 simp at e1
 have HB2 := Lib.hid hB2
 have HR2 := Lib.hid hr2
 clear hcf hb2 hr1 hB1 hany hr2 hB2
 go_wp2_with fail
 refine (roots_any T (.slice a T.length c) w2 ((HV.out.below HB2.out (Nat.le_refl _)).mono HB2.out.size) (by omega)).mono ?_
 rintro e w3 ⟨v3, rfl, hO3, hb3⟩
 rw [HVal.out.root] at hO3
 obtain ⟨q3, n3, c3, rfl⟩ := hO3.slice
 have hn3 := hO3.len
 simp at hn3
 subst hn3
 have hr3 := (row?_below hb3 (by omega)).trans HR2.out
 have hB3 := HB2.out.trans (hb3.mono (by omega))
 have hs3 := hb3.size
 have e2 : w3.cell? ⟨w.heap.size, 0, none⟩ = _ := cell?_row (i := 0) hr3
 simp at e2
 have HB3 := Lib.hid hB3
 have HR3 := Lib.hid hr3
 clear hO3 e1 hr3 hB3 hb3
 go_wp2_with fail
 have hd := depths_any T (.slice a T.length c) w3 ((HV.out.below HB3.out (Nat.le_refl _)).mono HB3.out.size) (by omega) HVal.out.par t HVal.out.root HVal.out.fits (by have := HVal.out.all; omega)
 rw [HVal.out.all] at hd
 refine hd.mono ?_
 rintro e w4 ⟨rfl, hr, hb4⟩
 have hr4 := (row?_below hb4 (by omega)).trans HR3.out
 have hB4 := HB3.out.trans (hb4.mono (by omega))
 have hs4 := hb4.size
 have e3 : w4.cell? ⟨w.heap.size, 0, none⟩ = _ := cell?_row (i := 0) hr4
 simp at e3
 have HB4 := Lib.hid hB4
 have HR4 := Lib.hid hr4
 clear hd hr e2 hr4 hB4 hb4
 have hlt4 : w.heap.size < w4.heap.size := by omega
 have hdec : decide (T.length = T.length) = true := by simp
 rw [hdec]
 go_wp2_with fail
 go_loopw [34] (fun i wr => ∃ k : Nat, k ≤ T.length ∧ i = .int .i64 k ∧ row? wr w.heap.size = some #[.slice a T.length c] ∧ row? wr w4.heap.size = some (words (seenTo T k)) ∧ Below w.heap.size w wr) (fun i _ => T.length - (intOf i).toNat)
 case atStart =>
   refine ⟨0, by omega, rfl, ?_, by simp [go_sem, seenTo], HB4.out.alloc (by omega) _⟩
   rw [row?_alloc_past _ _ _ (by omega)]
   exact HR4.out
 case round =>
   obtain ⟨k, hk, rfl, hra, hrs, hb⟩ := hrel
   have hlt5 := row?_lt hrs
   have e5 : wr.cell? ⟨w.heap.size, 0, none⟩ = _ := cell?_row (i := 0) hra
   simp at e5
   have HRA := Lib.hid hra
   have HRS := Lib.hid hrs
   have HB5 := Lib.hid hb
   clear hra hrs hb e3
   by_cases hlt : k < T.length
   · go_wp2_with fail
     refine (tops_any T t HVal.out (.slice a T.length c) wr ((HV.out.below HB5.out (Nat.le_refl _)).mono HB5.out.size) k hlt).mono ?_
     rintro e w6 ⟨rfl, hb6⟩
     have hs6 := hb6.size
     have hra6 := (row?_below hb6 (by omega)).trans HRA.out
     have hrs6 := (row?_below hb6 (by omega)).trans HRS.out
     have HB6 := Lib.hid (HB5.out.trans (hb6.mono (by omega)))
     have hlt6 : w4.heap.size < w6.heap.size := by omega
     have hlt7 : w.heap.size < w6.heap.size := by omega
     clear e5 hb6
     go_wp2_with fail
     refine (inter_any _ _ _).mono ?_
     rintro e w7 ⟨rfl, hb7⟩
     have hs7 := hb7.size
     simp only [World.size_alloc] at hs7
     have hra7 : row? w7 w.heap.size = some #[.slice a T.length c] := (row?_below hb7 (by simp; omega)).trans (by rw [row?_alloc_past _ _ _ hlt7]; exact hra6)
     have hrs7 : row? w7 w4.heap.size = some (words (seenTo T k)) := (row?_below hb7 (by simp; omega)).trans (by rw [row?_alloc_past _ _ _ hlt6]; exact hrs6)
     have hrt7 : row? w7 w6.heap.size = some (words (topS T k)) := (row?_below hb7 (by simp)).trans (by simp [go_sem])
     have HB7 := Lib.hid (((HB6.out.alloc (by omega) (Obj.cells (words (topS T k)) 57))).trans (hb7.mono (by simp; omega)))
     have hdis := HVal.out.disj k hlt
     rw [hdis]
     clear hb7 hra6 hrs6
     go_wp2_with fail
     refine (isEmpty_any 0 isSet_zero w7).mono ?_
     rintro e w8 ⟨rfl, hb8⟩
     have hs8 := hb8.size
     have hra8 := (row?_below hb8 (by omega)).trans hra7
     have hrs8 := (row?_below hb8 (by omega)).trans hrs7
     have hrt8 := (row?_below hb8 (by omega)).trans hrt7
     have HB8 := Lib.hid (HB7.out.trans (hb8.mono (by omega)))
     have hd0 : decide ((0 : Nat) = 0) = true := by simp
     try rw [hd0]
     clear hb8 hra7 hrs7 hrt7
     go_wp2_with fail
     refine (union_any _ _ _).mono ?_
     rintro e w9 ⟨rfl, hb9⟩
     have hs9 := hb9.size
     have hra9 := (row?_below hb9 (by omega)).trans hra8
     have hrs9 := (row?_below hb9 (by omega)).trans hrs8
     have HB9 := Lib.hid (HB8.out.trans (hb9.mono (by omega)))
     clear hb9 hra8 hrs8 hrt8
     go_wp2
     go_roundw
     case rel =>
       refine ⟨k + 1, by omega, by go_num, ?_, ?_, ?_⟩
       · rw [row?_setRow_other _ _ _ _ (by omega)]; exact hra9
       · rw [row?_setRow_same _ _ _ (by rw [hrs9]; rfl)]; rfl
       · exact below_setRow HB9.out (by omega) _
     case measure => simp [intOf]; omega
   · have hk' : k = T.length := by omega
     subst hk'
     clear e5
     go_wp2
     go_ret
     exact ⟨rfl, HB5.out⟩
end Go.Proofs.YtmmhngjndnonhaaGreatDoor
