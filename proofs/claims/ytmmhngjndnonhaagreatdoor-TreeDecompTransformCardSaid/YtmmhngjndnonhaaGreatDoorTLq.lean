/- Walks of package treedecomp: Check of any tree of bags; Root, Children and Depth of one .. -/
import Derived.Test.YtmmhngjndnonhaaGreatDoorTKW
import Derived.Test.YtmmhngjndnonhaaGreatDoorTLp
import Derived.Test.YtmmhngjndnonhaaGreatDoorTRef3
set_option maxHeartbeats 2000000
set_option maxRecDepth 10000
set_option linter.all false
namespace Go.Proofs.YtmmhngjndnonhaaGreatDoor
open Go Go.RowKit Go.Pal
def ParAt (T : List Bg) : Prop := ∀ (i : Nat) (x : Bg), T[i]? = some x → x.1 = -1 ∨ ∃ p : Nat, x.1 = p ∧ p < T.length
theorem parAt_of {T : List Bg} (h : T.all (parB T.length) = true) : ParAt T := fun i x hx => by
 obtain ⟨h1, h2⟩ := parIn_of h i x hx
 by_cases e : x.1 = -1
 · exact .inl e
 · exact .inr ⟨x.1.toNat, by omega, by omega⟩
theorem tops_par (T : List Bg) (hP : ParAt T) (hl : T.length ≤ 65536) (v : Value) (w : World) (hv : Rd bagA 17 w.heap.size w v T) (i : Nat) (hi : i < T.length) :
   Calls Tryz.prog 71 #[v, .int .i64 (i : Int)] w fun e w' => e = .returned (.agg (words (topS T i))) ∧ Below w.heap.size w w' := by
 obtain ⟨x, hx⟩ : ∃ x, T[i]? = some x := ⟨_, List.getElem?_eq_getElem hi⟩
 rcases hP i x hx with hp | ⟨p, hp, hpl⟩
 · rw [topS_root hx hp]
   exact tops_root T v w hv (by omega) i x hx hp
 · obtain ⟨y, hy⟩ : ∃ y, T[p]? = some y := ⟨_, List.getElem?_eq_getElem hpl⟩
   rw [topS_other hx hp hy]
   exact tops_other T v w hv (by omega) i p x y hx hp hy
theorem any_par (T : List Bg) : (T.any fun b => decide (b.1 < -1) || decide ((T.length : Int) ≤ b.1)) = !(T.all (parB T.length)) := by
 rw [List.not_all_eq_any_not]
 congr 1
 funext b
 unfold parB
 rw [Bool.eq_iff_iff]
 simp
theorem tcheck_any (T : List Bg) (hSet : ∀ x ∈ T, IsSet x.2) (v : Value) (w : World) (hv : Rd bagA 17 w.heap.size w v T) (hle : T.length ≤ 1024) :
   Calls Tryz.prog 64 #[v] w fun e w' => e = .returned (.int .i64 (rCheckN T)) ∧ Below w.heap.size w w' := by
 have HV := Lib.hid hv
 have HSet := Lib.hid hSet
 obtain ⟨a, c, rfl, -⟩ := hv
 obtain ⟨R, hR⟩ : ∃ R, R = rCheckN T := ⟨_, rfl⟩
 have HRR := Lib.hid hR
 rw [← hR]
 clear hSet hR
 by_cases h0 : T.length < 1
 · have HE : Hid (R = 2) := Lib.hid (by rw [HRR.out, rCheckN_len (.inl h0)])
   have hl : T.length = 0 := by omega
   rw [hl]
   go_enter Tryz.func64, Tryz.ntmps64
   go_wp2_with fail
   go_ret
   refine ⟨by rw [HE.out]; rfl, ?_⟩
   (repeat' (first | (with_reducible first | exact Below.refl _ _ | assumption | refine Below.alloc ?_ ?_ _ | refine Below.drew ?_ | refine Below.setCell ?_ ?_ _ | refine below_setRow ?_ ?_ _ | exact Nat.le_refl _) | omega | (simp; done) | (simp; omega) | (simp at *; omega)))
 have H0 : Hid (¬ (T.length < 1 ∨ 4096 < T.length)) := Lib.hid (by omega)
 have hl0 : ((T.length : Int) == 0) = false := by rw [beq_eq_false_iff_ne]; omega
 have hl1 : decide ((4096 : Int) < (T.length : Int)) = false := decide_eq_false (by omega)
 go_enter Tryz.func64, Tryz.ntmps64
 go_wp2_with fail
 have hB1 : Below w.heap.size w (w.alloc (Obj.cells #[.slice a T.length c] 46)) := (Below.refl _ w).alloc (Nat.le_refl _) _
 have hr1 : row? (w.alloc (Obj.cells #[.slice a T.length c] 46)) w.heap.size = some #[.slice a T.length c] := by simp [go_sem]
 obtain ⟨W1, hW1⟩ : ∃ W1, W1 = w.alloc (Obj.cells #[.slice a T.length c] 46) := ⟨_, rfl⟩
 have hs1 : W1.heap.size = w.heap.size + 1 := by rw [hW1]; simp
 rw [← hW1] at hB1 hr1 ⊢
 clear hW1
 have hcf := containsFuncT (fun b => decide (b.1 < -1) || decide ((T.length : Int) ≤ b.1)) 133 #[.pointer (some ⟨w.heap.size, 0, none⟩)] (fun args w => by simp [go_sem]) T (.slice a T.length c) W1 ((HV.out.below hB1 (Nat.le_refl _)).mono hB1.size) (by omega)
   fun W hW x _ => check1_any x w.heap.size (.slice a T.length c) T.length W ((row?_below hW (by omega)).trans hr1) ⟨_, _, rfl⟩
 rw [any_par] at hcf
 obtain ⟨pb, hpb⟩ : ∃ pb, pb = T.all (parB T.length) := ⟨_, rfl⟩
 have HPB := Lib.hid hpb
 rw [← hpb] at hcf
 clear hpb
 refine hcf.mono ?_
 rintro e w2 ⟨rfl, hb2⟩
 have hr2 := (row?_below hb2 (by omega)).trans hr1
 have hB2 := hB1.trans (hb2.mono (by omega))
 have hs2 := hb2.size
 have e1 : w2.cell? ⟨w.heap.size, 0, none⟩ = _ := cell?_row (i := 0) hr2
 simp at e1
 have HB2 := Lib.hid hB2
 have HR2 := Lib.hid hr2
 clear hcf hb2 hr1 hB1 hr2 hB2
 cases pb with
 | false =>
   have HE : Hid (R = 3) := Lib.hid (by rw [HRR.out, rCheckN_par H0.out HPB.out.symm])
   simp only [Bool.not_false]
   go_wp2_with fail
   go_ret
   exact ⟨by rw [HE.out]; rfl, HB2.out⟩
 | true =>
   simp only [Bool.not_true]
   have HPA : Hid (ParAt T) := Lib.hid (parAt_of HPB.out.symm)
   go_wp2_with fail
   refine (roots_any T (.slice a T.length c) w2 ((HV.out.below HB2.out (Nat.le_refl _)).mono HB2.out.size) (by omega)).mono ?_
   rintro e w3 ⟨v3, rfl, hO3, hb3⟩
   obtain ⟨q3, n3, c3, rfl⟩ := hO3.slice
   have hn3 := hO3.len
   have hrl : (rootsTo T T.length).length = (T.filter rootB).length := by
     rw [rootsTo_len (fun x hx => by
       obtain ⟨i, hi⟩ := List.mem_iff_getElem?.1 hx
       exact (parIn_of HPB.out.symm i x hi).1) _ (Nat.le_refl _), List.take_length]
   rw [hrl] at hn3
   subst hn3
   have hfl : (T.filter rootB).length ≤ T.length := List.length_filter_le _ _
   have hr3 := (row?_below hb3 (by omega)).trans HR2.out
   have hB3 := HB2.out.trans (hb3.mono (by omega))
   have hs3 := hb3.size
   have e2 : w3.cell? ⟨w.heap.size, 0, none⟩ = _ := cell?_row (i := 0) hr3
   simp at e2
   have HB3 := Lib.hid hB3
   have HR3 := Lib.hid hr3
   clear hO3 e1 hr3 hB3 hb3 hrl
   obtain ⟨n, hn⟩ : ∃ n, n = (T.filter rootB).length := ⟨_, rfl⟩
   have HN := Lib.hid hn
   rw [← hn] at hfl ⊢
   clear hn
   by_cases hroot : n = 1
   · subst hroot
     obtain ⟨r, hrt, hrr⟩ := rooted_of HPB.out.symm HN.out.symm
     have HRt := Lib.hid hrt
     obtain ⟨t, htl, hft, hts, htz, -, -⟩ := hrt.tree
     have HTZ := Lib.hid htz
     rw [← htl] at hrr
     go_wp2_with fail
     have hd := depths_any T (.slice a T.length c) w3 ((HV.out.below HB3.out (Nat.le_refl _)).mono HB3.out.size) (by omega) HPA.out t hrr hft (by omega)
     refine hd.mono ?_
     rintro e w4 ⟨rfl, hr, hb4⟩
     have hr4 := (row?_below hb4 (by omega)).trans HR3.out
     have hB4 := HB3.out.trans (hb4.mono (by omega))
     have hs4 := hb4.size
     have e3 : w4.cell? ⟨w.heap.size, 0, none⟩ = _ := cell?_row (i := 0) hr4
     simp at e3
     have HB4 := Lib.hid hB4
     have HR4 := Lib.hid hr4
     clear hd hr e2 hr4 hB4 hb4 hrt hrr hft htz htl
     have hlt4 : w.heap.size < w4.heap.size := by omega
     by_cases hall : t.sz = T.length
     · rw [decide_eq_true hall]
       have HAll := Lib.hid (HTZ.out.1 hall)
       have HUp := Lib.hid (HRt.out.up_iff.2 HAll.out)
       have HTop := Lib.hid (HRt.out.topB_iff HSet.out HAll.out)
       clear hall hts
       go_wp2_with fail
       go_loopw [34] (fun i wr => ∃ k : Nat, k ≤ T.length ∧ i = .int .i64 k ∧ (∀ j, j < k → topS T j &&& seenTo T j = 0) ∧ row? wr w.heap.size = some #[.slice a T.length c] ∧ row? wr w4.heap.size = some (words (seenTo T k)) ∧ Below w.heap.size w wr) (fun i _ => T.length - (intOf i).toNat)
       case atStart =>
         refine ⟨0, by omega, rfl, fun j hj => by omega, ?_, by simp [go_sem, seenTo], HB4.out.alloc (by omega) _⟩
         rw [row?_alloc_past _ _ _ (by omega)]
         exact HR4.out
       case round =>
         obtain ⟨k, hk, rfl, hap, hra, hrs, hb⟩ := hrel
         have HAP := Lib.hid hap
         have hlt5 := row?_lt hrs
         have e5 : wr.cell? ⟨w.heap.size, 0, none⟩ = _ := cell?_row (i := 0) hra
         simp at e5
         have HRA := Lib.hid hra
         have HRS := Lib.hid hrs
         have HB5 := Lib.hid hb
         clear hra hrs hb e3 hap
         by_cases hlt : k < T.length
         · go_wp2_with fail
           refine (tops_par T HPA.out (by omega) (.slice a T.length c) wr ((HV.out.below HB5.out (Nat.le_refl _)).mono HB5.out.size) k hlt).mono ?_
           rintro e w6 ⟨rfl, hb6⟩
           have hs6 := hb6.size
           have hra6 := (row?_below hb6 (by omega)).trans HRA.out
           have hrs6 := (row?_below hb6 (by omega)).trans HRS.out
           have HB6 := Lib.hid (HB5.out.trans (hb6.mono (by omega)))
           have hlt6 : w4.heap.size < w6.heap.size := by omega
           have hlt7 : w.heap.size < w6.heap.size := by omega
           clear e5 hb6
           go_wp2_with fail
           refine (inter_any _ _ _).mono ?_
           rintro e w7 ⟨rfl, hb7⟩
           have hs7 := hb7.size
           simp only [World.size_alloc] at hs7
           have hra7 : row? w7 w.heap.size = some #[.slice a T.length c] := (row?_below hb7 (by simp; omega)).trans (by rw [row?_alloc_past _ _ _ hlt7]; exact hra6)
           have hrs7 : row? w7 w4.heap.size = some (words (seenTo T k)) := (row?_below hb7 (by simp; omega)).trans (by rw [row?_alloc_past _ _ _ hlt6]; exact hrs6)
           have hrt7 : row? w7 w6.heap.size = some (words (topS T k)) := (row?_below hb7 (by simp)).trans (by simp [go_sem])
           have HB7 := Lib.hid (((HB6.out.alloc (by omega) (Obj.cells (words (topS T k)) 57))).trans (hb7.mono (by simp; omega)))
           obtain ⟨D, hD⟩ : ∃ D, D = topS T k &&& seenTo T k := ⟨_, rfl⟩
           have hDS : IsSet D := by rw [hD]; exact isSet_and (isSet_topS HSet.out k)
           have HD := Lib.hid hD
           rw [← hD]
           clear hb7 hra6 hrs6 hD
           go_wp2_with fail
           refine (isEmpty_any D hDS w7).mono ?_
           rintro e w8 ⟨rfl, hb8⟩
           have hs8 := hb8.size
           have hra8 := (row?_below hb8 (by omega)).trans hra7
           have hrs8 := (row?_below hb8 (by omega)).trans hrs7
           have hrt8 := (row?_below hb8 (by omega)).trans hrt7
           have HB8 := Lib.hid (HB7.out.trans (hb8.mono (by omega)))
           clear hb8 hra7 hrs7 hrt7 hDS
           by_cases hz : D = 0
           · rw [decide_eq_true hz]
             have HAP2 : Hid (∀ j, j < k + 1 → topS T j &&& seenTo T j = 0) := Lib.hid (fun j hj => by
               by_cases e : j = k
               · subst e; rw [← HD.out, hz]
               · exact HAP.out j (by omega))
             clear hz
             go_wp2_with fail
             refine (union_any _ _ _).mono ?_
             rintro e w9 ⟨rfl, hb9⟩
             have hs9 := hb9.size
             have hra9 := (row?_below hb9 (by omega)).trans hra8
             have hrs9 := (row?_below hb9 (by omega)).trans hrs8
             have HB9 := Lib.hid (HB8.out.trans (hb9.mono (by omega)))
             clear hb9 hra8 hrs8 hrt8
             go_wp2
             go_roundw
             case rel =>
               refine ⟨k + 1, by omega, by go_num, HAP2.out, ?_, ?_, ?_⟩
               · rw [row?_setRow_other _ _ _ _ (by omega)]; exact hra9
               · rw [row?_setRow_same _ _ _ (by rw [hrs9]; rfl)]; rfl
               · exact below_setRow HB9.out (by omega) _
             case measure => simp [intOf]; omega
           · rw [decide_eq_false hz]
             have HE : Hid (R = 7) := Lib.hid (by
               rw [HRR.out]
               refine rCheckN_top H0.out HPB.out.symm HN.out.symm HUp.out ?_
               cases hb : (List.range T.length).all (topB T) with
               | false => rfl
               | true => exact absurd (HTop.out.1 hb k hlt) (by rw [← HD.out]; exact hz))
             clear hz hra8 hrs8 hrt8
             go_wp2_with fail
             go_ret
             exact ⟨by rw [HE.out]; rfl, HB8.out⟩
         · have hk' : k = T.length := by omega
           subst hk'
           have HE : Hid (R = 0) := Lib.hid (by rw [HRR.out, rCheckN_ok H0.out HPB.out.symm HN.out.symm HUp.out (HTop.out.2 HAP.out)])
           clear e5
           go_wp2
           go_ret
           exact ⟨by rw [HE.out]; rfl, HB5.out⟩
     · rw [decide_eq_false hall]
       have HE : Hid (R = 15) := Lib.hid (by
         rw [HRR.out]
         refine rCheckN_up H0.out HPB.out.symm HN.out.symm ?_
         cases hb : (List.range T.length).all (upB T) with
         | false => rfl
         | true => exact absurd (HTZ.out.2 (HRt.out.up_iff.1 hb)) hall)
       clear hall hts e3
       go_wp2_with fail
       go_ret
       exact ⟨by rw [HE.out]; rfl, HB4.out⟩
   · have HE : Hid (R = 3) := Lib.hid (by rw [HRR.out, rCheckN_root H0.out HPB.out.symm (by rw [← HN.out]; exact hroot)])
     have hr1 : ((n : Int) == 1) = false := by simp; omega
     have hr2 : ((n : Int) != 1) = true := by simp; omega
     clear e2
     go_wp2_with fail
     go_ret
     exact ⟨by rw [HE.out]; rfl, HB3.out⟩
end Go.Proofs.YtmmhngjndnonhaaGreatDoor
namespace Go.Pal
open Go Go.RowKit
def cutB (I : Nat) (x : Bg) : Bg := (x.1, x.2 &&& I)
theorem heap_setCells_ne {b k : Nat} (hk : k ≠ b) : ∀ (vs : List Value) (o : Nat) (w : World), (w.setCells b o vs).heap[k]? = w.heap[k]?
 | [], _, _ => rfl
 | v :: r, o, w => (heap_setCells_ne hk r (o + 1) _).trans (heap_setCell_other _ _ k _ (by exact hk))
theorem resT_map (T : List Bg) (I : Nat) : T.map (cutB I) = resT T I := rfl
end Go.Pal
namespace Go.Proofs.YtmmhngjndnonhaaGreatDoor
open Go Go.RowKit Go.Pal
attribute [local go_sem] Oper.semAt_some
theorem restrict_any (T : List Bg) (I : Nat) (v : Value) (w : World) (hv : Rd bagA 17 w.heap.size w v T) (hne : T ≠ []) (hlen : T.length ≤ 65536)
   (hck : ∀ W, Below w.heap.size w W → Calls Tryz.prog 64 #[v] W fun e w' => e = .returned (.int .i64 0) ∧ Below W.heap.size W w') :
   Calls Tryz.prog 24 #[v, .agg (words I)] w fun e w' => ∃ v', e = .returned (.tuple #[v', .int .i64 0]) ∧ OwnT w.heap.size w' v' (resT T I) ∧ Below w.heap.size w w' := by
 have HV := Lib.hid hv
 have HK := Lib.hid hck
 have HNE := Lib.hid hne
 obtain ⟨a, c, rfl, -⟩ := hv
 clear hck hne
 go_enter Tryz.func24, Tryz.ntmps24
 go_wp2_with fail
 obtain ⟨W0, hW0⟩ : ∃ W0, W0 = w.alloc (Obj.cells (words I) 57) := ⟨_, rfl⟩
 have hB0 : Below w.heap.size w W0 := by rw [hW0]; exact (Below.refl _ w).alloc (Nat.le_refl _) _
 have hr0 : row? W0 w.heap.size = some (words I) := by rw [hW0]; exact row?_alloc_at _ _ _ _ rfl
 have hs0 : w.heap.size < W0.heap.size := by rw [hW0]; simp
 rw [← hW0]
 have HB0 := Lib.hid hB0
 have HR0 := Lib.hid hr0
 clear hW0 hB0 hr0
 refine (HK.out W0 HB0.out).mono ?_
 rintro e w1 ⟨rfl, hb1⟩
 have HB1 := Lib.hid (HB0.out.trans (hb1.mono HB0.out.size))
 have HR1 := Lib.hid ((row?_below hb1 hs0).trans HR0.out)
 have hs1 := HB1.out.size
 have hs01 := hb1.size
 clear hb1
 go_wp2_with fail
 refine (tClone_own T _ w1 ((HV.out.below HB1.out (Nat.le_refl _)).mono hs1) (fun h => absurd h HNE.out) hlen).mono ?_
 rintro e w2 ⟨v2, rfl, hO2, hb2⟩
 have HO2 := Lib.hid hO2
 have HB2 := Lib.hid (HB1.out.trans (hb2.mono hs1))
 have HR2 := Lib.hid ((row?_below hb2 (by omega)).trans HR1.out)
 have hs2 := hb2.size
 obtain ⟨q2, c2, rfl⟩ := hO2.sl
 obtain ⟨g, rfl, hgB⟩ : ∃ g, q2 = some ⟨g, 0, none⟩ ∧ w1.heap.size ≤ g := by
   rcases hO2.2 with ⟨_, h⟩ | ⟨g, cap, cur, h, h2, _⟩
   · exact absurd (List.length_eq_zero_iff.1 h) HNE.out
   · simp only [Value.slice.injEq] at h
     exact ⟨g, h.1, h2⟩
 clear hO2 hb2
 go_wp2_with fail
 go_loopw [18] (fun i wr => ∃ j : Nat, j ≤ T.length ∧ i = .int .i64 (j : Int) ∧ OwnT w1.heap.size wr (.slice (some ⟨g, 0, none⟩) T.length c2) (mapTo (cutB I) T j) ∧ row? wr w.heap.size = some (words I) ∧ Below w.heap.size w wr) (fun i _ => T.length - (intOf i).toNat)
 case atStart => exact ⟨0, by omega, rfl, by rw [mapTo_zero]; exact HO2.out, HR2.out, HB2.out⟩
 case round =>
   obtain ⟨j, hj, rfl, hOj, hrj, hBj⟩ := hrel
   have hsj := hBj.size
   have hgl := hOj.lt g rfl
   have hrl := row?_lt hrj
   have HOJ := Lib.hid hOj
   have HRJ := Lib.hid hrj
   have HBJ := Lib.hid hBj
   clear hOj hrj hBj
   by_cases hlt : j < T.length
   · obtain ⟨x, hx⟩ : ∃ x, T[j]? = some x := ⟨_, List.getElem?_eq_getElem hlt⟩
     have hgz := mapTo_get (f := cutB I) hx
     have hset := mapTo_set (f := cutB I) hx
     obtain ⟨px, S⟩ := x
     have HGZ := Lib.hid hgz
     have HST := Lib.hid hset
     have HF := Lib.hid fun W (hw : Below wr.heap.size wr W) => (⟨(own_cell (HOJ.out.below hw (Nat.le_refl _)) HGZ.out).2.2.1, (row?_below hw hrl).trans HRJ.out⟩ : _ ∧ row? W w.heap.size = some (words I))
     clear hx hgz hset
     go_wp2_with fail
     refine wp_region_free_tail (fun W => Below wr.heap.size wr W) 11 (by kernel_rfl) (by kernel_rfl) (Below.refl _ _).drew ?_
     simp only [List.take_succ_cons, List.take_zero, List.drop_succ_cons, List.drop_zero]
     repeat ((first | apply wpFree_still (hg := rfl) | apply wpFree_stillG rfl); (intro w hw; obtain ⟨k1, k2⟩ := HF.out _ hw; clear hw; go_simp; (try go_ints); (first | with_reducible rfl | (go_simp; with_reducible rfl))); (intro K hK; go_simp; (try go_ints); refine hK _ ?_; clear hK K))
     apply wpFree_call
     · intro w hw; go_simp; first | with_reducible rfl | with_reducible exact ⟨rfl, rfl⟩
     · with_reducible rfl
     · intro w hw; refine (inter_any S I w).mono ?_; rintro e w' ⟨h1, h2⟩; exact ⟨h1, hw.trans (h2.mono hw.size)⟩
     intro K hK; go_simp; (try go_ints); refine hK _ ?_; clear hK K
     repeat ((first | apply wpFree_still (hg := rfl) | apply wpFree_stillG rfl); (intro w hw; clear hw; go_simp; (try go_ints); (first | with_reducible rfl | (go_simp; with_reducible rfl))); (intro K hK; go_simp; (try go_ints); refine hK _ ?_; clear hK K))
     with_reducible refine wpFree_nil ?_
     intro w4 hb4
     have hO4 := HOJ.out.below hb4 (Nat.le_refl _)
     obtain ⟨-, -, -, hst⟩ := own_cell hO4 HGZ.out
     have hst := hst (S &&& I)
     have hO5 := own_set hO4 HGZ.out (S &&& I)
     have hO5 : OwnT w1.heap.size (w4.setCells g (j * 17 + 1) (words (S &&& I)).toList) (.slice (some ⟨g, 0, none⟩) T.length c2) (mapTo (cutB I) T (j + 1)) := by rw [← HST.out]; exact hO5
     have hB5 : Below w.heap.size w (w4.setCells g (j * 17 + 1) (words (S &&& I)).toList) := below_setCells (by omega) _ _ _ (HBJ.out.trans (hb4.mono hsj))
     have hr5 : row? (w4.setCells g (j * 17 + 1) (words (S &&& I)).toList) w.heap.size = some (words I) := (row?_congr (heap_setCells_ne (by omega) _ _ _)).trans ((row?_below hb4 hrl).trans HRJ.out)
     have HO5 := Lib.hid hO5
     have HB5 := Lib.hid hB5
     have HR5 := Lib.hid hr5
     clear hO4 hO5 hB5 hb4 hr5
     go_wp2_with fail
     go_roundw
     case rel => exact ⟨j + 1, by omega, by go_num, HO5.out, HR5.out, HB5.out⟩
     case measure => simp [intOf]; omega
   · have hjn : j = T.length := by omega
     subst hjn
     go_wp2_with fail
     go_ret2
     refine ⟨.slice (some ⟨g, 0, none⟩) T.length c2, rfl, ?_, HBJ.out⟩
     have h := HOJ.out
     rw [mapTo_all _ _ rfl, resT_map] at h
     exact OwnR.lower h hs1
end Go.Proofs.YtmmhngjndnonhaaGreatDoor
