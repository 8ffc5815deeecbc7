/- The walk of the statement GraphioSetLists. -/
import Derived.Test.YtglnhnjmelilmaaGreatDoorSBK
import Derived.Test.YtglnhnjmelilmaaGreatDoorSBJ
import Derived.Test.YtglnhnjmelilmaaGreatDoorSVd
set_option linter.all false
namespace Go.Pal
open Go
theorem readRows_bad {s : List UInt8} (h : (readRows s).2 ≠ 0) : (readRows s).1 = [] := by
 unfold readRows at h ⊢
 split
 · rfl
 · rename_i h0
   rw [if_neg h0] at h
   exact foldR_bad _ _ h
theorem setsJ_len (L : List Nat) : (Lib.join (L.map setT) [59, 32]).length ≤ 5202 * L.length := by
 have := join_len (b := 5200) (ls := L.map setT) (fun p hp => by
   obtain ⟨S, -, rfl⟩ := List.mem_map.1 hp
   exact setT_len S) [59, 32]
 rw [List.length_map] at this
 exact this
theorem rowsT_len (L : List Nat) : (rowsT L).length ≤ 5202 * L.length + 1 := by
 unfold rowsT
 split
 · simp
 · have := setsJ_len L
   omega
theorem rowsT_join (L : List Nat) : (Lib.join (L.map setT) [59, 32]).length ≤ (rowsT L).length := by
 unfold rowsT
 split
 · rename_i h; rw [h, List.map_nil, join_nil]; simp
 · exact Nat.le_refl _
end Go.Pal
namespace Go.Proofs.YtglnhnjmelilmaaGreatDoor
open Go Go.RowKit Go.Pal Go.Shelf
attribute [local go_sem] Oper.semAt_some
theorem readRows_len (s : List UInt8) : (readRows s).1.length ≤ s.length + 1 := by
 unfold readRows
 split
 · simp
 · have h1 := foldR_len (parts2 [] s) []
   have h2 := (parts2_bound s.length s (Nat.le_refl _) []).1
   simp at h1
   omega
set_option maxRecDepth 10000 in
set_option maxHeartbeats 4000000 in
theorem slLaw_any (L : List Nat) (hL : ∀ S ∈ L, IsSet S) (t : List UInt8) (vl : Value) (w : World) (hl : Rd words 16 w.heap.size w vl L) (hT : Tab3 w) (hE : Errs w) (hM : Mxl w) :
   Calls Tryz.prog 7 #[vl, .string ⟨t.toArray⟩] w fun e w' => e = .returned (.bool true) ∧ Below w.heap.size w w' := by
 have HT := Lib.hid fun W (h : Below w.heap.size w W) => hT.on h
 have HLd := Lib.hid fun W (h : Below w.heap.size w W) => (hl.below h (Nat.le_refl _)).mono h.size
 have HFs := Lib.hid fun (h20 : L.length ≤ 20) W (h : Below w.heap.size w W) => fsets_any L hL (by omega) (by have := setsJ_len L; omega) vl W (HLd.out W h) (hT.on h).2 (hT.on h).1.1 (hT.on h).1.2
 have HLs := Lib.hid fun (h20 : L.length ≤ 20) W (h : Below w.heap.size w W) => lists_any L (by omega) vl W (HLd.out W h)
 have HRw := Lib.hid fun (h20 : L.length ≤ 20) v W => rrows_any L (by omega) v W
 have HCs := Lib.hid fun (h20 : L.length ≤ 20) v W (h : Below w.heap.size w W) (hv : Rd words 16 W.heap.size W v L) => cmpslices_same L (by omega) v vl W hv (HLd.out W h)
 have hrt := rowsT_len L
 have HPx := Lib.hid fun (h20 : L.length ≤ 20) W (h : Below w.heap.size w W) => psets_any (rowsT L) (by omega) W (hE.on h) (hM.on h)
 rw [readRows_text hL] at HPx
 obtain ⟨X, hX⟩ : ∃ X, X = rowsT L := ⟨_, rfl⟩
 rw [← hX] at HFs HRw HPx
 have HPs := Lib.hid fun (h : t.length ≤ 500) W (hW : Below w.heap.size w W) => psets_any t (by omega) W (hE.on hW) (hM.on hW)
 have HRs := Lib.hid fun (h : t.length ≤ 500) W => rreadRows_any t (by omega) W
 have HYl := Lib.hid (readRows_len t)
 have HYb := Lib.hid (readRows_bad (s := t))
 have HYr := Lib.hid (rows_read (s := t))
 obtain ⟨Y, hY⟩ : ∃ Y, Y = readRows t := ⟨_, rfl⟩
 rw [← hY] at HPs HRs HYl HYb HYr
 obtain ⟨al, cl, rfl⟩ := hl.sl
 obtain ⟨nl, hnl⟩ : ∃ n, n = L.length := ⟨_, rfl⟩
 rw [← hnl] at HFs HLs HRw HCs HPx ⊢
 clear hl hT hE hM hX hY hnl hL hrt HLd
 go_enter Tryz.func7, Tryz.ntmps7
 go_wp2_with fail
 refine (known06_any w (HT.out w (Below.refl _ _))).mono ?_
 rintro r w1 ⟨rfl, hb1⟩
 have HB1 := Lib.hid hb1
 clear hb1
 by_cases h20 : 20 < nl
 · have d1 : decide ((20 : Int) < (nl : Int)) = true := decide_eq_true (by omega)
   go_wp2_with fail
   refine (known06_any _ (HT.out _ HB1.out)).mono ?_
   rintro r w4 ⟨rfl, hb4⟩
   have HB4 := Lib.hid (HB1.out.trans (hb4.mono HB1.out.size))
   clear hb4
   go_wp2_with fail
   go_ret
   exact ⟨rfl, HB4.out⟩
 have d1 : decide ((20 : Int) < (nl : Int)) = false := decide_eq_false (by omega)
 have h20' : nl ≤ 20 := by omega
 clear h20
 by_cases hlen : 500 < t.length
 · have d2 : decide ((500 : Int) < (t.length : Int)) = true := decide_eq_true (by omega)
   go_wp2_with fail
   refine (known06_any _ (HT.out _ HB1.out)).mono ?_
   rintro r w4 ⟨rfl, hb4⟩
   have HB4 := Lib.hid (HB1.out.trans (hb4.mono HB1.out.size))
   clear hb4
   go_wp2_with fail
   go_ret
   exact ⟨rfl, HB4.out⟩
 have d2 : decide ((500 : Int) < (t.length : Int)) = false := decide_eq_false (by omega)
 have d3 : t.length ≤ 500 := by omega
 clear hlen
 go_wp2_with fail
 refine (HFs.out h20' w1 HB1.out).mono ?_
 rintro r w2 ⟨rfl, hb2⟩
 have HB2 := Lib.hid (HB1.out.trans (hb2.mono HB1.out.size))
 clear hb2 HFs HB1
 go_wp2_with fail
 refine (HLs.out h20' w2 HB2.out).mono ?_
 rintro r w3 ⟨v3, rfl, hR3, hb3⟩
 have HB3 := Lib.hid (HB2.out.trans (hb3.mono HB2.out.size))
 have HR3 := Lib.hid hR3
 obtain ⟨q3, c3, hsl⟩ := hR3.sl
 subst hsl
 obtain ⟨n3, hn3⟩ : ∃ n, n = L.length := ⟨_, rfl⟩
 rw [← hn3] at HR3 ⊢
 clear hb3 hR3 HLs HB2 hn3
 go_wp2_with fail
 refine (HRw.out h20' _ w3 HR3.out).mono ?_
 rintro r w4 ⟨rfl, hb4⟩
 have HB4 := Lib.hid (HB3.out.trans (hb4.mono HB3.out.size))
 clear hb4 HRw HR3 HB3
 have eX : (X != X) = false := bne_self_eq_false _
 go_wp2_with fail
 refine (HPx.out h20' w4 HB4.out).mono ?_
 rintro r w5 ⟨⟨v5, rfl, hO5⟩, hb5⟩
 have HB5 := Lib.hid (HB4.out.trans (hb5.mono HB4.out.size))
 simp only at hO5 ⊢
 obtain ⟨q5, c5, hsl⟩ := hO5.sl
 subst hsl
 have HO5 := Lib.hid (hO5.rd elST)
 obtain ⟨n5, hn5⟩ : ∃ n, n = L.length := ⟨_, rfl⟩
 rw [← hn5] at HO5 ⊢
 clear hb5 hO5 HPx HB4 hn5
 go_wp2_with fail
 refine (HCs.out h20' _ w5 HB5.out HO5.out).mono ?_
 rintro r w6 ⟨rfl, hb6⟩
 have HB6 := Lib.hid (HB5.out.trans (hb6.mono HB5.out.size))
 clear hb6 HCs HO5 HB5
 go_wp2_with fail
 refine (HPs.out d3 w6 HB6.out).mono ?_
 rintro r w7 ⟨⟨v7, rfl, hO7⟩, hb7⟩
 have HB7 := Lib.hid (HB6.out.trans (hb7.mono HB6.out.size))
 obtain ⟨R, ec⟩ := Y
 simp only at hO7 HYl HYb HYr ⊢
 obtain ⟨q7, c7, hsl⟩ := hO7.sl
 subst hsl
 have HO7 := Lib.hid (hO7.rd elST)
 have HF7 := Lib.hid fun (h0 : ec = 0) W (h : Below w.heap.size w W) (v : Value) (hv : Rd words 16 W.heap.size W v R) => fsets_any R (HYr.out h0).2 (by have := HYl.out; omega) (by have := rowsT_join R; rw [(HYr.out h0).1] at this; omega) v W hv (HT.out W h).2 (HT.out W h).1.1 (HT.out W h).1.2
 have HE7 := Lib.hid fun (h0 : ec = 0) => (HYr.out h0).1
 have HLs7 := Lib.hid fun v W (hv : Rd words 16 W.heap.size W v R) => lists_any R (by have := HYl.out; omega) v W hv
 have HSm := Lib.hid fun v v2 W (hv : RowsOk W v R) (hv2 : RowsOk W v2 R) => sames_same R (by have := HYl.out; omega) v v2 W hv hv2
 obtain ⟨n7, hn7⟩ : ∃ n, n = R.length := ⟨_, rfl⟩
 have HN7 := Lib.hid hn7
 rw [← hn7] at HO7 ⊢
 clear hb7 hO7 HPs HB6 hn7 HYl HYr HYb
 go_wp2_with fail
 refine (HRs.out d3 w7).mono ?_
 rintro r w8 ⟨v8, rfl, hR8, hb8⟩
 simp only at hR8 ⊢
 have HB8 := Lib.hid (HB7.out.trans (hb8.mono HB7.out.size))
 have HO8 := Lib.hid ((HO7.out.below hb8 (Nat.le_refl _)).mono hb8.size)
 have HR8 := Lib.hid hR8
 obtain ⟨q8, c8, hsl⟩ := hR8.sl
 subst hsl
 rw [← HN7.out] at HR8 ⊢
 clear hb8 hR8 HRs HO7 HB7
 have e3 : ((ec : Int) == (ec : Int)) = true := beq_self_eq_true _
 go_wp2_with fail
 refine (HLs7.out _ w8 HO8.out).mono ?_
 rintro r w9 ⟨v9, rfl, hR9, hb9⟩
 have HB9 := Lib.hid (HB8.out.trans (hb9.mono HB8.out.size))
 have HB89 := Lib.hid hb9
 have HR9 := Lib.hid hR9
 obtain ⟨q9, c9, hsl⟩ := hR9.sl
 subst hsl
 rw [← HN7.out] at HR9 ⊢
 clear hb9 hR9 HLs7
 go_wp2_with fail
 refine (HSm.out _ _ w9 HR9.out (HR8.out.below HB89.out)).mono ?_
 rintro r w10 ⟨rfl, hb10⟩
 have HB10 := Lib.hid (HB9.out.trans (hb10.mono HB9.out.size))
 have HO10 := Lib.hid ((HO8.out.below (HB89.out.trans (hb10.mono HB89.out.size)) (Nat.le_refl _)).mono (HB89.out.trans (hb10.mono HB89.out.size)).size)
 clear hb10 HSm
 by_cases hc0 : ec = 0
 · have e0 : ((ec : Int) != 0) = false := by rw [bne_eq_false_iff_eq]; omega
   have e1 : (ec : Int) = 0 := by omega
   have HFx := Lib.hid (HF7.out hc0)
   have HEx := Lib.hid (HE7.out hc0)
   obtain ⟨Z, hZ⟩ : ∃ Z, Z = rowsT R := ⟨_, rfl⟩
   rw [← hZ] at HFx HEx
   clear hc0 hZ
   go_wp2_with fail
   refine (HFx.out w10 HB10.out _ HO10.out).mono ?_
   rintro r w11 ⟨rfl, hb11⟩
   have HB11 := Lib.hid (HB10.out.trans (hb11.mono HB10.out.size))
   have hz := HEx.out
   subst hz
   clear hb11
   have eX : (Z == Z) = true := beq_self_eq_true _
   go_wp2_with fail
   go_ret
   exact ⟨rfl, HB11.out⟩
 · have e0 : ((ec : Int) != 0) = true := by rw [bne_iff_ne]; omega
   have e1 : ¬ (ec : Int) = 0 := by omega
   clear hc0
   go_wp2_with fail
   go_ret
   exact ⟨rfl, HB10.out⟩
end Go.Proofs.YtglnhnjmelilmaaGreatDoor
