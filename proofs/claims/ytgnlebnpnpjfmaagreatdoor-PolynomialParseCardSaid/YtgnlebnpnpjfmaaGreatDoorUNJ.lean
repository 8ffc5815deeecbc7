/- Walks of the reference of numbers: Mul, Power. -/
import Derived.Test.YtgnlebnpnpjfmaaGreatDoorUNI
set_option maxHeartbeats 2000000
set_option maxRecDepth 10000
set_option linter.all false
namespace Go.Proofs.YtgnlebnpnpjfmaaGreatDoor
open Go Go.RowKit Go.Pal
def digsA (l : List Nat) : Array Value := (l.map fun x : Nat => Value.int .i64 (x : Int)).toArray
theorem digsA_get {l : List Nat} {i x : Nat} (h : l[i]? = some x) : (digsA l)[i]? = some (.int .i64 (x : Int)) := by simp [digsA, h]
theorem digsA_set (l : List Nat) (i x : Nat) : (digsA l).setIfInBounds i (.int .i64 (x : Int)) = digsA (l.set i x) := by
 apply Array.ext'
 simp [digsA, Array.toList_setIfInBounds, List.map_set]
theorem digsA_zeros (n : Nat) : Array.replicate n (Value.int .i64 0) = digsA (List.replicate n 0) := by
 apply Array.ext'
 simp [digsA]
theorem digsA_rdn {w : World} {g : Nat} {l : List Nat} {c : Nat} (h : row? w g = some (digsA l)) (hc : l.length ≤ c) : RdN .i64 w (.slice (some ⟨g, 0, none⟩) l.length c) l :=
 ⟨_, c, rfl, hc, .inr ⟨g, 0, rfl, row?_lt h, fun i x hx => by rw [Nat.zero_add, cell?_row h]; exact digsA_get hx, rfl⟩⟩
theorem make_D (n : Nat) (hn : n ≤ 1000000) (W : World) : (Instr.makeSlice 55 (.int .i64 (n : Int)) (.int .i64 (n : Int))).run Tryz.prog W = .ok (.slice (some ⟨W.heap.size, 0, none⟩) n n) (W.alloc (.cells (digsA (List.replicate n 0)) 3)) := by
 rw [run_make1 (P := Tryz.prog) Tryz.underlying55 elD.info rfl n (by show 8 * n ≤ _; omega) (by omega) W]
 show Result.ok _ (World.alloc W (.cells (Array.replicate n (.int .i64 0)) 3)) = _
 rw [digsA_zeros]
theorem dmul_any (m n : Nat) (va vb : Value) (w : World) (ha : RefV w va m) (hb : RefV w vb n) (hm : Fit m) (hn : Fit n) :
   Calls Tryz.prog 70 #[va, vb] w fun e w' => ∃ v', e = .returned v' ∧ RefV w' v' (m * n) ∧ Below w.heap.size w w' := by
 have hlm := refLen hm
 have hln := refLen hn
 have hprod := Lib.hid (mul_digits (b := 10) (by decide) m n)
 obtain ⟨x, hx⟩ : ∃ x, x = digB 10 m := ⟨_, rfl⟩
 obtain ⟨y, hy⟩ : ∃ y, y = digB 10 n := ⟨_, rfl⟩
 have hxo : DigOk 10 x := by rw [hx]; exact digB_ok (by decide) m
 have hyo : DigOk 10 y := by rw [hy]; exact digB_ok (by decide) n
 unfold RefV at ha hb
 rw [← hx] at ha hlm hprod
 rw [← hy] at hb hln hprod
 have hmk := make_D (x.length + y.length) (by omega)
 rw [Int.natCast_add] at hmk
 obtain ⟨W0, hW0⟩ : ∃ W0, w.alloc (.cells (digsA (List.replicate (x.length + y.length) 0)) 3) = W0 := ⟨_, rfl⟩
 have hb0 : Below w.heap.size w W0 := by rw [← hW0]; exact (Below.refl _ _).alloc (Nat.le_refl _) _
 have e3 : row? W0 w.heap.size = some (digsA (mulAll 10 x y 0)) := by rw [← hW0]; simp [go_sem, mulAll]
 have hs0 : W0.heap.size = w.heap.size + 1 := by rw [← hW0]; simp
 obtain ⟨g, hg⟩ : ∃ g, g = w.heap.size := ⟨_, rfl⟩
 have HA := Lib.hid ha
 have HBY := Lib.hid hb
 have HX := Lib.hid hxo
 have HY := Lib.hid hyo
 have HB0 := Lib.hid hb0
 rw [← hg] at e3
 have HE := Lib.hid e3
 have HOUT := Lib.hid fun W (hs : Same (fun k => k ≠ g) W0 W) => show Below w.heap.size w W from hb0.trans (hs.below (by omega) fun j hj => by omega)
 obtain ⟨sa, sc, rfl, -⟩ := ha
 obtain ⟨ta, tc, rfl, -⟩ := hb
 clear hm hn hx hy hxo hyo hb0 e3 hs0
 go_enter Tryz.func70, Tryz.ntmps70
 go_wp2_with fail
 rw [← hg]
 clear hg hmk hW0
 go_loopw [6] (fun i wr => ∃ k : Nat, k ≤ x.length ∧ i = .int .i64 (k : Int) ∧ row? wr g = some (digsA (mulAll 10 x y k)) ∧ Same (fun j => j ≠ g) W0 wr) (fun i _ => x.length - (intOf i).toNat)
 case atStart => exact ⟨0, by omega, rfl, HE.out, Same.refl _ _⟩
 case round =>
   obtain ⟨k, hk, rfl, hr, hs⟩ := hrel
   have HR := Lib.hid hr
   have HSm := Lib.hid hs
   have hb := HOUT.out wr hs
   have hml := mulAll_len 10 x y k
   clear hr hs
   by_cases hlt : k < x.length
   · obtain ⟨b1, o1, c1, X, hsl, -, hX, hc⟩ := HA.out.at hlt
     simp only [Value.slice.injEq] at hsl
     obtain ⟨rfl, -, rfl⟩ := hsl
     have HC1 := Lib.hid hc
     have hXl := HX.out X (List.mem_of_getElem? hX)
     have HXA := Lib.hid (atB_of hX)
     have HKL := Lib.hid hlt
     obtain ⟨P0, hP0⟩ : ∃ P0, P0 = mulAll 10 x y k := ⟨_, rfl⟩
     rw [← hP0] at HR hml
     have HP0 := Lib.hid hP0
     have hinv0 := mulAll_inv (b := 10) (by decide) HX.out HY.out k hk
     rw [← hP0] at hinv0
     have HI0 := Lib.hid hinv0
     clear hc hX hb hP0 hinv0
     go_wp2_with fail
     rename World => Wo
     go_loopw [7, 8] (fun c i wr => ∃ j : Nat, i = .int .i64 (j : Int) ∧ ((j ≤ y.length ∧ c = .int .i64 ((mulK 10 X k y P0 j).2 : Int) ∧ row? wr g = some (digsA (mulK 10 X k y P0 j).1)) ∨ (j = y.length + 1 ∧ c = .int .i64 0 ∧ row? wr g = some (digsA (mulRow 10 X k y P0)))) ∧ Same (fun j => j ≠ g) W0 wr) (fun _ i _ => y.length + 2 - (intOf i).toNat)
     case atStart => exact ⟨0, rfl, .inl ⟨by omega, rfl, HR.out⟩, HSm.out⟩
     case round =>
       obtain ⟨j, rfl, hrow, hs⟩ := hrel
       have HSj := Lib.hid hs
       have hb := HOUT.out wr hs
       have c0 := HC1.out wr hb
       have HAt := Lib.hid (dat_any y _ j wr.drew (HBY.out.below hb.drew))
       rcases hrow with ⟨hj, rfl, hr⟩ | ⟨rfl, rfl, hr⟩
       · have hinv := mulK_inv (b := 10) (i := k) (by decide) hXl HY.out HI0.out.2.1 j (by omega)
         have hkl := mulK_len 10 X k y P0 j
         have HRj := Lib.hid hr
         have hmr : mulRow 10 X k y P0 = (mulK 10 X k y P0 y.length).1.set (k + y.length) (mulK 10 X k y P0 y.length).2 := rfl
         have hmk1 : mulK 10 X k y P0 (j + 1) = ((mulK 10 X k y P0 j).1.set (k + j) ((X * atB y j + atB (mulK 10 X k y P0 j).1 (k + j) + (mulK 10 X k y P0 j).2) % 10), (X * atB y j + atB (mulK 10 X k y P0 j).1 (k + j) + (mulK 10 X k y P0 j).2) / 10) := rfl
         have HMR := Lib.hid hmr
         have HMK := Lib.hid hmk1
         clear hr hs hb hmr hmk1
         obtain ⟨C, hC⟩ : ∃ C, C = (mulK 10 X k y P0 j).2 := ⟨_, rfl⟩
         obtain ⟨O, hO⟩ : ∃ O, O = (mulK 10 X k y P0 j).1 := ⟨_, rfl⟩
         have HCO := Lib.hid (And.intro hC hO)
         rw [← hC] at hinv HMK ⊢
         rw [← hO] at HRj hinv hkl HMK
         obtain ⟨-, hCl, hOo, hOz⟩ := hinv
         have HOO := Lib.hid hOo
         have HOZ := Lib.hid hOz
         have hYl := atB_lt (by decide) HY.out j
         have hZl := atB_lt (by decide) HOO.out (k + j)
         obtain ⟨Y, hY⟩ : ∃ Y, Y = atB y j := ⟨_, rfl⟩
         have hYA := Lib.hid hY
         rw [← hY] at HAt HMK hYl
         obtain ⟨Z, hZ⟩ : ∃ Z, Z = atB O (k + j) := ⟨_, rfl⟩
         have hZA := Lib.hid hZ
         rw [← hZ] at hZl HMK
         obtain ⟨p, hpp⟩ : ∃ p, p = X * Y := ⟨_, rfl⟩
         have hmi : ((X : Int) * (Y : Int)) = (p : Int) := by rw [hpp]; simp
         have hpl := mul_car hXl hYl hZl hCl
         rw [← hpp] at hpl HMK
         have HPP := Lib.hid hpp
         clear hC hO hOo hOz hY hZ hpp
         by_cases hjt : j < y.length
         · have hzg : k + j < O.length := by omega
           have hZg : O[k + j]? = some Z := by rw [List.getElem?_eq_getElem hzg, hZA.out]; simp [atB, List.getElem?_eq_getElem hzg]
           have c3 : wr.cell? ⟨g, k + j, none⟩ = some (.int .i64 (Z : Int)) := (cell?_row HRj.out).trans (digsA_get hZg)
           have c4 : wr.frozen? ⟨g, k + j, none⟩ = false := frozen?_row HRj.out
           obtain ⟨q, hq⟩ : ∃ q, q = (p + Z + C) % 10 := ⟨_, rfl⟩
           obtain ⟨u, hu⟩ : ∃ u, u = (p + Z + C) / 10 := ⟨_, rfl⟩
           rw [← hq, ← hu] at HMK
           have f1 : ((Z : Int) + (p : Int) + (C : Int)).tmod 10 = (q : Int) := by rw [Int.tmod_eq_emod_of_nonneg (by omega)]; omega
           have f2 : ((Z : Int) + (p : Int) + (C : Int)).tdiv 10 = (u : Int) := by rw [Int.tdiv_eq_ediv_of_nonneg (by omega)]; omega
           have f3 : ((Z : Int) + (p : Int) + (C : Int)) % 10 = (q : Int) := by omega
           have f4 : ((Z : Int) + (p : Int) + (C : Int)) / 10 = (u : Int) := by omega
           have HFA := Lib.hid (And.intro hq hu)
           have HCS := Lib.hid (And.intro c0 (And.intro c3 c4))
           have f5 : (k : Int) + (j : Int) < (x.length : Int) + (y.length : Int) := by omega
           have f6 : (0 : Int) ≤ (k : Int) + (j : Int) := by omega
           have f7 : ((k : Int) + (j : Int)).toNat = k + j := by omega
           clear hZg hq hu
           go_wp2_with fail
           refine wp_region_free_tail (fun W => W = wr.drew) 17 (by kernel_rfl) (by kernel_rfl) rfl ?_
           simp only [List.take_succ_cons, List.take_zero, List.drop_succ_cons, List.drop_zero]
           repeat (apply wpFree_still; (intro w hw; subst hw; go_simp; (try go_ints); (first | with_reducible rfl | (go_simp; with_reducible rfl))); with_reducible rfl; (intro K hK; go_simp; (try go_ints); refine hK _ ?_; clear hK K))
           apply wpFree_call
           · intro w hw; go_simp; first | with_reducible rfl | with_reducible exact ⟨rfl, rfl⟩
           · with_reducible rfl
           · intro w hw; subst hw; exact HAt.out
           intro K hK; go_simp; (try go_ints); refine hK _ ?_; clear hK K
           repeat (apply wpFree_still; (intro w hw; subst hw; go_simp; (try go_ints); (first | with_reducible rfl | (go_simp; with_reducible rfl))); with_reducible rfl; (intro K hK; go_simp; (try go_ints); refine hK _ ?_; clear hK K))
           with_reducible refine wpFree_nil ?_
           rintro w' rfl
           go_wp2_with fail
           refine ⟨⟨j + 1, by go_num, .inl ⟨by omega, by rw [HMK.out], ?_⟩, (HSj.out.trans (Same.setCell _ _ _ _ (by simp))).trans (Same.drew _ _)⟩, by simp [intOf]; omega⟩
           rw [row?_drew, row?_setCell_same, HRj.out, HMK.out, ← digsA_set]
           rfl
         · have hjn : j = y.length := by omega
           by_cases hC0 : 0 < C
           · have hC1 : decide ((0 : Int) < (C : Int)) = true := by simpa using hC0
             have HJN := Lib.hid hjn
             clear hjn
             have hzg : k + j < O.length := by omega
             have hZg : O[k + j]? = some Z := by rw [List.getElem?_eq_getElem hzg, hZA.out]; simp [atB, List.getElem?_eq_getElem hzg]
             have c3 : wr.cell? ⟨g, k + j, none⟩ = some (.int .i64 (Z : Int)) := (cell?_row HRj.out).trans (digsA_get hZg)
             have c4 : wr.frozen? ⟨g, k + j, none⟩ = false := frozen?_row HRj.out
             obtain ⟨q, hq⟩ : ∃ q, q = (p + Z + C) % 10 := ⟨_, rfl⟩
             obtain ⟨u, hu⟩ : ∃ u, u = (p + Z + C) / 10 := ⟨_, rfl⟩
             rw [← hq, ← hu] at HMK
             have f1 : ((Z : Int) + (p : Int) + (C : Int)).tmod 10 = (q : Int) := by rw [Int.tmod_eq_emod_of_nonneg (by omega)]; omega
             have f2 : ((Z : Int) + (p : Int) + (C : Int)).tdiv 10 = (u : Int) := by rw [Int.tdiv_eq_ediv_of_nonneg (by omega)]; omega
             have f3 : ((Z : Int) + (p : Int) + (C : Int)) % 10 = (q : Int) := by omega
             have f4 : ((Z : Int) + (p : Int) + (C : Int)) / 10 = (u : Int) := by omega
             have HFA := Lib.hid (And.intro hq hu)
             have HCS := Lib.hid (And.intro c0 (And.intro c3 c4))
             have f5 : (k : Int) + (j : Int) < (x.length : Int) + (y.length : Int) := by omega
             have f6 : (0 : Int) ≤ (k : Int) + (j : Int) := by omega
             have f7 : ((k : Int) + (j : Int)).toNat = k + j := by omega
             clear hZg hq hu
             go_wp2_with fail
             refine wp_region_free_tail (fun W => W = wr.drew) 17 (by kernel_rfl) (by kernel_rfl) rfl ?_
             simp only [List.take_succ_cons, List.take_zero, List.drop_succ_cons, List.drop_zero]
             repeat (apply wpFree_still; (intro w hw; subst hw; go_simp; (try go_ints); (first | with_reducible rfl | (go_simp; with_reducible rfl))); with_reducible rfl; (intro K hK; go_simp; (try go_ints); refine hK _ ?_; clear hK K))
             apply wpFree_call
             · intro w hw; go_simp; first | with_reducible rfl | with_reducible exact ⟨rfl, rfl⟩
             · with_reducible rfl
             · intro w hw; subst hw; exact HAt.out
             intro K hK; go_simp; (try go_ints); refine hK _ ?_; clear hK K
             repeat (apply wpFree_still; (intro w hw; subst hw; go_simp; (try go_ints); (first | with_reducible rfl | (go_simp; with_reducible rfl))); with_reducible rfl; (intro K hK; go_simp; (try go_ints); refine hK _ ?_; clear hK K))
             with_reducible refine wpFree_nil ?_
             rintro w' rfl
             go_wp2_with fail
             have hjn := HJN.out
             have hY0 : Y = 0 := by rw [hYA.out]; exact atB_past (by omega)
             have hZ0 : Z = 0 := by rw [hZA.out, HOZ.out (k + j) (Nat.le_refl _)]; exact HI0.out.2.2 (k + j) (by omega)
             have hp0 : p = 0 := by rw [HPP.out, hY0, Nat.mul_zero]
             obtain ⟨hq1, hu1⟩ := HFA.out
             have hq2 : q = C := by omega
             have hu2 : u = 0 := by omega
             refine ⟨⟨j + 1, by go_num, .inr ⟨by omega, by rw [hu2]; rfl, ?_⟩, (HSj.out.trans (Same.setCell _ _ _ _ (by simp))).trans (Same.drew _ _)⟩, by simp [intOf]; omega⟩
             rw [row?_drew, row?_setCell_same, HRj.out, HMR.out, ← hjn, ← HCO.out.1, ← HCO.out.2, hq2, ← digsA_set]
             rfl
           · have hCz : C = 0 := by omega
             have HZ0 := Lib.hid (show mulRow 10 X k y P0 = O by
               have h1 := HCO.out
               rw [hjn] at h1
               rw [mulRow_none (by omega) ?_ ?_, ← h1.2]
               · rw [← h1.2, HOZ.out (k + y.length) (by omega)]; exact HI0.out.2.2 _ (Nat.le_refl _)
               · rw [← h1.1, hCz])
             subst hCz
             clear c0 hmi
             go_wp2_with fail
             exact ⟨⟨k + 1, by omega, by go_num, by rw [HRj.out, ← HZ0.out, mulAll, HXA.out, ← HP0.out], HSj.out⟩, by simp [intOf]; omega⟩
       · have HRj := Lib.hid hr
         clear hr hs hb c0
         go_wp2_with fail
         exact ⟨⟨k + 1, by omega, by go_num, by rw [HRj.out, mulAll, HXA.out, ← HP0.out], HSj.out⟩, by simp [intOf]; omega⟩
   · have hkn : k = x.length := by omega
     subst hkn
     have hrd := digsA_rdn HR.out (c := x.length + y.length) (by omega)
     rw [hml] at hrd
     have HT := Lib.hid (dtrim_any _ _ wr hrd hprod.out.2 (by omega))
     have HB2 := Lib.hid hb
     clear hrd hb hml
     go_wp2_with fail
     refine HT.out.mono ?_
     rintro r w3 ⟨v3, rfl, hv3, rfl⟩
     rw [hprod.out.1] at hv3
     have HV3 := Lib.hid hv3
     clear hv3
     go_wp2_with fail
     go_ret
     exact ⟨_, rfl, HV3.out, HB2.out⟩
theorem pow_fit {x k n : Nat} (hk : k ≤ n) (h : Fit ((x + 1) ^ n)) : Fit (x ^ k) := h.mono (Nat.le_trans (Nat.pow_le_pow_left (Nat.le_succ x) k) (Nat.pow_le_pow_right (Nat.succ_pos x) hk))
theorem dpower_any (x n : Nat) (v : Value) (w : World) (hv : RefV w v x) (hx : Fit x) (hn : Fit ((x + 1) ^ n)) (hn2 : n ≤ 100000) :
   Calls Tryz.prog 79 #[v, .int .i64 (n : Int)] w fun e w' => ∃ v', e = .returned v' ∧ RefV w' v' (x ^ n) ∧ Below w.heap.size w w' := by
 have HV := Lib.hid hv
 have HX := Lib.hid hx
 have HN := Lib.hid hn
 obtain ⟨a, c, rfl⟩ := refV_sl hv
 obtain ⟨L, hL⟩ : ∃ L, L = (digB 10 x).length := ⟨_, rfl⟩
 rw [← hL] at HV ⊢
 have H1 := Lib.hid (dof_any 1 (by omega) w)
 clear hv hx hn hL
 go_enter Tryz.func79, Tryz.ntmps79
 go_wp2_with fail
 refine H1.out.mono ?_
 rintro r w1 ⟨v1, rfl, hv1, hb1⟩
 have HV1 := Lib.hid hv1
 have HB1 := Lib.hid hb1
 clear hv1 hb1 H1
 go_wp2_with fail
 go_loopw [5, 6] (fun s i wr => ∃ k : Nat, k ≤ n ∧ i = .int .i64 (k : Int) ∧ RefV wr s (x ^ k) ∧ Below w.heap.size w wr) (fun _ i _ => n - (intOf i).toNat)
 case atStart => exact ⟨0, by omega, rfl, HV1.out, HB1.out⟩
 case round =>
   obtain ⟨k, hk, rfl, hv, hb⟩ := hrel
   obtain ⟨a2, c2, rfl⟩ := refV_sl hv
   obtain ⟨M, hM⟩ : ∃ M, M = (digB 10 (x ^ k)).length := ⟨_, rfl⟩
   rw [← hM] at hv ⊢
   have HK := Lib.hid hv
   have HB := Lib.hid hb
   clear hv hb hM
   by_cases hlt : k < n
   · have HMu := Lib.hid (dmul_any (x ^ k) x _ _ wr HK.out (HV.out.below (HB.out)) (pow_fit hk HN.out) HX.out)
     go_wp2_with fail
     refine HMu.out.mono ?_
     rintro r w2 ⟨v2, rfl, hv2, hb2⟩
     have HV2 := Lib.hid hv2
     have HB2 := Lib.hid (HB.out.trans (hb2.mono HB.out.size))
     clear hv2 hb2 HMu
     go_wp2_with fail
     go_roundw
     case rel => exact ⟨k + 1, by omega, by go_num, HV2.out, HB2.out⟩
     case measure => simp [intOf]; omega
   · have hkn : k = n := by omega
     subst hkn
     go_wp2_with fail
     go_ret
     exact ⟨_, rfl, HK.out, HB.out⟩
end Go.Proofs.YtgnlebnpnpjfmaaGreatDoor
