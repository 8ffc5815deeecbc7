/- Walks of the reference of numbers: trim, at, Add, Of. -/
import Derived.Test.YtgnlebnpnpjfmaaGreatDoorUNH
set_option maxHeartbeats 1000000
set_option maxRecDepth 10000
set_option linter.all false
namespace Go.Proofs.YtgnlebnpnpjfmaaGreatDoor
open Go Go.RowKit Go.Pal
theorem dtrim_any (l : List Nat) (v : Value) (w : World) (hv : RdN .i64 w v l) (hok : DigOk 10 l) (hlen : l.length ≤ 1000000) :
   Calls Tryz.prog 94 #[v] w fun e w' => ∃ v', e = .returned v' ∧ RefV w v' (valB 10 l) ∧ w' = w := by
 have HV := Lib.hid hv
 have HO := Lib.hid hok
 obtain ⟨a, c, rfl, hcap, -⟩ := hv
 clear hok
 go_enter Tryz.func94, Tryz.ntmps94
 go_wp2_with fail
 go_loop [0] (fun s => ∃ k : Nat, k ≤ l.length ∧ s = .slice a k c ∧ ∀ x ∈ l.drop k, x = 0) (fun s => slN s)
 case atStart => exact ⟨l.length, Nat.le_refl _, rfl, by simp⟩
 case round =>
   obtain ⟨k, hk, rfl, hz⟩ := hrel
   have HZ := Lib.hid hz
   clear hz
   have hend : (∀ j, k = j + 1 → l[j]? ≠ some 0) → RefV w (.slice a k c) (valB 10 l) := by
     intro ht
     unfold RefV
     rw [← take_digB (by decide) HO.out hk HZ.out ht]
     exact HV.out.take hk
   have HEND := Lib.hid hend
   clear hend
   rcases Nat.eq_zero_or_pos k with h0 | h0
   · subst h0
     go_wp2_with fail
     go_ret
     exact ⟨_, rfl, HEND.out (by omega), rfl⟩
   · obtain ⟨j, rfl⟩ : ∃ j, k = j + 1 := ⟨k - 1, by omega⟩
     obtain ⟨b, off, c', x, hs, -, hx, hc⟩ := HV.out.at (i := j) (by omega)
     simp only [Value.slice.injEq] at hs
     obtain ⟨rfl, -, rfl⟩ := hs
     have c0 := hc w (Below.refl _ _)
     have e1 : ((j + 1 : Nat) : Int) - 1 = (j : Int) := by omega
     have HX := Lib.hid hx
     clear hc hx
     by_cases hx0 : x = 0
     · subst hx0
       go_wp2
       go_round
       case rel =>
         refine ⟨j, by omega, rfl, fun y hy => ?_⟩
         have : l.drop j = 0 :: l.drop (j + 1) := by rw [List.drop_eq_getElem_cons (by omega)]; congr 1; have := HX.out; rw [List.getElem?_eq_getElem (by omega)] at this; simpa using this
         rw [this] at hy
         rcases List.mem_cons.1 hy with rfl | hy
         · rfl
         · exact HZ.out y hy
       case measure => simp [slN]
     · have hx1 : ¬ ((x : Int) = 0) := by omega
       go_wp2_with fail
       go_ret
       refine ⟨_, rfl, HEND.out fun i hi => ?_, rfl⟩
       obtain rfl : j = i := by omega
       rw [HX.out]
       simpa using hx0
theorem dat_any (l : List Nat) (s : Value) (i : Nat) (w : World) (hv : RdN .i64 w s l) :
   Calls Tryz.prog 101 #[s, .int .i64 (i : Int)] w fun e w' => e = .returned (.int .i64 (atB l i : Int)) ∧ w' = w := by
 obtain ⟨X, hX⟩ : ∃ X, X = atB l i := ⟨_, rfl⟩
 rw [← hX]
 by_cases hi : i < l.length
 · obtain ⟨b, off, c, x, rfl, -, hx, hc⟩ := hv.at hi
   have c0 := hc w (Below.refl _ _)
   rw [atB_of hx] at hX
   subst hX
   clear hc hx hv
   go_enter Tryz.func101, Tryz.ntmps101
   go_wp2_with fail
   go_ret
   exact ⟨rfl, rfl⟩
 · obtain ⟨a, c, rfl, -, -⟩ := hv
   rw [atB_past (by omega)] at hX
   subst hX
   go_enter Tryz.func101, Tryz.ntmps101
   go_wp2_with fail
   go_ret
   exact ⟨rfl, rfl⟩
theorem refV_sl {w : World} {v : Value} {n : Nat} (h : RefV w v n) : ∃ a c, v = .slice a (digB 10 n).length c := by
 obtain ⟨a, c, rfl, -⟩ := h
 exact ⟨a, c, rfl⟩
theorem joinB_carry {x y : List Nat} {k : Nat} (h1 : x.length ≤ k) (h2 : y.length ≤ k) (h : (joinB (addF 10 x y) k).2 ≤ 1) : (joinB (addF 10 x y) (k + 1)).2 = 0 := by
 show (atB x k + atB y k + (joinB (addF 10 x y) k).2) / 10 = 0
 rw [atB_past h1, atB_past h2]
 omega
theorem dadd_any (m n : Nat) (va vb : Value) (w : World) (ha : RefV w va m) (hb : RefV w vb n) (hm : Fit m) (hn : Fit n) :
   Calls Tryz.prog 69 #[va, vb] w fun e w' => ∃ v', e = .returned v' ∧ RefV w' v' (m + n) ∧ Below w.heap.size w w' := by
 have hlm := refLen hm
 have hln := refLen hn
 have hvm := valB_digB (b := 10) (by decide) m
 have hvn := valB_digB (b := 10) (by decide) n
 obtain ⟨x, hx⟩ : ∃ x, x = digB 10 m := ⟨_, rfl⟩
 obtain ⟨y, hy⟩ : ∃ y, y = digB 10 n := ⟨_, rfl⟩
 have hxo : DigOk 10 x := by rw [hx]; exact digB_ok (by decide) m
 have hyo : DigOk 10 y := by rw [hy]; exact digB_ok (by decide) n
 unfold RefV at ha hb
 rw [← hx] at ha hlm hvm
 rw [← hy] at hb hln hvn
 have HA := Lib.hid ha
 have HBY := Lib.hid hb
 have HXO := Lib.hid hxo
 have HYO := Lib.hid hyo
 have HVM := Lib.hid (And.intro hvm hvn)
 obtain ⟨sa, sc, rfl, -⟩ := ha
 obtain ⟨ta, tc, rfl, -⟩ := hb
 clear hm hn hx hy hxo hyo hvm hvn
 go_enter Tryz.func69, Tryz.ntmps69
 go_wp2_with fail
 go_loopw [5, 6, 7] (fun s c i wr => ∃ k : Nat, i = .int .i64 (k : Int) ∧ c = .int .i64 ((joinB (addF 10 x y) k).2 : Int) ∧ OwnD w.heap.size wr s (joinB (addF 10 x y) k).1 ∧ Below w.heap.size w wr ∧ (k ≤ max x.length y.length ∨ (k = max x.length y.length + 1 ∧ (joinB (addF 10 x y) k).2 = 0))) (fun _ _ i _ => max x.length y.length + 2 - (intOf i).toNat)
 case atStart => exact ⟨0, rfl, rfl, OwnR.nil _ _, Below.refl _ _, .inl (by omega)⟩
 case round =>
   obtain ⟨k, rfl, rfl, hO, hb, hk⟩ := hrel
   obtain ⟨hinv, hc1, hdk⟩ := addF_inv (b := 10) (by decide) HXO.out HYO.out k
   have hlen := joinB_len (addF 10 x y) k
   have hst : joinB (addF 10 x y) (k + 1) = ((joinB (addF 10 x y) k).1 ++ [(atB x k + atB y k + (joinB (addF 10 x y) k).2) % 10], (atB x k + atB y k + (joinB (addF 10 x y) k).2) / 10) := rfl
   have hcz := fun h1 h2 => joinB_carry (x := x) (y := y) (k := k) h1 h2 hc1
   obtain ⟨L, hL⟩ : ∃ L, L = (joinB (addF 10 x y) k).1 := ⟨_, rfl⟩
   obtain ⟨C, hC⟩ : ∃ C, C = (joinB (addF 10 x y) k).2 := ⟨_, rfl⟩
   rw [← hC, ← hL] at hinv hst
   rw [← hL] at hO hlen hdk
   rw [← hC] at hc1 hk ⊢
   have hHA := Lib.hid fun W (h : Below w.heap.size w W) => dat_any x _ k W (HA.out.below h)
   have hHB := Lib.hid fun W (h : Below w.heap.size w W) => dat_any y _ k W (HBY.out.below h)
   have hXl := atB_lt (by decide) HXO.out k
   have hYl := atB_lt (by decide) HYO.out k
   have hXz := fun h => atB_past (l := x) (i := k) h
   have hYz := fun h => atB_past (l := y) (i := k) h
   obtain ⟨X, hX⟩ : ∃ X, X = atB x k := ⟨_, rfl⟩
   obtain ⟨Y, hY⟩ : ∃ Y, Y = atB y k := ⟨_, rfl⟩
   rw [← hX] at hHA hst hXl hXz
   rw [← hY] at hHB hst hYl hYz
   have HST := Lib.hid hst
   have HO := Lib.hid hO
   have HBW := Lib.hid hb
   have hsz := hb.size
   have HINV := Lib.hid hinv
   have HDK := Lib.hid hdk
   have hcz2 := Lib.hid hcz
   have hL2 := Lib.hid hL
   have hC2 := Lib.hid hC
   have hk2 : k ≤ 11001 := by omega
   have hll : L.length ≤ 11001 := by omega
   have HLEN := Lib.hid hlen
   obtain ⟨oa, oc, rfl⟩ := hO.sl
   clear hst hO hb hinv hX hY hL hC hdk hcz hlen
   by_cases h1 : k < x.length
   · go_wp2_with fail
     refine (hHA.out wr HBW.out).mono ?_
     rintro r w1 ⟨rfl, rfl⟩
     go_wp2_with fail
     refine (hHB.out w1 HBW.out).mono ?_
     rintro r w2 ⟨rfl, rfl⟩
     obtain ⟨q, hq⟩ : ∃ q, q = (X + Y + C) % 10 := ⟨_, rfl⟩
     obtain ⟨p, hp⟩ : ∃ p, p = (X + Y + C) / 10 := ⟨_, rfl⟩
     have f1 : ((X : Int) + (Y : Int) + (C : Int)).tmod 10 = (q : Int) := by rw [Int.tmod_eq_emod_of_nonneg (by omega)]; omega
     have f2 : ((X : Int) + (Y : Int) + (C : Int)).tdiv 10 = (p : Int) := by rw [Int.tdiv_eq_ediv_of_nonneg (by omega)]; omega
     have f3 : ((X : Int) + (Y : Int) + (C : Int)) % 10 = (q : Int) := by omega
     have f4 : ((X : Int) + (Y : Int) + (C : Int)) / 10 = (p : Int) := by omega
     rw [← hq, ← hp] at HST
     clear hHA hHB hq hp
     go_wp2_with (at_builtin; refine wpList_appO elD 55 Tryz.underlying55 rfl _ _ rfl w.heap.size _ L rfl (HO.out.alloc _) _ q _ rfl (row?_alloc_at _ _ _ _ (by simp)) (by omega) (by simp; omega) ?_)
     intro v' w3 hO3 hb3 _ _
     have HO3 := Lib.hid hO3
     have HB3 := Lib.hid ((HBW.out.alloc HBW.out.size _).trans hb3)
     clear hO3 hb3
     go_wp2_with fail
     refine ⟨⟨k + 1, by go_num, by rw [HST.out], by rw [HST.out]; exact HO3.out, HB3.out, .inl (by omega)⟩, by simp [intOf]; omega⟩
   · by_cases h2 : k < y.length
     · go_wp2_with fail
       refine (hHA.out wr HBW.out).mono ?_
       rintro r w1 ⟨rfl, rfl⟩
       go_wp2_with fail
       refine (hHB.out w1 HBW.out).mono ?_
       rintro r w2 ⟨rfl, rfl⟩
       obtain ⟨q, hq⟩ : ∃ q, q = (X + Y + C) % 10 := ⟨_, rfl⟩
       obtain ⟨p, hp⟩ : ∃ p, p = (X + Y + C) / 10 := ⟨_, rfl⟩
       have f1 : ((X : Int) + (Y : Int) + (C : Int)).tmod 10 = (q : Int) := by rw [Int.tmod_eq_emod_of_nonneg (by omega)]; omega
       have f2 : ((X : Int) + (Y : Int) + (C : Int)).tdiv 10 = (p : Int) := by rw [Int.tdiv_eq_ediv_of_nonneg (by omega)]; omega
       have f3 : ((X : Int) + (Y : Int) + (C : Int)) % 10 = (q : Int) := by omega
       have f4 : ((X : Int) + (Y : Int) + (C : Int)) / 10 = (p : Int) := by omega
       rw [← hq, ← hp] at HST
       clear hHA hHB hq hp
       go_wp2_with (at_builtin; refine wpList_appO elD 55 Tryz.underlying55 rfl _ _ rfl w.heap.size _ L rfl (HO.out.alloc _) _ q _ rfl (row?_alloc_at _ _ _ _ (by simp)) (by omega) (by simp; omega) ?_)
       intro v' w3 hO3 hb3 _ _
       have HO3 := Lib.hid hO3
       have HB3 := Lib.hid ((HBW.out.alloc HBW.out.size _).trans hb3)
       clear hO3 hb3
       go_wp2_with fail
       refine ⟨⟨k + 1, by go_num, by rw [HST.out], by rw [HST.out]; exact HO3.out, HB3.out, .inl (by omega)⟩, by simp [intOf]; omega⟩
     · by_cases h3 : 0 < C
       · go_wp2_with fail
         refine (hHA.out wr HBW.out).mono ?_
         rintro r w1 ⟨rfl, rfl⟩
         go_wp2_with fail
         refine (hHB.out w1 HBW.out).mono ?_
         rintro r w2 ⟨rfl, rfl⟩
         obtain ⟨q, hq⟩ : ∃ q, q = (X + Y + C) % 10 := ⟨_, rfl⟩
         obtain ⟨p, hp⟩ : ∃ p, p = (X + Y + C) / 10 := ⟨_, rfl⟩
         have f1 : ((X : Int) + (Y : Int) + (C : Int)).tmod 10 = (q : Int) := by rw [Int.tmod_eq_emod_of_nonneg (by omega)]; omega
         have f2 : ((X : Int) + (Y : Int) + (C : Int)).tdiv 10 = (p : Int) := by rw [Int.tdiv_eq_ediv_of_nonneg (by omega)]; omega
         have f3 : ((X : Int) + (Y : Int) + (C : Int)) % 10 = (q : Int) := by omega
         have f4 : ((X : Int) + (Y : Int) + (C : Int)) / 10 = (p : Int) := by omega
         rw [← hq, ← hp] at HST
         clear hHA hHB hq hp
         go_wp2_with (at_builtin; refine wpList_appO elD 55 Tryz.underlying55 rfl _ _ rfl w.heap.size _ L rfl (HO.out.alloc _) _ q _ rfl (row?_alloc_at _ _ _ _ (by simp)) (by omega) (by simp; omega) ?_)
         intro v' w3 hO3 hb3 _ _
         have HO3 := Lib.hid hO3
         have HB3 := Lib.hid ((HBW.out.alloc HBW.out.size _).trans hb3)
         clear hO3 hb3
         go_wp2_with fail
         refine ⟨⟨k + 1, by go_num, by rw [HST.out], by rw [HST.out]; exact HO3.out, HB3.out, .inr ⟨by omega, hcz2.out (by omega) (by omega)⟩⟩, by simp [intOf]; omega⟩
       · have hC0 : C = 0 := by omega
         subst hC0
         have hval : valB 10 L = m + n := by
           have h := HINV.out
           rw [Nat.mul_zero, Nat.add_zero, valB_take_all (by omega), valB_take_all (by omega), HVM.out.1, HVM.out.2] at h
           exact h
         have HVAL := Lib.hid hval
         clear hval
         go_wp2_with fail
         refine (dtrim_any L _ wr (own_rdn elD HO.out (by omega)) HDK.out (by omega)).mono ?_
         rintro r w3 ⟨v3, rfl, hv3, rfl⟩
         rw [HVAL.out] at hv3
         have HV3 := Lib.hid hv3
         clear hv3
         go_wp2_with fail
         go_ret
         exact ⟨_, rfl, HV3.out, HBW.out⟩
theorem dof_any (n : Nat) (hn : n < 18446744073709551616) (w : World) :
   Calls Tryz.prog 30 #[.int .u64 (n : Int)] w fun e w' => ∃ v', e = .returned v' ∧ RefV w' v' n ∧ Below w.heap.size w w' := by
 go_enter Tryz.func30, Tryz.ntmps30
 go_wp2_with fail
 go_loopw [0, 3] (fun s o wr => ∃ (k : Nat) (l : List Nat), s = .int .u64 (k : Int) ∧ k ≤ n ∧ OwnD w.heap.size wr o l ∧ Below w.heap.size w wr ∧ digB 10 n = l ++ digB 10 k ∧ (k = 0 ∨ l.length + (digB 10 k).length ≤ 20)) (fun s _ _ => (intOf s).toNat)
 case atStart => exact ⟨n, [], rfl, Nat.le_refl _, OwnR.nil _ _, Below.refl _ _, rfl, .inr (by have := digB_len (b := 10) (k := 20) (by decide) (show n < 10 ^ 20 by omega); simpa using this)⟩
 case round =>
   obtain ⟨k, l, rfl, hkn, hO, hb, hd, hl⟩ := hrel
   have hsz := hb.size
   obtain ⟨oa, oc, rfl⟩ := hO.sl
   have HO := Lib.hid hO
   have HB := Lib.hid hb
   have HD := Lib.hid hd
   clear hO hb hd
   rcases Nat.eq_zero_or_pos k with h0 | h0
   · subst h0
     have hll : l.length ≤ 4000000 := by
       have h := congrArg List.length HD.out
       rw [digB_zero, List.append_nil] at h
       have := digB_len (b := 10) (k := 20) (by decide) (show n < 10 ^ 20 by omega)
       omega
     clear hl
     go_wp2_with fail
     go_ret
     refine ⟨_, rfl, ?_, HB.out⟩
     unfold RefV
     rw [HD.out, digB_zero, List.append_nil]
     exact own_rdn elD HO.out hll
   · have hd1 := digB_pos (b := 10) (by decide) h0
     have hl2 : l.length + ((digB 10 (k / 10)).length + 1) ≤ 20 := by
       rcases hl with h | h
       · omega
       · rw [hd1, List.length_cons] at h; exact h
     have HD1 := Lib.hid hd1
     obtain ⟨q, hq⟩ : ∃ q, q = k % 10 := ⟨_, rfl⟩
     obtain ⟨p, hp⟩ : ∃ p, p = k / 10 := ⟨_, rfl⟩
     have f1 : (k : Int).tmod 10 = (q : Int) := by rw [Int.tmod_eq_emod_of_nonneg (by omega)]; omega
     have f2 : (k : Int).tdiv 10 = (p : Int) := by rw [Int.tdiv_eq_ediv_of_nonneg (by omega)]; omega
     have f3 : (k : Int) % 10 = (q : Int) := by omega
     have f4 : (k : Int) / 10 = (p : Int) := by omega
     rw [← hq, ← hp] at HD1
     rw [← hp] at hl2
     have hpk : p < k := by omega
     have hq10 : q < 10 := by omega
     have hll : l.length ≤ 20 := by omega
     clear hl hd1 hq hp
     go_wp2_with (at_builtin; refine wpList_appO elD 55 Tryz.underlying55 rfl _ _ rfl w.heap.size _ l rfl (HO.out.alloc _) _ q _ rfl (row?_alloc_at _ _ _ _ (by simp)) (by omega) (by simp; omega) ?_)
     intro v' w3 hO3 hb3 _ _
     have HO3 := Lib.hid hO3
     have HB3 := Lib.hid ((HB.out.alloc HB.out.size _).trans hb3)
     clear hO3 hb3
     go_wp2_with fail
     go_roundw
     case rel => exact ⟨p, l ++ [q], rfl, by omega, HO3.out, HB3.out, by rw [HD.out, HD1.out]; simp, .inr (by simp; omega)⟩
     case measure => simp [intOf]; omega
end Go.Proofs.YtgnlebnpnpjfmaaGreatDoor
