/- Contracts of bitset Of, SubsetOf, Has, Below. A range over a function whose variable is .. -/
import Derived.Test.YteiibpfabgfolaaGreatDoorVR1g
import Derived.Test.YteiibpfabgfolaaGreatDoorVSets
import Derived.Lib.MinMax
import Derived.Test.YteiibpfabgfolaaGreatDoorVRoR
set_option maxHeartbeats 1000000
set_option maxRecDepth 10000
set_option linter.all false
namespace Go.Pal
open Go
def insR (S : Nat) (n : Int) : Nat := if 0 ≤ n ∧ n < 1024 then sIns S n.toNat else S
def ofTo (l : List Int) (k : Nat) : Nat := (l.take k).foldl insR 0
theorem ofTo_succ {l : List Int} {k : Nat} {x : Int} (h : l[k]? = some x) : ofTo l (k + 1) = insR (ofTo l k) x := by
 unfold ofTo
 rw [List.take_add_one, h, List.foldl_append]
 rfl
def belS (n : Nat) : Nat := 2 ^ n - 1
theorem belS_bit (n i : Nat) : (belS n).testBit i = decide (i < n) := by unfold belS; exact Nat.testBit_two_pow_sub_one n i
theorem wd_belS_lo {n i : Nat} (h : n ≤ 64 * i) : wd (belS n) i = 0 := by
 symm
 refine wd_eq_of_testBit (by decide) fun j hj => ?_
 rw [belS_bit, Nat.zero_testBit]
 simp
 omega
theorem wd_belS_hi {n i : Nat} (h : 64 * i + 64 ≤ n) : wd (belS n) i = 18446744073709551615 := by
 symm
 refine wd_eq_of_testBit (by decide) fun j hj => ?_
 rw [belS_bit, show (18446744073709551615 : Nat) = 2 ^ 64 - 1 from rfl, Nat.testBit_two_pow_sub_one]
 simp
 omega
theorem wd_belS_mid {n i : Nat} (h : 64 * i ≤ n) (h2 : n < 64 * i + 64) : wd (belS n) i = 2 ^ (n - 64 * i) - 1 := by
 symm
 refine wd_eq_of_testBit ?_ fun j hj => ?_
 · have : 2 ^ (n - 64 * i) ≤ 2 ^ 63 := Nat.pow_le_pow_right (by decide) (by omega)
   have : (2 : Nat) ^ 63 = 9223372036854775808 := rfl
   omega
 · rw [belS_bit, Nat.testBit_two_pow_sub_one]
   simp
   omega
theorem wd_belS (n k : Nat) : IntKind.u64.wrap (IntKind.u64.wrap ((2 : Int) ^ min (n - 64 * k) 64) - 1) = (wd (belS (min n (64 * (k + 1)))) k : Int) := by
 rw [IntKind.wrap_u64, IntKind.wrap_u64]
 by_cases h : 64 * k + 64 ≤ n
 · rw [wd_belS_hi (by omega), show min (n - 64 * k) 64 = 64 by omega]
   rfl
 · rw [show min n (64 * (k + 1)) = n by omega, show min (n - 64 * k) 64 = n - 64 * k by omega]
   have e : (2 : Int) ^ (n - 64 * k) = ((2 ^ (n - 64 * k) : Nat) : Int) := by simp
   have h1 : 2 ^ (n - 64 * k) ≤ 2 ^ 63 := Nat.pow_le_pow_right (by decide) (by omega)
   have h2 : (2 : Nat) ^ 63 = 9223372036854775808 := rfl
   have h3 : 0 < 2 ^ (n - 64 * k) := Nat.two_pow_pos _
   rw [e]
   by_cases h0 : n ≤ 64 * k
   · rw [wd_belS_lo h0, show n - 64 * k = 0 by omega]
     rfl
   · rw [wd_belS_mid (by omega) (by omega)]
     generalize 2 ^ (n - 64 * k) = x at *
     omega
theorem bitN_testBit (n j : Nat) : (bitN n).testBit j = decide (n % 64 = j) := by unfold bitN; rw [Nat.testBit_two_pow]
theorem bitN_and (S n : Nat) (h : n < 1024) : decide ((wd S (n / 64) &&& bitN n) ≠ 0) = S.testBit n := by
 have h1 : (wd S (n / 64)).testBit (n % 64) = S.testBit n := by
   rw [wd_testBit, decide_eq_true (Nat.mod_lt _ (by decide)), Bool.true_and]
   congr 1
   omega
 have h2 : ∀ j, (wd S (n / 64) &&& bitN n).testBit j = (decide (j = n % 64) && S.testBit n) := by
   intro j
   rw [Nat.testBit_and, bitN_testBit]
   by_cases hj : j = n % 64
   · subst hj
     rw [h1]
     simp
   · have hj2 : ¬ n % 64 = j := fun e => hj e.symm
     simp [hj, hj2]
 cases hb : S.testBit n with
 | false =>
   have : wd S (n / 64) &&& bitN n = 0 := by
     apply Nat.eq_of_testBit_eq
     intro j
     rw [h2, hb]
     simp
   rw [this]
   rfl
 | true =>
   rw [decide_eq_true_iff]
   intro e
   have := h2 (n % 64)
   rw [e, hb] at this
   simp at this
end Go.Pal
namespace Go.Proofs.YteiibpfabgfolaaGreatDoor
open Go Go.RowKit Go.Pal
theorem with_any (S : Nat) (n : Int) (w : World) : Calls Tryz.prog 39 #[.agg (words S), .int .i64 n] w fun e w' => e = .returned (.agg (words (insR S n))) ∧ Below w.heap.size w w' := by
 unfold insR
 by_cases h : 0 ≤ n ∧ n < 1024
 · rw [if_pos h]
   obtain ⟨m, rfl⟩ : ∃ m : Nat, n = (m : Int) := ⟨n.toNat, by omega⟩
   rw [Int.toNat_natCast]
   exact with_in S m w (by omega)
 · rw [if_neg h]
   exact with_out S n w h
theorem of_any (l : List Int) (v : Value) (w : World) (hv : RdL w v l) (hlen : l.length ≤ 1000000) : Calls Tryz.prog 17 #[v] w fun e w' => e = .returned (.agg (words (ofTo l l.length))) ∧ Below w.heap.size w w' := by
 have HV := Lib.hid hv
 obtain ⟨a, c, rfl, -⟩ := hv
 go_enter Tryz.func17, Tryz.ntmps17
 go_wp2_with fail
 generalize hW0 : World.alloc (World.alloc w _) _ = W0
 have hB0 : Below w.heap.size w W0 := by
   rw [← hW0]
   (repeat' (first | (with_reducible first | exact Below.refl _ _ | assumption | refine Below.alloc ?_ ?_ _ | refine Below.drew ?_ | refine Below.setCell ?_ ?_ _ | refine below_setRow ?_ ?_ _ | exact Nat.le_refl _) | omega | (simp; done) | (simp; omega) | (simp at *; omega)))
 have hr1 : row? W0 (w.heap.size + 1) = some (words 0) := by rw [← hW0]; exact row?_alloc_at _ _ _ _ (by simp)
 have hr0 : row? W0 w.heap.size = some (words 0) := by rw [← hW0]; exact (row?_alloc_past _ _ _ (by simp)).trans (row?_alloc_at _ _ _ _ rfl)
 have HR1 := Lib.hid hr1
 have HR0 := Lib.hid hr0
 have HB0 := Lib.hid hB0
 have hl0 := row?_lt hr1
 clear hW0 hr1 hr0 hB0
 go_loopw [8] (fun i wr => ∃ k : Nat, k ≤ l.length ∧ i = .int .i64 (k : Int) ∧ row? wr (w.heap.size + 1) = some (words (ofTo l k)) ∧ Same (fun j => j ≠ w.heap.size + 1) W0 wr) (fun i _ => l.length - (intOf i).toNat)
 case atStart => exact ⟨0, by omega, rfl, HR1.out, Same.refl _ _⟩
 case round =>
   obtain ⟨k, hk, rfl, hr, hS⟩ := hrel
   have hsz := hS.size
   by_cases hlt : k < l.length
   · obtain ⟨b, off, c', z, hv, hz, hc⟩ := HV.out.at hlt
     simp only [Value.slice.injEq] at hv
     obtain ⟨rfl, -, rfl⟩ := hv
     have hbw : Below w.heap.size w wr := HB0.out.trans (hS.below HB0.out.size fun j hj => by omega)
     have hcell := hc wr hbw
     have hst := ofTo_succ hz
     have HST := Lib.hid hst
     have HS := Lib.hid hS
     have hl1 := row?_lt hr
     clear hS hc hz hst hbw
     go_wp2_with fail
     refine (with_any _ z _).mono ?_
     rintro r w5 ⟨rfl, hb5⟩
     have hr5 := (row?_below hb5 (by omega)).trans hr
     have HS5 := Lib.hid (HS.out.trans ((Same.of_below hb5).mono fun j hj _ => hj))
     clear hr hb5 HS
     go_wp2_with fail
     go_roundw
     case rel =>
       refine ⟨k + 1, by omega, by go_num, ?_, HS5.out.trans (Same.setRow _ _ _ _ (by simp))⟩
       rw [row?_setRow_same _ _ _ (by rw [hr5]; rfl), HST.out]
     case measure => simp [intOf]; omega
   · have hkn : k = l.length := by omega
     subst hkn
     have hr0 := (row?_congr (hS.block w.heap.size (by omega) (by omega))).trans HR0.out
     have HS := Lib.hid hS
     clear hS
     go_wp2_with fail
     refine ret_row w.heap.size (words (ofTo l l.length)) rfl Tryz.isAgg51 Tryz.sizeOf51 rfl rfl (row?_setRow_same _ _ _ (by rw [hr0]; rfl)) (by simp only [words_size]) ⟨rfl, ?_⟩
     exact below_setRow (HB0.out.trans (HS.out.below HB0.out.size fun j hj => by omega)) (Nat.le_refl _) _
theorem subsetOf_any (S T : Nat) (hS : IsSet S) (w : World) : Calls Tryz.prog 47 #[.agg (words S), .agg (words T)] w fun e w' => e = .returned (.bool (decide (sDiff S T = 0))) ∧ Below w.heap.size w w' := by
 have hD : IsSet (sDiff S T) := fun n h => by
   unfold sDiff at h
   rw [Nat.testBit_xor, Nat.testBit_and] at h
   cases hb : S.testBit n with
   | true => exact hS n hb
   | false => rw [hb] at h; simp at h
 have HD := Lib.hid hD
 have H1 := Lib.hid fun W => minus_any S T W
 obtain ⟨D, hDD⟩ : ∃ D, D = sDiff S T := ⟨_, rfl⟩
 rw [← hDD] at H1 HD ⊢
 clear hD hS hDD
 go_enter Tryz.func47, Tryz.ntmps47
 go_wp2_with fail
 refine (H1.out _).mono ?_
 rintro e w1 ⟨rfl, hb1⟩
 have HB1 := Lib.hid ((((Below.refl _ w).alloc (Nat.le_refl _) (.cells (words S) 51)).alloc (by simp) (.cells (words T) 51)).trans (hb1.mono (by simp; omega)))
 clear hb1
 go_wp2_with fail
 refine (isEmpty_any D HD.out w1).mono ?_
 rintro e w2 ⟨rfl, hb2⟩
 have HB2 := Lib.hid (HB1.out.trans (hb2.mono HB1.out.size))
 clear hb2
 go_wp2_with fail
 go_ret
 exact ⟨rfl, HB2.out⟩
theorem has_any (S : Nat) (n : Int) (w : World) : Calls Tryz.prog 51 #[.agg (words S), .int .i64 n] w fun e w' => e = .returned (.bool (decide (0 ≤ n ∧ n < 1024) && S.testBit n.toNat)) ∧ Below w.heap.size w w' := by
 by_cases h : 0 ≤ n ∧ n < 1024
 · obtain ⟨m, rfl⟩ : ∃ m : Nat, n = (m : Int) := ⟨n.toNat, by omega⟩
   have hm : m < 1024 := by omega
   have hw := words_get S (i := m / 64) (by omega)
   have hl : (m : Int) / 64 < 16 := by omega
   have hl0 : 0 ≤ (m : Int) / 64 := by omega
   have hd : (decide ((0 : Int) ≤ m) && decide ((m : Int) < 1024)) = true := by simp; omega
   have ha := bits_and_word (wd S (m / 64)) (bitN m) (wd_lt _ _) (bitN_lt m)
   have hb := bitN_and S m hm
   go_enter Tryz.func51, Tryz.ntmps51
   go_wp2_with fail
   generalize hW0 : World.alloc w _ = W0
   have hr0 : row? W0 w.heap.size = some (words S) := by rw [← hW0]; exact row?_alloc_at _ _ _ _ rfl
   have hB0 : Below w.heap.size w W0 := by rw [← hW0]; exact (Below.refl _ w).alloc (Nat.le_refl _) _
   have hc := cell?_row (i := m / 64) hr0
   rw [hw] at hc
   have hq : ((m : Int) / 64).toNat = m / 64 := by omega
   have HB0 := Lib.hid hB0
   have HBT := Lib.hid hb
   clear hW0 hr0 hB0 hw hb
   refine wp_region_free_tail (fun w' => w' = W0.drew) 12 (by kernel_rfl) (by kernel_rfl) rfl ?_
   simp only [List.take_succ_cons, List.take_zero, List.drop_succ_cons, List.drop_zero]
   repeat ((first | apply wpFree_still (hg := rfl) | apply wpFree_stillG rfl); (intro w hw; subst hw; go_simp; (try go_ints); (first | with_reducible rfl | (go_simp; with_reducible rfl))); (intro K hK; go_simp; (try go_ints); refine hK _ ?_; clear hK K))
   apply wpFree_call
   · intro w hw; go_simp; first | with_reducible rfl | with_reducible exact ⟨rfl, rfl⟩
   · with_reducible rfl
   · intro w hw; subst hw; refine (fits_any _ _).mono ?_; rw [hd]; rintro e w' ⟨rfl, rfl⟩; exact ⟨rfl, rfl⟩
   intro K hK; go_simp; (try go_ints); refine hK _ ?_; clear hK K
   repeat ((first | apply wpFree_still (hg := rfl) | apply wpFree_stillG rfl); (intro w hw; subst hw; go_simp; (try go_ints); (first | with_reducible rfl | (go_simp; with_reducible rfl))); (intro K hK; go_simp; (try go_ints); refine hK _ ?_; clear hK K))
   apply wpFree_callG rfl
   · intro w hw; go_simp; first | with_reducible rfl | with_reducible exact ⟨rfl, rfl⟩
   · intro w hw; subst hw; refine (bit_any _ _ (by omega) (by omega)).mono ?_; rintro e w' ⟨rfl, rfl⟩; exact ⟨rfl, rfl⟩
   intro K hK; go_simp; (try go_ints); refine hK _ ?_; clear hK K
   repeat ((first | apply wpFree_still (hg := rfl) | apply wpFree_stillG rfl); (intro w hw; subst hw; go_simp; (try go_ints); (first | with_reducible rfl | (go_simp; with_reducible rfl))); (intro K hK; go_simp; (try go_ints); refine hK _ ?_; clear hK K))
   with_reducible refine wpFree_nil ?_
   rintro w' rfl
   go_wp2_with fail
   go_ret
   refine ⟨?_, HB0.out.drew⟩
   rw [Int.toNat_natCast, ← HBT.out]
   refine congrArg Ending.returned (congrArg Value.bool ?_)
   rw [Bool.eq_iff_iff]
   simp
   omega
 · have hd : (decide ((0 : Int) ≤ n) && decide ((n : Int) < 1024)) = false := by simp; omega
   go_enter Tryz.func51, Tryz.ntmps51
   go_wp2_with fail
   generalize hW0 : World.alloc w _ = W0
   have hB0 : Below w.heap.size w W0 := by rw [← hW0]; exact (Below.refl _ w).alloc (Nat.le_refl _) _
   have HB0 := Lib.hid hB0
   clear hW0 hB0
   refine wp_region_free_tail (fun w' => w' = W0.drew) 12 (by kernel_rfl) (by kernel_rfl) rfl ?_
   simp only [List.take_succ_cons, List.take_zero, List.drop_succ_cons, List.drop_zero]
   repeat ((first | apply wpFree_still (hg := rfl) | apply wpFree_stillG rfl); (intro w hw; subst hw; go_simp; (try go_ints); (first | with_reducible rfl | (go_simp; with_reducible rfl))); (intro K hK; go_simp; (try go_ints); refine hK _ ?_; clear hK K))
   apply wpFree_call
   · intro w hw; go_simp; first | with_reducible rfl | with_reducible exact ⟨rfl, rfl⟩
   · with_reducible rfl
   · intro w hw; subst hw; refine (fits_any _ _).mono ?_; rw [hd]; rintro e w' ⟨rfl, rfl⟩; exact ⟨rfl, rfl⟩
   intro K hK; go_simp; (try go_ints); refine hK _ ?_; clear hK K
   repeat (first | (apply wpFree_skip rfl; (intro K hK; go_simp; (try go_ints); refine hK _ ?_; clear hK K)) | (apply wpFree_still; (intro w hw; subst hw; go_simp; (try go_ints); (first | with_reducible rfl | (go_simp; with_reducible rfl))); with_reducible rfl; (intro K hK; go_simp; (try go_ints); refine hK _ ?_; clear hK K)))
   with_reducible refine wpFree_nil ?_
   rintro w' rfl
   go_wp2_with fail
   go_ret
   exact ⟨by simp [h], HB0.out.drew⟩
theorem belowS_any (n : Nat) (w : World) (hn : n ≤ 1024) : Calls Tryz.prog 120 #[.int .i64 (n : Int)] w fun e w' => e = .returned (.agg (words (belS n))) ∧ Below w.heap.size w w' := by
 have hm : (min (n : Int) 1024) = (n : Int) := by omega
 have hm2 : max (0 : Int) (n : Int) = (n : Int) := by omega
 go_enter Tryz.func120, Tryz.ntmps120
 go_wp2_with fail
 generalize hW0 : World.alloc (World.alloc w _) _ = W0
 have hB0 : Below w.heap.size w W0 := by
   rw [← hW0]
   (repeat' (first | (with_reducible first | exact Below.refl _ _ | assumption | refine Below.alloc ?_ ?_ _ | refine Below.drew ?_ | refine Below.setCell ?_ ?_ _ | refine below_setRow ?_ ?_ _ | exact Nat.le_refl _) | omega | (simp; done) | (simp; omega) | (simp at *; omega)))
 have hr1 : row? W0 (w.heap.size + 1) = some (words (belS 0)) := by rw [← hW0]; exact row?_alloc_at _ _ _ _ (by simp)
 have hr0 : row? W0 w.heap.size = some (words 0) := by rw [← hW0]; exact (row?_alloc_past _ _ _ (by simp)).trans (row?_alloc_at _ _ _ _ rfl)
 have HR1 := Lib.hid hr1
 have HR0 := Lib.hid hr0
 have HB0 := Lib.hid hB0
 have hl0 := row?_lt hr1
 clear hW0 hr1 hr0 hB0 hm hm2
 go_loopw [8] (fun i wr => ∃ k : Nat, k ≤ 16 ∧ i = .int .i64 (k : Int) ∧ row? wr (w.heap.size + 1) = some (words (belS (min n (64 * k)))) ∧ Same (fun j => j ≠ w.heap.size + 1) W0 wr) (fun i _ => 16 - (intOf i).toNat)
 case atStart => exact ⟨0, by omega, rfl, by simpa using HR1.out, Same.refl _ _⟩
 case round =>
   obtain ⟨k, hk, rfl, hr, hS⟩ := hrel
   have hsz := hS.size
   have hl1 := row?_lt hr
   have hfz := frozen?_row (i := k) hr
   by_cases hlt : k < 16
   · have hcell := cell?_row (i := k) hr
     rw [words_get _ hlt] at hcell
     obtain ⟨c, hc⟩ : ∃ c : Nat, c = min (n - 64 * k) 64 := ⟨_, rfl⟩
     have hcut : max (0 : Int) (min ((n : Int) - 64 * (k : Int)) 64) = (c : Int) := by omega
     have hc64 : c ≤ 64 := by omega
     have HS := Lib.hid hS
     have HR := Lib.hid hr
     clear hS hr
     go_wp2_with fail
     obtain ⟨x, hx⟩ : ∃ x, x = IntKind.u64.wrap (IntKind.u64.wrap ((2 : Int) ^ min (n - 64 * k) 64) - 1) := ⟨_, rfl⟩
     rw [← hx]
     rw [wd_belS] at hx
     have HX := Lib.hid hx
     clear hx
     go_roundw
     case rel =>
       refine ⟨k + 1, by omega, by go_num, ?_, HS.out.trans (Same.setCell _ _ _ _ (by simp))⟩
       rw [row?_setCell_same, HR.out, Option.map_some, HX.out]
       refine congrArg some (words_set hlt rfl fun j hj hne => ?_)
       by_cases h1 : j < k
       · by_cases h2 : 64 * j + 64 ≤ n
         · rw [wd_belS_hi (by omega), wd_belS_hi (by omega)]
         · rw [show min n (64 * k) = n by omega, show min n (64 * (k + 1)) = n by omega]
       · rw [wd_belS_lo (by omega), wd_belS_lo (by omega)]
     case measure => simp [intOf]; omega
   · have hkn : k = 16 := by omega
     subst hkn
     have hr0 := (row?_congr (hS.block w.heap.size (by omega) (by omega))).trans HR0.out
     have HS := Lib.hid hS
     have HR := Lib.hid hr
     rw [show min n (64 * 16) = n by omega] at hr
     clear hS
     go_wp2_with fail
     refine ret_row w.heap.size (words (belS n)) rfl Tryz.isAgg51 Tryz.sizeOf51 rfl rfl (row?_setRow_same _ _ _ (by rw [hr0]; rfl)) (by simp only [words_size]) ⟨rfl, ?_⟩
     exact below_setRow (HB0.out.trans (HS.out.below HB0.out.size fun j hj => by omega)) (Nat.le_refl _) _
end Go.Proofs.YteiibpfabgfolaaGreatDoor
namespace Go.Pal
open Go Go.RowKit
section
variable {P : Program}
theorem wpIn_rangeB {α : Type} {g : Operand} {ps : Array Tmp} {assign body : Code} {Q : Exit → Act → World → Prop} {a : Act} {w : World} (gT : Nat)
   {gf : Nat} {lb : Array Value} (hg : a.eval g = .func (.func gf) #[] lb) (eg : ∀ args w, (callFunc gf args).run P w = .ok (.enter gf args) w)
   {enc : α → Value} {xs : List α} (hps : ps.size = 1) (hgT : gT < w.heap.size)
   (hit : ∀ W, Below w.heap.size w W → w.heap.size + 2 ≤ W.heap.size → Iterates P gT gf lb enc xs W)
   (I : Nat → List α → World → Prop)
   (hI : ∀ M pre W W', w.heap.size ≤ M → M ≤ W.heap.size → I M pre W → Same (fun k => k < w.heap.size ∨ M ≤ k) W W' → I M pre W')
   (h0 : ∀ M W, w.heap.size ≤ M → M ≤ W.heap.size → Below w.heap.size w W → I M [] W)
   (Ax : Nat → α → Act → World → Prop) (hAx : ∀ M x a' W W', w.heap.size ≤ M → Ax M x a' W → Same (fun k => k < w.heap.size ∨ M ≤ k) W W' → Ax M x a' W')
   (hassign : ∀ (l M : Nat) (pre : List α) (x : α) (W : World) (K : Act → World → Prop), w.heap.size + 2 ≤ M → M ≤ W.heap.size → I M pre W → (∀ a' W', Below W.heap.size W W' → Ax M x a' W' → K a' W') →
     assign.wpIn (Fence.wide.inRound l) 0 P (Exit.then K (fun _ _ _ => False)) { tmps := (ps.zip #[enc x]).foldl (fun t (p, v) => t.setIfInBounds p v) a.tmps, defers := [] } W)
   (hbody : ∀ (l M : Nat) (pre : List α) (x : α) (a' : Act) (W : World), w.heap.size + 2 ≤ M → M ≤ W.heap.size → w.heap.size ≤ l → l < M → (∃ r, W.heap[l]? = some (.loop r)) → I M pre W → Ax M x a' W → (∃ r, xs = pre ++ x :: r) →
     body.wpIn (Fence.wide.inRound l) 0 P (fun e _ W' => match e with
       | .normal => I M (pre ++ [x]) W' ∧ Same (fun k => k = gT ∨ (w.heap.size ≤ k ∧ k < M)) W W'
       | _ => False) a' W)
   (hdone : ∀ (D M : Nat) (W : World), w.heap.size ≤ D → D < M → M ≤ W.heap.size → I M xs W → W.heap[D]? = some (.deferred (some [])) → Q .normal { a with defers := { target := .collected D, args := #[] } :: a.defers } W) :
   (Code.rangeFunc g ps assign body).wpIn Fence.wide 0 P Q a w := by
 refine wpIn_rangeFunc ?_
 intro fn hfn
 show ∃ (l : Nat) (mark : List Deferred) (w₁ : World) (d : Deferred) (w₁' : World) (f : FuncId) (args : Array Value) (w₂ : World), (Instr.enterLoop fn a.tmps ps assign body none).run P w = .ok (l, mark) w₁ ∧ _
 obtain ⟨rec, hrec⟩ : ∃ rec : LoopState → Option Code → Loop, rec = fun st pe => { state := st, pending := pe, fn, tmps := a.tmps, params := ps, assign, body, defers := w.heap.size } := ⟨_, rfl⟩
 obtain ⟨W1, hW1⟩ : ∃ W1, (w.alloc (.deferred (some []))).alloc (.loop (rec .ready none)) = W1 := ⟨_, rfl⟩
 have hs1 : W1.heap.size = w.heap.size + 2 := by rw [← hW1]; simp
 have hL1 : W1.heap[w.heap.size + 1]? = some (.loop (rec .ready none)) := by
   rw [← hW1]; have := World.alloc_heap_new (w.alloc (.deferred (some []))) (.loop (rec .ready none)); rwa [World.size_alloc] at this
 have hK1 : W1.heap[w.heap.size]? = some (.deferred (some [])) := by
   rw [← hW1]; exact (Below.heap_alloc _ _ _ (by simp)).trans (World.alloc_heap_new w _)
 have hb1 : Below w.heap.size w W1 := by
   rw [← hW1]; exact ((Below.refl _ w).alloc (Nat.le_refl _) _).alloc (by simp) _
 refine ⟨w.heap.size + 1, [{ target := .collected w.heap.size, args := #[] }], W1, { target := .fn (.func gf) lb, args := #[.func (.yield (w.heap.size + 1)) #[] #[]] }, W1, gf,
   #[.func (.yield (w.heap.size + 1)) #[] #[]] ++ lb, W1, ?_, ?_, ?_, ?_, (fun h => nomatch h), ?_⟩
 · rw [← hW1, hrec]; exact run_enterLoop_outer _ _ _ _ _
 · simp only [resolve, hg]
   simp [go_sem]
 · intro f' _; trivial
 · simp [invoke, go_sem, eg]
 · refine (hit W1 hb1 (by omega) (w.heap.size + 1)
     (fun M pre W => W1.heap.size ≤ M ∧ M ≤ W.heap.size ∧ I M pre W ∧ W.heap[w.heap.size + 1]? = some (.loop (rec .ready none)) ∧ W.heap[w.heap.size]? = some (.deferred (some []))) ?_ ?_ ?_).mono ?_
   · rintro M pre A B hM hMA ⟨_, _, hi, hl, hk⟩ hs
     exact ⟨hM, Nat.le_trans hMA hs.size, hI M pre A B (by omega) hMA hi (hs.mono fun k _ h => h.imp (fun h => by omega) id),
       (hs.block _ (Array.getElem?_eq_some_iff.1 hl).1 (.inl (by omega))).trans hl, (hs.block _ (Array.getElem?_eq_some_iff.1 hk).1 (.inl (by omega))).trans hk⟩
   · rintro M pre x W hM hMW ⟨_, _, hi, hl, hk⟩ hx
     have hlt : w.heap.size + 1 < W.heap.size := (Array.getElem?_eq_some_iff.1 hl).1
     have hy := run_yield (P := P) (args := #[enc x]) hl (by rw [hrec, hps]; rfl)
     rw [hrec] at hy
     have hne : ¬ (w.heap.size + 1 < w.heap.size ∨ M ≤ w.heap.size + 1) := by omega
     refine ⟨fn, _, assign, body, hy, roundIn_of_wpIn trivial (hassign _ M pre x W _ (by omega) hMW hi ?_)⟩
     intro a' Wa hba hax
     have hla : Wa.heap[w.heap.size + 1]? = some (.loop (rec .ready none)) := (hba.block _ hlt).trans hl
     have hka : Wa.heap[w.heap.size]? = some (.deferred (some [])) := (hba.block _ (by omega)).trans hk
     have hlta : w.heap.size + 1 < Wa.heap.size := (Array.getElem?_eq_some_iff.1 hla).1
     have hia : I M pre Wa := hI M pre _ _ (by omega) hMW hi ((Same.of_below hba).mono fun k hk _ => hk)
     refine ⟨_, run_beginRound hla (by rw [hrec]), ?_⟩
     have hl2 : (Wa.putObj (w.heap.size + 1) (.loop { rec .ready none with state := .busy })).heap[w.heap.size + 1]? = some (.loop { rec .ready none with state := .busy }) := World.putObj_heap_same hlta
     have hk2 : (Wa.putObj (w.heap.size + 1) (.loop { rec .ready none with state := .busy })).heap[w.heap.size]? = some (.deferred (some [])) := (World.putObj_heap_other (by omega)).trans hka
     have hsp := Same.putObj (fun k => k < w.heap.size ∨ M ≤ k) Wa (w.heap.size + 1) (.loop { rec .ready none with state := .busy }) hne
     have hi2 := hI M pre _ _ (by omega) (Nat.le_trans hMW hba.size) hia hsp
     refine wpIn_mono (hbody _ M pre x a' _ (by omega) (by simpa using Nat.le_trans hMW hba.size) (by omega) (by omega) ⟨_, hl2⟩ hi2 (hAx M x a' _ _ (by omega) hax hsp) hx) ?_
     rintro e a3 W3 hp
     cases e with
     | normal =>
       obtain ⟨hi3, hs3⟩ := hp
       have hl3 := (hs3.block _ (by simpa using hlta) (.inr ⟨by omega, by omega⟩)).trans hl2
       have hk3 := (hs3.block _ (by simp; omega) (.inr ⟨by omega, by omega⟩)).trans hk2
       have hend := run_endRound (P := P) none hl3
       have hsz3 := hs3.size
       simp only [World.putObj_size] at hsz3
       have hsa := hba.size
       refine ⟨_, _, hend, rfl, ⟨hM, by simp; omega, hI M _ _ _ (by omega) (by omega) hi3 (Same.putObj _ W3 (w.heap.size + 1) _ hne), ?_, (World.putObj_heap_other (by omega)).trans hk3⟩, ?_⟩
       · rw [World.putObj_heap_same (Array.getElem?_eq_some_iff.1 hl3).1, hrec]
         rfl
       · refine ⟨hs3.os.trans hba.os, hs3.tape.trans hba.tape, hs3.output.trans hba.output, by simp; omega, fun k hk hA => ?_⟩
         have hkl : k ≠ w.heap.size + 1 := by omega
         rw [World.putObj_heap_other hkl]
         refine (hs3.block k (by simp; omega) (hA.imp id fun h => ⟨by omega, h.2⟩)).trans ((World.putObj_heap_other hkl).trans (hba.block k hk))
     | _ => exact hp.elim
   · intro M W hM hMW hs
     have e1 := hs.block _ (by omega : w.heap.size + 1 < W1.heap.size) (by omega)
     have e2 := hs.block _ (by omega : w.heap.size < W1.heap.size) (by omega)
     exact ⟨hM, hMW, h0 M W (by omega) hMW (hb1.trans (hs.below (by omega) fun k hk => by omega)), e1.trans hL1, e2.trans hK1⟩
   · rintro e W2 ⟨⟨v, rfl⟩, M, hM, _, hMW, hi, hl, hk⟩
     have hend := run_endLoop (P := P) hl (by rw [hrec]; simp)
     rw [hrec] at hend
     refine ⟨none, _, hend, hdone _ M _ (Nat.le_refl _) (by omega) (by simpa using hMW) (hI M _ _ _ (by omega) hMW hi (Same.putObj _ W2 (w.heap.size + 1) _ (by omega))) ((World.putObj_heap_other (by omega)).trans hk)⟩
theorem wpIn_range_box {α : Type} {g : Operand} {p : Tmp} {assign body : Code} {Q : Exit → Act → World → Prop} {a : Act} {w : World} (gT s : Nat) (t : TypeId)
   {gf : Nat} {lb : Array Value} (hg : a.eval g = .func (.func gf) #[] lb) (eg : ∀ args w, (callFunc gf args).run P w = .ok (.enter gf args) w)
   {enc : α → Value} {xs : List α} (hgT : gT < w.heap.size)
   (hit : ∀ W, Below w.heap.size w W → w.heap.size + 2 ≤ W.heap.size → Iterates P gT gf lb enc xs W)
   (I : Nat → List α → World → Prop)
   (hI : ∀ M pre W W', w.heap.size ≤ M → M ≤ W.heap.size → I M pre W → Same (fun k => k < w.heap.size ∨ M ≤ k) W W' → I M pre W')
   (h0 : ∀ M W, w.heap.size ≤ M → M ≤ W.heap.size → Below w.heap.size w W → I M [] W)
   (hassign : ∀ (l : Nat) (x : α) (W : World) (K : Act → World → Prop), K { tmps := (a.tmps.setIfInBounds p (enc x)).setIfInBounds s (.pointer (some ⟨W.heap.size, 0, none⟩)), defers := [] } (W.alloc (.cells #[enc x] t)) →
     assign.wpIn (Fence.wide.inRound l) 0 P (Exit.then K (fun _ _ _ => False)) { tmps := a.tmps.setIfInBounds p (enc x), defers := [] } W)
   (hbody : ∀ (l M : Nat) (pre : List α) (x : α) (bx : Nat) (W : World), w.heap.size + 2 ≤ M → M ≤ W.heap.size → w.heap.size ≤ l → l < M → (∃ r, W.heap[l]? = some (.loop r)) → I M pre W → M ≤ bx → row? W bx = some #[enc x] → (∃ r, xs = pre ++ x :: r) →
     body.wpIn (Fence.wide.inRound l) 0 P (fun e _ W' => match e with
       | .normal => I M (pre ++ [x]) W' ∧ Same (fun k => k = gT ∨ (w.heap.size ≤ k ∧ k < M)) W W'
       | _ => False) { tmps := (a.tmps.setIfInBounds p (enc x)).setIfInBounds s (.pointer (some ⟨bx, 0, none⟩)), defers := [] } W)
   (hdone : ∀ (D M : Nat) (W : World), w.heap.size ≤ D → D < M → M ≤ W.heap.size → I M xs W → W.heap[D]? = some (.deferred (some [])) → Q .normal { a with defers := { target := .collected D, args := #[] } :: a.defers } W) :
   (Code.rangeFunc g #[p] assign body).wpIn Fence.wide 0 P Q a w :=
 wpIn_rangeB gT hg eg rfl hgT hit I hI h0 (fun M x a' W => ∃ bx, M ≤ bx ∧ row? W bx = some #[enc x] ∧ a' = { tmps := (a.tmps.setIfInBounds p (enc x)).setIfInBounds s (.pointer (some ⟨bx, 0, none⟩)), defers := [] })
   (fun M x a' W W' hM ⟨bx, h1, h2, h3⟩ hs => ⟨bx, h1, (row?_congr (hs.block _ (row?_lt h2) (.inr h1))).trans h2, h3⟩)
   (fun l M pre x W K hM hMW hi hK => by
     have := hassign l x W K (hK _ _ ((Below.refl _ W).alloc (Nat.le_refl _) _) ⟨W.heap.size, hMW, row?_alloc_at _ _ _ _ rfl, rfl⟩)
     simpa using this)
   (fun l M pre x a' W h1 h2 h3 h4 h5 hi ⟨bx, h6, h7, h8⟩ hx => by rw [h8]; exact hbody l M pre x bx W h1 h2 h3 h4 h5 hi h6 h7 hx) hdone
theorem wpIn_rangeN {α : Type} {g : Operand} {ps : Array Tmp} {assign body : Code} {Q : Exit → Act → World → Prop} {a : Act} {w : World} (gT l0 : Nat) (hl0 : ∃ r, w.heap[l0]? = some (.loop r))
   {gf : Nat} {lb : Array Value} (hg : a.eval g = .func (.func gf) #[] lb) (eg : ∀ args w, (callFunc gf args).run P w = .ok (.enter gf args) w)
   {enc : α → Value} {xs : List α} (hps : ps.size = 1) (hgT : gT < w.heap.size)
   (hit : ∀ W, Below w.heap.size w W → w.heap.size + 1 ≤ W.heap.size → Iterates P gT gf lb enc xs W)
   (I : Nat → List α → World → Prop)
   (hI : ∀ M pre W W', w.heap.size ≤ M → M ≤ W.heap.size → I M pre W → Same (fun k => k < w.heap.size ∨ M ≤ k) W W' → I M pre W')
   (h0 : ∀ M W, w.heap.size ≤ M → M ≤ W.heap.size → Below w.heap.size w W → I M [] W) (a₁ : α → Act)
   (hassign : ∀ (l : Nat) (x : α) (W : World) (K : Act → World → Prop), K (a₁ x) W →
     assign.wpIn (Fence.wide.inRound l) 0 P (Exit.then K (fun _ _ _ => False)) { tmps := (ps.zip #[enc x]).foldl (fun t (p, v) => t.setIfInBounds p v) a.tmps, defers := [] } W)
   (hbody : ∀ (l M : Nat) (pre : List α) (x : α) (W : World), w.heap.size + 1 ≤ M → M ≤ W.heap.size → I M pre W → (∃ r, xs = pre ++ x :: r) →
     body.wpIn (Fence.wide.inRound l) 0 P (fun e _ W' => match e with
       | .normal => I M (pre ++ [x]) W' ∧ Same (fun k => k = gT ∨ (w.heap.size ≤ k ∧ k < M)) W W'
       | _ => False) (a₁ x) W)
   (hdone : ∀ (M : Nat) (W : World), w.heap.size ≤ M → M ≤ W.heap.size → I M xs W → Q .normal a W) :
   (Code.rangeFunc g ps assign body).wpIn (Fence.wide.inRound l0) 0 P Q a w := by
 obtain ⟨r₀, hl0⟩ := hl0
 refine wpIn_rangeFunc ?_
 intro fn hfn
 show ∃ (l : Nat) (mark : List Deferred) (w₁ : World) (d : Deferred) (w₁' : World) (f : FuncId) (args : Array Value) (w₂ : World), (Instr.enterLoop fn a.tmps ps assign body (some l0)).run P w = .ok (l, mark) w₁ ∧ _
 obtain ⟨rec, hrec⟩ : ∃ rec : LoopState → Option Code → Loop, rec = fun st pe => { state := st, pending := pe, fn, tmps := a.tmps, params := ps, assign, body, defers := r₀.defers } := ⟨_, rfl⟩
 obtain ⟨W1, hW1⟩ : ∃ W1, w.alloc (.loop (rec .ready none)) = W1 := ⟨_, rfl⟩
 have hs1 : W1.heap.size = w.heap.size + 1 := by rw [← hW1]; simp
 have hL1 : W1.heap[w.heap.size]? = some (.loop (rec .ready none)) := by rw [← hW1]; exact World.alloc_heap_new w _
 have hb1 : Below w.heap.size w W1 := by
   rw [← hW1]; exact (Below.refl _ w).alloc (Nat.le_refl _) _
 refine ⟨w.heap.size, [], W1, { target := .fn (.func gf) lb, args := #[.func (.yield w.heap.size) #[] #[]] }, W1, gf,
   #[.func (.yield w.heap.size) #[] #[]] ++ lb, W1, ?_, ?_, ?_, ?_, (fun h => nomatch h), CallsIn.inRound l0 ?_⟩
 · rw [← hW1, hrec]; exact run_enterLoop_inner hl0 _ _ _ _ _
 · simp only [resolve, hg]
   simp [go_sem]
 · intro f' _; trivial
 · simp [invoke, go_sem, eg]
 · refine (hit W1 hb1 (by omega) w.heap.size
     (fun M pre W => W1.heap.size ≤ M ∧ M ≤ W.heap.size ∧ I M pre W ∧ W.heap[w.heap.size]? = some (.loop (rec .ready none))) ?_ ?_ ?_).mono ?_
   · rintro M pre A B hM hMA ⟨_, _, hi, hl⟩ hs
     exact ⟨hM, Nat.le_trans hMA hs.size, hI M pre A B (by omega) hMA hi (hs.mono fun k _ h => h.imp (fun h => by omega) id),
       (hs.block _ (Array.getElem?_eq_some_iff.1 hl).1 (.inl (by omega))).trans hl⟩
   · rintro M pre x W hM hMW ⟨_, _, hi, hl⟩ hx
     have hlt : w.heap.size < W.heap.size := (Array.getElem?_eq_some_iff.1 hl).1
     have hy := run_yield (P := P) (args := #[enc x]) hl (by rw [hrec, hps]; rfl)
     rw [hrec] at hy
     refine ⟨fn, _, assign, body, hy, roundIn_of_wpIn trivial (hassign _ x W _ ⟨_, run_beginRound hl (by rw [hrec]), ?_⟩)⟩
     have hne : ¬ (w.heap.size < w.heap.size ∨ M ≤ w.heap.size) := by omega
     have hl2 : (W.putObj w.heap.size (.loop { rec .ready none with state := .busy })).heap[w.heap.size]? = some (.loop { rec .ready none with state := .busy }) := World.putObj_heap_same hlt
     have hi2 := hI M pre _ _ (by omega) hMW hi (Same.putObj _ W w.heap.size (.loop { rec .ready none with state := .busy }) hne)
     refine wpIn_mono (hbody _ M pre x _ (by omega) (by simpa using hMW) hi2 hx) ?_
     rintro e a3 W3 hp
     cases e with
     | normal =>
       obtain ⟨hi3, hs3⟩ := hp
       have hl3 := (hs3.block _ (by simpa using hlt) (.inr ⟨by omega, by omega⟩)).trans hl2
       have hend := run_endRound (P := P) none hl3
       have hsz3 := hs3.size
       simp only [World.putObj_size] at hsz3
       refine ⟨_, _, hend, rfl, ⟨hM, by simp; omega, hI M _ _ _ (by omega) (by omega) hi3 (Same.putObj _ W3 w.heap.size _ hne), ?_⟩, ?_⟩
       · rw [World.putObj_heap_same (Array.getElem?_eq_some_iff.1 hl3).1, hrec]
         rfl
       · refine ⟨hs3.os, hs3.tape, hs3.output, by simp; omega, fun k hk hA => ?_⟩
         have hkl : k ≠ w.heap.size := by omega
         rw [World.putObj_heap_other hkl]
         refine (hs3.block k (by simpa using hk) (hA.imp id fun h => ⟨by omega, h.2⟩)).trans (World.putObj_heap_other hkl)
     | _ => exact hp.elim
   · intro M W hM hMW hs
     have e1 := hs.block _ (by omega : w.heap.size < W1.heap.size) (by omega)
     exact ⟨hM, hMW, h0 M W (by omega) hMW (hb1.trans (hs.below (by omega) fun k hk => by omega)), e1.trans hL1⟩
   · rintro e W2 ⟨⟨v, rfl⟩, M, hM, _, hMW, hi, hl⟩
     have hend := run_endLoop (P := P) hl (by rw [hrec]; simp)
     rw [hrec] at hend
     refine ⟨none, _, hend, hdone M _ (by omega) (by simpa using hMW) (hI M _ _ _ (by omega) hMW hi (Same.putObj _ W2 w.heap.size _ (by omega)))⟩
theorem wpIn_rangeN_set {α : Type} {g : Operand} {p : Tmp} {assign body : Code} {Q : Exit → Act → World → Prop} {a : Act} {w : World} (gT s l0 : Nat) (hl0 : ∃ r, w.heap[l0]? = some (.loop r))
   {gf : Nat} {lb : Array Value} (hg : a.eval g = .func (.func gf) #[] lb) (eg : ∀ args w, (callFunc gf args).run P w = .ok (.enter gf args) w)
   {enc : α → Value} {xs : List α} (hgT : gT < w.heap.size)
   (hit : ∀ W, Below w.heap.size w W → w.heap.size + 1 ≤ W.heap.size → Iterates P gT gf lb enc xs W)
   (I : Nat → List α → World → Prop)
   (hI : ∀ M pre W W', w.heap.size ≤ M → M ≤ W.heap.size → I M pre W → Same (fun k => k < w.heap.size ∨ M ≤ k) W W' → I M pre W')
   (h0 : ∀ M W, w.heap.size ≤ M → M ≤ W.heap.size → Below w.heap.size w W → I M [] W)
   (hassign : ∀ (l : Nat) (x : α) (W : World) (K : Act → World → Prop), K { tmps := (a.tmps.setIfInBounds p (enc x)).setIfInBounds s (enc x), defers := [] } W →
     assign.wpIn (Fence.wide.inRound l) 0 P (Exit.then K (fun _ _ _ => False)) { tmps := a.tmps.setIfInBounds p (enc x), defers := [] } W)
   (hbody : ∀ (l M : Nat) (pre : List α) (x : α) (W : World), w.heap.size + 1 ≤ M → M ≤ W.heap.size → I M pre W → (∃ r, xs = pre ++ x :: r) →
     body.wpIn (Fence.wide.inRound l) 0 P (fun e _ W' => match e with
       | .normal => I M (pre ++ [x]) W' ∧ Same (fun k => k = gT ∨ (w.heap.size ≤ k ∧ k < M)) W W'
       | _ => False) { tmps := (a.tmps.setIfInBounds p (enc x)).setIfInBounds s (enc x), defers := [] } W)
   (hdone : ∀ (M : Nat) (W : World), w.heap.size ≤ M → M ≤ W.heap.size → I M xs W → Q .normal a W) :
   (Code.rangeFunc g #[p] assign body).wpIn (Fence.wide.inRound l0) 0 P Q a w :=
 wpIn_rangeN gT l0 hl0 hg eg rfl hgT hit I hI h0 (fun x => { tmps := (a.tmps.setIfInBounds p (enc x)).setIfInBounds s (enc x), defers := [] }) (fun l x W K hK => by have := hassign l x W K hK; simpa using this) hbody hdone
def Marks (B : Nat) : List Deferred → World → Prop
 | [], _ => True
 | d :: ds, w => (∃ D, d = { target := .collected D, args := #[] } ∧ B ≤ D ∧ w.heap[D]? = some (.deferred (some [])) ∧ ∀ e ∈ ds, e ≠ d) ∧ Marks B ds w
theorem Marks.same {B : Nat} {A : Nat → Prop} : ∀ {ds : List Deferred} {w w' : World}, Marks B ds w → Same A w w' → (∀ D, B ≤ D → ({ target := .collected D, args := #[] } : Deferred) ∈ ds → A D) → Marks B ds w'
 | [], _, _, _, _, _ => trivial
 | d :: ds, w, w', h, hs, hA => by
   obtain ⟨⟨D, rfl, hB, hk, hne⟩, h2⟩ := h
   exact ⟨⟨D, rfl, hB, (hs.block D (Array.getElem?_eq_some_iff.1 hk).1 (hA D hB (by simp))).trans hk, hne⟩, h2.same hs fun D' h3 h4 => hA D' h3 (List.mem_cons_of_mem _ h4)⟩
theorem Marks.lt {B : Nat} : ∀ {ds : List Deferred} {w : World}, Marks B ds w → ∀ D, ({ target := .collected D, args := #[] } : Deferred) ∈ ds → D < w.heap.size
 | d :: ds, w, h, D, hD => by
   obtain ⟨⟨D', rfl, _, hk, _⟩, h2⟩ := h
   rcases List.mem_cons.1 hD with e | e
   · cases e
     exact (Array.getElem?_eq_some_iff.1 hk).1
   · exact h2.lt D e
theorem Marks.ge {B : Nat} : ∀ {ds : List Deferred} {w : World}, Marks B ds w → ∀ D, ({ target := .collected D, args := #[] } : Deferred) ∈ ds → B ≤ D
 | d :: ds, w, h, D, hD => by
   obtain ⟨⟨D', rfl, hB, _, _⟩, h2⟩ := h
   rcases List.mem_cons.1 hD with e | e
   · cases e
     exact hB
   · exact h2.ge D e
theorem Marks.cons {B D : Nat} {ds : List Deferred} {w : World} (h : Marks B ds w) (hB : B ≤ D) (hk : w.heap[D]? = some (.deferred (some []))) (hn : ({ target := .collected D, args := #[] } : Deferred) ∉ ds) : Marks B ({ target := .collected D, args := #[] } :: ds) w :=
 ⟨⟨D, rfl, hB, hk, fun _ he e => hn (e ▸ he)⟩, h⟩
theorem leaves_marks {F : Fence} {n : Nat} {fn : Func} {tmps : Array Value} {R : Ending → World → Prop} {B : Nat} : ∀ (ds : List Deferred) (w : World), Marks B ds w →
   (∀ w', Same (fun k => ¬ ({ target := .collected k, args := #[] } : Deferred) ∈ ds) w w' → LeavesInM F n P fn tmps R [] .returning w') → LeavesInM F n P fn tmps R ds .returning w
 | [], w, _, h => h w (Same.refl _ _)
 | d :: ds, w, hM, h => by
   obtain ⟨⟨D, rfl, hB, hk, hne⟩, h2⟩ := hM
   refine ⟨by simp, .inl ⟨D, _, rfl, run_takeDeferred hk, ?_⟩⟩
   have hs : Same (fun k => k ≠ D) w (w.putObj D (.deferred none)) := Same.putObj _ w D _ (by simp)
   refine leaves_marks ds _ (h2.same hs fun D' _ h3 e => hne _ h3 (by rw [e])) fun w' hs' => h w' ?_
   refine (hs.mono fun k _ hk e => hk (by rw [e]; simp)).trans (hs'.mono fun k _ hk e => hk (List.mem_cons_of_mem _ e))
end
end Go.Pal
