/- Contracts of bitset Of, SubsetOf, Has, Below. A range over a function whose variable is .. -/
import Derived.Test.YtglnhnjmelilmaaGreatDoorRR1g
import Derived.Test.YtglnhnjmelilmaaGreatDoorRSets
import Derived.Lib.MinMax
import Derived.Test.YtglnhnjmelilmaaGreatDoorRRoR
set_option maxHeartbeats 1000000
set_option maxRecDepth 10000
set_option linter.all false
namespace Go.Pal
open Go
def insR (S : Nat) (n : Int) : Nat := if 0 ≤ n ∧ n < 1024 then sIns S n.toNat else S
def ofTo (l : List Int) (k : Nat) : Nat := (l.take k).foldl insR 0
theorem ofTo_succ {l : List Int} {k : Nat} {x : Int} (h : l[k]? = some x) : ofTo l (k + 1) = insR (ofTo l k) x := by
 unfold ofTo
 rw [List.take_add_one, h, List.foldl_append]
 rfl
def belS (n : Nat) : Nat := 2 ^ n - 1
theorem belS_bit (n i : Nat) : (belS n).testBit i = decide (i < n) := by unfold belS; exact Nat.testBit_two_pow_sub_one n i
theorem wd_belS_lo {n i : Nat} (h : n ≤ 64 * i) : wd (belS n) i = 0 := by
 symm
 refine wd_eq_of_testBit (by decide) fun j hj => ?_
 rw [belS_bit, Nat.zero_testBit]
 simp
 omega
theorem wd_belS_hi {n i : Nat} (h : 64 * i + 64 ≤ n) : wd (belS n) i = 18446744073709551615 := by
 symm
 refine wd_eq_of_testBit (by decide) fun j hj => ?_
 rw [belS_bit, show (18446744073709551615 : Nat) = 2 ^ 64 - 1 from rfl, Nat.testBit_two_pow_sub_one]
 simp
 omega
theorem wd_belS_mid {n i : Nat} (h : 64 * i ≤ n) (h2 : n < 64 * i + 64) : wd (belS n) i = 2 ^ (n - 64 * i) - 1 := by
 symm
 refine wd_eq_of_testBit ?_ fun j hj => ?_
 · have : 2 ^ (n - 64 * i) ≤ 2 ^ 63 := Nat.pow_le_pow_right (by decide) (by omega)
   have : (2 : Nat) ^ 63 = 9223372036854775808 := rfl
   omega
 · rw [belS_bit, Nat.testBit_two_pow_sub_one]
   simp
   omega
theorem wd_belS (n k : Nat) : IntKind.u64.wrap (IntKind.u64.wrap ((2 : Int) ^ min (n - 64 * k) 64) - 1) = (wd (belS (min n (64 * (k + 1)))) k : Int) := by
 rw [IntKind.wrap_u64, IntKind.wrap_u64]
 by_cases h : 64 * k + 64 ≤ n
 · rw [wd_belS_hi (by omega), show min (n - 64 * k) 64 = 64 by omega]
   rfl
 · rw [show min n (64 * (k + 1)) = n by omega, show min (n - 64 * k) 64 = n - 64 * k by omega]
   have e : (2 : Int) ^ (n - 64 * k) = ((2 ^ (n - 64 * k) : Nat) : Int) := by simp
   have h1 : 2 ^ (n - 64 * k) ≤ 2 ^ 63 := Nat.pow_le_pow_right (by decide) (by omega)
   have h2 : (2 : Nat) ^ 63 = 9223372036854775808 := rfl
   have h3 : 0 < 2 ^ (n - 64 * k) := Nat.two_pow_pos _
   rw [e]
   by_cases h0 : n ≤ 64 * k
   · rw [wd_belS_lo h0, show n - 64 * k = 0 by omega]
     rfl
   · rw [wd_belS_mid (by omega) (by omega)]
     generalize 2 ^ (n - 64 * k) = x at *
     omega
theorem bitN_testBit (n j : Nat) : (bitN n).testBit j = decide (n % 64 = j) := by unfold bitN; rw [Nat.testBit_two_pow]
theorem bitN_and (S n : Nat) (h : n < 1024) : decide ((wd S (n / 64) &&& bitN n) ≠ 0) = S.testBit n := by
 have h1 : (wd S (n / 64)).testBit (n % 64) = S.testBit n := by
   rw [wd_testBit, decide_eq_true (Nat.mod_lt _ (by decide)), Bool.true_and]
   congr 1
   omega
 have h2 : ∀ j, (wd S (n / 64) &&& bitN n).testBit j = (decide (j = n % 64) && S.testBit n) := by
   intro j
   rw [Nat.testBit_and, bitN_testBit]
   by_cases hj : j = n % 64
   · subst hj
     rw [h1]
     simp
   · have hj2 : ¬ n % 64 = j := fun e => hj e.symm
     simp [hj, hj2]
 cases hb : S.testBit n with
 | false =>
   have : wd S (n / 64) &&& bitN n = 0 := by
     apply Nat.eq_of_testBit_eq
     intro j
     rw [h2, hb]
     simp
   rw [this]
   rfl
 | true =>
   rw [decide_eq_true_iff]
   intro e
   have := h2 (n % 64)
   rw [e, hb] at this
   simp at this
end Go.Pal
namespace Go.Proofs.YtglnhnjmelilmaaGreatDoor
open Go Go.RowKit Go.Pal
theorem with_any (S : Nat) (n : Int) (w : World) : Calls Tryz.prog 98 #[.agg (words S), .int .i64 n] w fun e w' => e = .returned (.agg (words (insR S n))) ∧ Below w.heap.size w w' := by
 unfold insR
 by_cases h : 0 ≤ n ∧ n < 1024
 · rw [if_pos h]
   obtain ⟨m, rfl⟩ : ∃ m : Nat, n = (m : Int) := ⟨n.toNat, by omega⟩
   rw [Int.toNat_natCast]
   exact with_in S m w (by omega)
 · rw [if_neg h]
   exact with_out S n w h
theorem of_any (l : List Int) (v : Value) (w : World) (hv : RdL w v l) (hlen : l.length ≤ 1000000) : Calls Tryz.prog 44 #[v] w fun e w' => e = .returned (.agg (words (ofTo l l.length))) ∧ Below w.heap.size w w' := by
 have HV := Lib.hid hv
 obtain ⟨a, c, rfl, -⟩ := hv
 go_enter Tryz.func44, Tryz.ntmps44
 go_wp2_with fail
 generalize hW0 : World.alloc (World.alloc w _) _ = W0
 have hB0 : Below w.heap.size w W0 := by
   rw [← hW0]
   (repeat' (first | (with_reducible first | exact Below.refl _ _ | assumption | refine Below.alloc ?_ ?_ _ | refine Below.drew ?_ | refine Below.setCell ?_ ?_ _ | refine below_setRow ?_ ?_ _ | exact Nat.le_refl _) | omega | (simp; done) | (simp; omega) | (simp at *; omega)))
 have hr1 : row? W0 (w.heap.size + 1) = some (words 0) := by rw [← hW0]; exact row?_alloc_at _ _ _ _ (by simp)
 have hr0 : row? W0 w.heap.size = some (words 0) := by rw [← hW0]; exact (row?_alloc_past _ _ _ (by simp)).trans (row?_alloc_at _ _ _ _ rfl)
 have HR1 := Lib.hid hr1
 have HR0 := Lib.hid hr0
 have HB0 := Lib.hid hB0
 have hl0 := row?_lt hr1
 clear hW0 hr1 hr0 hB0
 go_loopw [8] (fun i wr => ∃ k : Nat, k ≤ l.length ∧ i = .int .i64 (k : Int) ∧ row? wr (w.heap.size + 1) = some (words (ofTo l k)) ∧ Same (fun j => j ≠ w.heap.size + 1) W0 wr) (fun i _ => l.length - (intOf i).toNat)
 case atStart => exact ⟨0, by omega, rfl, HR1.out, Same.refl _ _⟩
 case round =>
   obtain ⟨k, hk, rfl, hr, hS⟩ := hrel
   have hsz := hS.size
   by_cases hlt : k < l.length
   · obtain ⟨b, off, c', z, hv, hz, hc⟩ := HV.out.at hlt
     simp only [Value.slice.injEq] at hv
     obtain ⟨rfl, -, rfl⟩ := hv
     have hbw : Below w.heap.size w wr := HB0.out.trans (hS.below HB0.out.size fun j hj => by omega)
     have hcell := hc wr hbw
     have hst := ofTo_succ hz
     have HST := Lib.hid hst
     have HS := Lib.hid hS
     have hl1 := row?_lt hr
     clear hS hc hz hst hbw
     go_wp2_with fail
     refine (with_any _ z _).mono ?_
     rintro r w5 ⟨rfl, hb5⟩
     have hr5 := (row?_below hb5 (by omega)).trans hr
     have HS5 := Lib.hid (HS.out.trans ((Same.of_below hb5).mono fun j hj _ => hj))
     clear hr hb5 HS
     go_wp2_with fail
     go_roundw
     case rel =>
       refine ⟨k + 1, by omega, by go_num, ?_, HS5.out.trans (Same.setRow _ _ _ _ (by simp))⟩
       rw [row?_setRow_same _ _ _ (by rw [hr5]; rfl), HST.out]
     case measure => simp [intOf]; omega
   · have hkn : k = l.length := by omega
     subst hkn
     have hr0 := (row?_congr (hS.block w.heap.size (by omega) (by omega))).trans HR0.out
     have HS := Lib.hid hS
     clear hS
     go_wp2_with fail
     refine ret_row w.heap.size (words (ofTo l l.length)) rfl Tryz.isAgg79 Tryz.sizeOf79 rfl rfl (row?_setRow_same _ _ _ (by rw [hr0]; rfl)) (by simp only [words_size]) ⟨rfl, ?_⟩
     exact below_setRow (HB0.out.trans (HS.out.below HB0.out.size fun j hj => by omega)) (Nat.le_refl _) _
theorem subsetOf_any (S T : Nat) (hS : IsSet S) (w : World) : Calls Tryz.prog 90 #[.agg (words S), .agg (words T)] w fun e w' => e = .returned (.bool (decide (sDiff S T = 0))) ∧ Below w.heap.size w w' := by
 have hD : IsSet (sDiff S T) := fun n h => by
   unfold sDiff at h
   rw [Nat.testBit_xor, Nat.testBit_and] at h
   cases hb : S.testBit n with
   | true => exact hS n hb
   | false => rw [hb] at h; simp at h
 have HD := Lib.hid hD
 have H1 := Lib.hid fun W => minus_any S T W
 obtain ⟨D, hDD⟩ : ∃ D, D = sDiff S T := ⟨_, rfl⟩
 rw [← hDD] at H1 HD ⊢
 clear hD hS hDD
 go_enter Tryz.func90, Tryz.ntmps90
 go_wp2_with fail
 refine (H1.out _).mono ?_
 rintro e w1 ⟨rfl, hb1⟩
 have HB1 := Lib.hid ((((Below.refl _ w).alloc (Nat.le_refl _) (.cells (words S) 79)).alloc (by simp) (.cells (words T) 79)).trans (hb1.mono (by simp; omega)))
 clear hb1
 go_wp2_with fail
 refine (isEmpty_any D HD.out w1).mono ?_
 rintro e w2 ⟨rfl, hb2⟩
 have HB2 := Lib.hid (HB1.out.trans (hb2.mono HB1.out.size))
 clear hb2
 go_wp2_with fail
 go_ret
 exact ⟨rfl, HB2.out⟩
theorem has_any (S : Nat) (n : Int) (w : World) : Calls Tryz.prog 82 #[.agg (words S), .int .i64 n] w fun e w' => e = .returned (.bool (decide (0 ≤ n ∧ n < 1024) && S.testBit n.toNat)) ∧ Below w.heap.size w w' := by
 by_cases h : 0 ≤ n ∧ n < 1024
 · obtain ⟨m, rfl⟩ : ∃ m : Nat, n = (m : Int) := ⟨n.toNat, by omega⟩
   have hm : m < 1024 := by omega
   have hw := words_get S (i := m / 64) (by omega)
   have hl : (m : Int) / 64 < 16 := by omega
   have hl0 : 0 ≤ (m : Int) / 64 := by omega
   have hd : (decide ((0 : Int) ≤ m) && decide ((m : Int) < 1024)) = true := by simp; omega
   have ha := bits_and_word (wd S (m / 64)) (bitN m) (wd_lt _ _) (bitN_lt m)
   have hb := bitN_and S m hm
   go_enter Tryz.func82, Tryz.ntmps82
   go_wp2_with fail
   generalize hW0 : World.alloc w _ = W0
   have hr0 : row? W0 w.heap.size = some (words S) := by rw [← hW0]; exact row?_alloc_at _ _ _ _ rfl
   have hB0 : Below w.heap.size w W0 := by rw [← hW0]; exact (Below.refl _ w).alloc (Nat.le_refl _) _
   have hc := cell?_row (i := m / 64) hr0
   rw [hw] at hc
   have hq : ((m : Int) / 64).toNat = m / 64 := by omega
   have HB0 := Lib.hid hB0
   have HBT := Lib.hid hb
   clear hW0 hr0 hB0 hw hb
   refine wp_region_free_tail (fun w' => w' = W0.drew) 12 (by kernel_rfl) (by kernel_rfl) rfl ?_
   simp only [List.take_succ_cons, List.take_zero, List.drop_succ_cons, List.drop_zero]
   repeat ((first | apply wpFree_still (hg := rfl) | apply wpFree_stillG rfl); (intro w hw; subst hw; go_simp; (try go_ints); (first | with_reducible rfl | (go_simp; with_reducible rfl))); (intro K hK; go_simp; (try go_ints); refine hK _ ?_; clear hK K))
   apply wpFree_call
   · intro w hw; go_simp; first | with_reducible rfl | with_reducible exact ⟨rfl, rfl⟩
   · with_reducible rfl
   · intro w hw; subst hw; refine (fits_any _ _).mono ?_; rw [hd]; rintro e w' ⟨rfl, rfl⟩; exact ⟨rfl, rfl⟩
   intro K hK; go_simp; (try go_ints); refine hK _ ?_; clear hK K
   repeat ((first | apply wpFree_still (hg := rfl) | apply wpFree_stillG rfl); (intro w hw; subst hw; go_simp; (try go_ints); (first | with_reducible rfl | (go_simp; with_reducible rfl))); (intro K hK; go_simp; (try go_ints); refine hK _ ?_; clear hK K))
   apply wpFree_callG rfl
   · intro w hw; go_simp; first | with_reducible rfl | with_reducible exact ⟨rfl, rfl⟩
   · intro w hw; subst hw; refine (bit_any _ _ (by omega) (by omega)).mono ?_; rintro e w' ⟨rfl, rfl⟩; exact ⟨rfl, rfl⟩
   intro K hK; go_simp; (try go_ints); refine hK _ ?_; clear hK K
   repeat ((first | apply wpFree_still (hg := rfl) | apply wpFree_stillG rfl); (intro w hw; subst hw; go_simp; (try go_ints); (first | with_reducible rfl | (go_simp; with_reducible rfl))); (intro K hK; go_simp; (try go_ints); refine hK _ ?_; clear hK K))
   with_reducible refine wpFree_nil ?_
   rintro w' rfl
   go_wp2_with fail
   go_ret
   refine ⟨?_, HB0.out.drew⟩
   rw [Int.toNat_natCast, ← HBT.out]
   refine congrArg Ending.returned (congrArg Value.bool ?_)
   rw [Bool.eq_iff_iff]
   simp
   omega
 · have hd : (decide ((0 : Int) ≤ n) && decide ((n : Int) < 1024)) = false := by simp; omega
   go_enter Tryz.func82, Tryz.ntmps82
   go_wp2_with fail
   generalize hW0 : World.alloc w _ = W0
   have hB0 : Below w.heap.size w W0 := by rw [← hW0]; exact (Below.refl _ w).alloc (Nat.le_refl _) _
   have HB0 := Lib.hid hB0
   clear hW0 hB0
   refine wp_region_free_tail (fun w' => w' = W0.drew) 12 (by kernel_rfl) (by kernel_rfl) rfl ?_
   simp only [List.take_succ_cons, List.take_zero, List.drop_succ_cons, List.drop_zero]
   repeat ((first | apply wpFree_still (hg := rfl) | apply wpFree_stillG rfl); (intro w hw; subst hw; go_simp; (try go_ints); (first | with_reducible rfl | (go_simp; with_reducible rfl))); (intro K hK; go_simp; (try go_ints); refine hK _ ?_; clear hK K))
   apply wpFree_call
   · intro w hw; go_simp; first | with_reducible rfl | with_reducible exact ⟨rfl, rfl⟩
   · with_reducible rfl
   · intro w hw; subst hw; refine (fits_any _ _).mono ?_; rw [hd]; rintro e w' ⟨rfl, rfl⟩; exact ⟨rfl, rfl⟩
   intro K hK; go_simp; (try go_ints); refine hK _ ?_; clear hK K
   repeat (first | (apply wpFree_skip rfl; (intro K hK; go_simp; (try go_ints); refine hK _ ?_; clear hK K)) | (apply wpFree_still; (intro w hw; subst hw; go_simp; (try go_ints); (first | with_reducible rfl | (go_simp; with_reducible rfl))); with_reducible rfl; (intro K hK; go_simp; (try go_ints); refine hK _ ?_; clear hK K)))
   with_reducible refine wpFree_nil ?_
   rintro w' rfl
   go_wp2_with fail
   go_ret
   exact ⟨by simp [h], HB0.out.drew⟩
theorem belowS_any (n : Nat) (w : World) (hn : n ≤ 1024) : Calls Tryz.prog 159 #[.int .i64 (n : Int)] w fun e w' => e = .returned (.agg (words (belS n))) ∧ Below w.heap.size w w' := by
 have hm : (min (n : Int) 1024) = (n : Int) := by omega
 have hm2 : max (0 : Int) (n : Int) = (n : Int) := by omega
 go_enter Tryz.func159, Tryz.ntmps159
 go_wp2_with fail
 generalize hW0 : World.alloc (World.alloc w _) _ = W0
 have hB0 : Below w.heap.size w W0 := by
   rw [← hW0]
   (repeat' (first | (with_reducible first | exact Below.refl _ _ | assumption | refine Below.alloc ?_ ?_ _ | refine Below.drew ?_ | refine Below.setCell ?_ ?_ _ | refine below_setRow ?_ ?_ _ | exact Nat.le_refl _) | omega | (simp; done) | (simp; omega) | (simp at *; omega)))
 have hr1 : row? W0 (w.heap.size + 1) = some (words (belS 0)) := by rw [← hW0]; exact row?_alloc_at _ _ _ _ (by simp)
 have hr0 : row? W0 w.heap.size = some (words 0) := by rw [← hW0]; exact (row?_alloc_past _ _ _ (by simp)).trans (row?_alloc_at _ _ _ _ rfl)
 have HR1 := Lib.hid hr1
 have HR0 := Lib.hid hr0
 have HB0 := Lib.hid hB0
 have hl0 := row?_lt hr1
 clear hW0 hr1 hr0 hB0 hm hm2
 go_loopw [8] (fun i wr => ∃ k : Nat, k ≤ 16 ∧ i = .int .i64 (k : Int) ∧ row? wr (w.heap.size + 1) = some (words (belS (min n (64 * k)))) ∧ Same (fun j => j ≠ w.heap.size + 1) W0 wr) (fun i _ => 16 - (intOf i).toNat)
 case atStart => exact ⟨0, by omega, rfl, by simpa using HR1.out, Same.refl _ _⟩
 case round =>
   obtain ⟨k, hk, rfl, hr, hS⟩ := hrel
   have hsz := hS.size
   have hl1 := row?_lt hr
   have hfz := frozen?_row (i := k) hr
   by_cases hlt : k < 16
   · have hcell := cell?_row (i := k) hr
     rw [words_get _ hlt] at hcell
     obtain ⟨c, hc⟩ : ∃ c : Nat, c = min (n - 64 * k) 64 := ⟨_, rfl⟩
     have hcut : max (0 : Int) (min ((n : Int) - 64 * (k : Int)) 64) = (c : Int) := by omega
     have hc64 : c ≤ 64 := by omega
     have HS := Lib.hid hS
     have HR := Lib.hid hr
     clear hS hr
     go_wp2_with fail
     obtain ⟨x, hx⟩ : ∃ x, x = IntKind.u64.wrap (IntKind.u64.wrap ((2 : Int) ^ min (n - 64 * k) 64) - 1) := ⟨_, rfl⟩
     rw [← hx]
     rw [wd_belS] at hx
     have HX := Lib.hid hx
     clear hx
     go_roundw
     case rel =>
       refine ⟨k + 1, by omega, by go_num, ?_, HS.out.trans (Same.setCell _ _ _ _ (by simp))⟩
       rw [row?_setCell_same, HR.out, Option.map_some, HX.out]
       refine congrArg some (words_set hlt rfl fun j hj hne => ?_)
       by_cases h1 : j < k
       · by_cases h2 : 64 * j + 64 ≤ n
         · rw [wd_belS_hi (by omega), wd_belS_hi (by omega)]
         · rw [show min n (64 * k) = n by omega, show min n (64 * (k + 1)) = n by omega]
       · rw [wd_belS_lo (by omega), wd_belS_lo (by omega)]
     case measure => simp [intOf]; omega
   · have hkn : k = 16 := by omega
     subst hkn
     have hr0 := (row?_congr (hS.block w.heap.size (by omega) (by omega))).trans HR0.out
     have HS := Lib.hid hS
     have HR := Lib.hid hr
     rw [show min n (64 * 16) = n by omega] at hr
     clear hS
     go_wp2_with fail
     refine ret_row w.heap.size (words (belS n)) rfl Tryz.isAgg79 Tryz.sizeOf79 rfl rfl (row?_setRow_same _ _ _ (by rw [hr0]; rfl)) (by simp only [words_size]) ⟨rfl, ?_⟩
     exact below_setRow (HB0.out.trans (HS.out.below HB0.out.size fun j hj => by omega)) (Nat.le_refl _) _
end Go.Proofs.YtglnhnjmelilmaaGreatDoor
namespace Go.Pal
open Go Go.RowKit
section
variable {P : Program}
def Marks (B : Nat) : List Deferred → World → Prop
 | [], _ => True
 | d :: ds, w => (∃ D, d = { target := .collected D, args := #[] } ∧ B ≤ D ∧ w.heap[D]? = some (.deferred (some [])) ∧ ∀ e ∈ ds, e ≠ d) ∧ Marks B ds w
theorem Marks.same {B : Nat} {A : Nat → Prop} : ∀ {ds : List Deferred} {w w' : World}, Marks B ds w → Same A w w' → (∀ D, B ≤ D → ({ target := .collected D, args := #[] } : Deferred) ∈ ds → A D) → Marks B ds w'
 | [], _, _, _, _, _ => trivial
 | d :: ds, w, w', h, hs, hA => by
   obtain ⟨⟨D, rfl, hB, hk, hne⟩, h2⟩ := h
   exact ⟨⟨D, rfl, hB, (hs.block D (Array.getElem?_eq_some_iff.1 hk).1 (hA D hB (by simp))).trans hk, hne⟩, h2.same hs fun D' h3 h4 => hA D' h3 (List.mem_cons_of_mem _ h4)⟩
theorem Marks.lt {B : Nat} : ∀ {ds : List Deferred} {w : World}, Marks B ds w → ∀ D, ({ target := .collected D, args := #[] } : Deferred) ∈ ds → D < w.heap.size
 | d :: ds, w, h, D, hD => by
   obtain ⟨⟨D', rfl, _, hk, _⟩, h2⟩ := h
   rcases List.mem_cons.1 hD with e | e
   · cases e
     exact (Array.getElem?_eq_some_iff.1 hk).1
   · exact h2.lt D e
theorem Marks.ge {B : Nat} : ∀ {ds : List Deferred} {w : World}, Marks B ds w → ∀ D, ({ target := .collected D, args := #[] } : Deferred) ∈ ds → B ≤ D
 | d :: ds, w, h, D, hD => by
   obtain ⟨⟨D', rfl, hB, _, _⟩, h2⟩ := h
   rcases List.mem_cons.1 hD with e | e
   · cases e
     exact hB
   · exact h2.ge D e
theorem Marks.cons {B D : Nat} {ds : List Deferred} {w : World} (h : Marks B ds w) (hB : B ≤ D) (hk : w.heap[D]? = some (.deferred (some []))) (hn : ({ target := .collected D, args := #[] } : Deferred) ∉ ds) : Marks B ({ target := .collected D, args := #[] } :: ds) w :=
 ⟨⟨D, rfl, hB, hk, fun _ he e => hn (e ▸ he)⟩, h⟩
end
end Go.Pal
