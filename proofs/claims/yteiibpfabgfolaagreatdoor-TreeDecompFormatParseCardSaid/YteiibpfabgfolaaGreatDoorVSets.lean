/- The functions of package bitset: each returns the set that the mathematics of the plain .. -/
import Derived.Test.YteiibpfabgfolaaGreatDoorProg
import Derived.Test.YteiibpfabgfolaaGreatDoorVPlain
import Derived.Test.YteiibpfabgfolaaGreatDoorVRule
import Derived.WalkSpells
import Derived.WalkLawsBesides
import Derived.BigQuiet
import Derived.Lib.Hide
import Derived.Test.YteiibpfabgfolaaGreatDoorVRoR
import Derived.OwnWalkIn
import Derived.TacticsInMore
import Derived.LoopNIn
import Derived.LoopIn
set_option maxHeartbeats 1000000
set_option maxRecDepth 100000
set_option linter.all false
namespace Go.Proofs.YteiibpfabgfolaaGreatDoor
open Go Go.RowKit Go.Pal
@[go_sem ↓ high] theorem loadSet (a : Addr) : loadVar 51 a = loadLater 51 a := rfl
@[go_sem ↓ high] theorem storeSet (a : Addr) (v : Value) : storeVar 51 a v = storeLater 51 a v := rfl
@[go_sem] theorem loadSet_run (w : World) (a : Addr) : (loadLater 51 a).run Tryz.prog w = rowLoad Tryz.prog 51 a w := rfl
@[go_sem] theorem storeSet_run (w : World) (a : Addr) (v : Value) : (storeLater 51 a v).run Tryz.prog w = rowStore Tryz.prog 51 a v w := rfl
@[go_sem] theorem loadSet_at (w : World) (g o : Nat) (h : (row? w g).isSome = true) : rowLoad Tryz.prog 51 ⟨g, o, none⟩ w = match row? w g with
     | some c => if o + 16 ≤ c.size then .ok (.agg (c.extract o (o + 16))) w else laterLoad Tryz.prog 51 ⟨g, o, none⟩ w
     | none => laterLoad Tryz.prog 51 ⟨g, o, none⟩ w := load_part Tryz.isAgg51 Tryz.sizeOf51 w g o h
@[go_sem] theorem words_extract (S : Nat) : (words S).extract 0 16 = words S := by
 apply Array.ext'
 rw [Array.toList_extract]
 show ((words S).toList.take 16).drop 0 = _
 rw [List.drop_zero, List.take_of_length_le (by rw [Array.length_toList, words_size]; exact Nat.le_refl _)]
@[go_sem] theorem storeSet_at (w : World) (g : Nat) (d : Array Value) : rowStore Tryz.prog 51 ⟨g, 0, none⟩ (.agg d) w = match row? w g with
     | some c => if c.size = 16 ∧ d.size = 16 ∧ allOne d = true then .ok () (w.setRow g d) else laterStore Tryz.prog 51 ⟨g, 0, none⟩ (.agg d) w
     | none => laterStore Tryz.prog 51 ⟨g, 0, none⟩ (.agg d) w := store_row Tryz.sizeOf51 w g d
@[go_sem ↓ high] theorem zeroSet (w : World) : (zeroValue 51).run Tryz.prog w = .ok (.agg (words 0)) w := by rw [Tryz.zeroValue51]; rfl
attribute [go_sem] words_size mixW_size
@[go_sem] theorem allOne_words (S : Nat) : allOne (words S) = true := by
 unfold allOne words
 rw [Array.all_eq_true_iff_forall_mem]
 intro v hv
 obtain ⟨i, rfl⟩ := Array.mem_ofFn.1 hv
 rfl
@[go_sem] theorem allOne_mixW (T S k : Nat) : allOne (mixW T S k) = true := by
 unfold allOne mixW
 rw [Array.all_eq_true_iff_forall_mem]
 intro v hv
 obtain ⟨i, rfl⟩ := Array.mem_ofFn.1 hv
 rfl
theorem fits_any (n : Int) (w : World) :
   Calls Tryz.prog 91 #[.int .i64 n] w fun e w' => e = .returned (.bool (decide (0 ≤ n) && decide (n < 1024))) ∧ w = w' := by
 by_cases h1 : 0 ≤ n
 · go_enter Tryz.func91, Tryz.ntmps91
   go_wp2
   all_goals (go_ret; refine ⟨?_, rfl⟩; simp_all)
 · go_enter Tryz.func91, Tryz.ntmps91
   go_wp2
   go_ret
   refine ⟨?_, rfl⟩
   simp only [Array.getD]
   simp_all
   omega
theorem bit_any (n : Int) (w : World) (h0 : 0 ≤ n) (h1 : n < 1024) :
   Calls Tryz.prog 92 #[.int .i64 n] w fun e w' => e = .returned (.int .u64 ((bitN n.toNat : Nat) : Int)) ∧ w = w' := by
 go_enter Tryz.func92, Tryz.ntmps92
 go_wp2
 go_ret
 refine ⟨?_, rfl⟩
 unfold bitN
 have hk : (n % 64).toNat = n.toNat % 64 := by omega
 have hp := pow_lt_word (k := n.toNat % 64) (Nat.mod_lt _ (by decide))
 have hc : (2 : Int) ^ (n.toNat % 64) = ((2 ^ (n.toNat % 64) : Nat) : Int) := by simp
 show Ending.returned (.int .u64 (IntKind.u64.wrap (2 ^ (n % 64).toNat))) = _
 rw [hk, hc, IntKind.wrap_u64]
 generalize 2 ^ (n.toNat % 64) = x at *
 congr 2
 omega
@[go_sem] theorem eqSet (S T : Nat) (w : World) : (Op.equalIn 10000 51 (.agg (words S)) (.agg (words T))).run Tryz.prog w = .ok (eqW S T) w :=
 run_equalIn_ints 9998 51 49 .u64 .u64 16 (words S) (words T) (fun i => (wd S i : Int)) (fun i => (wd T i : Int)) w Tryz.underlying51 Tryz.underlying49 Tryz.sizeOf49 Tryz.isAgg49 (fun _ hi => words_get S hi) (fun _ hi => words_get T hi)
@[go_sem ↓ high] theorem buildSet (w : World) : (Instr.build 51 #[]).run Tryz.prog w = .ok (.agg (words 0)) w := by kernel_rfl
@[go_sem] theorem indexSet (S k : Nat) (w : World) (h : k < 16) : (Instr.index 51 (.agg (words S)) (.int .i64 (k : Int))).run Tryz.prog w = .ok (.int .u64 (wd S k : Int)) w :=
 run_index_arr 51 49 16 (words S) .i64 k _ w Tryz.underlying51 Tryz.sizeOf49 Tryz.isAgg49 h (words_get S h)
theorem guardSet : Tryz.prog.eqGuardType Tryz.prog.depth 51 = false := by kernel_rfl
theorem bits_and_word (a b : Nat) (ha : a < 18446744073709551616) (hb : b < 18446744073709551616) : bits .and .u64 (a : Int) (b : Int) = ((a &&& b : Nat) : Int) := u64_and_nat a b ha hb
theorem bits_andNot_word (a b : Nat) (ha : a < 18446744073709551616) (hb : b < 18446744073709551616) : bits .andNot .u64 (a : Int) (b : Int) = ((a &&& (18446744073709551615 - b) : Nat) : Int) := u64_andNot_nat a b ha hb
theorem bits_or_word (a b : Nat) (ha : a < 18446744073709551616) (hb : b < 18446744073709551616) : bits .or .u64 (a : Int) (b : Int) = ((a ||| b : Nat) : Int) := u64_or_nat a b ha hb
theorem with_in (S : Nat) (n : Nat) (w : World) (h1 : n < 1024) :
   Calls Tryz.prog 39 #[.agg (words S), .int .i64 n] w fun e w' => e = .returned (.agg (words (sIns S n))) ∧ Below w.heap.size w w' := by
 have hl : (n : Int) / 64 < 16 := by omega
 have hl0 : 0 ≤ (n : Int) / 64 := by omega
 have hw := words_get S (i := n / 64) (by omega)
 have hI := words_ins S h1
 have ho := bits_or_word (wd S (n / 64)) (bitN n) (wd_lt _ _) (bitN_lt n)
 have hd : (decide ((0 : Int) ≤ n) && decide ((n : Int) < 1024)) = true := by simp; omega
 go_enter Tryz.func39, Tryz.ntmps39
 go_wp2_with (go_at_call 91; refine (fits_any _ _).mono ?_; rw [hd]; rintro e w' ⟨rfl, rfl⟩)
 refine wp_region_free_tail (fun w' => w' = ((w.alloc (.cells (words S) 51)).alloc (.cells (words 0) 51)).drew) 7 (by kernel_rfl) (by kernel_rfl) rfl ?_
 simp only [List.take_succ_cons, List.take_zero, List.drop_succ_cons, List.drop_zero]
 repeat (apply wpFree_still; (intro w hw; subst hw; go_simp; (try go_ints); (first | with_reducible rfl | (go_simp; with_reducible rfl))); with_reducible rfl; (intro K hK; go_simp; (try go_ints); refine hK _ ?_; clear hK K))
 apply wpFree_call
 · intro w hw; go_simp; first | with_reducible rfl | with_reducible exact ⟨rfl, rfl⟩
 · with_reducible rfl
 · intro w hw; subst hw; refine (bit_any _ _ (by omega) (by omega)).mono ?_; rintro e w' ⟨rfl, rfl⟩; exact ⟨rfl, rfl⟩
 intro K hK; go_simp; (try go_ints); refine hK _ ?_; clear hK K
 repeat (apply wpFree_still; (intro w hw; subst hw; go_simp; (try go_ints); (first | with_reducible rfl | (go_simp; with_reducible rfl))); with_reducible rfl; (intro K hK; go_simp; (try go_ints); refine hK _ ?_; clear hK K))
 with_reducible refine wpFree_nil ?_
 rintro w' rfl
 go_wp2
 refine ret_row _ (words (sIns S n)) rfl Tryz.isAgg51 Tryz.sizeOf51 rfl rfl ?_ (by simp only [words_size]) ?_
 · first | (simp [go_sem]; done) | (simp [go_sem, *]; done)
 refine ⟨rfl, ?_⟩
 (repeat' (first | (with_reducible first | exact Below.refl _ _ | assumption | refine Below.alloc ?_ ?_ _ | refine Below.drew ?_ | refine Below.setCell ?_ ?_ _ | refine below_setRow ?_ ?_ _ | exact Nat.le_refl _) | omega | (simp; done) | (simp; omega) | (simp at *; omega)))
theorem with_out (S : Nat) (n : Int) (w : World) (h1 : ¬ (0 ≤ n ∧ n < 1024)) :
   Calls Tryz.prog 39 #[.agg (words S), .int .i64 n] w fun e w' => e = .returned (.agg (words S)) ∧ Below w.heap.size w w' := by
 have hd : (decide ((0 : Int) ≤ n) && decide ((n : Int) < 1024)) = false := by simp; omega
 go_enter Tryz.func39, Tryz.ntmps39
 go_wp2_with (go_at_call 91; refine (fits_any _ _).mono ?_; rw [hd]; rintro e w' ⟨rfl, rfl⟩)
 refine ret_row _ (words S) rfl Tryz.isAgg51 Tryz.sizeOf51 rfl rfl ?_ (by simp only [words_size]) ?_
 · first | (simp [go_sem]; done) | (simp [go_sem, *]; done)
 refine ⟨rfl, ?_⟩
 (repeat' (first | (with_reducible first | exact Below.refl _ _ | assumption | refine Below.alloc ?_ ?_ _ | refine Below.drew ?_ | refine Below.setCell ?_ ?_ _ | refine below_setRow ?_ ?_ _ | exact Nat.le_refl _) | omega | (simp; done) | (simp; omega) | (simp at *; omega)))
theorem union_any (S T : Nat) (w : World) :
   Calls Tryz.prog 43 #[.agg (words S), .agg (words T)] w fun e w' => e = .returned (.agg (words (S ||| T))) ∧ Below w.heap.size w w' := by
 go_enter Tryz.func43, Tryz.ntmps43
 go_wp2
 go_loopw [6] (fun i wr => ∃ k : Nat, k ≤ 16 ∧ i = .int .i64 k ∧ row? wr w.heap.size = some (mixW (S ||| T) S k) ∧ row? wr (w.heap.size + 1) = some (words T) ∧ row? wr (w.heap.size + 2) = some (words 0) ∧ Below w.heap.size w wr) (fun i _ => 16 - (intOf i).toNat)
 case atStart => exact ⟨0, by omega, rfl, by rw [mixW_zero]; simp [go_sem], by simp [go_sem], by simp [go_sem], by go_grown⟩
 case round =>
   obtain ⟨k, hk, rfl, hr1, hr2, hr3, hb⟩ := hrel
   by_cases hlt : k < 16
   · have c1 := (cell?_row (i := k) hr1).trans (mixW_get _ _ _ hlt (Nat.le_refl k))
     have c2 := (cell?_row (i := k) hr2).trans (words_get T hlt)
     have f1 := frozen?_row (i := k) hr1
     have ho := bits_or_word (wd S k) (wd T k) (wd_lt _ _) (wd_lt _ _)
     have Hr1 := Lib.hid hr1; clear hr1
     have Hr2 := Lib.hid hr2; clear hr2
     have Hr3 := Lib.hid hr3; clear hr3
     go_wp2
     refine wp_region_free_tail (fun w' => w' = wr.drew) 7 (by kernel_rfl) (by kernel_rfl) rfl ?_
     simp only [List.take_succ_cons, List.take_zero, List.drop_succ_cons, List.drop_zero]
     repeat (apply wpFree_still; (intro w hw; subst hw; go_simp; (try go_ints); (first | with_reducible rfl | (go_simp; with_reducible rfl))); with_reducible rfl; (intro K hK; go_simp; (try go_ints); refine hK _ ?_; clear hK K))
     with_reducible refine wpFree_nil ?_
     rintro w' rfl
     go_wp2
     go_roundw
     case rel => exact ⟨k + 1, by omega, by go_num, by simp [go_sem, Hr1.out, mixW_set, hlt, wd_or], by simp [go_sem, Hr2.out], by simp [go_sem, Hr3.out], by go_grown⟩
     case measure => simp [intOf]; omega
   · obtain rfl : k = 16 := by omega
     rw [mixW_all] at hr1
     go_wp2
     refine ret_row _ (words (S ||| T)) rfl Tryz.isAgg51 Tryz.sizeOf51 rfl rfl ?_ (by simp only [words_size]) ?_
     · first | (simp [go_sem]; done) | (simp [go_sem, *]; done)
     refine ⟨rfl, ?_⟩
     (repeat' (first | (with_reducible first | exact Below.refl _ _ | assumption | refine Below.alloc ?_ ?_ _ | refine Below.drew ?_ | refine Below.setCell ?_ ?_ _ | refine below_setRow ?_ ?_ _ | exact Nat.le_refl _) | omega | (simp; done) | (simp; omega) | (simp at *; omega)))
theorem inter_any (S T : Nat) (w : World) :
   Calls Tryz.prog 56 #[.agg (words S), .agg (words T)] w fun e w' => e = .returned (.agg (words (S &&& T))) ∧ Below w.heap.size w w' := by
 go_enter Tryz.func56, Tryz.ntmps56
 go_wp2
 go_loopw [6] (fun i wr => ∃ k : Nat, k ≤ 16 ∧ i = .int .i64 k ∧ row? wr w.heap.size = some (mixW (S &&& T) S k) ∧ row? wr (w.heap.size + 1) = some (words T) ∧ row? wr (w.heap.size + 2) = some (words 0) ∧ Below w.heap.size w wr) (fun i _ => 16 - (intOf i).toNat)
 case atStart => exact ⟨0, by omega, rfl, by rw [mixW_zero]; simp [go_sem], by simp [go_sem], by simp [go_sem], by go_grown⟩
 case round =>
   obtain ⟨k, hk, rfl, hr1, hr2, hr3, hb⟩ := hrel
   by_cases hlt : k < 16
   · have c1 := (cell?_row (i := k) hr1).trans (mixW_get _ _ _ hlt (Nat.le_refl k))
     have c2 := (cell?_row (i := k) hr2).trans (words_get T hlt)
     have f1 := frozen?_row (i := k) hr1
     have ho := bits_and_word (wd S k) (wd T k) (wd_lt _ _) (wd_lt _ _)
     have Hr1 := Lib.hid hr1; clear hr1
     have Hr2 := Lib.hid hr2; clear hr2
     have Hr3 := Lib.hid hr3; clear hr3
     go_wp2
     refine wp_region_free_tail (fun w' => w' = wr.drew) 7 (by kernel_rfl) (by kernel_rfl) rfl ?_
     simp only [List.take_succ_cons, List.take_zero, List.drop_succ_cons, List.drop_zero]
     repeat (apply wpFree_still; (intro w hw; subst hw; go_simp; (try go_ints); (first | with_reducible rfl | (go_simp; with_reducible rfl))); with_reducible rfl; (intro K hK; go_simp; (try go_ints); refine hK _ ?_; clear hK K))
     with_reducible refine wpFree_nil ?_
     rintro w' rfl
     go_wp2
     go_roundw
     case rel => exact ⟨k + 1, by omega, by go_num, by simp [go_sem, Hr1.out, mixW_set, hlt, wd_and], by simp [go_sem, Hr2.out], by simp [go_sem, Hr3.out], by go_grown⟩
     case measure => simp [intOf]; omega
   · obtain rfl : k = 16 := by omega
     rw [mixW_all] at hr1
     go_wp2
     refine ret_row _ (words (S &&& T)) rfl Tryz.isAgg51 Tryz.sizeOf51 rfl rfl ?_ (by simp only [words_size]) ?_
     · first | (simp [go_sem]; done) | (simp [go_sem, *]; done)
     refine ⟨rfl, ?_⟩
     (repeat' (first | (with_reducible first | exact Below.refl _ _ | assumption | refine Below.alloc ?_ ?_ _ | refine Below.drew ?_ | refine Below.setCell ?_ ?_ _ | refine below_setRow ?_ ?_ _ | exact Nat.le_refl _) | omega | (simp; done) | (simp; omega) | (simp at *; omega)))
theorem minus_any (S T : Nat) (w : World) :
   Calls Tryz.prog 101 #[.agg (words S), .agg (words T)] w fun e w' => e = .returned (.agg (words (sDiff S T))) ∧ Below w.heap.size w w' := by
 go_enter Tryz.func101, Tryz.ntmps101
 go_wp2
 go_loopw [6] (fun i wr => ∃ k : Nat, k ≤ 16 ∧ i = .int .i64 k ∧ row? wr w.heap.size = some (mixW (sDiff S T) S k) ∧ row? wr (w.heap.size + 1) = some (words T) ∧ row? wr (w.heap.size + 2) = some (words 0) ∧ Below w.heap.size w wr) (fun i _ => 16 - (intOf i).toNat)
 case atStart => exact ⟨0, by omega, rfl, by rw [mixW_zero]; simp [go_sem], by simp [go_sem], by simp [go_sem], by go_grown⟩
 case round =>
   obtain ⟨k, hk, rfl, hr1, hr2, hr3, hb⟩ := hrel
   by_cases hlt : k < 16
   · have c1 := (cell?_row (i := k) hr1).trans (mixW_get _ _ _ hlt (Nat.le_refl k))
     have c2 := (cell?_row (i := k) hr2).trans (words_get T hlt)
     have f1 := frozen?_row (i := k) hr1
     have ho := bits_andNot_word (wd S k) (wd T k) (wd_lt _ _) (wd_lt _ _)
     have Hr1 := Lib.hid hr1; clear hr1
     have Hr2 := Lib.hid hr2; clear hr2
     have Hr3 := Lib.hid hr3; clear hr3
     go_wp2
     refine wp_region_free_tail (fun w' => w' = wr.drew) 7 (by kernel_rfl) (by kernel_rfl) rfl ?_
     simp only [List.take_succ_cons, List.take_zero, List.drop_succ_cons, List.drop_zero]
     repeat (apply wpFree_still; (intro w hw; subst hw; go_simp; (try go_ints); (first | with_reducible rfl | (go_simp; with_reducible rfl))); with_reducible rfl; (intro K hK; go_simp; (try go_ints); refine hK _ ?_; clear hK K))
     with_reducible refine wpFree_nil ?_
     rintro w' rfl
     go_wp2
     go_roundw
     case rel => exact ⟨k + 1, by omega, by go_num, by simp [go_sem, Hr1.out, mixW_set, hlt, wd_diff], by simp [go_sem, Hr2.out], by simp [go_sem, Hr3.out], by go_grown⟩
     case measure => simp [intOf]; omega
   · obtain rfl : k = 16 := by omega
     rw [mixW_all] at hr1
     go_wp2
     refine ret_row _ (words (sDiff S T)) rfl Tryz.isAgg51 Tryz.sizeOf51 rfl rfl ?_ (by simp only [words_size]) ?_
     · first | (simp [go_sem]; done) | (simp [go_sem, *]; done)
     refine ⟨rfl, ?_⟩
     (repeat' (first | (with_reducible first | exact Below.refl _ _ | assumption | refine Below.alloc ?_ ?_ _ | refine Below.drew ?_ | refine Below.setCell ?_ ?_ _ | refine below_setRow ?_ ?_ _ | exact Nat.le_refl _) | omega | (simp; done) | (simp; omega) | (simp at *; omega)))
theorem without_in (S : Nat) (n : Nat) (w : World) (h1 : n < 1024) :
   Calls Tryz.prog 95 #[.agg (words S), .int .i64 n] w fun e w' => e = .returned (.agg (words (sDel S n))) ∧ Below w.heap.size w w' := by
 have hl : (n : Int) / 64 < 16 := by omega
 have hl0 : 0 ≤ (n : Int) / 64 := by omega
 have hw := words_get S (i := n / 64) (by omega)
 have hI := words_del S h1
 have ho := bits_andNot_word (wd S (n / 64)) (bitN n) (wd_lt _ _) (bitN_lt n)
 have hd : (decide ((0 : Int) ≤ n) && decide ((n : Int) < 1024)) = true := by simp; omega
 go_enter Tryz.func95, Tryz.ntmps95
 go_wp2_with (go_at_call 91; refine (fits_any _ _).mono ?_; rw [hd]; rintro e w' ⟨rfl, rfl⟩)
 refine wp_region_free_tail (fun w' => w' = ((w.alloc (.cells (words S) 51)).alloc (.cells (words 0) 51)).drew) 7 (by kernel_rfl) (by kernel_rfl) rfl ?_
 simp only [List.take_succ_cons, List.take_zero, List.drop_succ_cons, List.drop_zero]
 repeat (apply wpFree_still; (intro w hw; subst hw; go_simp; (try go_ints); (first | with_reducible rfl | (go_simp; with_reducible rfl))); with_reducible rfl; (intro K hK; go_simp; (try go_ints); refine hK _ ?_; clear hK K))
 apply wpFree_call
 · intro w hw; go_simp; first | with_reducible rfl | with_reducible exact ⟨rfl, rfl⟩
 · with_reducible rfl
 · intro w hw; subst hw; refine (bit_any _ _ (by omega) (by omega)).mono ?_; rintro e w' ⟨rfl, rfl⟩; exact ⟨rfl, rfl⟩
 intro K hK; go_simp; (try go_ints); refine hK _ ?_; clear hK K
 repeat (apply wpFree_still; (intro w hw; subst hw; go_simp; (try go_ints); (first | with_reducible rfl | (go_simp; with_reducible rfl))); with_reducible rfl; (intro K hK; go_simp; (try go_ints); refine hK _ ?_; clear hK K))
 with_reducible refine wpFree_nil ?_
 rintro w' rfl
 go_wp2
 refine ret_row _ (words (sDel S n)) rfl Tryz.isAgg51 Tryz.sizeOf51 rfl rfl ?_ (by simp only [words_size]) ?_
 · first | (simp [go_sem]; done) | (simp [go_sem, *]; done)
 refine ⟨rfl, ?_⟩
 (repeat' (first | (with_reducible first | exact Below.refl _ _ | assumption | refine Below.alloc ?_ ?_ _ | refine Below.drew ?_ | refine Below.setCell ?_ ?_ _ | refine below_setRow ?_ ?_ _ | exact Nat.le_refl _) | omega | (simp; done) | (simp; omega) | (simp at *; omega)))
theorem isEmpty_any (S : Nat) (hS : IsSet S) (w : World) :
   Calls Tryz.prog 57 #[.agg (words S)] w fun e w' => e = .returned (.bool (decide (S = 0))) ∧ Below w.heap.size w w' := by
 have hg := guardSet
 have he := eqW_iff hS isSet_zero
 go_enter Tryz.func57, Tryz.ntmps57
 go_wp2
 go_ret
 refine ⟨rfl, ?_⟩
 (repeat' (first | (with_reducible first | exact Below.refl _ _ | assumption | refine Below.alloc ?_ ?_ _ | refine Below.drew ?_ | refine Below.setCell ?_ ?_ _ | refine below_setRow ?_ ?_ _ | exact Nat.le_refl _) | omega | (simp; done) | (simp; omega) | (simp at *; omega)))
theorem ones_any (x : Nat) (hx : x < 18446744073709551616) (w : World) :
   Calls Tryz.prog 99 #[.int .u64 (x : Int)] w fun e w' => e = .returned (.int .i64 (oc x : Int)) ∧ w = w' := by
 have e1 := e1_step x hx
 have e2 := e2_step (oc1 x) (oc1_lt _)
 have e3 := e3_step (oc2 (oc1 x))
 have e4 := e4_step (oc3 (oc2 (oc1 x)))
 have e5 := e5_step (oc4 (oc3 (oc2 (oc1 x))))
 have e6 := e6_step (oc5 (oc4 (oc3 (oc2 (oc1 x)))))
 have e7 := e7_step (oc6 (oc5 (oc4 (oc3 (oc2 (oc1 x)))))) (oc6_lt _)
 go_enter Tryz.func99, Tryz.ntmps99
 go_wp2
 go_ret
 exact ⟨rfl, rfl⟩
theorem len_any (S : Nat) (w : World) :
   Calls Tryz.prog 45 #[.agg (words S)] w fun e w' => e = .returned (.int .i64 (lenS S : Int)) ∧ Below w.heap.size w w' := by
 go_enter Tryz.func45, Tryz.ntmps45
 go_wp2
 go_loopw [3, 7] (fun n i wr => ∃ k : Nat, k ≤ 16 ∧ i = .int .i64 k ∧ n = .int .i64 (lenTo S k : Int) ∧ Below w.heap.size w wr) (fun _ i _ => 16 - (intOf i).toNat)
 case atStart =>
   refine ⟨0, by omega, rfl, rfl, ?_⟩
   (repeat' (first | (with_reducible first | exact Below.refl _ _ | assumption | refine Below.alloc ?_ ?_ _ | refine Below.drew ?_ | refine Below.setCell ?_ ?_ _ | refine below_setRow ?_ ?_ _ | exact Nat.le_refl _) | omega | (simp; done) | (simp; omega) | (simp at *; omega)))
 case round =>
   obtain ⟨k, hk, rfl, rfl, hb⟩ := hrel
   by_cases hlt : k < 16
   · have c1 := wd_lt S k
     have hs := lenTo_succ S k
     have hl := lenTo_le S k
     have ho := oc_lt (wd S k)
     have Hs := Lib.hid hs; clear hs
     go_wp2_with (go_at_call 99; refine (ones_any _ (wd_lt S k) _).mono ?_; rintro e w' ⟨rfl, rfl⟩)
     go_roundw
     case rel => exact ⟨k + 1, by omega, by go_num, by rw [Hs.out]; go_num, hb⟩
     case measure => simp [intOf]; omega
   · obtain rfl : k = 16 := by omega
     go_wp2
     go_ret
     exact ⟨rfl, hb⟩
def TabOk (w : World) : Prop := ∀ j, j < Lib.deBruijn64tab.length → w.cell? ⟨1, j, none⟩ = some (.int .u8 (Lib.deBruijn64tab.getD j 0))
theorem TabOk.below {B : Nat} {w w' : World} (h : TabOk w) (hb : Below B w w') (hB : 1 < B) : TabOk w' := fun j hj => (hb.cell (p := ⟨1, j, none⟩) hB).trans (h j hj)
theorem tz64_key (x a : Nat) (_hx : x < 18446744073709551616) (hx0 : x ≠ 0) (hlow : x &&& (18446744073709551616 - x) = a) :
   IntKind.u64.wrap (bits BinOp.and IntKind.u64 (x : Int) (IntKind.u64.wrap (-(x : Int))) * 285870213051353865) / 288230376151711744 = ((a * 285870213051353865 % 18446744073709551616 / 288230376151711744 : Nat) : Int) := by
 have e1 : IntKind.u64.wrap (-(x : Int)) = ((18446744073709551616 - x : Nat) : Int) := by rw [IntKind.wrap_u64]; omega
 rw [e1, bits_and_word x _ _hx (by omega), hlow, IntKind.wrap_u64]
 omega
theorem tz64_core (x k idx : Nat) (w : World) (hx0 : ((x : Int) == 0) = false)
   (key : IntKind.u64.wrap (bits BinOp.and IntKind.u64 (x : Int) (IntKind.u64.wrap (-(x : Int))) * 285870213051353865) / 288230376151711744 = (idx : Int))
   (hi : idx < 64) (hk : k < 64) (hcell : w.cell? ⟨1, idx, none⟩ = some (.int .u8 k)) :
   Calls Tryz.prog 121 #[.int .u64 (x : Int)] w fun e w' => e = .returned (.int .i64 (k : Int)) ∧ w = w' := by
 go_enter Tryz.func121, Tryz.ntmps121
 go_wp2_with (simp only [key])
 go_ret
 exact ⟨rfl, rfl⟩
theorem tz_any (x : Nat) (hx : x < 18446744073709551616) (h0 : x ≠ 0) (w : World) (hT : TabOk w) :
   Calls Tryz.prog 121 #[.int .u64 (x : Int)] w fun e w' => e = .returned (.int .i64 (Lib.ctz 64 x : Int)) ∧ w = w' := by
 obtain ⟨hlow, hk⟩ := Lib.lowest_bit 64 x h0 hx
 obtain ⟨hi, htab⟩ := Lib.deBruijn64_at _ hk
 have hcell := hT _ hi
 rw [htab] at hcell
 exact tz64_core x _ _ w (by simp; omega) (tz64_key x _ hx h0 hlow) hi hk hcell
theorem min_any (S : Nat) (hS : IsSet S) (w : World) (hT : TabOk w) (hg : 1 < w.heap.size) :
   Calls Tryz.prog 94 #[.agg (words S)] w fun e w' => e = .returned (minV S) ∧ Below w.heap.size w w' := by
 have HT : Hid (TabOk w) := hT
 clear hT
 go_enter Tryz.func94, Tryz.ntmps94
 go_wp2
 go_loopw [7] (fun i wr => ∃ k : Nat, k ≤ 16 ∧ i = .int .i64 k ∧ (∀ j, j < k → wd S j = 0) ∧ Below w.heap.size w wr) (fun i _ => 16 - (intOf i).toNat)
 case atStart =>
   refine ⟨0, by omega, rfl, fun j hj => by omega, ?_⟩
   (repeat' (first | (with_reducible first | exact Below.refl _ _ | assumption | refine Below.alloc ?_ ?_ _ | refine Below.drew ?_ | refine Below.setCell ?_ ?_ _ | refine below_setRow ?_ ?_ _ | exact Nat.le_refl _) | omega | (simp; done) | (simp; omega) | (simp at *; omega)))
 case round =>
   obtain ⟨k, hk, rfl, h0, hb⟩ := hrel
   have H0 := Lib.hid h0; clear h0
   by_cases hlt : k < 16
   · have c1 := wd_lt S k
     by_cases hz : wd S k = 0
     · have c2 : ((wd S k : Int) == 0) = true := by simp [hz]
       have c3 : ((wd S k : Int) != 0) = false := by simp [hz]
       have Hz := Lib.hid hz; clear hz
       go_wp2
       go_roundw
       case rel => exact ⟨k + 1, by omega, by go_num, fun j hj => by
         by_cases h : j = k
         · rw [h]; exact Hz.out
         · exact H0.out j (by omega), hb⟩
       case measure => simp [intOf]; omega
     · have hT' : TabOk wr := HT.out.below hb hg
       obtain ⟨l1, l2, l3⟩ := least_of_word H0.out hz
       have hm := sMin_some hS l1 l2
       have HT' : Hid (TabOk wr) := hT'
       clear hT' l1 l2
       have Hm := Lib.hid hm; clear hm
       have hne : ((wd S k : Int) == 0) = false := by simp; omega
       have hne2 : ((wd S k : Int) != 0) = true := by simp; omega
       go_wp2_with (go_at_call 121; refine (tz_any _ (wd_lt S k) hz _ HT'.out).mono ?_; rintro e w' ⟨rfl, rfl⟩)
       rw [minV_some Hm.out]
       go_ret2
       refine ⟨?_, hb⟩
       show Ending.returned (.tuple #[.int .i64 (64 * (k : Int) + (Lib.ctz 64 (wd S k) : Int)), .bool true]) = _
       rfl
   · obtain rfl : k = 16 := by omega
     have hz := zero_of_words hS H0.out
     go_wp2
     go_ret2
     refine ⟨?_, hb⟩
     rw [hz, minV_zero]
     rfl
end Go.Proofs.YteiibpfabgfolaaGreatDoor
namespace Go.Proofs.YteiibpfabgfolaaGreatDoor
open Go Go.RowKit Go.Pal
attribute [local go_sem] Oper.semAt_some
theorem all_any (S : Nat) (w : World) :
   Calls Tryz.prog 40 #[.agg (words S)] w fun e w' => e = .returned (.func (.func 93) #[] #[.pointer (some ⟨w.heap.size, 0, none⟩)]) ∧ w.alloc (.cells (words S) 51) = w' := by
 go_enter Tryz.func40, Tryz.ntmps40
 go_wp2
 go_ret
 exact ⟨rfl, rfl⟩
theorem TabOk.same {w w' : World} (h : TabOk w) (hb : w'.heap[1]? = w.heap[1]?) : TabOk w' := fun j hj => (World.cell?_of_block (w := w) hb).trans (h j hj)
def allMeas : Value → Value → Nat
 | .int _ n, .bool true => 1025 - n.toNat
 | _, _ => 0
theorem all1_iterates (b S : Nat) (hS : IsSet S) (W : World) (hb : row? W b = some (words S)) (hT : TabOk W) (hg : 1 < W.heap.size) :
   Iterates Tryz.prog 1 93 #[.pointer (some ⟨b, 0, none⟩)] (fun n : Nat => .int .i64 (n : Int)) (elems S) W := by
 intro l J hJ hY h0
 have hbl := row?_lt hb
 refine callsIn_of_wp Tryz.func93 rfl trivial ?_ rfl
 simp only [Tryz.ntmps93, List.size_toArray, List.length_cons, List.length_nil, Nat.reduceAdd, Nat.reduceSub, Array.replicate_succ, Array.replicate_zero, List.push_toArray, List.append_toArray, List.nil_append, List.cons_append]
 have hT1 := hT.below ((Below.refl W.heap.size W).alloc (Nat.le_refl _) (Obj.cells (words S) 51)) hg
 have HT : Hid (TabOk W) := hT
 have HJ := Lib.hid hJ
 have HY := Lib.hid hY
 have H0 := Lib.hid h0
 clear hT hJ hY h0
 have hgA : 1 < (W.alloc (Obj.cells (words S) 51)).heap.size := by rw [World.size_alloc]; omega
 have hTA : Hid (TabOk (W.alloc (Obj.cells (words S) 51))) := hT1
 gi_wp2_with (refine ⟨trivial, rfl, ?_⟩; gi_at_call 94; refine (callsIn_wide.2 (min_any S hS _ hTA.out hgA)).mono ?_; rintro e w1 ⟨rfl, hb1⟩)
 have hR1 : row? w1 W.heap.size = some (words S) := (row?_below hb1 (by simp)).trans (row?_alloc_at W (words S) 51 _ rfl)
 have hs1 := hb1.size
 simp only [World.size_alloc] at hs1
 have hB1 : Below W.heap.size W w1 := ((Below.refl W.heap.size W).alloc (Nat.le_refl _) _).trans (hb1.mono (by simp))
 have hJ1 := H0.out (W.heap.size + 1) w1 (by omega) hs1 (Same.of_below hB1)
 have HJ1 : Hid (J (W.heap.size + 1) [] w1) := hJ1
 have HB1 : Hid (Below W.heap.size W w1) := hB1
 have HTb : Hid (w1.heap[1]? = W.heap[1]?) := hB1.block _ hg
 have HR1 : Hid (row? w1 W.heap.size = some (words S)) := hR1
 clear hJ1 hB1 hb1 hR1
 gi_loopw [4, 5] (fun n is wr => ∃ (pre rest : List Nat) (T : Nat), elems S = pre ++ rest ∧ elems T = rest ∧ IsSet T ∧ n = .int .i64 (minN T) ∧ is = .bool (minB T) ∧ row? wr W.heap.size = some (words T) ∧ W.heap.size + 1 ≤ wr.heap.size ∧ wr.heap[1]? = W.heap[1]? ∧ J (W.heap.size + 1) pre wr) (fun n is _ => allMeas n is)
 case atStart => exact ⟨[], elems S, S, rfl, rfl, hS, rfl, rfl, HR1.out, hs1, HTb.out, HJ1.out⟩
 case round =>
   obtain ⟨pre, rest, T, hx, hT0, hTs, rfl, rfl, hR, hs, hTb, hJ1⟩ := hrel
   have Hx := Lib.hid hx; clear hx
   have HTb2 := Lib.hid hTb; clear hTb
   have HJ2 : Hid (J (W.heap.size + 1) pre wr) := hJ1
   clear hJ1
   cases rest with
   | nil =>
     have hm := minB_nil hT0
     have HT0 := Lib.hid hT0; clear hT0
     rw [hm]
     gi_wp2
     go_end0
     refine ⟨⟨_, rfl⟩, W.heap.size + 1, by omega, ?_⟩
     rw [Hx.out, List.append_nil]
     exact HJ2.out
   | cons x rest =>
     obtain ⟨hm1, hm2⟩ := minN_cons hT0
     obtain ⟨fn, tmps, assign, body, hy, hRd⟩ := HY.out (W.heap.size + 1) pre x wr (by omega) hs HJ2.out ⟨rest, Hx.out⟩
     have HT0 := Lib.hid hT0; clear hT0
     rw [hm1, hm2]
     have Hm := Lib.hid hm1; clear hm1
     have Hm2 := Lib.hid hm2; clear hm2
     gi_wp2
     refine ⟨rfl, hRd.mono ?_⟩
     rintro e W3 ⟨rfl, hJ3, hk3⟩
     have hR3 : row? W3 W.heap.size = some (words T) := (row?_congr (hk3.block _ (by omega) (.inr ⟨Nat.le_refl _, by omega⟩))).trans hR
     have hT3 : W3.heap[1]? = W.heap[1]? := (hk3.block _ (by omega) (.inl rfl)).trans HTb2.out
     have hs3 : W.heap.size + 1 ≤ W3.heap.size := Nat.le_trans hs hk3.size
     have HT3 := Lib.hid hT3
     have HJ3 : Hid (J (W.heap.size + 1) (pre ++ [x]) W3) := hJ3
     clear hT3 hJ3 hk3 hy hR
     have hxl : x < 1024 := elems_lt (S := S) (by rw [Hx.out]; simp)
     gi_wp2_with fail
     refine ⟨trivial, rfl, (callsIn_wide.2 (without_in T x _ hxl)).mono ?_⟩
     rintro e w4 ⟨rfl, hb4⟩
     have hR4 : row? w4 W.heap.size = some (words T) := (row?_below hb4 (by omega)).trans hR3
     have HB4 : Hid (Below W3.heap.size W3 w4) := hb4
     have hs4 : W.heap.size + 1 ≤ w4.heap.size := Nat.le_trans hs3 hb4.size
     clear hb4 hR3
     gi_wp2_with fail
     obtain ⟨w5, hw5⟩ : ∃ w5, w5 = w4.setRow W.heap.size (words (sDel T x)) := ⟨_, rfl⟩
     rw [← hw5]
     have hR5 : row? w5 W.heap.size = some (words (sDel T x)) := by rw [hw5]; exact row?_setRow_same w4 _ _ (by rw [hR4]; rfl)
     have hs5 : w5.heap.size = w4.heap.size := by rw [hw5]; simp
     have hT5 : w5.heap[1]? = W.heap[1]? := by
       rw [hw5, setRow_other _ _ _ _ (by omega), HB4.out.block _ (by omega)]
       exact HT3.out
     have hS45 : Same (fun k => k < W.heap.size ∨ W.heap.size + 1 ≤ k) w4 w5 := by rw [hw5]; exact Same.setRow _ w4 _ _ (by omega)
     have hJ5 := HJ.out (W.heap.size + 1) _ _ w5 (by omega) hs3 HJ3.out (((Same.of_below HB4.out).mono fun k hk _ => hk).trans hS45)
     have hTs5 : IsSet (sDel T x) := isSet_del hTs
     clear hw5 hS45 hR4
     refine ⟨trivial, rfl, (callsIn_wide.2 (min_any (sDel T x) hTs5 w5 (HT.out.same hT5) (by omega))).mono ?_⟩
     rintro e w6 ⟨rfl, hb6⟩
     have hJ6 : Hid (J (W.heap.size + 1) (pre ++ [x]) w6) := HJ.out (W.heap.size + 1) _ _ w6 (by omega) (by omega) hJ5 ((Same.of_below hb6).mono fun k hk _ => hk)
     have hR6 : Hid (row? w6 W.heap.size = some (words (sDel T x))) := (row?_below hb6 (by omega)).trans hR5
     have hT6 : Hid (w6.heap[1]? = W.heap[1]?) := (hb6.block _ (by omega)).trans hT5
     have hs6 : W.heap.size + 1 ≤ w6.heap.size := by have := hb6.size; omega
     clear hJ5 hT5 hR5 hb6
     gi_wp2
     go_roundw
     case rel =>
       exact ⟨pre ++ [x], rest, sDel T x, by rw [Hx.out]; simp, elems_tail hTs HT0.out, hTs5, rfl, rfl, hR6.out, hs6, hT6.out, hJ6.out⟩
     case measure =>
       have ht := elems_tail hTs HT0.out
       have hlow := elems_sorted T
       rw [HT0.out, List.pairwise_cons] at hlow
       cases hr : rest with
       | nil =>
         rw [hr] at ht
         simp [minB_nil ht, allMeas]
         omega
       | cons y r =>
         rw [hr] at ht
         obtain ⟨q1, q2⟩ := minN_cons ht
         have h1 := hlow.1 y (by rw [hr]; simp)
         have h2 : y < 1024 := elems_lt (S := sDel T x) (by rw [ht]; simp)
         simp [q1, q2, allMeas]
         omega
end Go.Proofs.YteiibpfabgfolaaGreatDoor
