/- Sets of numbers below 1024 as natural numbers, and the array of sixteen words that holds .. -/
import Derived.WalkKit
import Derived.Laws.BitsAllLaws
import Derived.Lib.TrailingZeros
set_option linter.all false
namespace Go.Pal
open Go
def wd (S i : Nat) : Nat := (S >>> (64 * i)) % 18446744073709551616
def words (S : Nat) : Array Value := Array.ofFn (n := 16) fun i => .int .u64 (wd S i.val : Int)
abbrev setV (S : Nat) : Value := .agg (words S)
theorem wd_lt (S i : Nat) : wd S i < 18446744073709551616 := Nat.mod_lt _ (by decide)
theorem words_size (S : Nat) : (words S).size = 16 := by simp [words]
theorem words_get (S : Nat) {i : Nat} (h : i < 16) : (words S)[i]? = some (.int .u64 (wd S i : Int)) := by
 simp [words, h]
theorem words_get' (S : Nat) {n : Int} (h0 : 0 ≤ n) (h1 : n < 16) : (words S)[n.toNat]? = some (.int .u64 (wd S n.toNat : Int)) := words_get S (by omega)
theorem wd_testBit (S i j : Nat) : (wd S i).testBit j = (decide (j < 64) && S.testBit (64 * i + j)) := by
 unfold wd
 rw [show (18446744073709551616 : Nat) = 2 ^ 64 from rfl, Nat.testBit_mod_two_pow, Nat.testBit_shiftRight]
theorem words_congr {S T : Nat} (h : ∀ i, i < 16 → wd S i = wd T i) : words S = words T := by
 unfold words
 congr 1
 funext i
 rw [h i.val i.isLt]
theorem wd_eq_of_testBit {x S i : Nat} (hx : x < 18446744073709551616) (h : ∀ j, j < 64 → x.testBit j = S.testBit (64 * i + j)) : x = wd S i := by
 apply Nat.eq_of_testBit_eq
 intro j
 rw [wd_testBit]
 by_cases hj : j < 64
 · simp [hj, h j hj]
 · simp only [hj, decide_false, Bool.false_and]
   exact Nat.testBit_lt_two_pow (Nat.lt_of_lt_of_le hx (by rw [show (18446744073709551616 : Nat) = 2 ^ 64 from rfl]; exact Nat.pow_le_pow_right (by decide) (by omega)))
theorem words_set {S T i x : Nat} (_hi : i < 16) (hx : x = wd T i) (ho : ∀ j, j < 16 → j ≠ i → wd S j = wd T j) : (words S).setIfInBounds i (.int .u64 (x : Int)) = words T := by
 apply Array.ext_getElem?
 intro j
 by_cases hj : j < 16
 · rw [words_get T hj]
   by_cases hji : i = j
   · subst hji
     rw [Array.getElem?_setIfInBounds_self_of_lt (by rw [words_size]; exact hj), hx]
   · rw [Array.getElem?_setIfInBounds_ne hji, words_get S hj, ho j hj (fun e => hji e.symm)]
 · rw [Array.getElem?_eq_none (by simp [words_size]; omega), Array.getElem?_eq_none (by rw [words_size]; omega)]
def sIns (S n : Nat) : Nat := S ||| (1 <<< n)
def sDel (S n : Nat) : Nat := S ^^^ (S &&& (1 <<< n))
def sHas (S n : Nat) : Bool := S.testBit n
def sDiff (S T : Nat) : Nat := S ^^^ (S &&& T)
theorem testBit_one_shift (n m : Nat) : (1 <<< n).testBit m = decide (n = m) := by
 rw [Nat.one_shiftLeft, Nat.testBit_two_pow]
theorem sIns_testBit (S n m : Nat) : (sIns S n).testBit m = (S.testBit m || decide (n = m)) := by
 rw [sIns, Nat.testBit_or, testBit_one_shift]
theorem sDel_testBit (S n m : Nat) : (sDel S n).testBit m = (S.testBit m && !decide (n = m)) := by
 rw [sDel, Nat.testBit_xor, Nat.testBit_and, testBit_one_shift]
 cases S.testBit m <;> cases decide (n = m) <;> rfl
theorem sDiff_testBit (S T m : Nat) : (sDiff S T).testBit m = (S.testBit m && !T.testBit m) := by
 rw [sDiff, Nat.testBit_xor, Nat.testBit_and]
 cases S.testBit m <;> cases T.testBit m <;> rfl
theorem pow_lt_word {k : Nat} (h : k < 64) : 2 ^ k < 18446744073709551616 := by
 rw [show (18446744073709551616 : Nat) = 2 ^ 64 from rfl]; exact Nat.pow_lt_pow_right (by decide) h
theorem or_lt_word {a b : Nat} (ha : a < 18446744073709551616) (hb : b < 18446744073709551616) : a ||| b < 18446744073709551616 := by
 rw [show (18446744073709551616 : Nat) = 2 ^ 64 from rfl] at *; exact Nat.or_lt_two_pow ha hb
theorem and_lt_word {a b : Nat} (ha : a < 18446744073709551616) : a &&& b < 18446744073709551616 := Nat.lt_of_le_of_lt Nat.and_le_left ha
def bitN (n : Nat) : Nat := 2 ^ (n % 64)
theorem bitN_lt (n : Nat) : bitN n < 18446744073709551616 := pow_lt_word (Nat.mod_lt _ (by decide))
theorem words_ins (S : Nat) {n : Nat} (h : n < 1024) : (words S).setIfInBounds (n / 64) (.int .u64 ((wd S (n / 64) ||| bitN n : Nat) : Int)) = words (sIns S n) := by
 unfold bitN
 have hp : 2 ^ (n % 64) < 18446744073709551616 := pow_lt_word (Nat.mod_lt _ (by decide))
 refine words_set (by omega) ?_ ?_
 · refine wd_eq_of_testBit (or_lt_word (wd_lt _ _) hp) fun j hj => ?_
   rw [Nat.testBit_or, wd_testBit, sIns_testBit, Nat.testBit_two_pow]
   simp only [hj, decide_true, Bool.true_and]
   congr 1
   rw [decide_eq_decide]
   omega
 · intro j hj hne
   refine wd_eq_of_testBit (wd_lt _ _) fun k hk => ?_
   rw [wd_testBit, sIns_testBit]
   have : ¬ n = 64 * j + k := by omega
   simp [hk, this]
theorem words_del (S : Nat) {n : Nat} (h : n < 1024) : (words S).setIfInBounds (n / 64) (.int .u64 ((wd S (n / 64) &&& (18446744073709551615 - bitN n) : Nat) : Int)) = words (sDel S n) := by
 unfold bitN
 have hp : n % 64 < 64 := Nat.mod_lt _ (by decide)
 refine words_set (by omega) ?_ ?_
 · refine wd_eq_of_testBit (and_lt_word (wd_lt _ _)) fun j hj => ?_
   rw [Nat.testBit_and, wd_testBit, sDel_testBit, show (18446744073709551615 : Nat) - 2 ^ (n % 64) = 2 ^ 64 - (2 ^ (n % 64) + 1) by have := pow_lt_word hp; omega, Nat.testBit_two_pow_sub_succ (pow_lt_word hp), Nat.testBit_two_pow]
   simp only [hj, decide_true, Bool.true_and]
   congr 2
   rw [decide_eq_decide]
   omega
 · intro j hj hne
   refine wd_eq_of_testBit (wd_lt _ _) fun k hk => ?_
   rw [wd_testBit, sDel_testBit]
   have : ¬ n = 64 * j + k := by omega
   simp [hk, this]
def mixW (T S k : Nat) : Array Value := Array.ofFn (n := 16) fun i => .int .u64 ((if i.val < k then wd T i.val else wd S i.val : Nat) : Int)
theorem mixW_zero (T S : Nat) : mixW T S 0 = words S := by simp [mixW, words]
theorem mixW_all (T S : Nat) : mixW T S 16 = words T := by
 unfold mixW words; congr 1; funext i; simp [i.isLt]
theorem mixW_size (T S k : Nat) : (mixW T S k).size = 16 := by simp [mixW]
theorem mixW_get (T S k : Nat) {i : Nat} (h : i < 16) (hk : k ≤ i) : (mixW T S k)[i]? = some (.int .u64 (wd S i : Int)) := by
 simp [mixW, h, Nat.not_lt.2 hk]
theorem mixW_set (T S k : Nat) (_h : k < 16) {x : Nat} (hx : x = wd T k) : (mixW T S k).setIfInBounds k (.int .u64 (x : Int)) = mixW T S (k + 1) := by
 apply Array.ext_getElem?
 intro j
 by_cases hj : j < 16
 · by_cases hji : k = j
   · subst hji
     rw [Array.getElem?_setIfInBounds_self_of_lt (by rw [mixW_size]; exact hj), hx]
     simp [mixW, hj]
   · rw [Array.getElem?_setIfInBounds_ne hji]
     have : (j < k) = (j < k + 1) := by apply propext; omega
     simp [mixW, hj, this]
 · rw [Array.getElem?_eq_none (by simp [mixW_size]; omega), Array.getElem?_eq_none (by rw [mixW_size]; omega)]
theorem wd_or (S T i : Nat) : wd S i ||| wd T i = wd (S ||| T) i := by
 refine wd_eq_of_testBit (or_lt_word (wd_lt _ _) (wd_lt _ _)) fun j hj => ?_
 simp [Nat.testBit_or, wd_testBit, hj]
theorem wd_and (S T i : Nat) : wd S i &&& wd T i = wd (S &&& T) i := by
 refine wd_eq_of_testBit (and_lt_word (wd_lt _ _)) fun j hj => ?_
 simp [Nat.testBit_and, wd_testBit, hj]
theorem wd_diff (S T i : Nat) : wd S i &&& (18446744073709551615 - wd T i) = wd (sDiff S T) i := by
 refine wd_eq_of_testBit (and_lt_word (wd_lt _ _)) fun j hj => ?_
 rw [Nat.testBit_and, sDiff_testBit, show (18446744073709551615 : Nat) - wd T i = 2 ^ 64 - (wd T i + 1) by have := wd_lt T i; omega, Nat.testBit_two_pow_sub_succ (wd_lt T i), wd_testBit, wd_testBit]
 simp [hj]
def IsSet (S : Nat) : Prop := ∀ n, S.testBit n = true → n < 1024
theorem IsSet.bit {S : Nat} (h : IsSet S) {n : Nat} (hn : S.testBit n = true) : n < 1024 := h n hn
theorem isSet_of {S : Nat} (h : ∀ n, S.testBit n = true → n < 1024) : IsSet S := h
theorem isSet_zero : IsSet 0 := fun n h => by simp at h
theorem isSet_of_lt {S k : Nat} (h : S < 2 ^ k) (hk : k ≤ 1024) : IsSet S := fun n hn => by
 rcases Nat.lt_or_ge n 1024 with h' | h'
 · exact h'
 · rw [Nat.testBit_lt_two_pow (Nat.lt_of_lt_of_le h (Nat.pow_le_pow_right (by decide) (by omega)))] at hn
   cases hn
theorem isSet_ins {S n : Nat} (h : IsSet S) (hn : n < 1024) : IsSet (sIns S n) := isSet_of fun m hm => by
 rw [sIns_testBit] at hm
 simp only [Bool.or_eq_true, decide_eq_true_eq] at hm
 rcases hm with hm | hm
 · exact h.bit hm
 · omega
theorem isSet_del {S n : Nat} (h : IsSet S) : IsSet (sDel S n) := isSet_of fun m hm => by
 rw [sDel_testBit] at hm
 simp only [Bool.and_eq_true] at hm
 exact h.bit hm.1
theorem isSet_diff {S T : Nat} (h : IsSet S) : IsSet (sDiff S T) := isSet_of fun m hm => by
 rw [sDiff_testBit] at hm
 simp only [Bool.and_eq_true] at hm
 exact h.bit hm.1
theorem isSet_or {S T : Nat} (h : IsSet S) (k : IsSet T) : IsSet (S ||| T) := isSet_of fun m hm => by
 rw [Nat.testBit_or] at hm
 simp only [Bool.or_eq_true] at hm
 rcases hm with hm | hm
 · exact h.bit hm
 · exact k.bit hm
theorem isSet_and {S T : Nat} (h : IsSet S) : IsSet (S &&& T) := isSet_of fun m hm => by
 rw [Nat.testBit_and] at hm
 simp only [Bool.and_eq_true] at hm
 exact h.bit hm.1
theorem set_ext {S T : Nat} (hS : IsSet S) (hT : IsSet T) (h : ∀ i, i < 16 → wd S i = wd T i) : S = T := by
 apply Nat.eq_of_testBit_eq
 intro m
 by_cases hm : m < 1024
 · have h1 := wd_testBit S (m / 64) (m % 64)
   have h2 := wd_testBit T (m / 64) (m % 64)
   rw [h (m / 64) (by omega)] at h1
   rw [h1] at h2
   have hlt : m % 64 < 64 := Nat.mod_lt _ (by decide)
   simp only [hlt, decide_true, Bool.true_and] at h2
   rw [show 64 * (m / 64) + m % 64 = m by omega] at h2
   exact h2
 · cases h1 : S.testBit m with
   | true => exact absurd (hS.bit h1) hm
   | false => cases h2 : T.testBit m with
     | true => exact absurd (hT.bit h2) hm
     | false => rfl
theorem words_inj {S T : Nat} (hS : IsSet S) (hT : IsSet T) (h : words S = words T) : S = T :=
 set_ext hS hT fun i hi => by
   have h1 := words_get S hi
   rw [h, words_get T hi] at h1
   simp only [Option.some.injEq, Value.int.injEq, true_and] at h1
   omega
def ofWords : List Nat → Nat
 | [] => 0
 | x :: r => x + 18446744073709551616 * ofWords r
theorem ofWords_lt : ∀ (l : List Nat), (∀ x ∈ l, x < 18446744073709551616) → ofWords l < 2 ^ (64 * l.length)
 | [], _ => by simp [ofWords]
 | x :: r, h => by
   have h1 := h x (by simp)
   have h2 := ofWords_lt r (fun y hy => h y (by simp [hy]))
   simp only [ofWords, List.length_cons]
   rw [show 64 * (r.length + 1) = 64 * r.length + 64 by omega, Nat.pow_add]
   have : (2 : Nat) ^ 64 = 18446744073709551616 := rfl
   rw [this]
   omega
theorem wd_ofWords : ∀ (l : List Nat) (i : Nat), (∀ x ∈ l, x < 18446744073709551616) → wd (ofWords l) i = l.getD i 0
 | [], i, _ => by simp [ofWords, wd]
 | x :: r, 0, h => by
   have h1 := h x (by simp)
   simp only [ofWords, wd, Nat.mul_zero, Nat.shiftRight_zero, List.getD_cons_zero]
   omega
 | x :: r, i + 1, h => by
   have h1 := h x (by simp)
   have ih := wd_ofWords r i (fun y hy => h y (by simp [hy]))
   simp only [List.getD_cons_succ]
   rw [← ih]
   unfold wd
   rw [show 64 * (i + 1) = 64 + 64 * i by omega, Nat.shiftRight_add]
   congr 2
   rw [ofWords, Nat.shiftRight_eq_div_pow]
   have : (2 : Nat) ^ 64 = 18446744073709551616 := rfl
   rw [this]
   omega
def eqW (S T : Nat) : Bool := (List.range' 0 16).all fun i => (wd S i : Int) == (wd T i : Int)
theorem eqW_iff {S T : Nat} (hS : IsSet S) (hT : IsSet T) : eqW S T = decide (S = T) := by
 by_cases h : S = T
 · subst h
   simp [eqW]
 · rw [decide_eq_false h]
   cases hb : eqW S T with
   | false => rfl
   | true =>
     refine absurd (set_ext hS hT fun i hi => ?_) h
     unfold eqW at hb
     rw [List.all_eq_true] at hb
     have := hb i (by simp [List.mem_range'_1]; omega)
     simp only [beq_iff_eq] at this
     omega
def elems (S : Nat) : List Nat := (List.range 1024).filter fun n => S.testBit n
theorem mem_elems {S n : Nat} (hS : IsSet S) : n ∈ elems S ↔ S.testBit n = true := by
 unfold elems
 rw [List.mem_filter, List.mem_range]
 exact ⟨fun h => h.2, fun h => ⟨hS.bit h, h⟩⟩
theorem elems_lt {S n : Nat} (h : n ∈ elems S) : n < 1024 := by
 unfold elems at h
 rw [List.mem_filter, List.mem_range] at h
 exact h.1
theorem elems_bit {S n : Nat} (h : n ∈ elems S) : S.testBit n = true := by
 unfold elems at h
 rw [List.mem_filter] at h
 exact h.2
theorem elems_sorted (S : Nat) : (elems S).Pairwise (· < ·) := List.Pairwise.filter _ List.pairwise_lt_range
theorem elems_nodup (S : Nat) : (elems S).Nodup := (elems_sorted S).imp fun h => Nat.ne_of_lt h
theorem set_ext_bits {S T : Nat} (hS : IsSet S) (hT : IsSet T) (h : ∀ n, n < 1024 → S.testBit n = T.testBit n) : S = T := by
 apply Nat.eq_of_testBit_eq
 intro m
 by_cases hm : m < 1024
 · exact h m hm
 · cases h1 : S.testBit m with
   | true => exact absurd (hS.bit h1) hm
   | false => cases h2 : T.testBit m with
     | true => exact absurd (hT.bit h2) hm
     | false => rfl
theorem elems_zero : elems 0 = [] := by
 unfold elems
 rw [List.filter_eq_nil_iff]
 simp
theorem elems_eq_nil {S : Nat} (hS : IsSet S) (h : elems S = []) : S = 0 := set_ext_bits hS isSet_zero fun n _ => by
 cases hb : S.testBit n with
 | true => have := (mem_elems hS).2 hb; rw [h] at this; cases this
 | false => simp
theorem elems_cons {S n : Nat} (hS : IsSet S) (hn : S.testBit n = true) (hl : ∀ m, m < n → S.testBit m = false) : elems S = n :: elems (sDel S n) := by
 have hd : elems (sDel S n) = (elems S).filter fun m => !decide (n = m) := by
   unfold elems
   rw [List.filter_filter]
   apply List.filter_congr
   intro m _
   rw [sDel_testBit]
   cases S.testBit m <;> cases decide (n = m) <;> rfl
 have hm := (mem_elems hS).2 hn
 cases he : elems S with
 | nil => rw [he] at hm; cases hm
 | cons a r =>
   have hs := elems_sorted S
   rw [he, List.pairwise_cons] at hs
   have ha : S.testBit a = true := elems_bit (by rw [he]; simp)
   have han : a = n := by
     rw [he] at hm
     rcases List.mem_cons.1 hm with h | h
     · exact h.symm
     · have h1 := hs.1 n h
       rw [hl a h1] at ha
       cases ha
   subst han
   rw [hd, he]
   simp only [List.filter_cons, decide_true, Bool.not_true, Bool.false_eq_true, if_false, List.cons.injEq, true_and]
   rw [List.filter_eq_self.2]
   intro m hmr
   have := hs.1 m hmr
   simp
   omega
theorem least_of_word {S i : Nat} (h0 : ∀ j, j < i → wd S j = 0) (hi : wd S i ≠ 0) : S.testBit (64 * i + Lib.ctz 64 (wd S i)) = true ∧ (∀ m, m < 64 * i + Lib.ctz 64 (wd S i) → S.testBit m = false) ∧ Lib.ctz 64 (wd S i) < 64 := by
 have hlt := wd_lt S i
 have hpos : 0 < wd S i := Nat.pos_of_ne_zero hi
 have hc : Lib.ctz 64 (wd S i) = Lib.ctzFrom 64 (wd S i) := by simp [Lib.ctz, hi]
 obtain ⟨m, hm, hk⟩ := Lib.ctzFrom_spec 64 (wd S i) hpos (by rw [show (2 : Nat) ^ 64 = 18446744073709551616 from rfl]; exact hlt)
 rw [hc]
 generalize Lib.ctzFrom 64 (wd S i) = k at *
 have low : ∀ j, j < 64 → (wd S i).testBit j = (decide (k ≤ j) && (2 * m + 1).testBit (j - k)) := fun j _ => by
   rw [hm, Nat.mul_comm, Nat.testBit_mul_two_pow]
 refine ⟨?_, fun q hq => ?_, hk⟩
 · have := low k hk
   rw [wd_testBit] at this
   simpa [hk] using this
 · by_cases hqi : q < 64 * i
   · have h1 := wd_testBit S (q / 64) (q % 64)
     rw [h0 (q / 64) (by omega)] at h1
     have : q % 64 < 64 := Nat.mod_lt _ (by decide)
     simp only [Nat.zero_testBit, this, decide_true, Bool.true_and] at h1
     rw [show 64 * (q / 64) + q % 64 = q by omega] at h1
     exact h1.symm
   · have hj : q - 64 * i < 64 := by omega
     have h2 := low (q - 64 * i) hj
     rw [wd_testBit] at h2
     have h3 : ¬ k ≤ q - 64 * i := by omega
     simp only [hj, decide_true, Bool.true_and, h3, decide_false, Bool.false_and] at h2
     rw [show 64 * i + (q - 64 * i) = q by omega] at h2
     exact h2
theorem zero_of_words {S : Nat} (hS : IsSet S) (h : ∀ j, j < 16 → wd S j = 0) : S = 0 :=
 set_ext hS isSet_zero fun i hi => by rw [h i hi]; simp [wd]
def sMin (S : Nat) : Option Nat := (elems S).head?
theorem sMin_some {S n : Nat} (hS : IsSet S) (hn : S.testBit n = true) (hl : ∀ m, m < n → S.testBit m = false) : sMin S = some n := by rw [sMin, elems_cons hS hn hl]; rfl
theorem sMin_zero : sMin 0 = none := by rw [sMin, elems_zero]; rfl
attribute [irreducible] elems sMin
def minN (S : Nat) : Int := ((sMin S).getD 0 : Nat)
def minB (S : Nat) : Bool := (sMin S).isSome
abbrev minV (S : Nat) : Value := .tuple #[.int .i64 (minN S), .bool (minB S)]
theorem minV_some {S n : Nat} (h : sMin S = some n) : minV S = .tuple #[.int .i64 (n : Int), .bool true] := by simp only [minV, minN, minB, h]; rfl
theorem minV_zero : minV 0 = .tuple #[.int .i64 0, .bool false] := by simp only [minV, minN, minB, sMin_zero]; rfl
theorem minN_cons {S n : Nat} {r : List Nat} (h : elems S = n :: r) : minN S = n ∧ minB S = true := by
 have : sMin S = some n := by unfold sMin; rw [h]; rfl
 simp [minN, minB, this]
theorem minB_nil {S : Nat} (h : elems S = []) : minB S = false := by
 have : sMin S = none := by unfold sMin; rw [h]; rfl
 simp [minB, this]
theorem elems_tail {S n : Nat} {r : List Nat} (hS : IsSet S) (h : elems S = n :: r) : elems (sDel S n) = r := by
 have hs := elems_sorted S
 rw [h, List.pairwise_cons] at hs
 have h1 := elems_cons (n := n) hS (elems_bit (by rw [h]; simp)) fun m hm => by
   cases hb : S.testBit m with
   | false => rfl
   | true =>
     have hmem := (mem_elems hS).2 hb
     rw [h] at hmem
     rcases List.mem_cons.1 hmem with e | e
     · omega
     · have := hs.1 m e
       omega
 rw [h] at h1
 exact (List.cons.inj h1).2.symm
def popW : Nat → Nat → Nat
 | 0, _ => 0
 | f + 1, x => x % 2 + popW f (x / 2)
def elemsI (S : Nat) : List Int := (elems S).map fun i : Nat => (i : Int)
theorem elemsI_length (S : Nat) : (elemsI S).length ≤ 1024 := by
 unfold elemsI elems
 rw [List.length_map]
 exact Nat.le_trans (List.length_filter_le _ _) (by simp)
theorem mem_elemsI {S : Nat} (hS : IsSet S) {n : Nat} : (n : Int) ∈ elemsI S ↔ S.testBit n = true := by
 unfold elemsI
 rw [List.mem_map, ← mem_elems hS]
 exact ⟨fun ⟨a, ha, h⟩ => by rwa [show n = a by omega], fun h => ⟨n, h, rfl⟩⟩
theorem elemsI_nat {S : Nat} {z : Int} (h : z ∈ elemsI S) : ∃ n : Nat, z = n ∧ n < 1024 ∧ S.testBit n = true := by
 obtain ⟨a, ha, rfl⟩ := List.mem_map.1 h
 exact ⟨a, rfl, elems_lt ha, elems_bit ha⟩
theorem elemsI_sorted (S : Nat) : (elemsI S).Pairwise (· < ·) := by
 unfold elemsI
 rw [List.pairwise_map]
 exact (elems_sorted S).imp fun h => by omega
theorem sorted_ext : ∀ {l l' : List Int}, l.Pairwise (· < ·) → l'.Pairwise (· < ·) → (∀ x, x ∈ l ↔ x ∈ l') → l = l'
 | [], [], _, _, _ => rfl
 | [], y :: ys, _, _, h => by have := (h y).2 (by simp); simp at this
 | x :: xs, [], _, _, h => by have := (h x).1 (by simp); simp at this
 | x :: xs, y :: ys, h1, h2, h => by
   rw [List.pairwise_cons] at h1 h2
   have hxy : x = y := by
     rcases List.mem_cons.1 ((h x).1 (by simp)) with e | e
     · exact e
     · rcases List.mem_cons.1 ((h y).2 (by simp)) with e' | e'
       · exact e'.symm
       · have := h1.1 y e'; have := h2.1 x e; omega
   subst hxy
   rw [sorted_ext h1.2 h2.2 fun z => ?_]
   constructor
   · intro hz
     rcases List.mem_cons.1 ((h z).1 (List.mem_cons_of_mem _ hz)) with e | e
     · have := h1.1 z hz; omega
     · exact e
   · intro hz
     rcases List.mem_cons.1 ((h z).2 (List.mem_cons_of_mem _ hz)) with e | e
     · have := h2.1 z hz; omega
     · exact e
theorem elemsI_of {l : List Int} {S : Nat} (hS : IsSet S) (h : l.Pairwise (· < ·)) (h0 : ∀ x ∈ l, 0 ≤ x) (hm : ∀ n : Nat, (n : Int) ∈ l ↔ S.testBit n = true) : l = elemsI S := by
 refine sorted_ext h (elemsI_sorted S) fun x => ?_
 constructor
 · intro hx
   have := h0 x hx
   obtain ⟨n, rfl⟩ : ∃ n : Nat, x = n := ⟨x.toNat, by omega⟩
   exact (mem_elemsI hS).2 ((hm n).1 hx)
 · intro hx
   obtain ⟨n, rfl, _, hb⟩ := elemsI_nat hx
   exact (hm n).2 hb
def wStep (n : Int) (p : List Int × Bool) (x : Int) : List Int × Bool := if p.2 = false ∧ n < x then (p.1 ++ [n, x], true) else (p.1 ++ [x], p.2)
def wEnd (n : Int) (p : List Int × Bool) : List Int := if p.2 = false then p.1 ++ [n] else p.1
def insL (n : Int) : List Int → List Int
 | [] => [n]
 | x :: xs => if n < x then n :: x :: xs else x :: insL n xs
theorem wStep_true (n : Int) : ∀ (xs acc : List Int), xs.foldl (wStep n) (acc, true) = (acc ++ xs, true)
 | [], acc => by simp
 | x :: xs, acc => by
   rw [List.foldl_cons, show wStep n (acc, true) x = (acc ++ [x], true) by simp [wStep], wStep_true n xs]
   simp
theorem wEnd_foldl (n : Int) : ∀ (xs acc : List Int), wEnd n (xs.foldl (wStep n) (acc, false)) = acc ++ insL n xs
 | [], acc => by simp [wEnd, insL]
 | x :: xs, acc => by
   rw [List.foldl_cons]
   by_cases h : n < x
   · rw [show wStep n (acc, false) x = (acc ++ [n, x], true) by simp [wStep, h], wStep_true]
     simp [wEnd, insL, h]
   · rw [show wStep n (acc, false) x = (acc ++ [x], false) by simp [wStep, h], wEnd_foldl n xs]
     simp [insL, h]
theorem mem_insL (n y : Int) : ∀ xs, y ∈ insL n xs ↔ y = n ∨ y ∈ xs
 | [] => by simp [insL]
 | x :: xs => by
   unfold insL
   split
   · simp
   · rw [List.mem_cons, mem_insL n y xs, List.mem_cons]
     constructor
     · rintro (h | h | h) <;> simp [h]
     · rintro (h | h | h) <;> simp [h]
theorem insL_sorted (n : Int) : ∀ xs : List Int, xs.Pairwise (· < ·) → n ∉ xs → (insL n xs).Pairwise (· < ·)
 | [], _, _ => by simp [insL]
 | x :: xs, h, hn => by
   rw [List.pairwise_cons] at h
   have hne : ¬ n = x := fun e => hn (by simp [e])
   unfold insL
   split
   · rename_i hlt
     rw [List.pairwise_cons]
     refine ⟨fun y hy => ?_, List.pairwise_cons.2 h⟩
     rcases List.mem_cons.1 hy with rfl | hy
     · exact hlt
     · have := h.1 y hy; omega
   · rw [List.pairwise_cons]
     refine ⟨fun y hy => ?_, insL_sorted n xs h.2 fun hm => hn (List.mem_cons_of_mem _ hm)⟩
     rcases (mem_insL n y xs).1 hy with rfl | hy
     · omega
     · exact h.1 y hy
theorem insL_length (n : Int) : ∀ xs : List Int, (insL n xs).length = xs.length + 1
 | [] => rfl
 | x :: xs => by
   unfold insL
   split
   · rfl
   · simp [insL_length n xs]
theorem sIns_same {S n : Nat} (h : S.testBit n = true) : sIns S n = S := by
 apply Nat.eq_of_testBit_eq
 intro m
 rw [sIns_testBit]
 by_cases hm : n = m
 · subst hm; simp [h]
 · simp [hm]
theorem insL_elemsI {S n : Nat} (hS : IsSet S) (hn : n < 1024) (h : S.testBit n = false) : insL (n : Int) (elemsI S) = elemsI (sIns S n) := by
 refine elemsI_of (isSet_ins hS hn) (insL_sorted _ _ (elemsI_sorted S) fun hm => ?_) (fun x hx => ?_) fun m => ?_
 · rw [mem_elemsI hS] at hm; rw [h] at hm; cases hm
 · rcases (mem_insL _ _ _).1 hx with rfl | hx
   · omega
   · obtain ⟨k, rfl, _⟩ := elemsI_nat hx; omega
 · rw [mem_insL, mem_elemsI hS, sIns_testBit, Bool.or_eq_true, decide_eq_true_eq]
   constructor
   · rintro (h | h)
     · exact .inr (by omega)
     · exact .inl h
   · rintro (h | h)
     · exact .inr h
     · exact .inl (by omega)
theorem elemsI_and {A B : Nat} (hA : IsSet A) (hB : IsSet B) : ((elemsI A).filter fun z => decide (z ∈ elemsI B)) = elemsI (A &&& B) := by
 refine elemsI_of (isSet_and hA) (List.Pairwise.filter _ (elemsI_sorted A)) (fun x hx => ?_) fun m => ?_
 · obtain ⟨k, rfl, _⟩ := elemsI_nat (List.mem_filter.1 hx).1
   omega
 · rw [List.mem_filter, mem_elemsI hA, decide_eq_true_eq, mem_elemsI hB, Nat.testBit_and, Bool.and_eq_true]
theorem foldl_sIns_bit (l : List Nat) : ∀ (S m : Nat), (l.foldl sIns S).testBit m = (S.testBit m || decide (m ∈ l)) := by
 induction l with
 | nil => intro S m; simp
 | cons x xs ih =>
   intro S m
   rw [List.foldl_cons, ih, sIns_testBit]
   by_cases h1 : S.testBit m <;> by_cases h2 : x = m <;> simp [h1, h2, eq_comm]
theorem foldl_sIns_or {A B : Nat} (hB : IsSet B) : (elems B).foldl sIns A = A ||| B := by
 apply Nat.eq_of_testBit_eq
 intro m
 rw [foldl_sIns_bit, Nat.testBit_or]
 congr 1
 rw [Bool.eq_iff_iff, decide_eq_true_eq, mem_elems hB]
theorem isSet_foldl {l : List Nat} (h : ∀ x ∈ l, x < 1024) : ∀ {S : Nat}, IsSet S → IsSet (l.foldl sIns S) := by
 induction l with
 | nil => intro S hS; exact hS
 | cons x xs ih => intro S hS; exact ih (fun y hy => h y (List.mem_cons_of_mem _ hy)) (isSet_ins hS (h x (by simp)))
theorem elemsI_zero : elemsI 0 = [] := by simp [elemsI, elems_zero]
theorem elemsI_get {S k : Nat} {z : Int} (h : (elemsI S)[k]? = some z) : ∃ n : Nat, (elems S)[k]? = some n ∧ z = n ∧ n < 1024 := by
 unfold elemsI at h
 rw [List.getElem?_map] at h
 obtain ⟨n, hn, rfl⟩ := Option.map_eq_some_iff.1 h
 exact ⟨n, hn, rfl, elems_lt (List.mem_of_getElem? hn)⟩
def belowI (S : Nat) (k : Nat) : List Int := ((List.range k).filter fun n => S.testBit n).map fun i : Nat => (i : Int)
theorem belowI_zero (S : Nat) : belowI S 0 = [] := rfl
theorem belowI_succ (S k : Nat) : belowI S (k + 1) = belowI S k ++ if S.testBit k then [(k : Int)] else [] := by
 unfold belowI
 rw [List.range_succ, List.filter_append, List.map_append]
 congr 1
 by_cases h : S.testBit k <;> simp [h]
theorem belowI_all (S : Nat) : belowI S 1024 = elemsI S := by unfold belowI elemsI elems; with_reducible rfl
theorem belowI_length (S k : Nat) : (belowI S k).length ≤ k := by
 unfold belowI
 rw [List.length_map]
 exact Nat.le_trans (List.length_filter_le _ _) (by simp)
theorem elemsI_inj {S T : Nat} (hS : IsSet S) (hT : IsSet T) (h : elemsI S = elemsI T) : S = T := by
 refine set_ext_bits hS hT fun n _ => ?_
 rw [Bool.eq_iff_iff, ← mem_elemsI hS, ← mem_elemsI hT, h]
def oc1 (x : Nat) : Nat := (x / 2 &&& 6148914691236517205) + (x &&& 6148914691236517205)
def oc2 (x : Nat) : Nat := (x / 4 &&& 3689348814741910323) + (x &&& 3689348814741910323)
def oc3 (x : Nat) : Nat := ((x / 16 + x) % 18446744073709551616) &&& 1085102592571150095
def oc4 (x : Nat) : Nat := (x + x / 256) % 18446744073709551616
def oc5 (x : Nat) : Nat := (x + x / 65536) % 18446744073709551616
def oc6 (x : Nat) : Nat := (x + x / 4294967296) % 18446744073709551616
def oc (x : Nat) : Nat := oc6 (oc5 (oc4 (oc3 (oc2 (oc1 x))))) % 128
theorem oc1_lt (x : Nat) : oc1 x < 18446744073709551616 := by
 have h1 : x / 2 &&& 6148914691236517205 ≤ 6148914691236517205 := Nat.and_le_right
 have h2 : x &&& 6148914691236517205 ≤ 6148914691236517205 := Nat.and_le_right
 unfold oc1; omega
theorem oc2_lt (x : Nat) : oc2 x < 18446744073709551616 := by
 have h1 : x / 4 &&& 3689348814741910323 ≤ 3689348814741910323 := Nat.and_le_right
 have h2 : x &&& 3689348814741910323 ≤ 3689348814741910323 := Nat.and_le_right
 unfold oc2; omega
theorem oc3_lt (x : Nat) : oc3 x < 18446744073709551616 := Nat.lt_of_le_of_lt Nat.and_le_right (by decide)
theorem oc4_lt (x : Nat) : oc4 x < 18446744073709551616 := Nat.mod_lt _ (by decide)
theorem oc5_lt (x : Nat) : oc5 x < 18446744073709551616 := Nat.mod_lt _ (by decide)
theorem oc6_lt (x : Nat) : oc6 x < 18446744073709551616 := Nat.mod_lt _ (by decide)
theorem nat_div_cast (x k : Nat) : (x : Int) / (k : Int) = ((x / k : Nat) : Int) := by simp
theorem e1_step (x : Nat) (hx : x < 18446744073709551616) : IntKind.u64.wrap (bits BinOp.and IntKind.u64 ((x : Int) / 2) 6148914691236517205 + bits BinOp.and IntKind.u64 (x : Int) 6148914691236517205) = ((oc1 x : Nat) : Int) := by
 have h := oc1_lt x
 rw [show (x : Int) / 2 = ((x / 2 : Nat) : Int) from rfl, show (6148914691236517205 : Int) = ((6148914691236517205 : Nat) : Int) from rfl, u64_and_nat _ _ (by omega) (by decide), u64_and_nat _ _ hx (by decide), IntKind.wrap_u64]
 unfold oc1 at *
 omega
theorem e2_step (x : Nat) (hx : x < 18446744073709551616) : IntKind.u64.wrap (bits BinOp.and IntKind.u64 ((x : Int) / 4) 3689348814741910323 + bits BinOp.and IntKind.u64 (x : Int) 3689348814741910323) = ((oc2 x : Nat) : Int) := by
 have h := oc2_lt x
 rw [show (x : Int) / 4 = ((x / 4 : Nat) : Int) from rfl, show (3689348814741910323 : Int) = ((3689348814741910323 : Nat) : Int) from rfl, u64_and_nat _ _ (by omega) (by decide), u64_and_nat _ _ hx (by decide), IntKind.wrap_u64]
 unfold oc2 at *
 omega
theorem e3_step (x : Nat) : bits BinOp.and IntKind.u64 (IntKind.u64.wrap ((x : Int) / 16 + (x : Int))) 1085102592571150095 = ((oc3 x : Nat) : Int) := by
 rw [IntKind.wrap_u64, show ((x : Int) / 16 + (x : Int)) % 18446744073709551616 = (((x / 16 + x) % 18446744073709551616 : Nat) : Int) by omega, show (1085102592571150095 : Int) = ((1085102592571150095 : Nat) : Int) from rfl, u64_and_nat _ _ (Nat.mod_lt _ (by decide)) (by decide)]
 rfl
theorem e4_step (x : Nat) : IntKind.u64.wrap ((x : Int) + (x : Int) / 256) = ((oc4 x : Nat) : Int) := by
 rw [IntKind.wrap_u64]; unfold oc4; omega
theorem e5_step (x : Nat) : IntKind.u64.wrap ((x : Int) + (x : Int) / 65536) = ((oc5 x : Nat) : Int) := by
 rw [IntKind.wrap_u64]; unfold oc5; omega
theorem e6_step (x : Nat) : IntKind.u64.wrap ((x : Int) + (x : Int) / 4294967296) = ((oc6 x : Nat) : Int) := by
 rw [IntKind.wrap_u64]; unfold oc6; omega
theorem e7_step (x : Nat) (hx : x < 18446744073709551616) : bits BinOp.and IntKind.i64 (RowKit.wrap64 (x : Int)) 127 = ((x % 128 : Nat) : Int) := by
 rw [← IntWalk.i64_left]
 show IntKind.i64.wrap ((BitVec.ofInt 64 (IntKind.i64.wrap (x : Int)) &&& BitVec.ofInt 64 ((127 : Nat) : Int)).toNat : Int) = _
 have h1 : (BitVec.ofInt 64 (IntKind.i64.wrap (x : Int))).toNat = x := by
   rw [BitVec.toNat_ofInt, IntKind.wrap_i64]
   omega
 rw [BitVec.toNat_and, h1, ofInt_u64 127 (by decide), show (127 : Nat) = 2 ^ 7 - 1 from rfl, Nat.and_two_pow_sub_one_eq_mod, IntKind.wrap_i64]
 omega
def lenS (S : Nat) : Nat := ((List.range 16).map fun i => oc (wd S i)).sum
def lenTo (S k : Nat) : Nat := ((List.range k).map fun i => oc (wd S i)).sum
theorem lenTo_succ (S k : Nat) : lenTo S (k + 1) = lenTo S k + oc (wd S k) := by
 unfold lenTo
 rw [List.range_succ, List.map_append, List.sum_append]
 simp
theorem oc_lt (x : Nat) : oc x < 128 := Nat.mod_lt _ (by decide)
theorem lenTo_le (S k : Nat) : lenTo S k ≤ 127 * k := by
 induction k with
 | zero => simp [lenTo]
 | succ k ih => rw [lenTo_succ]; have := oc_lt (wd S k); omega
abbrev Bg := Int × Nat
def bagA (b : Bg) : Array Value := #[.int .i64 b.1] ++ words b.2
theorem bagA_size (b : Bg) : (bagA b).size = 17 := by simp [bagA, words_size]
theorem bagA_zero (b : Bg) : (bagA b)[0]? = some (.int .i64 b.1) := by
 unfold bagA
 rw [Array.getElem?_append_left (by simp)]
 rfl
theorem bagA_get0 (b : Bg) (h : 0 < (bagA b).size) : (bagA b)[0] = .int .i64 b.1 := by
 have := bagA_zero b
 rw [Array.getElem?_eq_getElem h] at this
 exact Option.some.inj this
theorem bagA_succ (b : Bg) (j : Nat) : (bagA b)[j + 1]? = (words b.2)[j]? := by
 unfold bagA
 rw [Array.getElem?_append_right (by simp)]
 simp
theorem bagA_extract (b : Bg) : (bagA b).extract 1 17 = words b.2 := by
 apply Array.ext_getElem?
 intro j
 by_cases hj : j < 16
 · rw [← bagA_succ, Array.getElem?_extract, bagA_size]
   simp only [Nat.min_self]
   rw [if_pos (by omega), Nat.add_comm]
 · rw [Array.getElem?_eq_none (by simp [bagA_size]; omega), Array.getElem?_eq_none (by rw [words_size]; omega)]
theorem words_one {S : Nat} {v : Value} (h : v ∈ words S) : v.oneCell' = true := by
 obtain ⟨i, rfl⟩ := Array.mem_ofFn.1 h
 rfl
theorem bagA_one (b : Bg) : ∀ v ∈ (bagA b).toList, v.oneCell' = true := by
 intro v hv
 unfold bagA at hv
 rw [Array.toList_append, List.mem_append] at hv
 rcases hv with h | h
 · simp at h; subst h; rfl
 · exact words_one (by simpa using h)
def idx {α : Type} (p : α → Bool) (l : List α) : Int := match l.findIdx? p with
 | some i => i
 | none => -1
theorem idx_none {α : Type} {p : α → Bool} {l : List α} (h : ∀ (i : Nat) x, l[i]? = some x → p x = false) : idx p l = -1 := by
 unfold idx
 have : l.findIdx? p = none := by
   rw [List.findIdx?_eq_none_iff]
   intro x hx
   obtain ⟨i, hi⟩ := List.getElem?_of_mem hx
   exact h i x hi
 rw [this]
theorem idx_some {α : Type} {p : α → Bool} {l : List α} {k : Nat} {x : α} (hx : l[k]? = some x) (hp : p x = true) (h : ∀ (i : Nat) y, i < k → l[i]? = some y → p y = false) : idx p l = k := by
 unfold idx
 have : l.findIdx? p = some k := by
   rw [List.findIdx?_eq_some_iff_getElem]
   obtain ⟨hk, rfl⟩ := List.getElem?_eq_some_iff.1 hx
   refine ⟨hk, hp, fun j hj => ?_⟩
   have := h j _ hj (List.getElem?_eq_getElem (by omega))
   simpa using this
 rw [this]
theorem idx_nonneg {α : Type} (p : α → Bool) (l : List α) : decide (0 ≤ idx p l) = l.any p := by
 unfold idx
 cases h : l.findIdx? p with
 | none =>
   rw [List.findIdx?_eq_none_iff] at h
   have : l.any p = false := by rw [List.any_eq_false]; intro x hx; simp [h x hx]
   rw [this]; rfl
 | some k =>
   rw [List.findIdx?_eq_some_iff_getElem] at h
   obtain ⟨hk, hp, _⟩ := h
   have : l.any p = true := List.any_eq_true.2 ⟨_, List.getElem_mem hk, hp⟩
   rw [this]; simp
def rootsTo (T : List Bg) : Nat → List Int
 | 0 => []
 | k + 1 => rootsTo T k ++ if (T[k]?).map Prod.fst = some (-1) then [(k : Int)] else []
theorem rootsTo_succ {T : List Bg} {k : Nat} {x : Bg} (h : T[k]? = some x) : rootsTo T (k + 1) = rootsTo T k ++ if x.1 = -1 then [(k : Int)] else [] := by
 simp [rootsTo, h]
theorem rootsTo_le (T : List Bg) (k : Nat) : (rootsTo T k).length ≤ k := by
 induction k with
 | zero => simp [rootsTo]
 | succ k ih => simp only [rootsTo, List.length_append]; split <;> simp <;> omega
def kidsTo (T : List Bg) : Nat → Nat → List Int
 | 0, _ => []
 | k + 1, b => kidsTo T k b ++ if (T[k]?).map Prod.fst = some (b : Int) then [(k : Int)] else []
theorem kidsTo_succ {T : List Bg} {k : Nat} {x : Bg} (h : T[k]? = some x) (b : Nat) : kidsTo T (k + 1) b = kidsTo T k b ++ if x.1 = (b : Int) then [(k : Int)] else [] := by
 simp [kidsTo, h]
theorem kidsTo_le (T : List Bg) (k b : Nat) : (kidsTo T k b).length ≤ k := by
 induction k with
 | zero => simp [kidsTo]
 | succ k ih => simp only [kidsTo, List.length_append]; split <;> simp <;> omega
theorem kidsTo_mem {T : List Bg} {k b : Nat} {z : Int} (h : z ∈ kidsTo T k b) : ∃ c : Nat, z = c ∧ c < k ∧ ∃ x, T[c]? = some x ∧ x.1 = (b : Int) := by
 induction k with
 | zero => simp [kidsTo] at h
 | succ k ih =>
   simp only [kidsTo, List.mem_append] at h
   rcases h with h | h
   · obtain ⟨c, h1, h2, h3⟩ := ih h
     exact ⟨c, h1, by omega, h3⟩
   · split at h
     · rename_i hx
       simp only [List.mem_singleton] at h
       cases hT : T[k]? with
       | none => rw [hT] at hx; cases hx
       | some x => rw [hT] at hx; exact ⟨k, h, by omega, x, hT, Option.some.inj hx⟩
     · cases h
theorem rootsTo_mem {T : List Bg} {k : Nat} {z : Int} (h : z ∈ rootsTo T k) : ∃ c : Nat, z = c ∧ ∃ x, T[c]? = some x ∧ x.1 = -1 := by
 induction k with
 | zero => simp [rootsTo] at h
 | succ k ih =>
   simp only [rootsTo, List.mem_append] at h
   rcases h with h | h
   · exact ih h
   · split at h
     · rename_i hx
       simp only [List.mem_singleton] at h
       cases hT : T[k]? with
       | none => rw [hT] at hx; cases hx
       | some x => rw [hT] at hx; exact ⟨k, h, x, hT, Option.some.inj hx⟩
     · cases h
theorem mem_rootsTo {T : List Bg} {k c : Nat} {x : Bg} (hc : c < k) (h : T[c]? = some x) (hp : x.1 = -1) : (c : Int) ∈ rootsTo T k := by
 induction k with
 | zero => omega
 | succ k ih =>
   simp only [rootsTo, List.mem_append]
   by_cases hck : c = k
   · subst hck
     right
     simp [h, hp]
   · exact .inl (ih (by omega))
inductive Tr | node (b : Nat) (ks : List Tr)
def Tr.lab : Tr → Nat | .node b _ => b
def Tr.ks : Tr → List Tr | .node _ ks => ks
mutual
def Tr.sz : Tr → Nat | .node _ ks => 1 + Tr.szs ks
def Tr.szs : List Tr → Nat
 | [] => 0
 | t :: ts => t.sz + Tr.szs ts
end
mutual
def Tr.labs : Tr → List Nat | .node b ks => b :: Tr.labss ks
def Tr.labss : List Tr → List Nat
 | [] => []
 | t :: ts => t.labs ++ Tr.labss ts
end
mutual
def Tr.ds : Tr → Int → List Int → List Int | .node b ks, d, l => Tr.dss ks (d + 1) (l.set b d)
def Tr.dss : List Tr → Int → List Int → List Int
 | [], _, l => l
 | t :: ts, d, l => Tr.dss ts d (t.ds d l)
end
theorem Tr.sz_pos (t : Tr) : 0 < t.sz := by cases t; simp [Tr.sz]; omega
theorem Tr.szs_append (a c : List Tr) : Tr.szs (a ++ c) = Tr.szs a + Tr.szs c := by
 induction a with
 | nil => simp [Tr.szs]
 | cons t ts ih => simp [Tr.szs, ih]; omega
theorem Tr.labss_append (a c : List Tr) : Tr.labss (a ++ c) = Tr.labss a ++ Tr.labss c := by
 induction a with
 | nil => simp [Tr.labss]
 | cons t ts ih => simp [Tr.labss, ih]
theorem Tr.dss_append (a c : List Tr) (d : Int) (l : List Int) : Tr.dss (a ++ c) d l = Tr.dss c d (Tr.dss a d l) := by
 induction a generalizing l with
 | nil => simp [Tr.dss]
 | cons t ts ih => simp [Tr.dss, ih]
theorem Tr.szs_le {t : Tr} {ts : List Tr} (h : t ∈ ts) : t.sz ≤ Tr.szs ts := by
 induction ts with
 | nil => cases h
 | cons u us ih =>
   simp only [Tr.szs]
   rcases List.mem_cons.1 h with rfl | h
   · omega
   · have := ih h; omega
theorem Tr.length_le_szs (ts : List Tr) : ts.length ≤ Tr.szs ts := by
 induction ts with
 | nil => simp
 | cons t ts ih => have := t.sz_pos; simp [Tr.szs]; omega
theorem Tr.induct {p : Tr → Prop} (h : ∀ b ks, (∀ t ∈ ks, p t) → p (.node b ks)) (t : Tr) : p t := by
 generalize hn : t.sz = n
 induction n using Nat.strongRecOn generalizing t with
 | _ n ih =>
   cases t with
   | node b ks =>
     exact h b ks fun u hu => ih u.sz (by have := Tr.szs_le hu; simp [Tr.sz] at hn; omega) u rfl
mutual
theorem Tr.length_labs : (t : Tr) → t.labs.length = t.sz
 | .node b ks => by simp [Tr.labs, Tr.sz, Tr.length_labss ks]; omega
theorem Tr.length_labss : (ts : List Tr) → (Tr.labss ts).length = Tr.szs ts
 | [] => rfl
 | t :: ts => by simp [Tr.labss, Tr.szs, Tr.length_labs t, Tr.length_labss ts]
end
mutual
theorem Tr.length_ds : (t : Tr) → (d : Int) → (l : List Int) → (t.ds d l).length = l.length
 | .node b ks, d, l => by simp [Tr.ds, Tr.length_dss ks]
theorem Tr.length_dss : (ts : List Tr) → (d : Int) → (l : List Int) → (Tr.dss ts d l).length = l.length
 | [], _, _ => rfl
 | t :: ts, d, l => by simp [Tr.dss, Tr.length_dss ts, Tr.length_ds t]
end
inductive Fits (n : Nat) (kids : Nat → List Int) : Tr → Prop
 | mk (b : Nat) (ks : List Tr) (hb : b < n) (hk : kids b = ks.map fun t => (t.lab : Int)) (h : ∀ t ∈ ks, Fits n kids t) : Fits n kids (.node b ks)
theorem Fits.lab {n : Nat} {kids : Nat → List Int} {t : Tr} (h : Fits n kids t) : t.lab < n := by cases h; assumption
theorem Tr.mem_labss {ts : List Tr} {t : Tr} {c : Nat} (ht : t ∈ ts) (hc : c ∈ t.labs) : c ∈ Tr.labss ts := by
 induction ts with
 | nil => cases ht
 | cons u us ih =>
   simp only [Tr.labss, List.mem_append]
   rcases List.mem_cons.1 ht with rfl | h
   · exact .inl hc
   · exact .inr (ih h)
theorem Tr.labss_mem {ts : List Tr} {c : Nat} (hc : c ∈ Tr.labss ts) : ∃ t ∈ ts, c ∈ t.labs := by
 induction ts with
 | nil => simp [Tr.labss] at hc
 | cons u us ih =>
   simp only [Tr.labss, List.mem_append] at hc
   rcases hc with h | h
   · exact ⟨u, by simp, h⟩
   · obtain ⟨t, ht, h'⟩ := ih h
     exact ⟨t, List.mem_cons_of_mem _ ht, h'⟩
theorem Fits.labs_lt {n : Nat} {kids : Nat → List Int} {t : Tr} (h : Fits n kids t) : ∀ c ∈ t.labs, c < n := by
 induction h with
 | mk b ks hb hk h ih =>
   intro c hc
   simp only [Tr.labs, List.mem_cons] at hc
   rcases hc with rfl | hc
   · exact hb
   · obtain ⟨t, ht, h'⟩ := Tr.labss_mem hc
     exact ih t ht c h'
theorem Tr.lab_mem (t : Tr) : t.lab ∈ t.labs := by cases t; simp [Tr.labs, Tr.lab]
def Tr.hS (acc : Option Tr) (k : Tr) : Option Tr :=
 match acc with
 | none => some k
 | some h => if h.sz < k.sz then some k else some h
def Tr.hvL (ks : List Tr) : Option Tr := ks.foldl Tr.hS none
def Tr.hLab : Option Tr → Int
 | none => -1
 | some h => h.lab
theorem Tr.hvL_snoc (ks : List Tr) (k : Tr) : Tr.hvL (ks ++ [k]) = Tr.hS (Tr.hvL ks) k := by simp [Tr.hvL]
theorem Tr.hvL_from {ks : List Tr} : ∀ {acc : Option Tr} {h : Tr}, ks.foldl Tr.hS acc = some h → h ∈ ks ∨ acc = some h := by
 induction ks with
 | nil => exact fun h => .inr h
 | cons k ks ih =>
   intro acc h hh
   rcases ih hh with h1 | h1
   · exact .inl (List.mem_cons_of_mem _ h1)
   · unfold Tr.hS at h1
     split at h1
     · cases h1; exact .inl (by simp)
     · split at h1
       · cases h1; exact .inl (by simp)
       · exact .inr h1
theorem Tr.hvL_mem {ks : List Tr} {h : Tr} (hh : Tr.hvL ks = some h) : h ∈ ks := by
 rcases Tr.hvL_from hh with h1 | h1
 · exact h1
 · cases h1
inductive Sub (t : Tr) : Tr → Prop
 | self : Sub t t
 | kid {u k : Tr} : Sub t u → k ∈ u.ks → Sub t k
theorem Fits.sub {n : Nat} {kids : Nat → List Int} {t u : Tr} (h : Fits n kids t) (hs : Sub t u) : Fits n kids u := by
 induction hs with
 | self => exact h
 | @kid u k _ hk ih =>
   cases ih with
   | mk b ks _ _ hks => exact hks k hk
inductive HPath : Tr → List Tr → Prop
 | last {u : Tr} : Tr.hvL u.ks = none → HPath u [u]
 | cons {u h : Tr} {l : List Tr} : Tr.hvL u.ks = some h → HPath h l → HPath u (u :: l)
theorem HPath.ex (u : Tr) : ∃ l, HPath u l := by
 induction u using Tr.induct with
 | h b ks ih =>
   cases hh : Tr.hvL ks with
   | none => exact ⟨_, .last (u := .node b ks) hh⟩
   | some h =>
     obtain ⟨l, hl⟩ := ih h (Tr.hvL_mem hh)
     exact ⟨_, .cons (u := .node b ks) hh hl⟩
theorem HPath.length_le {u : Tr} {l : List Tr} (h : HPath u l) : l.length ≤ u.sz := by
 induction h with
 | @last u _ => exact u.sz_pos
 | @cons u h l hh _ ih =>
   have h1 := Tr.szs_le (Tr.hvL_mem hh)
   have h2 : u.sz = 1 + Tr.szs u.ks := by cases u; rfl
   simp
   omega
def topS (T : List Bg) (i : Nat) : Nat :=
 match T[i]? with
 | none => 0
 | some x => if x.1 = -1 then x.2 else match T[x.1.toNat]? with
   | none => 0
   | some y => sDiff x.2 y.2
def seenTo (T : List Bg) : Nat → Nat
 | 0 => 0
 | k + 1 => seenTo T k ||| topS T k
structure Valid (T : List Bg) (t : Tr) : Prop where
 pos : 0 < T.length
 le : T.length ≤ 1024
 sets : ∀ x ∈ T, IsSet x.2
 small : ∀ x ∈ T, lenS x.2 ≤ 4
 par : ∀ (i : Nat) x, T[i]? = some x → x.1 = -1 ∨ ∃ p : Nat, x.1 = p ∧ p < T.length
 root : rootsTo T T.length = [(t.lab : Int)]
 fits : Fits T.length (kidsTo T T.length) t
 all : t.sz = T.length
 disj : ∀ i, i < T.length → topS T i &&& seenTo T i = 0
theorem topS_root {T : List Bg} {i : Nat} {x : Bg} (h : T[i]? = some x) (hp : x.1 = -1) : topS T i = x.2 := by simp [topS, h, hp]
theorem topS_other {T : List Bg} {i p : Nat} {x y : Bg} (h : T[i]? = some x) (hp : x.1 = (p : Int)) (hy : T[p]? = some y) : topS T i = sDiff x.2 y.2 := by
 have : ¬ x.1 = -1 := by omega
 simp [topS, h, hp, hy]
theorem Valid.isSet_top {T : List Bg} {t : Tr} (h : Valid T t) (i : Nat) : IsSet (topS T i) := by
 unfold topS
 split
 · exact isSet_zero
 · rename_i x hx
   have h1 := h.sets x (List.mem_of_getElem? hx)
   split
   · exact h1
   · split
     · exact isSet_zero
     · exact isSet_diff h1
theorem Valid.isSet_seen {T : List Bg} {t : Tr} (h : Valid T t) (k : Nat) : IsSet (seenTo T k) := by
 induction k with
 | zero => exact isSet_zero
 | succ k ih => exact isSet_or ih (h.isSet_top k)
def adhS (T : List Bg) (b : Nat) : Nat :=
 match T[b]? with
 | none => 0
 | some x => if x.1 = -1 then 0 else match T[x.1.toNat]? with
   | none => 0
   | some y => x.2 &&& y.2
theorem adhS_root {T : List Bg} {i : Nat} {x : Bg} (h : T[i]? = some x) (hp : x.1 = -1) : adhS T i = 0 := by simp [adhS, h, hp]
theorem adhS_other {T : List Bg} {i p : Nat} {x y : Bg} (h : T[i]? = some x) (hp : x.1 = (p : Int)) (hy : T[p]? = some y) : adhS T i = x.2 &&& y.2 := by
 have : ¬ x.1 = -1 := by omega
 simp [adhS, h, hp, hy]
def bval : List Nat → Nat
 | [] => 0
 | b :: bs => b + 256 * bval bs
def brep (c : Nat) : Nat → Nat
 | 0 => 0
 | n + 1 => c + 256 * brep c n
theorem and_byte {b c q m : Nat} (hb : b < 256) (hc : c < 256) : (b + 256 * q) &&& (c + 256 * m) = (b &&& c) + 256 * (q &&& m) := by
 have h1 : ((b + 256 * q) &&& (c + 256 * m)) % 2 ^ 8 = (b + 256 * q) % 2 ^ 8 &&& (c + 256 * m) % 2 ^ 8 := Nat.and_mod_two_pow ..
 have h2 : ((b + 256 * q) &&& (c + 256 * m)) / 2 ^ 8 = (b + 256 * q) / 2 ^ 8 &&& (c + 256 * m) / 2 ^ 8 := Nat.and_div_two_pow ..
 rw [show (b + 256 * q) % 2 ^ 8 = b by omega, show (c + 256 * m) % 2 ^ 8 = c by omega] at h1
 rw [show (b + 256 * q) / 2 ^ 8 = q by omega, show (c + 256 * m) / 2 ^ 8 = m by omega] at h2
 omega
def t1 (b : Nat) : Nat := (b / 2 &&& 85) + (b &&& 85)
def t2 (b : Nat) : Nat := (b / 4 &&& 51) + (b &&& 51)
def t3 (b : Nat) : Nat := b / 16 + b % 16
theorem byte_all : ∀ b, b < 256 → t1 b < 256 ∧ t2 (t1 b) < 256 ∧ t2 (t1 b) % 16 ≤ 4 ∧ t2 (t1 b) / 16 ≤ 4 ∧ t3 (t2 (t1 b)) = popW 8 b := by decide +kernel
theorem half_85 : ∀ b, b < 256 → (b / 2 &&& 85) = ((b / 2 + 128) &&& 85) := by decide +kernel
theorem quart_51 : ∀ b, b < 256 → (b / 4 &&& 51) = ((b / 4 + 64) &&& 51) ∧ (b / 4 &&& 51) = ((b / 4 + 128) &&& 51) ∧ (b / 4 &&& 51) = ((b / 4 + 192) &&& 51) := by decide +kernel
theorem step1 : ∀ bs : List Nat, (∀ b ∈ bs, b < 256) → (bval bs / 2 &&& brep 85 bs.length) + (bval bs &&& brep 85 bs.length) = bval (bs.map t1)
 | [], _ => by simp [bval, brep]
 | b :: bs, h => by
   have hb := h b (by simp)
   have ih := step1 bs fun c hc => h c (by simp [hc])
   simp only [bval, List.length_cons, brep, List.map_cons]
   rw [and_byte hb (by decide)]
   have e : (b + 256 * bval bs) / 2 = (b / 2 + 128 * (bval bs % 2)) + 256 * (bval bs / 2) := by omega
   rw [e, and_byte (by omega) (by decide)]
   have e2 : (b / 2 + 128 * (bval bs % 2)) &&& 85 = b / 2 &&& 85 := by
     rcases Nat.mod_two_eq_zero_or_one (bval bs) with h0 | h0
     · rw [h0]; rfl
     · rw [h0]; exact (half_85 b hb).symm
   rw [e2, ← ih]
   unfold t1
   omega
theorem step2 : ∀ bs : List Nat, (∀ b ∈ bs, b < 256) → (bval bs / 4 &&& brep 51 bs.length) + (bval bs &&& brep 51 bs.length) = bval (bs.map t2)
 | [], _ => by simp [bval, brep]
 | b :: bs, h => by
   have hb := h b (by simp)
   have ih := step2 bs fun c hc => h c (by simp [hc])
   simp only [bval, List.length_cons, brep, List.map_cons]
   rw [and_byte hb (by decide)]
   have e : (b + 256 * bval bs) / 4 = (b / 4 + 64 * (bval bs % 4)) + 256 * (bval bs / 4) := by omega
   rw [e, and_byte (by omega) (by decide)]
   have e2 : (b / 4 + 64 * (bval bs % 4)) &&& 51 = b / 4 &&& 51 := by
     have hq := quart_51 b hb
     have h4 : bval bs % 4 = 0 ∨ bval bs % 4 = 1 ∨ bval bs % 4 = 2 ∨ bval bs % 4 = 3 := by omega
     rcases h4 with h0 | h0 | h0 | h0
     · rw [h0]; rfl
     · rw [h0]; exact hq.1.symm
     · rw [h0]; exact hq.2.1.symm
     · rw [h0]; exact hq.2.2.symm
   rw [e2, ← ih]
   unfold t2
   omega
theorem and_15 (b : Nat) : b &&& 15 = b % 16 := Nat.and_two_pow_sub_one_eq_mod b 4
theorem step3 : ∀ bs : List Nat, (∀ b ∈ bs, b % 16 ≤ 4 ∧ b / 16 ≤ 4) → bval bs % 16 ≤ 4 ∧ ((bval bs / 16 + bval bs) &&& brep 15 bs.length) = bval (bs.map t3)
 | [], _ => by simp [bval, brep]
 | b :: bs, h => by
   have hb := h b (by simp)
   obtain ⟨h0, ih⟩ := step3 bs fun c hc => h c (by simp [hc])
   simp only [bval, List.length_cons, brep, List.map_cons]
   refine ⟨by omega, ?_⟩
   have e : (b + 256 * bval bs) / 16 + (b + 256 * bval bs) = (b / 16 + b + 16 * (bval bs % 16)) + 256 * (bval bs / 16 + bval bs) := by omega
   rw [e, and_byte (by omega) (by decide), ih, and_15]
   unfold t3
   omega
theorem t3_le {b : Nat} (h : b % 16 ≤ 4 ∧ b / 16 ≤ 4) : t3 b ≤ 8 := by unfold t3; omega
theorem key5 {d0 d1 R : Nat} (h0 : d0 < 256) (h1 : d1 < 256) : (d0 + 256 * (d1 + 256 * R)) / 65536 = R := by omega
theorem key6 {d0 d1 d2 d3 R : Nat} (h0 : d0 < 256) (h1 : d1 < 256) (h2 : d2 < 256) (h3 : d3 < 256) : (d0 + 256 * (d1 + 256 * (d2 + 256 * (d3 + 256 * R)))) / 4294967296 = R := by omega
theorem key7 {d0 r0 A B : Nat} (h : d0 + r0 < 128) : (d0 + 256 * A + (r0 + 256 * B)) % 128 = d0 + r0 := by omega
theorem bval4_lt {d0 d1 d2 d3 R : Nat} (h0 : d0 < 256) (h1 : d1 < 256) (h2 : d2 < 256) (h3 : d3 < 256) (hR : R < 900000000) : d0 + 256 * (d1 + 256 * (d2 + 256 * (d3 + 256 * R))) + R < 18446744073709551616 := by omega
theorem bval4_lt' {d0 d1 d2 d3 : Nat} (h0 : d0 ≤ 48) (h1 : d1 ≤ 48) (h2 : d2 ≤ 48) (h3 : d3 ≤ 48) : d0 + 256 * (d1 + 256 * (d2 + 256 * (d3 + 256 * 0))) < 900000000 := by omega
theorem bval5_lt {d0 d1 R : Nat} (h0 : d0 < 256) (h1 : d1 < 256) (hR : R < 100000000000000) : d0 + 256 * (d1 + 256 * R) + R < 18446744073709551616 := by omega
theorem bval6_lt {d0 d1 R : Nat} (h0 : d0 < 256) (h1 : d1 < 256) (hR : R < 900000000) : d0 + 256 * (d1 + 256 * R) < 100000000000000 := by omega
theorem step4 (c0 c1 c2 c3 c4 c5 c6 c7 : Nat) (h0 : c0 ≤ 8) (h1 : c1 ≤ 8) (h2 : c2 ≤ 8) (h3 : c3 ≤ 8) (h4 : c4 ≤ 8) (h5 : c5 ≤ 8) (h6 : c6 ≤ 8) (h7 : c7 ≤ 8) :
   oc6 (oc5 (oc4 (bval [c0, c1, c2, c3, c4, c5, c6, c7]))) % 128 = c0 + c1 + c2 + c3 + c4 + c5 + c6 + c7 := by
 have e4 : oc4 (bval [c0, c1, c2, c3, c4, c5, c6, c7]) = bval [c0 + c1, c1 + c2, c2 + c3, c3 + c4, c4 + c5, c5 + c6, c6 + c7, c7] := by
   simp only [oc4, bval]; omega
 have e5 : oc5 (bval [c0 + c1, c1 + c2, c2 + c3, c3 + c4, c4 + c5, c5 + c6, c6 + c7, c7]) = bval [c0 + c1 + (c2 + c3), c1 + c2 + (c3 + c4), c2 + c3 + (c4 + c5), c3 + c4 + (c5 + c6), c4 + c5 + (c6 + c7), c5 + c6 + c7, c6 + c7, c7] := by
   simp only [oc5, bval]
   rw [key5 (by omega) (by omega), Nat.mod_eq_of_lt (bval5_lt (by omega) (by omega) (bval6_lt (by omega) (by omega) (bval4_lt' (by omega) (by omega) (by omega) (by omega))))]
   omega
 rw [e4, e5]
 simp only [oc6, bval]
 rw [key6 (by omega) (by omega) (by omega) (by omega), Nat.mod_eq_of_lt (bval4_lt (by omega) (by omega) (by omega) (by omega) (bval4_lt' (by omega) (by omega) (by omega) (by omega))), key7 (by omega)]
 omega
def bytes8 (x : Nat) : List Nat := [x % 256, x / 256 % 256, x / 65536 % 256, x / 16777216 % 256, x / 4294967296 % 256, x / 1099511627776 % 256, x / 281474976710656 % 256, x / 72057594037927936 % 256]
theorem bval_bytes8 {x : Nat} (h : x < 18446744073709551616) : bval (bytes8 x) = x := by
 simp only [bval, bytes8]
 omega
theorem popW_add (m : Nat) : ∀ (n x : Nat), popW (n + m) x = popW n x + popW m (x / 2 ^ n)
 | 0, x => by simp [popW]
 | n + 1, x => by
   rw [show n + 1 + m = (n + m) + 1 by omega, popW, popW, popW_add m n, Nat.div_div_eq_div_mul, Nat.pow_succ, Nat.mul_comm 2]
   omega
theorem popW_mod : ∀ (n x : Nat), popW n (x % 2 ^ n) = popW n x
 | 0, x => rfl
 | n + 1, x => by
   rw [popW, popW]
   have h1 : x % 2 ^ (n + 1) % 2 = x % 2 := by
     rw [Nat.pow_succ, Nat.mul_comm]
     exact Nat.mod_mul_right_mod x 2 (2 ^ n)
   have h2 : x % 2 ^ (n + 1) / 2 = x / 2 % 2 ^ n := by
     rw [Nat.pow_succ, Nat.mul_comm]
     exact Nat.mod_mul_right_div_self x 2 (2 ^ n)
   rw [h1, h2, popW_mod n]
theorem popW_split (n x : Nat) : popW (8 + n) x = popW 8 (x % 256) + popW n (x / 256) := by
 rw [popW_add, show (256 : Nat) = 2 ^ 8 from rfl, popW_mod]
theorem oc_popW {x : Nat} (h : x < 18446744073709551616) : oc x = popW 64 x := by
 have hb : ∀ b ∈ bytes8 x, b < 256 := fun b hb => by
   simp only [bytes8, List.mem_cons, List.not_mem_nil, or_false] at hb
   omega
 have e1 : oc1 x = bval ((bytes8 x).map t1) := by
   have := step1 (bytes8 x) hb
   rw [bval_bytes8 h] at this
   exact this
 have hb1 : ∀ b ∈ (bytes8 x).map t1, b < 256 := fun b hb' => by
   obtain ⟨c, hc, rfl⟩ := List.mem_map.1 hb'
   exact (byte_all c (hb c hc)).1
 have e2 : oc2 (oc1 x) = bval (((bytes8 x).map t1).map t2) := by
   have := step2 _ hb1
   rw [← e1, List.length_map] at this
   exact this
 have hb2 : ∀ b ∈ ((bytes8 x).map t1).map t2, b % 16 ≤ 4 ∧ b / 16 ≤ 4 := fun b hb' => by
   obtain ⟨c, hc, rfl⟩ := List.mem_map.1 hb'
   obtain ⟨d, hd, rfl⟩ := List.mem_map.1 hc
   have := byte_all d (hb d hd)
   exact ⟨this.2.2.1, this.2.2.2.1⟩
 have e3 : oc3 (oc2 (oc1 x)) = bval ((((bytes8 x).map t1).map t2).map t3) := by
   have h3 := (step3 _ hb2).2
   have hlt := oc2_lt (oc1 x)
   have hle : oc2 (oc1 x) / 16 + oc2 (oc1 x) < 18446744073709551616 := by
     have h1 : oc1 x / 4 &&& 3689348814741910323 ≤ 3689348814741910323 := Nat.and_le_right
     have h2 : oc1 x &&& 3689348814741910323 ≤ 3689348814741910323 := Nat.and_le_right
     unfold oc2; omega
   rw [← e2, List.length_map, List.length_map] at h3
   unfold oc3
   rw [Nat.mod_eq_of_lt hle]
   exact h3
 unfold oc
 rw [e3]
 have hl : ∀ b, b < 256 → t3 (t2 (t1 b)) ≤ 8 := fun b hb => by
   have := byte_all b hb
   exact t3_le ⟨this.2.2.1, this.2.2.2.1⟩
 have hp : ∀ b, b < 256 → t3 (t2 (t1 b)) = popW 8 b := fun b hb => (byte_all b hb).2.2.2.2
 have m := fun y : Nat => Nat.mod_lt y (show 0 < 256 by decide)
 simp only [bytes8, List.map_cons, List.map_nil]
 rw [step4 _ _ _ _ _ _ _ _ (hl _ (m _)) (hl _ (m _)) (hl _ (m _)) (hl _ (m _)) (hl _ (m _)) (hl _ (m _)) (hl _ (m _)) (hl _ (m _))]
 rw [hp _ (m _), hp _ (m _), hp _ (m _), hp _ (m _), hp _ (m _), hp _ (m _), hp _ (m _), hp _ (m _)]
 rw [show (64 : Nat) = 8 + (8 + (8 + (8 + (8 + (8 + (8 + (8 + 0))))))) from rfl]
 simp only [popW_split, Nat.div_div_eq_div_mul]
 simp only [Nat.reduceMul, popW]
 omega
theorem popW_filter : ∀ (f x : Nat), popW f x = ((List.range f).filter fun j => x.testBit j).length
 | 0, x => rfl
 | f + 1, x => by
   rw [popW, popW_filter f, List.range_succ_eq_map, List.filter_cons]
   have h0 : x.testBit 0 = decide (x % 2 = 1) := by rw [Nat.testBit_zero]
   have hm : ((List.map Nat.succ (List.range f)).filter fun j => x.testBit j).length = ((List.range f).filter fun j => (x / 2).testBit j).length := by
     rw [List.filter_map, List.length_map]
     congr 1
     refine List.filter_congr fun j _ => ?_
     simp [Nat.testBit_succ]
   rw [h0]
   split
   · rename_i h
     rw [decide_eq_true_eq] at h
     rw [List.length_cons, hm]
     omega
   · rename_i h
     rw [decide_eq_true_eq] at h
     rw [hm]
     omega
theorem lenTo_filter (S : Nat) : ∀ k, lenTo S k = ((List.range (64 * k)).filter fun n => S.testBit n).length
 | 0 => rfl
 | k + 1 => by
   rw [lenTo_succ, lenTo_filter S k, oc_popW (wd_lt S k), popW_filter, show 64 * (k + 1) = 64 * k + 64 by omega, List.range_add, List.filter_append, List.length_append, List.filter_map, List.length_map]
   congr 2
   refine List.filter_congr fun j hj => ?_
   rw [wd_testBit, decide_eq_true (List.mem_range.1 hj), Bool.true_and]
   rfl
theorem lenS_lenTo (S k : Nat) (h : k = 16) : lenS S = lenTo S k := by subst h; unfold lenS lenTo; with_reducible rfl
theorem lenS_elems (S : Nat) : lenS S = (elems S).length := by
 obtain ⟨k, hk⟩ : ∃ k, k = 16 := ⟨_, rfl⟩
 rw [lenS_lenTo S k hk, lenTo_filter, show 64 * k = 1024 by omega]
 unfold elems
 with_reducible rfl
end Go.Pal
