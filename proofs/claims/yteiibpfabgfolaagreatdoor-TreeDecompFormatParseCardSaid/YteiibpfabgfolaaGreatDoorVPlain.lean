/- Sets of numbers below 1024 as natural numbers, and the array of sixteen words that holds .. -/
import Derived.WalkKit
import Derived.Laws.BitsAllLaws
import Derived.Lib.TrailingZeros
set_option linter.all false
namespace Go.Pal
open Go
def wd (S i : Nat) : Nat := (S >>> (64 * i)) % 18446744073709551616
def words (S : Nat) : Array Value := Array.ofFn (n := 16) fun i => .int .u64 (wd S i.val : Int)
theorem wd_lt (S i : Nat) : wd S i < 18446744073709551616 := Nat.mod_lt _ (by decide)
theorem words_size (S : Nat) : (words S).size = 16 := by simp [words]
theorem words_get (S : Nat) {i : Nat} (h : i < 16) : (words S)[i]? = some (.int .u64 (wd S i : Int)) := by
 simp [words, h]
theorem wd_testBit (S i j : Nat) : (wd S i).testBit j = (decide (j < 64) && S.testBit (64 * i + j)) := by
 unfold wd
 rw [show (18446744073709551616 : Nat) = 2 ^ 64 from rfl, Nat.testBit_mod_two_pow, Nat.testBit_shiftRight]
theorem wd_eq_of_testBit {x S i : Nat} (hx : x < 18446744073709551616) (h : ∀ j, j < 64 → x.testBit j = S.testBit (64 * i + j)) : x = wd S i := by
 apply Nat.eq_of_testBit_eq
 intro j
 rw [wd_testBit]
 by_cases hj : j < 64
 · simp [hj, h j hj]
 · simp only [hj, decide_false, Bool.false_and]
   exact Nat.testBit_lt_two_pow (Nat.lt_of_lt_of_le hx (by rw [show (18446744073709551616 : Nat) = 2 ^ 64 from rfl]; exact Nat.pow_le_pow_right (by decide) (by omega)))
theorem words_set {S T i x : Nat} (_hi : i < 16) (hx : x = wd T i) (ho : ∀ j, j < 16 → j ≠ i → wd S j = wd T j) : (words S).setIfInBounds i (.int .u64 (x : Int)) = words T := by
 apply Array.ext_getElem?
 intro j
 by_cases hj : j < 16
 · rw [words_get T hj]
   by_cases hji : i = j
   · subst hji
     rw [Array.getElem?_setIfInBounds_self_of_lt (by rw [words_size]; exact hj), hx]
   · rw [Array.getElem?_setIfInBounds_ne hji, words_get S hj, ho j hj (fun e => hji e.symm)]
 · rw [Array.getElem?_eq_none (by simp [words_size]; omega), Array.getElem?_eq_none (by rw [words_size]; omega)]
def sIns (S n : Nat) : Nat := S ||| (1 <<< n)
def sDel (S n : Nat) : Nat := S ^^^ (S &&& (1 <<< n))
def sDiff (S T : Nat) : Nat := S ^^^ (S &&& T)
theorem testBit_one_shift (n m : Nat) : (1 <<< n).testBit m = decide (n = m) := by
 rw [Nat.one_shiftLeft, Nat.testBit_two_pow]
theorem sIns_testBit (S n m : Nat) : (sIns S n).testBit m = (S.testBit m || decide (n = m)) := by
 rw [sIns, Nat.testBit_or, testBit_one_shift]
theorem sDel_testBit (S n m : Nat) : (sDel S n).testBit m = (S.testBit m && !decide (n = m)) := by
 rw [sDel, Nat.testBit_xor, Nat.testBit_and, testBit_one_shift]
 cases S.testBit m <;> cases decide (n = m) <;> rfl
theorem sDiff_testBit (S T m : Nat) : (sDiff S T).testBit m = (S.testBit m && !T.testBit m) := by
 rw [sDiff, Nat.testBit_xor, Nat.testBit_and]
 cases S.testBit m <;> cases T.testBit m <;> rfl
theorem pow_lt_word {k : Nat} (h : k < 64) : 2 ^ k < 18446744073709551616 := by
 rw [show (18446744073709551616 : Nat) = 2 ^ 64 from rfl]; exact Nat.pow_lt_pow_right (by decide) h
theorem or_lt_word {a b : Nat} (ha : a < 18446744073709551616) (hb : b < 18446744073709551616) : a ||| b < 18446744073709551616 := by
 rw [show (18446744073709551616 : Nat) = 2 ^ 64 from rfl] at *; exact Nat.or_lt_two_pow ha hb
theorem and_lt_word {a b : Nat} (ha : a < 18446744073709551616) : a &&& b < 18446744073709551616 := Nat.lt_of_le_of_lt Nat.and_le_left ha
def bitN (n : Nat) : Nat := 2 ^ (n % 64)
theorem bitN_lt (n : Nat) : bitN n < 18446744073709551616 := pow_lt_word (Nat.mod_lt _ (by decide))
theorem words_ins (S : Nat) {n : Nat} (h : n < 1024) : (words S).setIfInBounds (n / 64) (.int .u64 ((wd S (n / 64) ||| bitN n : Nat) : Int)) = words (sIns S n) := by
 unfold bitN
 have hp : 2 ^ (n % 64) < 18446744073709551616 := pow_lt_word (Nat.mod_lt _ (by decide))
 refine words_set (by omega) ?_ ?_
 · refine wd_eq_of_testBit (or_lt_word (wd_lt _ _) hp) fun j hj => ?_
   rw [Nat.testBit_or, wd_testBit, sIns_testBit, Nat.testBit_two_pow]
   simp only [hj, decide_true, Bool.true_and]
   congr 1
   rw [decide_eq_decide]
   omega
 · intro j hj hne
   refine wd_eq_of_testBit (wd_lt _ _) fun k hk => ?_
   rw [wd_testBit, sIns_testBit]
   have : ¬ n = 64 * j + k := by omega
   simp [hk, this]
theorem words_del (S : Nat) {n : Nat} (h : n < 1024) : (words S).setIfInBounds (n / 64) (.int .u64 ((wd S (n / 64) &&& (18446744073709551615 - bitN n) : Nat) : Int)) = words (sDel S n) := by
 unfold bitN
 have hp : n % 64 < 64 := Nat.mod_lt _ (by decide)
 refine words_set (by omega) ?_ ?_
 · refine wd_eq_of_testBit (and_lt_word (wd_lt _ _)) fun j hj => ?_
   rw [Nat.testBit_and, wd_testBit, sDel_testBit, show (18446744073709551615 : Nat) - 2 ^ (n % 64) = 2 ^ 64 - (2 ^ (n % 64) + 1) by have := pow_lt_word hp; omega, Nat.testBit_two_pow_sub_succ (pow_lt_word hp), Nat.testBit_two_pow]
   simp only [hj, decide_true, Bool.true_and]
   congr 2
   rw [decide_eq_decide]
   omega
 · intro j hj hne
   refine wd_eq_of_testBit (wd_lt _ _) fun k hk => ?_
   rw [wd_testBit, sDel_testBit]
   have : ¬ n = 64 * j + k := by omega
   simp [hk, this]
def mixW (T S k : Nat) : Array Value := Array.ofFn (n := 16) fun i => .int .u64 ((if i.val < k then wd T i.val else wd S i.val : Nat) : Int)
theorem mixW_zero (T S : Nat) : mixW T S 0 = words S := by simp [mixW, words]
theorem mixW_all (T S : Nat) : mixW T S 16 = words T := by
 unfold mixW words; congr 1; funext i; simp [i.isLt]
theorem mixW_size (T S k : Nat) : (mixW T S k).size = 16 := by simp [mixW]
theorem mixW_get (T S k : Nat) {i : Nat} (h : i < 16) (hk : k ≤ i) : (mixW T S k)[i]? = some (.int .u64 (wd S i : Int)) := by
 simp [mixW, h, Nat.not_lt.2 hk]
theorem mixW_set (T S k : Nat) (_h : k < 16) {x : Nat} (hx : x = wd T k) : (mixW T S k).setIfInBounds k (.int .u64 (x : Int)) = mixW T S (k + 1) := by
 apply Array.ext_getElem?
 intro j
 by_cases hj : j < 16
 · by_cases hji : k = j
   · subst hji
     rw [Array.getElem?_setIfInBounds_self_of_lt (by rw [mixW_size]; exact hj), hx]
     simp [mixW, hj]
   · rw [Array.getElem?_setIfInBounds_ne hji]
     have : (j < k) = (j < k + 1) := by apply propext; omega
     simp [mixW, hj, this]
 · rw [Array.getElem?_eq_none (by simp [mixW_size]; omega), Array.getElem?_eq_none (by rw [mixW_size]; omega)]
theorem wd_or (S T i : Nat) : wd S i ||| wd T i = wd (S ||| T) i := by
 refine wd_eq_of_testBit (or_lt_word (wd_lt _ _) (wd_lt _ _)) fun j hj => ?_
 simp [Nat.testBit_or, wd_testBit, hj]
theorem wd_and (S T i : Nat) : wd S i &&& wd T i = wd (S &&& T) i := by
 refine wd_eq_of_testBit (and_lt_word (wd_lt _ _)) fun j hj => ?_
 simp [Nat.testBit_and, wd_testBit, hj]
theorem wd_diff (S T i : Nat) : wd S i &&& (18446744073709551615 - wd T i) = wd (sDiff S T) i := by
 refine wd_eq_of_testBit (and_lt_word (wd_lt _ _)) fun j hj => ?_
 rw [Nat.testBit_and, sDiff_testBit, show (18446744073709551615 : Nat) - wd T i = 2 ^ 64 - (wd T i + 1) by have := wd_lt T i; omega, Nat.testBit_two_pow_sub_succ (wd_lt T i), wd_testBit, wd_testBit]
 simp [hj]
def IsSet (S : Nat) : Prop := ∀ n, S.testBit n = true → n < 1024
theorem IsSet.bit {S : Nat} (h : IsSet S) {n : Nat} (hn : S.testBit n = true) : n < 1024 := h n hn
theorem isSet_of {S : Nat} (h : ∀ n, S.testBit n = true → n < 1024) : IsSet S := h
theorem isSet_zero : IsSet 0 := fun n h => by simp at h
theorem isSet_of_lt {S k : Nat} (h : S < 2 ^ k) (hk : k ≤ 1024) : IsSet S := fun n hn => by
 rcases Nat.lt_or_ge n 1024 with h' | h'
 · exact h'
 · rw [Nat.testBit_lt_two_pow (Nat.lt_of_lt_of_le h (Nat.pow_le_pow_right (by decide) (by omega)))] at hn
   cases hn
theorem isSet_ins {S n : Nat} (h : IsSet S) (hn : n < 1024) : IsSet (sIns S n) := isSet_of fun m hm => by
 rw [sIns_testBit] at hm
 simp only [Bool.or_eq_true, decide_eq_true_eq] at hm
 rcases hm with hm | hm
 · exact h.bit hm
 · omega
theorem isSet_del {S n : Nat} (h : IsSet S) : IsSet (sDel S n) := isSet_of fun m hm => by
 rw [sDel_testBit] at hm
 simp only [Bool.and_eq_true] at hm
 exact h.bit hm.1
theorem isSet_diff {S T : Nat} (h : IsSet S) : IsSet (sDiff S T) := isSet_of fun m hm => by
 rw [sDiff_testBit] at hm
 simp only [Bool.and_eq_true] at hm
 exact h.bit hm.1
theorem isSet_or {S T : Nat} (h : IsSet S) (k : IsSet T) : IsSet (S ||| T) := isSet_of fun m hm => by
 rw [Nat.testBit_or] at hm
 simp only [Bool.or_eq_true] at hm
 rcases hm with hm | hm
 · exact h.bit hm
 · exact k.bit hm
theorem isSet_and {S T : Nat} (h : IsSet S) : IsSet (S &&& T) := isSet_of fun m hm => by
 rw [Nat.testBit_and] at hm
 simp only [Bool.and_eq_true] at hm
 exact h.bit hm.1
theorem set_ext {S T : Nat} (hS : IsSet S) (hT : IsSet T) (h : ∀ i, i < 16 → wd S i = wd T i) : S = T := by
 apply Nat.eq_of_testBit_eq
 intro m
 by_cases hm : m < 1024
 · have h1 := wd_testBit S (m / 64) (m % 64)
   have h2 := wd_testBit T (m / 64) (m % 64)
   rw [h (m / 64) (by omega)] at h1
   rw [h1] at h2
   have hlt : m % 64 < 64 := Nat.mod_lt _ (by decide)
   simp only [hlt, decide_true, Bool.true_and] at h2
   rw [show 64 * (m / 64) + m % 64 = m by omega] at h2
   exact h2
 · cases h1 : S.testBit m with
   | true => exact absurd (hS.bit h1) hm
   | false => cases h2 : T.testBit m with
     | true => exact absurd (hT.bit h2) hm
     | false => rfl
def ofWords : List Nat → Nat
 | [] => 0
 | x :: r => x + 18446744073709551616 * ofWords r
theorem ofWords_lt : ∀ (l : List Nat), (∀ x ∈ l, x < 18446744073709551616) → ofWords l < 2 ^ (64 * l.length)
 | [], _ => by simp [ofWords]
 | x :: r, h => by
   have h1 := h x (by simp)
   have h2 := ofWords_lt r (fun y hy => h y (by simp [hy]))
   simp only [ofWords, List.length_cons]
   rw [show 64 * (r.length + 1) = 64 * r.length + 64 by omega, Nat.pow_add]
   have : (2 : Nat) ^ 64 = 18446744073709551616 := rfl
   rw [this]
   omega
theorem wd_ofWords : ∀ (l : List Nat) (i : Nat), (∀ x ∈ l, x < 18446744073709551616) → wd (ofWords l) i = l.getD i 0
 | [], i, _ => by simp [ofWords, wd]
 | x :: r, 0, h => by
   have h1 := h x (by simp)
   simp only [ofWords, wd, Nat.mul_zero, Nat.shiftRight_zero, List.getD_cons_zero]
   omega
 | x :: r, i + 1, h => by
   have h1 := h x (by simp)
   have ih := wd_ofWords r i (fun y hy => h y (by simp [hy]))
   simp only [List.getD_cons_succ]
   rw [← ih]
   unfold wd
   rw [show 64 * (i + 1) = 64 + 64 * i by omega, Nat.shiftRight_add]
   congr 2
   rw [ofWords, Nat.shiftRight_eq_div_pow]
   have : (2 : Nat) ^ 64 = 18446744073709551616 := rfl
   rw [this]
   omega
def eqW (S T : Nat) : Bool := (List.range' 0 16).all fun i => (wd S i : Int) == (wd T i : Int)
theorem eqW_iff {S T : Nat} (hS : IsSet S) (hT : IsSet T) : eqW S T = decide (S = T) := by
 by_cases h : S = T
 · subst h
   simp [eqW]
 · rw [decide_eq_false h]
   cases hb : eqW S T with
   | false => rfl
   | true =>
     refine absurd (set_ext hS hT fun i hi => ?_) h
     unfold eqW at hb
     rw [List.all_eq_true] at hb
     have := hb i (by simp [List.mem_range'_1]; omega)
     simp only [beq_iff_eq] at this
     omega
def elems (S : Nat) : List Nat := (List.range 1024).filter fun n => S.testBit n
theorem mem_elems {S n : Nat} (hS : IsSet S) : n ∈ elems S ↔ S.testBit n = true := by
 unfold elems
 rw [List.mem_filter, List.mem_range]
 exact ⟨fun h => h.2, fun h => ⟨hS.bit h, h⟩⟩
theorem elems_lt {S n : Nat} (h : n ∈ elems S) : n < 1024 := by
 unfold elems at h
 rw [List.mem_filter, List.mem_range] at h
 exact h.1
theorem elems_bit {S n : Nat} (h : n ∈ elems S) : S.testBit n = true := by
 unfold elems at h
 rw [List.mem_filter] at h
 exact h.2
theorem elems_sorted (S : Nat) : (elems S).Pairwise (· < ·) := List.Pairwise.filter _ List.pairwise_lt_range
theorem set_ext_bits {S T : Nat} (hS : IsSet S) (hT : IsSet T) (h : ∀ n, n < 1024 → S.testBit n = T.testBit n) : S = T := by
 apply Nat.eq_of_testBit_eq
 intro m
 by_cases hm : m < 1024
 · exact h m hm
 · cases h1 : S.testBit m with
   | true => exact absurd (hS.bit h1) hm
   | false => cases h2 : T.testBit m with
     | true => exact absurd (hT.bit h2) hm
     | false => rfl
theorem elems_zero : elems 0 = [] := by
 unfold elems
 rw [List.filter_eq_nil_iff]
 simp
theorem elems_cons {S n : Nat} (hS : IsSet S) (hn : S.testBit n = true) (hl : ∀ m, m < n → S.testBit m = false) : elems S = n :: elems (sDel S n) := by
 have hd : elems (sDel S n) = (elems S).filter fun m => !decide (n = m) := by
   unfold elems
   rw [List.filter_filter]
   apply List.filter_congr
   intro m _
   rw [sDel_testBit]
   cases S.testBit m <;> cases decide (n = m) <;> rfl
 have hm := (mem_elems hS).2 hn
 cases he : elems S with
 | nil => rw [he] at hm; cases hm
 | cons a r =>
   have hs := elems_sorted S
   rw [he, List.pairwise_cons] at hs
   have ha : S.testBit a = true := elems_bit (by rw [he]; simp)
   have han : a = n := by
     rw [he] at hm
     rcases List.mem_cons.1 hm with h | h
     · exact h.symm
     · have h1 := hs.1 n h
       rw [hl a h1] at ha
       cases ha
   subst han
   rw [hd, he]
   simp only [List.filter_cons, decide_true, Bool.not_true, Bool.false_eq_true, if_false, List.cons.injEq, true_and]
   rw [List.filter_eq_self.2]
   intro m hmr
   have := hs.1 m hmr
   simp
   omega
theorem least_of_word {S i : Nat} (h0 : ∀ j, j < i → wd S j = 0) (hi : wd S i ≠ 0) : S.testBit (64 * i + Lib.ctz 64 (wd S i)) = true ∧ (∀ m, m < 64 * i + Lib.ctz 64 (wd S i) → S.testBit m = false) ∧ Lib.ctz 64 (wd S i) < 64 := by
 have hlt := wd_lt S i
 have hpos : 0 < wd S i := Nat.pos_of_ne_zero hi
 have hc : Lib.ctz 64 (wd S i) = Lib.ctzFrom 64 (wd S i) := by simp [Lib.ctz, hi]
 obtain ⟨m, hm, hk⟩ := Lib.ctzFrom_spec 64 (wd S i) hpos (by rw [show (2 : Nat) ^ 64 = 18446744073709551616 from rfl]; exact hlt)
 rw [hc]
 generalize Lib.ctzFrom 64 (wd S i) = k at *
 have low : ∀ j, j < 64 → (wd S i).testBit j = (decide (k ≤ j) && (2 * m + 1).testBit (j - k)) := fun j _ => by
   rw [hm, Nat.mul_comm, Nat.testBit_mul_two_pow]
 refine ⟨?_, fun q hq => ?_, hk⟩
 · have := low k hk
   rw [wd_testBit] at this
   simpa [hk] using this
 · by_cases hqi : q < 64 * i
   · have h1 := wd_testBit S (q / 64) (q % 64)
     rw [h0 (q / 64) (by omega)] at h1
     have : q % 64 < 64 := Nat.mod_lt _ (by decide)
     simp only [Nat.zero_testBit, this, decide_true, Bool.true_and] at h1
     rw [show 64 * (q / 64) + q % 64 = q by omega] at h1
     exact h1.symm
   · have hj : q - 64 * i < 64 := by omega
     have h2 := low (q - 64 * i) hj
     rw [wd_testBit] at h2
     have h3 : ¬ k ≤ q - 64 * i := by omega
     simp only [hj, decide_true, Bool.true_and, h3, decide_false, Bool.false_and] at h2
     rw [show 64 * i + (q - 64 * i) = q by omega] at h2
     exact h2
theorem zero_of_words {S : Nat} (hS : IsSet S) (h : ∀ j, j < 16 → wd S j = 0) : S = 0 :=
 set_ext hS isSet_zero fun i hi => by rw [h i hi]; simp [wd]
def sMin (S : Nat) : Option Nat := (elems S).head?
theorem sMin_some {S n : Nat} (hS : IsSet S) (hn : S.testBit n = true) (hl : ∀ m, m < n → S.testBit m = false) : sMin S = some n := by rw [sMin, elems_cons hS hn hl]; rfl
theorem sMin_zero : sMin 0 = none := by rw [sMin, elems_zero]; rfl
attribute [irreducible] elems sMin
def minN (S : Nat) : Int := ((sMin S).getD 0 : Nat)
def minB (S : Nat) : Bool := (sMin S).isSome
abbrev minV (S : Nat) : Value := .tuple #[.int .i64 (minN S), .bool (minB S)]
theorem minV_some {S n : Nat} (h : sMin S = some n) : minV S = .tuple #[.int .i64 (n : Int), .bool true] := by simp only [minV, minN, minB, h]; rfl
theorem minV_zero : minV 0 = .tuple #[.int .i64 0, .bool false] := by simp only [minV, minN, minB, sMin_zero]; rfl
theorem minN_cons {S n : Nat} {r : List Nat} (h : elems S = n :: r) : minN S = n ∧ minB S = true := by
 have : sMin S = some n := by unfold sMin; rw [h]; rfl
 simp [minN, minB, this]
theorem minB_nil {S : Nat} (h : elems S = []) : minB S = false := by
 have : sMin S = none := by unfold sMin; rw [h]; rfl
 simp [minB, this]
theorem elems_tail {S n : Nat} {r : List Nat} (hS : IsSet S) (h : elems S = n :: r) : elems (sDel S n) = r := by
 have hs := elems_sorted S
 rw [h, List.pairwise_cons] at hs
 have h1 := elems_cons (n := n) hS (elems_bit (by rw [h]; simp)) fun m hm => by
   cases hb : S.testBit m with
   | false => rfl
   | true =>
     have hmem := (mem_elems hS).2 hb
     rw [h] at hmem
     rcases List.mem_cons.1 hmem with e | e
     · omega
     · have := hs.1 m e
       omega
 rw [h] at h1
 exact (List.cons.inj h1).2.symm
def elemsI (S : Nat) : List Int := (elems S).map fun i : Nat => (i : Int)
theorem elemsI_length (S : Nat) : (elemsI S).length ≤ 1024 := by
 unfold elemsI elems
 rw [List.length_map]
 exact Nat.le_trans (List.length_filter_le _ _) (by simp)
theorem mem_elemsI {S : Nat} (hS : IsSet S) {n : Nat} : (n : Int) ∈ elemsI S ↔ S.testBit n = true := by
 unfold elemsI
 rw [List.mem_map, ← mem_elems hS]
 exact ⟨fun ⟨a, ha, h⟩ => by rwa [show n = a by omega], fun h => ⟨n, h, rfl⟩⟩
theorem elemsI_nat {S : Nat} {z : Int} (h : z ∈ elemsI S) : ∃ n : Nat, z = n ∧ n < 1024 ∧ S.testBit n = true := by
 obtain ⟨a, ha, rfl⟩ := List.mem_map.1 h
 exact ⟨a, rfl, elems_lt ha, elems_bit ha⟩
theorem elemsI_sorted (S : Nat) : (elemsI S).Pairwise (· < ·) := by
 unfold elemsI
 rw [List.pairwise_map]
 exact (elems_sorted S).imp fun h => by omega
theorem sorted_ext : ∀ {l l' : List Int}, l.Pairwise (· < ·) → l'.Pairwise (· < ·) → (∀ x, x ∈ l ↔ x ∈ l') → l = l'
 | [], [], _, _, _ => rfl
 | [], y :: ys, _, _, h => by have := (h y).2 (by simp); simp at this
 | x :: xs, [], _, _, h => by have := (h x).1 (by simp); simp at this
 | x :: xs, y :: ys, h1, h2, h => by
   rw [List.pairwise_cons] at h1 h2
   have hxy : x = y := by
     rcases List.mem_cons.1 ((h x).1 (by simp)) with e | e
     · exact e
     · rcases List.mem_cons.1 ((h y).2 (by simp)) with e' | e'
       · exact e'.symm
       · have := h1.1 y e'; have := h2.1 x e; omega
   subst hxy
   rw [sorted_ext h1.2 h2.2 fun z => ?_]
   constructor
   · intro hz
     rcases List.mem_cons.1 ((h z).1 (List.mem_cons_of_mem _ hz)) with e | e
     · have := h1.1 z hz; omega
     · exact e
   · intro hz
     rcases List.mem_cons.1 ((h z).2 (List.mem_cons_of_mem _ hz)) with e | e
     · have := h2.1 z hz; omega
     · exact e
theorem elemsI_of {l : List Int} {S : Nat} (hS : IsSet S) (h : l.Pairwise (· < ·)) (h0 : ∀ x ∈ l, 0 ≤ x) (hm : ∀ n : Nat, (n : Int) ∈ l ↔ S.testBit n = true) : l = elemsI S := by
 refine sorted_ext h (elemsI_sorted S) fun x => ?_
 constructor
 · intro hx
   have := h0 x hx
   obtain ⟨n, rfl⟩ : ∃ n : Nat, x = n := ⟨x.toNat, by omega⟩
   exact (mem_elemsI hS).2 ((hm n).1 hx)
 · intro hx
   obtain ⟨n, rfl, _, hb⟩ := elemsI_nat hx
   exact (hm n).2 hb
theorem elemsI_get {S k : Nat} {z : Int} (h : (elemsI S)[k]? = some z) : ∃ n : Nat, (elems S)[k]? = some n ∧ z = n ∧ n < 1024 := by
 unfold elemsI at h
 rw [List.getElem?_map] at h
 obtain ⟨n, hn, rfl⟩ := Option.map_eq_some_iff.1 h
 exact ⟨n, hn, rfl, elems_lt (List.mem_of_getElem? hn)⟩
def belowI (S : Nat) (k : Nat) : List Int := ((List.range k).filter fun n => S.testBit n).map fun i : Nat => (i : Int)
theorem belowI_zero (S : Nat) : belowI S 0 = [] := rfl
theorem belowI_succ (S k : Nat) : belowI S (k + 1) = belowI S k ++ if S.testBit k then [(k : Int)] else [] := by
 unfold belowI
 rw [List.range_succ, List.filter_append, List.map_append]
 congr 1
 by_cases h : S.testBit k <;> simp [h]
theorem belowI_all (S : Nat) : belowI S 1024 = elemsI S := by unfold belowI elemsI elems; with_reducible rfl
theorem belowI_length (S k : Nat) : (belowI S k).length ≤ k := by
 unfold belowI
 rw [List.length_map]
 exact Nat.le_trans (List.length_filter_le _ _) (by simp)
theorem elemsI_inj {S T : Nat} (hS : IsSet S) (hT : IsSet T) (h : elemsI S = elemsI T) : S = T := by
 refine set_ext_bits hS hT fun n _ => ?_
 rw [Bool.eq_iff_iff, ← mem_elemsI hS, ← mem_elemsI hT, h]
def oc1 (x : Nat) : Nat := (x / 2 &&& 6148914691236517205) + (x &&& 6148914691236517205)
def oc2 (x : Nat) : Nat := (x / 4 &&& 3689348814741910323) + (x &&& 3689348814741910323)
def oc3 (x : Nat) : Nat := ((x / 16 + x) % 18446744073709551616) &&& 1085102592571150095
def oc4 (x : Nat) : Nat := (x + x / 256) % 18446744073709551616
def oc5 (x : Nat) : Nat := (x + x / 65536) % 18446744073709551616
def oc6 (x : Nat) : Nat := (x + x / 4294967296) % 18446744073709551616
def oc (x : Nat) : Nat := oc6 (oc5 (oc4 (oc3 (oc2 (oc1 x))))) % 128
theorem oc1_lt (x : Nat) : oc1 x < 18446744073709551616 := by
 have h1 : x / 2 &&& 6148914691236517205 ≤ 6148914691236517205 := Nat.and_le_right
 have h2 : x &&& 6148914691236517205 ≤ 6148914691236517205 := Nat.and_le_right
 unfold oc1; omega
theorem oc2_lt (x : Nat) : oc2 x < 18446744073709551616 := by
 have h1 : x / 4 &&& 3689348814741910323 ≤ 3689348814741910323 := Nat.and_le_right
 have h2 : x &&& 3689348814741910323 ≤ 3689348814741910323 := Nat.and_le_right
 unfold oc2; omega
theorem oc6_lt (x : Nat) : oc6 x < 18446744073709551616 := Nat.mod_lt _ (by decide)
theorem e1_step (x : Nat) (hx : x < 18446744073709551616) : IntKind.u64.wrap (bits BinOp.and IntKind.u64 ((x : Int) / 2) 6148914691236517205 + bits BinOp.and IntKind.u64 (x : Int) 6148914691236517205) = ((oc1 x : Nat) : Int) := by
 have h := oc1_lt x
 rw [show (x : Int) / 2 = ((x / 2 : Nat) : Int) from rfl, show (6148914691236517205 : Int) = ((6148914691236517205 : Nat) : Int) from rfl, u64_and_nat _ _ (by omega) (by decide), u64_and_nat _ _ hx (by decide), IntKind.wrap_u64]
 unfold oc1 at *
 omega
theorem e2_step (x : Nat) (hx : x < 18446744073709551616) : IntKind.u64.wrap (bits BinOp.and IntKind.u64 ((x : Int) / 4) 3689348814741910323 + bits BinOp.and IntKind.u64 (x : Int) 3689348814741910323) = ((oc2 x : Nat) : Int) := by
 have h := oc2_lt x
 rw [show (x : Int) / 4 = ((x / 4 : Nat) : Int) from rfl, show (3689348814741910323 : Int) = ((3689348814741910323 : Nat) : Int) from rfl, u64_and_nat _ _ (by omega) (by decide), u64_and_nat _ _ hx (by decide), IntKind.wrap_u64]
 unfold oc2 at *
 omega
theorem e3_step (x : Nat) : bits BinOp.and IntKind.u64 (IntKind.u64.wrap ((x : Int) / 16 + (x : Int))) 1085102592571150095 = ((oc3 x : Nat) : Int) := by
 rw [IntKind.wrap_u64, show ((x : Int) / 16 + (x : Int)) % 18446744073709551616 = (((x / 16 + x) % 18446744073709551616 : Nat) : Int) by omega, show (1085102592571150095 : Int) = ((1085102592571150095 : Nat) : Int) from rfl, u64_and_nat _ _ (Nat.mod_lt _ (by decide)) (by decide)]
 rfl
theorem e4_step (x : Nat) : IntKind.u64.wrap ((x : Int) + (x : Int) / 256) = ((oc4 x : Nat) : Int) := by
 rw [IntKind.wrap_u64]; unfold oc4; omega
theorem e5_step (x : Nat) : IntKind.u64.wrap ((x : Int) + (x : Int) / 65536) = ((oc5 x : Nat) : Int) := by
 rw [IntKind.wrap_u64]; unfold oc5; omega
theorem e6_step (x : Nat) : IntKind.u64.wrap ((x : Int) + (x : Int) / 4294967296) = ((oc6 x : Nat) : Int) := by
 rw [IntKind.wrap_u64]; unfold oc6; omega
theorem e7_step (x : Nat) (hx : x < 18446744073709551616) : bits BinOp.and IntKind.i64 (RowKit.wrap64 (x : Int)) 127 = ((x % 128 : Nat) : Int) := by
 rw [← IntWalk.i64_left]
 show IntKind.i64.wrap ((BitVec.ofInt 64 (IntKind.i64.wrap (x : Int)) &&& BitVec.ofInt 64 ((127 : Nat) : Int)).toNat : Int) = _
 have h1 : (BitVec.ofInt 64 (IntKind.i64.wrap (x : Int))).toNat = x := by
   rw [BitVec.toNat_ofInt, IntKind.wrap_i64]
   omega
 rw [BitVec.toNat_and, h1, ofInt_u64 127 (by decide), show (127 : Nat) = 2 ^ 7 - 1 from rfl, Nat.and_two_pow_sub_one_eq_mod, IntKind.wrap_i64]
 omega
def lenS (S : Nat) : Nat := ((List.range 16).map fun i => oc (wd S i)).sum
def lenTo (S k : Nat) : Nat := ((List.range k).map fun i => oc (wd S i)).sum
theorem lenTo_succ (S k : Nat) : lenTo S (k + 1) = lenTo S k + oc (wd S k) := by
 unfold lenTo
 rw [List.range_succ, List.map_append, List.sum_append]
 simp
theorem oc_lt (x : Nat) : oc x < 128 := Nat.mod_lt _ (by decide)
theorem lenTo_le (S k : Nat) : lenTo S k ≤ 127 * k := by
 induction k with
 | zero => simp [lenTo]
 | succ k ih => rw [lenTo_succ]; have := oc_lt (wd S k); omega
abbrev Bg := Int × Nat
def bagA (b : Bg) : Array Value := #[.int .i64 b.1] ++ words b.2
theorem bagA_size (b : Bg) : (bagA b).size = 17 := by simp [bagA, words_size]
theorem bagA_zero (b : Bg) : (bagA b)[0]? = some (.int .i64 b.1) := by
 unfold bagA
 rw [Array.getElem?_append_left (by simp)]
 rfl
theorem bagA_get0 (b : Bg) (h : 0 < (bagA b).size) : (bagA b)[0] = .int .i64 b.1 := by
 have := bagA_zero b
 rw [Array.getElem?_eq_getElem h] at this
 exact Option.some.inj this
theorem bagA_succ (b : Bg) (j : Nat) : (bagA b)[j + 1]? = (words b.2)[j]? := by
 unfold bagA
 rw [Array.getElem?_append_right (by simp)]
 simp
theorem bagA_extract (b : Bg) : (bagA b).extract 1 17 = words b.2 := by
 apply Array.ext_getElem?
 intro j
 by_cases hj : j < 16
 · rw [← bagA_succ, Array.getElem?_extract, bagA_size]
   simp only [Nat.min_self]
   rw [if_pos (by omega), Nat.add_comm]
 · rw [Array.getElem?_eq_none (by simp [bagA_size]; omega), Array.getElem?_eq_none (by rw [words_size]; omega)]
theorem words_one {S : Nat} {v : Value} (h : v ∈ words S) : v.oneCell' = true := by
 obtain ⟨i, rfl⟩ := Array.mem_ofFn.1 h
 rfl
theorem bagA_one (b : Bg) : ∀ v ∈ (bagA b).toList, v.oneCell' = true := by
 intro v hv
 unfold bagA at hv
 rw [Array.toList_append, List.mem_append] at hv
 rcases hv with h | h
 · simp at h; subst h; rfl
 · exact words_one (by simpa using h)
def idx {α : Type} (p : α → Bool) (l : List α) : Int := match l.findIdx? p with
 | some i => i
 | none => -1
theorem idx_none {α : Type} {p : α → Bool} {l : List α} (h : ∀ (i : Nat) x, l[i]? = some x → p x = false) : idx p l = -1 := by
 unfold idx
 have : l.findIdx? p = none := by
   rw [List.findIdx?_eq_none_iff]
   intro x hx
   obtain ⟨i, hi⟩ := List.getElem?_of_mem hx
   exact h i x hi
 rw [this]
theorem idx_some {α : Type} {p : α → Bool} {l : List α} {k : Nat} {x : α} (hx : l[k]? = some x) (hp : p x = true) (h : ∀ (i : Nat) y, i < k → l[i]? = some y → p y = false) : idx p l = k := by
 unfold idx
 have : l.findIdx? p = some k := by
   rw [List.findIdx?_eq_some_iff_getElem]
   obtain ⟨hk, rfl⟩ := List.getElem?_eq_some_iff.1 hx
   refine ⟨hk, hp, fun j hj => ?_⟩
   have := h j _ hj (List.getElem?_eq_getElem (by omega))
   simpa using this
 rw [this]
theorem idx_nonneg {α : Type} (p : α → Bool) (l : List α) : decide (0 ≤ idx p l) = l.any p := by
 unfold idx
 cases h : l.findIdx? p with
 | none =>
   rw [List.findIdx?_eq_none_iff] at h
   have : l.any p = false := by rw [List.any_eq_false]; intro x hx; simp [h x hx]
   rw [this]; rfl
 | some k =>
   rw [List.findIdx?_eq_some_iff_getElem] at h
   obtain ⟨hk, hp, _⟩ := h
   have : l.any p = true := List.any_eq_true.2 ⟨_, List.getElem_mem hk, hp⟩
   rw [this]; simp
def rootsTo (T : List Bg) : Nat → List Int
 | 0 => []
 | k + 1 => rootsTo T k ++ if (T[k]?).map Prod.fst = some (-1) then [(k : Int)] else []
theorem rootsTo_succ {T : List Bg} {k : Nat} {x : Bg} (h : T[k]? = some x) : rootsTo T (k + 1) = rootsTo T k ++ if x.1 = -1 then [(k : Int)] else [] := by
 simp [rootsTo, h]
theorem rootsTo_le (T : List Bg) (k : Nat) : (rootsTo T k).length ≤ k := by
 induction k with
 | zero => simp [rootsTo]
 | succ k ih => simp only [rootsTo, List.length_append]; split <;> simp <;> omega
def kidsTo (T : List Bg) : Nat → Nat → List Int
 | 0, _ => []
 | k + 1, b => kidsTo T k b ++ if (T[k]?).map Prod.fst = some (b : Int) then [(k : Int)] else []
theorem kidsTo_succ {T : List Bg} {k : Nat} {x : Bg} (h : T[k]? = some x) (b : Nat) : kidsTo T (k + 1) b = kidsTo T k b ++ if x.1 = (b : Int) then [(k : Int)] else [] := by
 simp [kidsTo, h]
theorem kidsTo_le (T : List Bg) (k b : Nat) : (kidsTo T k b).length ≤ k := by
 induction k with
 | zero => simp [kidsTo]
 | succ k ih => simp only [kidsTo, List.length_append]; split <;> simp <;> omega
theorem kidsTo_mem {T : List Bg} {k b : Nat} {z : Int} (h : z ∈ kidsTo T k b) : ∃ c : Nat, z = c ∧ c < k ∧ ∃ x, T[c]? = some x ∧ x.1 = (b : Int) := by
 induction k with
 | zero => simp [kidsTo] at h
 | succ k ih =>
   simp only [kidsTo, List.mem_append] at h
   rcases h with h | h
   · obtain ⟨c, h1, h2, h3⟩ := ih h
     exact ⟨c, h1, by omega, h3⟩
   · split at h
     · rename_i hx
       simp only [List.mem_singleton] at h
       cases hT : T[k]? with
       | none => rw [hT] at hx; cases hx
       | some x => rw [hT] at hx; exact ⟨k, h, by omega, x, hT, Option.some.inj hx⟩
     · cases h
inductive Tr | node (b : Nat) (ks : List Tr)
def Tr.lab : Tr → Nat | .node b _ => b
def Tr.ks : Tr → List Tr | .node _ ks => ks
mutual
def Tr.sz : Tr → Nat | .node _ ks => 1 + Tr.szs ks
def Tr.szs : List Tr → Nat
 | [] => 0
 | t :: ts => t.sz + Tr.szs ts
end
mutual
def Tr.labs : Tr → List Nat | .node b ks => b :: Tr.labss ks
def Tr.labss : List Tr → List Nat
 | [] => []
 | t :: ts => t.labs ++ Tr.labss ts
end
mutual
def Tr.ds : Tr → Int → List Int → List Int | .node b ks, d, l => Tr.dss ks (d + 1) (l.set b d)
def Tr.dss : List Tr → Int → List Int → List Int
 | [], _, l => l
 | t :: ts, d, l => Tr.dss ts d (t.ds d l)
end
theorem Tr.sz_pos (t : Tr) : 0 < t.sz := by cases t; simp [Tr.sz]; omega
theorem Tr.szs_append (a c : List Tr) : Tr.szs (a ++ c) = Tr.szs a + Tr.szs c := by
 induction a with
 | nil => simp [Tr.szs]
 | cons t ts ih => simp [Tr.szs, ih]; omega
theorem Tr.dss_append (a c : List Tr) (d : Int) (l : List Int) : Tr.dss (a ++ c) d l = Tr.dss c d (Tr.dss a d l) := by
 induction a generalizing l with
 | nil => simp [Tr.dss]
 | cons t ts ih => simp [Tr.dss, ih]
theorem Tr.szs_le {t : Tr} {ts : List Tr} (h : t ∈ ts) : t.sz ≤ Tr.szs ts := by
 induction ts with
 | nil => cases h
 | cons u us ih =>
   simp only [Tr.szs]
   rcases List.mem_cons.1 h with rfl | h
   · omega
   · have := ih h; omega
theorem Tr.length_le_szs (ts : List Tr) : ts.length ≤ Tr.szs ts := by
 induction ts with
 | nil => simp
 | cons t ts ih => have := t.sz_pos; simp [Tr.szs]; omega
theorem Tr.induct {p : Tr → Prop} (h : ∀ b ks, (∀ t ∈ ks, p t) → p (.node b ks)) (t : Tr) : p t := by
 generalize hn : t.sz = n
 induction n using Nat.strongRecOn generalizing t with
 | _ n ih =>
   cases t with
   | node b ks =>
     exact h b ks fun u hu => ih u.sz (by have := Tr.szs_le hu; simp [Tr.sz] at hn; omega) u rfl
mutual
theorem Tr.length_labs : (t : Tr) → t.labs.length = t.sz
 | .node b ks => by simp [Tr.labs, Tr.sz, Tr.length_labss ks]; omega
theorem Tr.length_labss : (ts : List Tr) → (Tr.labss ts).length = Tr.szs ts
 | [] => rfl
 | t :: ts => by simp [Tr.labss, Tr.szs, Tr.length_labs t, Tr.length_labss ts]
end
mutual
theorem Tr.length_ds : (t : Tr) → (d : Int) → (l : List Int) → (t.ds d l).length = l.length
 | .node b ks, d, l => by simp [Tr.ds, Tr.length_dss ks]
theorem Tr.length_dss : (ts : List Tr) → (d : Int) → (l : List Int) → (Tr.dss ts d l).length = l.length
 | [], _, _ => rfl
 | t :: ts, d, l => by simp [Tr.dss, Tr.length_dss ts, Tr.length_ds t]
end
inductive Fits (n : Nat) (kids : Nat → List Int) : Tr → Prop
 | mk (b : Nat) (ks : List Tr) (hb : b < n) (hk : kids b = ks.map fun t => (t.lab : Int)) (h : ∀ t ∈ ks, Fits n kids t) : Fits n kids (.node b ks)
theorem Fits.lab {n : Nat} {kids : Nat → List Int} {t : Tr} (h : Fits n kids t) : t.lab < n := by cases h; assumption
theorem Tr.mem_labss {ts : List Tr} {t : Tr} {c : Nat} (ht : t ∈ ts) (hc : c ∈ t.labs) : c ∈ Tr.labss ts := by
 induction ts with
 | nil => cases ht
 | cons u us ih =>
   simp only [Tr.labss, List.mem_append]
   rcases List.mem_cons.1 ht with rfl | h
   · exact .inl hc
   · exact .inr (ih h)
theorem Tr.labss_mem {ts : List Tr} {c : Nat} (hc : c ∈ Tr.labss ts) : ∃ t ∈ ts, c ∈ t.labs := by
 induction ts with
 | nil => simp [Tr.labss] at hc
 | cons u us ih =>
   simp only [Tr.labss, List.mem_append] at hc
   rcases hc with h | h
   · exact ⟨u, by simp, h⟩
   · obtain ⟨t, ht, h'⟩ := ih h
     exact ⟨t, List.mem_cons_of_mem _ ht, h'⟩
def Tr.hS (acc : Option Tr) (k : Tr) : Option Tr :=
 match acc with
 | none => some k
 | some h => if h.sz < k.sz then some k else some h
def Tr.hvL (ks : List Tr) : Option Tr := ks.foldl Tr.hS none
theorem Tr.hvL_from {ks : List Tr} : ∀ {acc : Option Tr} {h : Tr}, ks.foldl Tr.hS acc = some h → h ∈ ks ∨ acc = some h := by
 induction ks with
 | nil => exact fun h => .inr h
 | cons k ks ih =>
   intro acc h hh
   rcases ih hh with h1 | h1
   · exact .inl (List.mem_cons_of_mem _ h1)
   · unfold Tr.hS at h1
     split at h1
     · cases h1; exact .inl (by simp)
     · split at h1
       · cases h1; exact .inl (by simp)
       · exact .inr h1
theorem Tr.hvL_mem {ks : List Tr} {h : Tr} (hh : Tr.hvL ks = some h) : h ∈ ks := by
 rcases Tr.hvL_from hh with h1 | h1
 · exact h1
 · cases h1
inductive Sub (t : Tr) : Tr → Prop
 | self : Sub t t
 | kid {u k : Tr} : Sub t u → k ∈ u.ks → Sub t k
inductive HPath : Tr → List Tr → Prop
 | last {u : Tr} : Tr.hvL u.ks = none → HPath u [u]
 | cons {u h : Tr} {l : List Tr} : Tr.hvL u.ks = some h → HPath h l → HPath u (u :: l)
theorem HPath.length_le {u : Tr} {l : List Tr} (h : HPath u l) : l.length ≤ u.sz := by
 induction h with
 | @last u _ => exact u.sz_pos
 | @cons u h l hh _ ih =>
   have h1 := Tr.szs_le (Tr.hvL_mem hh)
   have h2 : u.sz = 1 + Tr.szs u.ks := by cases u; rfl
   simp
   omega
def topS (T : List Bg) (i : Nat) : Nat :=
 match T[i]? with
 | none => 0
 | some x => if x.1 = -1 then x.2 else match T[x.1.toNat]? with
   | none => 0
   | some y => sDiff x.2 y.2
def seenTo (T : List Bg) : Nat → Nat
 | 0 => 0
 | k + 1 => seenTo T k ||| topS T k
structure Valid (T : List Bg) (t : Tr) : Prop where
 pos : 0 < T.length
 le : T.length ≤ 1024
 sets : ∀ x ∈ T, IsSet x.2
 small : ∀ x ∈ T, lenS x.2 ≤ 4
 par : ∀ (i : Nat) x, T[i]? = some x → x.1 = -1 ∨ ∃ p : Nat, x.1 = p ∧ p < T.length
 root : rootsTo T T.length = [(t.lab : Int)]
 fits : Fits T.length (kidsTo T T.length) t
 all : t.sz = T.length
 disj : ∀ i, i < T.length → topS T i &&& seenTo T i = 0
theorem topS_root {T : List Bg} {i : Nat} {x : Bg} (h : T[i]? = some x) (hp : x.1 = -1) : topS T i = x.2 := by simp [topS, h, hp]
theorem topS_other {T : List Bg} {i p : Nat} {x y : Bg} (h : T[i]? = some x) (hp : x.1 = (p : Int)) (hy : T[p]? = some y) : topS T i = sDiff x.2 y.2 := by
 have : ¬ x.1 = -1 := by omega
 simp [topS, h, hp, hy]
def t1 (b : Nat) : Nat := (b / 2 &&& 85) + (b &&& 85)
def t2 (b : Nat) : Nat := (b / 4 &&& 51) + (b &&& 51)
def t3 (b : Nat) : Nat := b / 16 + b % 16
theorem lenS_lenTo (S k : Nat) (h : k = 16) : lenS S = lenTo S k := by subst h; unfold lenS lenTo; with_reducible rfl
def upI (T : List Bg) (i : Int) : Int := match T[i.toNat]? with | none => -1 | some x => x.1
def climb (T : List Bg) : Nat → Int → Option (List Int)
 | 0, z => if z < 0 then some [] else none
 | f + 1, z => if z < 0 then some [] else (climb T f (upI T z)).map (z :: ·)
def topsL (T : List Bg) (n : Nat) : List Nat := (List.range T.length).filter fun i => (topS T i).testBit n
def parB (m : Nat) (x : Bg) : Bool := decide (-1 ≤ x.1) && decide (x.1 < (m : Int))
def rootB (x : Bg) : Bool := decide (x.1 < 0)
def bagN (T : List Bg) (b : Nat) : Nat := match T[b]? with | none => 0 | some x => x.2
def upB (T : List Bg) (i : Nat) : Bool := (climb T (T.length + 1) (upI T (i : Int))).isSome
def oneB (T : List Bg) (n : Nat) : Bool := (topsL T n).length == 1
def topB (T : List Bg) (i : Nat) : Bool := (elems (bagN T i)).all fun n => oneB T n
def rCheckN (T : List Bg) : Int :=
 if T.length < 1 ∨ 4096 < T.length then 2
 else if T.all (parB T.length) = false then 3
 else if (T.filter rootB).length ≠ 1 then 3
 else if (List.range T.length).all (upB T) = false then 15
 else if (List.range T.length).all (topB T) = false then 7 else 0
theorem upI_of {T : List Bg} {i : Nat} {x : Bg} (h : T[i]? = some x) : upI T (i : Int) = x.1 := by simp [upI, h]
theorem bagN_of {T : List Bg} {i : Nat} {x : Bg} (h : T[i]? = some x) : bagN T i = x.2 := by simp [bagN, h]
def topsTo (T : List Bg) (n k : Nat) : List Int := ((List.range k).filter fun i => (topS T i).testBit n).map fun i : Nat => (i : Int)
theorem topsTo_succ (T : List Bg) (n k : Nat) : topsTo T n (k + 1) = topsTo T n k ++ if (topS T k).testBit n then [(k : Int)] else [] := by
 unfold topsTo
 rw [List.range_succ, List.filter_append, List.map_append]
 congr 1
 by_cases h : (topS T k).testBit n <;> simp [h]
theorem topsTo_length (T : List Bg) (n k : Nat) : (topsTo T n k).length ≤ k := by
 unfold topsTo
 rw [List.length_map]
 exact Nat.le_trans (List.length_filter_le _ _) (by simp)
theorem topsTo_all (T : List Bg) (n : Nat) : topsTo T n T.length = (topsL T n).map fun i : Nat => (i : Int) := rfl
def Tr.wt (t : Tr) : Nat := t.sz - match Tr.hvL t.ks with | none => 0 | some h => h.sz
inductive Ct | node (kind bag bnd : Nat) (parts : List Ct)
inductive Md | chain | group (bag : Nat)
mutual
def Ct.sz : Ct → Nat | .node _ _ _ ps => Ct.szs ps + 1
def Ct.szs : List Ct → Nat
 | [] => 0
 | c :: cs => c.sz + Ct.szs cs
end
mutual
def Ct.deep : Ct → Nat | .node _ _ _ ps => Ct.deeps ps + 1
def Ct.deeps : List Ct → Nat
 | [] => 0
 | c :: cs => max c.deep (Ct.deeps cs)
end
theorem Ct.sz_pos (c : Ct) : 0 < c.sz := by cases c; simp [Ct.sz]
theorem Sub.trans {a b c : Tr} (h : Sub a b) (k : Sub b c) : Sub a c := by
 induction k with
 | self => exact h
 | kid _ hk ih => exact ih.kid hk
inductive Steps (U : Nat → Int) : Nat → Nat → Nat → Prop
 | zero {i : Nat} : Steps U 0 i i
 | succ {m i p r : Nat} : U i = (p : Nat) → Steps U m p r → Steps U (m + 1) i r
theorem Steps.snoc {U : Nat → Int} {m i p r : Nat} (h : Steps U m i p) (hr : U p = (r : Nat)) : Steps U (m + 1) i r := by
 induction h with
 | zero => exact .succ hr .zero
 | succ h1 _ ih => exact .succ h1 (ih hr)
structure ParOk (T : List Bg) : Prop where
 head : T[0]? = some (-1, 0)
 tail : ∀ (j : Nat) (x : Bg), T[j]? = some x → x.2 = 0 ∧ (j ≠ 0 → ∃ p : Nat, x.1 = (p : Int) ∧ p < j)
def parU (T : List Bg) (i : Nat) : Int := match T[i]? with | none => -1 | some x => x.1
def mkTr (K : Nat → List Nat) : Nat → Nat → Tr
 | 0, b => .node b []
 | f + 1, b => .node b ((K b).map (mkTr K f))
theorem mkTr_lab (K : Nat → List Nat) (f b : Nat) : (mkTr K f b).lab = b := by cases f <;> rfl
def kidN' (T : List Bg) (b : Nat) : List Nat := (kidsTo T T.length b).map Int.toNat
theorem mem_kidsTo {T : List Bg} {k c b : Nat} {x : Bg} (hc : c < k) (h : T[c]? = some x) (hp : x.1 = (b : Int)) : (c : Int) ∈ kidsTo T k b := by
 induction k with
 | zero => omega
 | succ k ih =>
   simp only [kidsTo, List.mem_append]
   by_cases hck : c = k
   · subst hck
     right
     simp [h, hp]
   · exact .inl (ih (by omega))
theorem kidsTo_nodup (T : List Bg) (k b : Nat) : (kidsTo T k b).Nodup := by
 induction k with
 | zero => exact List.nodup_nil
 | succ k ih =>
   rw [kidsTo, List.nodup_append]
   refine ⟨ih, ?_, ?_⟩
   · split <;> simp
   · intro z hz y hy
     obtain ⟨c, rfl, h1, -⟩ := kidsTo_mem hz
     split at hy
     · simp at hy; omega
     · cases hy
theorem mem_kidN {T : List Bg} {b c : Nat} : c ∈ kidN' T b ↔ c < T.length ∧ parU T c = (b : Int) := by
 unfold kidN' parU
 rw [List.mem_map]
 constructor
 · rintro ⟨z, hz, rfl⟩
   obtain ⟨c, rfl, h1, x, hx, hp⟩ := kidsTo_mem hz
   rw [Int.toNat_natCast, hx]
   exact ⟨h1, hp⟩
 · rintro ⟨h1, h2⟩
   obtain ⟨x, hx⟩ : ∃ x, T[c]? = some x := ⟨_, List.getElem?_eq_getElem h1⟩
   rw [hx] at h2
   exact ⟨(c : Int), mem_kidsTo h1 hx h2, Int.toNat_natCast c⟩
theorem kidN_map (T : List Bg) (b : Nat) : (kidN' T b).map (fun c : Nat => (c : Int)) = kidsTo T T.length b := by
 unfold kidN'
 rw [List.map_map]
 conv => rhs; rw [← List.map_id (kidsTo T T.length b)]
 refine List.map_congr_left fun z hz => ?_
 obtain ⟨c, rfl, -⟩ := kidsTo_mem hz
 simp
theorem kidN_nodup (T : List Bg) (b : Nat) : (kidN' T b).Nodup := by
 have h := kidsTo_nodup T T.length b
 rw [← kidN_map] at h
 exact List.Pairwise.of_map (fun c : Nat => (c : Int)) (fun a b hab e => hab (by rw [e])) h
theorem ParOk.kid_gt {T : List Bg} (h : ParOk T) {b c : Nat} (hc : c ∈ kidN' T b) : b < c ∧ c < T.length := by
 obtain ⟨h1, h2⟩ := mem_kidN.1 hc
 obtain ⟨x, hx⟩ : ∃ x, T[c]? = some x := ⟨_, List.getElem?_eq_getElem h1⟩
 simp only [parU, hx] at h2
 by_cases h0 : c = 0
 · subst h0
   rw [h.head] at hx
   cases hx
   simp at h2
 · obtain ⟨p, h3, h4⟩ := (h.tail c x hx).2 h0
   omega
theorem ParOk.fits {T : List Bg} (h : ParOk T) : ∀ (f b : Nat), b < T.length → T.length - b ≤ f → Fits T.length (kidsTo T T.length) (mkTr (kidN' T) f b)
 | 0, b, hb, hf => by omega
 | f + 1, b, hb, hf => by
   rw [mkTr]
   refine .mk b _ hb ?_ ?_
   · rw [List.map_map, ← kidN_map]
     refine List.map_congr_left fun c _ => ?_
     simp [mkTr_lab]
   · intro u hu
     obtain ⟨c, hc, rfl⟩ := List.mem_map.1 hu
     have := h.kid_gt hc
     exact ParOk.fits h f c this.2 (by omega)
theorem ParOk.labs_mem {T : List Bg} (h : ParOk T) : ∀ (f b : Nat), b < T.length → T.length - b ≤ f → ∀ x, x ∈ (mkTr (kidN' T) f b).labs ↔ x < T.length ∧ ∃ m, Steps (parU T) m x b
 | 0, b, hb, hf => by omega
 | f + 1, b, hb, hf => by
   intro x
   rw [mkTr, Tr.labs, List.mem_cons]
   constructor
   · rintro (rfl | hx)
     · exact ⟨hb, 0, .zero⟩
     · obtain ⟨u, hu, hx⟩ := Tr.labss_mem hx
       obtain ⟨c, hc, rfl⟩ := List.mem_map.1 hu
       have hk := h.kid_gt hc
       obtain ⟨h1, m, h2⟩ := (ParOk.labs_mem h f c hk.2 (by omega) x).1 hx
       exact ⟨h1, m + 1, h2.snoc (mem_kidN.1 hc).2⟩
   · rintro ⟨hx, m, hs⟩
     have key : ∀ {m x c : Nat}, Steps (parU T) m x c → c = b → x < T.length → x = b ∨ ∃ c ∈ kidN' T b, ∃ m, Steps (parU T) m x c := by
       intro m x c hs
       induction hs with
       | zero => intro e _; exact .inl e
       | @succ m i p r h1 h2 ih =>
         intro e hi
         have hi0 : i ≠ 0 := fun e0 => by
           subst e0
           simp only [parU, h.head] at h1
           omega
         obtain ⟨y, hy⟩ : ∃ y, T[i]? = some y := ⟨_, List.getElem?_eq_getElem hi⟩
         obtain ⟨q, h3, h4⟩ := (h.tail i y hy).2 hi0
         have hpq : p = q := by simp only [parU, hy] at h1; omega
         rcases ih e (by omega) with h5 | ⟨c, h5, m', h6⟩
         · right
           refine ⟨i, mem_kidN.2 ⟨hi, by rw [h1, h5]⟩, 0, .zero⟩
         · exact .inr ⟨c, h5, m' + 1, .succ h1 h6⟩
     rcases key hs rfl hx with h1 | ⟨c, hc, m', h1⟩
     · exact .inl h1
     · have hk := h.kid_gt hc
       exact .inr (Tr.mem_labss (List.mem_map_of_mem hc) ((ParOk.labs_mem h f c hk.2 (by omega) x).2 ⟨hx, m', h1⟩))
theorem ParOk.steps_le {T : List Bg} (h : ParOk T) {m x c : Nat} (hs : Steps (parU T) m x c) : x < T.length → c ≤ x := by
 induction hs with
 | zero => intro _; exact Nat.le_refl _
 | @succ m i p r h1 _ ih =>
   intro hi
   have hi0 : i ≠ 0 := fun e0 => by
     subst e0
     simp only [parU, h.head] at h1
     omega
   obtain ⟨y, hy⟩ : ∃ y, T[i]? = some y := ⟨_, List.getElem?_eq_getElem hi⟩
   obtain ⟨q, h3, h4⟩ := (h.tail i y hy).2 hi0
   have hpq : p = q := by simp only [parU, hy] at h1; omega
   have := ih (by omega)
   omega
theorem Steps.linear {U : Nat → Int} {m x c : Nat} (h1 : Steps U m x c) : ∀ {m' c' : Nat}, Steps U m' x c' → (∃ k, Steps U k c c') ∨ ∃ k, Steps U k c' c := by
 induction h1 with
 | zero => intro m' c' h2; exact .inl ⟨_, h2⟩
 | @succ m i p r h1 h3 ih =>
   intro m' c' h2
   cases h2 with
   | zero => exact .inr ⟨_, .succ h1 h3⟩
   | @succ _ _ q _ h4 h5 =>
     rw [h1] at h4
     have : p = q := by omega
     subst this
     exact ih h5
theorem ParOk.nodup {T : List Bg} (h : ParOk T) : ∀ (f b : Nat), b < T.length → T.length - b ≤ f → (mkTr (kidN' T) f b).labs.Nodup
 | 0, b, hb, hf => by omega
 | f + 1, b, hb, hf => by
   rw [mkTr, Tr.labs, List.nodup_cons]
   constructor
   · intro hx
     obtain ⟨u, hu, hx⟩ := Tr.labss_mem hx
     obtain ⟨c, hc, rfl⟩ := List.mem_map.1 hu
     have hk := h.kid_gt hc
     obtain ⟨_, m, hs⟩ := (h.labs_mem f c hk.2 (by omega) b).1 hx
     have := h.steps_le hs hb
     omega
   · have key : ∀ (l : List Nat), l.Nodup → (∀ c ∈ l, c ∈ kidN' T b) → (Tr.labss (l.map (mkTr (kidN' T) f))).Nodup := by
       intro l
       induction l with
       | nil => intro _ _; exact List.nodup_nil
       | cons c l ih =>
         intro hn hl
         rw [List.nodup_cons] at hn
         rw [List.map_cons, Tr.labss, List.nodup_append]
         have hk := h.kid_gt (hl c (by simp))
         refine ⟨ParOk.nodup h f c hk.2 (by omega), ih hn.2 fun d hd => hl d (by simp [hd]), ?_⟩
         intro x hx y hy e
         subst e
         obtain ⟨u, hu, hy⟩ := Tr.labss_mem hy
         obtain ⟨d, hd, rfl⟩ := List.mem_map.1 hu
         have hk2 := h.kid_gt (hl d (by simp [hd]))
         obtain ⟨hxl, m1, s1⟩ := (h.labs_mem f c hk.2 (by omega) x).1 hx
         obtain ⟨_, m2, s2⟩ := (h.labs_mem f d hk2.2 (by omega) x).1 hy
         have hcd : c ≠ d := fun e => hn.1 (by rw [e]; exact hd)
         have hpc := (mem_kidN.1 (hl c (by simp))).2
         have hpd := (mem_kidN.1 (hl d (by simp [hd]))).2
         rcases s1.linear s2 with ⟨k, s⟩ | ⟨k, s⟩
         · cases s with
           | zero => exact hcd rfl
           | @succ _ _ q _ h4 h5 =>
             rw [hpc] at h4
             have := h.steps_le h5 (by omega)
             omega
         · cases s with
           | zero => exact hcd rfl
           | @succ _ _ q _ h4 h5 =>
             rw [hpd] at h4
             have := h.steps_le h5 (by omega)
             omega
     exact key _ (kidN_nodup T b) fun _ h => h
theorem length_le_of {l1 : List Nat} : ∀ {l2 : List Nat}, l1.Nodup → (∀ x ∈ l1, x ∈ l2) → l1.length ≤ l2.length := by
 induction l1 with
 | nil => intro l2 _ _; exact Nat.zero_le _
 | cons x l ih =>
   intro l2 hn hs
   rw [List.nodup_cons] at hn
   have h1 := ih (l2 := l2.erase x) hn.2 fun y hy => (List.mem_erase_of_ne fun e => hn.1 (by rw [← e]; exact hy)).2 (hs y (by simp [hy]))
   have h2 : (l2.erase x).length = l2.length - 1 := List.length_erase_of_mem (hs x (by simp))
   have h3 : 0 < l2.length := List.length_pos_of_mem (hs x (by simp))
   rw [List.length_cons]
   omega
theorem ParOk.steps_root {T : List Bg} (h : ParOk T) : ∀ (k x : Nat), x ≤ k → x < T.length → ∃ m, Steps (parU T) m x 0
 | 0, x, hx, _ => by
   have : x = 0 := by omega
   subst this
   exact ⟨0, .zero⟩
 | k + 1, x, hx, hl => by
   by_cases h0 : x = 0
   · subst h0; exact ⟨0, .zero⟩
   · obtain ⟨y, hy⟩ : ∃ y, T[x]? = some y := ⟨_, List.getElem?_eq_getElem hl⟩
     obtain ⟨q, h3, h4⟩ := (h.tail x y hy).2 h0
     obtain ⟨m, hs⟩ := ParOk.steps_root h k q (by omega) (by omega)
     exact ⟨m + 1, .succ (by simp only [parU, hy]; exact h3) hs⟩
theorem ParOk.pos {T : List Bg} (h : ParOk T) : 0 < T.length := (List.getElem?_eq_some_iff.1 h.head).1
theorem ParOk.top {T : List Bg} (h : ParOk T) (i : Nat) : topS T i = 0 := by
 unfold topS
 split
 · rfl
 · rename_i x hx
   have h1 := (h.tail i x hx).1
   split
   · exact h1
   · split
     · rfl
     · rw [h1]; simp [sDiff]
theorem ParOk.rootsTo {T : List Bg} (h : ParOk T) : ∀ (k : Nat), 0 < k → k ≤ T.length → Go.Pal.rootsTo T k = [0]
 | 0, h0, _ => by omega
 | 1, _, _ => by simp [Go.Pal.rootsTo, h.head]
 | k + 2, _, hk => by
   obtain ⟨y, hy⟩ : ∃ y, T[k + 1]? = some y := ⟨_, List.getElem?_eq_getElem (by omega)⟩
   obtain ⟨q, h3, h4⟩ := (h.tail (k + 1) y hy).2 (by omega)
   rw [rootsTo_succ hy, ParOk.rootsTo h (k + 1) (by omega) (by omega), if_neg (by omega), List.append_nil]
theorem Tr.hsz_lt (t : Tr) : (match Tr.hvL t.ks with | none => 0 | some h => h.sz) + 1 ≤ t.sz := by
 cases hh : Tr.hvL t.ks with
 | none => have := t.sz_pos; simp; omega
 | some x =>
   have := Tr.szs_le (Tr.hvL_mem hh)
   cases t
   simp only [Tr.ks, Tr.sz] at *
   omega
theorem HPath.le {t : Tr} {l : List Tr} (h : HPath t l) : ∀ z ∈ l, z.sz ≤ t.sz := by
 induction h with
 | last => intro z hz; simp at hz; subst hz; exact Nat.le_refl _
 | @cons u x l hh _ ih =>
   intro z hz
   rcases List.mem_cons.1 hz with rfl | hz
   · exact Nat.le_refl _
   · have h1 := ih z hz
     have h2 := u.hsz_lt
     rw [hh] at h2
     simp only at h2
     omega
def Md.bit : Md → Nat | .chain => 0 | .group _ => 1
structure RkOk (T : List Bg) (r0 : Nat) (rk : Nat → Nat) (M : Nat) : Prop where
 lt : r0 < T.length
 head : parU T r0 = -1
 par : ∀ c, c < T.length → c ≠ r0 → ∃ p : Nat, parU T c = (p : Int) ∧ p < T.length ∧ rk p < rk c
 bd : ∀ c, c < T.length → rk c < M
theorem RkOk.kid_gt {T : List Bg} {r0 M : Nat} {rk : Nat → Nat} (h : RkOk T r0 rk M) {b c : Nat} (hc : c ∈ kidN' T b) : rk b < rk c ∧ c < T.length := by
 obtain ⟨h1, h2⟩ := mem_kidN.1 hc
 by_cases h0 : c = r0
 · subst h0
   rw [h.head] at h2
   omega
 · obtain ⟨p, h3, h4, h5⟩ := h.par c h1 h0
   have : p = b := by omega
   subst this
   exact ⟨h5, h1⟩
theorem RkOk.fits {T : List Bg} {r0 M : Nat} {rk : Nat → Nat} (h : RkOk T r0 rk M) : ∀ (f b : Nat), b < T.length → M - rk b ≤ f → Fits T.length (kidsTo T T.length) (mkTr (kidN' T) f b)
 | 0, b, hb, hf => by have := h.bd b hb; omega
 | f + 1, b, hb, hf => by
   rw [mkTr]
   refine .mk b _ hb ?_ ?_
   · rw [List.map_map, ← kidN_map]
     refine List.map_congr_left fun c _ => ?_
     simp [mkTr_lab]
   · intro u hu
     obtain ⟨c, hc, rfl⟩ := List.mem_map.1 hu
     have hk := h.kid_gt hc
     have h1 := h.bd b hb
     have h2 := h.bd c hk.2
     exact RkOk.fits h f c hk.2 (by omega)
theorem RkOk.step {T : List Bg} {r0 M : Nat} {rk : Nat → Nat} (h : RkOk T r0 rk M) {i p : Nat} (hi : i < T.length) (h1 : parU T i = (p : Nat)) : p < T.length ∧ rk p < rk i := by
 by_cases h0 : i = r0
 · subst h0
   rw [h.head] at h1
   omega
 · obtain ⟨q, h3, h4, h5⟩ := h.par i hi h0
   have : p = q := by omega
   subst this
   exact ⟨h4, h5⟩
theorem RkOk.labs_mem {T : List Bg} {r0 M : Nat} {rk : Nat → Nat} (h : RkOk T r0 rk M) : ∀ (f b : Nat), b < T.length → M - rk b ≤ f → ∀ x, x ∈ (mkTr (kidN' T) f b).labs ↔ x < T.length ∧ ∃ m, Steps (parU T) m x b
 | 0, b, hb, hf => by have := h.bd b hb; omega
 | f + 1, b, hb, hf => by
   intro x
   have hbb := h.bd b hb
   rw [mkTr, Tr.labs, List.mem_cons]
   constructor
   · rintro (rfl | hx)
     · exact ⟨hb, 0, .zero⟩
     · obtain ⟨u, hu, hx⟩ := Tr.labss_mem hx
       obtain ⟨c, hc, rfl⟩ := List.mem_map.1 hu
       have hk := h.kid_gt hc
       have hcb := h.bd c hk.2
       obtain ⟨h1, m, h2⟩ := (RkOk.labs_mem h f c hk.2 (by omega) x).1 hx
       exact ⟨h1, m + 1, h2.snoc (mem_kidN.1 hc).2⟩
   · rintro ⟨hx, m, hs⟩
     have key : ∀ {m x c : Nat}, Steps (parU T) m x c → c = b → x < T.length → x = b ∨ ∃ c ∈ kidN' T b, ∃ m, Steps (parU T) m x c := by
       intro m x c hs
       induction hs with
       | zero => intro e _; exact .inl e
       | @succ m i p r h1 h2 ih =>
         intro e hi
         have hst := h.step hi h1
         rcases ih e hst.1 with h5 | ⟨c, h5, m', h6⟩
         · right
           refine ⟨i, mem_kidN.2 ⟨hi, by rw [h1, h5]⟩, 0, .zero⟩
         · exact .inr ⟨c, h5, m' + 1, .succ h1 h6⟩
     rcases key hs rfl hx with h1 | ⟨c, hc, m', h1⟩
     · exact .inl h1
     · have hk := h.kid_gt hc
       have hcb := h.bd c hk.2
       exact .inr (Tr.mem_labss (List.mem_map_of_mem hc) ((RkOk.labs_mem h f c hk.2 (by omega) x).2 ⟨hx, m', h1⟩))
theorem RkOk.steps_le {T : List Bg} {r0 M : Nat} {rk : Nat → Nat} (h : RkOk T r0 rk M) {m x c : Nat} (hs : Steps (parU T) m x c) : x < T.length → rk c ≤ rk x := by
 induction hs with
 | zero => intro _; exact Nat.le_refl _
 | @succ m i p r h1 _ ih =>
   intro hi
   have hst := h.step hi h1
   have := ih hst.1
   omega
theorem RkOk.nodup {T : List Bg} {r0 M : Nat} {rk : Nat → Nat} (h : RkOk T r0 rk M) : ∀ (f b : Nat), b < T.length → M - rk b ≤ f → (mkTr (kidN' T) f b).labs.Nodup
 | 0, b, hb, hf => by have := h.bd b hb; omega
 | f + 1, b, hb, hf => by
   have hbb := h.bd b hb
   rw [mkTr, Tr.labs, List.nodup_cons]
   constructor
   · intro hx
     obtain ⟨u, hu, hx⟩ := Tr.labss_mem hx
     obtain ⟨c, hc, rfl⟩ := List.mem_map.1 hu
     have hk := h.kid_gt hc
     have hcb := h.bd c hk.2
     obtain ⟨_, m, hs⟩ := (h.labs_mem f c hk.2 (by omega) b).1 hx
     have := h.steps_le hs hb
     omega
   · have key : ∀ (l : List Nat), l.Nodup → (∀ c ∈ l, c ∈ kidN' T b) → (Tr.labss (l.map (mkTr (kidN' T) f))).Nodup := by
       intro l
       induction l with
       | nil => intro _ _; exact List.nodup_nil
       | cons c l ih =>
         intro hn hl
         rw [List.nodup_cons] at hn
         rw [List.map_cons, Tr.labss, List.nodup_append]
         have hk := h.kid_gt (hl c (by simp))
         have hcb := h.bd c hk.2
         refine ⟨RkOk.nodup h f c hk.2 (by omega), ih hn.2 fun d hd => hl d (by simp [hd]), ?_⟩
         intro x hx y hy e
         subst e
         obtain ⟨u, hu, hy⟩ := Tr.labss_mem hy
         obtain ⟨d, hd, rfl⟩ := List.mem_map.1 hu
         have hk2 := h.kid_gt (hl d (by simp [hd]))
         have hdb := h.bd d hk2.2
         obtain ⟨hxl, m1, s1⟩ := (h.labs_mem f c hk.2 (by omega) x).1 hx
         obtain ⟨_, m2, s2⟩ := (h.labs_mem f d hk2.2 (by omega) x).1 hy
         have hcd : c ≠ d := fun e => hn.1 (by rw [e]; exact hd)
         have hpc := (mem_kidN.1 (hl c (by simp))).2
         have hpd := (mem_kidN.1 (hl d (by simp [hd]))).2
         rcases s1.linear s2 with ⟨k, s⟩ | ⟨k, s⟩
         · cases s with
           | zero => exact hcd rfl
           | @succ _ _ q _ h4 h5 =>
             rw [hpc] at h4
             have hq : q = b := by omega
             subst hq
             have := h.steps_le h5 hb
             omega
         · cases s with
           | zero => exact hcd rfl
           | @succ _ _ q _ h4 h5 =>
             rw [hpd] at h4
             have hq : q = b := by omega
             subst hq
             have := h.steps_le h5 hb
             omega
     exact key _ (kidN_nodup T b) fun _ h => h
theorem RkOk.steps_root {T : List Bg} {r0 M : Nat} {rk : Nat → Nat} (h : RkOk T r0 rk M) : ∀ (n x : Nat), rk x ≤ n → x < T.length → ∃ m, Steps (parU T) m x r0 := by
 intro n
 induction n with
 | zero =>
   intro x hx hl
   by_cases h0 : x = r0
   · subst h0; exact ⟨0, .zero⟩
   · obtain ⟨q, h3, h4, h5⟩ := h.par x hl h0
     omega
 | succ n ih =>
   intro x hx hl
   by_cases h0 : x = r0
   · subst h0; exact ⟨0, .zero⟩
   · obtain ⟨q, h3, h4, h5⟩ := h.par x hl h0
     obtain ⟨m, hs⟩ := ih q (by omega) h4
     exact ⟨m + 1, .succ h3 hs⟩
theorem climb_mono {T : List Bg} : ∀ {f : Nat} {z : Int} {l : List Int}, climb T f z = some l → climb T (f + 1) z = some l
 | 0, z, l, h => by
   unfold climb at h ⊢
   split at h
   · rename_i hz; rw [if_pos hz]; exact h
   · cases h
 | f + 1, z, l, h => by
   rw [climb] at h
   rw [climb]
   split at h
   · rename_i hz; rw [if_pos hz]; exact h
   · rename_i hz
     rw [if_neg hz]
     obtain ⟨l', h1, rfl⟩ := Option.map_eq_some_iff.1 h
     rw [climb_mono h1]
     rfl
theorem rCheckN_zero {T : List Bg} (h : rCheckN T = 0) : 1 ≤ T.length ∧ T.length ≤ 4096 ∧ T.all (parB T.length) = true ∧ (T.filter rootB).length = 1 ∧ (List.range T.length).all (upB T) = true ∧ (List.range T.length).all (topB T) = true := by
 unfold rCheckN at h
 split at h
 · cases h
 · rename_i h0
   split at h
   · cases h
   · rename_i h1
     split at h
     · cases h
     · rename_i h2
       split at h
       · cases h
       · rename_i h3
         split at h
         · cases h
         · rename_i h4
           refine ⟨by omega, by omega, by simpa using h1, by omega, by simpa using h3, by simpa using h4⟩
theorem parU_eq {T : List Bg} (i : Nat) : parU T i = upI T (i : Int) := by
 unfold parU upI
 rw [Int.toNat_natCast]
 all_goals (cases T[i]? <;> rfl)
theorem rootsTo_len {T : List Bg} (h : ∀ x ∈ T, -1 ≤ x.1) : ∀ k, k ≤ T.length → (rootsTo T k).length = ((T.take k).filter rootB).length
 | 0, _ => rfl
 | k + 1, hk => by
   obtain ⟨x, hx⟩ : ∃ x, T[k]? = some x := ⟨_, List.getElem?_eq_getElem (by omega)⟩
   have hx1 := h x (List.mem_of_getElem? hx)
   rw [rootsTo_succ hx, List.length_append, rootsTo_len h k (by omega), List.take_add_one, hx, List.filter_append, List.length_append]
   congr 1
   by_cases hr : x.1 = -1
   · rw [if_pos hr]; simp [rootB, hr]
   · rw [if_neg hr]
     have : ¬ x.1 < 0 := by omega
     simp [rootB, this]
theorem rootsTo_memR {T : List Bg} {z : Int} : ∀ {k : Nat}, z ∈ rootsTo T k → ∃ r : Nat, r < k ∧ z = r ∧ (T[r]?).map Prod.fst = some (-1)
 | 0, h => by simp [rootsTo] at h
 | k + 1, h => by
   rw [rootsTo, List.mem_append] at h
   rcases h with h | h
   · obtain ⟨r, h1, h2, h3⟩ := rootsTo_memR h
     exact ⟨r, by omega, h2, h3⟩
   · split at h
     · rename_i hk
       simp at h
       exact ⟨k, by omega, h, hk⟩
     · cases h
theorem memR_rootsTo {T : List Bg} {r : Nat} (hr : (T[r]?).map Prod.fst = some (-1)) : ∀ {k : Nat}, r < k → (r : Int) ∈ rootsTo T k
 | 0, h => by omega
 | k + 1, h => by
   rw [rootsTo, List.mem_append]
   by_cases e : r = k
   · subst e; right; rw [if_pos hr]; simp
   · exact .inl (memR_rootsTo hr (by omega))
theorem seenTo_bit {T : List Bg} {n : Nat} : ∀ {k : Nat}, (seenTo T k).testBit n = true → ∃ j, j < k ∧ (topS T j).testBit n = true
 | 0, h => by simp [seenTo] at h
 | k + 1, h => by
   rw [seenTo, Nat.testBit_or, Bool.or_eq_true] at h
   rcases h with h | h
   · obtain ⟨j, h1, h2⟩ := seenTo_bit h
     exact ⟨j, by omega, h2⟩
   · exact ⟨k, by omega, h⟩
theorem topS_bag {T : List Bg} {i n : Nat} (h : (topS T i).testBit n = true) : (bagN T i).testBit n = true := by
 unfold topS at h
 unfold bagN
 split at h
 · simp at h
 · rename_i x hx
   try rw [hx]
   split at h
   · exact h
   · split at h
     · simp at h
     · rw [sDiff_testBit, Bool.and_eq_true] at h
       exact h.1
theorem two_mem {l : List Nat} {i j : Nat} (hi : i ∈ l) (hj : j ∈ l) (h : i ≠ j) : l.length ≠ 1 := fun e => by
 match l, e with
 | [x], _ => simp at hi hj; omega
end Go.Pal
