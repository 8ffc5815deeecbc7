/-
  Sets of numbers below 1024 as natural numbers, and the array of sixteen words that holds one. Plain mathematics; no program.
  The elements of a set in increasing order; its least element by its first word that is not 0; how many there are. Plain mathematics; no program.
  The arithmetic of math/bits.OnesCount64, step by step as Go's text has it. Plain mathematics; no program.
  Trees of bags as lists of pairs (parent, set), and the cells of a bag. Plain mathematics; no program.
  Rose trees of bags: the plain model. No program.
  Valid trees of bags: the plain notion. No program.
  The row of the frame's nodes: five cells for each bag. No program.
  The hierarchy of clusters over a rose tree: the plain model. No program.
  Rows of integers under updates; parents and leaves of a list of clusters. No program.
  The clusters' parents: each cluster reaches the root in fewer steps than the depth. No program.
  The plain law of the hierarchy of clusters: it exists, it is low, it has between two and four clusters a bag. No program.
  The plain law of the hierarchy of clusters: existence, depth, number. No program.
  The plain law of the hierarchy of clusters: depth and number. No program.
  A list of bags without vertices, each but the first below an earlier one, is a valid tree of bags. No program.
  The document's example of a hierarchy of clusters, in plain. No program.
-/
import Derived.WalkKit
import Derived.Laws.BitsAllLaws
import Derived.Lib.TrailingZeros
namespace Go.Pal
open Go

/-- Word i of the set S. -/
def wd (S i : Nat) : Nat := (S >>> (64 * i)) % 18446744073709551616
/-- The sixteen cells that hold the set S. -/
def words (S : Nat) : Array Value := Array.ofFn (n := 16) fun i => .int .u64 (wd S i.val : Int)
abbrev setV (S : Nat) : Value := .agg (words S)

theorem wd_lt (S i : Nat) : wd S i < 18446744073709551616 := Nat.mod_lt _ (by decide)
theorem words_size (S : Nat) : (words S).size = 16 := by simp [words]
theorem words_get (S : Nat) {i : Nat} (h : i < 16) : (words S)[i]? = some (.int .u64 (wd S i : Int)) := by
  simp [words, h]
theorem words_get' (S : Nat) {n : Int} (h0 : 0 ≤ n) (h1 : n < 16) : (words S)[n.toNat]? = some (.int .u64 (wd S n.toNat : Int)) := words_get S (by omega)

theorem wd_testBit (S i j : Nat) : (wd S i).testBit j = (decide (j < 64) && S.testBit (64 * i + j)) := by
  unfold wd
  rw [show (18446744073709551616 : Nat) = 2 ^ 64 from rfl, Nat.testBit_mod_two_pow, Nat.testBit_shiftRight]

theorem words_congr {S T : Nat} (h : ∀ i, i < 16 → wd S i = wd T i) : words S = words T := by
  unfold words
  congr 1
  funext i
  rw [h i.val i.isLt]

theorem wd_eq_of_testBit {x S i : Nat} (hx : x < 18446744073709551616) (h : ∀ j, j < 64 → x.testBit j = S.testBit (64 * i + j)) : x = wd S i := by
  apply Nat.eq_of_testBit_eq
  intro j
  rw [wd_testBit]
  by_cases hj : j < 64
  · simp [hj, h j hj]
  · simp only [hj, decide_false, Bool.false_and]
    exact Nat.testBit_lt_two_pow (Nat.lt_of_lt_of_le hx (by rw [show (18446744073709551616 : Nat) = 2 ^ 64 from rfl]; exact Nat.pow_le_pow_right (by decide) (by omega)))

/-- A word is written: the array holds the set T if T has that word and the others of S. -/
theorem words_set {S T i x : Nat} (_hi : i < 16) (hx : x = wd T i) (ho : ∀ j, j < 16 → j ≠ i → wd S j = wd T j) : (words S).setIfInBounds i (.int .u64 (x : Int)) = words T := by
  apply Array.ext_getElem?
  intro j
  by_cases hj : j < 16
  · rw [words_get T hj]
    by_cases hji : i = j
    · subst hji
      rw [Array.getElem?_setIfInBounds_self_of_lt (by rw [words_size]; exact hj), hx]
    · rw [Array.getElem?_setIfInBounds_ne hji, words_get S hj, ho j hj (fun e => hji e.symm)]
  · rw [Array.getElem?_eq_none (by simp [words_size]; omega), Array.getElem?_eq_none (by rw [words_size]; omega)]

/-- n put in, n taken out. -/
def sIns (S n : Nat) : Nat := S ||| (1 <<< n)
def sDel (S n : Nat) : Nat := S ^^^ (S &&& (1 <<< n))
def sHas (S n : Nat) : Bool := S.testBit n
def sDiff (S T : Nat) : Nat := S ^^^ (S &&& T)

theorem testBit_one_shift (n m : Nat) : (1 <<< n).testBit m = decide (n = m) := by
  rw [Nat.one_shiftLeft, Nat.testBit_two_pow]
theorem sIns_testBit (S n m : Nat) : (sIns S n).testBit m = (S.testBit m || decide (n = m)) := by
  rw [sIns, Nat.testBit_or, testBit_one_shift]
theorem sDel_testBit (S n m : Nat) : (sDel S n).testBit m = (S.testBit m && !decide (n = m)) := by
  rw [sDel, Nat.testBit_xor, Nat.testBit_and, testBit_one_shift]
  cases S.testBit m <;> cases decide (n = m) <;> rfl
theorem sDiff_testBit (S T m : Nat) : (sDiff S T).testBit m = (S.testBit m && !T.testBit m) := by
  rw [sDiff, Nat.testBit_xor, Nat.testBit_and]
  cases S.testBit m <;> cases T.testBit m <;> rfl

theorem pow_lt_word {k : Nat} (h : k < 64) : 2 ^ k < 18446744073709551616 := by
  rw [show (18446744073709551616 : Nat) = 2 ^ 64 from rfl]; exact Nat.pow_lt_pow_right (by decide) h

theorem or_lt_word {a b : Nat} (ha : a < 18446744073709551616) (hb : b < 18446744073709551616) : a ||| b < 18446744073709551616 := by
  rw [show (18446744073709551616 : Nat) = 2 ^ 64 from rfl] at *; exact Nat.or_lt_two_pow ha hb
theorem and_lt_word {a b : Nat} (ha : a < 18446744073709551616) : a &&& b < 18446744073709551616 := Nat.lt_of_le_of_lt Nat.and_le_left ha

/-- The mask of an element in its word. -/
def bitN (n : Nat) : Nat := 2 ^ (n % 64)
theorem bitN_lt (n : Nat) : bitN n < 18446744073709551616 := pow_lt_word (Nat.mod_lt _ (by decide))

/-- 'r[n/word] |= bit(n)'. -/
theorem words_ins (S : Nat) {n : Nat} (h : n < 1024) : (words S).setIfInBounds (n / 64) (.int .u64 ((wd S (n / 64) ||| bitN n : Nat) : Int)) = words (sIns S n) := by
  unfold bitN
  have hp : 2 ^ (n % 64) < 18446744073709551616 := pow_lt_word (Nat.mod_lt _ (by decide))
  refine words_set (by omega) ?_ ?_
  · refine wd_eq_of_testBit (or_lt_word (wd_lt _ _) hp) fun j hj => ?_
    rw [Nat.testBit_or, wd_testBit, sIns_testBit, Nat.testBit_two_pow]
    simp only [hj, decide_true, Bool.true_and]
    congr 1
    rw [decide_eq_decide]
    omega
  · intro j hj hne
    refine wd_eq_of_testBit (wd_lt _ _) fun k hk => ?_
    rw [wd_testBit, sIns_testBit]
    have : ¬ n = 64 * j + k := by omega
    simp [hk, this]

/-- 'r[n/word] &^= bit(n)'. -/
theorem words_del (S : Nat) {n : Nat} (h : n < 1024) : (words S).setIfInBounds (n / 64) (.int .u64 ((wd S (n / 64) &&& (18446744073709551615 - bitN n) : Nat) : Int)) = words (sDel S n) := by
  unfold bitN
  have hp : n % 64 < 64 := Nat.mod_lt _ (by decide)
  refine words_set (by omega) ?_ ?_
  · refine wd_eq_of_testBit (and_lt_word (wd_lt _ _)) fun j hj => ?_
    rw [Nat.testBit_and, wd_testBit, sDel_testBit, show (18446744073709551615 : Nat) - 2 ^ (n % 64) = 2 ^ 64 - (2 ^ (n % 64) + 1) by have := pow_lt_word hp; omega, Nat.testBit_two_pow_sub_succ (pow_lt_word hp), Nat.testBit_two_pow]
    simp only [hj, decide_true, Bool.true_and]
    congr 2
    rw [decide_eq_decide]
    omega
  · intro j hj hne
    refine wd_eq_of_testBit (wd_lt _ _) fun k hk => ?_
    rw [wd_testBit, sDel_testBit]
    have : ¬ n = 64 * j + k := by omega
    simp [hk, this]

/-- The array in the midst of a loop that goes over the words: the first k words are T's, the rest are S's. -/
def mixW (T S k : Nat) : Array Value := Array.ofFn (n := 16) fun i => .int .u64 ((if i.val < k then wd T i.val else wd S i.val : Nat) : Int)
theorem mixW_zero (T S : Nat) : mixW T S 0 = words S := by simp [mixW, words]
theorem mixW_all (T S : Nat) : mixW T S 16 = words T := by
  unfold mixW words; congr 1; funext i; simp [i.isLt]
theorem mixW_size (T S k : Nat) : (mixW T S k).size = 16 := by simp [mixW]
theorem mixW_get (T S k : Nat) {i : Nat} (h : i < 16) (hk : k ≤ i) : (mixW T S k)[i]? = some (.int .u64 (wd S i : Int)) := by
  simp [mixW, h, Nat.not_lt.2 hk]
theorem mixW_set (T S k : Nat) (_h : k < 16) {x : Nat} (hx : x = wd T k) : (mixW T S k).setIfInBounds k (.int .u64 (x : Int)) = mixW T S (k + 1) := by
  apply Array.ext_getElem?
  intro j
  by_cases hj : j < 16
  · by_cases hji : k = j
    · subst hji
      rw [Array.getElem?_setIfInBounds_self_of_lt (by rw [mixW_size]; exact hj), hx]
      simp [mixW, hj]
    · rw [Array.getElem?_setIfInBounds_ne hji]
      have : (j < k) = (j < k + 1) := by apply propext; omega
      simp [mixW, hj, this]
  · rw [Array.getElem?_eq_none (by simp [mixW_size]; omega), Array.getElem?_eq_none (by rw [mixW_size]; omega)]

theorem wd_or (S T i : Nat) : wd S i ||| wd T i = wd (S ||| T) i := by
  refine wd_eq_of_testBit (or_lt_word (wd_lt _ _) (wd_lt _ _)) fun j hj => ?_
  simp [Nat.testBit_or, wd_testBit, hj]
theorem wd_and (S T i : Nat) : wd S i &&& wd T i = wd (S &&& T) i := by
  refine wd_eq_of_testBit (and_lt_word (wd_lt _ _)) fun j hj => ?_
  simp [Nat.testBit_and, wd_testBit, hj]
theorem wd_diff (S T i : Nat) : wd S i &&& (18446744073709551615 - wd T i) = wd (sDiff S T) i := by
  refine wd_eq_of_testBit (and_lt_word (wd_lt _ _)) fun j hj => ?_
  rw [Nat.testBit_and, sDiff_testBit, show (18446744073709551615 : Nat) - wd T i = 2 ^ 64 - (wd T i + 1) by have := wd_lt T i; omega, Nat.testBit_two_pow_sub_succ (wd_lt T i), wd_testBit, wd_testBit]
  simp [hj]

/-- A set: bits below 1024 alone. -/
def IsSet (S : Nat) : Prop := ∀ n, S.testBit n = true → n < 1024
theorem IsSet.bit {S : Nat} (h : IsSet S) {n : Nat} (hn : S.testBit n = true) : n < 1024 := h n hn
theorem isSet_of {S : Nat} (h : ∀ n, S.testBit n = true → n < 1024) : IsSet S := h
theorem isSet_zero : IsSet 0 := fun n h => by simp at h
theorem isSet_of_lt {S k : Nat} (h : S < 2 ^ k) (hk : k ≤ 1024) : IsSet S := fun n hn => by
  rcases Nat.lt_or_ge n 1024 with h' | h'
  · exact h'
  · rw [Nat.testBit_lt_two_pow (Nat.lt_of_lt_of_le h (Nat.pow_le_pow_right (by decide) (by omega)))] at hn
    cases hn
theorem isSet_ins {S n : Nat} (h : IsSet S) (hn : n < 1024) : IsSet (sIns S n) := isSet_of fun m hm => by
  rw [sIns_testBit] at hm
  simp only [Bool.or_eq_true, decide_eq_true_eq] at hm
  rcases hm with hm | hm
  · exact h.bit hm
  · omega
theorem isSet_del {S n : Nat} (h : IsSet S) : IsSet (sDel S n) := isSet_of fun m hm => by
  rw [sDel_testBit] at hm
  simp only [Bool.and_eq_true] at hm
  exact h.bit hm.1
theorem isSet_diff {S T : Nat} (h : IsSet S) : IsSet (sDiff S T) := isSet_of fun m hm => by
  rw [sDiff_testBit] at hm
  simp only [Bool.and_eq_true] at hm
  exact h.bit hm.1
theorem isSet_or {S T : Nat} (h : IsSet S) (k : IsSet T) : IsSet (S ||| T) := isSet_of fun m hm => by
  rw [Nat.testBit_or] at hm
  simp only [Bool.or_eq_true] at hm
  rcases hm with hm | hm
  · exact h.bit hm
  · exact k.bit hm
theorem isSet_and {S T : Nat} (h : IsSet S) : IsSet (S &&& T) := isSet_of fun m hm => by
  rw [Nat.testBit_and] at hm
  simp only [Bool.and_eq_true] at hm
  exact h.bit hm.1

/-- Two sets with the same words are one. -/
theorem set_ext {S T : Nat} (hS : IsSet S) (hT : IsSet T) (h : ∀ i, i < 16 → wd S i = wd T i) : S = T := by
  apply Nat.eq_of_testBit_eq
  intro m
  by_cases hm : m < 1024
  · have h1 := wd_testBit S (m / 64) (m % 64)
    have h2 := wd_testBit T (m / 64) (m % 64)
    rw [h (m / 64) (by omega)] at h1
    rw [h1] at h2
    have hlt : m % 64 < 64 := Nat.mod_lt _ (by decide)
    simp only [hlt, decide_true, Bool.true_and] at h2
    rw [show 64 * (m / 64) + m % 64 = m by omega] at h2
    exact h2
  · cases h1 : S.testBit m with
    | true => exact absurd (hS.bit h1) hm
    | false => cases h2 : T.testBit m with
      | true => exact absurd (hT.bit h2) hm
      | false => rfl

theorem words_inj {S T : Nat} (hS : IsSet S) (hT : IsSet T) (h : words S = words T) : S = T :=
  set_ext hS hT fun i hi => by
    have h1 := words_get S hi
    rw [h, words_get T hi] at h1
    simp only [Option.some.injEq, Value.int.injEq, true_and] at h1
    omega

/-- What sixteen numbers of 64 bits hold. -/
def ofWords : List Nat → Nat
  | [] => 0
  | x :: r => x + 18446744073709551616 * ofWords r
theorem ofWords_lt : ∀ (l : List Nat), (∀ x ∈ l, x < 18446744073709551616) → ofWords l < 2 ^ (64 * l.length)
  | [], _ => by simp [ofWords]
  | x :: r, h => by
    have h1 := h x (by simp)
    have h2 := ofWords_lt r (fun y hy => h y (by simp [hy]))
    simp only [ofWords, List.length_cons]
    rw [show 64 * (r.length + 1) = 64 * r.length + 64 by omega, Nat.pow_add]
    have : (2 : Nat) ^ 64 = 18446744073709551616 := rfl
    rw [this]
    omega
theorem wd_ofWords : ∀ (l : List Nat) (i : Nat), (∀ x ∈ l, x < 18446744073709551616) → wd (ofWords l) i = l.getD i 0
  | [], i, _ => by simp [ofWords, wd]
  | x :: r, 0, h => by
    have h1 := h x (by simp)
    simp only [ofWords, wd, Nat.mul_zero, Nat.shiftRight_zero, List.getD_cons_zero]
    omega
  | x :: r, i + 1, h => by
    have h1 := h x (by simp)
    have ih := wd_ofWords r i (fun y hy => h y (by simp [hy]))
    simp only [List.getD_cons_succ]
    rw [← ih]
    unfold wd
    rw [show 64 * (i + 1) = 64 + 64 * i by omega, Nat.shiftRight_add]
    congr 2
    rw [ofWords, Nat.shiftRight_eq_div_pow]
    have : (2 : Nat) ^ 64 = 18446744073709551616 := rfl
    rw [this]
    omega

/-- Equality of two sets, word by word. -/
def eqW (S T : Nat) : Bool := (List.range' 0 16).all fun i => (wd S i : Int) == (wd T i : Int)
theorem eqW_iff {S T : Nat} (hS : IsSet S) (hT : IsSet T) : eqW S T = decide (S = T) := by
  by_cases h : S = T
  · subst h
    simp [eqW]
  · rw [decide_eq_false h]
    cases hb : eqW S T with
    | false => rfl
    | true =>
      refine absurd (set_ext hS hT fun i hi => ?_) h
      unfold eqW at hb
      rw [List.all_eq_true] at hb
      have := hb i (by simp [List.mem_range'_1]; omega)
      simp only [beq_iff_eq] at this
      omega
end Go.Pal
namespace Go.Pal
open Go

/-- The elements in increasing order. -/
def elems (S : Nat) : List Nat := (List.range 1024).filter fun n => S.testBit n

theorem mem_elems {S n : Nat} (hS : IsSet S) : n ∈ elems S ↔ S.testBit n = true := by
  unfold elems
  rw [List.mem_filter, List.mem_range]
  exact ⟨fun h => h.2, fun h => ⟨hS.bit h, h⟩⟩
theorem elems_lt {S n : Nat} (h : n ∈ elems S) : n < 1024 := by
  unfold elems at h
  rw [List.mem_filter, List.mem_range] at h
  exact h.1
theorem elems_bit {S n : Nat} (h : n ∈ elems S) : S.testBit n = true := by
  unfold elems at h
  rw [List.mem_filter] at h
  exact h.2
theorem elems_sorted (S : Nat) : (elems S).Pairwise (· < ·) := List.Pairwise.filter _ List.pairwise_lt_range
theorem elems_nodup (S : Nat) : (elems S).Nodup := (elems_sorted S).imp fun h => Nat.ne_of_lt h

theorem set_ext_bits {S T : Nat} (hS : IsSet S) (hT : IsSet T) (h : ∀ n, n < 1024 → S.testBit n = T.testBit n) : S = T := by
  apply Nat.eq_of_testBit_eq
  intro m
  by_cases hm : m < 1024
  · exact h m hm
  · cases h1 : S.testBit m with
    | true => exact absurd (hS.bit h1) hm
    | false => cases h2 : T.testBit m with
      | true => exact absurd (hT.bit h2) hm
      | false => rfl

theorem elems_zero : elems 0 = [] := by
  unfold elems
  rw [List.filter_eq_nil_iff]
  simp
theorem elems_eq_nil {S : Nat} (hS : IsSet S) (h : elems S = []) : S = 0 := set_ext_bits hS isSet_zero fun n _ => by
  cases hb : S.testBit n with
  | true => have := (mem_elems hS).2 hb; rw [h] at this; cases this
  | false => simp

/-- The least element heads the list; taken out, the rest is left. -/
theorem elems_cons {S n : Nat} (hS : IsSet S) (hn : S.testBit n = true) (hl : ∀ m, m < n → S.testBit m = false) : elems S = n :: elems (sDel S n) := by
  have hd : elems (sDel S n) = (elems S).filter fun m => !decide (n = m) := by
    unfold elems
    rw [List.filter_filter]
    apply List.filter_congr
    intro m _
    rw [sDel_testBit]
    cases S.testBit m <;> cases decide (n = m) <;> rfl
  have hm := (mem_elems hS).2 hn
  cases he : elems S with
  | nil => rw [he] at hm; cases hm
  | cons a r =>
    have hs := elems_sorted S
    rw [he, List.pairwise_cons] at hs
    have ha : S.testBit a = true := elems_bit (by rw [he]; simp)
    have han : a = n := by
      rw [he] at hm
      rcases List.mem_cons.1 hm with h | h
      · exact h.symm
      · have h1 := hs.1 n h
        rw [hl a h1] at ha
        cases ha
    subst han
    rw [hd, he]
    simp only [List.filter_cons, decide_true, Bool.not_true, Bool.false_eq_true, if_false, List.cons.injEq, true_and]
    rw [List.filter_eq_self.2]
    intro m hmr
    have := hs.1 m hmr
    simp
    omega

/-- The least element by the first word that is not 0. -/
theorem least_of_word {S i : Nat} (h0 : ∀ j, j < i → wd S j = 0) (hi : wd S i ≠ 0) : S.testBit (64 * i + Lib.ctz 64 (wd S i)) = true ∧ (∀ m, m < 64 * i + Lib.ctz 64 (wd S i) → S.testBit m = false) ∧ Lib.ctz 64 (wd S i) < 64 := by
  have hlt := wd_lt S i
  have hpos : 0 < wd S i := Nat.pos_of_ne_zero hi
  have hc : Lib.ctz 64 (wd S i) = Lib.ctzFrom 64 (wd S i) := by simp [Lib.ctz, hi]
  obtain ⟨m, hm, hk⟩ := Lib.ctzFrom_spec 64 (wd S i) hpos (by rw [show (2 : Nat) ^ 64 = 18446744073709551616 from rfl]; exact hlt)
  rw [hc]
  generalize Lib.ctzFrom 64 (wd S i) = k at *
  have low : ∀ j, j < 64 → (wd S i).testBit j = (decide (k ≤ j) && (2 * m + 1).testBit (j - k)) := fun j _ => by
    rw [hm, Nat.mul_comm, Nat.testBit_mul_two_pow]
  refine ⟨?_, fun q hq => ?_, hk⟩
  · have := low k hk
    rw [wd_testBit] at this
    simpa [hk] using this
  · by_cases hqi : q < 64 * i
    · have h1 := wd_testBit S (q / 64) (q % 64)
      rw [h0 (q / 64) (by omega)] at h1
      have : q % 64 < 64 := Nat.mod_lt _ (by decide)
      simp only [Nat.zero_testBit, this, decide_true, Bool.true_and] at h1
      rw [show 64 * (q / 64) + q % 64 = q by omega] at h1
      exact h1.symm
    · have hj : q - 64 * i < 64 := by omega
      have h2 := low (q - 64 * i) hj
      rw [wd_testBit] at h2
      have h3 : ¬ k ≤ q - 64 * i := by omega
      simp only [hj, decide_true, Bool.true_and, h3, decide_false, Bool.false_and] at h2
      rw [show 64 * i + (q - 64 * i) = q by omega] at h2
      exact h2

theorem zero_of_words {S : Nat} (hS : IsSet S) (h : ∀ j, j < 16 → wd S j = 0) : S = 0 :=
  set_ext hS isSet_zero fun i hi => by rw [h i hi]; simp [wd]

/-- What Min answers. -/
def sMin (S : Nat) : Option Nat := (elems S).head?
theorem sMin_some {S n : Nat} (hS : IsSet S) (hn : S.testBit n = true) (hl : ∀ m, m < n → S.testBit m = false) : sMin S = some n := by rw [sMin, elems_cons hS hn hl]; rfl
theorem sMin_zero : sMin 0 = none := by rw [sMin, elems_zero]; rfl
attribute [irreducible] elems sMin
def minN (S : Nat) : Int := ((sMin S).getD 0 : Nat)
def minB (S : Nat) : Bool := (sMin S).isSome
abbrev minV (S : Nat) : Value := .tuple #[.int .i64 (minN S), .bool (minB S)]
theorem minV_some {S n : Nat} (h : sMin S = some n) : minV S = .tuple #[.int .i64 (n : Int), .bool true] := by simp only [minV, minN, minB, h]; rfl
theorem minV_zero : minV 0 = .tuple #[.int .i64 0, .bool false] := by simp only [minV, minN, minB, sMin_zero]; rfl
theorem minN_cons {S n : Nat} {r : List Nat} (h : elems S = n :: r) : minN S = n ∧ minB S = true := by
  have : sMin S = some n := by unfold sMin; rw [h]; rfl
  simp [minN, minB, this]
theorem minB_nil {S : Nat} (h : elems S = []) : minB S = false := by
  have : sMin S = none := by unfold sMin; rw [h]; rfl
  simp [minB, this]
theorem elems_tail {S n : Nat} {r : List Nat} (hS : IsSet S) (h : elems S = n :: r) : elems (sDel S n) = r := by
  have hs := elems_sorted S
  rw [h, List.pairwise_cons] at hs
  have h1 := elems_cons (n := n) hS (elems_bit (by rw [h]; simp)) fun m hm => by
    cases hb : S.testBit m with
    | false => rfl
    | true =>
      have hmem := (mem_elems hS).2 hb
      rw [h] at hmem
      rcases List.mem_cons.1 hmem with e | e
      · omega
      · have := hs.1 m e
        omega
  rw [h] at h1
  exact (List.cons.inj h1).2.symm

/-- How many elements: what Len answers. -/
def popW : Nat → Nat → Nat
  | 0, _ => 0
  | f + 1, x => x % 2 + popW f (x / 2)
end Go.Pal
namespace Go.Pal
open Go

def oc1 (x : Nat) : Nat := (x / 2 &&& 6148914691236517205) + (x &&& 6148914691236517205)
def oc2 (x : Nat) : Nat := (x / 4 &&& 3689348814741910323) + (x &&& 3689348814741910323)
def oc3 (x : Nat) : Nat := ((x / 16 + x) % 18446744073709551616) &&& 1085102592571150095
def oc4 (x : Nat) : Nat := (x + x / 256) % 18446744073709551616
def oc5 (x : Nat) : Nat := (x + x / 65536) % 18446744073709551616
def oc6 (x : Nat) : Nat := (x + x / 4294967296) % 18446744073709551616
def oc (x : Nat) : Nat := oc6 (oc5 (oc4 (oc3 (oc2 (oc1 x))))) % 128

theorem oc1_lt (x : Nat) : oc1 x < 18446744073709551616 := by
  have h1 : x / 2 &&& 6148914691236517205 ≤ 6148914691236517205 := Nat.and_le_right
  have h2 : x &&& 6148914691236517205 ≤ 6148914691236517205 := Nat.and_le_right
  unfold oc1; omega
theorem oc2_lt (x : Nat) : oc2 x < 18446744073709551616 := by
  have h1 : x / 4 &&& 3689348814741910323 ≤ 3689348814741910323 := Nat.and_le_right
  have h2 : x &&& 3689348814741910323 ≤ 3689348814741910323 := Nat.and_le_right
  unfold oc2; omega
theorem oc3_lt (x : Nat) : oc3 x < 18446744073709551616 := Nat.lt_of_le_of_lt Nat.and_le_right (by decide)
theorem oc4_lt (x : Nat) : oc4 x < 18446744073709551616 := Nat.mod_lt _ (by decide)
theorem oc5_lt (x : Nat) : oc5 x < 18446744073709551616 := Nat.mod_lt _ (by decide)
theorem oc6_lt (x : Nat) : oc6 x < 18446744073709551616 := Nat.mod_lt _ (by decide)

theorem nat_div_cast (x k : Nat) : (x : Int) / (k : Int) = ((x / k : Nat) : Int) := by simp
theorem e1_step (x : Nat) (hx : x < 18446744073709551616) : IntKind.u64.wrap (bits BinOp.and IntKind.u64 ((x : Int) / 2) 6148914691236517205 + bits BinOp.and IntKind.u64 (x : Int) 6148914691236517205) = ((oc1 x : Nat) : Int) := by
  have h := oc1_lt x
  rw [show (x : Int) / 2 = ((x / 2 : Nat) : Int) from rfl, show (6148914691236517205 : Int) = ((6148914691236517205 : Nat) : Int) from rfl, u64_and_nat _ _ (by omega) (by decide), u64_and_nat _ _ hx (by decide), IntKind.wrap_u64]
  unfold oc1 at *
  omega
theorem e2_step (x : Nat) (hx : x < 18446744073709551616) : IntKind.u64.wrap (bits BinOp.and IntKind.u64 ((x : Int) / 4) 3689348814741910323 + bits BinOp.and IntKind.u64 (x : Int) 3689348814741910323) = ((oc2 x : Nat) : Int) := by
  have h := oc2_lt x
  rw [show (x : Int) / 4 = ((x / 4 : Nat) : Int) from rfl, show (3689348814741910323 : Int) = ((3689348814741910323 : Nat) : Int) from rfl, u64_and_nat _ _ (by omega) (by decide), u64_and_nat _ _ hx (by decide), IntKind.wrap_u64]
  unfold oc2 at *
  omega
theorem e3_step (x : Nat) : bits BinOp.and IntKind.u64 (IntKind.u64.wrap ((x : Int) / 16 + (x : Int))) 1085102592571150095 = ((oc3 x : Nat) : Int) := by
  rw [IntKind.wrap_u64, show ((x : Int) / 16 + (x : Int)) % 18446744073709551616 = (((x / 16 + x) % 18446744073709551616 : Nat) : Int) by omega, show (1085102592571150095 : Int) = ((1085102592571150095 : Nat) : Int) from rfl, u64_and_nat _ _ (Nat.mod_lt _ (by decide)) (by decide)]
  rfl
theorem e4_step (x : Nat) : IntKind.u64.wrap ((x : Int) + (x : Int) / 256) = ((oc4 x : Nat) : Int) := by
  rw [IntKind.wrap_u64]; unfold oc4; omega
theorem e5_step (x : Nat) : IntKind.u64.wrap ((x : Int) + (x : Int) / 65536) = ((oc5 x : Nat) : Int) := by
  rw [IntKind.wrap_u64]; unfold oc5; omega
theorem e6_step (x : Nat) : IntKind.u64.wrap ((x : Int) + (x : Int) / 4294967296) = ((oc6 x : Nat) : Int) := by
  rw [IntKind.wrap_u64]; unfold oc6; omega

theorem e7_step (x : Nat) (hx : x < 18446744073709551616) : bits BinOp.and IntKind.i64 (RowKit.wrap64 (x : Int)) 127 = ((x % 128 : Nat) : Int) := by
  rw [← IntWalk.i64_left]
  show IntKind.i64.wrap ((BitVec.ofInt 64 (IntKind.i64.wrap (x : Int)) &&& BitVec.ofInt 64 ((127 : Nat) : Int)).toNat : Int) = _
  have h1 : (BitVec.ofInt 64 (IntKind.i64.wrap (x : Int))).toNat = x := by
    rw [BitVec.toNat_ofInt, IntKind.wrap_i64]
    omega
  rw [BitVec.toNat_and, h1, ofInt_u64 127 (by decide), show (127 : Nat) = 2 ^ 7 - 1 from rfl, Nat.and_two_pow_sub_one_eq_mod, IntKind.wrap_i64]
  omega

/-- How many elements a set has: what Len sums up. -/
def lenS (S : Nat) : Nat := ((List.range 16).map fun i => oc (wd S i)).sum
def lenTo (S k : Nat) : Nat := ((List.range k).map fun i => oc (wd S i)).sum
theorem lenTo_succ (S k : Nat) : lenTo S (k + 1) = lenTo S k + oc (wd S k) := by
  unfold lenTo
  rw [List.range_succ, List.map_append, List.sum_append]
  simp
theorem oc_lt (x : Nat) : oc x < 128 := Nat.mod_lt _ (by decide)
theorem lenTo_le (S k : Nat) : lenTo S k ≤ 127 * k := by
  induction k with
  | zero => simp [lenTo]
  | succ k ih => rw [lenTo_succ]; have := oc_lt (wd S k); omega
end Go.Pal
namespace Go.Pal
open Go

abbrev Bg := Int × Nat
/-- The cells of a bag. -/
def bagA (b : Bg) : Array Value := #[.int .i64 b.1] ++ words b.2
theorem bagA_size (b : Bg) : (bagA b).size = 17 := by simp [bagA, words_size]
theorem bagA_zero (b : Bg) : (bagA b)[0]? = some (.int .i64 b.1) := by
  unfold bagA
  rw [Array.getElem?_append_left (by simp)]
  rfl
theorem bagA_get0 (b : Bg) (h : 0 < (bagA b).size) : (bagA b)[0] = .int .i64 b.1 := by
  have := bagA_zero b
  rw [Array.getElem?_eq_getElem h] at this
  exact Option.some.inj this
theorem bagA_succ (b : Bg) (j : Nat) : (bagA b)[j + 1]? = (words b.2)[j]? := by
  unfold bagA
  rw [Array.getElem?_append_right (by simp)]
  simp
theorem bagA_extract (b : Bg) : (bagA b).extract 1 17 = words b.2 := by
  apply Array.ext_getElem?
  intro j
  by_cases hj : j < 16
  · rw [← bagA_succ, Array.getElem?_extract, bagA_size]
    simp only [Nat.min_self]
    rw [if_pos (by omega), Nat.add_comm]
  · rw [Array.getElem?_eq_none (by simp [bagA_size]; omega), Array.getElem?_eq_none (by rw [words_size]; omega)]
theorem words_one {S : Nat} {v : Value} (h : v ∈ words S) : v.oneCell' = true := by
  obtain ⟨i, rfl⟩ := Array.mem_ofFn.1 h
  rfl
theorem bagA_one (b : Bg) : ∀ v ∈ (bagA b).toList, v.oneCell' = true := by
  intro v hv
  unfold bagA at hv
  rw [Array.toList_append, List.mem_append] at hv
  rcases hv with h | h
  · simp at h; subst h; rfl
  · exact words_one (by simpa using h)

/-- The first place at which p holds, or -1. -/
def idx {α : Type} (p : α → Bool) (l : List α) : Int := match l.findIdx? p with
  | some i => i
  | none => -1
theorem idx_none {α : Type} {p : α → Bool} {l : List α} (h : ∀ (i : Nat) x, l[i]? = some x → p x = false) : idx p l = -1 := by
  unfold idx
  have : l.findIdx? p = none := by
    rw [List.findIdx?_eq_none_iff]
    intro x hx
    obtain ⟨i, hi⟩ := List.getElem?_of_mem hx
    exact h i x hi
  rw [this]
theorem idx_some {α : Type} {p : α → Bool} {l : List α} {k : Nat} {x : α} (hx : l[k]? = some x) (hp : p x = true) (h : ∀ (i : Nat) y, i < k → l[i]? = some y → p y = false) : idx p l = k := by
  unfold idx
  have : l.findIdx? p = some k := by
    rw [List.findIdx?_eq_some_iff_getElem]
    obtain ⟨hk, rfl⟩ := List.getElem?_eq_some_iff.1 hx
    refine ⟨hk, hp, fun j hj => ?_⟩
    have := h j _ hj (List.getElem?_eq_getElem (by omega))
    simpa using this
  rw [this]
theorem idx_nonneg {α : Type} (p : α → Bool) (l : List α) : decide (0 ≤ idx p l) = l.any p := by
  unfold idx
  cases h : l.findIdx? p with
  | none =>
    rw [List.findIdx?_eq_none_iff] at h
    have : l.any p = false := by rw [List.any_eq_false]; intro x hx; simp [h x hx]
    rw [this]; rfl
  | some k =>
    rw [List.findIdx?_eq_some_iff_getElem] at h
    obtain ⟨hk, hp, _⟩ := h
    have : l.any p = true := List.any_eq_true.2 ⟨_, List.getElem_mem hk, hp⟩
    rw [this]; simp

/-- The bags without a parent among the first k. -/
def rootsTo (T : List Bg) : Nat → List Int
  | 0 => []
  | k + 1 => rootsTo T k ++ if (T[k]?).map Prod.fst = some (-1) then [(k : Int)] else []
theorem rootsTo_succ {T : List Bg} {k : Nat} {x : Bg} (h : T[k]? = some x) : rootsTo T (k + 1) = rootsTo T k ++ if x.1 = -1 then [(k : Int)] else [] := by
  simp [rootsTo, h]
theorem rootsTo_le (T : List Bg) (k : Nat) : (rootsTo T k).length ≤ k := by
  induction k with
  | zero => simp [rootsTo]
  | succ k ih => simp only [rootsTo, List.length_append]; split <;> simp <;> omega

/-- The children of bag b among the first k. -/
def kidsTo (T : List Bg) : Nat → Nat → List Int
  | 0, _ => []
  | k + 1, b => kidsTo T k b ++ if (T[k]?).map Prod.fst = some (b : Int) then [(k : Int)] else []
theorem kidsTo_succ {T : List Bg} {k : Nat} {x : Bg} (h : T[k]? = some x) (b : Nat) : kidsTo T (k + 1) b = kidsTo T k b ++ if x.1 = (b : Int) then [(k : Int)] else [] := by
  simp [kidsTo, h]
theorem kidsTo_le (T : List Bg) (k b : Nat) : (kidsTo T k b).length ≤ k := by
  induction k with
  | zero => simp [kidsTo]
  | succ k ih => simp only [kidsTo, List.length_append]; split <;> simp <;> omega
theorem kidsTo_mem {T : List Bg} {k b : Nat} {z : Int} (h : z ∈ kidsTo T k b) : ∃ c : Nat, z = c ∧ c < k ∧ ∃ x, T[c]? = some x ∧ x.1 = (b : Int) := by
  induction k with
  | zero => simp [kidsTo] at h
  | succ k ih =>
    simp only [kidsTo, List.mem_append] at h
    rcases h with h | h
    · obtain ⟨c, h1, h2, h3⟩ := ih h
      exact ⟨c, h1, by omega, h3⟩
    · split at h
      · rename_i hx
        simp only [List.mem_singleton] at h
        cases hT : T[k]? with
        | none => rw [hT] at hx; cases hx
        | some x => rw [hT] at hx; exact ⟨k, h, by omega, x, hT, Option.some.inj hx⟩
      · cases h
theorem rootsTo_mem {T : List Bg} {k : Nat} {z : Int} (h : z ∈ rootsTo T k) : ∃ c : Nat, z = c ∧ ∃ x, T[c]? = some x ∧ x.1 = -1 := by
  induction k with
  | zero => simp [rootsTo] at h
  | succ k ih =>
    simp only [rootsTo, List.mem_append] at h
    rcases h with h | h
    · exact ih h
    · split at h
      · rename_i hx
        simp only [List.mem_singleton] at h
        cases hT : T[k]? with
        | none => rw [hT] at hx; cases hx
        | some x => rw [hT] at hx; exact ⟨k, h, x, hT, Option.some.inj hx⟩
      · cases h
theorem mem_rootsTo {T : List Bg} {k c : Nat} {x : Bg} (hc : c < k) (h : T[c]? = some x) (hp : x.1 = -1) : (c : Int) ∈ rootsTo T k := by
  induction k with
  | zero => omega
  | succ k ih =>
    simp only [rootsTo, List.mem_append]
    by_cases hck : c = k
    · subst hck
      right
      simp [h, hp]
    · exact .inl (ih (by omega))
end Go.Pal
namespace Go.Pal
open Go

inductive Tr | node (b : Nat) (ks : List Tr)
def Tr.lab : Tr → Nat | .node b _ => b
def Tr.ks : Tr → List Tr | .node _ ks => ks
mutual
def Tr.sz : Tr → Nat | .node _ ks => 1 + Tr.szs ks
def Tr.szs : List Tr → Nat
  | [] => 0
  | t :: ts => t.sz + Tr.szs ts
end
mutual
def Tr.labs : Tr → List Nat | .node b ks => b :: Tr.labss ks
def Tr.labss : List Tr → List Nat
  | [] => []
  | t :: ts => t.labs ++ Tr.labss ts
end
mutual
/-- The depths written by a walk down. -/
def Tr.ds : Tr → Int → List Int → List Int | .node b ks, d, l => Tr.dss ks (d + 1) (l.set b d)
def Tr.dss : List Tr → Int → List Int → List Int
  | [], _, l => l
  | t :: ts, d, l => Tr.dss ts d (t.ds d l)
end
theorem Tr.sz_pos (t : Tr) : 0 < t.sz := by cases t; simp [Tr.sz]; omega
theorem Tr.szs_append (a c : List Tr) : Tr.szs (a ++ c) = Tr.szs a + Tr.szs c := by
  induction a with
  | nil => simp [Tr.szs]
  | cons t ts ih => simp [Tr.szs, ih]; omega
theorem Tr.labss_append (a c : List Tr) : Tr.labss (a ++ c) = Tr.labss a ++ Tr.labss c := by
  induction a with
  | nil => simp [Tr.labss]
  | cons t ts ih => simp [Tr.labss, ih]
theorem Tr.dss_append (a c : List Tr) (d : Int) (l : List Int) : Tr.dss (a ++ c) d l = Tr.dss c d (Tr.dss a d l) := by
  induction a generalizing l with
  | nil => simp [Tr.dss]
  | cons t ts ih => simp [Tr.dss, ih]
theorem Tr.szs_le {t : Tr} {ts : List Tr} (h : t ∈ ts) : t.sz ≤ Tr.szs ts := by
  induction ts with
  | nil => cases h
  | cons u us ih =>
    simp only [Tr.szs]
    rcases List.mem_cons.1 h with rfl | h
    · omega
    · have := ih h; omega
theorem Tr.length_le_szs (ts : List Tr) : ts.length ≤ Tr.szs ts := by
  induction ts with
  | nil => simp
  | cons t ts ih => have := t.sz_pos; simp [Tr.szs]; omega
/-- One rule for all trees: a law that follows from its kids holds. -/
theorem Tr.induct {p : Tr → Prop} (h : ∀ b ks, (∀ t ∈ ks, p t) → p (.node b ks)) (t : Tr) : p t := by
  generalize hn : t.sz = n
  induction n using Nat.strongRecOn generalizing t with
  | _ n ih =>
    cases t with
    | node b ks =>
      exact h b ks fun u hu => ih u.sz (by have := Tr.szs_le hu; simp [Tr.sz] at hn; omega) u rfl
mutual
theorem Tr.length_labs : (t : Tr) → t.labs.length = t.sz
  | .node b ks => by simp [Tr.labs, Tr.sz, Tr.length_labss ks]; omega
theorem Tr.length_labss : (ts : List Tr) → (Tr.labss ts).length = Tr.szs ts
  | [] => rfl
  | t :: ts => by simp [Tr.labss, Tr.szs, Tr.length_labs t, Tr.length_labss ts]
end
mutual
theorem Tr.length_ds : (t : Tr) → (d : Int) → (l : List Int) → (t.ds d l).length = l.length
  | .node b ks, d, l => by simp [Tr.ds, Tr.length_dss ks]
theorem Tr.length_dss : (ts : List Tr) → (d : Int) → (l : List Int) → (Tr.dss ts d l).length = l.length
  | [], _, _ => rfl
  | t :: ts, d, l => by simp [Tr.dss, Tr.length_dss ts, Tr.length_ds t]
end
/-- The tree is the one that the rows of children draw, within n bags. -/
inductive Fits (n : Nat) (kids : Nat → List Int) : Tr → Prop
  | mk (b : Nat) (ks : List Tr) (hb : b < n) (hk : kids b = ks.map fun t => (t.lab : Int)) (h : ∀ t ∈ ks, Fits n kids t) : Fits n kids (.node b ks)
theorem Fits.lab {n : Nat} {kids : Nat → List Int} {t : Tr} (h : Fits n kids t) : t.lab < n := by cases h; assumption
theorem Tr.mem_labss {ts : List Tr} {t : Tr} {c : Nat} (ht : t ∈ ts) (hc : c ∈ t.labs) : c ∈ Tr.labss ts := by
  induction ts with
  | nil => cases ht
  | cons u us ih =>
    simp only [Tr.labss, List.mem_append]
    rcases List.mem_cons.1 ht with rfl | h
    · exact .inl hc
    · exact .inr (ih h)
theorem Tr.labss_mem {ts : List Tr} {c : Nat} (hc : c ∈ Tr.labss ts) : ∃ t ∈ ts, c ∈ t.labs := by
  induction ts with
  | nil => simp [Tr.labss] at hc
  | cons u us ih =>
    simp only [Tr.labss, List.mem_append] at hc
    rcases hc with h | h
    · exact ⟨u, by simp, h⟩
    · obtain ⟨t, ht, h'⟩ := ih h
      exact ⟨t, List.mem_cons_of_mem _ ht, h'⟩
theorem Fits.labs_lt {n : Nat} {kids : Nat → List Int} {t : Tr} (h : Fits n kids t) : ∀ c ∈ t.labs, c < n := by
  induction h with
  | mk b ks hb hk h ih =>
    intro c hc
    simp only [Tr.labs, List.mem_cons] at hc
    rcases hc with rfl | hc
    · exact hb
    · obtain ⟨t, ht, h'⟩ := Tr.labss_mem hc
      exact ih t ht c h'
theorem Tr.lab_mem (t : Tr) : t.lab ∈ t.labs := by cases t; simp [Tr.labs, Tr.lab]
/-- The largest kid so far; of two alike the first. -/
def Tr.hS (acc : Option Tr) (k : Tr) : Option Tr :=
  match acc with
  | none => some k
  | some h => if h.sz < k.sz then some k else some h
def Tr.hvL (ks : List Tr) : Option Tr := ks.foldl Tr.hS none
def Tr.hLab : Option Tr → Int
  | none => -1
  | some h => h.lab
theorem Tr.hvL_snoc (ks : List Tr) (k : Tr) : Tr.hvL (ks ++ [k]) = Tr.hS (Tr.hvL ks) k := by simp [Tr.hvL]
theorem Tr.hvL_from {ks : List Tr} : ∀ {acc : Option Tr} {h : Tr}, ks.foldl Tr.hS acc = some h → h ∈ ks ∨ acc = some h := by
  induction ks with
  | nil => exact fun h => .inr h
  | cons k ks ih =>
    intro acc h hh
    rcases ih hh with h1 | h1
    · exact .inl (List.mem_cons_of_mem _ h1)
    · unfold Tr.hS at h1
      split at h1
      · cases h1; exact .inl (by simp)
      · split at h1
        · cases h1; exact .inl (by simp)
        · exact .inr h1
theorem Tr.hvL_mem {ks : List Tr} {h : Tr} (hh : Tr.hvL ks = some h) : h ∈ ks := by
  rcases Tr.hvL_from hh with h1 | h1
  · exact h1
  · cases h1
/-- A subtree. -/
inductive Sub (t : Tr) : Tr → Prop
  | self : Sub t t
  | kid {u k : Tr} : Sub t u → k ∈ u.ks → Sub t k
theorem Fits.sub {n : Nat} {kids : Nat → List Int} {t u : Tr} (h : Fits n kids t) (hs : Sub t u) : Fits n kids u := by
  induction hs with
  | self => exact h
  | @kid u k _ hk ih =>
    cases ih with
    | mk b ks _ _ hks => exact hks k hk
/-- The path down along heavy kids. -/
inductive HPath : Tr → List Tr → Prop
  | last {u : Tr} : Tr.hvL u.ks = none → HPath u [u]
  | cons {u h : Tr} {l : List Tr} : Tr.hvL u.ks = some h → HPath h l → HPath u (u :: l)
theorem HPath.ex (u : Tr) : ∃ l, HPath u l := by
  induction u using Tr.induct with
  | h b ks ih =>
    cases hh : Tr.hvL ks with
    | none => exact ⟨_, .last (u := .node b ks) hh⟩
    | some h =>
      obtain ⟨l, hl⟩ := ih h (Tr.hvL_mem hh)
      exact ⟨_, .cons (u := .node b ks) hh hl⟩
theorem HPath.length_le {u : Tr} {l : List Tr} (h : HPath u l) : l.length ≤ u.sz := by
  induction h with
  | @last u _ => exact u.sz_pos
  | @cons u h l hh _ ih =>
    have h1 := Tr.szs_le (Tr.hvL_mem hh)
    have h2 : u.sz = 1 + Tr.szs u.ks := by cases u; rfl
    simp
    omega
end Go.Pal
namespace Go.Pal
open Go

/-- The vertices whose topmost bag is bag i. -/
def topS (T : List Bg) (i : Nat) : Nat :=
  match T[i]? with
  | none => 0
  | some x => if x.1 = -1 then x.2 else match T[x.1.toNat]? with
    | none => 0
    | some y => sDiff x.2 y.2
def seenTo (T : List Bg) : Nat → Nat
  | 0 => 0
  | k + 1 => seenTo T k ||| topS T k
/-- A tree of bags that Check and the frame's New take, with its rose tree. -/
structure Valid (T : List Bg) (t : Tr) : Prop where
  pos : 0 < T.length
  le : T.length ≤ 1024
  sets : ∀ x ∈ T, IsSet x.2
  small : ∀ x ∈ T, lenS x.2 ≤ 4
  par : ∀ (i : Nat) x, T[i]? = some x → x.1 = -1 ∨ ∃ p : Nat, x.1 = p ∧ p < T.length
  root : rootsTo T T.length = [(t.lab : Int)]
  fits : Fits T.length (kidsTo T T.length) t
  all : t.sz = T.length
  disj : ∀ i, i < T.length → topS T i &&& seenTo T i = 0
theorem topS_root {T : List Bg} {i : Nat} {x : Bg} (h : T[i]? = some x) (hp : x.1 = -1) : topS T i = x.2 := by simp [topS, h, hp]
theorem topS_other {T : List Bg} {i p : Nat} {x y : Bg} (h : T[i]? = some x) (hp : x.1 = (p : Int)) (hy : T[p]? = some y) : topS T i = sDiff x.2 y.2 := by
  have : ¬ x.1 = -1 := by omega
  simp [topS, h, hp, hy]
theorem Valid.isSet_top {T : List Bg} {t : Tr} (h : Valid T t) (i : Nat) : IsSet (topS T i) := by
  unfold topS
  split
  · exact isSet_zero
  · rename_i x hx
    have h1 := h.sets x (List.mem_of_getElem? hx)
    split
    · exact h1
    · split
      · exact isSet_zero
      · exact isSet_diff h1
theorem Valid.isSet_seen {T : List Bg} {t : Tr} (h : Valid T t) (k : Nat) : IsSet (seenTo T k) := by
  induction k with
  | zero => exact isSet_zero
  | succ k ih => exact isSet_or ih (h.isSet_top k)
/-- What a bag shares with its parent. -/
def adhS (T : List Bg) (b : Nat) : Nat :=
  match T[b]? with
  | none => 0
  | some x => if x.1 = -1 then 0 else match T[x.1.toNat]? with
    | none => 0
    | some y => x.2 &&& y.2
theorem adhS_root {T : List Bg} {i : Nat} {x : Bg} (h : T[i]? = some x) (hp : x.1 = -1) : adhS T i = 0 := by simp [adhS, h, hp]
theorem adhS_other {T : List Bg} {i p : Nat} {x y : Bg} (h : T[i]? = some x) (hp : x.1 = (p : Int)) (hy : T[p]? = some y) : adhS T i = x.2 &&& y.2 := by
  have : ¬ x.1 = -1 := by omega
  simp [adhS, h, hp, hy]
end Go.Pal
namespace Go.Pal
open Go

theorem elems_length (S : Nat) : (elems S).length ≤ 1024 := by
  unfold elems
  exact Nat.le_trans (List.length_filter_le _ _) (by rw [List.length_range]; exact Nat.le_refl _)
structure Nd where
  kids : Value
  light : Value
  size : Int
  heavy : Int
  deep : Int
def Nd.cells (x : Nd) : Array Value := #[x.kids, x.light, .int .i64 x.size, .int .i64 x.heavy, .int .i64 x.deep]
theorem Nd.cells_size (x : Nd) : x.cells.size = 5 := rfl
def nodeC (N : Nat → Nd) (n : Nat) : Array Value := Array.ofFn (n := n * 5) fun i => (N (i.val / 5)).cells.getD (i.val % 5) (.bool false)
theorem nodeC_size (N : Nat → Nd) (n : Nat) : (nodeC N n).size = n * 5 := by simp [nodeC]
theorem nodeC_get (N : Nat → Nd) {n b : Nat} (hb : b < n) {j : Nat} (hj : j < 5) : (nodeC N n)[b * 5 + j]? = some ((N b).cells.getD j (.bool false)) := by
  have h : b * 5 + j < n * 5 := by omega
  rw [nodeC, Array.getElem?_ofFn, dif_pos h, show (b * 5 + j) / 5 = b by omega, show (b * 5 + j) % 5 = j by omega]
def upd (N : Nat → Nd) (b : Nat) (x : Nd) : Nat → Nd := fun c => if c = b then x else N c
theorem upd_same (N : Nat → Nd) (b : Nat) (x : Nd) : upd N b x b = x := by simp [upd]
theorem upd_other (N : Nat → Nd) {b c : Nat} (x : Nd) (h : c ≠ b) : upd N b x c = N c := by simp [upd, h]
theorem upd_upd (N : Nat → Nd) (b : Nat) (x y : Nd) : upd (upd N b x) b y = upd N b y := by
  funext c
  by_cases h : c = b <;> simp [upd, h]
theorem nodeC_set (N : Nat → Nd) {n b j : Nat} (hb : b < n) (hj : j < 5) {v : Value} {x : Nd} (hx : (N b).cells.setIfInBounds j v = x.cells) :
    (nodeC N n).setIfInBounds (b * 5 + j) v = nodeC (upd N b x) n := by
  apply Array.ext_getElem?
  intro i
  by_cases hi : i < n * 5
  · have h1 : i = (i / 5) * 5 + i % 5 := by omega
    have h2 : i / 5 < n := by omega
    have h3 : i % 5 < 5 := by omega
    rw [Array.getElem?_setIfInBounds]
    generalize hc : i / 5 = c at *
    generalize hk : i % 5 = k at *
    subst h1
    rw [nodeC_get _ h2 h3, nodeC_get _ h2 h3]
    by_cases hcb : c = b
    · subst hcb
      rw [upd_same, ← hx]
      by_cases hkj : j = k
      · subst hkj
        rw [if_pos rfl, if_pos (by rw [nodeC_size]; omega)]
        rw [Array.getD_eq_getD_getElem?, Array.getElem?_setIfInBounds, if_pos rfl, if_pos (by rw [Nd.cells_size]; omega)]
        rfl
      · rw [if_neg (by omega)]
        rw [Array.getD_eq_getD_getElem?, Array.getD_eq_getD_getElem?, Array.getElem?_setIfInBounds, if_neg hkj]
    · rw [if_neg (by omega), upd_other _ _ hcb]
  · rw [Array.getElem?_eq_none (by rw [Array.size_setIfInBounds, nodeC_size]; omega), Array.getElem?_eq_none (by rw [nodeC_size]; omega)]
end Go.Pal
namespace Go.Pal
open Go

/-- Where a list of weights is split. -/
def splitFrom (total : Nat) : Nat → List Nat → Nat
  | _, [] => 0
  | sum, x :: xs => if total ≤ 2 * (sum + x) then 0 else splitFrom total (sum + x) xs + 1
def splitAtW (ws : List Nat) : Nat := min (splitFrom ws.sum 0 ws + 1) (ws.length - 1)
/-- The weight of a bag on a heavy path: the bag and its light subtrees. -/
def Tr.wt (t : Tr) : Nat := t.sz - match Tr.hvL t.ks with | none => 0 | some h => h.sz
/-- The light kids. -/
def Tr.lights (t : Tr) : List Tr := t.ks.filter fun k => !((k.lab : Int) == Tr.hLab (Tr.hvL t.ks))
/-- The vertices of a bag; the vertices that a bag shares with its heavy child; with each of some parents. -/
def bagS (T : List Bg) (b : Nat) : Nat := match T[b]? with | none => 0 | some x => x.2
def belS (T : List Bg) (t : Tr) : Nat := match Tr.hvL t.ks with | none => 0 | some h => adhS T h.lab
def hasS (T : List Bg) (l : List Tr) : Nat := l.foldl (fun s t => s ||| adhS T t.lab) 0

/-- A cluster: its kind, its bag, its boundary, its parts. -/
inductive Ct | node (kind bag bnd : Nat) (parts : List Ct)
inductive Md | chain | group (bag : Nat)
/-- What chain and group build of a list of subtrees. -/
inductive Cl (T : List Bg) : Md → List Tr → Ct → Prop
  | item0 {t : Tr} : t.lights = [] → Cl T .chain [t] (.node 2 t.lab (adhS T t.lab ||| belS T t) [.node 0 t.lab (bagS T t.lab) []])
  | item1 {t : Tr} {c : Ct} : t.lights ≠ [] → Cl T (.group t.lab) t.lights c → Cl T .chain [t] (.node 2 t.lab (adhS T t.lab ||| belS T t) [.node 0 t.lab (bagS T t.lab) [], c])
  | path {t u x : Tr} {l : List Tr} {c d : Ct} : Cl T .chain ((t :: u :: l).take (splitAtW ((t :: u :: l).map Tr.wt))) c → Cl T .chain ((t :: u :: l).drop (splitAtW ((t :: u :: l).map Tr.wt))) d → (u :: l).getLast? = some x → Cl T .chain (t :: u :: l) (.node 3 t.lab (adhS T t.lab ||| belS T x) [c, d])
  | single {b : Nat} {t : Tr} {l : List Tr} {c : Ct} : HPath t l → Cl T .chain l c → Cl T (.group b) [t] c
  | rake {b : Nat} {t u : Tr} {l : List Tr} {c d : Ct} : Cl T (.group b) ((t :: u :: l).take (splitAtW ((t :: u :: l).map Tr.sz))) c → Cl T (.group b) ((t :: u :: l).drop (splitAtW ((t :: u :: l).map Tr.sz))) d → Cl T (.group b) (t :: u :: l) (.node 1 b (hasS T (t :: u :: l)) [c, d])
mutual
def Ct.sz : Ct → Nat | .node _ _ _ ps => Ct.szs ps + 1
def Ct.szs : List Ct → Nat
  | [] => 0
  | c :: cs => c.sz + Ct.szs cs
end
mutual
def Ct.deep : Ct → Nat | .node _ _ _ ps => Ct.deeps ps + 1
def Ct.deeps : List Ct → Nat
  | [] => 0
  | c :: cs => max c.deep (Ct.deeps cs)
end
/-- A cluster's entry in the list of all clusters. -/
structure TNd where
  kind : Nat
  bag : Nat
  kids : List Nat
  bnd : Nat
mutual
/-- The clusters in post-order, the first of them at index b. -/
def Ct.flat (b : Nat) : Ct → List TNd | .node k g s ps => Ct.flats b ps ++ [⟨k, g, Ct.tops b ps, s⟩]
def Ct.flats (b : Nat) : List Ct → List TNd
  | [] => []
  | c :: cs => c.flat b ++ Ct.flats (b + c.sz) cs
def Ct.tops (b : Nat) : List Ct → List Nat
  | [] => []
  | c :: cs => (b + c.sz - 1) :: Ct.tops (b + c.sz) cs
end
mutual
theorem Ct.flat_length (b : Nat) : ∀ c : Ct, (c.flat b).length = c.sz
  | .node k g s ps => by simp [Ct.flat, Ct.sz, Ct.flats_length b ps]
theorem Ct.flats_length (b : Nat) : ∀ cs : List Ct, (Ct.flats b cs).length = Ct.szs cs
  | [] => rfl
  | c :: cs => by simp [Ct.flats, Ct.szs, Ct.flat_length b c, Ct.flats_length (b + c.sz) cs]
end
theorem Ct.sz_pos (c : Ct) : 0 < c.sz := by cases c; simp [Ct.sz]
end Go.Pal
namespace Go.Pal
open Go

def rowI (U : Nat → Int) (n : Nat) : Array Value := Array.ofFn (n := n) fun i => .int .i64 (U i.val)
theorem rowI_size (U : Nat → Int) (n : Nat) : (rowI U n).size = n := by simp [rowI]
theorem rowI_get (U : Nat → Int) {n i : Nat} (h : i < n) : (rowI U n)[i]? = some (.int .i64 (U i)) := by rw [rowI, Array.getElem?_ofFn, dif_pos h]
def updI (U : Nat → Int) (p : Nat) (v : Int) : Nat → Int := fun q => if q = p then v else U q
theorem rowI_set (U : Nat → Int) (n p : Nat) (v : Int) : (rowI U n).setIfInBounds p (.int .i64 v) = rowI (updI U p v) n := by
  apply Array.ext_getElem?
  intro i
  by_cases hi : i < n
  · rw [Array.getElem?_setIfInBounds, rowI_get _ hi, rowI_get _ hi]
    by_cases hp : p = i
    · subst hp
      rw [if_pos rfl, if_pos (by rw [rowI_size]; exact hi)]
      simp [updI]
    · rw [if_neg hp]
      simp [updI, Ne.symm hp]
  · rw [Array.getElem?_eq_none (by rw [Array.size_setIfInBounds, rowI_size]; omega), Array.getElem?_eq_none (by rw [rowI_size]; omega)]
theorem rowI_const (v : Int) (n : Nat) : rowI (fun _ => v) n = Array.replicate n (.int .i64 v) := by
  apply Array.ext_getElem?
  intro i
  by_cases hi : i < n
  · rw [rowI_get _ hi]; simp [hi]
  · rw [Array.getElem?_eq_none (by rw [rowI_size]; omega), Array.getElem?_eq_none (by rw [Array.size_replicate]; omega)]

/-- The kids of cluster i are entered. -/
def setKids (U : Nat → Int) (i : Nat) (kids : List Nat) : Nat → Int := kids.foldl (fun U p => updI U p (i : Int)) U
theorem setKids_snoc (U : Nat → Int) (i : Nat) (ks : List Nat) (p : Nat) : setKids U i (ks ++ [p]) = updI (setKids U i ks) p i := by simp [setKids]
def upsTo (fl : List TNd) : Nat → (Nat → Int)
  | 0 => fun _ => -1
  | k + 1 => match fl[k]? with
    | none => upsTo fl k
    | some x => setKids (upsTo fl k) k x.kids
def leafsTo (fl : List TNd) : Nat → (Nat → Int)
  | 0 => fun _ => 0
  | k + 1 => match fl[k]? with
    | none => leafsTo fl k
    | some x => if x.kind = 0 then updI (leafsTo fl k) x.bag k else leafsTo fl k

mutual
/-- In the clusters in post-order each kid comes before its parent. -/
theorem Ct.flat_kids (b : Nat) : ∀ (c : Ct) (i : Nat) (x : TNd), (c.flat b)[i]? = some x → ∀ p ∈ x.kids, b ≤ p ∧ p < b + i
  | .node k g s ps, i, x, hi, p, hp => by
    rw [Ct.flat] at hi
    by_cases h : i < (Ct.flats b ps).length
    · rw [List.getElem?_append_left h] at hi
      exact Ct.flats_kids b ps i x hi p hp
    · rw [List.getElem?_append_right (by omega)] at hi
      rw [Ct.flats_length] at hi h
      have hi0 : i - Ct.szs ps = 0 := by
        rcases Nat.eq_zero_or_pos (i - Ct.szs ps) with h0 | h0
        · exact h0
        · rw [List.getElem?_eq_none (by simp; omega)] at hi; cases hi
      rw [hi0] at hi
      simp only [List.getElem?_cons_zero, Option.some.injEq] at hi
      subst hi
      have := Ct.tops_lt b ps p hp
      omega
theorem Ct.flats_kids (b : Nat) : ∀ (cs : List Ct) (i : Nat) (x : TNd), (Ct.flats b cs)[i]? = some x → ∀ p ∈ x.kids, b ≤ p ∧ p < b + i
  | [], i, x, hi, p, hp => by simp [Ct.flats] at hi
  | c :: cs, i, x, hi, p, hp => by
    rw [Ct.flats] at hi
    by_cases h : i < (c.flat b).length
    · rw [List.getElem?_append_left h] at hi
      exact Ct.flat_kids b c i x hi p hp
    · rw [List.getElem?_append_right (by omega)] at hi
      have := Ct.flats_kids (b + c.sz) cs _ x hi p hp
      rw [Ct.flat_length] at this h
      omega
theorem Ct.tops_lt (b : Nat) : ∀ (cs : List Ct) (p : Nat), p ∈ Ct.tops b cs → b ≤ p ∧ p < b + Ct.szs cs
  | [], p, hp => by simp [Ct.tops] at hp
  | c :: cs, p, hp => by
    rw [Ct.tops, List.mem_cons] at hp
    have := c.sz_pos
    rcases hp with rfl | hp
    · simp only [Ct.szs]; omega
    · have := Ct.tops_lt (b + c.sz) cs p hp
      simp only [Ct.szs]; omega
end
theorem Ct.tops_length (b : Nat) : ∀ cs : List Ct, (Ct.tops b cs).length ≤ Ct.szs cs
  | [] => Nat.le_refl _
  | c :: cs => by
    have h1 := Ct.tops_length (b + c.sz) cs
    have h2 := c.sz_pos
    simp only [Ct.tops, List.length_cons, Ct.szs]
    omega
mutual
theorem Ct.flat_kidn (b : Nat) : ∀ (c : Ct), ∀ x ∈ c.flat b, x.kids.length ≤ c.sz
  | .node k g s ps, x, hx => by
    rw [Ct.flat, List.mem_append] at hx
    rw [Ct.sz]
    rcases hx with hx | hx
    · have := Ct.flats_kidn b ps x hx; omega
    · simp at hx
      subst hx
      have := Ct.tops_length b ps
      show (Ct.tops b ps).length ≤ _
      omega
theorem Ct.flats_kidn (b : Nat) : ∀ (cs : List Ct), ∀ x ∈ Ct.flats b cs, x.kids.length ≤ Ct.szs cs
  | [], x, hx => by simp [Ct.flats] at hx
  | c :: cs, x, hx => by
    rw [Ct.flats, List.mem_append] at hx
    rw [Ct.szs]
    rcases hx with hx | hx
    · have := Ct.flat_kidn b c x hx; omega
    · have := Ct.flats_kidn (b + c.sz) cs x hx; omega
end
/-- All bags of a cluster. -/
inductive Ct.BagsLt (n : Nat) : Ct → Prop
  | mk {k g s : Nat} {ps : List Ct} : g < n → (∀ c ∈ ps, Ct.BagsLt n c) → Ct.BagsLt n (.node k g s ps)
mutual
theorem Ct.flat_bags (n b : Nat) : ∀ (c : Ct), Ct.BagsLt n c → ∀ x ∈ c.flat b, x.bag < n
  | .node k g s ps, h, x, hx => by
    cases h with
    | mk h1 h2 =>
      rw [Ct.flat, List.mem_append] at hx
      rcases hx with hx | hx
      · exact Ct.flats_bags n b ps h2 x hx
      · simp at hx; subst hx; exact h1
theorem Ct.flats_bags (n b : Nat) : ∀ (cs : List Ct), (∀ c ∈ cs, Ct.BagsLt n c) → ∀ x ∈ Ct.flats b cs, x.bag < n
  | [], _, x, hx => by simp [Ct.flats] at hx
  | c :: cs, h, x, hx => by
    rw [Ct.flats, List.mem_append] at hx
    rcases hx with hx | hx
    · exact Ct.flat_bags n b c (h c (by simp)) x hx
    · exact Ct.flats_bags n (b + c.sz) cs (fun d hd => h d (by simp [hd])) x hx
end
theorem Sub.trans {a b c : Tr} (h : Sub a b) (k : Sub b c) : Sub a c := by
  induction k with
  | self => exact h
  | kid _ hk ih => exact ih.kid hk
theorem Cl.bagsLt {T : List Bg} {n : Nat} {md : Md} {l : List Tr} {c : Ct} (h : Cl T md l c) (hn : ∀ (u : Tr), (∃ r ∈ l, Sub r u) → u.lab < n) (hb : ∀ b, md = .group b → b < n) : Ct.BagsLt n c := by
  induction h with
  | @item0 u hl =>
    have := hn u ⟨u, by simp, .self⟩
    exact .mk this fun c hc => by simp at hc; subst hc; exact .mk this fun d hd => by cases hd
  | @item1 u c1 hl _ ih =>
    have hu := hn u ⟨u, by simp, .self⟩
    refine .mk hu fun c hc => ?_
    simp at hc
    rcases hc with rfl | rfl
    · exact .mk hu fun d hd => by cases hd
    · refine ih (fun v ⟨r, hr, hs⟩ => hn v ⟨u, by simp, ?_⟩) (fun b hb => by cases hb; exact hu)
      have h1 : Sub u r := Sub.self.kid (List.mem_filter.1 hr).1
      exact h1.trans hs
  | @path u _ _ _ _ _ _ _ _ ih1 ih2 =>
    refine .mk (hn u ⟨u, by simp, .self⟩) fun c hc => ?_
    simp at hc
    rcases hc with rfl | rfl
    · exact ih1 (fun v ⟨r, hr, hs⟩ => hn v ⟨r, List.mem_of_mem_take hr, hs⟩) (fun b hb => by cases hb)
    · exact ih2 (fun v ⟨r, hr, hs⟩ => hn v ⟨r, List.mem_of_mem_drop hr, hs⟩) (fun b hb => by cases hb)
  | @single b u l c hp _ ih =>
    refine ih (fun v ⟨r, hr, hs⟩ => hn v ⟨u, by simp, ?_⟩) (fun b hb => by cases hb)
    have h1 : Sub u r := by
      clear hs ih
      have key : ∀ {x : Tr} {l : List Tr}, HPath x l → Sub u x → ∀ r ∈ l, Sub u r := fun h => by
        induction h with
        | last => intro hx r hr; simp at hr; subst hr; exact hx
        | cons hh _ ih => intro hx r hr; rcases List.mem_cons.1 hr with rfl | hr; exact hx; exact ih (hx.kid (Tr.hvL_mem hh)) r hr
      exact key hp .self r hr
    exact h1.trans hs
  | @rake b _ _ _ _ _ _ _ ih1 ih2 =>
    have hbn := hb b rfl
    refine .mk hbn fun c hc => ?_
    simp at hc
    rcases hc with rfl | rfl
    · exact ih1 (fun v ⟨r, hr, hs⟩ => hn v ⟨r, List.mem_of_mem_take hr, hs⟩) (fun b hb => by cases hb; exact hbn)
    · exact ih2 (fun v ⟨r, hr, hs⟩ => hn v ⟨r, List.mem_of_mem_drop hr, hs⟩) (fun b hb => by cases hb; exact hbn)
end Go.Pal
namespace Go.Pal
open Go

/-- m steps from i along U come to r. -/
inductive Steps (U : Nat → Int) : Nat → Nat → Nat → Prop
  | zero {i : Nat} : Steps U 0 i i
  | succ {m i p r : Nat} : U i = (p : Nat) → Steps U m p r → Steps U (m + 1) i r
theorem Steps.snoc {U : Nat → Int} {m i p r : Nat} (h : Steps U m i p) (hr : U p = (r : Nat)) : Steps U (m + 1) i r := by
  induction h with
  | zero => exact .succ hr .zero
  | succ h1 _ ih => exact .succ h1 (ih hr)

theorem setKids_not (U : Nat → Int) (i p : Nat) (ks : List Nat) (h : p ∉ ks) : setKids U i ks p = U p := by
  induction ks generalizing U with
  | nil => rfl
  | cons k ks ih =>
    simp only [List.mem_cons, not_or] at h
    rw [setKids, List.foldl_cons]
    exact (ih (updI U k i) h.2).trans (by simp [updI, h.1])
theorem setKids_mem (U : Nat → Int) (i p : Nat) (ks : List Nat) (h : p ∈ ks) : setKids U i ks p = (i : Int) := by
  induction ks generalizing U with
  | nil => cases h
  | cons k ks ih =>
    rw [setKids, List.foldl_cons]
    by_cases hp : p ∈ ks
    · exact ih (updI U k i) hp
    · have hk : p = k := by
        rcases List.mem_cons.1 h with h | h
        · exact h
        · exact absurd h hp
      exact (setKids_not _ _ _ _ hp).trans (by simp [updI, hk])
theorem upsTo_none {fl : List TNd} {p : Nat} : ∀ (k : Nat), (∀ i x, i < k → fl[i]? = some x → p ∉ x.kids) → upsTo fl k p = -1
  | 0, _ => rfl
  | k + 1, h => by
    rw [upsTo]
    have ih := upsTo_none k fun i x hi => h i x (by omega)
    cases hx : fl[k]? with
    | none => exact ih
    | some x => exact (setKids_not _ _ _ _ (h k x (by omega) hx)).trans ih
theorem upsTo_some {fl : List TNd} {p j : Nat} {y : TNd} (hy : fl[j]? = some y) (hp : p ∈ y.kids) : ∀ (k : Nat), j < k → (∀ i x, i < k → fl[i]? = some x → p ∈ x.kids → i = j) → upsTo fl k p = (j : Int)
  | 0, h, _ => absurd h (by omega)
  | k + 1, hj, h => by
    rw [upsTo]
    by_cases hk : k = j
    · subst hk
      rw [hy]
      exact setKids_mem _ _ _ _ hp
    · have ih := upsTo_some hy hp k (by omega) fun i x hi => h i x (by omega)
      cases hx : fl[k]? with
      | none => exact ih
      | some x => exact (setKids_not _ _ _ _ fun hm => hk (h k x (by omega) hx hm)).trans ih

/-- Each number of a range but the last is the kid of just one cluster; none is the last's. -/
theorem Ct.tops_nodup (b : Nat) : ∀ (cs : List Ct), (Ct.tops b cs).Nodup ∧ ∀ p ∈ Ct.tops b cs, b ≤ p ∧ p < b + Ct.szs cs := fun cs => by
  refine ⟨?_, Ct.tops_lt b cs⟩
  induction cs generalizing b with
  | nil => exact List.nodup_nil
  | cons c cs ih =>
    rw [Ct.tops, List.nodup_cons]
    refine ⟨fun h => ?_, ih _⟩
    have := Ct.tops_lt _ _ _ h
    have := c.sz_pos
    omega
mutual
theorem Ct.flat_uniq (b : Nat) : ∀ (c : Ct) (p : Nat) (i j : Nat) (x y : TNd), (c.flat b)[i]? = some x → (c.flat b)[j]? = some y → p ∈ x.kids → p ∈ y.kids → i = j ∧ p < b + c.sz - 1
  | .node k g s ps, p, i, j, x, y, hi, hj, hpx, hpy => by
    rw [Ct.flat] at hi hj
    simp only [Ct.sz]
    have hlast : ∀ (i : Nat) (x : TNd), ¬ i < (Ct.flats b ps).length → (Ct.flats b ps ++ [⟨k, g, Ct.tops b ps, s⟩])[i]? = some x → i = Ct.szs ps ∧ x.kids = Ct.tops b ps := fun i x h hi => by
      rw [List.getElem?_append_right (by omega)] at hi
      rw [Ct.flats_length] at hi h
      have hi0 : i - Ct.szs ps = 0 := by
        rcases Nat.eq_zero_or_pos (i - Ct.szs ps) with h0 | h0
        · exact h0
        · rw [List.getElem?_eq_none (by simp; omega)] at hi; cases hi
      rw [hi0] at hi
      simp only [List.getElem?_cons_zero, Option.some.injEq] at hi
      subst hi
      exact ⟨by omega, rfl⟩
    have hcross : ∀ (i : Nat) (x : TNd), (Ct.flats b ps)[i]? = some x → p ∈ x.kids → p ∈ Ct.tops b ps → False := fun i x hi hp ht => Ct.flats_tops b ps p i x hi hp ht
    by_cases h1 : i < (Ct.flats b ps).length
    · rw [List.getElem?_append_left h1] at hi
      by_cases h2 : j < (Ct.flats b ps).length
      · rw [List.getElem?_append_left h2] at hj
        have := Ct.flats_uniq b ps p i j x y hi hj hpx hpy
        exact ⟨this.1, by omega⟩
      · obtain ⟨-, h3⟩ := hlast j y h2 hj
        rw [h3] at hpy
        exact (hcross i x hi hpx hpy).elim
    · obtain ⟨h3, h4⟩ := hlast i x h1 hi
      rw [h4] at hpx
      by_cases h2 : j < (Ct.flats b ps).length
      · rw [List.getElem?_append_left h2] at hj
        exact (hcross j y hj hpy hpx).elim
      · obtain ⟨h5, -⟩ := hlast j y h2 hj
        have := Ct.tops_lt b ps p hpx
        exact ⟨by omega, by omega⟩
theorem Ct.flats_uniq (b : Nat) : ∀ (cs : List Ct) (p : Nat) (i j : Nat) (x y : TNd), (Ct.flats b cs)[i]? = some x → (Ct.flats b cs)[j]? = some y → p ∈ x.kids → p ∈ y.kids → i = j ∧ p < b + Ct.szs cs
  | [], p, i, j, x, y, hi, hj, hpx, hpy => by simp [Ct.flats] at hi
  | c :: cs, p, i, j, x, y, hi, hj, hpx, hpy => by
    rw [Ct.flats] at hi hj
    have hc := c.sz_pos
    rw [Ct.szs]
    by_cases h1 : i < (c.flat b).length
    · rw [List.getElem?_append_left h1] at hi
      by_cases h2 : j < (c.flat b).length
      · rw [List.getElem?_append_left h2] at hj
        have := Ct.flat_uniq b c p i j x y hi hj hpx hpy
        exact ⟨this.1, by omega⟩
      · rw [List.getElem?_append_right (by omega)] at hj
        have h3 := Ct.flats_kids (b + c.sz) cs _ y hj p hpy
        have h4 := Ct.flat_kids b c i x hi p hpx
        rw [Ct.flat_length] at h1
        omega
    · rw [List.getElem?_append_right (by omega)] at hi
      by_cases h2 : j < (c.flat b).length
      · rw [List.getElem?_append_left h2] at hj
        have h3 := Ct.flats_kids (b + c.sz) cs _ x hi p hpx
        have h4 := Ct.flat_kids b c j y hj p hpy
        rw [Ct.flat_length] at h2
        omega
      · rw [List.getElem?_append_right (by omega)] at hj
        have := Ct.flats_uniq (b + c.sz) cs p _ _ x y hi hj hpx hpy
        exact ⟨by omega, by omega⟩
theorem Ct.flats_tops (b : Nat) : ∀ (cs : List Ct) (p i : Nat) (x : TNd), (Ct.flats b cs)[i]? = some x → p ∈ x.kids → p ∈ Ct.tops b cs → False
  | [], p, i, x, hi, hp, ht => by simp [Ct.flats] at hi
  | c :: cs, p, i, x, hi, hp, ht => by
    rw [Ct.flats] at hi
    rw [Ct.tops, List.mem_cons] at ht
    by_cases h1 : i < (c.flat b).length
    · rw [List.getElem?_append_left h1] at hi
      have h2 := (Ct.flat_uniq b c p i i x x hi hi hp hp).2
      rcases ht with rfl | ht
      · omega
      · have := Ct.tops_lt (b + c.sz) cs p ht
        omega
    · rw [List.getElem?_append_right (by omega)] at hi
      have h2 := Ct.flats_kids (b + c.sz) cs _ x hi p hp
      have hc := c.sz_pos
      rcases ht with rfl | ht
      · omega
      · exact Ct.flats_tops (b + c.sz) cs p _ x hi hp ht
end
mutual
/-- Each cluster reaches the top of its tree. -/
theorem Ct.flat_steps (U : Nat → Int) (b : Nat) : ∀ (c : Ct), (∀ i x, (c.flat b)[i]? = some x → ∀ p ∈ x.kids, U p = ((b + i : Nat) : Int)) → ∀ j, b ≤ j → j < b + c.sz → ∃ m, Steps U m j (b + c.sz - 1) ∧ m + 1 ≤ c.deep
  | .node k g s ps, hU, j, hj, hlt => by
    simp only [Ct.sz] at hlt ⊢
    simp only [Ct.deep]
    rw [show b + (Ct.szs ps + 1) - 1 = b + Ct.szs ps by omega]
    by_cases hjl : j < b + Ct.szs ps
    · obtain ⟨m, q, hs, hm, hq⟩ := Ct.flats_steps U b ps (fun i x hi => hU i x (by
        rw [Ct.flat, List.getElem?_append_left (List.getElem?_eq_some_iff.1 hi).1]; exact hi)) j hj hjl
      refine ⟨m + 1, hs.snoc ?_, by omega⟩
      have := hU (Ct.szs ps) ⟨k, g, Ct.tops b ps, s⟩ (by rw [Ct.flat, List.getElem?_append_right (by rw [Ct.flats_length]; exact Nat.le_refl _), Ct.flats_length, Nat.sub_self]; rfl) q hq
      exact this
    · have : j = b + Ct.szs ps := by omega
      subst this
      exact ⟨0, .zero, by omega⟩
theorem Ct.flats_steps (U : Nat → Int) (b : Nat) : ∀ (cs : List Ct), (∀ i x, (Ct.flats b cs)[i]? = some x → ∀ p ∈ x.kids, U p = ((b + i : Nat) : Int)) → ∀ j, b ≤ j → j < b + Ct.szs cs → ∃ m q, Steps U m j q ∧ m + 1 ≤ Ct.deeps cs ∧ q ∈ Ct.tops b cs
  | [], _, j, hj, hlt => by simp [Ct.szs] at hlt; omega
  | c :: cs, hU, j, hj, hlt => by
    rw [Ct.szs] at hlt
    rw [Ct.deeps, Ct.tops]
    by_cases h1 : j < b + c.sz
    · obtain ⟨m, hs, hm⟩ := Ct.flat_steps U b c (fun i x hi => hU i x (by rw [Ct.flats, List.getElem?_append_left (List.getElem?_eq_some_iff.1 hi).1]; exact hi)) j hj h1
      exact ⟨m, _, hs, by omega, by simp⟩
    · obtain ⟨m, q, hs, hm, hq⟩ := Ct.flats_steps U (b + c.sz) cs (fun i x hi p hp => by
        have := hU (c.sz + i) x (by rw [Ct.flats, List.getElem?_append_right (by rw [Ct.flat_length]; omega), Ct.flat_length, Nat.add_sub_cancel_left]; exact hi) p hp
        rw [this, Nat.add_assoc]) j (by omega) (by omega)
      exact ⟨m, q, hs, by omega, by simp [hq]⟩
end
/-- What Depth and PathToRoot rest on. -/
structure UpTree (U : Nat → Int) (n d : Nat) : Prop where
  pos : 0 < n
  root : U (n - 1) = -1
  up : ∀ i, i < n → i ≠ n - 1 → ∃ p : Nat, U i = (p : Int) ∧ i < p ∧ p < n
  steps : ∀ i, i < n → ∃ m, Steps U m i (n - 1) ∧ m + 1 ≤ d
theorem Ct.upTree (c : Ct) : UpTree (upsTo (c.flat 0) (c.flat 0).length) (c.flat 0).length c.deep := by
  have hl := Ct.flat_length 0 c
  have hp := c.sz_pos
  have hU : ∀ i x, (c.flat 0)[i]? = some x → ∀ p ∈ x.kids, upsTo (c.flat 0) (c.flat 0).length p = ((0 + i : Nat) : Int) := fun i x hi p hp => by
    rw [Nat.zero_add]
    exact upsTo_some hi hp _ (List.getElem?_eq_some_iff.1 hi).1 fun j y _ hj hpy => (Ct.flat_uniq 0 c p j i y x hj hi hpy hp).1
  have hst := Ct.flat_steps _ 0 c hU
  refine ⟨by omega, ?_, fun i hi hne => ?_, fun i hi => ?_⟩
  · refine upsTo_none _ fun i x _ hi hm => ?_
    have := (Ct.flat_uniq 0 c _ i i x x hi hi hm hm).2
    omega
  · obtain ⟨m, hs, -⟩ := hst i (by omega) (by omega)
    cases hs with
    | zero => omega
    | @succ m i p r h1 h2 =>
      refine ⟨p, h1, ?_, ?_⟩
      · have h3 : ∃ (j : Nat) (x : TNd), (c.flat 0)[j]? = some x ∧ i ∈ x.kids := by
          refine Classical.byContradiction fun hn => ?_
          have := upsTo_none (fl := c.flat 0) (p := i) (c.flat 0).length fun j x _ hx hm => hn ⟨j, x, hx, hm⟩
          rw [this] at h1
          omega
        obtain ⟨j, x, hx, hm⟩ := h3
        have := hU j x hx i hm
        rw [h1] at this
        have hk := Ct.flat_kids 0 c j x hx i hm
        omega
      · have h3 : ∃ (j : Nat) (x : TNd), (c.flat 0)[j]? = some x ∧ i ∈ x.kids := by
          refine Classical.byContradiction fun hn => ?_
          have := upsTo_none (fl := c.flat 0) (p := i) (c.flat 0).length fun j x _ hx hm => hn ⟨j, x, hx, hm⟩
          rw [this] at h1
          omega
        obtain ⟨j, x, hx, hm⟩ := h3
        have := hU j x hx i hm
        rw [h1] at this
        have := (List.getElem?_eq_some_iff.1 hx).1
        omega
  · obtain ⟨m, hs, hm⟩ := hst i (by omega) (by omega)
    refine ⟨m, ?_, hm⟩
    have e : 0 + c.sz - 1 = (c.flat 0).length - 1 := by omega
    rwa [e] at hs

/-- The number of clusters on the way to the root; the way. -/
def dptF (U : Nat → Int) : Nat → Nat → Nat
  | 0, _ => 0
  | f + 1, i => if U i = -1 then 1 else 1 + dptF U f (U i).toNat
theorem Steps.dptF {U : Nat → Int} {m i r : Nat} (h : Steps U m i r) (hr : U r = -1) : ∀ f, m < f → Go.Pal.dptF U f i = m + 1 := by
  induction h with
  | zero =>
    intro f hf
    cases f with
    | zero => omega
    | succ f => simp [Go.Pal.dptF, hr]
  | succ h1 _ ih =>
    intro f hf
    cases f with
    | zero => omega
    | succ f =>
      have := ih hr f (by omega)
      rw [Go.Pal.dptF, if_neg (by rw [h1]; omega), h1, Int.toNat_natCast, this]
      omega
theorem UpTree.steps_lt {U : Nat → Int} {n d : Nat} (h : UpTree U n d) {m i r : Nat} (hs : Steps U m i r) (hr : r = n - 1) : i < n → m < n - i := by
  induction hs with
  | zero => intro hi; have := h.pos; omega
  | @succ m i p r h1 _ ih =>
    intro hi
    have hne : i ≠ n - 1 := fun e => by rw [e, h.root] at h1; omega
    obtain ⟨q, h2, h3, h4⟩ := h.up i hi hne
    rw [h1] at h2
    have : p = q := by omega
    subst this
    have := ih hr h4
    omega
/-- The depth of cluster i. -/
def dpt (U : Nat → Int) (n i : Nat) : Nat := dptF U n i
theorem UpTree.dpt_root {U : Nat → Int} {n d : Nat} (h : UpTree U n d) : dpt U n (n - 1) = 1 := by
  have := h.pos
  exact (Steps.zero (U := U) (i := n - 1)).dptF h.root n (by omega)
theorem UpTree.dpt_up {U : Nat → Int} {n d : Nat} (h : UpTree U n d) {i p : Nat} (hi : i < n) (hp : U i = (p : Nat)) (hpn : p < n) : dpt U n i = dpt U n p + 1 := by
  obtain ⟨m, hs, -⟩ := h.steps p hpn
  have hs' : Steps U (m + 1) i (n - 1) := .succ hp hs
  have h1 := h.steps_lt hs' rfl hi
  have h2 := h.steps_lt hs rfl hpn
  rw [dpt, dpt, hs'.dptF h.root n (by omega), hs.dptF h.root n (by omega)]
theorem UpTree.dpt_le {U : Nat → Int} {n d : Nat} (h : UpTree U n d) {i : Nat} (hi : i < n) : 1 ≤ dpt U n i ∧ dpt U n i ≤ d ∧ dpt U n i ≤ n - i := by
  obtain ⟨m, hs, hm⟩ := h.steps i hi
  have h1 := h.steps_lt hs rfl hi
  rw [dpt, hs.dptF h.root n (by omega)]
  omega
/-- The greatest of the last k depths. -/
def mxF (U : Nat → Int) (n : Nat) : Nat → Nat
  | 0 => 0
  | k + 1 => max (mxF U n k) (dpt U n (n - 1 - k))
theorem mxF_ge {U : Nat → Int} {n i : Nat} : ∀ {k : Nat}, n - k ≤ i → i < n → dpt U n i ≤ mxF U n k
  | 0, h, hi => by omega
  | k + 1, h, hi => by
    rw [mxF]
    by_cases hk : n - k ≤ i
    · have := mxF_ge (U := U) hk hi; omega
    · have : i = n - 1 - k := by omega
      subst this
      omega
theorem UpTree.mxF_le {U : Nat → Int} {n d : Nat} (h : UpTree U n d) : ∀ (k : Nat), mxF U n k ≤ d
  | 0 => Nat.zero_le _
  | k + 1 => by
    have h0 := h.pos
    have h1 := UpTree.mxF_le h k
    have h2 := (h.dpt_le (i := n - 1 - k) (by omega)).2.1
    rw [mxF]
    omega
/-- The clusters from i up to the root. -/
def pathF (U : Nat → Int) : Nat → Nat → List Nat
  | 0, _ => []
  | f + 1, i => i :: (if U i = -1 then [] else pathF U f (U i).toNat)
theorem Steps.pathF {U : Nat → Int} {m i r : Nat} (h : Steps U m i r) (hr : U r = -1) : ∀ f, m < f → (Go.Pal.pathF U f i).length = m + 1 ∧ (Go.Pal.pathF U f i).getLast? = some r := by
  induction h with
  | zero =>
    intro f hf
    cases f with
    | zero => omega
    | succ f => simp [Go.Pal.pathF, hr]
  | succ h1 _ ih =>
    intro f hf
    cases f with
    | zero => omega
    | succ f =>
      obtain ⟨h2, h3⟩ := ih hr f (by omega)
      rw [Go.Pal.pathF, if_neg (by rw [h1]; omega), h1, Int.toNat_natCast]
      refine ⟨by rw [List.length_cons, h2], ?_⟩
      rw [List.getLast?_cons, h3]
      rfl
/-- The way from i along U to its end. -/
inductive UPath (U : Nat → Int) (n : Nat) : Nat → List Nat → Prop
  | last {i : Nat} : i < n → U i = -1 → UPath U n i [i]
  | cons {i p : Nat} {l : List Nat} : i < n → U i = (p : Nat) → UPath U n p l → UPath U n i (i :: l)
theorem UpTree.upath {U : Nat → Int} {n d : Nat} (h : UpTree U n d) {m i r : Nat} (hs : Steps U m i r) (hr : r = n - 1) : i < n → ∃ l, UPath U n i l ∧ l.length = m + 1 ∧ l.getLast? = some (n - 1) := by
  induction hs with
  | zero => intro hi; subst hr; exact ⟨_, .last hi h.root, rfl, rfl⟩
  | @succ m i p r h1 _ ih =>
    intro hi
    have hne : i ≠ n - 1 := fun e => by rw [e, h.root] at h1; omega
    obtain ⟨q, h2, h3, h4⟩ := h.up i hi hne
    rw [h1] at h2
    have : p = q := by omega
    subst this
    obtain ⟨l, h5, h6, h7⟩ := ih hr h4
    exact ⟨_, .cons hi h1 h5, by rw [List.length_cons, h6], by rw [List.getLast?_cons, h7]; rfl⟩
theorem UpTree.path_ex {U : Nat → Int} {n d : Nat} (h : UpTree U n d) {i : Nat} (hi : i < n) : ∃ l, UPath U n i l ∧ l.length = dpt U n i ∧ l.getLast? = some (n - 1) := by
  obtain ⟨m, hs, -⟩ := h.steps i hi
  obtain ⟨l, h1, h2, h3⟩ := h.upath hs rfl hi
  refine ⟨l, h1, ?_, h3⟩
  rw [h2, dpt, hs.dptF h.root n (by have := h.steps_lt hs rfl hi; omega)]
end Go.Pal
namespace Go.Pal
open Go

/-- The number of binary digits. -/
def dg (n : Nat) : Nat := if h : n = 0 then 0 else dg (n / 2) + 1
decreasing_by omega
theorem dg_zero : dg 0 = 0 := by rw [dg]; simp
theorem dg_pos {n : Nat} (h : 0 < n) : dg n = dg (n / 2) + 1 := by rw [dg, dif_neg (by omega)]
theorem dg_mono {a b : Nat} (h : a ≤ b) : dg a ≤ dg b := by
  induction b using Nat.strongRecOn generalizing a with
  | ind b ih =>
    by_cases ha : a = 0
    · subst ha; rw [dg_zero]; exact Nat.zero_le _
    · rw [dg_pos (n := a) (by omega), dg_pos (n := b) (by omega)]
      have := ih (b / 2) (by omega) (a := a / 2) (by omega)
      omega
theorem dg_half {a b : Nat} (h : 2 * a ≤ b) (hb : 0 < b) : dg a + 1 ≤ dg b := by
  rw [dg_pos hb]
  have := dg_mono (a := a) (b := b / 2) (by omega)
  omega
theorem dg_one {n : Nat} (h : 0 < n) : 1 ≤ dg n := by rw [dg_pos h]; omega

theorem splitFrom_before (total : Nat) : ∀ (ws : List Nat) (sum : Nat), splitFrom total sum ws < ws.length → 0 < splitFrom total sum ws → 2 * (sum + (ws.take (splitFrom total sum ws)).sum) < total
  | [], sum, h, _ => by simp at h
  | x :: xs, sum, h, h0 => by
    unfold splitFrom at h h0 ⊢
    split at h
    · rename_i hc; rw [if_pos hc] at h0; omega
    · rename_i hc
      rw [if_neg hc]
      rw [List.take_succ_cons, List.sum_cons]
      by_cases hz : splitFrom total (sum + x) xs = 0
      · rw [hz]; simp; omega
      · have := splitFrom_before total xs (sum + x) (by simp at h; omega) (by omega)
        omega
theorem splitFrom_at (total : Nat) : ∀ (ws : List Nat) (sum : Nat), splitFrom total sum ws < ws.length → total ≤ 2 * (sum + (ws.take (splitFrom total sum ws + 1)).sum)
  | [], sum, h => by simp at h
  | x :: xs, sum, h => by
    unfold splitFrom at h ⊢
    split at h
    · rename_i hc; rw [if_pos hc]; simp; omega
    · rename_i hc
      rw [if_neg hc, List.take_succ_cons, List.sum_cons]
      have := splitFrom_at total xs (sum + x) (by simp at h; omega)
      omega
theorem splitFrom_lt' (total : Nat) : ∀ (ws : List Nat) (sum : Nat), ws ≠ [] → total ≤ 2 * (sum + ws.sum) → splitFrom total sum ws < ws.length
  | [], _, h, _ => absurd rfl h
  | x :: xs, sum, _, h => by
    unfold splitFrom
    split
    · simp
    · rename_i hn
      cases xs with
      | nil => simp at h; omega
      | cons y ys =>
        have := splitFrom_lt' total (y :: ys) (sum + x) (by simp) (by simp at h ⊢; omega)
        simp at this ⊢
        omega
theorem take_sum_le (ws : List Nat) (k : Nat) : (ws.take k).sum ≤ ws.sum := by
  have := List.take_append_drop k ws
  have h : (ws.take k).sum + (ws.drop k).sum = ws.sum := by rw [← List.sum_append, this]
  omega
theorem take_sum_mono (ws : List Nat) {j k : Nat} (h : j ≤ k) : (ws.take j).sum ≤ (ws.take k).sum := by
  have : ws.take j = (ws.take k).take j := by rw [List.take_take, Nat.min_eq_left h]
  rw [this]
  exact take_sum_le _ _
theorem take_drop_sum (ws : List Nat) (k : Nat) : (ws.take k).sum + (ws.drop k).sum = ws.sum := by rw [← List.sum_append, List.take_append_drop]
/-- What a split brings. -/
theorem splitAtW_spec {ws : List Nat} (h : 2 ≤ ws.length) : 1 ≤ splitAtW ws ∧ splitAtW ws < ws.length ∧ 2 * (ws.take (splitAtW ws - 1)).sum ≤ ws.sum ∧ (splitAtW ws + 1 = ws.length ∨ 2 * (ws.drop (splitAtW ws)).sum ≤ ws.sum) := by
  have hlt := splitFrom_lt' ws.sum ws 0 (fun e => by rw [e] at h; simp at h) (by omega)
  have hat := splitFrom_at ws.sum ws 0 hlt
  have hbe := splitFrom_before ws.sum ws 0 hlt
  obtain ⟨i, hi⟩ : ∃ i, i = splitFrom ws.sum 0 ws := ⟨_, rfl⟩
  have hs : splitAtW ws = min (i + 1) (ws.length - 1) := by rw [hi]; rfl
  rw [← hi] at hlt hat hbe
  rw [hs]
  refine ⟨by omega, by omega, ?_, ?_⟩
  · have h1 := take_sum_mono ws (j := min (i + 1) (ws.length - 1) - 1) (k := i) (by omega)
    by_cases h0 : i = 0
    · subst h0; simp at h1 ⊢; rw [show min 1 (ws.length - 1) - 1 = 0 by omega]; simp
    · have := hbe (by omega); omega
  · by_cases h2 : i + 1 ≤ ws.length - 1
    · right
      rw [Nat.min_eq_left h2]
      have := take_drop_sum ws (i + 1)
      omega
    · left; omega

theorem Tr.hvL_max {ks : List Tr} : ∀ {acc : Option Tr} {h : Tr}, ks.foldl Tr.hS acc = some h → (∀ k ∈ ks, k.sz ≤ h.sz) ∧ ∀ a, acc = some a → a.sz ≤ h.sz := by
  induction ks with
  | nil => intro acc h hh; exact ⟨fun k hk => (by cases hk), fun a ha => (by rw [List.foldl_nil, ha] at hh; cases hh; exact Nat.le_refl _)⟩
  | cons x xs ih =>
    intro acc h hh
    rw [List.foldl_cons] at hh
    obtain ⟨h1, h2⟩ := ih hh
    have hx : x.sz ≤ h.sz ∧ ∀ a, acc = some a → a.sz ≤ h.sz := by
      cases acc with
      | none => exact ⟨h2 x rfl, fun a ha => (by cases ha)⟩
      | some a =>
        simp only [Tr.hS] at h2
        split at h2
        · rename_i hc
          have := h2 _ rfl
          refine ⟨?_, fun b hb => ?_⟩
          · first | exact this | omega
          · cases hb; first | exact this | omega
        · rename_i hc
          have := h2 _ rfl
          refine ⟨?_, fun b hb => ?_⟩
          · first | exact this | omega
          · cases hb; first | exact this | omega
    refine ⟨fun k hk => ?_, hx.2⟩
    rcases List.mem_cons.1 hk with rfl | hk
    · exact hx.1
    · exact h1 k hk
theorem Tr.hvL_le {ks : List Tr} {h k : Tr} (hh : Tr.hvL ks = some h) (hk : k ∈ ks) : k.sz ≤ h.sz := (Tr.hvL_max hh).1 k hk
theorem Tr.hvL_none {ks : List Tr} (h : Tr.hvL ks = none) : ks = [] := by
  rcases List.eq_nil_or_concat ks with rfl | ⟨l, x, rfl⟩
  · rfl
  · rw [List.concat_eq_append, Tr.hvL_snoc] at h
    unfold Tr.hS at h
    split at h <;> (try split at h) <;> cases h
end Go.Pal
namespace Go.Pal
open Go

def sumW (l : List Tr) : Nat := (l.map Tr.wt).sum
def sumZ (l : List Tr) : Nat := (l.map Tr.sz).sum
theorem sumW_take (l : List Tr) (k : Nat) : sumW (l.take k) = ((l.map Tr.wt).take k).sum := by rw [sumW, List.map_take]
theorem sumW_drop (l : List Tr) (k : Nat) : sumW (l.drop k) = ((l.map Tr.wt).drop k).sum := by rw [sumW, List.map_drop]
theorem sumZ_take (l : List Tr) (k : Nat) : sumZ (l.take k) = ((l.map Tr.sz).take k).sum := by rw [sumZ, List.map_take]
theorem sumZ_drop (l : List Tr) (k : Nat) : sumZ (l.drop k) = ((l.map Tr.sz).drop k).sum := by rw [sumZ, List.map_drop]
theorem szs_eq (l : List Tr) : Tr.szs l = sumZ l := by
  induction l with
  | nil => rfl
  | cons x l ih => simp [Tr.szs, sumZ] at *; omega
theorem Tr.hsz_lt (t : Tr) : (match Tr.hvL t.ks with | none => 0 | some h => h.sz) + 1 ≤ t.sz := by
  cases hh : Tr.hvL t.ks with
  | none => have := t.sz_pos; simp; omega
  | some x =>
    have := Tr.szs_le (Tr.hvL_mem hh)
    cases t
    simp only [Tr.ks, Tr.sz] at *
    omega
theorem Tr.wt_pos (t : Tr) : 0 < t.wt := Nat.sub_pos_of_lt t.hsz_lt
theorem sumW_pos {l : List Tr} (h : l ≠ []) : 0 < sumW l := by
  cases l with
  | nil => exact absurd rfl h
  | cons x l =>
    have := x.wt_pos
    simp [sumW]
    omega
theorem sumZ_pos {l : List Tr} (h : l ≠ []) : 0 < sumZ l := by
  cases l with
  | nil => exact absurd rfl h
  | cons x l =>
    have := x.sz_pos
    simp [sumZ]
    omega
/-- The sizes of the kids but those with a given label. -/
theorem sumZ_filter_le {x : Tr} : ∀ {l : List Tr}, x ∈ l → sumZ (l.filter fun k => !((k.lab : Int) == (x.lab : Int))) + x.sz ≤ sumZ l
  | [], h => by cases h
  | y :: l, h => by
    rcases List.mem_cons.1 h with rfl | h
    · have : sumZ (l.filter fun k => !((k.lab : Int) == (x.lab : Int))) ≤ sumZ l := by
        clear h
        induction l with
        | nil => simp [sumZ]
        | cons z l ih =>
          rw [List.filter_cons]
          split <;> simp [sumZ] at * <;> omega
      simp [sumZ] at *
      omega
    · have := sumZ_filter_le h
      rw [List.filter_cons]
      split <;> simp [sumZ] at * <;> omega
theorem sumZ_filter_eq {x : Tr} : ∀ {l : List Tr}, x ∈ l → (l.map Tr.lab).Nodup → sumZ (l.filter fun k => !((k.lab : Int) == (x.lab : Int))) + x.sz = sumZ l
  | [], h, _ => by cases h
  | y :: l, h, hn => by
    rw [List.map_cons, List.nodup_cons] at hn
    rcases List.mem_cons.1 h with rfl | h
    · have hall : l.filter (fun k => !((k.lab : Int) == (x.lab : Int))) = l := by
        rw [List.filter_eq_self]
        intro k hk
        have : k.lab ≠ x.lab := fun e => hn.1 (by rw [← e]; exact List.mem_map_of_mem hk)
        simp
        omega
      rw [List.filter_cons]
      simp [hall, sumZ]
      omega
    · have hne : y.lab ≠ x.lab := fun e => hn.1 (by rw [e]; exact List.mem_map_of_mem h)
      have := sumZ_filter_eq h hn.2
      rw [List.filter_cons, if_pos (by simp; omega)]
      simp [sumZ] at *
      omega
theorem Tr.lights_sum_le (t : Tr) : sumZ t.lights + 1 ≤ t.wt := by
  unfold Tr.lights Tr.wt
  cases hh : Tr.hvL t.ks with
  | none =>
    have hk := Tr.hvL_none hh
    rw [hk]
    have := t.sz_pos
    simp [sumZ]
    omega
  | some x =>
    have h1 := sumZ_filter_le (Tr.hvL_mem hh)
    have h2 : t.sz = 1 + sumZ t.ks := by cases t; simp only [Tr.ks, Tr.sz, szs_eq]
    simp only [Tr.hLab]
    omega
theorem Tr.lights_sum_eq (t : Tr) (hn : (t.ks.map Tr.lab).Nodup) : sumZ t.lights + 1 = t.wt := by
  unfold Tr.lights Tr.wt
  cases hh : Tr.hvL t.ks with
  | none =>
    have hk := Tr.hvL_none hh
    rw [hk]
    have : t.sz = 1 := by cases t; simp only [Tr.ks] at hk; subst hk; rfl
    simp [sumZ, this]
  | some x =>
    have h1 := sumZ_filter_eq (Tr.hvL_mem hh) hn
    have h2 : t.sz = 1 + sumZ t.ks := by cases t; simp only [Tr.ks, Tr.sz, szs_eq]
    simp only [Tr.hLab]
    omega
/-- A light kid is at most half as large. -/
theorem Tr.light_half {t c : Tr} (h : c ∈ t.lights) : 2 * c.sz ≤ t.sz := by
  have hc : c ∈ t.ks := (List.mem_filter.1 h).1
  cases hh : Tr.hvL t.ks with
  | none => rw [Tr.hvL_none hh] at hc; cases hc
  | some x =>
    have h1 := sumZ_filter_le (Tr.hvL_mem hh)
    have h2 : t.sz = 1 + sumZ t.ks := by cases t; simp only [Tr.ks, Tr.sz, szs_eq]
    have h3 := Tr.hvL_le hh hc
    have h4 : c.sz ≤ sumZ (t.ks.filter fun k => !((k.lab : Int) == (x.lab : Int))) := by
      have : c ∈ t.ks.filter fun k => !((k.lab : Int) == (x.lab : Int)) := by
        have := h
        unfold Tr.lights at this
        rw [hh] at this
        exact this
      have h5 := Tr.szs_le this
      rwa [szs_eq] at h5
    omega
theorem HPath.sumW {t : Tr} {l : List Tr} (h : HPath t l) : Go.Pal.sumW l = t.sz := by
  induction h with
  | @last u hh =>
    have := u.hsz_lt
    simp [Go.Pal.sumW, Tr.wt, hh]
  | @cons u x l hh _ ih =>
    have := u.hsz_lt
    rw [hh] at this
    simp only [Go.Pal.sumW, List.map_cons, List.sum_cons] at ih ⊢
    rw [ih]
    unfold Tr.wt
    rw [hh]
    simp only at this ⊢
    omega
theorem HPath.le {t : Tr} {l : List Tr} (h : HPath t l) : ∀ z ∈ l, z.sz ≤ t.sz := by
  induction h with
  | last => intro z hz; simp at hz; subst hz; exact Nat.le_refl _
  | @cons u x l hh _ ih =>
    intro z hz
    rcases List.mem_cons.1 hz with rfl | hz
    · exact Nat.le_refl _
    · have h1 := ih z hz
      have h2 := u.hsz_lt
      rw [hh] at h2
      simp only at h2
      omega

/-- Chain and group build a hierarchy of whatever they are given. -/
theorem Cl.exists_upto (T : List Bg) : ∀ (n : Nat), (∀ l : List Tr, l ≠ [] → sumW l ≤ n → ∃ c, Cl T .chain l c) ∧ (∀ (b : Nat) (l : List Tr), l ≠ [] → sumZ l ≤ n → ∃ c, Cl T (.group b) l c) := by
  intro n
  induction n with
  | zero => exact ⟨fun l h hs => (by have := sumW_pos h; omega), fun b l h hs => (by have := sumZ_pos h; omega)⟩
  | succ n ih =>
    have hch : ∀ (k : Nat) (l : List Tr), l.length ≤ k → l ≠ [] → sumW l ≤ n + 1 → ∃ c, Cl T .chain l c := by
      intro k
      induction k with
      | zero => intro l hk h; cases l with
        | nil => exact absurd rfl h
        | cons => simp at hk
      | succ k ihk =>
        intro l hk h hs
        match l, h with
        | [t], _ =>
          by_cases hl : t.lights = []
          · exact ⟨_, .item0 hl⟩
          · have h1 := t.lights_sum_le
            obtain ⟨c, hc⟩ := ih.2 t.lab t.lights hl (by simp [sumW] at hs; omega)
            exact ⟨_, .item1 hl hc⟩
        | t :: u :: l, _ =>
          obtain ⟨h1, h2, -, -⟩ := splitAtW_spec (ws := (t :: u :: l).map Tr.wt) (by simp)
          rw [List.length_map] at h2
          obtain ⟨c, hc⟩ := ihk ((t :: u :: l).take (splitAtW ((t :: u :: l).map Tr.wt))) (by rw [List.length_take]; omega) (fun e => by have := congrArg List.length e; rw [List.length_take, List.length_nil] at this; omega) (by rw [sumW_take]; have := take_sum_le ((t :: u :: l).map Tr.wt) (splitAtW ((t :: u :: l).map Tr.wt)); unfold sumW at hs; omega)
          obtain ⟨d, hd⟩ := ihk ((t :: u :: l).drop (splitAtW ((t :: u :: l).map Tr.wt))) (by rw [List.length_drop]; omega) (fun e => by have := congrArg List.length e; rw [List.length_drop, List.length_nil] at this; omega) (by rw [sumW_drop]; have := take_drop_sum ((t :: u :: l).map Tr.wt) (splitAtW ((t :: u :: l).map Tr.wt)); unfold sumW at hs; omega)
          obtain ⟨y, hy⟩ : ∃ y, (u :: l).getLast? = some y := ⟨_, List.getLast?_eq_some_getLast (by simp)⟩
          exact ⟨_, .path hc hd hy⟩
    refine ⟨fun l h hs => hch l.length l (Nat.le_refl _) h hs, ?_⟩
    have hgr : ∀ (k : Nat) (b : Nat) (l : List Tr), l.length ≤ k → l ≠ [] → sumZ l ≤ n + 1 → ∃ c, Cl T (.group b) l c := by
      intro k
      induction k with
      | zero => intro b l hk h; cases l with
        | nil => exact absurd rfl h
        | cons => simp at hk
      | succ k ihk =>
        intro b l hk h hs
        match l, h with
        | [t], _ =>
          obtain ⟨p, hp⟩ := HPath.ex t
          obtain ⟨c, hc⟩ := hch p.length p (Nat.le_refl _) (fun e => by subst e; cases hp) (by rw [hp.sumW]; simp [sumZ] at hs; omega)
          exact ⟨_, .single hp hc⟩
        | t :: u :: l, _ =>
          obtain ⟨h1, h2, -, -⟩ := splitAtW_spec (ws := (t :: u :: l).map Tr.sz) (by simp)
          rw [List.length_map] at h2
          obtain ⟨c, hc⟩ := ihk b ((t :: u :: l).take (splitAtW ((t :: u :: l).map Tr.sz))) (by rw [List.length_take]; omega) (fun e => by have := congrArg List.length e; rw [List.length_take, List.length_nil] at this; omega) (by rw [sumZ_take]; have := take_sum_le ((t :: u :: l).map Tr.sz) (splitAtW ((t :: u :: l).map Tr.sz)); unfold sumZ at hs; omega)
          obtain ⟨d, hd⟩ := ihk b ((t :: u :: l).drop (splitAtW ((t :: u :: l).map Tr.sz))) (by rw [List.length_drop]; omega) (fun e => by have := congrArg List.length e; rw [List.length_drop, List.length_nil] at this; omega) (by rw [sumZ_drop]; have := take_drop_sum ((t :: u :: l).map Tr.sz) (splitAtW ((t :: u :: l).map Tr.sz)); unfold sumZ at hs; omega)
          exact ⟨_, .rake hc hd⟩
    exact fun b l h hs => hgr l.length b l (Nat.le_refl _) h hs
theorem Cl.ex (T : List Bg) {l : List Tr} (h : l ≠ []) : ∃ c, Cl T .chain l c := (Cl.exists_upto T (sumW l)).1 l h (Nat.le_refl _)
end Go.Pal
namespace Go.Pal
open Go

def Md.bit : Md → Nat | .chain => 0 | .group _ => 1
theorem Cl.depth_upto {T : List Bg} : ∀ (n : Nat) (md : Md) (l : List Tr) (ct : Ct), Cl T md l ct → 2 * ct.sz + md.bit ≤ n →
    (md = .chain → ∀ m, (∀ z ∈ l, ∀ c ∈ z.lights, dg c.sz ≤ m) → (l.length = 1 → ct.deep ≤ 2 * dg (sumW l) + 5 * m) ∧ ct.deep ≤ 2 * dg (sumW l) + 5 * m + 2) ∧
    (∀ b, md = .group b → ∀ m, (∀ c ∈ l, dg c.sz ≤ m) → (l.length = 1 → ct.deep + 3 ≤ 2 * dg (sumZ l) + 5 * m) ∧ ct.deep + 1 ≤ 2 * dg (sumZ l) + 5 * m) := by
  intro n
  induction n with
  | zero => intro md l ct _ hn; have := ct.sz_pos; omega
  | succ n ih =>
    intro md l ct h hn
    cases h with
    | @item0 t hl =>
      refine ⟨fun _ m _ => ?_, fun b hb => by cases hb⟩
      have h1 : 1 ≤ dg (sumW [t]) := dg_one (sumW_pos (by simp))
      simp only [Ct.deep, Ct.deeps]
      omega
    | @item1 t c hl hc =>
      refine ⟨fun _ m hm => ?_, fun b hb => by cases hb⟩
      simp only [Ct.sz, Ct.szs, Md.bit] at hn
      have h0 : 1 ≤ dg (sumW [t]) := dg_one (sumW_pos (by simp))
      have h1 := ((ih _ _ _ hc (by simp only [Md.bit]; omega)).2 _ rfl m (hm t (by simp))).2
      have h2 : dg (sumZ t.lights) ≤ dg (sumW [t]) := dg_mono (by have := t.lights_sum_le; simp [sumW]; omega)
      simp only [Ct.deep, Ct.deeps]
      omega
    | @path t u x l c d hc hd hy =>
      refine ⟨fun _ m hm => ?_, fun b hb => by cases hb⟩
      obtain ⟨L, hL⟩ : ∃ L, L = t :: u :: l := ⟨_, rfl⟩
      have hL2 : 2 ≤ L.length := by rw [hL]; simp
      rw [← hL] at hc hd hm ⊢
      obtain ⟨k, hk⟩ : ∃ k, k = splitAtW (L.map Tr.wt) := ⟨_, rfl⟩
      have hsp := splitAtW_spec (ws := L.map Tr.wt) (by simpa using hL2)
      rw [← hk] at hc hd hsp
      rw [List.length_map] at hsp
      obtain ⟨k1, k2, k3, k4⟩ := hsp
      have hpos : 0 < sumW L := sumW_pos (fun e => by rw [e] at hL2; simp at hL2)
      simp only [Ct.sz, Ct.szs, Md.bit] at hn
      have hcz := c.sz_pos
      have hdz := d.sz_pos
      have hmt : ∀ z ∈ L.take k, ∀ c ∈ z.lights, dg c.sz ≤ m := fun z hz => hm z (List.mem_of_mem_take hz)
      have hmd : ∀ z ∈ L.drop k, ∀ c ∈ z.lights, dg c.sz ≤ m := fun z hz => hm z (List.mem_of_mem_drop hz)
      have hwd : sumW (L.take k) + sumW (L.drop k) = sumW L := by rw [sumW_take, sumW_drop]; exact take_drop_sum _ _
      -- the second half
      have hd1 : d.deep ≤ 2 * dg (sumW L) + 5 * m := by
        have hI := ((ih _ _ _ hd (by simp only [Md.bit]; omega)).1 rfl m hmd)
        rcases k4 with k4 | k4
        · have h1 := hI.1 (by rw [List.length_drop]; omega)
          have h2 : dg (sumW (L.drop k)) ≤ dg (sumW L) := dg_mono (by omega)
          omega
        · have h2 := dg_half (a := sumW (L.drop k)) (b := sumW L) (by rw [sumW_drop]; exact k4) hpos
          have := hI.2
          omega
      -- the first half
      have hc1 : c.deep ≤ 2 * dg (sumW L) + 5 * m + 1 := by
        by_cases hk1 : k = 1
        · have h1 := ((ih _ _ _ hc (by simp only [Md.bit]; omega)).1 rfl m hmt).1 (by rw [List.length_take]; omega)
          have h2 : dg (sumW (L.take k)) ≤ dg (sumW L) := dg_mono (by omega)
          omega
        · obtain ⟨F, hF⟩ : ∃ F, F = L.take k := ⟨_, rfl⟩
          have hF2 : 2 ≤ F.length := by rw [hF, List.length_take]; omega
          have hFl : F.length = k := by rw [hF, List.length_take]; omega
          rw [← hF] at hc hmt hwd
          have hsF : 2 * sumW (F.take (k - 1)) ≤ sumW L := by
            rw [hF, List.take_take, Nat.min_eq_left (by omega), sumW_take]
            exact k3
          clear hF
          cases hc with
          | item0 => simp at hF2
          | item1 => simp at hF2
          | @path t' u' x' l' c1 c2 h1 h2 _ =>
            obtain ⟨G, hG⟩ : ∃ G, G = t' :: u' :: l' := ⟨_, rfl⟩
            rw [← hG] at h1 h2 hmt hwd hsF hF2 hFl
            simp only [Ct.sz, Ct.szs] at hn
            obtain ⟨j, hj⟩ : ∃ j, j = splitAtW (G.map Tr.wt) := ⟨_, rfl⟩
            have hsp := splitAtW_spec (ws := G.map Tr.wt) (by simpa using hF2)
            rw [← hj] at h1 h2 hsp
            rw [List.length_map] at hsp
            obtain ⟨j1, j2, j3, j4⟩ := hsp
            have hz1 := c1.sz_pos
            have hz2 := c2.sz_pos
            have hI1 := ((ih _ _ _ h1 (by simp only [Md.bit]; omega)).1 rfl m fun z hz => hmt z (List.mem_of_mem_take hz)).2
            have hI2 := (ih _ _ _ h2 (by simp only [Md.bit]; omega)).1 rfl m fun z hz => hmt z (List.mem_of_mem_drop hz)
            have e1 : c1.deep ≤ 2 * dg (sumW L) + 5 * m := by
              have : sumW (G.take j) ≤ sumW (G.take (k - 1)) := by rw [sumW_take, sumW_take]; exact take_sum_mono _ (by omega)
              have := dg_half (a := sumW (G.take j)) (b := sumW L) (by omega) hpos
              omega
            have hwG : sumW (G.take j) + sumW (G.drop j) = sumW G := by rw [sumW_take, sumW_drop]; exact take_drop_sum _ _
            have e2 : c2.deep ≤ 2 * dg (sumW L) + 5 * m := by
              rcases j4 with j4 | j4
              · have h1 := hI2.1 (by rw [List.length_drop]; omega)
                have h2 : dg (sumW (G.drop j)) ≤ dg (sumW L) := dg_mono (by omega)
                omega
              · have hh : 2 * sumW (G.drop j) ≤ sumW G := by rw [sumW_drop]; exact j4
                have h2 := dg_half (a := sumW (G.drop j)) (b := sumW L) (by omega) hpos
                have := hI2.2
                omega
            simp only [Ct.deep, Ct.deeps]
            omega
      refine ⟨fun h => by omega, ?_⟩
      simp only [Ct.deep, Ct.deeps]
      omega
    | @single b t p _ hp hc =>
      refine ⟨fun hb => (by cases hb), fun b' _ m hm => ?_⟩
      have hmt := hm t (by simp)
      have hpos := dg_one t.sz_pos
      simp only [Md.bit] at hn
      have hW : sumW _ = t.sz := hp.sumW
      have h1 := ((ih _ _ _ hc (by simp only [Md.bit]; omega)).1 rfl (m - 1) fun z hz c hcl => by
        have h2 := Tr.light_half hcl
        have h3 := hp.le z hz
        have h4 := dg_half (a := c.sz) (b := t.sz) (by omega) t.sz_pos
        omega).2
      rw [hW] at h1
      have hZ : sumZ [t] = t.sz := by simp [sumZ]
      rw [hZ]
      omega
    | @rake b t u l c d hc hd =>
      refine ⟨fun hb => (by cases hb), fun b' hb' m hm => ?_⟩
      obtain ⟨L, hL⟩ : ∃ L, L = t :: u :: l := ⟨_, rfl⟩
      have hL2 : 2 ≤ L.length := by rw [hL]; simp
      rw [← hL] at hc hd hm ⊢
      obtain ⟨k, hk⟩ : ∃ k, k = splitAtW (L.map Tr.sz) := ⟨_, rfl⟩
      have hsp := splitAtW_spec (ws := L.map Tr.sz) (by simpa using hL2)
      rw [← hk] at hc hd hsp
      rw [List.length_map] at hsp
      obtain ⟨k1, k2, k3, k4⟩ := hsp
      have hpos : 0 < sumZ L := sumZ_pos (fun e => by rw [e] at hL2; simp at hL2)
      simp only [Ct.sz, Ct.szs, Md.bit] at hn
      have hcz := c.sz_pos
      have hdz := d.sz_pos
      have hmt : ∀ c ∈ L.take k, dg c.sz ≤ m := fun z hz => hm z (List.mem_of_mem_take hz)
      have hmd : ∀ c ∈ L.drop k, dg c.sz ≤ m := fun z hz => hm z (List.mem_of_mem_drop hz)
      have hwd : sumZ (L.take k) + sumZ (L.drop k) = sumZ L := by rw [sumZ_take, sumZ_drop]; exact take_drop_sum _ _
      have hd1 : d.deep + 3 ≤ 2 * dg (sumZ L) + 5 * m := by
        have hI := ((ih _ _ _ hd (by simp only [Md.bit]; omega)).2 _ rfl m hmd)
        rcases k4 with k4 | k4
        · have h1 := hI.1 (by rw [List.length_drop]; omega)
          have h2 : dg (sumZ (L.drop k)) ≤ dg (sumZ L) := dg_mono (by omega)
          omega
        · have h2 := dg_half (a := sumZ (L.drop k)) (b := sumZ L) (by rw [sumZ_drop]; exact k4) hpos
          have := hI.2
          omega
      have hc1 : c.deep + 2 ≤ 2 * dg (sumZ L) + 5 * m := by
        by_cases hk1 : k = 1
        · have h1 := ((ih _ _ _ hc (by simp only [Md.bit]; omega)).2 _ rfl m hmt).1 (by rw [List.length_take]; omega)
          have h2 : dg (sumZ (L.take k)) ≤ dg (sumZ L) := dg_mono (by omega)
          omega
        · obtain ⟨F, hF⟩ : ∃ F, F = L.take k := ⟨_, rfl⟩
          have hF2 : 2 ≤ F.length := by rw [hF, List.length_take]; omega
          have hFl : F.length = k := by rw [hF, List.length_take]; omega
          rw [← hF] at hc hmt hwd
          have hsF : 2 * sumZ (F.take (k - 1)) ≤ sumZ L := by
            rw [hF, List.take_take, Nat.min_eq_left (by omega), sumZ_take]
            exact k3
          clear hF
          cases hc with
          | single => simp at hF2
          | @rake _ t' u' l' c1 c2 h1 h2 =>
            obtain ⟨G, hG⟩ : ∃ G, G = t' :: u' :: l' := ⟨_, rfl⟩
            rw [← hG] at h1 h2 hmt hwd hsF hF2 hFl
            simp only [Ct.sz, Ct.szs] at hn
            obtain ⟨j, hj⟩ : ∃ j, j = splitAtW (G.map Tr.sz) := ⟨_, rfl⟩
            have hsp := splitAtW_spec (ws := G.map Tr.sz) (by simpa using hF2)
            rw [← hj] at h1 h2 hsp
            rw [List.length_map] at hsp
            obtain ⟨j1, j2, j3, j4⟩ := hsp
            have hz1 := c1.sz_pos
            have hz2 := c2.sz_pos
            have hI1 := ((ih _ _ _ h1 (by simp only [Md.bit]; omega)).2 _ rfl m fun z hz => hmt z (List.mem_of_mem_take hz)).2
            have hI2 := (ih _ _ _ h2 (by simp only [Md.bit]; omega)).2 _ rfl m fun z hz => hmt z (List.mem_of_mem_drop hz)
            have e1 : c1.deep + 3 ≤ 2 * dg (sumZ L) + 5 * m := by
              have : sumZ (G.take j) ≤ sumZ (G.take (k - 1)) := by rw [sumZ_take, sumZ_take]; exact take_sum_mono _ (by omega)
              have := dg_half (a := sumZ (G.take j)) (b := sumZ L) (by omega) hpos
              omega
            have hwG : sumZ (G.take j) + sumZ (G.drop j) = sumZ G := by rw [sumZ_take, sumZ_drop]; exact take_drop_sum _ _
            have e2 : c2.deep + 3 ≤ 2 * dg (sumZ L) + 5 * m := by
              rcases j4 with j4 | j4
              · have h1 := hI2.1 (by rw [List.length_drop]; omega)
                have h2 : dg (sumZ (G.drop j)) ≤ dg (sumZ L) := dg_mono (by omega)
                omega
              · have hh : 2 * sumZ (G.drop j) ≤ sumZ G := by rw [sumZ_drop]; exact j4
                have h2 := dg_half (a := sumZ (G.drop j)) (b := sumZ L) (by omega) hpos
                have := hI2.2
                omega
            simp only [Ct.deep, Ct.deeps]
            omega
      refine ⟨fun h => by omega, ?_⟩
      simp only [Ct.deep, Ct.deeps]
      omega
/-- The depth of the hierarchy of a whole tree. -/
theorem Cl.depth_le {T : List Bg} {t : Tr} {l : List Tr} {c : Ct} (hp : HPath t l) (h : Cl T .chain l c) : c.deep ≤ 10 * dg t.sz + 10 := by
  have h1 := ((Cl.depth_upto _ _ _ _ h (Nat.le_refl _)).1 rfl (dg t.sz) fun z hz c hc => dg_mono (by have h2 := Tr.light_half hc; have h3 := hp.le z hz; omega)).2
  rw [hp.sumW] at h1
  omega
/-- How many clusters there are. -/
theorem Cl.count {T : List Bg} {md : Md} {l : List Tr} {c : Ct} (h : Cl T md l c) :
    (∀ r ∈ l, ∀ u, Sub r u → (u.ks.map Tr.lab).Nodup) → (md = .chain → 2 * sumW l ≤ c.sz ∧ c.sz + 1 ≤ 4 * sumW l) ∧ (∀ b, md = .group b → 2 * sumZ l ≤ c.sz ∧ c.sz + 1 ≤ 4 * sumZ l) := by
  induction h with
  | @item0 t hl =>
    intro hn
    refine ⟨fun _ => ?_, fun b hb => (by cases hb)⟩
    have := t.lights_sum_eq (hn t (by simp) t .self)
    rw [hl] at this
    simp [sumZ] at this
    simp [Ct.sz, Ct.szs, sumW, ← this]
  | @item1 t c hl _ ih =>
    intro hn
    refine ⟨fun _ => ?_, fun b hb => (by cases hb)⟩
    have h1 := t.lights_sum_eq (hn t (by simp) t .self)
    have h2 := (ih fun r hr u hu => hn t (by simp) u ((Sub.self.kid (List.mem_filter.1 hr).1).trans hu)).2 _ rfl
    simp only [Ct.sz, Ct.szs, sumW, List.map_cons, List.map_nil, List.sum_cons, List.sum_nil]
    omega
  | @path t u x l c d _ _ _ ih1 ih2 =>
    intro hn
    refine ⟨fun _ => ?_, fun b hb => (by cases hb)⟩
    have h1 := (ih1 fun r hr => hn r (List.mem_of_mem_take hr)).1 rfl
    have h2 := (ih2 fun r hr => hn r (List.mem_of_mem_drop hr)).1 rfl
    rw [sumW_take] at h1
    rw [sumW_drop] at h2
    have h3 := take_drop_sum ((t :: u :: l).map Tr.wt) (splitAtW ((t :: u :: l).map Tr.wt))
    have h4 : sumW (t :: u :: l) = ((t :: u :: l).map Tr.wt).sum := rfl
    simp only [Ct.sz, Ct.szs]
    omega
  | @single b t p _ hp _ ih =>
    intro hn
    refine ⟨fun hb => (by cases hb), fun b' _ => ?_⟩
    have h1 := (ih fun r hr u hu => by
      have key : ∀ {x : Tr} {l : List Tr}, HPath x l → Sub t x → ∀ r ∈ l, Sub t r := fun h => by
        induction h with
        | last => intro hx r hr; simp at hr; subst hr; exact hx
        | cons hh _ ih => intro hx r hr; rcases List.mem_cons.1 hr with rfl | hr; exact hx; exact ih (hx.kid (Tr.hvL_mem hh)) r hr
      exact hn t (by simp) u ((key hp .self r hr).trans hu)).1 rfl
    rw [hp.sumW] at h1
    simpa [sumZ] using h1
  | @rake b t u l c d _ _ ih1 ih2 =>
    intro hn
    refine ⟨fun hb => (by cases hb), fun b' hb' => ?_⟩
    have h1 := (ih1 fun r hr => hn r (List.mem_of_mem_take hr)).2 _ rfl
    have h2 := (ih2 fun r hr => hn r (List.mem_of_mem_drop hr)).2 _ rfl
    rw [sumZ_take] at h1
    rw [sumZ_drop] at h2
    have h3 := take_drop_sum ((t :: u :: l).map Tr.sz) (splitAtW ((t :: u :: l).map Tr.sz))
    have h4 : sumZ (t :: u :: l) = ((t :: u :: l).map Tr.sz).sum := rfl
    simp only [Ct.sz, Ct.szs]
    omega
end Go.Pal
namespace Go.Pal
open Go

structure ParOk (T : List Bg) : Prop where
  head : T[0]? = some (-1, 0)
  tail : ∀ (j : Nat) (x : Bg), T[j]? = some x → x.2 = 0 ∧ (j ≠ 0 → ∃ p : Nat, x.1 = (p : Int) ∧ p < j)
def parU (T : List Bg) (i : Nat) : Int := match T[i]? with | none => -1 | some x => x.1
def mkTr (K : Nat → List Nat) : Nat → Nat → Tr
  | 0, b => .node b []
  | f + 1, b => .node b ((K b).map (mkTr K f))
theorem mkTr_lab (K : Nat → List Nat) (f b : Nat) : (mkTr K f b).lab = b := by cases f <;> rfl
def kidN' (T : List Bg) (b : Nat) : List Nat := (kidsTo T T.length b).map Int.toNat
theorem mem_kidsTo {T : List Bg} {k c b : Nat} {x : Bg} (hc : c < k) (h : T[c]? = some x) (hp : x.1 = (b : Int)) : (c : Int) ∈ kidsTo T k b := by
  induction k with
  | zero => omega
  | succ k ih =>
    simp only [kidsTo, List.mem_append]
    by_cases hck : c = k
    · subst hck
      right
      simp [h, hp]
    · exact .inl (ih (by omega))
theorem kidsTo_nodup (T : List Bg) (k b : Nat) : (kidsTo T k b).Nodup := by
  induction k with
  | zero => exact List.nodup_nil
  | succ k ih =>
    rw [kidsTo, List.nodup_append]
    refine ⟨ih, ?_, ?_⟩
    · split <;> simp
    · intro z hz y hy
      obtain ⟨c, rfl, h1, -⟩ := kidsTo_mem hz
      split at hy
      · simp at hy; omega
      · cases hy
theorem mem_kidN {T : List Bg} {b c : Nat} : c ∈ kidN' T b ↔ c < T.length ∧ parU T c = (b : Int) := by
  unfold kidN' parU
  rw [List.mem_map]
  constructor
  · rintro ⟨z, hz, rfl⟩
    obtain ⟨c, rfl, h1, x, hx, hp⟩ := kidsTo_mem hz
    rw [Int.toNat_natCast, hx]
    exact ⟨h1, hp⟩
  · rintro ⟨h1, h2⟩
    obtain ⟨x, hx⟩ : ∃ x, T[c]? = some x := ⟨_, List.getElem?_eq_getElem h1⟩
    rw [hx] at h2
    exact ⟨(c : Int), mem_kidsTo h1 hx h2, Int.toNat_natCast c⟩
theorem kidN_map (T : List Bg) (b : Nat) : (kidN' T b).map (fun c : Nat => (c : Int)) = kidsTo T T.length b := by
  unfold kidN'
  rw [List.map_map]
  conv => rhs; rw [← List.map_id (kidsTo T T.length b)]
  refine List.map_congr_left fun z hz => ?_
  obtain ⟨c, rfl, -⟩ := kidsTo_mem hz
  simp
theorem kidN_nodup (T : List Bg) (b : Nat) : (kidN' T b).Nodup := by
  have h := kidsTo_nodup T T.length b
  rw [← kidN_map] at h
  exact List.Pairwise.of_map (fun c : Nat => (c : Int)) (fun a b hab e => hab (by rw [e])) h
theorem ParOk.kid_gt {T : List Bg} (h : ParOk T) {b c : Nat} (hc : c ∈ kidN' T b) : b < c ∧ c < T.length := by
  obtain ⟨h1, h2⟩ := mem_kidN.1 hc
  obtain ⟨x, hx⟩ : ∃ x, T[c]? = some x := ⟨_, List.getElem?_eq_getElem h1⟩
  simp only [parU, hx] at h2
  by_cases h0 : c = 0
  · subst h0
    rw [h.head] at hx
    cases hx
    simp at h2
  · obtain ⟨p, h3, h4⟩ := (h.tail c x hx).2 h0
    omega
theorem ParOk.fits {T : List Bg} (h : ParOk T) : ∀ (f b : Nat), b < T.length → T.length - b ≤ f → Fits T.length (kidsTo T T.length) (mkTr (kidN' T) f b)
  | 0, b, hb, hf => by omega
  | f + 1, b, hb, hf => by
    rw [mkTr]
    refine .mk b _ hb ?_ ?_
    · rw [List.map_map, ← kidN_map]
      refine List.map_congr_left fun c _ => ?_
      simp [mkTr_lab]
    · intro u hu
      obtain ⟨c, hc, rfl⟩ := List.mem_map.1 hu
      have := h.kid_gt hc
      exact ParOk.fits h f c this.2 (by omega)
/-- The labels below b: whatever comes to b along the parents. -/
theorem ParOk.labs_mem {T : List Bg} (h : ParOk T) : ∀ (f b : Nat), b < T.length → T.length - b ≤ f → ∀ x, x ∈ (mkTr (kidN' T) f b).labs ↔ x < T.length ∧ ∃ m, Steps (parU T) m x b
  | 0, b, hb, hf => by omega
  | f + 1, b, hb, hf => by
    intro x
    rw [mkTr, Tr.labs, List.mem_cons]
    constructor
    · rintro (rfl | hx)
      · exact ⟨hb, 0, .zero⟩
      · obtain ⟨u, hu, hx⟩ := Tr.labss_mem hx
        obtain ⟨c, hc, rfl⟩ := List.mem_map.1 hu
        have hk := h.kid_gt hc
        obtain ⟨h1, m, h2⟩ := (ParOk.labs_mem h f c hk.2 (by omega) x).1 hx
        exact ⟨h1, m + 1, h2.snoc (mem_kidN.1 hc).2⟩
    · rintro ⟨hx, m, hs⟩
      have key : ∀ {m x c : Nat}, Steps (parU T) m x c → c = b → x < T.length → x = b ∨ ∃ c ∈ kidN' T b, ∃ m, Steps (parU T) m x c := by
        intro m x c hs
        induction hs with
        | zero => intro e _; exact .inl e
        | @succ m i p r h1 h2 ih =>
          intro e hi
          have hi0 : i ≠ 0 := fun e0 => by
            subst e0
            simp only [parU, h.head] at h1
            omega
          obtain ⟨y, hy⟩ : ∃ y, T[i]? = some y := ⟨_, List.getElem?_eq_getElem hi⟩
          obtain ⟨q, h3, h4⟩ := (h.tail i y hy).2 hi0
          have hpq : p = q := by simp only [parU, hy] at h1; omega
          rcases ih e (by omega) with h5 | ⟨c, h5, m', h6⟩
          · right
            refine ⟨i, mem_kidN.2 ⟨hi, by rw [h1, h5]⟩, 0, .zero⟩
          · exact .inr ⟨c, h5, m' + 1, .succ h1 h6⟩
      rcases key hs rfl hx with h1 | ⟨c, hc, m', h1⟩
      · exact .inl h1
      · have hk := h.kid_gt hc
        exact .inr (Tr.mem_labss (List.mem_map_of_mem hc) ((ParOk.labs_mem h f c hk.2 (by omega) x).2 ⟨hx, m', h1⟩))
theorem ParOk.steps_le {T : List Bg} (h : ParOk T) {m x c : Nat} (hs : Steps (parU T) m x c) : x < T.length → c ≤ x := by
  induction hs with
  | zero => intro _; exact Nat.le_refl _
  | @succ m i p r h1 _ ih =>
    intro hi
    have hi0 : i ≠ 0 := fun e0 => by
      subst e0
      simp only [parU, h.head] at h1
      omega
    obtain ⟨y, hy⟩ : ∃ y, T[i]? = some y := ⟨_, List.getElem?_eq_getElem hi⟩
    obtain ⟨q, h3, h4⟩ := (h.tail i y hy).2 hi0
    have hpq : p = q := by simp only [parU, hy] at h1; omega
    have := ih (by omega)
    omega
theorem Steps.linear {U : Nat → Int} {m x c : Nat} (h1 : Steps U m x c) : ∀ {m' c' : Nat}, Steps U m' x c' → (∃ k, Steps U k c c') ∨ ∃ k, Steps U k c' c := by
  induction h1 with
  | zero => intro m' c' h2; exact .inl ⟨_, h2⟩
  | @succ m i p r h1 h3 ih =>
    intro m' c' h2
    cases h2 with
    | zero => exact .inr ⟨_, .succ h1 h3⟩
    | @succ _ _ q _ h4 h5 =>
      rw [h1] at h4
      have : p = q := by omega
      subst this
      exact ih h5
theorem ParOk.nodup {T : List Bg} (h : ParOk T) : ∀ (f b : Nat), b < T.length → T.length - b ≤ f → (mkTr (kidN' T) f b).labs.Nodup
  | 0, b, hb, hf => by omega
  | f + 1, b, hb, hf => by
    rw [mkTr, Tr.labs, List.nodup_cons]
    constructor
    · intro hx
      obtain ⟨u, hu, hx⟩ := Tr.labss_mem hx
      obtain ⟨c, hc, rfl⟩ := List.mem_map.1 hu
      have hk := h.kid_gt hc
      obtain ⟨_, m, hs⟩ := (h.labs_mem f c hk.2 (by omega) b).1 hx
      have := h.steps_le hs hb
      omega
    · have key : ∀ (l : List Nat), l.Nodup → (∀ c ∈ l, c ∈ kidN' T b) → (Tr.labss (l.map (mkTr (kidN' T) f))).Nodup := by
        intro l
        induction l with
        | nil => intro _ _; exact List.nodup_nil
        | cons c l ih =>
          intro hn hl
          rw [List.nodup_cons] at hn
          rw [List.map_cons, Tr.labss, List.nodup_append]
          have hk := h.kid_gt (hl c (by simp))
          refine ⟨ParOk.nodup h f c hk.2 (by omega), ih hn.2 fun d hd => hl d (by simp [hd]), ?_⟩
          intro x hx y hy e
          subst e
          obtain ⟨u, hu, hy⟩ := Tr.labss_mem hy
          obtain ⟨d, hd, rfl⟩ := List.mem_map.1 hu
          have hk2 := h.kid_gt (hl d (by simp [hd]))
          obtain ⟨hxl, m1, s1⟩ := (h.labs_mem f c hk.2 (by omega) x).1 hx
          obtain ⟨_, m2, s2⟩ := (h.labs_mem f d hk2.2 (by omega) x).1 hy
          have hcd : c ≠ d := fun e => hn.1 (by rw [e]; exact hd)
          have hpc := (mem_kidN.1 (hl c (by simp))).2
          have hpd := (mem_kidN.1 (hl d (by simp [hd]))).2
          rcases s1.linear s2 with ⟨k, s⟩ | ⟨k, s⟩
          · cases s with
            | zero => exact hcd rfl
            | @succ _ _ q _ h4 h5 =>
              rw [hpc] at h4
              have := h.steps_le h5 (by omega)
              omega
          · cases s with
            | zero => exact hcd rfl
            | @succ _ _ q _ h4 h5 =>
              rw [hpd] at h4
              have := h.steps_le h5 (by omega)
              omega
      exact key _ (kidN_nodup T b) fun _ h => h
theorem length_le_of {l1 : List Nat} : ∀ {l2 : List Nat}, l1.Nodup → (∀ x ∈ l1, x ∈ l2) → l1.length ≤ l2.length := by
  induction l1 with
  | nil => intro l2 _ _; exact Nat.zero_le _
  | cons x l ih =>
    intro l2 hn hs
    rw [List.nodup_cons] at hn
    have h1 := ih (l2 := l2.erase x) hn.2 fun y hy => (List.mem_erase_of_ne fun e => hn.1 (by rw [← e]; exact hy)).2 (hs y (by simp [hy]))
    have h2 : (l2.erase x).length = l2.length - 1 := List.length_erase_of_mem (hs x (by simp))
    have h3 : 0 < l2.length := List.length_pos_of_mem (hs x (by simp))
    rw [List.length_cons]
    omega
theorem ParOk.steps_root {T : List Bg} (h : ParOk T) : ∀ (k x : Nat), x ≤ k → x < T.length → ∃ m, Steps (parU T) m x 0
  | 0, x, hx, _ => by
    have : x = 0 := by omega
    subst this
    exact ⟨0, .zero⟩
  | k + 1, x, hx, hl => by
    by_cases h0 : x = 0
    · subst h0; exact ⟨0, .zero⟩
    · obtain ⟨y, hy⟩ : ∃ y, T[x]? = some y := ⟨_, List.getElem?_eq_getElem hl⟩
      obtain ⟨q, h3, h4⟩ := (h.tail x y hy).2 h0
      obtain ⟨m, hs⟩ := ParOk.steps_root h k q (by omega) (by omega)
      exact ⟨m + 1, .succ (by simp only [parU, hy]; exact h3) hs⟩
theorem ParOk.pos {T : List Bg} (h : ParOk T) : 0 < T.length := (List.getElem?_eq_some_iff.1 h.head).1
theorem ParOk.top {T : List Bg} (h : ParOk T) (i : Nat) : topS T i = 0 := by
  unfold topS
  split
  · rfl
  · rename_i x hx
    have h1 := (h.tail i x hx).1
    split
    · exact h1
    · split
      · rfl
      · rw [h1]; simp [sDiff]
theorem ParOk.rootsTo {T : List Bg} (h : ParOk T) : ∀ (k : Nat), 0 < k → k ≤ T.length → Go.Pal.rootsTo T k = [0]
  | 0, h0, _ => by omega
  | 1, _, _ => by simp [Go.Pal.rootsTo, h.head]
  | k + 2, _, hk => by
    obtain ⟨y, hy⟩ : ∃ y, T[k + 1]? = some y := ⟨_, List.getElem?_eq_getElem (by omega)⟩
    obtain ⟨q, h3, h4⟩ := (h.tail (k + 1) y hy).2 (by omega)
    rw [rootsTo_succ hy, ParOk.rootsTo h (k + 1) (by omega) (by omega), if_neg (by omega), List.append_nil]
theorem ParOk.valid {T : List Bg} (h : ParOk T) (hle : T.length ≤ 1024) : ∃ t, Valid T t ∧ t.labs.Nodup := by
  have hpos := h.pos
  refine ⟨mkTr (kidN' T) T.length 0, ⟨hpos, hle, ?_, ?_, ?_, ?_, h.fits _ 0 hpos (by omega), ?_, ?_⟩, h.nodup _ 0 hpos (by omega)⟩
  · intro x hx
    obtain ⟨i, hi⟩ := List.mem_iff_getElem?.1 hx
    rw [(h.tail i x hi).1]
    exact isSet_zero
  · intro x hx
    obtain ⟨i, hi⟩ := List.mem_iff_getElem?.1 hx
    rw [(h.tail i x hi).1]
    decide
  · intro i x hx
    by_cases h0 : i = 0
    · subst h0
      rw [h.head] at hx
      cases hx
      exact .inl rfl
    · obtain ⟨p, h1, h2⟩ := (h.tail i x hx).2 h0
      have := (List.getElem?_eq_some_iff.1 hx).1
      exact .inr ⟨p, h1, by omega⟩
  · rw [h.rootsTo _ hpos (Nat.le_refl _), mkTr_lab]
    rfl
  · have hn := h.nodup T.length 0 hpos (by omega)
    have hm := h.labs_mem T.length 0 hpos (by omega)
    rw [← Tr.length_labs]
    have h1 := length_le_of hn (l2 := List.range T.length) fun x hx => List.mem_range.2 ((hm x).1 hx).1
    have h2 := length_le_of (l1 := List.range T.length) List.nodup_range (l2 := (mkTr (kidN' T) T.length 0).labs) fun x hx => (hm x).2 ⟨List.mem_range.1 hx, h.steps_root x x (Nat.le_refl _) (List.mem_range.1 hx)⟩
    rw [List.length_range] at h1 h2
    omega
  · intro i _
    rw [h.top i, Nat.zero_and]
theorem labs_nodup_sub {t u : Tr} (h : Sub t u) (hn : t.labs.Nodup) : u.labs.Nodup := by
  induction h with
  | self => exact hn
  | @kid u k _ hk ih =>
    have key : ∀ {l : List Tr}, (Tr.labss l).Nodup → ∀ k ∈ l, k.labs.Nodup := by
      intro l
      induction l with
      | nil => intro _ k hk; cases hk
      | cons x l ih =>
        intro h k hk
        rw [Tr.labss, List.nodup_append] at h
        rcases List.mem_cons.1 hk with rfl | hk
        · exact h.1
        · exact ih h.2.1 k hk
    cases u
    rw [Tr.labs, List.nodup_cons] at ih
    exact key ih.2 k hk
theorem labs_nodup_ks {u : Tr} (hn : u.labs.Nodup) : (u.ks.map Tr.lab).Nodup := by
  have key : ∀ {l : List Tr}, (Tr.labss l).Nodup → (l.map Tr.lab).Nodup := by
    intro l
    induction l with
    | nil => intro _; exact List.nodup_nil
    | cons x l ih =>
      intro h
      rw [Tr.labss, List.nodup_append] at h
      rw [List.map_cons, List.nodup_cons]
      refine ⟨fun hx => ?_, ih h.2.1⟩
      obtain ⟨y, hy, e⟩ := List.mem_map.1 hx
      exact h.2.2 _ x.lab_mem _ (Tr.mem_labss hy y.lab_mem) e.symm
  cases u
  rw [Tr.labs, List.nodup_cons] at hn
  exact key hn.2
end Go.Pal
namespace Go.Pal
open Go

def T0 : List Bg := [(1, 6), (-1, 12), (1, 20)]
def t0 : Tr := .node 1 [.node 0 [], .node 2 []]
theorem valid0 : Valid T0 t0 where
  pos := by decide
  le := by decide
  sets := fun x hx => by
    simp only [T0, List.mem_cons, List.not_mem_nil, or_false] at hx
    rcases hx with rfl | rfl | rfl <;> exact isSet_of_lt (k := 10) (by decide) (by decide)
  small := by decide
  par := fun i x hx => by
    match i, hx with
    | 0, hx => cases hx; exact .inr ⟨1, rfl, by decide⟩
    | 1, hx => cases hx; exact .inl rfl
    | 2, hx => cases hx; exact .inr ⟨1, rfl, by decide⟩
  root := by rfl
  fits := .mk 1 _ (by decide) (by rfl) fun t ht => by
    simp only [List.mem_cons, List.not_mem_nil, or_false] at ht
    rcases ht with rfl | rfl
    · exact .mk 0 _ (by decide) (by rfl) fun t ht => by cases ht
    · exact .mk 2 _ (by decide) (by rfl) fun t ht => by cases ht
  all := by rfl
  disj := fun i hi => by
    match i, hi with
    | 0, _ => decide
    | 1, _ => decide
    | 2, _ => decide
    | i + 3, hi => exact absurd hi (by show ¬ i + 3 < 3; omega)
theorem nodup0 : t0.labs.Nodup := by decide
theorem path0 : HPath t0 [t0, .node 0 []] := .cons rfl (.last rfl)
def c0 : Ct := .node 3 1 0 [.node 2 1 4 [.node 0 1 12 [], .node 2 2 4 [.node 0 2 20 []]], .node 2 0 4 [.node 0 0 6 []]]
theorem cl0 : Cl T0 .chain [t0, .node 0 []] c0 := by
  have h2 : Cl T0 .chain [.node 2 []] (.node 2 2 4 [.node 0 2 20 []]) := .item0 (t := .node 2 []) rfl
  have h0 : Cl T0 .chain [.node 0 []] (.node 2 0 4 [.node 0 0 6 []]) := .item0 (t := .node 0 []) rfl
  have hg : Cl T0 (.group 1) t0.lights (.node 2 2 4 [.node 0 2 20 []]) := .single (t := .node 2 []) (.last rfl) h2
  have h1 : Cl T0 .chain [t0] (.node 2 1 4 [.node 0 1 12 [], .node 2 2 4 [.node 0 2 20 []]]) := .item1 (t := t0) (by simp [Tr.lights, t0, Tr.ks, Tr.hvL, Tr.hS, Tr.hLab, Tr.sz, Tr.szs, Tr.lab]) hg
  exact .path (t := t0) (u := .node 0 []) (x := .node 0 []) (l := []) h1 h0 rfl
theorem flat0 : c0.flat 0 = [⟨0, 1, [], 12⟩, ⟨0, 2, [], 20⟩, ⟨2, 2, [1], 4⟩, ⟨2, 1, [0, 2], 4⟩, ⟨0, 0, [], 6⟩, ⟨2, 0, [4], 4⟩, ⟨3, 1, [3, 5], 0⟩] := by rfl
theorem ups0 : upsTo (c0.flat 0) (c0.flat 0).length 3 = 6 := by rw [flat0]; rfl
end Go.Pal
