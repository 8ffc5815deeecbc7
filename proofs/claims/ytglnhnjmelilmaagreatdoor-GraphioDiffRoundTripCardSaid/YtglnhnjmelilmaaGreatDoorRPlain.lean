/- Sets of numbers below 1024 as natural numbers, and the array of sixteen words that holds .. -/
import Derived.WalkKit
import Derived.Laws.BitsAllLaws
import Derived.Lib.TrailingZeros
set_option linter.all false
namespace Go.Pal
open Go
def wd (S i : Nat) : Nat := (S >>> (64 * i)) % 18446744073709551616
def words (S : Nat) : Array Value := Array.ofFn (n := 16) fun i => .int .u64 (wd S i.val : Int)
theorem wd_lt (S i : Nat) : wd S i < 18446744073709551616 := Nat.mod_lt _ (by decide)
theorem words_size (S : Nat) : (words S).size = 16 := by simp [words]
theorem words_get (S : Nat) {i : Nat} (h : i < 16) : (words S)[i]? = some (.int .u64 (wd S i : Int)) := by
 simp [words, h]
theorem wd_testBit (S i j : Nat) : (wd S i).testBit j = (decide (j < 64) && S.testBit (64 * i + j)) := by
 unfold wd
 rw [show (18446744073709551616 : Nat) = 2 ^ 64 from rfl, Nat.testBit_mod_two_pow, Nat.testBit_shiftRight]
theorem wd_eq_of_testBit {x S i : Nat} (hx : x < 18446744073709551616) (h : ∀ j, j < 64 → x.testBit j = S.testBit (64 * i + j)) : x = wd S i := by
 apply Nat.eq_of_testBit_eq
 intro j
 rw [wd_testBit]
 by_cases hj : j < 64
 · simp [hj, h j hj]
 · simp only [hj, decide_false, Bool.false_and]
   exact Nat.testBit_lt_two_pow (Nat.lt_of_lt_of_le hx (by rw [show (18446744073709551616 : Nat) = 2 ^ 64 from rfl]; exact Nat.pow_le_pow_right (by decide) (by omega)))
theorem words_set {S T i x : Nat} (_hi : i < 16) (hx : x = wd T i) (ho : ∀ j, j < 16 → j ≠ i → wd S j = wd T j) : (words S).setIfInBounds i (.int .u64 (x : Int)) = words T := by
 apply Array.ext_getElem?
 intro j
 by_cases hj : j < 16
 · rw [words_get T hj]
   by_cases hji : i = j
   · subst hji
     rw [Array.getElem?_setIfInBounds_self_of_lt (by rw [words_size]; exact hj), hx]
   · rw [Array.getElem?_setIfInBounds_ne hji, words_get S hj, ho j hj (fun e => hji e.symm)]
 · rw [Array.getElem?_eq_none (by simp [words_size]; omega), Array.getElem?_eq_none (by rw [words_size]; omega)]
def sIns (S n : Nat) : Nat := S ||| (1 <<< n)
def sDel (S n : Nat) : Nat := S ^^^ (S &&& (1 <<< n))
def sDiff (S T : Nat) : Nat := S ^^^ (S &&& T)
theorem testBit_one_shift (n m : Nat) : (1 <<< n).testBit m = decide (n = m) := by
 rw [Nat.one_shiftLeft, Nat.testBit_two_pow]
theorem sIns_testBit (S n m : Nat) : (sIns S n).testBit m = (S.testBit m || decide (n = m)) := by
 rw [sIns, Nat.testBit_or, testBit_one_shift]
theorem sDel_testBit (S n m : Nat) : (sDel S n).testBit m = (S.testBit m && !decide (n = m)) := by
 rw [sDel, Nat.testBit_xor, Nat.testBit_and, testBit_one_shift]
 cases S.testBit m <;> cases decide (n = m) <;> rfl
theorem sDiff_testBit (S T m : Nat) : (sDiff S T).testBit m = (S.testBit m && !T.testBit m) := by
 rw [sDiff, Nat.testBit_xor, Nat.testBit_and]
 cases S.testBit m <;> cases T.testBit m <;> rfl
theorem pow_lt_word {k : Nat} (h : k < 64) : 2 ^ k < 18446744073709551616 := by
 rw [show (18446744073709551616 : Nat) = 2 ^ 64 from rfl]; exact Nat.pow_lt_pow_right (by decide) h
theorem or_lt_word {a b : Nat} (ha : a < 18446744073709551616) (hb : b < 18446744073709551616) : a ||| b < 18446744073709551616 := by
 rw [show (18446744073709551616 : Nat) = 2 ^ 64 from rfl] at *; exact Nat.or_lt_two_pow ha hb
theorem and_lt_word {a b : Nat} (ha : a < 18446744073709551616) : a &&& b < 18446744073709551616 := Nat.lt_of_le_of_lt Nat.and_le_left ha
def bitN (n : Nat) : Nat := 2 ^ (n % 64)
theorem bitN_lt (n : Nat) : bitN n < 18446744073709551616 := pow_lt_word (Nat.mod_lt _ (by decide))
theorem words_ins (S : Nat) {n : Nat} (h : n < 1024) : (words S).setIfInBounds (n / 64) (.int .u64 ((wd S (n / 64) ||| bitN n : Nat) : Int)) = words (sIns S n) := by
 unfold bitN
 have hp : 2 ^ (n % 64) < 18446744073709551616 := pow_lt_word (Nat.mod_lt _ (by decide))
 refine words_set (by omega) ?_ ?_
 · refine wd_eq_of_testBit (or_lt_word (wd_lt _ _) hp) fun j hj => ?_
   rw [Nat.testBit_or, wd_testBit, sIns_testBit, Nat.testBit_two_pow]
   simp only [hj, decide_true, Bool.true_and]
   congr 1
   rw [decide_eq_decide]
   omega
 · intro j hj hne
   refine wd_eq_of_testBit (wd_lt _ _) fun k hk => ?_
   rw [wd_testBit, sIns_testBit]
   have : ¬ n = 64 * j + k := by omega
   simp [hk, this]
theorem words_del (S : Nat) {n : Nat} (h : n < 1024) : (words S).setIfInBounds (n / 64) (.int .u64 ((wd S (n / 64) &&& (18446744073709551615 - bitN n) : Nat) : Int)) = words (sDel S n) := by
 unfold bitN
 have hp : n % 64 < 64 := Nat.mod_lt _ (by decide)
 refine words_set (by omega) ?_ ?_
 · refine wd_eq_of_testBit (and_lt_word (wd_lt _ _)) fun j hj => ?_
   rw [Nat.testBit_and, wd_testBit, sDel_testBit, show (18446744073709551615 : Nat) - 2 ^ (n % 64) = 2 ^ 64 - (2 ^ (n % 64) + 1) by have := pow_lt_word hp; omega, Nat.testBit_two_pow_sub_succ (pow_lt_word hp), Nat.testBit_two_pow]
   simp only [hj, decide_true, Bool.true_and]
   congr 2
   rw [decide_eq_decide]
   omega
 · intro j hj hne
   refine wd_eq_of_testBit (wd_lt _ _) fun k hk => ?_
   rw [wd_testBit, sDel_testBit]
   have : ¬ n = 64 * j + k := by omega
   simp [hk, this]
def mixW (T S k : Nat) : Array Value := Array.ofFn (n := 16) fun i => .int .u64 ((if i.val < k then wd T i.val else wd S i.val : Nat) : Int)
theorem mixW_zero (T S : Nat) : mixW T S 0 = words S := by simp [mixW, words]
theorem mixW_all (T S : Nat) : mixW T S 16 = words T := by
 unfold mixW words; congr 1; funext i; simp [i.isLt]
theorem mixW_size (T S k : Nat) : (mixW T S k).size = 16 := by simp [mixW]
theorem mixW_get (T S k : Nat) {i : Nat} (h : i < 16) (hk : k ≤ i) : (mixW T S k)[i]? = some (.int .u64 (wd S i : Int)) := by
 simp [mixW, h, Nat.not_lt.2 hk]
theorem mixW_set (T S k : Nat) (_h : k < 16) {x : Nat} (hx : x = wd T k) : (mixW T S k).setIfInBounds k (.int .u64 (x : Int)) = mixW T S (k + 1) := by
 apply Array.ext_getElem?
 intro j
 by_cases hj : j < 16
 · by_cases hji : k = j
   · subst hji
     rw [Array.getElem?_setIfInBounds_self_of_lt (by rw [mixW_size]; exact hj), hx]
     simp [mixW, hj]
   · rw [Array.getElem?_setIfInBounds_ne hji]
     have : (j < k) = (j < k + 1) := by apply propext; omega
     simp [mixW, hj, this]
 · rw [Array.getElem?_eq_none (by simp [mixW_size]; omega), Array.getElem?_eq_none (by rw [mixW_size]; omega)]
theorem wd_diff (S T i : Nat) : wd S i &&& (18446744073709551615 - wd T i) = wd (sDiff S T) i := by
 refine wd_eq_of_testBit (and_lt_word (wd_lt _ _)) fun j hj => ?_
 rw [Nat.testBit_and, sDiff_testBit, show (18446744073709551615 : Nat) - wd T i = 2 ^ 64 - (wd T i + 1) by have := wd_lt T i; omega, Nat.testBit_two_pow_sub_succ (wd_lt T i), wd_testBit, wd_testBit]
 simp [hj]
def IsSet (S : Nat) : Prop := ∀ n, S.testBit n = true → n < 1024
theorem IsSet.bit {S : Nat} (h : IsSet S) {n : Nat} (hn : S.testBit n = true) : n < 1024 := h n hn
theorem isSet_of {S : Nat} (h : ∀ n, S.testBit n = true → n < 1024) : IsSet S := h
theorem isSet_zero : IsSet 0 := fun n h => by simp at h
theorem isSet_del {S n : Nat} (h : IsSet S) : IsSet (sDel S n) := isSet_of fun m hm => by
 rw [sDel_testBit] at hm
 simp only [Bool.and_eq_true] at hm
 exact h.bit hm.1
theorem set_ext {S T : Nat} (hS : IsSet S) (hT : IsSet T) (h : ∀ i, i < 16 → wd S i = wd T i) : S = T := by
 apply Nat.eq_of_testBit_eq
 intro m
 by_cases hm : m < 1024
 · have h1 := wd_testBit S (m / 64) (m % 64)
   have h2 := wd_testBit T (m / 64) (m % 64)
   rw [h (m / 64) (by omega)] at h1
   rw [h1] at h2
   have hlt : m % 64 < 64 := Nat.mod_lt _ (by decide)
   simp only [hlt, decide_true, Bool.true_and] at h2
   rw [show 64 * (m / 64) + m % 64 = m by omega] at h2
   exact h2
 · cases h1 : S.testBit m with
   | true => exact absurd (hS.bit h1) hm
   | false => cases h2 : T.testBit m with
     | true => exact absurd (hT.bit h2) hm
     | false => rfl
def eqW (S T : Nat) : Bool := (List.range' 0 16).all fun i => (wd S i : Int) == (wd T i : Int)
theorem eqW_iff {S T : Nat} (hS : IsSet S) (hT : IsSet T) : eqW S T = decide (S = T) := by
 by_cases h : S = T
 · subst h
   simp [eqW]
 · rw [decide_eq_false h]
   cases hb : eqW S T with
   | false => rfl
   | true =>
     refine absurd (set_ext hS hT fun i hi => ?_) h
     unfold eqW at hb
     rw [List.all_eq_true] at hb
     have := hb i (by simp [List.mem_range'_1]; omega)
     simp only [beq_iff_eq] at this
     omega
def elems (S : Nat) : List Nat := (List.range 1024).filter fun n => S.testBit n
theorem mem_elems {S n : Nat} (hS : IsSet S) : n ∈ elems S ↔ S.testBit n = true := by
 unfold elems
 rw [List.mem_filter, List.mem_range]
 exact ⟨fun h => h.2, fun h => ⟨hS.bit h, h⟩⟩
theorem elems_lt {S n : Nat} (h : n ∈ elems S) : n < 1024 := by
 unfold elems at h
 rw [List.mem_filter, List.mem_range] at h
 exact h.1
theorem elems_bit {S n : Nat} (h : n ∈ elems S) : S.testBit n = true := by
 unfold elems at h
 rw [List.mem_filter] at h
 exact h.2
theorem elems_sorted (S : Nat) : (elems S).Pairwise (· < ·) := List.Pairwise.filter _ List.pairwise_lt_range
theorem elems_zero : elems 0 = [] := by
 unfold elems
 rw [List.filter_eq_nil_iff]
 simp
theorem elems_cons {S n : Nat} (hS : IsSet S) (hn : S.testBit n = true) (hl : ∀ m, m < n → S.testBit m = false) : elems S = n :: elems (sDel S n) := by
 have hd : elems (sDel S n) = (elems S).filter fun m => !decide (n = m) := by
   unfold elems
   rw [List.filter_filter]
   apply List.filter_congr
   intro m _
   rw [sDel_testBit]
   cases S.testBit m <;> cases decide (n = m) <;> rfl
 have hm := (mem_elems hS).2 hn
 cases he : elems S with
 | nil => rw [he] at hm; cases hm
 | cons a r =>
   have hs := elems_sorted S
   rw [he, List.pairwise_cons] at hs
   have ha : S.testBit a = true := elems_bit (by rw [he]; simp)
   have han : a = n := by
     rw [he] at hm
     rcases List.mem_cons.1 hm with h | h
     · exact h.symm
     · have h1 := hs.1 n h
       rw [hl a h1] at ha
       cases ha
   subst han
   rw [hd, he]
   simp only [List.filter_cons, decide_true, Bool.not_true, Bool.false_eq_true, if_false, List.cons.injEq, true_and]
   rw [List.filter_eq_self.2]
   intro m hmr
   have := hs.1 m hmr
   simp
   omega
theorem least_of_word {S i : Nat} (h0 : ∀ j, j < i → wd S j = 0) (hi : wd S i ≠ 0) : S.testBit (64 * i + Lib.ctz 64 (wd S i)) = true ∧ (∀ m, m < 64 * i + Lib.ctz 64 (wd S i) → S.testBit m = false) ∧ Lib.ctz 64 (wd S i) < 64 := by
 have hlt := wd_lt S i
 have hpos : 0 < wd S i := Nat.pos_of_ne_zero hi
 have hc : Lib.ctz 64 (wd S i) = Lib.ctzFrom 64 (wd S i) := by simp [Lib.ctz, hi]
 obtain ⟨m, hm, hk⟩ := Lib.ctzFrom_spec 64 (wd S i) hpos (by rw [show (2 : Nat) ^ 64 = 18446744073709551616 from rfl]; exact hlt)
 rw [hc]
 generalize Lib.ctzFrom 64 (wd S i) = k at *
 have low : ∀ j, j < 64 → (wd S i).testBit j = (decide (k ≤ j) && (2 * m + 1).testBit (j - k)) := fun j _ => by
   rw [hm, Nat.mul_comm, Nat.testBit_mul_two_pow]
 refine ⟨?_, fun q hq => ?_, hk⟩
 · have := low k hk
   rw [wd_testBit] at this
   simpa [hk] using this
 · by_cases hqi : q < 64 * i
   · have h1 := wd_testBit S (q / 64) (q % 64)
     rw [h0 (q / 64) (by omega)] at h1
     have : q % 64 < 64 := Nat.mod_lt _ (by decide)
     simp only [Nat.zero_testBit, this, decide_true, Bool.true_and] at h1
     rw [show 64 * (q / 64) + q % 64 = q by omega] at h1
     exact h1.symm
   · have hj : q - 64 * i < 64 := by omega
     have h2 := low (q - 64 * i) hj
     rw [wd_testBit] at h2
     have h3 : ¬ k ≤ q - 64 * i := by omega
     simp only [hj, decide_true, Bool.true_and, h3, decide_false, Bool.false_and] at h2
     rw [show 64 * i + (q - 64 * i) = q by omega] at h2
     exact h2
theorem zero_of_words {S : Nat} (hS : IsSet S) (h : ∀ j, j < 16 → wd S j = 0) : S = 0 :=
 set_ext hS isSet_zero fun i hi => by rw [h i hi]; simp [wd]
def sMin (S : Nat) : Option Nat := (elems S).head?
theorem sMin_some {S n : Nat} (hS : IsSet S) (hn : S.testBit n = true) (hl : ∀ m, m < n → S.testBit m = false) : sMin S = some n := by rw [sMin, elems_cons hS hn hl]; rfl
theorem sMin_zero : sMin 0 = none := by rw [sMin, elems_zero]; rfl
attribute [irreducible] elems sMin
def minN (S : Nat) : Int := ((sMin S).getD 0 : Nat)
def minB (S : Nat) : Bool := (sMin S).isSome
abbrev minV (S : Nat) : Value := .tuple #[.int .i64 (minN S), .bool (minB S)]
theorem minV_some {S n : Nat} (h : sMin S = some n) : minV S = .tuple #[.int .i64 (n : Int), .bool true] := by simp only [minV, minN, minB, h]; rfl
theorem minV_zero : minV 0 = .tuple #[.int .i64 0, .bool false] := by simp only [minV, minN, minB, sMin_zero]; rfl
theorem minN_cons {S n : Nat} {r : List Nat} (h : elems S = n :: r) : minN S = n ∧ minB S = true := by
 have : sMin S = some n := by unfold sMin; rw [h]; rfl
 simp [minN, minB, this]
theorem minB_nil {S : Nat} (h : elems S = []) : minB S = false := by
 have : sMin S = none := by unfold sMin; rw [h]; rfl
 simp [minB, this]
theorem elems_tail {S n : Nat} {r : List Nat} (hS : IsSet S) (h : elems S = n :: r) : elems (sDel S n) = r := by
 have hs := elems_sorted S
 rw [h, List.pairwise_cons] at hs
 have h1 := elems_cons (n := n) hS (elems_bit (by rw [h]; simp)) fun m hm => by
   cases hb : S.testBit m with
   | false => rfl
   | true =>
     have hmem := (mem_elems hS).2 hb
     rw [h] at hmem
     rcases List.mem_cons.1 hmem with e | e
     · omega
     · have := hs.1 m e
       omega
 rw [h] at h1
 exact (List.cons.inj h1).2.symm
def elemsI (S : Nat) : List Int := (elems S).map fun i : Nat => (i : Int)
theorem elemsI_length (S : Nat) : (elemsI S).length ≤ 1024 := by
 unfold elemsI elems
 rw [List.length_map]
 exact Nat.le_trans (List.length_filter_le _ _) (by simp)
abbrev Bg := Int × Nat
def bagA (b : Bg) : Array Value := #[.int .i64 b.1] ++ words b.2
theorem bagA_size (b : Bg) : (bagA b).size = 17 := by simp [bagA, words_size]
theorem bagA_zero (b : Bg) : (bagA b)[0]? = some (.int .i64 b.1) := by
 unfold bagA
 rw [Array.getElem?_append_left (by simp)]
 rfl
theorem bagA_get0 (b : Bg) (h : 0 < (bagA b).size) : (bagA b)[0] = .int .i64 b.1 := by
 have := bagA_zero b
 rw [Array.getElem?_eq_getElem h] at this
 exact Option.some.inj this
theorem bagA_succ (b : Bg) (j : Nat) : (bagA b)[j + 1]? = (words b.2)[j]? := by
 unfold bagA
 rw [Array.getElem?_append_right (by simp)]
 simp
theorem bagA_extract (b : Bg) : (bagA b).extract 1 17 = words b.2 := by
 apply Array.ext_getElem?
 intro j
 by_cases hj : j < 16
 · rw [← bagA_succ, Array.getElem?_extract, bagA_size]
   simp only [Nat.min_self]
   rw [if_pos (by omega), Nat.add_comm]
 · rw [Array.getElem?_eq_none (by simp [bagA_size]; omega), Array.getElem?_eq_none (by rw [words_size]; omega)]
theorem words_one {S : Nat} {v : Value} (h : v ∈ words S) : v.oneCell' = true := by
 obtain ⟨i, rfl⟩ := Array.mem_ofFn.1 h
 rfl
theorem bagA_one (b : Bg) : ∀ v ∈ (bagA b).toList, v.oneCell' = true := by
 intro v hv
 unfold bagA at hv
 rw [Array.toList_append, List.mem_append] at hv
 rcases hv with h | h
 · simp at h; subst h; rfl
 · exact words_one (by simpa using h)
def idx {α : Type} (p : α → Bool) (l : List α) : Int := match l.findIdx? p with
 | some i => i
 | none => -1
theorem idx_none {α : Type} {p : α → Bool} {l : List α} (h : ∀ (i : Nat) x, l[i]? = some x → p x = false) : idx p l = -1 := by
 unfold idx
 have : l.findIdx? p = none := by
   rw [List.findIdx?_eq_none_iff]
   intro x hx
   obtain ⟨i, hi⟩ := List.getElem?_of_mem hx
   exact h i x hi
 rw [this]
theorem idx_some {α : Type} {p : α → Bool} {l : List α} {k : Nat} {x : α} (hx : l[k]? = some x) (hp : p x = true) (h : ∀ (i : Nat) y, i < k → l[i]? = some y → p y = false) : idx p l = k := by
 unfold idx
 have : l.findIdx? p = some k := by
   rw [List.findIdx?_eq_some_iff_getElem]
   obtain ⟨hk, rfl⟩ := List.getElem?_eq_some_iff.1 hx
   refine ⟨hk, hp, fun j hj => ?_⟩
   have := h j _ hj (List.getElem?_eq_getElem (by omega))
   simpa using this
 rw [this]
inductive Tr | node (b : Nat) (ks : List Tr)
def Tr.lab : Tr → Nat | .node b _ => b
def Tr.ks : Tr → List Tr | .node _ ks => ks
mutual
def Tr.sz : Tr → Nat | .node _ ks => 1 + Tr.szs ks
def Tr.szs : List Tr → Nat
 | [] => 0
 | t :: ts => t.sz + Tr.szs ts
end
mutual
def Tr.ds : Tr → Int → List Int → List Int | .node b ks, d, l => Tr.dss ks (d + 1) (l.set b d)
def Tr.dss : List Tr → Int → List Int → List Int
 | [], _, l => l
 | t :: ts, d, l => Tr.dss ts d (t.ds d l)
end
inductive Fits (n : Nat) (kids : Nat → List Int) : Tr → Prop
 | mk (b : Nat) (ks : List Tr) (hb : b < n) (hk : kids b = ks.map fun t => (t.lab : Int)) (h : ∀ t ∈ ks, Fits n kids t) : Fits n kids (.node b ks)
theorem Fits.lab {n : Nat} {kids : Nat → List Int} {t : Tr} (h : Fits n kids t) : t.lab < n := by cases h; assumption
def Tr.hS (acc : Option Tr) (k : Tr) : Option Tr :=
 match acc with
 | none => some k
 | some h => if h.sz < k.sz then some k else some h
def t1 (b : Nat) : Nat := (b / 2 &&& 85) + (b &&& 85)
def t2 (b : Nat) : Nat := (b / 4 &&& 51) + (b &&& 51)
def t3 (b : Nat) : Nat := b / 16 + b % 16
end Go.Pal
