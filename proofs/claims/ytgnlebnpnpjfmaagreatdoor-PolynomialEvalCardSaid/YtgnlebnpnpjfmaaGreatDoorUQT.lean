/- Bounds of values. -/
import Derived.Test.YtgnlebnpnpjfmaaGreatDoorUQI
import Derived.Test.YtgnlebnpnpjfmaaGreatDoorUOh
set_option linter.all false
namespace Go.Pal
theorem lin_bound {g : Ex → Nat} {M : Nat} : ∀ {p : Pol}, (∀ x ∈ p, g x.1 ≤ M) → lin g p ≤ M * wt p
 | [], _ => by simp [lin]
 | x :: r, h => by
   have ih := lin_bound (p := r) fun y hy => h y (by simp [hy])
   unfold wt at ih ⊢
   rw [lin, lin, Nat.one_mul, Nat.mul_add]
   exact Nat.add_le_add (Nat.mul_le_mul_right _ (h x (by simp))) ih
theorem pow16 {x a m : Nat} (hx : x ≤ 65536) (ha : a ≤ m) : x ^ a ≤ 2 ^ (16 * m) := by
 rw [Nat.pow_mul]
 exact Nat.le_trans (Nat.pow_le_pow_left hx a) (Nat.pow_le_pow_right (by decide) ha)
end Go.Pal
namespace Go.Proofs.YtgnlebnpnpjfmaaGreatDoor
open Go Go.RowKit Go.Pal
theorem fitP {n : Nat} (k : Nat) (h : n ≤ 2 ^ k) (hk : k < 32000) : Fit n := fit_of (k := k + 1) (Nat.lt_of_le_of_lt h (Nat.pow_lt_pow_right (by decide) (Nat.lt_succ_self k))) (by unfold fitK; omega)
theorem mul_pow2 {a b i j : Nat} (ha : a ≤ 2 ^ i) (hb : b ≤ 2 ^ j) : a * b ≤ 2 ^ (i + j) := by
 rw [Nat.pow_add]
 exact Nat.mul_le_mul ha hb
theorem lin_bound2 {g : Ex → Nat} {p : Pol} {k j : Nat} (h : ∀ x ∈ p, g x.1 ≤ 2 ^ k) (hw : wt p ≤ 2 ^ j) : lin g p ≤ 2 ^ (k + j) := Nat.le_trans (lin_bound h) (mul_pow2 (Nat.le_refl _) hw)
theorem eval_bound {p : Pol} {x y m : Nat} (hu : Upto m p) (hw : wt p ≤ 2 ^ 80) (hx : x < 65536) (hy : y < 65536) : evalP p x y ≤ 2 ^ ((16 * m + 16 * m) + 80) := by
 unfold evalP
 exact lin_bound2 (fun t ht => mul_pow2 (pow16 (Nat.le_of_lt hx) (hu t ht).1) (pow16 (Nat.le_of_lt hy) (hu t ht).2)) hw
theorem exM {a m : Nat} (h : a ≤ m) : 2 * a + 1 ≤ 2 * m + 1 := by omega
theorem evB {p : Pol} {x y m : Nat} (hm : m ≤ 12) (hu : Upto m p) (hw : wt p ≤ 2 ^ 80) (hx : x < 65536) (hy : y < 65536) : EvB p x y where
 val := fitP ((16 * m + 16 * m) + 80) (eval_bound hu hw hx hy) (by clear hw; omega)
 num := fitP 80 hw (by decide)
 px t ht := fitP (16 * (2 * m + 1)) (pow16 hx (exM (hu t ht).1)) (by clear hw; omega)
 py t ht := fitP (16 * (2 * m + 1)) (pow16 hy (exM (hu t ht).2)) (by clear hw; omega)
 nx t ht := fitP (80 + 16 * m) (mul_pow2 (Nat.le_trans (wt_mem ht) hw) (pow16 (Nat.le_of_lt hx) (hu t ht).1)) (by clear hw; omega)
theorem valB {p : Pol} {x y m : Nat} (hm : m ≤ 12) (hu : Upto m p) (hw : wt p ≤ 2 ^ 80) (hx : x < 65536) (hy : y < 65536) : ValB p x y where
 val := fitP ((16 * m + 16 * m) + 80) (eval_bound hu hw hx hy) (by clear hw; omega)
 fx := fitP 16 (Nat.le_of_lt hx) (by decide)
 fy := fitP 16 (Nat.le_of_lt hy) (by decide)
 px t ht := fitP (16 * m) (pow16 hx (hu t ht).1) (by clear hw; omega)
 py t ht := fitP (16 * m) (pow16 hy (hu t ht).2) (by clear hw; omega)
 ml t ht := fitP (16 * m + 16 * m) (mul_pow2 (pow16 (Nat.le_of_lt hx) (hu t ht).1) (pow16 (Nat.le_of_lt hy) (hu t ht).2)) (by clear hw; omega)
 num := fitP 80 hw (by decide)
end Go.Proofs.YtgnlebnpnpjfmaaGreatDoor
