/- Plain: how great the numbers of a polynomial are that a text tells. No program. -/
import Derived.Test.YtgnlebnpnpjfmaaGreatDoorUPl
set_option linter.all false
namespace Go.Pal
theorem dec_lt (u : Nat) : u < 10 ^ (Lib.decDigits u).length := by
 have h := dval_lt (Lib.decDigits u) (dec_all u)
 rw [dval_dec] at h
 exact h
theorem termT_ge (x : Ex × Nat) : (Lib.decDigits x.2).length ≤ (termT x).length := by
 unfold termT
 simp only [List.length_append]
 omega
theorem pow_sum (a b : Nat) : 10 ^ a + 10 ^ b ≤ 10 ^ (a + 3 + b) := by
 have h1 : 0 < 10 ^ a := Nat.pow_pos (by decide)
 have h2 : 0 < 10 ^ b := Nat.pow_pos (by decide)
 rw [Nat.pow_add, Nat.pow_add]
 have h3 : 10 ^ a ≤ 10 ^ a * 10 ^ b := Nat.le_mul_of_pos_right _ h2
 have h4 : 10 ^ b ≤ 10 ^ a * 10 ^ b := Nat.le_mul_of_pos_left _ h1
 have h5 : 10 ^ a * 10 ^ 3 * 10 ^ b = 1000 * (10 ^ a * 10 ^ b) := by
   rw [Nat.mul_right_comm, Nat.mul_comm]
 rw [h5]
 omega
theorem text_wt : ∀ {p : Pol}, p ≠ [] → wt p < 10 ^ (textU p).length ∧ p.length ≤ (textU p).length
 | [], h => absurd rfl h
 | [x], _ => by
   have h1 := Nat.lt_of_lt_of_le (dec_lt x.2) (Nat.pow_le_pow_right (by decide) (termT_ge x))
   have h2 : textU [x] = termT x := by
     show Lib.join [termT x] _ = _
     rw [join3_one]
   have h3 : wt [x] = x.2 := by simp [wt, lin]
   have h4 : 0 < (Lib.decDigits x.2).length := List.length_pos_iff.2 (dec_ne x.2)
   have h5 := termT_ge x
   rw [h2, h3]
   exact ⟨h1, by simp only [List.length_singleton]; omega⟩
 | x :: y :: r, _ => by
   have ih := text_wt (p := y :: r) (by simp)
   have h1 := Nat.lt_of_lt_of_le (dec_lt x.2) (Nat.pow_le_pow_right (by decide) (termT_ge x))
   have h2 : textU (x :: y :: r) = termT x ++ [32, 43, 32] ++ textU (y :: r) := by
     show Lib.join (termT x :: (y :: r).map termT) _ = _
     rw [join3_cons (by simp)]
     rfl
   have h3 : wt (x :: y :: r) = x.2 + wt (y :: r) := by
     unfold wt
     rw [lin, Nat.one_mul]
   have h4 := pow_sum (termT x).length (textU (y :: r)).length
   rw [h2, h3]
   simp only [List.length_append, List.length_cons, List.length_nil] at *
   exact ⟨Nat.lt_of_lt_of_le (Nat.add_lt_add h1 ih.1) h4, by omega⟩
theorem pow10_16 (n : Nat) : 10 ^ n ≤ 2 ^ (4 * n) := by
 rw [Nat.pow_mul]
 exact Nat.pow_le_pow_left (by decide) n
end Go.Pal
