/- Plain: a text split at a byte; a word and numbers; lines read one by one. Plain: the .. -/
import Derived.Test.YtglnhnjmelilmaaGreatDoorRWw
import Derived.Lib.SplitLaws
import Derived.Lib.IndexMore
set_option linter.all false
namespace Go.Pal
open Go Go.RowKit
def partsA (c : UInt8) : List UInt8 → List UInt8 → List (List UInt8)
 | a, [] => [a]
 | a, x :: r => if x = c then a :: partsA c [] r else partsA c (a ++ [x]) r
theorem partsA_nil (c : UInt8) (a : List UInt8) : partsA c a [] = [a] := rfl
theorem partsA_cons (c : UInt8) (a : List UInt8) (x : UInt8) (r : List UInt8) : partsA c a (x :: r) = if x = c then a :: partsA c [] r else partsA c (a ++ [x]) r := rfl
theorem partsA_ne (c : UInt8) : ∀ (s a : List UInt8), partsA c a s ≠ []
 | [], a => by rw [partsA_nil]; simp
 | x :: r, a => by
   rw [partsA_cons]
   split
   · simp
   · exact partsA_ne c r _
theorem partsA_none {c : UInt8} : ∀ {s : List UInt8} (a : List UInt8), (∀ x ∈ s, x ≠ c) → partsA c a s = [a ++ s]
 | [], a, _ => by rw [partsA_nil, List.append_nil]
 | x :: r, a, h => by
   rw [partsA_cons, if_neg (h x (by simp)), partsA_none (a ++ [x]) fun y hy => h y (by simp [hy])]
   simp
theorem partsA_hit {c : UInt8} : ∀ {p : List UInt8} (a r : List UInt8), (∀ x ∈ p, x ≠ c) → partsA c a (p ++ c :: r) = (a ++ p) :: partsA c [] r
 | [], a, r, _ => by rw [List.nil_append, partsA_cons, if_pos rfl, List.append_nil]
 | x :: q, a, r, h => by
   rw [List.cons_append, partsA_cons, if_neg (h x (by simp)), partsA_hit (a ++ [x]) r fun y hy => h y (by simp [hy])]
   simp
def glue (c : UInt8) : List (List UInt8) → List UInt8
 | [] => []
 | p :: r => p ++ r.flatMap fun q => c :: q
theorem glue_cons (c : UInt8) (p : List UInt8) (r : List (List UInt8)) : glue c (p :: r) = p ++ r.flatMap fun q => c :: q := rfl
theorem parts_glue {c : UInt8} : ∀ (p : List UInt8) (r : List (List UInt8)), (∀ x ∈ p, x ≠ c) → (∀ q ∈ r, ∀ x ∈ q, x ≠ c) → partsA c [] (glue c (p :: r)) = p :: r
 | p, [], hp, _ => by rw [glue_cons, List.flatMap_nil, List.append_nil, partsA_none [] hp, List.nil_append]
 | p, q :: r, hp, hr => by
   have ih := parts_glue q r (hr q (by simp)) fun t ht => hr t (by simp [ht])
   rw [glue_cons] at ih ⊢
   rw [List.flatMap_cons, List.cons_append, partsA_hit [] _ hp, ih, List.nil_append]
theorem partsA_len {c : UInt8} : ∀ {s a : List UInt8}, ∀ p ∈ partsA c a s, p.length ≤ a.length + s.length
 | [], a, p, hp => by rw [partsA_nil, List.mem_singleton] at hp; subst hp; simp
 | y :: r, a, p, hp => by
   rw [partsA_cons] at hp
   split at hp
   · rcases List.mem_cons.1 hp with rfl | hp
     · simp
     · have := partsA_len (s := r) (a := []) p hp
       simp only [List.length_nil, List.length_cons] at this ⊢
       omega
   · have := partsA_len (s := r) (a := a ++ [y]) p hp
     simp only [List.length_append, List.length_cons, List.length_nil] at this ⊢
     omega
theorem partsA_count (c : UInt8) : ∀ (s a : List UInt8), (partsA c a s).length ≤ s.length + 1
 | [], a => by rw [partsA_nil]; simp
 | y :: r, a => by
   rw [partsA_cons]
   split
   · have := partsA_count c r []
     simp only [List.length_cons] at this ⊢
     omega
   · have := partsA_count c r (a ++ [y])
     simp only [List.length_cons] at this ⊢
     omega
noncomputable def numsA : List Int → List (List UInt8) → Option (List Int)
 | out, [] => some out
 | out, p :: r => match numb p with
   | none => none
   | some n => if out.length = 4 then none else numsA (out ++ [n]) r
theorem numsA_nil (out : List Int) : numsA out [] = some out := rfl
theorem numsA_none {p : List UInt8} (h : numb p = none) (out : List Int) (r : List (List UInt8)) : numsA out (p :: r) = none := by
 show (match numb p with | none => _ | some n => _) = _
 rw [h]
theorem numsA_some {p : List UInt8} {n : Int} (h : numb p = some n) (out : List Int) (r : List (List UInt8)) : numsA out (p :: r) = if out.length = 4 then none else numsA (out ++ [n]) r := by
 show (match numb p with | none => _ | some n => _) = _
 rw [h]
noncomputable def numsU : List Int → List (List UInt8) → Option (List Int)
 | out, [] => some out
 | out, p :: r => match numb p with
   | none => none
   | some n => numsU (out ++ [n]) r
theorem numsU_nil (out : List Int) : numsU out [] = some out := rfl
theorem numsU_none {p : List UInt8} (h : numb p = none) (out : List Int) (r : List (List UInt8)) : numsU out (p :: r) = none := by
 show (match numb p with | none => _ | some n => _) = _
 rw [h]
theorem numsU_some {p : List UInt8} {n : Int} (h : numb p = some n) (out : List Int) (r : List (List UInt8)) : numsU out (p :: r) = numsU (out ++ [n]) r := by
 show (match numb p with | none => _ | some n => _) = _
 rw [h]
theorem numsA_eq : ∀ (r : List (List UInt8)) (out : List Int), out.length + r.length ≤ 4 → numsA out r = numsU out r
 | [], _, _ => rfl
 | p :: r, out, h => by
   rw [List.length_cons] at h
   cases hp : numb p with
   | none => rw [numsA_none hp, numsU_none hp]
   | some n => rw [numsA_some hp, numsU_some hp, if_neg (by omega), numsA_eq r _ (by simp; omega)]
theorem numsU_itoa : ∀ (m out : List Int), (∀ n ∈ m, -2147483648 ≤ n ∧ n ≤ 2147483648) → numsU out (m.map Lib.itoa) = some (out ++ m)
 | [], out, _ => by rw [List.map_nil, numsU_nil, List.append_nil]
 | n :: m, out, h => by
   have h1 := h n (by simp)
   rw [List.map_cons, numsU_some (numb_some ⟨rfl, h1.1, h1.2⟩), numsU_itoa m _ fun k hk => h k (by simp [hk]), List.append_assoc]
   rfl
noncomputable def wordsT (s : List UInt8) : Option (List UInt8 × List Int) :=
 match numsA [] (partsA 32 [] s).tail with
 | none => none
 | some l => some ((partsA 32 [] s).head?.getD [], l)
theorem wordsT_none {s : List UInt8} (h : numsA [] (partsA 32 [] s).tail = none) : wordsT s = none := by unfold wordsT; rw [h]
theorem wordsT_some {s : List UInt8} {l : List Int} (h : numsA [] (partsA 32 [] s).tail = some l) : wordsT s = some ((partsA 32 [] s).head?.getD [], l) := by unfold wordsT; rw [h]
theorem lineB_glue (w : List UInt8) (ns : List Int) : lineB w ns = glue 32 (w :: ns.map Lib.itoa) := by
 unfold lineB
 rw [glue_cons, List.flatMap_map]
 rfl
theorem itoa_no (b : UInt8) (hb : ¬ isDig b) (hm : b ≠ 45) (n : Int) (h : InI n) : ∀ x ∈ Lib.itoa n, x ≠ b := by
 intro x hx e
 subst e
 by_cases hn : n < 0
 · obtain ⟨u, rfl⟩ : ∃ u : Nat, n = -(u : Int) := ⟨n.natAbs, by omega⟩
   rw [Lib.itoa_neg u (by omega), List.mem_cons] at hx
   rcases hx with hx | hx
   · exact hm hx
   · exact hb (dec_all u _ hx)
 · obtain ⟨u, rfl⟩ : ∃ u : Nat, n = (u : Int) := ⟨n.toNat, by omega⟩
   rw [Lib.itoa_nonneg u] at hx
   exact hb (dec_all u _ hx)
theorem words_lineB {w : List UInt8} {l : List Int} (hw : ∀ x ∈ w, x ≠ 32) (hl : l.length ≤ 4) (hn : ∀ n ∈ l, -2147483648 ≤ n ∧ n ≤ 2147483648) : wordsT (lineB w l) = some (w, l) := by
 have hP : partsA 32 [] (lineB w l) = w :: l.map Lib.itoa := by
   rw [lineB_glue]
   refine parts_glue w _ hw fun q hq => ?_
   obtain ⟨n, h1, rfl⟩ := List.mem_map.1 hq
   have := hn n h1
   exact itoa_no 32 (by decide) (by decide) n ⟨by omega, by omega⟩
 have := wordsT_some (s := lineB w l) (l := l) (by rw [hP, List.tail_cons, numsA_eq _ [] (by simpa using hl), numsU_itoa l [] hn, List.nil_append])
 rw [this, hP]
 rfl
theorem lineB_no (b : UInt8) (hb : ¬ isDig b) (hm : b ≠ 45) (h32 : b ≠ 32) {w : List UInt8} {l : List Int} (hw : ∀ x ∈ w, x ≠ b) (hn : ∀ n ∈ l, InI n) : ∀ x ∈ lineB w l, x ≠ b := by
 intro x hx
 unfold lineB at hx
 rcases List.mem_append.1 hx with hx | hx
 · exact hw x hx
 · obtain ⟨n, h1, h2⟩ := List.mem_flatMap.1 hx
   unfold spNum at h2
   rcases List.mem_cons.1 h2 with rfl | h2
   · exact h32.symm
   · exact itoa_no b hb hm n (hn n h1) x h2
def linesP {σ : Type} (f : σ → List UInt8 → σ × Nat) : σ → Nat → List (List UInt8) → σ × Nat × Nat
 | x, _, [] => (x, 0, 0)
 | x, n, [p] => if p = [] then (x, 0, 0) else (x, n, 4)
 | x, n, p :: q :: ps => if (f x p).2 = 0 then linesP f (f x p).1 (n + 1) (q :: ps) else ((f x p).1, n, (f x p).2)
theorem linesP_last {σ : Type} (f : σ → List UInt8 → σ × Nat) (x : σ) (n : Nat) (p : List UInt8) : linesP f x n [p] = if p = [] then (x, 0, 0) else (x, n, 4) := rfl
theorem linesP_cons {σ : Type} (f : σ → List UInt8 → σ × Nat) (x : σ) (n : Nat) (p : List UInt8) {ps : List (List UInt8)} (h : ps ≠ []) : linesP f x n (p :: ps) = if (f x p).2 = 0 then linesP f (f x p).1 (n + 1) ps else ((f x p).1, n, (f x p).2) := by
 cases ps with
 | nil => exact absurd rfl h
 | cons q ps => rfl
def foldF {σ : Type} (f : σ → List UInt8 → σ × Nat) : σ → List (List UInt8) → σ
 | x, [] => x
 | x, p :: r => foldF f (f x p).1 r
theorem linesP_run {σ : Type} (f : σ → List UInt8 → σ × Nat) : ∀ (L : List (List UInt8)) (x : σ) (n : Nat), (∀ k p, L[k]? = some p → (f (foldF f x (L.take k)) p).2 = 0) → linesP f x n (L ++ [[]]) = (foldF f x L, 0, 0)
 | [], x, n, _ => rfl
 | p :: r, x, n, h => by
   have h0 : (f x p).2 = 0 := h 0 p rfl
   rw [List.cons_append, linesP_cons f x n p (by simp), if_pos h0]
   exact linesP_run f r _ _ fun k q hq => h (k + 1) q hq
theorem parts_lines : ∀ (L : List (List UInt8)), (∀ p ∈ L, ∀ x ∈ p, x ≠ 10) → partsA 10 [] (L.flatMap fun p => p ++ [10]) = L ++ [[]]
 | [], _ => rfl
 | p :: r, h => by
   have e : (List.flatMap (fun p => p ++ [10]) (p :: r)) = p ++ 10 :: r.flatMap fun p => p ++ [10] := by simp
   rw [e, partsA_hit [] _ (h p (by simp)), parts_lines r fun q hq => h q (by simp [hq])]
   rfl
theorem index1_no {c : UInt8} : ∀ {s : List UInt8}, (∀ x ∈ s, x ≠ c) → Lib.index s [c] = -1
 | [], _ => rfl
 | b :: l, h => by
   have hb : ([c] : List UInt8).isPrefixOf (b :: l) = false := by
     have := (h b (by simp)).symm
     simp [List.isPrefixOf, this]
   have ih := index1_no (s := l) fun x hx => h x (by simp [hx])
   rw [Lib.index, hb, ih]
   rfl
theorem index1_at {c : UInt8} : ∀ {p : List UInt8} (r : List UInt8), (∀ x ∈ p, x ≠ c) → Lib.index (p ++ c :: r) [c] = (p.length : Int)
 | [], r, _ => by
   rw [List.nil_append, Lib.index, if_pos (by simp [List.isPrefixOf])]
   rfl
 | b :: l, r, h => by
   have hb : ([c] : List UInt8).isPrefixOf (b :: (l ++ c :: r)) = false := by
     have := (h b (by simp)).symm
     simp [List.isPrefixOf, this]
   have ih := index1_at (p := l) r fun x hx => h x (by simp [hx])
   have hne : ¬ ((l.length : Int) == -1) = true := by
     intro e
     have := beq_iff_eq.1 e
     omega
   rw [List.cons_append, Lib.index, hb, ih, if_neg (by simp), if_neg hne, List.length_cons]
   omega
theorem first_of (c : UInt8) : ∀ s : List UInt8, (∀ x ∈ s, x ≠ c) ∨ ∃ p r, s = p ++ c :: r ∧ ∀ x ∈ p, x ≠ c
 | [] => .inl (by simp)
 | b :: l => by
   by_cases hb : b = c
   · exact .inr ⟨[], l, by rw [hb]; rfl, by simp⟩
   · rcases first_of c l with h | ⟨p, r, h1, h2⟩
     · refine .inl fun x hx => ?_
       rcases List.mem_cons.1 hx with rfl | hx
       · exact hb
       · exact h x hx
     · refine .inr ⟨b :: p, r, by rw [h1]; rfl, fun x hx => ?_⟩
       rcases List.mem_cons.1 hx with rfl | hx
       · exact hb
       · exact h2 x hx
theorem cut1_no {c : UInt8} {s : List UInt8} (h : ∀ x ∈ s, x ≠ c) : Lib.cut s [c] = (s, [], false) := by
 unfold Lib.cut
 rw [index1_no h, if_neg (by decide)]
theorem cut1_at {c : UInt8} {p r : List UInt8} (h : ∀ x ∈ p, x ≠ c) : Lib.cut (p ++ c :: r) [c] = (p, r, true) := by
 unfold Lib.cut
 rw [index1_at r h, if_pos (by omega)]
 simp
theorem bytes_list (s : List UInt8) : (⟨s.toArray⟩ : ByteArray).data.toList = s := by simp
theorem split1 (c : UInt8) : ∀ (n : Nat) (s : List UInt8), s.length ≤ n → Lib.splitB ⟨#[c]⟩ 0 (Lib.countB ⟨s.toArray⟩ ⟨#[c]⟩) ⟨s.toArray⟩ = (partsA c [] s).map fun p => (⟨p.toArray⟩ : ByteArray)
 | n, s, hn => by
   have hsz : (⟨s.toArray⟩ : ByteArray).size = s.length := by simp [ByteArray.size]
   rcases first_of c s with h | ⟨p, r, hs, hp⟩
   · have hix : Lib.indexB ⟨s.toArray⟩ ⟨#[c]⟩ = -1 := by
       show Lib.index _ _ = _
       rw [bytes_list]
       exact index1_no h
     rw [Lib.splitB_miss _ _ _ _ hix, partsA_none [] h]
     rfl
   · have hix : Lib.indexB ⟨s.toArray⟩ ⟨#[c]⟩ = (p.length : Int) := by
       show Lib.index _ _ = _
       rw [bytes_list, hs]
       exact index1_at r hp
     have hc := Lib.countB_hit ⟨s.toArray⟩ ⟨#[c]⟩ p.length (Nat.le_refl 1) hix
     have e1 : (⟨s.toArray⟩ : ByteArray).extract (p.length + (⟨#[c]⟩ : ByteArray).size) (⟨s.toArray⟩ : ByteArray).size = ⟨r.toArray⟩ := by
       rw [hsz, show (⟨#[c]⟩ : ByteArray).size = 1 from rfl]
       apply ByteArray.ext
       rw [ByteArray.data_extract, hs]
       simp
       exact List.take_of_length_le (by omega)
     have e2 : (⟨s.toArray⟩ : ByteArray).extract 0 (p.length + 0) = ⟨p.toArray⟩ := by
       apply ByteArray.ext
       rw [ByteArray.data_extract, hs]
       simp
     rw [e1] at hc
     rw [hc, Nat.add_comm 1, Lib.splitB_hit _ _ _ _ _ hix, e1, e2]
     have hl := congrArg List.length hs
     rw [List.length_append, List.length_cons] at hl
     match n, hn with
     | 0, hn => omega
     | n + 1, hn =>
       rw [split1 c n r (by omega), hs, partsA_hit [] r hp, List.nil_append]
       rfl
theorem count1 (c : UInt8) (s : List UInt8) : Lib.countB ⟨s.toArray⟩ ⟨#[c]⟩ + 1 = (partsA c [] s).length := by
 have := Lib.splitB_all ⟨#[c]⟩ (Nat.le_refl 1) 0 _ ⟨s.toArray⟩ rfl
 rw [split1 c s.length s (Nat.le_refl _), List.length_map] at this
 exact this.symm
end Go.Pal
