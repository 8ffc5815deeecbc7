/- Plain: the text of a set and of a list of sets; sets read from texts; they are inverse to .. -/
import Derived.Test.YtglnhnjmelilmaaGreatDoorSZa
import Derived.Test.YtglnhnjmelilmaaGreatDoorSWf
import Derived.Test.YtglnhnjmelilmaaGreatDoorSIa
set_option linter.all false
namespace Go.Pal
open Go Go.RowKit
theorem digs_decS (u : Nat) (c : UInt8) (r : List UInt8) (hc : ¬ isDig c) : digs (Lib.decDigits u ++ c :: r) = Lib.decDigits u := by
 unfold digs
 rw [List.takeWhile_append_of_pos fun a ha => by simpa using dec_all u a ha, List.takeWhile_cons, if_neg (by simpa using hc), List.append_nil]
theorem join_geS (f : Nat → List UInt8) : ∀ (m : List Nat) (a : Nat), m.length ≤ (Lib.join ((a :: m).map f) [32]).length
 | [], a => by simp
 | b :: m, a => by
   have ih := join_geS f m b
   rw [List.map_cons, List.map_cons, join_two, ← List.map_cons]
   simp at ih ⊢
   omega
def setT (S : Nat) : List UInt8 := [123] ++ Lib.join ((elems S).map Lib.decDigits) [32] ++ [125]
def badDig (d : List UInt8) : Bool := d.isEmpty || (decide (1 < d.length) && decide (d.head? = some 48))
def snum (s : List UInt8) : Nat × Nat := if badDig (digs s) = true then (0, 3) else if 1023 < dval 0 (digs s) then (0, 2) else (dval 0 (digs s), 0)
def lastI (l : List Nat) : Int := match l.getLast? with | none => -1 | some k => (k : Int)
theorem lastI_nil : lastI [] = -1 := rfl
theorem lastI_snoc (l : List Nat) (k : Nat) : lastI (l ++ [k]) = (k : Int) := by simp [lastI]
def readS : Nat → List UInt8 → List Nat → List Nat × Nat
 | 0, _, _ => ([], 3)
 | n + 1, s, l =>
   if (snum s).2 ≠ 0 then ([], (snum s).2)
   else if ((snum s).1 : Int) ≤ lastI l then ([], 3)
   else if s.drop (digs s).length = [125] then (l ++ [(snum s).1], 0)
   else if (cutB 32 (s.drop (digs s).length)).2 = true then readS n (cutB 32 (s.drop (digs s).length)).1 (l ++ [(snum s).1])
   else ([], 3)
theorem readS_succ (n : Nat) (s : List UInt8) (l : List Nat) : readS (n + 1) s l = if (snum s).2 ≠ 0 then ([], (snum s).2) else if ((snum s).1 : Int) ≤ lastI l then ([], 3) else if s.drop (digs s).length = [125] then (l ++ [(snum s).1], 0) else if (cutB 32 (s.drop (digs s).length)).2 = true then readS n (cutB 32 (s.drop (digs s).length)).1 (l ++ [(snum s).1]) else ([], 3) := rfl
def readSet (s : List UInt8) : List Nat × Nat := if s = [123, 125] then ([], 0) else if (cutB 123 s).2 = true then readS s.length (cutB 123 s).1 [] else ([], 3)
theorem badDig_dec {u : Nat} (hu : u ≤ 2147483648) : badDig (Lib.decDigits u) = false := by
 obtain ⟨h1, -, h3, -, -⟩ := digs_of_dec hu false (by simp)
 cases h : Lib.decDigits u with
 | nil => exact absurd h h1
 | cons c r =>
   unfold badDig
   by_cases hc : c = 48
   · have := (h3 c r h (by rw [hc]; rfl)).1
     rw [this]
     simp
   · simp [hc]
theorem badDig_good {d : List UInt8} (hd : ∀ c ∈ d, isDig c) (h : badDig d = false) : Lib.decDigits (dval 0 d) = d := by
 unfold badDig at h
 rw [Bool.or_eq_false_iff, Bool.and_eq_false_iff] at h
 refine dec_of d hd (fun e => by rw [e] at h; simp at h) fun c r e hc => ?_
 subst e
 rcases h.2 with h2 | h2
 · simpa using h2
 · exact absurd (by rw [List.head?_cons]; congr 1; exact UInt8.toNat_inj.1 hc) (of_decide_eq_false h2)
theorem snum_dec {u : Nat} (hu : u ≤ 1023) (c : UInt8) (r : List UInt8) (hc : ¬ isDig c) : snum (Lib.decDigits u ++ c :: r) = (u, 0) := by
 unfold snum
 rw [digs_decS u c r hc, badDig_dec (by omega), dval_dec, if_neg (by decide), if_neg (by omega)]
theorem snum_good {s : List UInt8} (h : (snum s).2 = 0) : (snum s).1 ≤ 1023 ∧ digs s = Lib.decDigits (snum s).1 := by
 unfold snum at h ⊢
 split at h
 · cases h
 · rename_i h1
   split at h
   · cases h
   · rename_i h2
     rw [if_neg h1, if_neg h2]
     exact ⟨by show dval 0 (digs s) ≤ 1023; omega, (badDig_good (fun c hc => digs_mem hc) (Bool.eq_false_iff.2 h1)).symm⟩
theorem join_cons {a : List UInt8} {l : List (List UInt8)} (h : l ≠ []) (sep : List UInt8) : Lib.join (a :: l) sep = a ++ sep ++ Lib.join l sep := by
 cases l with
 | nil => exact absurd rfl h
 | cons b l => exact join_two a b l sep
theorem join_nil (sep : List UInt8) : Lib.join [] sep = [] := by simp [Lib.join, List.intercalate]
theorem dig32 : ¬ isDig 32 := by unfold isDig; decide
theorem dig125 : ¬ isDig 125 := by unfold isDig; decide
theorem readS_text : ∀ (m : List Nat) (a n : Nat) (l : List Nat), (a :: m).Pairwise (· < ·) → (∀ k ∈ a :: m, k < 1024) → lastI l < (a : Int) → m.length < n → readS n (Lib.join ((a :: m).map Lib.decDigits) [32] ++ [125]) l = (l ++ a :: m, 0)
 | m, a, 0, _, _, _, _, h => by omega
 | m, a, n + 1, l, hs, hl, hp, hn => by
   have ha := hl a List.mem_cons_self
   cases m with
   | nil =>
     have ht : Lib.join ([a].map Lib.decDigits) [32] ++ [125] = Lib.decDigits a ++ 125 :: [] := by rw [List.map_cons, List.map_nil, join_one]
     rw [ht, readS_succ, snum_dec (by omega) 125 [] dig125, if_neg (by simp), if_neg (by simp only; omega), digs_decS a 125 [] dig125, List.drop_left, if_pos rfl]
   | cons b m =>
     have ht : Lib.join ((a :: b :: m).map Lib.decDigits) [32] ++ [125] = Lib.decDigits a ++ 32 :: (Lib.join ((b :: m).map Lib.decDigits) [32] ++ [125]) := by
       rw [List.map_cons, join_cons (by simp)]
       simp
     rw [List.pairwise_cons] at hs
     have hab := hs.1 b List.mem_cons_self
     rw [ht, readS_succ, snum_dec (by omega) 32 _ dig32, if_neg (by simp), if_neg (by simp only; omega), digs_decS a 32 _ dig32, List.drop_left, if_neg (by simp), cutB_cons, if_pos rfl, if_pos rfl,
       readS_text m b n (l ++ [a]) hs.2 (fun k hk => hl k (List.mem_cons_of_mem _ hk)) (by rw [lastI_snoc]; omega) (by simp at hn; omega)]
     simp
theorem readSet_text (S : Nat) : readSet (setT S) = (elems S, 0) := by
 unfold setT readSet
 cases hm : elems S with
 | nil => rw [if_pos (by simp [join_nil])]
 | cons a m =>
   have hs := elems_sorted S
   have hb : ∀ k ∈ a :: m, k < 1024 := fun k hk => by rw [← hm] at hk; exact elems_lt hk
   rw [hm] at hs
   have hj := join_geS Lib.decDigits m a
   have hne : ¬ [123] ++ Lib.join ((a :: m).map Lib.decDigits) [32] ++ [125] = [123, 125] := by
     intro h
     have h2 := congrArg List.length h
     have h3 : 1 ≤ (Lib.join ((a :: m).map Lib.decDigits) [32]).length := by
       have h4 : 1 ≤ (Lib.decDigits a).length := List.length_pos_iff.2 (dec_ne a)
       cases m with
       | nil => rw [List.map_cons, List.map_nil, join_one]; exact h4
       | cons b m => rw [List.map_cons, join_cons (by simp), List.length_append, List.length_append]; omega
     simp only [List.length_append, List.length_cons, List.length_nil] at h2
     omega
   have hc : cutB 123 ([123] ++ Lib.join ((a :: m).map Lib.decDigits) [32] ++ [125]) = (Lib.join ((a :: m).map Lib.decDigits) [32] ++ [125], true) := rfl
   rw [if_neg hne, hc, if_pos rfl]
   exact readS_text m a _ [] hs hb (by rw [lastI_nil]; omega) (by have l1 : ([123] : List UInt8).length = 1 := rfl; rw [List.length_append, List.length_append]; omega)
theorem readS_inv : ∀ (n : Nat) (s : List UInt8) (l : List Nat), (readS n s l).2 = 0 → ∃ a m, (readS n s l).1 = l ++ a :: m ∧ s = Lib.join ((a :: m).map Lib.decDigits) [32] ++ [125] ∧ (a :: m).Pairwise (· < ·) ∧ lastI l < (a : Int) ∧ ∀ k ∈ a :: m, k < 1024
 | 0, s, l, h => by cases h
 | n + 1, s, l, h => by
   have hsp : s = digs s ++ s.drop (digs s).length := by
     have e : digs s = s.take (digs s).length := by
       unfold digs
       exact (List.prefix_iff_eq_take.1 (List.takeWhile_prefix _))
     rw [← congrArg (· ++ s.drop (digs s).length) e.symm]
     exact (List.take_append_drop _ _).symm
   rw [readS_succ] at h ⊢
   split at h
   · rename_i h0; exact absurd h h0
   · rename_i h0
     have h0' : (snum s).2 = 0 := Decidable.of_not_not h0
     obtain ⟨g1, g2⟩ := snum_good h0'
     rw [if_neg h0]
     split at h
     · cases h
     · rename_i h1
       rw [if_neg h1]
       split at h
       · rename_i h2
         rw [if_pos h2]
         refine ⟨(snum s).1, [], rfl, ?_, List.pairwise_singleton _ _, by omega, fun k hk => by rw [List.mem_singleton.1 hk]; omega⟩
         rw [List.map_cons, List.map_nil, join_one, ← g2, ← h2]
         exact hsp
       · rename_i h2
         rw [if_neg h2]
         split at h
         · rename_i h3
           rw [if_pos h3]
           obtain ⟨b, m, e1, e2, e3, e4, e5⟩ := readS_inv n _ _ h
           rw [lastI_snoc] at e4
           refine ⟨(snum s).1, b :: m, by rw [e1]; simp, ?_, ?_, by omega, ?_⟩
           · have e6 := cutB_hit h3
             rw [e2] at e6
             rw [List.map_cons, join_cons (by simp), ← g2]
             calc s = digs s ++ s.drop (digs s).length := hsp
               _ = _ := by rw [e6]; simp
           · refine List.pairwise_cons.2 ⟨fun k hk => ?_, e3⟩
             rcases List.mem_cons.1 hk with rfl | hk
             · omega
             · have := (List.pairwise_cons.1 e3).1 k hk
               omega
           · intro k hk
             rcases List.mem_cons.1 hk with rfl | hk
             · omega
             · exact e5 k hk
         · cases h
theorem elems_setL2 {l : List Nat} (h : l.Pairwise (· < ·)) (hb : ∀ k ∈ l, k < 1024) : elems (setL l) = l := by
 have h1 := elems_setL h hb
 unfold elemsI at h1
 exact List.map_inj_right (fun _ _ e => Int.ofNat.inj e) |>.1 h1
theorem readSet_up (s : List UInt8) : (readSet s).1.Pairwise (· < ·) ∧ (∀ k ∈ (readSet s).1, k < 1024) ∧ ((readSet s).2 = 0 → setT (setL (readSet s).1) = s) ∧ ((readSet s).2 ≠ 0 → (readSet s).1 = []) := by
 unfold readSet
 split
 · rename_i h
   refine ⟨List.Pairwise.nil, by simp, fun _ => ?_, fun h => absurd rfl h⟩
   rw [h]
   unfold setT
   rw [elems_setL2 List.Pairwise.nil (by simp), List.map_nil, join_nil]
   rfl
 · split
   · rename_i hc
     by_cases h0 : (readS s.length (cutB 123 s).1 []).2 = 0
     · obtain ⟨a, m, e1, e2, e3, e4, e5⟩ := readS_inv _ _ _ h0
       rw [List.nil_append] at e1
       rw [e1]
       refine ⟨e3, e5, fun _ => ?_, fun h => absurd h0 h⟩
       unfold setT
       rw [elems_setL2 e3 e5, List.append_assoc, ← e2]
       exact (cutB_hit hc).symm
     · have e : (readS s.length (cutB 123 s).1 []).1 = [] := by
         have key : ∀ (n : Nat) (t : List UInt8) (l : List Nat), (readS n t l).2 ≠ 0 → (readS n t l).1 = [] := by
           intro n
           induction n with
           | zero => intro t l _; rfl
           | succ n ih =>
             intro t l h
             rw [readS_succ] at h ⊢
             split
             · rfl
             · rename_i g1
               rw [if_neg g1] at h
               split
               · rfl
               · rename_i g2
                 rw [if_neg g2] at h
                 split
                 · rename_i g3
                   rw [if_pos g3] at h
                   exact absurd rfl h
                 · rename_i g3
                   rw [if_neg g3] at h
                   split
                   · rename_i g4
                     rw [if_pos g4] at h
                     exact ih _ _ h
                   · rfl
         exact key _ _ _ h0
       rw [e]
       exact ⟨List.Pairwise.nil, by simp, fun h => absurd h h0, fun _ => rfl⟩
   · exact ⟨List.Pairwise.nil, by simp, (fun h => by cases h), fun _ => rfl⟩
def parts2 : List UInt8 → List UInt8 → List (List UInt8)
 | a, [] => [a]
 | a, [x] => [a ++ [x]]
 | a, x :: y :: r => if x = 59 ∧ y = 32 then a :: parts2 [] r else parts2 (a ++ [x]) (y :: r)
theorem parts2_nil (a : List UInt8) : parts2 a [] = [a] := by rw [parts2]
theorem parts2_one (a : List UInt8) (x : UInt8) : parts2 a [x] = [a ++ [x]] := by rw [parts2]
theorem parts2_two (a : List UInt8) (x y : UInt8) (r : List UInt8) : parts2 a (x :: y :: r) = if x = 59 ∧ y = 32 then a :: parts2 [] r else parts2 (a ++ [x]) (y :: r) := by rw [parts2]
theorem first2 : ∀ s : List UInt8, (Lib.index s [59, 32] = -1 ∧ ∀ a, parts2 a s = [a ++ s]) ∨ ∃ p r, s = p ++ 59 :: 32 :: r ∧ Lib.index s [59, 32] = (p.length : Int) ∧ ∀ a, parts2 a s = (a ++ p) :: parts2 [] r
 | [] => .inl ⟨rfl, fun a => by rw [parts2_nil, List.append_nil]⟩
 | [x] => .inl ⟨by simp [Lib.index, List.isPrefixOf], fun a => parts2_one a x⟩
 | x :: y :: r => by
   by_cases h : x = 59 ∧ y = 32
   · obtain ⟨rfl, rfl⟩ := h
     exact .inr ⟨[], r, rfl, by rw [Lib.index, if_pos (by simp [List.isPrefixOf])]; rfl, fun a => by rw [parts2_two, if_pos ⟨rfl, rfl⟩, List.append_nil]⟩
   · have hb : ([59, 32] : List UInt8).isPrefixOf (x :: y :: r) = false := by
       simp only [List.isPrefixOf, Bool.and_true, Bool.and_eq_false_iff, beq_eq_false_iff_ne]
       by_cases h1 : x = 59
       · exact .inr fun e => h ⟨h1, e.symm⟩
       · exact .inl fun e => h1 e.symm
     rcases first2 (y :: r) with ⟨i1, i2⟩ | ⟨p, q, i1, i2, i3⟩
     · refine .inl ⟨by rw [Lib.index, hb, i1]; rfl, fun a => ?_⟩
       rw [parts2_two, if_neg h, i2]
       simp
     · refine .inr ⟨x :: p, q, by rw [i1]; rfl, ?_, fun a => ?_⟩
       · have hne : ¬ ((p.length : Int) == -1) = true := by
           intro e
           have := beq_iff_eq.1 e
           omega
         rw [Lib.index, hb, i2, if_neg (by simp), if_neg hne, List.length_cons]
         omega
       · rw [parts2_two, if_neg h, i3]
         simp
theorem split2 : ∀ (n : Nat) (s : List UInt8), s.length ≤ n → Lib.splitB ⟨#[59, 32]⟩ 0 (Lib.countB ⟨s.toArray⟩ ⟨#[59, 32]⟩) ⟨s.toArray⟩ = (parts2 [] s).map fun p => (⟨p.toArray⟩ : ByteArray)
 | n, s, hn => by
   have hsz : (⟨s.toArray⟩ : ByteArray).size = s.length := by simp [ByteArray.size]
   rcases first2 s with ⟨h1, h2⟩ | ⟨p, r, hs, h1, h2⟩
   · have hix : Lib.indexB ⟨s.toArray⟩ ⟨#[59, 32]⟩ = -1 := by
       show Lib.index _ _ = _
       rw [bytes_list]
       exact h1
     rw [Lib.splitB_miss _ _ _ _ hix, h2]
     rfl
   · have hix : Lib.indexB ⟨s.toArray⟩ ⟨#[59, 32]⟩ = (p.length : Int) := by
       show Lib.index _ _ = _
       rw [bytes_list]
       exact h1
     have hc := Lib.countB_hit ⟨s.toArray⟩ ⟨#[59, 32]⟩ p.length (by decide) hix
     have e1 : (⟨s.toArray⟩ : ByteArray).extract (p.length + (⟨#[59, 32]⟩ : ByteArray).size) (⟨s.toArray⟩ : ByteArray).size = ⟨r.toArray⟩ := by
       rw [hsz, show (⟨#[59, 32]⟩ : ByteArray).size = 2 from rfl]
       apply ByteArray.ext
       rw [ByteArray.data_extract, hs]
       simp
       exact List.take_of_length_le (by omega)
     have e2 : (⟨s.toArray⟩ : ByteArray).extract 0 (p.length + 0) = ⟨p.toArray⟩ := by
       apply ByteArray.ext
       rw [ByteArray.data_extract, hs]
       simp
     rw [e1] at hc
     rw [hc, Nat.add_comm 1, Lib.splitB_hit _ _ _ _ _ hix, e1, e2]
     have hl := congrArg List.length hs
     rw [List.length_append, List.length_cons, List.length_cons] at hl
     match n, hn with
     | 0, hn => omega
     | n + 1, hn =>
       rw [split2 n r (by omega), h2, List.nil_append]
       rfl
theorem count2 (s : List UInt8) : Lib.countB ⟨s.toArray⟩ ⟨#[59, 32]⟩ + 1 = (parts2 [] s).length := by
 have := Lib.splitB_all ⟨#[59, 32]⟩ (by decide) 0 _ ⟨s.toArray⟩ rfl
 rw [split2 s.length s (Nat.le_refl _), List.length_map] at this
 exact this.symm
theorem parts2_ne (a s : List UInt8) : parts2 a s ≠ [] := by
 rcases first2 s with ⟨-, h⟩ | ⟨p, r, -, -, h⟩ <;> rw [h] <;> simp
theorem parts2_join : ∀ (n : Nat) (s : List UInt8), s.length ≤ n → ∀ a, Lib.join (parts2 a s) [59, 32] = a ++ s
 | n, s, hn, a => by
   rcases first2 s with ⟨-, h⟩ | ⟨p, r, hs, -, h⟩
   · rw [h, join_one]
   · have hl := congrArg List.length hs
     rw [List.length_append, List.length_cons, List.length_cons] at hl
     match n, hn with
     | 0, hn => omega
     | n + 1, hn => rw [h, join_cons (parts2_ne _ _), parts2_join n r (by omega), hs]; simp
theorem parts2_bound : ∀ (n : Nat) (s : List UInt8), s.length ≤ n → ∀ a, (parts2 a s).length ≤ s.length + 1 ∧ ∀ p ∈ parts2 a s, p.length ≤ a.length + s.length
 | n, s, hn, a => by
   rcases first2 s with ⟨-, h⟩ | ⟨p, r, hs, -, h⟩
   · rw [h]
     exact ⟨by simp, fun p hp => by rw [List.mem_singleton.1 hp]; simp⟩
   · have hl := congrArg List.length hs
     rw [List.length_append, List.length_cons, List.length_cons] at hl
     match n, hn with
     | 0, hn => omega
     | n + 1, hn =>
       have ih := parts2_bound n r (by omega) []
       rw [h]
       refine ⟨by rw [List.length_cons]; omega, fun q hq => ?_⟩
       rcases List.mem_cons.1 hq with rfl | hq
       · rw [List.length_append]; omega
       · have := ih.2 q hq
         simp at this
         omega
theorem index2_no : ∀ {s : List UInt8}, (∀ x ∈ s, x ≠ 59) → ∀ p r : List UInt8, s ≠ p ++ 59 :: 32 :: r := by
 intro s h p r e
 exact h 59 (by rw [e]; simp) rfl
theorem parts2_none {s : List UInt8} (h : ∀ x ∈ s, x ≠ 59) (a : List UInt8) : parts2 a s = [a ++ s] := by
 rcases first2 s with ⟨-, h2⟩ | ⟨p, r, hs, -, -⟩
 · exact h2 a
 · exact absurd hs (index2_no h p r)
theorem parts2_hit : ∀ (p : List UInt8) (a r : List UInt8), (∀ x ∈ p, x ≠ 59) → parts2 a (p ++ 59 :: 32 :: r) = (a ++ p) :: parts2 [] r
 | [], a, r, _ => by rw [List.nil_append, parts2_two, if_pos ⟨rfl, rfl⟩, List.append_nil]
 | x :: p, a, r, h => by
   have ih := parts2_hit p (a ++ [x]) r fun y hy => h y (by simp [hy])
   have hx := h x (by simp)
   rw [List.cons_append]
   cases hp : p ++ 59 :: 32 :: r with
   | nil => simp at hp
   | cons y q =>
     rw [hp] at ih
     rw [parts2_two, if_neg (fun e => hx e.1), ih]
     simp
theorem parts2_of : ∀ (l : List (List UInt8)) (p : List UInt8), (∀ q ∈ p :: l, ∀ x ∈ q, x ≠ 59) → parts2 [] (Lib.join (p :: l) [59, 32]) = p :: l
 | [], p, h => by rw [join_one, parts2_none (h p (by simp)), List.nil_append]
 | q :: l, p, h => by
   rw [join_two, show p ++ [59, 32] ++ Lib.join (q :: l) [59, 32] = p ++ 59 :: 32 :: Lib.join (q :: l) [59, 32] by simp, parts2_hit p [] _ (h p (by simp)), parts2_of l q fun t ht => h t (List.mem_cons_of_mem _ ht), List.nil_append]
theorem join_mem {sep : List UInt8} {x : UInt8} : ∀ {l : List (List UInt8)}, x ∈ Lib.join l sep → (∃ p ∈ l, x ∈ p) ∨ x ∈ sep
 | [], h => by rw [join_nil] at h; cases h
 | [a], h => by rw [join_one] at h; exact .inl ⟨a, by simp, h⟩
 | a :: b :: l, h => by
   rw [join_two, List.mem_append, List.mem_append] at h
   rcases h with (h | h) | h
   · exact .inl ⟨a, by simp, h⟩
   · exact .inr h
   · rcases join_mem h with ⟨p, hp, hx⟩ | hx
     · exact .inl ⟨p, List.mem_cons_of_mem _ hp, hx⟩
     · exact .inr hx
theorem setT_no59 (S : Nat) : ∀ x ∈ setT S, x ≠ 59 := by
 intro x hx
 unfold setT at hx
 rw [List.mem_append, List.mem_append, List.mem_singleton, List.mem_singleton] at hx
 rcases hx with (rfl | hx) | rfl
 · decide
 · rcases join_mem hx with ⟨p, hp, hxp⟩ | hx
   · obtain ⟨k, -, rfl⟩ := List.mem_map.1 hp
     have := dec_all k x hxp
     rintro rfl
     exact absurd this (by unfold isDig; decide)
   · rw [List.mem_singleton.1 hx]; decide
 · decide
def rowsT (L : List Nat) : List UInt8 := if L = [] then [45] else Lib.join (L.map setT) [59, 32]
def foldR : List Nat → List (List UInt8) → List Nat × Nat
 | acc, [] => (acc, 0)
 | acc, p :: r => if (readSet p).2 = 0 then foldR (acc ++ [setL (readSet p).1]) r else ([], (readSet p).2)
theorem foldR_nil (acc : List Nat) : foldR acc [] = (acc, 0) := rfl
theorem foldR_cons (acc : List Nat) (p : List UInt8) (r : List (List UInt8)) : foldR acc (p :: r) = if (readSet p).2 = 0 then foldR (acc ++ [setL (readSet p).1]) r else ([], (readSet p).2) := rfl
def readRows (s : List UInt8) : List Nat × Nat := if s = [45] then ([], 0) else foldR [] (parts2 [] s)
theorem foldR_text : ∀ (L acc : List Nat), (∀ S ∈ L, IsSet S) → foldR acc (L.map setT) = (acc ++ L, 0)
 | [], acc, _ => by rw [List.map_nil, foldR_nil, List.append_nil]
 | S :: L, acc, h => by
   rw [List.map_cons, foldR_cons, readSet_text S, if_pos rfl, setL_elems (h S (by simp)), foldR_text L _ fun T hT => h T (by simp [hT])]
   simp
theorem join_head (c : UInt8) (t : List UInt8) (l : List (List UInt8)) (sep : List UInt8) : ∃ r, Lib.join ((c :: t) :: l) sep = c :: r := by
 cases l with
 | nil => exact ⟨t, join_one _ _⟩
 | cons b l => exact ⟨t ++ sep ++ Lib.join (b :: l) sep, by rw [join_two]; simp⟩
theorem readRows_text {L : List Nat} (h : ∀ S ∈ L, IsSet S) : readRows (rowsT L) = (L, 0) := by
 unfold rowsT
 cases L with
 | nil => rw [if_pos rfl]; unfold readRows; rw [if_pos rfl]
 | cons S L =>
   rw [if_neg (by simp)]
   unfold readRows
   obtain ⟨r, hr⟩ := join_head 123 (Lib.join ((elems S).map Lib.decDigits) [32] ++ [125]) (L.map setT) [59, 32]
   have hr2 : Lib.join ((S :: L).map setT) [59, 32] = 123 :: r := hr
   rw [if_neg (by rw [hr2]; intro e; exact absurd (List.cons.inj e).1 (by decide)), List.map_cons, parts2_of _ _ fun q hq x hx => ?_, ← List.map_cons, foldR_text _ [] h, List.nil_append]
   rw [← List.map_cons] at hq
   obtain ⟨T, -, rfl⟩ := List.mem_map.1 hq
   exact setT_no59 T x hx
theorem foldR_inv : ∀ (P : List (List UInt8)) (acc : List Nat), (foldR acc P).2 = 0 → ∃ M, (foldR acc P).1 = acc ++ M ∧ M.map setT = P ∧ ∀ S ∈ M, IsSet S
 | [], acc, _ => ⟨[], by rw [foldR_nil, List.append_nil], rfl, by simp⟩
 | p :: r, acc, h => by
   rw [foldR_cons] at h ⊢
   split at h
   · rename_i h0
     obtain ⟨M, e1, e2, e3⟩ := foldR_inv r _ h
     rw [if_pos h0]
     refine ⟨setL (readSet p).1 :: M, by rw [e1]; simp, ?_, fun S hS => ?_⟩
     · rw [List.map_cons, e2, (readSet_up p).2.2.1 h0]
     · rcases List.mem_cons.1 hS with rfl | hS
       · exact isSet_setL _
       · exact e3 S hS
   · rename_i h0; exact absurd h h0
theorem foldR_bad : ∀ (P : List (List UInt8)) (acc : List Nat), (foldR acc P).2 ≠ 0 → (foldR acc P).1 = []
 | [], acc, h => absurd rfl h
 | p :: r, acc, h => by
   rw [foldR_cons] at h ⊢
   split
   · rename_i h0
     rw [if_pos h0] at h
     exact foldR_bad r _ h
   · rfl
theorem rows_read {s : List UInt8} (h : (readRows s).2 = 0) : rowsT (readRows s).1 = s ∧ ∀ S ∈ (readRows s).1, IsSet S := by
 unfold readRows at h ⊢
 split at h
 · rename_i h0
   rw [if_pos h0, h0]
   exact ⟨rfl, by simp⟩
 · rename_i h0
   rw [if_neg h0]
   obtain ⟨M, e1, e2, e3⟩ := foldR_inv _ _ h
   rw [List.nil_append] at e1
   rw [e1]
   refine ⟨?_, e3⟩
   unfold rowsT
   have hne : ¬ M = [] := fun e => parts2_ne [] s (by rw [← e2, e]; rfl)
   rw [if_neg hne, e2, parts2_join _ s (Nat.le_refl _), List.nil_append]
end Go.Pal
