/- Plain: a text split at a byte; a word and numbers; lines read one by one. Plain: the .. -/
import Derived.Test.YteiibpfabgfolaaGreatDoorVWw
import Derived.Lib.SplitLaws
import Derived.Lib.IndexMore
import Derived.Test.YteiibpfabgfolaaGreatDoorVZa
import Derived.Test.YteiibpfabgfolaaGreatDoorVWf
import Derived.Test.YteiibpfabgfolaaGreatDoorVPlain
set_option linter.all false
namespace Go.Pal
open Go Go.RowKit
theorem itoa_no (b : UInt8) (hb : ¬ isDig b) (hm : b ≠ 45) (n : Int) (h : InI n) : ∀ x ∈ Lib.itoa n, x ≠ b := by
 intro x hx e
 subst e
 by_cases hn : n < 0
 · obtain ⟨u, rfl⟩ : ∃ u : Nat, n = -(u : Int) := ⟨n.natAbs, by omega⟩
   rw [Lib.itoa_neg u (by omega), List.mem_cons] at hx
   rcases hx with hx | hx
   · exact hm hx
   · exact hb (dec_all u _ hx)
 · obtain ⟨u, rfl⟩ : ∃ u : Nat, n = (u : Int) := ⟨n.toNat, by omega⟩
   rw [Lib.itoa_nonneg u] at hx
   exact hb (dec_all u _ hx)
theorem index1_no {c : UInt8} : ∀ {s : List UInt8}, (∀ x ∈ s, x ≠ c) → Lib.index s [c] = -1
 | [], _ => rfl
 | b :: l, h => by
   have hb : ([c] : List UInt8).isPrefixOf (b :: l) = false := by
     have := (h b (by simp)).symm
     simp [List.isPrefixOf, this]
   have ih := index1_no (s := l) fun x hx => h x (by simp [hx])
   rw [Lib.index, hb, ih]
   rfl
theorem index1_at {c : UInt8} : ∀ {p : List UInt8} (r : List UInt8), (∀ x ∈ p, x ≠ c) → Lib.index (p ++ c :: r) [c] = (p.length : Int)
 | [], r, _ => by
   rw [List.nil_append, Lib.index, if_pos (by simp [List.isPrefixOf])]
   rfl
 | b :: l, r, h => by
   have hb : ([c] : List UInt8).isPrefixOf (b :: (l ++ c :: r)) = false := by
     have := (h b (by simp)).symm
     simp [List.isPrefixOf, this]
   have ih := index1_at (p := l) r fun x hx => h x (by simp [hx])
   have hne : ¬ ((l.length : Int) == -1) = true := by
     intro e
     have := beq_iff_eq.1 e
     omega
   rw [List.cons_append, Lib.index, hb, ih, if_neg (by simp), if_neg hne, List.length_cons]
   omega
theorem first_of (c : UInt8) : ∀ s : List UInt8, (∀ x ∈ s, x ≠ c) ∨ ∃ p r, s = p ++ c :: r ∧ ∀ x ∈ p, x ≠ c
 | [] => .inl (by simp)
 | b :: l => by
   by_cases hb : b = c
   · exact .inr ⟨[], l, by rw [hb]; rfl, by simp⟩
   · rcases first_of c l with h | ⟨p, r, h1, h2⟩
     · refine .inl fun x hx => ?_
       rcases List.mem_cons.1 hx with rfl | hx
       · exact hb
       · exact h x hx
     · refine .inr ⟨b :: p, r, by rw [h1]; rfl, fun x hx => ?_⟩
       rcases List.mem_cons.1 hx with rfl | hx
       · exact hb
       · exact h2 x hx
theorem cut1_no {c : UInt8} {s : List UInt8} (h : ∀ x ∈ s, x ≠ c) : Lib.cut s [c] = (s, [], false) := by
 unfold Lib.cut
 rw [index1_no h, if_neg (by decide)]
theorem cut1_at {c : UInt8} {p r : List UInt8} (h : ∀ x ∈ p, x ≠ c) : Lib.cut (p ++ c :: r) [c] = (p, r, true) := by
 unfold Lib.cut
 rw [index1_at r h, if_pos (by omega)]
 simp
theorem bytes_list (s : List UInt8) : (⟨s.toArray⟩ : ByteArray).data.toList = s := by simp
theorem digs_decS (u : Nat) (c : UInt8) (r : List UInt8) (hc : ¬ isDig c) : digs (Lib.decDigits u ++ c :: r) = Lib.decDigits u := by
 unfold digs
 rw [List.takeWhile_append_of_pos fun a ha => by simpa using dec_all u a ha, List.takeWhile_cons, if_neg (by simpa using hc), List.append_nil]
theorem join_geS (f : Nat → List UInt8) : ∀ (m : List Nat) (a : Nat), m.length ≤ (Lib.join ((a :: m).map f) [32]).length
 | [], a => by simp
 | b :: m, a => by
   have ih := join_geS f m b
   rw [List.map_cons, List.map_cons, join_two, ← List.map_cons]
   simp at ih ⊢
   omega
def setT (S : Nat) : List UInt8 := [123] ++ Lib.join ((elems S).map Lib.decDigits) [32] ++ [125]
def badDig (d : List UInt8) : Bool := d.isEmpty || (decide (1 < d.length) && decide (d.head? = some 48))
def snum (s : List UInt8) : Nat × Nat := if badDig (digs s) = true then (0, 3) else if 1023 < dval 0 (digs s) then (0, 2) else (dval 0 (digs s), 0)
def lastI (l : List Nat) : Int := match l.getLast? with | none => -1 | some k => (k : Int)
theorem lastI_nil : lastI [] = -1 := rfl
theorem lastI_snoc (l : List Nat) (k : Nat) : lastI (l ++ [k]) = (k : Int) := by simp [lastI]
def readS : Nat → List UInt8 → List Nat → List Nat × Nat
 | 0, _, _ => ([], 3)
 | n + 1, s, l =>
   if (snum s).2 ≠ 0 then ([], (snum s).2)
   else if ((snum s).1 : Int) ≤ lastI l then ([], 3)
   else if s.drop (digs s).length = [125] then (l ++ [(snum s).1], 0)
   else if (cutB 32 (s.drop (digs s).length)).2 = true then readS n (cutB 32 (s.drop (digs s).length)).1 (l ++ [(snum s).1])
   else ([], 3)
theorem readS_succ (n : Nat) (s : List UInt8) (l : List Nat) : readS (n + 1) s l = if (snum s).2 ≠ 0 then ([], (snum s).2) else if ((snum s).1 : Int) ≤ lastI l then ([], 3) else if s.drop (digs s).length = [125] then (l ++ [(snum s).1], 0) else if (cutB 32 (s.drop (digs s).length)).2 = true then readS n (cutB 32 (s.drop (digs s).length)).1 (l ++ [(snum s).1]) else ([], 3) := rfl
def readSet (s : List UInt8) : List Nat × Nat := if s = [123, 125] then ([], 0) else if (cutB 123 s).2 = true then readS s.length (cutB 123 s).1 [] else ([], 3)
theorem badDig_dec {u : Nat} (hu : u ≤ 2147483648) : badDig (Lib.decDigits u) = false := by
 obtain ⟨h1, -, h3, -, -⟩ := digs_of_dec hu false (by simp)
 cases h : Lib.decDigits u with
 | nil => exact absurd h h1
 | cons c r =>
   unfold badDig
   by_cases hc : c = 48
   · have := (h3 c r h (by rw [hc]; rfl)).1
     rw [this]
     simp
   · simp [hc]
theorem badDig_good {d : List UInt8} (hd : ∀ c ∈ d, isDig c) (h : badDig d = false) : Lib.decDigits (dval 0 d) = d := by
 unfold badDig at h
 rw [Bool.or_eq_false_iff, Bool.and_eq_false_iff] at h
 refine dec_of d hd (fun e => by rw [e] at h; simp at h) fun c r e hc => ?_
 subst e
 rcases h.2 with h2 | h2
 · simpa using h2
 · exact absurd (by rw [List.head?_cons]; congr 1; exact UInt8.toNat_inj.1 hc) (of_decide_eq_false h2)
theorem snum_dec {u : Nat} (hu : u ≤ 1023) (c : UInt8) (r : List UInt8) (hc : ¬ isDig c) : snum (Lib.decDigits u ++ c :: r) = (u, 0) := by
 unfold snum
 rw [digs_decS u c r hc, badDig_dec (by omega), dval_dec, if_neg (by decide), if_neg (by omega)]
theorem snum_good {s : List UInt8} (h : (snum s).2 = 0) : (snum s).1 ≤ 1023 ∧ digs s = Lib.decDigits (snum s).1 := by
 unfold snum at h ⊢
 split at h
 · cases h
 · rename_i h1
   split at h
   · cases h
   · rename_i h2
     rw [if_neg h1, if_neg h2]
     exact ⟨by show dval 0 (digs s) ≤ 1023; omega, (badDig_good (fun c hc => digs_mem hc) (Bool.eq_false_iff.2 h1)).symm⟩
theorem join_cons {a : List UInt8} {l : List (List UInt8)} (h : l ≠ []) (sep : List UInt8) : Lib.join (a :: l) sep = a ++ sep ++ Lib.join l sep := by
 cases l with
 | nil => exact absurd rfl h
 | cons b l => exact join_two a b l sep
theorem join_nil (sep : List UInt8) : Lib.join [] sep = [] := by simp [Lib.join, List.intercalate]
theorem dig32 : ¬ isDig 32 := by unfold isDig; decide
theorem dig125 : ¬ isDig 125 := by unfold isDig; decide
theorem readS_text : ∀ (m : List Nat) (a n : Nat) (l : List Nat), (a :: m).Pairwise (· < ·) → (∀ k ∈ a :: m, k < 1024) → lastI l < (a : Int) → m.length < n → readS n (Lib.join ((a :: m).map Lib.decDigits) [32] ++ [125]) l = (l ++ a :: m, 0)
 | m, a, 0, _, _, _, _, h => by omega
 | m, a, n + 1, l, hs, hl, hp, hn => by
   have ha := hl a List.mem_cons_self
   cases m with
   | nil =>
     have ht : Lib.join ([a].map Lib.decDigits) [32] ++ [125] = Lib.decDigits a ++ 125 :: [] := by rw [List.map_cons, List.map_nil, join_one]
     rw [ht, readS_succ, snum_dec (by omega) 125 [] dig125, if_neg (by simp), if_neg (by simp only; omega), digs_decS a 125 [] dig125, List.drop_left, if_pos rfl]
   | cons b m =>
     have ht : Lib.join ((a :: b :: m).map Lib.decDigits) [32] ++ [125] = Lib.decDigits a ++ 32 :: (Lib.join ((b :: m).map Lib.decDigits) [32] ++ [125]) := by
       rw [List.map_cons, join_cons (by simp)]
       simp
     rw [List.pairwise_cons] at hs
     have hab := hs.1 b List.mem_cons_self
     rw [ht, readS_succ, snum_dec (by omega) 32 _ dig32, if_neg (by simp), if_neg (by simp only; omega), digs_decS a 32 _ dig32, List.drop_left, if_neg (by simp), cutB_cons, if_pos rfl, if_pos rfl,
       readS_text m b n (l ++ [a]) hs.2 (fun k hk => hl k (List.mem_cons_of_mem _ hk)) (by rw [lastI_snoc]; omega) (by simp at hn; omega)]
     simp
theorem readSet_text (S : Nat) : readSet (setT S) = (elems S, 0) := by
 unfold setT readSet
 cases hm : elems S with
 | nil => rw [if_pos (by simp [join_nil])]
 | cons a m =>
   have hs := elems_sorted S
   have hb : ∀ k ∈ a :: m, k < 1024 := fun k hk => by rw [← hm] at hk; exact elems_lt hk
   rw [hm] at hs
   have hj := join_geS Lib.decDigits m a
   have hne : ¬ [123] ++ Lib.join ((a :: m).map Lib.decDigits) [32] ++ [125] = [123, 125] := by
     intro h
     have h2 := congrArg List.length h
     have h3 : 1 ≤ (Lib.join ((a :: m).map Lib.decDigits) [32]).length := by
       have h4 : 1 ≤ (Lib.decDigits a).length := List.length_pos_iff.2 (dec_ne a)
       cases m with
       | nil => rw [List.map_cons, List.map_nil, join_one]; exact h4
       | cons b m => rw [List.map_cons, join_cons (by simp), List.length_append, List.length_append]; omega
     simp only [List.length_append, List.length_cons, List.length_nil] at h2
     omega
   have hc : cutB 123 ([123] ++ Lib.join ((a :: m).map Lib.decDigits) [32] ++ [125]) = (Lib.join ((a :: m).map Lib.decDigits) [32] ++ [125], true) := rfl
   rw [if_neg hne, hc, if_pos rfl]
   exact readS_text m a _ [] hs hb (by rw [lastI_nil]; omega) (by have l1 : ([123] : List UInt8).length = 1 := rfl; rw [List.length_append, List.length_append]; omega)
theorem readS_inv : ∀ (n : Nat) (s : List UInt8) (l : List Nat), (readS n s l).2 = 0 → ∃ a m, (readS n s l).1 = l ++ a :: m ∧ s = Lib.join ((a :: m).map Lib.decDigits) [32] ++ [125] ∧ (a :: m).Pairwise (· < ·) ∧ lastI l < (a : Int) ∧ ∀ k ∈ a :: m, k < 1024
 | 0, s, l, h => by cases h
 | n + 1, s, l, h => by
   have hsp : s = digs s ++ s.drop (digs s).length := by
     have e : digs s = s.take (digs s).length := by
       unfold digs
       exact (List.prefix_iff_eq_take.1 (List.takeWhile_prefix _))
     rw [← congrArg (· ++ s.drop (digs s).length) e.symm]
     exact (List.take_append_drop _ _).symm
   rw [readS_succ] at h ⊢
   split at h
   · rename_i h0; exact absurd h h0
   · rename_i h0
     have h0' : (snum s).2 = 0 := Decidable.of_not_not h0
     obtain ⟨g1, g2⟩ := snum_good h0'
     rw [if_neg h0]
     split at h
     · cases h
     · rename_i h1
       rw [if_neg h1]
       split at h
       · rename_i h2
         rw [if_pos h2]
         refine ⟨(snum s).1, [], rfl, ?_, List.pairwise_singleton _ _, by omega, fun k hk => by rw [List.mem_singleton.1 hk]; omega⟩
         rw [List.map_cons, List.map_nil, join_one, ← g2, ← h2]
         exact hsp
       · rename_i h2
         rw [if_neg h2]
         split at h
         · rename_i h3
           rw [if_pos h3]
           obtain ⟨b, m, e1, e2, e3, e4, e5⟩ := readS_inv n _ _ h
           rw [lastI_snoc] at e4
           refine ⟨(snum s).1, b :: m, by rw [e1]; simp, ?_, ?_, by omega, ?_⟩
           · have e6 := cutB_hit h3
             rw [e2] at e6
             rw [List.map_cons, join_cons (by simp), ← g2]
             calc s = digs s ++ s.drop (digs s).length := hsp
               _ = _ := by rw [e6]; simp
           · refine List.pairwise_cons.2 ⟨fun k hk => ?_, e3⟩
             rcases List.mem_cons.1 hk with rfl | hk
             · omega
             · have := (List.pairwise_cons.1 e3).1 k hk
               omega
           · intro k hk
             rcases List.mem_cons.1 hk with rfl | hk
             · omega
             · exact e5 k hk
         · cases h
theorem elems_setL2 {l : List Nat} (h : l.Pairwise (· < ·)) (hb : ∀ k ∈ l, k < 1024) : elems (setL l) = l := by
 have h1 := elems_setL h hb
 unfold elemsI at h1
 exact List.map_inj_right (fun _ _ e => Int.ofNat.inj e) |>.1 h1
theorem readSet_up (s : List UInt8) : (readSet s).1.Pairwise (· < ·) ∧ (∀ k ∈ (readSet s).1, k < 1024) ∧ ((readSet s).2 = 0 → setT (setL (readSet s).1) = s) ∧ ((readSet s).2 ≠ 0 → (readSet s).1 = []) := by
 unfold readSet
 split
 · rename_i h
   refine ⟨List.Pairwise.nil, by simp, fun _ => ?_, fun h => absurd rfl h⟩
   rw [h]
   unfold setT
   rw [elems_setL2 List.Pairwise.nil (by simp), List.map_nil, join_nil]
   rfl
 · split
   · rename_i hc
     by_cases h0 : (readS s.length (cutB 123 s).1 []).2 = 0
     · obtain ⟨a, m, e1, e2, e3, e4, e5⟩ := readS_inv _ _ _ h0
       rw [List.nil_append] at e1
       rw [e1]
       refine ⟨e3, e5, fun _ => ?_, fun h => absurd h0 h⟩
       unfold setT
       rw [elems_setL2 e3 e5, List.append_assoc, ← e2]
       exact (cutB_hit hc).symm
     · have e : (readS s.length (cutB 123 s).1 []).1 = [] := by
         have key : ∀ (n : Nat) (t : List UInt8) (l : List Nat), (readS n t l).2 ≠ 0 → (readS n t l).1 = [] := by
           intro n
           induction n with
           | zero => intro t l _; rfl
           | succ n ih =>
             intro t l h
             rw [readS_succ] at h ⊢
             split
             · rfl
             · rename_i g1
               rw [if_neg g1] at h
               split
               · rfl
               · rename_i g2
                 rw [if_neg g2] at h
                 split
                 · rename_i g3
                   rw [if_pos g3] at h
                   exact absurd rfl h
                 · rename_i g3
                   rw [if_neg g3] at h
                   split
                   · rename_i g4
                     rw [if_pos g4] at h
                     exact ih _ _ h
                   · rfl
         exact key _ _ _ h0
       rw [e]
       exact ⟨List.Pairwise.nil, by simp, fun h => absurd h h0, fun _ => rfl⟩
   · exact ⟨List.Pairwise.nil, by simp, (fun h => by cases h), fun _ => rfl⟩
theorem isSet_read (s : List UInt8) : IsSet (setL (readSet s).1) := isSet_setL _
theorem join_mem {sep : List UInt8} {x : UInt8} : ∀ {l : List (List UInt8)}, x ∈ Lib.join l sep → (∃ p ∈ l, x ∈ p) ∨ x ∈ sep
 | [], h => by rw [join_nil] at h; cases h
 | [a], h => by rw [join_one] at h; exact .inl ⟨a, by simp, h⟩
 | a :: b :: l, h => by
   rw [join_two, List.mem_append, List.mem_append] at h
   rcases h with (h | h) | h
   · exact .inl ⟨a, by simp, h⟩
   · exact .inr h
   · rcases join_mem h with ⟨p, hp, hx⟩ | hx
     · exact .inl ⟨p, List.mem_cons_of_mem _ hp, hx⟩
     · exact .inr hx
def bagW (x : Bg) : List UInt8 := Lib.itoa x.1 ++ 32 :: setT x.2
def treeW (T : List Bg) : List UInt8 := T.flatMap fun x => bagW x ++ [10]
def upW (p : List UInt8) : Option Int := if p = [45, 49] then some (-1) else if (∀ c ∈ p, isDig c) ∧ badDig p = false ∧ p.length ≤ 4 ∧ dval 0 p < 4096 then some (dval 0 p : Int) else none
def bagR (s : List UInt8) : Option Bg := if (Lib.cut s [32]).2.2 = true then (match upW (Lib.cut s [32]).1 with | none => none | some n => if (readSet (Lib.cut s [32]).2.1).2 = 0 then some (n, setL (readSet (Lib.cut s [32]).2.1).1) else none) else none
def treeR : Nat → List UInt8 → List Bg → Option (List Bg)
 | 0, _, _ => none
 | n + 1, s, acc => if s = [] then some acc else if (Lib.cut s [10]).2.2 = true then (match bagR (Lib.cut s [10]).1 with | none => none | some b => treeR n (Lib.cut s [10]).2.1 (acc ++ [b])) else none
theorem treeR_succ (n : Nat) (s : List UInt8) (acc : List Bg) : treeR (n + 1) s acc = if s = [] then some acc else if (Lib.cut s [10]).2.2 = true then (match bagR (Lib.cut s [10]).1 with | none => none | some b => treeR n (Lib.cut s [10]).2.1 (acc ++ [b])) else none := rfl
def treeP (s : List UInt8) : List Bg × Int := match treeR (s.length + 1) s [] with | none => ([], 3) | some T => if rCheckN T = 0 then (T, 0) else ([], rCheckN T)
def BagOk (x : Bg) : Prop := IsSet x.2 ∧ -1 ≤ x.1 ∧ x.1 < 4096
theorem itoa_m1 : Lib.itoa (-1) = [45, 49] := by
 have := Lib.itoa_neg 1 (by decide)
 rw [dec_small (by decide)] at this
 exact this
theorem upW_itoa {n : Int} (h0 : -1 ≤ n) (h1 : n < 4096) : upW (Lib.itoa n) = some n := by
 by_cases hn : n = -1
 · subst hn
   rw [itoa_m1]
   unfold upW
   rw [if_pos rfl]
 · obtain ⟨u, rfl⟩ : ∃ u : Nat, n = (u : Int) := ⟨n.toNat, by omega⟩
   rw [Lib.itoa_nonneg]
   have hne : ¬ Lib.decDigits u = [45, 49] := by
     intro e
     have := dec_all u 45 (by rw [e]; simp)
     revert this
     decide
   unfold upW
   rw [if_neg hne, if_pos ⟨dec_all u, badDig_dec (by omega), dec_len (by decide) (by omega), by rw [dval_dec]; omega⟩, dval_dec]
theorem upW_inv {p : List UInt8} {n : Int} (h : upW p = some n) : Lib.itoa n = p ∧ -1 ≤ n ∧ n < 4096 ∧ p ≠ [] := by
 unfold upW at h
 split at h
 · rename_i h0
   cases h
   exact ⟨itoa_m1.trans h0.symm, by omega, by omega, by rw [h0]; simp⟩
 · split at h
   · rename_i h0
     obtain ⟨h1, h2, h3, h4⟩ := h0
     cases h
     refine ⟨by rw [Lib.itoa_nonneg, badDig_good h1 h2], by omega, by omega, ?_⟩
     intro e
     rw [e] at h2
     cases h2
   · cases h
theorem cut_hit {c : UInt8} {s : List UInt8} (h : (Lib.cut s [c]).2.2 = true) : s = (Lib.cut s [c]).1 ++ c :: (Lib.cut s [c]).2.1 ∧ ∀ x ∈ (Lib.cut s [c]).1, x ≠ c := by
 rcases first_of c s with h1 | ⟨p, r, h1, h2⟩
 · rw [cut1_no h1] at h
   cases h
 · have e : Lib.cut s [c] = (p, r, true) := by rw [h1]; exact cut1_at h2
   rw [e]
   exact ⟨h1, h2⟩
theorem cut_rest {c : UInt8} {s : List UInt8} (h : (Lib.cut s [c]).2.2 = true) : (Lib.cut s [c]).1.length + (Lib.cut s [c]).2.1.length + 1 = s.length := by
 have := congrArg List.length (cut_hit h).1
 rw [List.length_append, List.length_cons] at this
 omega
theorem bagR_text {x : Bg} (h : BagOk x) : bagR (bagW x) = some x := by
 have hc : Lib.cut (bagW x) [32] = (Lib.itoa x.1, setT x.2, true) := cut1_at (itoa_no 32 (by decide) (by decide) x.1 ⟨by have := h.2.1; omega, by have := h.2.2; omega⟩)
 unfold bagR
 rw [hc, if_pos rfl, upW_itoa h.2.1 h.2.2, readSet_text]
 show (if (0 : Nat) = 0 then some (x.1, setL (elems x.2)) else none) = some x
 rw [if_pos rfl, setL_elems h.1]
theorem bagR_inv {s : List UInt8} {x : Bg} (h : bagR s = some x) : bagW x = s ∧ BagOk x := by
 unfold bagR at h
 split at h
 · rename_i hc
   cases hu : upW (Lib.cut s [32]).1 with
   | none => rw [hu] at h; cases h
   | some n =>
     rw [hu] at h
     simp only at h
     split at h
     · rename_i h0
       cases h
       obtain ⟨u1, u2, u3, -⟩ := upW_inv hu
       obtain ⟨-, -, r1, -⟩ := readSet_up (Lib.cut s [32]).2.1
       refine ⟨?_, isSet_read _, u2, u3⟩
       show Lib.itoa n ++ 32 :: setT (setL (readSet (Lib.cut s [32]).2.1).1) = s
       rw [u1, r1 h0]
       exact (cut_hit hc).1.symm
     · cases h
 · cases h
theorem setT_no10 (S : Nat) : ∀ x ∈ setT S, x ≠ 10 := by
 intro x hx
 unfold setT at hx
 rw [List.mem_append, List.mem_append, List.mem_singleton, List.mem_singleton] at hx
 rcases hx with (rfl | hx) | rfl
 · decide
 · rcases join_mem hx with ⟨p, hp, hxp⟩ | hx
   · obtain ⟨k, -, rfl⟩ := List.mem_map.1 hp
     have := dec_all k x hxp
     rintro rfl
     exact absurd this (by unfold isDig; decide)
   · rw [List.mem_singleton.1 hx]; decide
 · decide
theorem bagW_no10 {x : Bg} (h : BagOk x) : ∀ c ∈ bagW x, c ≠ 10 := by
 intro c hc
 unfold bagW at hc
 rcases List.mem_append.1 hc with hc | hc
 · exact itoa_no 10 (by decide) (by decide) x.1 ⟨by have := h.2.1; omega, by have := h.2.2; omega⟩ c hc
 · rcases List.mem_cons.1 hc with rfl | hc
   · decide
   · exact setT_no10 _ c hc
theorem treeW_cons (x : Bg) (T : List Bg) : treeW (x :: T) = bagW x ++ 10 :: treeW T := by
 unfold treeW
 rw [List.flatMap_cons]
 simp
theorem treeR_text : ∀ (T acc : List Bg) (n : Nat), (∀ x ∈ T, BagOk x) → (treeW T).length < n → treeR n (treeW T) acc = some (acc ++ T)
 | [], acc, n, _, hn => by
   match n, hn with
   | n + 1, _ => rw [treeR_succ, show treeW [] = [] from rfl, if_pos rfl, List.append_nil]
 | x :: T, acc, n, h, hn => by
   have hx := h x (by simp)
   rw [treeW_cons] at hn ⊢
   rw [List.length_append, List.length_cons] at hn
   match n, hn with
   | n + 1, hn =>
     have hc : Lib.cut (bagW x ++ 10 :: treeW T) [10] = (bagW x, treeW T, true) := cut1_at (bagW_no10 hx)
     rw [treeR_succ, if_neg (by simp), hc, if_pos rfl, bagR_text hx]
     show treeR n (treeW T) (acc ++ [x]) = _
     rw [treeR_text T (acc ++ [x]) n (fun y hy => h y (List.mem_cons_of_mem _ hy)) (by omega)]
     simp
theorem treeR_inv : ∀ (n : Nat) (s : List UInt8) (acc T : List Bg), treeR n s acc = some T → ∃ M, T = acc ++ M ∧ treeW M = s ∧ ∀ x ∈ M, BagOk x
 | 0, s, acc, T, h => by cases h
 | n + 1, s, acc, T, h => by
   rw [treeR_succ] at h
   split at h
   · rename_i h0
     cases h
     exact ⟨[], by simp, h0.symm, by simp⟩
   · split at h
     · rename_i hc
       cases hb : bagR (Lib.cut s [10]).1 with
       | none => rw [hb] at h; cases h
       | some b =>
         rw [hb] at h
         obtain ⟨M, e1, e2, e3⟩ := treeR_inv n _ _ _ h
         obtain ⟨b1, b2⟩ := bagR_inv hb
         refine ⟨b :: M, by rw [e1]; simp, ?_, fun x hx => ?_⟩
         · rw [treeW_cons, b1, e2]
           exact (cut_hit hc).1.symm
         · rcases List.mem_cons.1 hx with rfl | hx
           · exact b2
           · exact e3 x hx
     · cases h
theorem bagW_len (x : Bg) : 4 ≤ (bagW x).length + 1 := by
 unfold bagW setT
 rw [List.length_append, List.length_cons, List.length_append, List.length_append]
 simp
 omega
theorem treeW_len : ∀ M : List Bg, M.length * 4 ≤ (treeW M).length
 | [] => by simp
 | x :: M => by
   have := treeW_len M
   have := bagW_len x
   rw [treeW_cons, List.length_append, List.length_cons, List.length_cons]
   omega
theorem treeR_len {n : Nat} {s : List UInt8} {T : List Bg} (h : treeR n s [] = some T) : T.length * 4 ≤ s.length := by
 obtain ⟨M, e1, e2, -⟩ := treeR_inv n s [] T h
 rw [List.nil_append] at e1
 rw [e1, ← e2]
 exact treeW_len M
theorem treeP_up (s : List UInt8) : (∀ x ∈ (treeP s).1, BagOk x) ∧ ((treeP s).2 = 0 → rCheckN (treeP s).1 = 0 ∧ treeW (treeP s).1 = s) ∧ ((treeP s).2 ≠ 0 → (treeP s).1 = []) ∧ (treeP s).1.length * 4 ≤ s.length := by
 unfold treeP
 cases hr : treeR (s.length + 1) s [] with
 | none => exact ⟨by simp, fun h => (by cases h), fun _ => rfl, by simp⟩
 | some T =>
   have hl := treeR_len hr
   obtain ⟨M, e1, e2, e3⟩ := treeR_inv _ _ _ _ hr
   rw [List.nil_append] at e1
   subst e1
   simp only
   split
   · rename_i h0
     exact ⟨e3, fun _ => ⟨h0, e2⟩, fun h => absurd rfl h, hl⟩
   · rename_i h0
     exact ⟨by simp, fun h => absurd h h0, fun _ => rfl, by simp⟩
theorem bagOk_of {T : List Bg} (h : rCheckN T = 0) (hS : ∀ x ∈ T, IsSet x.2) : ∀ x ∈ T, BagOk x := by
 obtain ⟨-, h1, h2, -⟩ := rCheckN_zero h
 intro x hx
 have := List.all_eq_true.1 h2 x hx
 unfold parB at this
 simp at this
 exact ⟨hS x hx, by omega, by omega⟩
theorem treeP_text {T : List Bg} (h : rCheckN T = 0) (hS : ∀ x ∈ T, IsSet x.2) : treeP (treeW T) = (T, 0) := by
 unfold treeP
 rw [treeR_text T [] _ (bagOk_of h hS) (by omega), List.nil_append]
 show (if rCheckN T = 0 then (T, (0 : Int)) else ([], rCheckN T)) = (T, 0)
 rw [if_pos h]
end Go.Pal
