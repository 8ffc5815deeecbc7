/- Plain laws of the text of a set of edges: the edges read from a text (readT), their set .. -/
import Derived.Test.YtglnhnjmelilmaaGreatDoorQWf
import Derived.Test.YtglnhnjmelilmaaGreatDoorQWw
import Derived.Test.YtglnhnjmelilmaaGreatDoorQJpl
import Derived.Test.YtglnhnjmelilmaaGreatDoorQHB
import Derived.Test.YtglnhnjmelilmaaGreatDoorQBeh
import Derived.Test.YtglnhnjmelilmaaGreatDoorQYC
set_option linter.all false
namespace Go.Pal
open Go Go.RowKit
def cutB (b : UInt8) : List UInt8 → List UInt8 × Bool
 | [] => ([], false)
 | c :: r => if c = b then (r, true) else (c :: r, false)
theorem cutB_cons (b c : UInt8) (r : List UInt8) : cutB b (c :: r) = if c = b then (r, true) else (c :: r, false) := rfl
theorem cutB_len (b : UInt8) (s : List UInt8) : (cutB b s).1.length ≤ s.length := by
 cases s with
 | nil => simp [cutB]
 | cons c r => rw [cutB_cons]; split <;> simp
theorem cutB_no {b : UInt8} {s : List UInt8} (h : ¬ (cutB b s).2 = true) : (cutB b s).1 = s := by
 cases s with
 | nil => rfl
 | cons c r =>
   rw [cutB_cons] at h ⊢
   by_cases hc : c = b
   · rw [if_pos hc] at h; exact absurd rfl h
   · rw [if_neg hc]
theorem cutB_hit {b : UInt8} {s : List UInt8} (h : (cutB b s).2 = true) : s = b :: (cutB b s).1 := by
 cases s with
 | nil => cases h
 | cons c r =>
   rw [cutB_cons] at h ⊢
   by_cases hc : c = b
   · rw [if_pos hc, hc]
   · rw [if_neg hc] at h; cases h
noncomputable def readE (G : Gr) : Nat → List UInt8 → Int × Int → List Nat → List Nat × Nat
 | 0, _, _, _ => ([], 3)
 | n + 1, s, p, l =>
   match endOf s with
   | none => ([], 3)
   | some (u, v, r) =>
     if behB u v p = true then
       if idx (edgB u v) G.E < 0 then ([], 9)
       else if (cutB 32 r).2 = true then readE G n (cutB 32 r).1 (u, v) (l ++ [(idx (edgB u v) G.E).toNat])
       else if r = [125] then (l ++ [(idx (edgB u v) G.E).toNat], 0) else ([], 3)
     else ([], 3)
noncomputable def readT (G : Gr) (s : List UInt8) : List Nat × Nat :=
 if s = [123, 125] then ([], 0) else if (cutB 123 s).2 = true then readE G s.length (cutB 123 s).1 (-1, -1) [] else ([], 3)
theorem readE_none {G : Gr} {n : Nat} {s : List UInt8} (h : endOf s = none) (p : Int × Int) (l : List Nat) : readE G (n + 1) s p l = ([], 3) := by
 show (match endOf s with | none => _ | some (u, v, r) => _) = _
 rw [h]
theorem readE_some {G : Gr} {n : Nat} {s r : List UInt8} {u v : Int} (h : endOf s = some (u, v, r)) (p : Int × Int) (l : List Nat) : readE G (n + 1) s p l = if behB u v p = true then if idx (edgB u v) G.E < 0 then ([], 9) else if (cutB 32 r).2 = true then readE G n (cutB 32 r).1 (u, v) (l ++ [(idx (edgB u v) G.E).toNat]) else if r = [125] then (l ++ [(idx (edgB u v) G.E).toNat], 0) else ([], 3) else ([], 3) := by
 show (match endOf s with | none => _ | some (u, v, r) => _) = _
 rw [h]
theorem digs_mem {s : List UInt8} {c : UInt8} (h : c ∈ digs s) : isDig c := by
 unfold digs at h
 have := List.all_takeWhile (l := s) (p := fun c => decide (isDig c))
 rw [List.all_eq_true] at this
 simpa using this c h
theorem digs_numb {s : List UInt8} {u : Int} (h : numb (digs s) = some u) : 0 ≤ u ∧ u ≤ 2147483648 ∧ 1 ≤ (digs s).length := by
 rcases numOf_look (numb_of h) with ⟨k, rfl, hk, e⟩ | ⟨k, rfl, h1, hk, e⟩
 · refine ⟨by omega, by omega, ?_⟩
   rw [e]
   exact List.length_pos_iff.2 (dec_ne k)
 · exfalso
   have hm : (45 : UInt8) ∈ digs s := by rw [e]; exact List.mem_cons_self
   have := (digs_mem hm).1
   revert this
   decide
theorem endOf_le {s r : List UInt8} {u v : Int} (h : endOf s = some (u, v, r)) : 0 ≤ u ∧ u < v ∧ v ≤ 2147483648 ∧ r.length + 3 ≤ s.length := by
 unfold endOf at h
 split at h
 · cases h
 · rename_i u' hu
   split at h
   · cases h
   · rename_i c r' hr
     split at h
     · split at h
       · cases h
       · rename_i v' hv
         split at h
         · rename_i hlt
           simp only [Option.some.injEq, Prod.mk.injEq] at h
           obtain ⟨rfl, rfl, rfl⟩ := h
           obtain ⟨a1, a2, a3⟩ := digs_numb hu
           obtain ⟨b1, b2, b3⟩ := digs_numb hv
           refine ⟨a1, hlt, b2, ?_⟩
           have h1 := congrArg List.length hr
           rw [List.length_drop, List.length_cons] at h1
           rw [List.length_drop]
           have := digs_len r'
           have := digs_len s
           omega
         · cases h
     · cases h
theorem readE_start (G : Gr) (n : Nat) (s : List UInt8) (a b : Int) (l : List Nat) : readE G n s (-1, a) l = readE G n s (-1, b) l := by
 cases n with
 | zero => rfl
 | succ n =>
   cases h : endOf s with
   | none => rw [readE_none h, readE_none h]
   | some q =>
     obtain ⟨u, v, r⟩ := q
     have h0 := (endOf_le h).1
     have e : ∀ c : Int, behB u v (-1, c) = true := fun c => decide_eq_true (.inl (by show (-1 : Int) < u; omega))
     rw [readE_some h, readE_some h, e, e]
theorem readE_fuel (G : Gr) : ∀ (n m : Nat) (s : List UInt8) (p : Int × Int) (l : List Nat), s.length < n → s.length < m → readE G n s p l = readE G m s p l
 | 0, _, _, _, _, h, _ => by omega
 | _, 0, _, _, _, _, h => by omega
 | n + 1, m + 1, s, p, l, h1, h2 => by
   cases h : endOf s with
   | none => rw [readE_none h, readE_none h]
   | some q =>
     obtain ⟨u, v, r⟩ := q
     have h0 := (endOf_le h).2.2.2
     have h3 := cutB_len 32 r
     rw [readE_some h, readE_some h, readE_fuel G n m _ _ _ (by omega) (by omega)]
def setL (l : List Nat) : Nat := (l.map fun (k : Nat) => (k : Int)).foldl insR 0
theorem setL_nil : setL [] = 0 := rfl
theorem setL_snoc (l : List Nat) (k : Nat) : setL (l ++ [k]) = insR (setL l) k := by unfold setL; rw [List.map_append, List.foldl_append, List.map_cons, List.map_nil, List.foldl_cons, List.foldl_nil]
theorem isSet_setL (l : List Nat) : IsSet (setL l) := by
 intro m hm
 unfold setL at hm
 rw [foldl_insR_bit] at hm
 simp at hm
 exact hm.2
theorem elems_setL {l : List Nat} (h : l.Pairwise (· < ·)) (hb : ∀ k ∈ l, k < 1024) : elemsI (setL l) = l.map fun (k : Nat) => (k : Int) := by
 symm
 refine elemsI_of (isSet_setL l) (List.pairwise_map.2 (h.imp fun {a b} (hab : a < b) => by show (a : Int) < b; omega)) (fun x hx => ?_) (fun n => ?_)
 · obtain ⟨k, _, rfl⟩ := List.mem_map.1 hx
   exact Int.natCast_nonneg k
 · unfold setL
   rw [foldl_insR_bit]
   simp only [Nat.zero_testBit, Bool.false_or, decide_eq_true_eq]
   refine ⟨fun hx => ⟨hx, ?_⟩, fun hx => hx.1⟩
   obtain ⟨k, hk, e⟩ := List.mem_map.1 hx
   have := hb k hk
   omega
theorem setL_elems {S : Nat} (hS : IsSet S) : setL (elems S) = S := by
 refine elemsI_inj (isSet_setL _) hS ?_
 rw [elems_setL (elems_sorted S) fun k hk => elems_lt hk]
 rfl
theorem edgB_iff {G : Gr} (hG : G.Ok) {u v : Int} (h : u < v) {e : (Int × Int) × Th} (he : e ∈ G.E) : edgB u v e = true ↔ e.1 = (u, v) := by
 have h1 := (hG.endsI e he).2.1
 obtain ⟨⟨a, b⟩, th⟩ := e
 unfold edgB
 simp only [Bool.or_eq_true, Bool.and_eq_true, decide_eq_true_eq, Prod.mk.injEq] at h1 ⊢
 omega
theorem edgB_none {G : Gr} (hG : G.Ok) {u v : Int} (h : u < v) (hl : look G.E (u, v) = none) : idx (edgB u v) G.E < 0 := by
 refine Decidable.byContradiction fun hn => ?_
 obtain ⟨x, hx, hp⟩ := idx_nonneg'.1 (Int.not_lt.1 hn)
 have := (edgB_iff hG h hx).1 hp
 have h2 : look G.E (u, v) ≠ none := by
   intro h3
   exact look_none.1 h3 x hx this
 exact h2 hl
theorem edgB_at {G : Gr} (hG : G.Ok) {u v : Int} (h : u < v) {k : Nat} {t : Th} (hk : G.E[k]? = some ((u, v), t)) : idx (edgB u v) G.E = k := by
 refine idx_some hk ((edgB_iff hG h (List.mem_of_getElem? hk)).2 rfl) fun i y hi hy => ?_
 refine Bool.eq_false_iff.2 fun hp => ?_
 have h1 := (edgB_iff hG h (List.mem_of_getElem? hy)).1 hp
 obtain ⟨hi2, hy2⟩ := List.getElem?_eq_some_iff.1 hy
 obtain ⟨hk2, hk3⟩ := List.getElem?_eq_some_iff.1 hk
 have := List.pairwise_iff_getElem.1 hG.sE i k hi2 hk2 hi
 rw [hy2, hk3, h1] at this
 unfold ltE at this
 simp at this
end Go.Pal
namespace Go.Proofs.YtglnhnjmelilmaaGreatDoor
open Go Go.RowKit Go.Pal Go.Shelf
attribute [local go_sem] Oper.semAt_some
theorem cut_any (b : UInt8) (s : List UInt8) (w : World) : Calls Tryz.prog 95 #[.string ⟨s.toArray⟩, .string ⟨#[b]⟩] w fun e w' => e = .returned (.tuple #[.string ⟨(cutB b s).1.toArray⟩, .bool (cutB b s).2]) ∧ w' = w := by
 refine (Any.strings_CutPrefix Tryz.laysCutPrefix ⟨s.toArray⟩ ⟨#[b]⟩ w).mono ?_
 rintro e w' ⟨rfl, rfl⟩
 refine ⟨?_, rfl⟩
 have e1 : Lib.hasPrefix s [b] = (cutB b s).2 := by
   cases s with
   | nil => rfl
   | cons c r =>
     rw [cutB_cons]
     show ([b] : List UInt8).isPrefixOf (c :: r) = _
     simp only [List.isPrefixOf, Bool.and_true]
     by_cases h : c = b
     · rw [if_pos h, h]; simp
     · rw [if_neg h]; simpa using fun h2 => h h2.symm
 have e2 : Lib.trimPrefix s [b] = (cutB b s).1 := by
   unfold Lib.trimPrefix
   cases s with
   | nil => rfl
   | cons c r =>
     rw [e1, cutB_cons]
     by_cases h : c = b
     · rw [if_pos h]; rfl
     · rw [if_neg h]; rfl
 show Ending.returned (.tuple #[.string ⟨(Lib.trimPrefix s [b]).toArray⟩, .bool (Lib.hasPrefix s [b])]) = _
 rw [e1, e2]
set_option maxHeartbeats 2000000 in
theorem behind_any (u v p q a b : Int) (w : World) : Calls Tryz.prog 97 #[.int .i64 u, .int .i64 v, .agg #[.int .i64 p, .int .i64 q, .int .u8 a, .int .i64 b]] w fun e w' => e = .returned (.bool (behB u v (p, q))) ∧ Below w.heap.size w w' := by
 have hb := (Below.refl _ w).alloc (Nat.le_refl _) (.cells #[.int .i64 p, .int .i64 q, .int .u8 a, .int .i64 b] 134)
 have HB := Lib.hid hb
 clear hb
 unfold behB
 go_enter Tryz.func97, Tryz.ntmps97
 by_cases h1 : p < u
 · have d1 : decide (p < u) = true := decide_eq_true h1
   go_wp2_with fail
   go_ret
   exact ⟨by simp [h1], HB.out⟩
 · have d1 : decide (p < u) = false := decide_eq_false h1
   by_cases h2 : u = p
   · subst h2
     by_cases h3 : q < v
     · have d3 : decide (q < v) = true := decide_eq_true h3
       go_wp2_with fail
       go_ret
       exact ⟨by simp [h3], HB.out⟩
     · have d3 : decide (q < v) = false := decide_eq_false h3
       go_wp2_with fail
       go_ret
       exact ⟨by simp [h3], HB.out⟩
   · go_wp2_with fail
     go_ret
     exact ⟨by simp [h1, h2], HB.out⟩
end Go.Proofs.YtglnhnjmelilmaaGreatDoor
