/- Plain laws of the text of a set of edges: the edges read from a text (readT), their set .. -/
import Derived.Test.YteiibpfabgfolaaGreatDoorVWf
import Derived.Test.YteiibpfabgfolaaGreatDoorVWw
import Derived.Test.YteiibpfabgfolaaGreatDoorVJpl
import Derived.Test.YteiibpfabgfolaaGreatDoorVHx
import Derived.Test.YteiibpfabgfolaaGreatDoorVGp
import Derived.Test.YteiibpfabgfolaaGreatDoorVVx
set_option linter.all false
namespace Go.Pal
open Go Go.RowKit
def cutB (b : UInt8) : List UInt8 → List UInt8 × Bool
 | [] => ([], false)
 | c :: r => if c = b then (r, true) else (c :: r, false)
theorem cutB_cons (b c : UInt8) (r : List UInt8) : cutB b (c :: r) = if c = b then (r, true) else (c :: r, false) := rfl
theorem cutB_len (b : UInt8) (s : List UInt8) : (cutB b s).1.length ≤ s.length := by
 cases s with
 | nil => simp [cutB]
 | cons c r => rw [cutB_cons]; split <;> simp
theorem cutB_hit {b : UInt8} {s : List UInt8} (h : (cutB b s).2 = true) : s = b :: (cutB b s).1 := by
 cases s with
 | nil => cases h
 | cons c r =>
   rw [cutB_cons] at h ⊢
   by_cases hc : c = b
   · rw [if_pos hc, hc]
   · rw [if_neg hc] at h; cases h
theorem digs_mem {s : List UInt8} {c : UInt8} (h : c ∈ digs s) : isDig c := by
 unfold digs at h
 have := List.all_takeWhile (l := s) (p := fun c => decide (isDig c))
 rw [List.all_eq_true] at this
 simpa using this c h
def setL (l : List Nat) : Nat := (l.map fun (k : Nat) => (k : Int)).foldl insR 0
theorem setL_snoc (l : List Nat) (k : Nat) : setL (l ++ [k]) = insR (setL l) k := by unfold setL; rw [List.map_append, List.foldl_append, List.map_cons, List.map_nil, List.foldl_cons, List.foldl_nil]
theorem isSet_setL (l : List Nat) : IsSet (setL l) := by
 intro m hm
 unfold setL at hm
 rw [foldl_insR_bit] at hm
 simp at hm
 exact hm.2
theorem elems_setL {l : List Nat} (h : l.Pairwise (· < ·)) (hb : ∀ k ∈ l, k < 1024) : elemsI (setL l) = l.map fun (k : Nat) => (k : Int) := by
 symm
 refine elemsI_of (isSet_setL l) (List.pairwise_map.2 (h.imp fun {a b} (hab : a < b) => by show (a : Int) < b; omega)) (fun x hx => ?_) (fun n => ?_)
 · obtain ⟨k, _, rfl⟩ := List.mem_map.1 hx
   exact Int.natCast_nonneg k
 · unfold setL
   rw [foldl_insR_bit]
   simp only [Nat.zero_testBit, Bool.false_or, decide_eq_true_eq]
   refine ⟨fun hx => ⟨hx, ?_⟩, fun hx => hx.1⟩
   obtain ⟨k, hk, e⟩ := List.mem_map.1 hx
   have := hb k hk
   omega
theorem setL_elems {S : Nat} (hS : IsSet S) : setL (elems S) = S := by
 refine elemsI_inj (isSet_setL _) hS ?_
 rw [elems_setL (elems_sorted S) fun k hk => elems_lt hk]
 rfl
end Go.Pal
namespace Go.Proofs.YteiibpfabgfolaaGreatDoor
open Go Go.RowKit Go.Pal Go.Shelf
attribute [local go_sem] Oper.semAt_some
theorem cut_any (b : UInt8) (s : List UInt8) (w : World) : Calls Tryz.prog 64 #[.string ⟨s.toArray⟩, .string ⟨#[b]⟩] w fun e w' => e = .returned (.tuple #[.string ⟨(cutB b s).1.toArray⟩, .bool (cutB b s).2]) ∧ w' = w := by
 refine (Any.strings_CutPrefix Tryz.laysCutPrefix ⟨s.toArray⟩ ⟨#[b]⟩ w).mono ?_
 rintro e w' ⟨rfl, rfl⟩
 refine ⟨?_, rfl⟩
 have e1 : Lib.hasPrefix s [b] = (cutB b s).2 := by
   cases s with
   | nil => rfl
   | cons c r =>
     rw [cutB_cons]
     show ([b] : List UInt8).isPrefixOf (c :: r) = _
     simp only [List.isPrefixOf, Bool.and_true]
     by_cases h : c = b
     · rw [if_pos h, h]; simp
     · rw [if_neg h]; simpa using fun h2 => h h2.symm
 have e2 : Lib.trimPrefix s [b] = (cutB b s).1 := by
   unfold Lib.trimPrefix
   cases s with
   | nil => rfl
   | cons c r =>
     rw [e1, cutB_cons]
     by_cases h : c = b
     · rw [if_pos h]; rfl
     · rw [if_neg h]; rfl
 show Ending.returned (.tuple #[.string ⟨(Lib.trimPrefix s [b]).toArray⟩, .bool (Lib.hasPrefix s [b])]) = _
 rw [e1, e2]
end Go.Proofs.YteiibpfabgfolaaGreatDoor
