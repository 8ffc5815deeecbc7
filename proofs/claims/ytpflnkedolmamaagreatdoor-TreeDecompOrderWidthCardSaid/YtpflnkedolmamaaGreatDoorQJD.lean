/-
  Walks of the reference's eliminations: the sets of later neighbours.
-/
import Derived.Test.YtpflnkedolmamaaGreatDoorQJC
set_option linter.unusedSimpArgs false
set_option linter.unusedVariables false
namespace Go.Pal
open Go Go.RowKit
/-- Slices of ints in a row: each reads the elements of its set, in blocks of A. -/
def Sets (A : Nat → Prop) (w : World) (L : List (Option Addr × Nat × Nat)) (rows : List Nat) : Prop :=
  L.length = rows.length ∧ ∀ (i : Nat) (s : Option Addr × Nat × Nat) (S : Nat), L[i]? = some s → rows[i]? = some S → RdA A w (.slice s.1 s.2.1 s.2.2) (elemsI S)
theorem Sets.keep {A A' : Nat → Prop} {w w' : World} {L : List (Option Addr × Nat × Nat)} {rows : List Nat} (h : Sets A w L rows) (hs : w.heap.size ≤ w'.heap.size) (hk : ∀ k, k < w.heap.size → A k → w'.heap[k]? = w.heap[k]? ∧ A' k) : Sets A' w' L rows :=
  ⟨h.1, fun i s S h1 h2 => (h.2 i s S h1 h2).keep hs hk⟩
theorem Sets.snoc {A : Nat → Prop} {w : World} {L : List (Option Addr × Nat × Nat)} {rows : List Nat} (h : Sets A w L rows) {s : Option Addr × Nat × Nat} {S : Nat} (hs : RdA A w (.slice s.1 s.2.1 s.2.2) (elemsI S)) : Sets A w (L ++ [s]) (rows ++ [S]) := by
  refine ⟨by simp [h.1], fun i s' S' h1 h2 => ?_⟩
  by_cases hi : i < L.length
  · rw [List.getElem?_append_left hi] at h1
    rw [List.getElem?_append_left (by rw [← h.1]; exact hi)] at h2
    exact h.2 i s' S' h1 h2
  · have hi2 : i = L.length := by
      have := (List.getElem?_eq_some_iff.1 h1).1
      simp at this
      omega
    subst hi2
    rw [List.getElem?_append_right (Nat.le_refl _)] at h1
    rw [h.1, List.getElem?_append_right (Nat.le_refl _)] at h2
    simp at h1 h2
    subst h1
    subst h2
    exact hs
end Go.Pal
namespace Go.Proofs.YtpflnkedolmamaaGreatDoor
open Go Go.RowKit Go.Pal
attribute [local go_sem] Oper.semAt_some

abbrev OwnQ3 := OwnR 82 1 slC
@[go_sem ↓ high] theorem build_rP (a b : Int) (w : World) : (Instr.build 189 #[(0, .int .i64 a), (1, .int .i64 b)]).run Tryz.prog w = .ok (.agg #[.int .i64 a, .int .i64 b]) w := by kernel_rfl
@[go_sem ↓ high] theorem buildSlice_rP (a b : Int) (w : World) : (Instr.buildSlice 117 1 #[(0, .agg #[.int .i64 a, .int .i64 b])]).run Tryz.prog w = .ok (.slice (some ⟨w.heap.size, 0, none⟩) 1 1) (w.alloc (.cells #[.int .i64 a, .int .i64 b] 189)) := by kernel_rfl
@[go_sem ↓ high] theorem buildSlice_rR (a : Option Addr) (n c : Nat) (w : World) : (Instr.buildSlice 116 1 #[(0, .slice a n c)]).run Tryz.prog w = .ok (.slice (some ⟨w.heap.size, 0, none⟩) 1 1) (w.alloc (.cells #[.slice a n c] 82)) := by kernel_rfl
/-- The state of Near: the rows of sets, the pairs that came. -/
structure NearSt (B : Nat) (w : World) (vo vc : Value) (L : List (Option Addr × Nat × Nat)) (rows : List Nat) (c : List (Int × Int)) : Prop where
  out : OwnQ3 B w vo L
  sets : Sets (fun j => vo.ownBlock ≠ some j ∧ vc.ownBlock ≠ some j) w L rows
  come : OwnQ2 B w vc c
  apart : ∀ j, vo.ownBlock = some j → vc.ownBlock ≠ some j
theorem NearSt.below {B : Nat} {w w' : World} {vo vc : Value} {L : List (Option Addr × Nat × Nat)} {rows : List Nat} {c : List (Int × Int)} (h : NearSt B w vo vc L rows c) (hb : Below w.heap.size w w') : NearSt B w' vo vc L rows c :=
  ⟨h.out.below hb (Nat.le_refl _), h.sets.keep hb.size fun k hk hA => ⟨hb.block k hk, hA⟩, h.come.below hb (Nat.le_refl _), h.apart⟩
theorem NearSt.near {w w' : World} {vo vc v' vn : Value} {ns : List Int} (h : RdA (fun j => vo.ownBlock ≠ some j ∧ vc.ownBlock ≠ some j) w vn ns) (hg : ∀ k, k < w.heap.size → vc.ownBlock ≠ some k → w'.heap[k]? = w.heap[k]?) (hs : w.heap.size ≤ w'.heap.size) (hl : v'.ownBlock = vc.ownBlock ∨ ∃ j, v'.ownBlock = some j ∧ w.heap.size ≤ j) : RdA (fun j => vo.ownBlock ≠ some j ∧ v'.ownBlock ≠ some j) w' vn ns := by
  refine h.keep hs fun k hk hA => ⟨hg k hk hA.2, hA.1, ?_⟩
  rcases hl with e | ⟨j, e, hj⟩
  · rw [e]; exact hA.2
  · rw [e]; intro e2; cases e2; omega
end Go.Proofs.YtpflnkedolmamaaGreatDoor
