/-
  Walks of package treedecomp: slices.Delete of one bag of a tree.
  One element of a row changed in place; trees of bags copied into a row of the call's own.
  An element of a row stored anew, whole; two elements swapped; the ends of an edge swapped in place.
-/
import Derived.Test.YtiojidabmlbogaaGreatDoorQGQ
import Derived.Deep.RegionLaw
import Derived.Lib.LazyBuf
import Derived.Test.YtiojidabmlbogaaGreatDoorQShelf
import Derived.Test.YtiojidabmlbogaaGreatDoorQGrH
import Derived.Test.YtiojidabmlbogaaGreatDoorQVa
set_option linter.unusedSimpArgs false
set_option linter.unusedVariables false
namespace Go.Pal
open Go Go.RowKit
section
variable {α : Type} {P : Program} {e : TypeId} {k : Nat} {enc : α → Array Value} {B g n cap : Nat} {w : World} {l : List α}
theorem row_own (h : OwnR e k enc B w (.slice (some ⟨g, 0, none⟩) n cap) l) : ∃ f, w.rowIs g e (cap * k) f ∧ (∀ j u, (encC enc l)[j]? = some u → f j = u) ∧ l.length ≤ cap ∧ cap ≤ maxLen ∧ B ≤ g ∧ n = l.length := by
  obtain ⟨h1, h2⟩ := h
  rcases h2 with ⟨h2, _⟩ | ⟨g', cap', cur, h2, hB, hg, hn, hm, hsz, ht⟩
  · cases h2
  · simp only [Value.slice.injEq, Option.some.injEq, Addr.mk.injEq, and_true] at h2
    obtain ⟨rfl, rfl, rfl⟩ := h2
    refine ⟨fun j => cur[j]?.getD undef, ⟨cur, hg, hsz, fun i hi => by
      show cur[i]? = some (cur[i]?.getD undef)
      rw [Array.getElem?_eq_getElem (by omega)]
      rfl⟩, fun j u hu => ?_, hn, hm, hB, rfl⟩
    rw [← ht, List.getElem?_take] at hu
    split at hu
    · rw [Array.getElem?_toList] at hu
      simp [hu]
    · cases hu
theorem own_row (E : ElT P e k enc) {f : Nat → Value} (hr : w.rowIs g e (cap * k) f) (h : ∀ j u, (encC enc l)[j]? = some u → f j = u) (hl : l.length ≤ cap) (hm : cap ≤ maxLen) (hB : B ≤ g) : OwnR e k enc B w (.slice (some ⟨g, 0, none⟩) l.length cap) l := by
  obtain ⟨cur, hg, hsz, hc⟩ := hr
  refine ⟨encC_length E l, .inr ⟨g, cap, cur, rfl, hB, hg, hl, hm, hsz, ?_⟩⟩
  have hle : l.length * k ≤ cap * k := Nat.mul_le_mul_right k hl
  apply List.ext_getElem?
  intro j
  rw [List.getElem?_take, Array.getElem?_toList]
  split
  · rename_i hj
    obtain ⟨u, hu⟩ : ∃ u, (encC enc l)[j]? = some u := ⟨_, List.getElem?_eq_getElem (by rw [encC_length E]; exact hj)⟩
    rw [hu, hc j (by omega), h j u hu]
  · rw [List.getElem?_eq_none (by rw [encC_length E]; omega)]
end
theorem Same.setCells {A : Nat → Prop} {g : Nat} (h : ¬ A g) : ∀ (vs : List Value) (o : Nat) (w : World), Same A w (w.setCells g o vs)
  | [], _, _ => Same.refl _ _
  | v :: r, o, w => (Same.setCell A w ⟨g, o, none⟩ v h).trans (Same.setCells h r (o + 1) _)
end Go.Pal
namespace Go.Proofs.YtiojidabmlbogaaGreatDoor
open Go Go.RowKit Go.Pal
attribute [local go_sem] Oper.semAt_some

end Go.Proofs.YtiojidabmlbogaaGreatDoor
namespace Go.Pal
open Go Go.RowKit
section
variable {α : Type} {P : Program} {e : TypeId} {k : Nat} {enc : α → Array Value} {B g n cap : Nat} {w : World} {l : List α}
theorem encC_at (E : ElT P e k enc) : ∀ {l : List α} {m : Nat} {u : Value}, (encC enc l)[m]? = some u → ∃ a b x, l[a]? = some x ∧ (enc x)[b]? = some u ∧ m = a * k + b
  | [], m, u, h => by simp [encC] at h
  | y :: r, m, u, h => by
    rw [show encC enc (y :: r) = (enc y).toList ++ encC enc r from rfl] at h
    have hy : (enc y).toList.length = k := by rw [Array.length_toList, E.size]
    by_cases hm : m < k
    · rw [List.getElem?_append_left (by omega)] at h
      exact ⟨0, m, y, rfl, by simpa using h, by omega⟩
    · rw [List.getElem?_append_right (by omega), hy] at h
      obtain ⟨a, b, x, h1, h2, h3⟩ := encC_at E h
      exact ⟨a + 1, b, x, by simpa using h1, h2, by rw [Nat.add_mul]; omega⟩
/-- Some cells of one element are stored anew. -/
theorem own_patch (E : ElT P e k enc) (hO : OwnR e k enc B w (.slice (some ⟨g, 0, none⟩) n cap) l) {i : Nat} {x y : α} (hx : l[i]? = some x) (o : Nat) (vs : List Value) (hfit : o + vs.length ≤ k)
    (hy : ∀ j u, (enc y)[j]? = some u → if o ≤ j ∧ j < o + vs.length then vs[j - o]? = some u else (enc x)[j]? = some u) : OwnR e k enc B (w.setCells g (i * k + o) vs) (.slice (some ⟨g, 0, none⟩) n cap) (l.set i y) := by
  obtain ⟨f, hrow, hf, hcap, hm, hB, rfl⟩ := row_own hO
  have hr := rowIs_setCells vs (i * k + o) w f hrow
  have hi := (List.getElem?_eq_some_iff.1 hx).1
  have hl : (l.set i y).length = l.length := by simp
  rw [← hl] at hcap ⊢
  refine own_row E hr (fun j u hu => ?_) hcap hm hB
  obtain ⟨a, b, z, ha, hb, rfl⟩ := encC_at E hu
  have hbk : b < k := by have := (Array.getElem?_eq_some_iff.1 hb).1; rwa [E.size] at this
  show (if _ then _ else _) = u
  by_cases hai : a = i
  · subst hai
    rw [List.getElem?_set_self hi] at ha
    cases ha
    have := hy b u hb
    by_cases hin : o ≤ b ∧ b < o + vs.length
    · rw [if_pos hin] at this
      rw [if_pos (by omega), show a * k + b - (a * k + o) = b - o by omega, this]
      rfl
    · rw [if_neg hin] at this
      rw [if_neg (by omega)]
      exact hf _ _ (encC_get E hx this)
  · rw [List.getElem?_set_ne (fun h => hai h.symm)] at ha
    have hne : ¬ (i * k + o ≤ a * k + b ∧ a * k + b < i * k + o + vs.length) := by
      rcases Nat.lt_or_ge a i with h | h
      · have := Nat.mul_le_mul_right k (show a + 1 ≤ i from h)
        rw [Nat.add_mul] at this
        omega
      · have := Nat.mul_le_mul_right k (show i + 1 ≤ a by omega)
        rw [Nat.add_mul] at this
        omega
    rw [if_neg hne]
    exact hf _ _ (encC_get E ha hb)
end
end Go.Pal
namespace Go.Proofs.YtiojidabmlbogaaGreatDoor
open Go Go.RowKit Go.Pal Go.Shelf
end Go.Proofs.YtiojidabmlbogaaGreatDoor
namespace Go.Pal
open Go Go.RowKit
section
variable {α : Type} {P : Program} {e : TypeId} {k : Nat} {enc : α → Array Value} {B g n cap : Nat} {w : World} {l : List α}
theorem own_store (E : ElT P e k enc) (hsz : ∀ w, (sizeOf e).run P w = .ok k w) (hO : OwnR e k enc B w (.slice (some ⟨g, 0, none⟩) n cap) l) {i : Nat} {x : α} (hx : l[i]? = some x) (y : α) :
    rowStore P e ⟨g, i * k, none⟩ (.agg (enc y)) w = .ok () (w.setCells g (i * k) (enc y).toList) ∧ OwnR e k enc B (w.setCells g (i * k) (enc y).toList) (.slice (some ⟨g, 0, none⟩) n cap) (l.set i y) := by
  constructor
  · obtain ⟨f, hrow, hf, hcap, hm, hB, rfl⟩ := row_own hO
    have hi := (List.getElem?_eq_some_iff.1 hx).1
    have hle : (i + 1) * k ≤ cap * k := Nat.mul_le_mul_right k (by omega)
    rw [Nat.add_mul] at hle
    have hst := run_storeCells_cells (P := P) g (i * k) (enc y).toList 0 w (fun j hj => by
      rw [Array.length_toList, E.size] at hj
      rw [hrow.cell (by omega)]; rfl) (fun j hj => hrow.frozen _) (fun v hv => E.one y v hv)
    simp only [Nat.add_zero] at hst
    unfold rowStore
    simp [storeVar, Sem.run_bind, hsz, Value.cells, E.size, hst]
  · have h := own_patch (y := y) E hO hx 0 (enc y).toList (by rw [Array.length_toList, E.size]; omega) fun j u hu => by
      have hj := (Array.getElem?_eq_some_iff.1 hu).1
      rw [if_pos ⟨by omega, by rw [Array.length_toList]; omega⟩]
      simpa using hu
    exact h
theorem own_load (E : ElT P e k enc) (hagg : ∀ w, (isAgg e).run P w = .ok true w) (hsz : ∀ w, (sizeOf e).run P w = .ok k w) (hO : OwnR e k enc B w (.slice (some ⟨g, 0, none⟩) n cap) l) {i : Nat} {x : α} (hx : l[i]? = some x) (W : World) (hW : W.heap = w.heap) :
    rowLoad P e ⟨g, i * k, none⟩ W = .ok (.agg (enc x)) W := by
  refine load_cells hagg hsz W g _ (enc x) (E.size x) fun j u hu => ?_
  obtain ⟨f, hrow, hf, hcap, hm, hB, rfl⟩ := row_own hO
  have hi := (List.getElem?_eq_some_iff.1 hx).1
  have hj : j < k := by have := (Array.getElem?_eq_some_iff.1 hu).1; rwa [E.size] at this
  have hle : (i + 1) * k ≤ cap * k := Nat.mul_le_mul_right k (by omega)
  rw [Nat.add_mul] at hle
  have h1 : w.cell? ⟨g, i * k + j, none⟩ = some u := by
    rw [hrow.cell (by omega)]
    exact congrArg some (hf _ _ (encC_get E hx hu))
  rw [← h1]
  unfold World.cell?
  rw [hW]
end
theorem below_cellsN {B g : Nat} {a w : World} (h : Below B a w) (hg : B ≤ g) (hs : B ≤ w.heap.size) (o : Nat) (vs : List Value) : Below B a (w.setCells g o vs) :=
  h.trans ((Same.setCells (A := fun j => j < B) (g := g) (by omega) vs o w).below hs fun j hj => hj)
theorem perm_set_swap {α : Type} {l : List α} {i j : Nat} {a b : α} (hi : l[i]? = some a) (hj : l[j]? = some b) : ((l.set i b).set j a).Perm l := by
  obtain ⟨h1, h2⟩ := List.getElem?_eq_some_iff.1 hi
  obtain ⟨h3, h4⟩ := List.getElem?_eq_some_iff.1 hj
  have := Array.swap_perm (xs := l.toArray) (i := i) (j := j) (by simpa using h1) (by simpa using h3)
  rw [Array.perm_iff_toList_perm, Array.toList_swap] at this
  simpa [h2, h4] using this
theorem map_set_flip {l : List ((Int × Int) × Th)} {i : Nat} {x : (Int × Int) × Th} (hx : l[i]? = some x) : (l.set i (flipE x)).map nrmE = l.map nrmE := by
  rw [List.map_set, nrm_flip]
  obtain ⟨h1, rfl⟩ := List.getElem?_eq_some_iff.1 hx
  apply List.ext_getElem?
  intro m
  rw [List.getElem?_set]
  split
  · rename_i hm
    subst hm
    simp [h1]
  · rfl
end Go.Pal
namespace Go.Proofs.YtiojidabmlbogaaGreatDoor
open Go Go.RowKit Go.Pal
theorem own_ne {α β : Type} {e e' : TypeId} {k k' : Nat} {enc : α → Array Value} {enc' : β → Array Value} {B B' g g' n n' c c' : Nat} {w : World} {l : List α} {l' : List β} (h : OwnR e k enc B w (.slice (some ⟨g, 0, none⟩) n c) l) (h' : OwnR e' k' enc' B' w (.slice (some ⟨g', 0, none⟩) n' c') l') (he : e ≠ e') : g ≠ g' := by
  rintro rfl
  rcases h.2 with ⟨h1, -⟩ | ⟨a, b, d, h1, -, h2, -⟩
  · cases h1
  · rcases h'.2 with ⟨h3, -⟩ | ⟨a', b', d', h3, -, h4, -⟩
    · cases h3
    · simp only [Value.slice.injEq, Option.some.injEq, Addr.mk.injEq] at h1 h3
      rw [← h1.1.1] at h2
      rw [← h3.1.1, h2] at h4
      simp only [Option.some.injEq, Obj.cells.injEq] at h4
      exact he h4.2.1
/-- The ends of an edge of an own row swapped, cell by cell. -/
theorem own_flip {l : List ((Int × Int) × Th)} {B g n cap : Nat} {w : World} (hO : OwnE B w (.slice (some ⟨g, 0, none⟩) n cap) l) {i : Nat} {u v : Int} {t : Th} (hx : l[i]? = some ((u, v), t)) :
    OwnE B ((w.setCell ⟨g, i * 4, none⟩ (.int .i64 v)).setCell ⟨g, i * 4 + 1, none⟩ (.int .i64 u)) (.slice (some ⟨g, 0, none⟩) n cap) (l.set i ((v, u), t)) := by
  have h1 := own_patch (y := ((v, v), t)) elE hO hx 0 [.int .i64 v] (by simp) fun j c hc => by
    match j, hc with
    | 0, hc => simpa [edgA] using hc
    | 1, hc => simpa [edgA] using hc
    | 2, hc => simpa [edgA] using hc
    | 3, hc => simpa [edgA] using hc
    | j + 4, hc => simp [edgA] at hc
  have hx2 : (l.set i ((v, v), t))[i]? = some ((v, v), t) := by
    have := (List.getElem?_eq_some_iff.1 hx).1
    simp [this]
  have h2 := own_patch (y := ((v, u), t)) elE h1 hx2 1 [.int .i64 u] (by simp) fun j c hc => by
    match j, hc with
    | 0, hc => simpa [edgA] using hc
    | 1, hc => simpa [edgA] using hc
    | 2, hc => simpa [edgA] using hc
    | 3, hc => simpa [edgA] using hc
    | j + 4, hc => simp [edgA] at hc
  rw [List.set_set] at h2
  simpa [World.setCells] using h2
theorem own_edge_cells {l : List ((Int × Int) × Th)} {B g n cap : Nat} {w : World} (hO : OwnE B w (.slice (some ⟨g, 0, none⟩) n cap) l) {i : Nat} {u v : Int} {t : Th} (hx : l[i]? = some ((u, v), t)) :
    w.cell? ⟨g, i * 4, none⟩ = some (.int .i64 u) ∧ w.cell? ⟨g, i * 4 + 1, none⟩ = some (.int .i64 v) ∧ (∀ j, w.frozen? ⟨g, j, none⟩ = false) := by
  obtain ⟨f, hrow, hf, hcap, hm, hB, rfl⟩ := row_own hO
  have hi := (List.getElem?_eq_some_iff.1 hx).1
  refine ⟨?_, ?_, fun j => hrow.frozen _⟩
  · rw [hrow.cell (by omega)]
    exact congrArg some (hf _ _ (encC_get elE hx (j := 0) (u := .int .i64 u) rfl))
  · rw [hrow.cell (by omega)]
    exact congrArg some (hf _ _ (encC_get elE hx (j := 1) (u := .int .i64 v) rfl))
end Go.Proofs.YtiojidabmlbogaaGreatDoor
