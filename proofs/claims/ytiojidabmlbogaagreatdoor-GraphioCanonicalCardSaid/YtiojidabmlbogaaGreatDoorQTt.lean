/-
  Walks of package treedecomp: below (the children of each bag).
  Walks of package treedecomp: depths.
  Walks of package treedecomp: depths, for a tree with one root.
  Walks of package treedecomp: tops, Check of a valid tree.
  The cells of a tree of bags, one behind the other. No program.
-/
import Derived.Test.YtiojidabmlbogaaGreatDoorQTree2
import Derived.Test.YtiojidabmlbogaaGreatDoorQRule
import Derived.Test.YtiojidabmlbogaaGreatDoorQPlain
set_option linter.unusedSimpArgs false
set_option linter.unusedVariables false
namespace Go.Proofs.YtiojidabmlbogaaGreatDoor
open Go Go.RowKit Go.Pal

/-- A row of rows of the call's own: block B holds the slice values vs, each a row of integers in a block of its own beyond B. -/
structure Grid (B : Nat) (w : World) (vs : List Value) (f : Nat → List Int) : Prop where
  row : row? w B = some vs.toArray
  own : ∀ (b : Nat) v, vs[b]? = some v → OwnI (B + 1) w v (f b)
  apart : ∀ (b b' : Nat) v v' g, b ≠ b' → vs[b]? = some v → vs[b']? = some v' → v.ownBlock = some g → v'.ownBlock ≠ some g

theorem OwnI.grown {B : Nat} {w w' : World} {v u : Value} {ns : List Int} (h : OwnI B w v ns) (hg : ∀ i, i < w.heap.size → some i ≠ u.ownBlock → w'.heap[i]? = w.heap[i]?) (hne : ∀ g, v.ownBlock = some g → u.ownBlock ≠ some g) : OwnI B w' v ns := by
  obtain ⟨h1, h2⟩ := h
  refine ⟨h1, h2.imp id ?_⟩
  rintro ⟨g, cap, cur, rfl, hb, hh, r⟩
  exact ⟨g, cap, cur, rfl, hb, by rw [hg g (Array.getElem?_eq_some_iff.1 hh).1 (fun e => hne g rfl e.symm)]; exact hh, r⟩
theorem OwnI.same {B : Nat} {w w' : World} {v : Value} {ns : List Int} (h : OwnI B w v ns) (hb : ∀ g, v.ownBlock = some g → w'.heap[g]? = w.heap[g]?) : OwnI B w' v ns := by
  obtain ⟨h1, h2⟩ := h
  refine ⟨h1, h2.imp id ?_⟩
  rintro ⟨g, cap, cur, rfl, hb', hh, r⟩
  exact ⟨g, cap, cur, rfl, hb', (hb g rfl).trans hh, r⟩
theorem OwnI.lt {B : Nat} {w : World} {v : Value} {ns : List Int} (h : OwnI B w v ns) : ∀ k, v.ownBlock = some k → k < w.heap.size := by
  intro k hk
  rcases h.2 with ⟨rfl, _⟩ | ⟨g, cap, cur, rfl, _, hh, _⟩
  · cases hk
  · simp only [Value.ownBlock, Option.some.injEq] at hk
    subst hk
    exact (Array.getElem?_eq_some_iff.1 hh).1
theorem OwnI.slice {B : Nat} {w : World} {v : Value} {ns : List Int} (h : OwnI B w v ns) : ∃ q n c, v = .slice q n c := by
  rcases h.2 with ⟨rfl, _⟩ | ⟨g, cap, cur, rfl, _⟩ <;> exact ⟨_, _, _, rfl⟩
theorem OwnI.len {B : Nat} {w : World} {q : Option Addr} {n c : Nat} {ns : List Int} (h : OwnI B w (.slice q n c) ns) : n = ns.length := by
  rcases h.2 with ⟨h1, h2⟩ | ⟨g, cap, cur, h1, _⟩
  · cases h1; exact h2.symm
  · cases h1; rfl
theorem OwnI.cell {B : Nat} {w : World} {q : Option Addr} {n c : Nat} {ns : List Int} {j : Nat} {z : Int} (h : OwnI B w (.slice q n c) ns) (hz : ns[j]? = some z) :
    ∃ g, q = some ⟨g, 0, none⟩ ∧ B ≤ g ∧ g < w.heap.size ∧ w.cell? ⟨g, j, none⟩ = some (.int .i64 z) := by
  have hj : j < ns.length := (List.getElem?_eq_some_iff.1 hz).1
  rcases h.2 with ⟨h1, h2⟩ | ⟨g, cap, cur, h1, hb, hh, _, _, _, ht⟩
  · omega
  · cases h1
    refine ⟨g, rfl, hb, (Array.getElem?_eq_some_iff.1 hh).1, ?_⟩
    rw [cell_of_row w g j cur _ (0, 0) hh]
    have : (cur.toList.take (ns.length * 1))[j]? = some (.int .i64 z) := by rw [ht, List.getElem?_map, hz]; rfl
    rw [List.getElem?_take, if_pos (by omega)] at this
    simpa using this
theorem Grid.same {B : Nat} {w w' : World} {vs : List Value} {f : Nat → List Int} (h : Grid B w vs f) (hb : ∀ k, B ≤ k → k < w.heap.size → w'.heap[k]? = w.heap[k]?) : Grid B w' vs f :=
  ⟨(row?_congr (hb B (Nat.le_refl _) (row?_lt h.row))).trans h.row, fun b v hv => (h.own b v hv).same fun g hg => hb g (by have := (h.own b v hv).block g hg; omega) ((h.own b v hv).lt g hg), h.apart⟩
end Go.Proofs.YtiojidabmlbogaaGreatDoor
namespace Go.Proofs.YtiojidabmlbogaaGreatDoor
open Go Go.RowKit Go.Pal

/-- What the walk down of depths finds: boxes and rows. -/
structure DSt (n gD gO gF gG gK gW : Nat) (vs : List Value) (kids : Nat → List Int) (ds : List Int) (found : Nat) (w : World) : Prop where
  data : row? w gD = some (ds.map (Value.int .i64)).toArray
  out : row? w gO = some #[.slice (some ⟨gD, 0, none⟩) n n]
  cnt : row? w gF = some #[.int .i64 (found : Int)]
  box : row? w gK = some #[.slice (some ⟨gG, 0, none⟩) n n]
  grid : Grid gG w vs kids
  fn : row? w gW = some #[.func (.func 204) #[] #[.pointer (some ⟨gO, 0, none⟩), .pointer (some ⟨gF, 0, none⟩), .pointer (some ⟨gK, 0, none⟩), .pointer (some ⟨gW, 0, none⟩)]]

theorem DSt.of_same {n gD gO gF gG gK gW : Nat} {vs : List Value} {kids : Nat → List Int} {ds : List Int} {found : Nat} {w w' : World} (h : DSt n gD gO gF gG gK gW vs kids ds found w) (hs : ∀ k, k < w.heap.size → w'.heap[k]? = w.heap[k]?) : DSt n gD gO gF gG gK gW vs kids ds found w' :=
  ⟨(row?_congr (hs _ (row?_lt h.data))).trans h.data, (row?_congr (hs _ (row?_lt h.out))).trans h.out, (row?_congr (hs _ (row?_lt h.cnt))).trans h.cnt, (row?_congr (hs _ (row?_lt h.box))).trans h.box, h.grid.same fun k _ hk => hs k hk, (row?_congr (hs _ (row?_lt h.fn))).trans h.fn⟩

end Go.Proofs.YtiojidabmlbogaaGreatDoor
namespace Go.Proofs.YtiojidabmlbogaaGreatDoor
open Go Go.RowKit Go.Pal

@[go_sem] theorem run_storeFunc (P : Program) (w : World) (a : Addr) (m : Mode) (fn : Fn) (first captured : Array Value) : (store a (.func fn first captured) m).run P w = stored P w a (.func fn first captured) m := run_store P w a _ m rfl

end Go.Proofs.YtiojidabmlbogaaGreatDoor
namespace Go.Proofs.YtiojidabmlbogaaGreatDoor
open Go Go.RowKit Go.Pal

end Go.Proofs.YtiojidabmlbogaaGreatDoor
namespace Go.Pal
open Go
end Go.Pal
