/- Walks of package elimination: Steps; an order that does not fit; a nil graph. Walks of .. -/
import Derived.Test.YtglnhnjmelilmaaGreatDoorRGx
import Derived.Test.YtglnhnjmelilmaaGreatDoorRR1g
import Derived.Test.YtglnhnjmelilmaaGreatDoorRRule
import Derived.Test.YtglnhnjmelilmaaGreatDoorRPlain
import Derived.Deep.RegionLaw
import Derived.Lib.LazyBuf
import Derived.Test.YtglnhnjmelilmaaGreatDoorProg
import Derived.Test.YtglnhnjmelilmaaGreatDoorRGrH
import Derived.Test.YtglnhnjmelilmaaGreatDoorRVa
set_option linter.all false
namespace Go.Pal
open Go
end Go.Pal
namespace Go.Proofs.YtglnhnjmelilmaaGreatDoor
open Go Go.RowKit Go.Pal
structure Grid (B : Nat) (w : World) (vs : List Value) (f : Nat → List Int) : Prop where
 row : row? w B = some vs.toArray
 own : ∀ (b : Nat) v, vs[b]? = some v → OwnI (B + 1) w v (f b)
 apart : ∀ (b b' : Nat) v v' g, b ≠ b' → vs[b]? = some v → vs[b']? = some v' → v.ownBlock = some g → v'.ownBlock ≠ some g
theorem OwnI.grown {B : Nat} {w w' : World} {v u : Value} {ns : List Int} (h : OwnI B w v ns) (hg : ∀ i, i < w.heap.size → some i ≠ u.ownBlock → w'.heap[i]? = w.heap[i]?) (hne : ∀ g, v.ownBlock = some g → u.ownBlock ≠ some g) : OwnI B w' v ns := by
 obtain ⟨h1, h2⟩ := h
 refine ⟨h1, h2.imp id ?_⟩
 rintro ⟨g, cap, cur, rfl, hb, hh, r⟩
 exact ⟨g, cap, cur, rfl, hb, by rw [hg g (Array.getElem?_eq_some_iff.1 hh).1 (fun e => hne g rfl e.symm)]; exact hh, r⟩
theorem OwnI.same {B : Nat} {w w' : World} {v : Value} {ns : List Int} (h : OwnI B w v ns) (hb : ∀ g, v.ownBlock = some g → w'.heap[g]? = w.heap[g]?) : OwnI B w' v ns := by
 obtain ⟨h1, h2⟩ := h
 refine ⟨h1, h2.imp id ?_⟩
 rintro ⟨g, cap, cur, rfl, hb', hh, r⟩
 exact ⟨g, cap, cur, rfl, hb', (hb g rfl).trans hh, r⟩
theorem OwnI.lt {B : Nat} {w : World} {v : Value} {ns : List Int} (h : OwnI B w v ns) : ∀ k, v.ownBlock = some k → k < w.heap.size := by
 intro k hk
 rcases h.2 with ⟨rfl, _⟩ | ⟨g, cap, cur, rfl, _, hh, _⟩
 · cases hk
 · simp only [Value.ownBlock, Option.some.injEq] at hk
   subst hk
   exact (Array.getElem?_eq_some_iff.1 hh).1
theorem OwnI.slice {B : Nat} {w : World} {v : Value} {ns : List Int} (h : OwnI B w v ns) : ∃ q n c, v = .slice q n c := by
 rcases h.2 with ⟨rfl, _⟩ | ⟨g, cap, cur, rfl, _⟩ <;> exact ⟨_, _, _, rfl⟩
theorem OwnI.len {B : Nat} {w : World} {q : Option Addr} {n c : Nat} {ns : List Int} (h : OwnI B w (.slice q n c) ns) : n = ns.length := by
 rcases h.2 with ⟨h1, h2⟩ | ⟨g, cap, cur, h1, _⟩
 · cases h1; exact h2.symm
 · cases h1; rfl
theorem OwnI.cell {B : Nat} {w : World} {q : Option Addr} {n c : Nat} {ns : List Int} {j : Nat} {z : Int} (h : OwnI B w (.slice q n c) ns) (hz : ns[j]? = some z) :
   ∃ g, q = some ⟨g, 0, none⟩ ∧ B ≤ g ∧ g < w.heap.size ∧ w.cell? ⟨g, j, none⟩ = some (.int .i64 z) := by
 have hj : j < ns.length := (List.getElem?_eq_some_iff.1 hz).1
 rcases h.2 with ⟨h1, h2⟩ | ⟨g, cap, cur, h1, hb, hh, _, _, _, ht⟩
 · omega
 · cases h1
   refine ⟨g, rfl, hb, (Array.getElem?_eq_some_iff.1 hh).1, ?_⟩
   rw [cell_of_row w g j cur _ (0, 0) hh]
   have : (cur.toList.take (ns.length * 1))[j]? = some (.int .i64 z) := by rw [ht, List.getElem?_map, hz]; rfl
   rw [List.getElem?_take, if_pos (by omega)] at this
   simpa using this
theorem Grid.same {B : Nat} {w w' : World} {vs : List Value} {f : Nat → List Int} (h : Grid B w vs f) (hb : ∀ k, B ≤ k → k < w.heap.size → w'.heap[k]? = w.heap[k]?) : Grid B w' vs f :=
 ⟨(row?_congr (hb B (Nat.le_refl _) (row?_lt h.row))).trans h.row, fun b v hv => (h.own b v hv).same fun g hg => hb g (by have := (h.own b v hv).block g hg; omega) ((h.own b v hv).lt g hg), h.apart⟩
@[go_sem] theorem run_storeFunc (P : Program) (w : World) (a : Addr) (m : Mode) (fn : Fn) (first captured : Array Value) : (store a (.func fn first captured) m).run P w = stored P w a (.func fn first captured) m := run_store P w a _ m rfl
end Go.Proofs.YtglnhnjmelilmaaGreatDoor
namespace Go.Pal
open Go
end Go.Pal
namespace Go.Pal
open Go Go.RowKit
section
variable {α : Type} {P : Program} {e : TypeId} {k : Nat} {enc : α → Array Value}
end
end Go.Pal
namespace Go.Proofs.YtglnhnjmelilmaaGreatDoor
open Go Go.RowKit Go.Pal
end Go.Proofs.YtglnhnjmelilmaaGreatDoor
namespace Go.Pal
open Go
end Go.Pal
namespace Go.Proofs.YtglnhnjmelilmaaGreatDoor
open Go Go.RowKit Go.Pal
attribute [local go_sem] Oper.semAt_some
end Go.Proofs.YtglnhnjmelilmaaGreatDoor
namespace Go.Pal
open Go
end Go.Pal
namespace Go.Proofs.YtglnhnjmelilmaaGreatDoor
open Go Go.RowKit Go.Pal
attribute [local go_sem] Oper.semAt_some
end Go.Proofs.YtglnhnjmelilmaaGreatDoor
namespace Go.Pal
open Go
end Go.Pal
namespace Go.Proofs.YtglnhnjmelilmaaGreatDoor
open Go Go.RowKit Go.Pal
attribute [local go_sem] Oper.semAt_some
end Go.Proofs.YtglnhnjmelilmaaGreatDoor
namespace Go.Pal
open Go Go.RowKit
section
variable {α : Type} {P : Program} {e : TypeId} {k : Nat} {enc : α → Array Value} {B g n cap : Nat} {w : World} {l : List α}
theorem row_own (h : OwnR e k enc B w (.slice (some ⟨g, 0, none⟩) n cap) l) : ∃ f, w.rowIs g e (cap * k) f ∧ (∀ j u, (encC enc l)[j]? = some u → f j = u) ∧ l.length ≤ cap ∧ cap ≤ maxLen ∧ B ≤ g ∧ n = l.length := by
 obtain ⟨h1, h2⟩ := h
 rcases h2 with ⟨h2, _⟩ | ⟨g', cap', cur, h2, hB, hg, hn, hm, hsz, ht⟩
 · cases h2
 · simp only [Value.slice.injEq, Option.some.injEq, Addr.mk.injEq, and_true] at h2
   obtain ⟨rfl, rfl, rfl⟩ := h2
   refine ⟨fun j => cur[j]?.getD undef, ⟨cur, hg, hsz, fun i hi => by
     show cur[i]? = some (cur[i]?.getD undef)
     rw [Array.getElem?_eq_getElem (by omega)]
     rfl⟩, fun j u hu => ?_, hn, hm, hB, rfl⟩
   rw [← ht, List.getElem?_take] at hu
   split at hu
   · rw [Array.getElem?_toList] at hu
     simp [hu]
   · cases hu
end
end Go.Pal
namespace Go.Proofs.YtglnhnjmelilmaaGreatDoor
open Go Go.RowKit Go.Pal
attribute [local go_sem] Oper.semAt_some
end Go.Proofs.YtglnhnjmelilmaaGreatDoor
namespace Go.Proofs.YtglnhnjmelilmaaGreatDoor
end Go.Proofs.YtglnhnjmelilmaaGreatDoor
namespace Go.Proofs.YtglnhnjmelilmaaGreatDoor
open Go Go.RowKit Go.Pal Go.Shelf
end Go.Proofs.YtglnhnjmelilmaaGreatDoor
namespace Go.Pal
open Go Go.RowKit
section
variable {α : Type} {P : Program} {e : TypeId} {k : Nat} {enc : α → Array Value} {B g n cap : Nat} {w : World} {l : List α}
end
end Go.Pal
namespace Go.Proofs.YtglnhnjmelilmaaGreatDoor
open Go Go.RowKit Go.Pal Go.Shelf
end Go.Proofs.YtglnhnjmelilmaaGreatDoor
namespace Go.Pal
open Go Go.RowKit
section
variable {α : Type} {P : Program} {e : TypeId} {k : Nat} {enc : α → Array Value} {B g n cap : Nat} {w : World} {l : List α}
theorem own_load (E : ElT P e k enc) (hagg : ∀ w, (isAgg e).run P w = .ok true w) (hsz : ∀ w, (sizeOf e).run P w = .ok k w) (hO : OwnR e k enc B w (.slice (some ⟨g, 0, none⟩) n cap) l) {i : Nat} {x : α} (hx : l[i]? = some x) (W : World) (hW : W.heap = w.heap) :
   rowLoad P e ⟨g, i * k, none⟩ W = .ok (.agg (enc x)) W := by
 refine load_cells hagg hsz W g _ (enc x) (E.size x) fun j u hu => ?_
 obtain ⟨f, hrow, hf, hcap, hm, hB, rfl⟩ := row_own hO
 have hi := (List.getElem?_eq_some_iff.1 hx).1
 have hj : j < k := by have := (Array.getElem?_eq_some_iff.1 hu).1; rwa [E.size] at this
 have hle : (i + 1) * k ≤ cap * k := Nat.mul_le_mul_right k (by omega)
 rw [Nat.add_mul] at hle
 have h1 : w.cell? ⟨g, i * k + j, none⟩ = some u := by
   rw [hrow.cell (by omega)]
   exact congrArg some (hf _ _ (encC_get E hx hu))
 rw [← h1]
 unfold World.cell?
 rw [hW]
end
end Go.Pal
namespace Go.Proofs.YtglnhnjmelilmaaGreatDoor
open Go Go.RowKit Go.Pal
theorem own_edge_cells {l : List ((Int × Int) × Th)} {B g n cap : Nat} {w : World} (hO : OwnE B w (.slice (some ⟨g, 0, none⟩) n cap) l) {i : Nat} {u v : Int} {t : Th} (hx : l[i]? = some ((u, v), t)) :
   w.cell? ⟨g, i * 4, none⟩ = some (.int .i64 u) ∧ w.cell? ⟨g, i * 4 + 1, none⟩ = some (.int .i64 v) ∧ (∀ j, w.frozen? ⟨g, j, none⟩ = false) := by
 obtain ⟨f, hrow, hf, hcap, hm, hB, rfl⟩ := row_own hO
 have hi := (List.getElem?_eq_some_iff.1 hx).1
 refine ⟨?_, ?_, fun j => hrow.frozen _⟩
 · rw [hrow.cell (by omega)]
   exact congrArg some (hf _ _ (encC_get elE hx (j := 0) (u := .int .i64 u) rfl))
 · rw [hrow.cell (by omega)]
   exact congrArg some (hf _ _ (encC_get elE hx (j := 1) (u := .int .i64 v) rfl))
end Go.Proofs.YtglnhnjmelilmaaGreatDoor
