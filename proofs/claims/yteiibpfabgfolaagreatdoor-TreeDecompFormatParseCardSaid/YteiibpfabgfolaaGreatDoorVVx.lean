/- Plain: the texts of vertices, edges and graphs as bytes; a graph is built by its own .. -/
import Derived.Test.YteiibpfabgfolaaGreatDoorVJpl
import Derived.Test.YteiibpfabgfolaaGreatDoorVVb
import Derived.Test.YteiibpfabgfolaaGreatDoorVGrH
import Derived.Test.YteiibpfabgfolaaGreatDoorVHx
import Derived.Test.YteiibpfabgfolaaGreatDoorVTrH
import Derived.Test.YteiibpfabgfolaaGreatDoorVMx
import Derived.Test.YteiibpfabgfolaaGreatDoorVOp
import Derived.Test.YteiibpfabgfolaaGreatDoorVGrf
import Derived.Test.YteiibpfabgfolaaGreatDoorVR1g
set_option linter.all false
namespace Go.Pal
open Go
end Go.Pal
namespace Go.Pal
open Go Go.RowKit
end Go.Pal
namespace Go.Proofs.YteiibpfabgfolaaGreatDoor
open Go Go.RowKit Go.Pal Go.Shelf
end Go.Proofs.YteiibpfabgfolaaGreatDoor
namespace Go.Pal
open Go Go.RowKit
section
variable {α : Type} {P : Program} {e : TypeId} {k : Nat} {enc : α → Array Value} {B g n cap : Nat} {w : World} {l : List α}
end
end Go.Pal
namespace Go.Proofs.YteiibpfabgfolaaGreatDoor
open Go Go.RowKit Go.Pal
end Go.Proofs.YteiibpfabgfolaaGreatDoor
namespace Go.Pal
open Go
section
variable {α β : Type} [DecidableEq α]
omit [DecidableEq α] in
end
def Runs : Gr → List Ed → Gr → Prop
 | A, [], B => A = B
 | A, e :: r, B => A.Ok ∧ e.Wf ∧ A.wrong e = 0 ∧ Runs (A.app e) r B
theorem Runs.trans : ∀ {l : List Ed} {A B : Gr} {m : List Ed} {C : Gr}, Runs A l B → Runs B m C → Runs A (l ++ m) C
 | [], A, B, m, C, h, h' => by
   have h : A = B := h
   rw [h]
   exact h'
 | e :: r, A, B, m, C, h, h' => ⟨h.1, h.2.1, h.2.2.1, Runs.trans h.2.2.2 h'⟩
theorem Runs.one {A : Gr} {e : Ed} (h : A.Ok) (he : e.Wf) (hw : A.wrong e = 0) : Runs A [e] (A.app e) := ⟨h, he, hw, rfl⟩
theorem Runs.at : ∀ {l : List Ed} {A B : Gr}, Runs A l B → ∀ {k : Nat} {e : Ed}, l[k]? = some e → ((l.take k).foldl Gr.app A).Ok ∧ e.Wf ∧ ((l.take k).foldl Gr.app A).wrong e = 0
 | [], _, _, _, k, e, h => by simp at h
 | x :: r, A, B, h, 0, e, he => by
   simp only [List.getElem?_cons_zero, Option.some.injEq] at he
   rw [← he]
   exact ⟨h.1, h.2.1, h.2.2.1⟩
 | x :: r, A, B, h, k + 1, e, he => by
   rw [List.getElem?_cons_succ] at he
   exact Runs.at h.2.2.2 he
theorem Runs.all : ∀ {l : List Ed} {A B : Gr}, Runs A l B → l.foldl Gr.app A = B
 | [], _, _, h => h
 | e :: r, A, B, h => by
   show r.foldl Gr.app (A.app e) = B
   exact Runs.all h.2.2.2
theorem InI.small {n : Int} (h0 : -1048576 ≤ n) (h1 : n ≤ 1048576) : InI n := ⟨by omega, by omega⟩
end Go.Pal
namespace Go.Proofs.YteiibpfabgfolaaGreatDoor
open Go Go.RowKit Go.Pal
attribute [local go_sem] Oper.semAt_some
@[go_sem ↓ high] theorem loadED (a : Addr) : loadVar 44 a = loadLater 44 a := rfl
@[go_sem] theorem loadED_run (w : World) (a : Addr) : (loadLater 44 a).run Tryz.prog w = rowLoad Tryz.prog 44 a w := rfl
end Go.Proofs.YteiibpfabgfolaaGreatDoor
namespace Go.Proofs.YteiibpfabgfolaaGreatDoor
open Go Go.ChangeShapes Go.WideShapes Go.RowKit Go.Pal Go.Deep
section
variable {H : Type} {enc : TypeId × Value → H} {w : World} {base : Nat} {spare : Nat → Bool} {held : Bool}
end
end Go.Proofs.YteiibpfabgfolaaGreatDoor
namespace Go.Pal
open Go
end Go.Pal
namespace Go.Proofs.YteiibpfabgfolaaGreatDoor
open Go Go.RowKit Go.Pal
attribute [local go_sem] Oper.semAt_some
theorem Rd.take {α : Type} {enc : α → Array Value} {k B : Nat} {w : World} {a : Option Addr} {n c : Nat} {xs : List α} (h : Rd enc k B w (.slice a n c) xs) (m : Nat) : Rd enc k B w (.slice a (xs.take m).length c) (xs.take m) := by
 obtain ⟨a', c', hv, h⟩ := h
 simp only [Value.slice.injEq] at hv
 obtain ⟨rfl, -, rfl⟩ := hv
 refine ⟨_, _, rfl, ?_⟩
 rcases h with rfl | ⟨b, off, ha, hb, hc⟩
 · exact .inl (by simp)
 · refine .inr ⟨b, off, ha, hb, fun i x hi => hc i x ?_⟩
   rw [List.getElem?_take] at hi
   split at hi
   · exact hi
   · cases hi
end Go.Proofs.YteiibpfabgfolaaGreatDoor
namespace Go.Pal
open Go Go.RowKit Go.ChangeMaps
section
variable {α β : Type} {C : Cod α β} {P : Program} {k : TypeId}
theorem ranges_tight {w : World} {R : Value → Option (DataW Unit × List MemPlace)} {b r n : Nat} {D : DataW Unit} {left : Lit → Bool} {cnt : Nat} (h : w.ranges P k R b r n D left cnt) : w.ranges P k R b r (Maps.size D) D left cnt := by
 obtain ⟨es, clock, since, seen, c0, hb, F, hs, rfl, hr⟩ := h
 exact ⟨es, clock, since, seen, c0, hb, F, by simp [Maps.size, length_sorted], rfl, hr⟩
theorem Rng.drop [DecidableEq α] {w : World} {b r : Nat} {l rest : List (α × β)} (h : Rng C P k w b r l rest) (G : C.Good P k) {t e : TypeId} (ht : P.underlying t = some (.map k e)) {x : α} (hx : C.ok x) (hxr : ∀ p ∈ rest, p.1 ≠ x) (ty : TypeId) :
   ∃ w', (Builtin.delete_ #[t, k] ty #[.map (some b), C.key x]).run P w = .ok (.tuple #[]) w' ∧ Rng C P k w' b r (Pal.del x l) rest ∧ w.grownBy w' (some b) ∧ w'.heap.size = w.heap.size ∧ w'.rangeLeft b r ≤ w.rangeLeft b r := by
 obtain ⟨D, left, cnt, h1, h2, h3, h4, h5⟩ := h
 obtain ⟨w', cnt', hrun, hr', hle, hg⟩ := h1.drop G.keyed ht (G.keyOf x hx) ty
 have hD' := MRd.del G h2 hx
 refine ⟨w', hrun, ⟨_, _, cnt', by rw [← hD'.size]; exact ranges_tight hr', hD', fun p hp => mem_del.2 ⟨h3 p hp, hxr p hp⟩, h4, fun kk => ?_⟩, hg.grown, ?_, ?_⟩
 · show (left kk && !kk.sameKey (C.kl x)) = _
   rw [h5, Bool.eq_iff_iff, Bool.and_eq_true]
   constructor
   · exact fun h => h.1
   · intro hk
     refine ⟨hk, ?_⟩
     obtain ⟨p, hp, hs⟩ := List.any_eq_true.1 hk
     have := WideAt.sameKey_eq hs
     rw [← this, Maps.sameKey_ne (kl_ne G (h2.ok p (h3 p hp)) hx (hxr p hp))]
     rfl
 · obtain ⟨es, clock, es', clock', -, rfl⟩ := hg
   simp [setBlock]
 · rw [h1.left_eq, hr'.left_eq]
   exact hle
end
end Go.Pal
namespace Go.Proofs.YteiibpfabgfolaaGreatDoor
open Go Go.RowKit Go.Pal
attribute [local go_sem] Oper.semAt_some
@[go_sem ↓ high] theorem loadEN (a : Addr) : loadVar 131 a = loadLater 131 a := rfl
@[go_sem] theorem loadEN_run (w : World) (a : Addr) : (loadLater 131 a).run Tryz.prog w = rowLoad Tryz.prog 131 a w := rfl
@[go_sem] theorem loadEN_at (w : World) (g : Nat) : rowLoad Tryz.prog 131 ⟨g, 0, none⟩ w = match row? w g with
     | some c => if c.size = 2 then .ok (.agg c) w else laterLoad Tryz.prog 131 ⟨g, 0, none⟩ w
     | none => laterLoad Tryz.prog 131 ⟨g, 0, none⟩ w := load_row Tryz.isAgg131 Tryz.sizeOf131 w g
end Go.Proofs.YteiibpfabgfolaaGreatDoor
namespace Go.Pal
open Go Go.RowKit
section
variable {α : Type} {P : Program} {e : TypeId} {k : Nat} {enc : α → Array Value}
end
end Go.Pal
namespace Go.Proofs.YteiibpfabgfolaaGreatDoor
open Go Go.RowKit Go.Pal
attribute [local go_sem] Oper.semAt_some
def GPtr (w : World) (p : Value) (G : Gr) : Prop := (p = .pointer none ∧ G = Gr.none) ∨ ∃ g bV bE, p = .pointer (some ⟨g, 0, none⟩) ∧ GOk w g bV bE G
theorem GPtr.below {w w' : World} {p : Value} {G : Gr} (h : GPtr w p G) (hb : Below w.heap.size w w') : GPtr w' p G := h.imp id fun ⟨g, bV, bE, h1, h2⟩ => ⟨g, bV, bE, h1, h2.below hb⟩
theorem GPtr.of {w : World} {g bV bE : Nat} {G : Gr} (h : GOk w g bV bE G) : GPtr w (.pointer (some ⟨g, 0, none⟩)) G := .inr ⟨g, bV, bE, rfl, h⟩
end Go.Proofs.YteiibpfabgfolaaGreatDoor
