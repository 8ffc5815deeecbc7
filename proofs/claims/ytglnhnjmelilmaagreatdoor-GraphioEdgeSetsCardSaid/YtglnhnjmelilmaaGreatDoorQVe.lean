/- Walks of package elimination: Steps; an order that does not fit; a nil graph. Walks of .. -/
import Derived.Test.YtglnhnjmelilmaaGreatDoorQGx
import Derived.Test.YtglnhnjmelilmaaGreatDoorQR1g
import Derived.Test.YtglnhnjmelilmaaGreatDoorQRule
import Derived.Test.YtglnhnjmelilmaaGreatDoorQPlain
import Derived.Deep.RegionLaw
import Derived.Lib.LazyBuf
import Derived.Test.YtglnhnjmelilmaaGreatDoorProg
import Derived.Test.YtglnhnjmelilmaaGreatDoorQGrH
import Derived.Test.YtglnhnjmelilmaaGreatDoorQVa
set_option linter.all false
namespace Go.Pal
open Go
def stepsTo (f : Nat → Nat) (o : List Nat) (k : Nat) : List Bg := (List.range k).map fun i => (((o.getD i 0 : Nat) : Int), gameAt f o i (o.getD i 0))
theorem stepsTo_succ {f : Nat → Nat} {o : List Nat} {k x : Nat} (h : o[k]? = some x) : stepsTo f o (k + 1) = stepsTo f o k ++ [((x : Int), gameAt f o k x)] := by
 unfold stepsTo
 rw [List.range_succ, List.map_append, List.map_singleton]
 have : o.getD k 0 = x := by rw [List.getD_eq_getElem?_getD, h]; rfl
 rw [this]
theorem stepsTo_length (f : Nat → Nat) (o : List Nat) (k : Nat) : (stepsTo f o k).length = k := by simp [stepsTo]
theorem stepsTo_get {f : Nat → Nat} {o : List Nat} {n k x : Nat} (hk : k < n) (h : o[k]? = some x) : (stepsTo f o n)[k]? = some ((x : Int), gameAt f o k x) := by
 unfold stepsTo
 rw [List.getElem?_map, List.getElem?_range hk]
 have : o[k]?.getD 0 = x := by rw [h]; rfl
 simp [this]
end Go.Pal
namespace Go.Proofs.YtglnhnjmelilmaaGreatDoor
open Go Go.RowKit Go.Pal
structure Grid (B : Nat) (w : World) (vs : List Value) (f : Nat → List Int) : Prop where
 row : row? w B = some vs.toArray
 own : ∀ (b : Nat) v, vs[b]? = some v → OwnI (B + 1) w v (f b)
 apart : ∀ (b b' : Nat) v v' g, b ≠ b' → vs[b]? = some v → vs[b']? = some v' → v.ownBlock = some g → v'.ownBlock ≠ some g
theorem infoInts : (Tryz.prog.info? 82).map (fun i => (i.zero, i.size, i.bytes)) = some (some (.slice none 0 0), 1, 24) := by kernel_rfl
theorem OwnI.grown {B : Nat} {w w' : World} {v u : Value} {ns : List Int} (h : OwnI B w v ns) (hg : ∀ i, i < w.heap.size → some i ≠ u.ownBlock → w'.heap[i]? = w.heap[i]?) (hne : ∀ g, v.ownBlock = some g → u.ownBlock ≠ some g) : OwnI B w' v ns := by
 obtain ⟨h1, h2⟩ := h
 refine ⟨h1, h2.imp id ?_⟩
 rintro ⟨g, cap, cur, rfl, hb, hh, r⟩
 exact ⟨g, cap, cur, rfl, hb, by rw [hg g (Array.getElem?_eq_some_iff.1 hh).1 (fun e => hne g rfl e.symm)]; exact hh, r⟩
theorem OwnI.same {B : Nat} {w w' : World} {v : Value} {ns : List Int} (h : OwnI B w v ns) (hb : ∀ g, v.ownBlock = some g → w'.heap[g]? = w.heap[g]?) : OwnI B w' v ns := by
 obtain ⟨h1, h2⟩ := h
 refine ⟨h1, h2.imp id ?_⟩
 rintro ⟨g, cap, cur, rfl, hb', hh, r⟩
 exact ⟨g, cap, cur, rfl, hb', (hb g rfl).trans hh, r⟩
theorem OwnI.lt {B : Nat} {w : World} {v : Value} {ns : List Int} (h : OwnI B w v ns) : ∀ k, v.ownBlock = some k → k < w.heap.size := by
 intro k hk
 rcases h.2 with ⟨rfl, _⟩ | ⟨g, cap, cur, rfl, _, hh, _⟩
 · cases hk
 · simp only [Value.ownBlock, Option.some.injEq] at hk
   subst hk
   exact (Array.getElem?_eq_some_iff.1 hh).1
theorem OwnI.slice {B : Nat} {w : World} {v : Value} {ns : List Int} (h : OwnI B w v ns) : ∃ q n c, v = .slice q n c := by
 rcases h.2 with ⟨rfl, _⟩ | ⟨g, cap, cur, rfl, _⟩ <;> exact ⟨_, _, _, rfl⟩
theorem OwnI.len {B : Nat} {w : World} {q : Option Addr} {n c : Nat} {ns : List Int} (h : OwnI B w (.slice q n c) ns) : n = ns.length := by
 rcases h.2 with ⟨h1, h2⟩ | ⟨g, cap, cur, h1, _⟩
 · cases h1; exact h2.symm
 · cases h1; rfl
theorem OwnI.cell {B : Nat} {w : World} {q : Option Addr} {n c : Nat} {ns : List Int} {j : Nat} {z : Int} (h : OwnI B w (.slice q n c) ns) (hz : ns[j]? = some z) :
   ∃ g, q = some ⟨g, 0, none⟩ ∧ B ≤ g ∧ g < w.heap.size ∧ w.cell? ⟨g, j, none⟩ = some (.int .i64 z) := by
 have hj : j < ns.length := (List.getElem?_eq_some_iff.1 hz).1
 rcases h.2 with ⟨h1, h2⟩ | ⟨g, cap, cur, h1, hb, hh, _, _, _, ht⟩
 · omega
 · cases h1
   refine ⟨g, rfl, hb, (Array.getElem?_eq_some_iff.1 hh).1, ?_⟩
   rw [cell_of_row w g j cur _ (0, 0) hh]
   have : (cur.toList.take (ns.length * 1))[j]? = some (.int .i64 z) := by rw [ht, List.getElem?_map, hz]; rfl
   rw [List.getElem?_take, if_pos (by omega)] at this
   simpa using this
theorem Grid.same {B : Nat} {w w' : World} {vs : List Value} {f : Nat → List Int} (h : Grid B w vs f) (hb : ∀ k, B ≤ k → k < w.heap.size → w'.heap[k]? = w.heap[k]?) : Grid B w' vs f :=
 ⟨(row?_congr (hb B (Nat.le_refl _) (row?_lt h.row))).trans h.row, fun b v hv => (h.own b v hv).same fun g hg => hb g (by have := (h.own b v hv).block g hg; omega) ((h.own b v hv).lt g hg), h.apart⟩
theorem intBeq (a b : Nat) : ((a : Int) == (b : Int)) = decide (a = b) := by rw [Bool.eq_iff_iff, beq_iff_eq, decide_eq_true_iff]; omega
@[go_sem] theorem run_storeFunc (P : Program) (w : World) (a : Addr) (m : Mode) (fn : Fn) (first captured : Array Value) : (store a (.func fn first captured) m).run P w = stored P w a (.func fn first captured) m := run_store P w a _ m rfl
end Go.Proofs.YtglnhnjmelilmaaGreatDoor
namespace Go.Pal
open Go
def flatB : List Bg → List Value
 | [] => []
 | x :: xs => (bagA x).toList ++ flatB xs
theorem flatB_length (T : List Bg) : (flatB T).length = T.length * 17 := by
 induction T with
 | nil => rfl
 | cons x xs ih =>
   rw [flatB, List.length_append, ih, Array.length_toList, bagA_size, List.length_cons]
   omega
theorem flatB_get {T : List Bg} : ∀ {i j : Nat} {x : Bg} {u : Value}, T[i]? = some x → (bagA x)[j]? = some u → (flatB T)[i * 17 + j]? = some u := by
 induction T with
 | nil => intro i j x u hx; simp at hx
 | cons y ys ih =>
   intro i j x u hx hu
   rw [flatB]
   have hy : (bagA y).toList.length = 17 := by rw [Array.length_toList, bagA_size]
   cases i with
   | zero =>
     have hj : j < 17 := by have := (Array.getElem?_eq_some_iff.1 hu).1; rwa [bagA_size] at this
     simp only [List.getElem?_cons_zero, Option.some.injEq] at hx
     subst hx
     rw [List.getElem?_append_left (by rw [hy]; omega), Nat.zero_mul, Nat.zero_add, Array.getElem?_toList]
     exact hu
   | succ i =>
     rw [List.getElem?_append_right (by rw [hy]; omega), hy, show (i + 1) * 17 + j - 17 = i * 17 + j by omega]
     exact ih (by simpa using hx) hu
theorem flatB_at {T : List Bg} : ∀ {m : Nat} {u : Value}, (flatB T)[m]? = some u → ∃ i j x, T[i]? = some x ∧ (bagA x)[j]? = some u ∧ m = i * 17 + j := by
 induction T with
 | nil => intro m u h; simp [flatB] at h
 | cons y ys ih =>
   intro m u h
   rw [flatB] at h
   have hy : (bagA y).toList.length = 17 := by rw [Array.length_toList, bagA_size]
   by_cases hm : m < 17
   · rw [List.getElem?_append_left (by rw [hy]; omega), Array.getElem?_toList] at h
     exact ⟨0, m, y, rfl, h, by omega⟩
   · rw [List.getElem?_append_right (by rw [hy]; omega), hy] at h
     obtain ⟨i, j, x, h1, h2, h3⟩ := ih h
     exact ⟨i + 1, j, x, by simpa using h1, h2, by omega⟩
end Go.Pal
namespace Go.Pal
open Go Go.RowKit
section
variable {α : Type} {P : Program} {e : TypeId} {k : Nat} {enc : α → Array Value}
theorem run_makeO (E : ElT P e k enc) (st : TypeId) (hst : P.underlying st = some (.slice e)) (m : Nat) (hm : m ≤ 1000000) (w : World) :
   (Instr.makeSlice st (.int .i64 0) (.int .i64 (m : Int))).run P w = .ok (.slice (some ⟨w.heap.size, 0, none⟩) 0 m) (w.alloc (.cells (madeCells E.zero.cells (m * k)) e)) := by
 obtain ⟨i0, hi, hz0, hz1, hz2⟩ := info_parts E.info
 have hby : ((E.bytes : Int)) * (m : Int) ≤ 281474976710656 := by
   have h2 : E.bytes * m ≤ 10000 * 1000000 := Nat.mul_le_mul E.small hm
   have h3 : ((E.bytes * m : Nat) : Int) ≤ 10000 * 1000000 := by omega
   rw [Int.natCast_mul] at h3
   omega
 have h := run_make (P := P) w st e i0 E.zero hst hi hz0 .i64 .i64 0 (m : Int) (by omega) (by omega) (by rw [hz2]; exact hby) (by omega)
 simp only [Int.toNat_natCast, Int.toNat_zero, hz1] at h
 exact h
theorem ownR_made (E : ElT P e k enc) (m : Nat) (hm : m ≤ 1000000) (B : Nat) (w : World) (hB : B ≤ w.heap.size) : OwnR e k enc B (w.alloc (.cells (madeCells E.zero.cells (m * k)) e)) (.slice (some ⟨w.heap.size, 0, none⟩) 0 m) [] := by
 refine ⟨by simp [encC], .inr ⟨w.heap.size, m, _, rfl, hB, World.alloc_heap_new _ _, Nat.zero_le _, by unfold maxLen; omega, size_madeCells _ _, by simp [encC]⟩⟩
end
end Go.Pal
namespace Go.Proofs.YtglnhnjmelilmaaGreatDoor
open Go Go.RowKit Go.Pal
theorem bagA_set0 (p q : Int) (S : Nat) : (bagA (p, S)).setIfInBounds 0 (.int .i64 q) = bagA (q, S) := by
 rw [stepA_lit, stepA_lit]
 simp
end Go.Proofs.YtglnhnjmelilmaaGreatDoor
namespace Go.Pal
open Go
def mergeable (x y : Nat) : Bool := decide (sDiff x y = 0) || decide (sDiff y x = 0)
def drawnP (T : List Bg) (b : Bg) : Bool := if b.1 = -1 then false else match T[b.1.toNat]? with | none => false | some y => mergeable b.2 y.2
theorem drawnP_of {T : List Bg} {p : Nat} {S : Nat} {y : Bg} (h : T[p]? = some y) : drawnP T ((p : Int), S) = mergeable S y.2 := by
 unfold drawnP
 have : ¬ ((p : Int) = -1) := by omega
 simp [this, h]
def Parents (T : List Bg) : Prop := ∀ x ∈ T, x.1 = -1 ∨ ∃ p : Nat, x.1 = p ∧ p < T.length
end Go.Pal
namespace Go.Proofs.YtglnhnjmelilmaaGreatDoor
open Go Go.RowKit Go.Pal
attribute [local go_sem] Oper.semAt_some
end Go.Proofs.YtglnhnjmelilmaaGreatDoor
namespace Go.Pal
open Go
def widTo (T : List Bg) (k : Nat) : Int := (T.take k).foldl (fun m x => max m ((lenS x.2 : Int) - 1)) (-1)
theorem widTo_succ {T : List Bg} {k : Nat} {x : Bg} (h : T[k]? = some x) : widTo T (k + 1) = max (widTo T k) ((lenS x.2 : Int) - 1) := by
 unfold widTo
 rw [List.take_add_one, h, List.foldl_append]
 rfl
end Go.Pal
namespace Go.Proofs.YtglnhnjmelilmaaGreatDoor
open Go Go.RowKit Go.Pal
attribute [local go_sem] Oper.semAt_some
end Go.Proofs.YtglnhnjmelilmaaGreatDoor
namespace Go.Pal
open Go
def hasI (S : Nat) (n : Int) : Bool := decide (0 ≤ n ∧ n < 1024) && S.testBit n.toNat
def holdE (e : (Int × Int) × Th) (b : Bg) : Bool := hasI b.2 e.1.1 && hasI b.2 e.1.2
def allTo (T : List Bg) (k : Nat) : Nat := (T.take k).foldl (fun S x => S ||| x.2) 0
theorem allTo_succ {T : List Bg} {k : Nat} {x : Bg} (h : T[k]? = some x) : allTo T (k + 1) = allTo T k ||| x.2 := by
 unfold allTo
 rw [List.take_add_one, h, List.foldl_append]
 rfl
def Gr.fitT (G : Gr) (T : List Bg) : Nat := if sDiff G.vset (allTo T T.length) = 0 then (if ∀ e ∈ G.E, T.any (holdE e) = true then 0 else 23) else 9
end Go.Pal
namespace Go.Proofs.YtglnhnjmelilmaaGreatDoor
open Go Go.RowKit Go.Pal
attribute [local go_sem] Oper.semAt_some
end Go.Proofs.YtglnhnjmelilmaaGreatDoor
namespace Go.Pal
open Go Go.RowKit
section
variable {α : Type} {P : Program} {e : TypeId} {k : Nat} {enc : α → Array Value} {B g n cap : Nat} {w : World} {l : List α}
theorem row_own (h : OwnR e k enc B w (.slice (some ⟨g, 0, none⟩) n cap) l) : ∃ f, w.rowIs g e (cap * k) f ∧ (∀ j u, (encC enc l)[j]? = some u → f j = u) ∧ l.length ≤ cap ∧ cap ≤ maxLen ∧ B ≤ g ∧ n = l.length := by
 obtain ⟨h1, h2⟩ := h
 rcases h2 with ⟨h2, _⟩ | ⟨g', cap', cur, h2, hB, hg, hn, hm, hsz, ht⟩
 · cases h2
 · simp only [Value.slice.injEq, Option.some.injEq, Addr.mk.injEq, and_true] at h2
   obtain ⟨rfl, rfl, rfl⟩ := h2
   refine ⟨fun j => cur[j]?.getD undef, ⟨cur, hg, hsz, fun i hi => by
     show cur[i]? = some (cur[i]?.getD undef)
     rw [Array.getElem?_eq_getElem (by omega)]
     rfl⟩, fun j u hu => ?_, hn, hm, hB, rfl⟩
   rw [← ht, List.getElem?_take] at hu
   split at hu
   · rw [Array.getElem?_toList] at hu
     simp [hu]
   · cases hu
theorem own_row (E : ElT P e k enc) {f : Nat → Value} (hr : w.rowIs g e (cap * k) f) (h : ∀ j u, (encC enc l)[j]? = some u → f j = u) (hl : l.length ≤ cap) (hm : cap ≤ maxLen) (hB : B ≤ g) : OwnR e k enc B w (.slice (some ⟨g, 0, none⟩) l.length cap) l := by
 obtain ⟨cur, hg, hsz, hc⟩ := hr
 refine ⟨encC_length E l, .inr ⟨g, cap, cur, rfl, hB, hg, hl, hm, hsz, ?_⟩⟩
 have hle : l.length * k ≤ cap * k := Nat.mul_le_mul_right k hl
 apply List.ext_getElem?
 intro j
 rw [List.getElem?_take, Array.getElem?_toList]
 split
 · rename_i hj
   obtain ⟨u, hu⟩ : ∃ u, (encC enc l)[j]? = some u := ⟨_, List.getElem?_eq_getElem (by rw [encC_length E]; exact hj)⟩
   rw [hu, hc j (by omega), h j u hu]
 · rw [List.getElem?_eq_none (by rw [encC_length E]; omega)]
theorem encC_drop (E : ElT P e k enc) (i : Nat) : (encC enc l).drop (i * k) = encC enc (l.drop i) := by
 induction l generalizing i with
 | nil => simp [encC]
 | cons x r ih =>
   cases i with
   | zero => simp
   | succ i =>
     rw [show encC enc (x :: r) = (enc x).toList ++ encC enc r from rfl, List.drop_append, List.drop_eq_nil_of_le (by rw [Array.length_toList, E.size, Nat.add_mul]; omega), List.nil_append, Array.length_toList, E.size, List.drop_succ_cons, show (i + 1) * k - k = i * k by rw [Nat.add_mul]; omega]
     exact ih i
theorem encC_take (E : ElT P e k enc) (i : Nat) : (encC enc l).take (i * k) = encC enc (l.take i) := by
 induction l generalizing i with
 | nil => simp [encC]
 | cons x r ih =>
   cases i with
   | zero => simp [encC]
   | succ i =>
     rw [show encC enc (x :: r) = (enc x).toList ++ encC enc r from rfl, List.take_append, List.take_of_length_le (by rw [Array.length_toList, E.size, Nat.add_mul]; omega), Array.length_toList, E.size, List.take_succ_cons, show (i + 1) * k - k = i * k by rw [Nat.add_mul]; omega, show encC enc (x :: r.take i) = (enc x).toList ++ encC enc (r.take i) from rfl]
     exact congrArg _ (ih i)
theorem run_clearR (E : ElT P e k enc) (st ty : TypeId) (hst : P.underlying st = some (.slice e)) (hz : ∀ w, (zeroValue e).run P w = .ok E.zero w) (z : α) (hzc : E.zero.cells = enc z) (g o n c : Nat) (hn : 0 < n)
   (hc : ∀ j, j < n * k → (w.cell? ⟨g, o + j, none⟩).isSome = true) (hf : ∀ j, j < n * k → w.frozen? ⟨g, o + j, none⟩ = false) :
   ∃ vs : List Value, vs.length = n * k ∧ (Builtin.clear_ #[st] ty #[.slice (some ⟨g, o, none⟩) n c]).run P w = .ok (.tuple #[]) (w.setCells g o vs) := by
 have hzs : E.zero.cells.size = k := by rw [hzc, E.size]
 have hlen : (Builtin.zeroCells E.zero.cells n).toList.length = n * k := by rw [Array.length_toList, size_zeroCells, hzs]
 refine ⟨_, hlen, ?_⟩
 have hone : ∀ v ∈ (Builtin.zeroCells E.zero.cells n).toList, v.oneCell' = true := by
   intro v hv
   rw [hzc] at hv
   unfold Builtin.zeroCells at hv
   rw [Array.mem_toList_iff, Array.mem_map] at hv
   obtain ⟨i, hi, rfl⟩ := hv
   have hs : (enc z).size = k := E.size z
   have hpos := E.pos
   have hlt : i % (enc z).size < (enc z).size := Nat.mod_lt _ (by omega)
   rw [getElem!_pos (enc z) _ hlt]
   exact E.one z _ (by simp)
 have hst' := run_storeCells_cells (P := P) g o (Builtin.zeroCells E.zero.cells n).toList 0 w (by rw [hlen]; simpa using hc) (by rw [hlen]; simpa using hf) hone
 simp only [Nat.add_zero] at hst'
 obtain ⟨m, rfl⟩ : ∃ m, n = m + 1 := ⟨n - 1, by omega⟩
 simp [Builtin.clear_, run_underlying hst, hz, hst']
end
theorem Same.setCells {A : Nat → Prop} {g : Nat} (h : ¬ A g) : ∀ (vs : List Value) (o : Nat) (w : World), Same A w (w.setCells g o vs)
 | [], _, _ => Same.refl _ _
 | v :: r, o, w => (Same.setCell A w ⟨g, o, none⟩ v h).trans (Same.setCells h r (o + 1) _)
end Go.Pal
namespace Go.Proofs.YtglnhnjmelilmaaGreatDoor
open Go Go.RowKit Go.Pal
attribute [local go_sem] Oper.semAt_some
end Go.Proofs.YtglnhnjmelilmaaGreatDoor
namespace Go.Proofs.YtglnhnjmelilmaaGreatDoor
end Go.Proofs.YtglnhnjmelilmaaGreatDoor
namespace Go.Proofs.YtglnhnjmelilmaaGreatDoor
open Go Go.RowKit Go.Pal Go.Shelf
end Go.Proofs.YtglnhnjmelilmaaGreatDoor
namespace Go.Pal
open Go Go.RowKit
section
variable {α : Type} {P : Program} {e : TypeId} {k : Nat} {enc : α → Array Value} {B g n cap : Nat} {w : World} {l : List α}
theorem encC_at (E : ElT P e k enc) : ∀ {l : List α} {m : Nat} {u : Value}, (encC enc l)[m]? = some u → ∃ a b x, l[a]? = some x ∧ (enc x)[b]? = some u ∧ m = a * k + b
 | [], m, u, h => by simp [encC] at h
 | y :: r, m, u, h => by
   rw [show encC enc (y :: r) = (enc y).toList ++ encC enc r from rfl] at h
   have hy : (enc y).toList.length = k := by rw [Array.length_toList, E.size]
   by_cases hm : m < k
   · rw [List.getElem?_append_left (by omega)] at h
     exact ⟨0, m, y, rfl, by simpa using h, by omega⟩
   · rw [List.getElem?_append_right (by omega), hy] at h
     obtain ⟨a, b, x, h1, h2, h3⟩ := encC_at E h
     exact ⟨a + 1, b, x, by simpa using h1, h2, by rw [Nat.add_mul]; omega⟩
theorem own_patch (E : ElT P e k enc) (hO : OwnR e k enc B w (.slice (some ⟨g, 0, none⟩) n cap) l) {i : Nat} {x y : α} (hx : l[i]? = some x) (o : Nat) (vs : List Value) (hfit : o + vs.length ≤ k)
   (hy : ∀ j u, (enc y)[j]? = some u → if o ≤ j ∧ j < o + vs.length then vs[j - o]? = some u else (enc x)[j]? = some u) : OwnR e k enc B (w.setCells g (i * k + o) vs) (.slice (some ⟨g, 0, none⟩) n cap) (l.set i y) := by
 obtain ⟨f, hrow, hf, hcap, hm, hB, rfl⟩ := row_own hO
 have hr := rowIs_setCells vs (i * k + o) w f hrow
 have hi := (List.getElem?_eq_some_iff.1 hx).1
 have hl : (l.set i y).length = l.length := by simp
 rw [← hl] at hcap ⊢
 refine own_row E hr (fun j u hu => ?_) hcap hm hB
 obtain ⟨a, b, z, ha, hb, rfl⟩ := encC_at E hu
 have hbk : b < k := by have := (Array.getElem?_eq_some_iff.1 hb).1; rwa [E.size] at this
 show (if _ then _ else _) = u
 by_cases hai : a = i
 · subst hai
   rw [List.getElem?_set_self hi] at ha
   cases ha
   have := hy b u hb
   by_cases hin : o ≤ b ∧ b < o + vs.length
   · rw [if_pos hin] at this
     rw [if_pos (by omega), show a * k + b - (a * k + o) = b - o by omega, this]
     rfl
   · rw [if_neg hin] at this
     rw [if_neg (by omega)]
     exact hf _ _ (encC_get E hx this)
 · rw [List.getElem?_set_ne (fun h => hai h.symm)] at ha
   have hne : ¬ (i * k + o ≤ a * k + b ∧ a * k + b < i * k + o + vs.length) := by
     rcases Nat.lt_or_ge a i with h | h
     · have := Nat.mul_le_mul_right k (show a + 1 ≤ i from h)
       rw [Nat.add_mul] at this
       omega
     · have := Nat.mul_le_mul_right k (show i + 1 ≤ a by omega)
       rw [Nat.add_mul] at this
       omega
   rw [if_neg hne]
   exact hf _ _ (encC_get E ha hb)
end
theorem flatB_eq (T : List Bg) : flatB T = encC bagA T := by
 induction T with
 | nil => rfl
 | cons x xs ih => rw [flatB, ih]; rfl
end Go.Pal
namespace Go.Proofs.YtglnhnjmelilmaaGreatDoor
open Go Go.RowKit Go.Pal Go.Shelf
end Go.Proofs.YtglnhnjmelilmaaGreatDoor
namespace Go.Pal
open Go Go.RowKit
section
variable {α : Type} {P : Program} {e : TypeId} {k : Nat} {enc : α → Array Value} {B g n cap : Nat} {w : World} {l : List α}
theorem own_store (E : ElT P e k enc) (hsz : ∀ w, (sizeOf e).run P w = .ok k w) (hO : OwnR e k enc B w (.slice (some ⟨g, 0, none⟩) n cap) l) {i : Nat} {x : α} (hx : l[i]? = some x) (y : α) :
   rowStore P e ⟨g, i * k, none⟩ (.agg (enc y)) w = .ok () (w.setCells g (i * k) (enc y).toList) ∧ OwnR e k enc B (w.setCells g (i * k) (enc y).toList) (.slice (some ⟨g, 0, none⟩) n cap) (l.set i y) := by
 constructor
 · obtain ⟨f, hrow, hf, hcap, hm, hB, rfl⟩ := row_own hO
   have hi := (List.getElem?_eq_some_iff.1 hx).1
   have hle : (i + 1) * k ≤ cap * k := Nat.mul_le_mul_right k (by omega)
   rw [Nat.add_mul] at hle
   have hst := run_storeCells_cells (P := P) g (i * k) (enc y).toList 0 w (fun j hj => by
     rw [Array.length_toList, E.size] at hj
     rw [hrow.cell (by omega)]; rfl) (fun j hj => hrow.frozen _) (fun v hv => E.one y v hv)
   simp only [Nat.add_zero] at hst
   unfold rowStore
   simp [storeVar, Sem.run_bind, hsz, Value.cells, E.size, hst]
 · have h := own_patch (y := y) E hO hx 0 (enc y).toList (by rw [Array.length_toList, E.size]; omega) fun j u hu => by
     have hj := (Array.getElem?_eq_some_iff.1 hu).1
     rw [if_pos ⟨by omega, by rw [Array.length_toList]; omega⟩]
     simpa using hu
   exact h
theorem own_load (E : ElT P e k enc) (hagg : ∀ w, (isAgg e).run P w = .ok true w) (hsz : ∀ w, (sizeOf e).run P w = .ok k w) (hO : OwnR e k enc B w (.slice (some ⟨g, 0, none⟩) n cap) l) {i : Nat} {x : α} (hx : l[i]? = some x) (W : World) (hW : W.heap = w.heap) :
   rowLoad P e ⟨g, i * k, none⟩ W = .ok (.agg (enc x)) W := by
 refine load_cells hagg hsz W g _ (enc x) (E.size x) fun j u hu => ?_
 obtain ⟨f, hrow, hf, hcap, hm, hB, rfl⟩ := row_own hO
 have hi := (List.getElem?_eq_some_iff.1 hx).1
 have hj : j < k := by have := (Array.getElem?_eq_some_iff.1 hu).1; rwa [E.size] at this
 have hle : (i + 1) * k ≤ cap * k := Nat.mul_le_mul_right k (by omega)
 rw [Nat.add_mul] at hle
 have h1 : w.cell? ⟨g, i * k + j, none⟩ = some u := by
   rw [hrow.cell (by omega)]
   exact congrArg some (hf _ _ (encC_get E hx hu))
 rw [← h1]
 unfold World.cell?
 rw [hW]
end
theorem below_cellsN {B g : Nat} {a w : World} (h : Below B a w) (hg : B ≤ g) (hs : B ≤ w.heap.size) (o : Nat) (vs : List Value) : Below B a (w.setCells g o vs) :=
 h.trans ((Same.setCells (A := fun j => j < B) (g := g) (by omega) vs o w).below hs fun j hj => hj)
theorem perm_set_swap {α : Type} {l : List α} {i j : Nat} {a b : α} (hi : l[i]? = some a) (hj : l[j]? = some b) : ((l.set i b).set j a).Perm l := by
 obtain ⟨h1, h2⟩ := List.getElem?_eq_some_iff.1 hi
 obtain ⟨h3, h4⟩ := List.getElem?_eq_some_iff.1 hj
 have := Array.swap_perm (xs := l.toArray) (i := i) (j := j) (by simpa using h1) (by simpa using h3)
 rw [Array.perm_iff_toList_perm, Array.toList_swap] at this
 simpa [h2, h4] using this
theorem map_set_flip {l : List ((Int × Int) × Th)} {i : Nat} {x : (Int × Int) × Th} (hx : l[i]? = some x) : (l.set i (flipE x)).map nrmE = l.map nrmE := by
 rw [List.map_set, nrm_flip]
 obtain ⟨h1, rfl⟩ := List.getElem?_eq_some_iff.1 hx
 apply List.ext_getElem?
 intro m
 rw [List.getElem?_set]
 split
 · rename_i hm
   subst hm
   simp [h1]
 · rfl
end Go.Pal
namespace Go.Proofs.YtglnhnjmelilmaaGreatDoor
open Go Go.RowKit Go.Pal
theorem own_ne {α β : Type} {e e' : TypeId} {k k' : Nat} {enc : α → Array Value} {enc' : β → Array Value} {B B' g g' n n' c c' : Nat} {w : World} {l : List α} {l' : List β} (h : OwnR e k enc B w (.slice (some ⟨g, 0, none⟩) n c) l) (h' : OwnR e' k' enc' B' w (.slice (some ⟨g', 0, none⟩) n' c') l') (he : e ≠ e') : g ≠ g' := by
 rintro rfl
 rcases h.2 with ⟨h1, -⟩ | ⟨a, b, d, h1, -, h2, -⟩
 · cases h1
 · rcases h'.2 with ⟨h3, -⟩ | ⟨a', b', d', h3, -, h4, -⟩
   · cases h3
   · simp only [Value.slice.injEq, Option.some.injEq, Addr.mk.injEq] at h1 h3
     rw [← h1.1.1] at h2
     rw [← h3.1.1, h2] at h4
     simp only [Option.some.injEq, Obj.cells.injEq] at h4
     exact he h4.2.1
theorem own_flip {l : List ((Int × Int) × Th)} {B g n cap : Nat} {w : World} (hO : OwnE B w (.slice (some ⟨g, 0, none⟩) n cap) l) {i : Nat} {u v : Int} {t : Th} (hx : l[i]? = some ((u, v), t)) :
   OwnE B ((w.setCell ⟨g, i * 4, none⟩ (.int .i64 v)).setCell ⟨g, i * 4 + 1, none⟩ (.int .i64 u)) (.slice (some ⟨g, 0, none⟩) n cap) (l.set i ((v, u), t)) := by
 have h1 := own_patch (y := ((v, v), t)) elE hO hx 0 [.int .i64 v] (by simp) fun j c hc => by
   match j, hc with
   | 0, hc => simpa [edgA] using hc
   | 1, hc => simpa [edgA] using hc
   | 2, hc => simpa [edgA] using hc
   | 3, hc => simpa [edgA] using hc
   | j + 4, hc => simp [edgA] at hc
 have hx2 : (l.set i ((v, v), t))[i]? = some ((v, v), t) := by
   have := (List.getElem?_eq_some_iff.1 hx).1
   simp [this]
 have h2 := own_patch (y := ((v, u), t)) elE h1 hx2 1 [.int .i64 u] (by simp) fun j c hc => by
   match j, hc with
   | 0, hc => simpa [edgA] using hc
   | 1, hc => simpa [edgA] using hc
   | 2, hc => simpa [edgA] using hc
   | 3, hc => simpa [edgA] using hc
   | j + 4, hc => simp [edgA] at hc
 rw [List.set_set] at h2
 simpa [World.setCells] using h2
theorem own_edge_cells {l : List ((Int × Int) × Th)} {B g n cap : Nat} {w : World} (hO : OwnE B w (.slice (some ⟨g, 0, none⟩) n cap) l) {i : Nat} {u v : Int} {t : Th} (hx : l[i]? = some ((u, v), t)) :
   w.cell? ⟨g, i * 4, none⟩ = some (.int .i64 u) ∧ w.cell? ⟨g, i * 4 + 1, none⟩ = some (.int .i64 v) ∧ (∀ j, w.frozen? ⟨g, j, none⟩ = false) := by
 obtain ⟨f, hrow, hf, hcap, hm, hB, rfl⟩ := row_own hO
 have hi := (List.getElem?_eq_some_iff.1 hx).1
 refine ⟨?_, ?_, fun j => hrow.frozen _⟩
 · rw [hrow.cell (by omega)]
   exact congrArg some (hf _ _ (encC_get elE hx (j := 0) (u := .int .i64 u) rfl))
 · rw [hrow.cell (by omega)]
   exact congrArg some (hf _ _ (encC_get elE hx (j := 1) (u := .int .i64 v) rfl))
end Go.Proofs.YtglnhnjmelilmaaGreatDoor
