/-
  Walks: what the statement builds of its trees: append of a bag; leaves.
-/
import Derived.Test.YtkoeeabeoefggaaDoorQTop18
import Derived.Test.YtkoeeabeoefggaaDoorQPlain
namespace Go.Pal
open Go
theorem leafsTo_ok (fl : List TNd) (b : Nat) (h : 0 < fl.length) : ∀ k, k ≤ fl.length → ∃ j : Nat, leafsTo fl k b = (j : Int) ∧ j < fl.length
  | 0, _ => ⟨0, rfl, h⟩
  | k + 1, hk => by
    obtain ⟨j, h1, h2⟩ := leafsTo_ok fl b h k (by omega)
    rw [leafsTo]
    cases hx : fl[k]? with
    | none => exact ⟨j, h1, h2⟩
    | some x =>
      simp only
      split
      · by_cases hb : b = x.bag
        · exact ⟨k, by simp [updI, hb], by omega⟩
        · exact ⟨j, by simpa [updI, hb] using h1, h2⟩
      · exact ⟨j, h1, h2⟩
end Go.Pal
namespace Go.Proofs.YtkoeeabeoefggaaDoor
open Go Go.RowKit Go.Pal Go.Shelf

def bgC (T : List Bg) : List Value := T.flatMap fun x => (bagA x).toList
theorem bgC_length (T : List Bg) : (bgC T).length = T.length * 17 := by
  induction T with
  | nil => rfl
  | cons x N ih =>
    simp only [bgC, List.flatMap_cons, List.length_append, Array.length_toList, bagA_size, List.length_cons] at ih ⊢
    omega
theorem bgC_append (N M : List Bg) : bgC (N ++ M) = bgC N ++ bgC M := by simp [bgC]
theorem bgC_get {T : List Bg} {k j : Nat} {x : Bg} {u : Value} (hx : T[k]? = some x) (hu : (bagA x)[j]? = some u) : (bgC T)[k * 17 + j]? = some u := by
  induction T generalizing k with
  | nil => simp at hx
  | cons y N ih =>
    have hj : j < 17 := by have := (Array.getElem?_eq_some_iff.1 hu).1; rwa [bagA_size] at this
    rw [show bgC (y :: N) = (bagA y).toList ++ bgC N from rfl]
    cases k with
    | zero =>
      simp at hx
      subst hx
      rw [List.getElem?_append_left (by rw [Array.length_toList, bagA_size]; omega), Nat.zero_mul, Nat.zero_add]
      simpa using hu
    | succ k =>
      rw [List.getElem?_append_right (by rw [Array.length_toList, bagA_size]; omega), Array.length_toList, bagA_size, show (k + 1) * 17 + j - 17 = k * 17 + j by omega]
      exact ih (by simpa using hx)
def OwnB (B : Nat) (w : World) (v : Value) (T : List Bg) : Prop := w.ownsRow B 29 17 v T.length (bgC T)
theorem OwnB.block {B : Nat} {w : World} {v : Value} {N : List Bg} (h : OwnB B w v N) : ∀ k, v.ownBlock = some k → B ≤ k := fun k hk => (World.ownsRow.lt (base := B) h k hk).1
theorem OwnB.lt {B : Nat} {w : World} {v : Value} {N : List Bg} (h : OwnB B w v N) : ∀ k, v.ownBlock = some k → k < w.heap.size := fun k hk => (World.ownsRow.lt (base := B) h k hk).2
theorem OwnB.alloc {B : Nat} {w : World} {v : Value} {N : List Bg} (h : OwnB B w v N) (o : Obj) : OwnB B (w.alloc o) v N := World.ownsRow.alloc (base := B) h o
theorem OwnB.rd {B : Nat} {w : World} {v : Value} {T : List Bg} (h : OwnB B w v T) (hne : T ≠ []) : Rd bagA 17 w.heap.size w v T := by
  rcases h.2 with ⟨h1, h2⟩ | ⟨g, cap, cur, rfl, hB, hg, _⟩
  · exact absurd (List.length_eq_zero_iff.1 h2) hne
  · refine ⟨_, cap, rfl, .inr ⟨g, 0, rfl, (Array.getElem?_eq_some_iff.1 hg).1, fun i x hx j u hu => ?_⟩⟩
    have := World.ownsRow.cells (base := B) h (g := g) rfl _ _ (bgC_get hx hu)
    have e : (⟨g, 0, none⟩ : Addr).add (i * 17 + j) = ⟨g, 0 + i * 17 + j, none⟩ := by unfold Addr.add; split <;> simp_all
    rwa [e] at this
theorem ownB_one {B : Nat} {w : World} {g : Nat} {x : Bg} (hg : w.heap[g]? = some (.cells (bagA x) 29 (0, 0))) (hB : B ≤ g) : OwnB B w (.slice (some ⟨g, 0, none⟩) 1 1) [x] := by
  refine ⟨by simp [bgC, bagA_size], .inr ⟨g, 1, bagA x, rfl, hB, hg, Nat.le_refl _, by decide, by rw [bagA_size], ?_⟩⟩
  rw [List.take_of_length_le (by simp [bagA_size])]
  simp [bgC]
theorem wp_appB {o : Oper} {a : Act} {K : Act → World → Prop} {Q : Exit → Act → World → Prop} {w : World} (s x : Operand)
    (ho : o.op = .call { callee := .builtin .append, args := #[s, x], argTypes := #[31, 31] }) (B : Nat) (v : Value) (T : List Bg) (hs : a.eval s = v) (hown : OwnB B w v T)
    (g : Nat) (y : Bg) (c : Nat) (hx : a.eval x = .slice (some ⟨g, 0, none⟩) 1 c) (hg : row? w g = some (bagA y)) (hlen : T.length < 100000) (hB : B ≤ w.heap.size)
    (h : ∀ v' w', OwnB B w' v' (T ++ [y]) → Below B w w' → K (a.put o.dst v') w') : o.wp Tryd.prog a w K Q := by
  obtain ⟨i0, hi, hz0, hz1, hz2⟩ := info_parts infoBag
  obtain ⟨v', w', hr, h2, h3, h4⟩ := run_append_own2 (P := Tryd.prog) w B 31 o.type 29 i0 (.agg (bagA (0, 0))) 17 136 Tryd.underlying31 hi hz0 hz1 hz2 (by simp [Value.cells, bagA_size]) (by decide) v T.length (bgC T) hown ⟨g, 0, none⟩ 1 c (by decide) (bagA y).toList (by rw [Array.length_toList, bagA_size])
    (fun j u hj => by
      have : (⟨g, 0, none⟩ : Addr).add j = ⟨g, j, none⟩ := by unfold Addr.add; split <;> simp_all
      rw [this, cell?_row hg]
      simpa using hj) (bagA_one y) (by unfold maxLen; omega) (by omega) hB
  unfold Oper.wp execOp
  simp only [ho, resolve, invoke, builtin, Sem.run_bind, Sem.run_pure, Result.andThen_ok, List.map_toArray, List.map_cons, List.map_nil, hs, hx, hr]
  refine h v' w' ?_ ((Below.refl B w).grown h3 hB hown.block)
  unfold OwnB
  rw [List.length_append, bgC_append]
  simpa [bgC] using h2
theorem wpList_appB {ops : Array Oper} {rest : List Oper} {o : Oper} {a : Act} {Q : Exit → Act → World → Prop} {w : World} (hgd : o.guard = none) (s x : Operand)
    (ho : o.op = .call { callee := .builtin .append, args := #[s, x], argTypes := #[31, 31] }) (B : Nat) (v : Value) (T : List Bg) (hs : a.eval s = v) (hown : OwnB B w v T)
    (g : Nat) (y : Bg) (c : Nat) (hx : a.eval x = .slice (some ⟨g, 0, none⟩) 1 c) (hg : row? w g = some (bagA y)) (hlen : T.length < 100000) (hB : B ≤ w.heap.size)
    (h : ∀ v' w', OwnB B w' v' (T ++ [y]) → Below B w w' → wpList Tryd.prog ops Q rest (a.put o.dst v') w') : wpList Tryd.prog ops Q (o :: rest) a w :=
  wpList_plain hgd fun _ hK => wp_appB s x ho B v T hs hown g y c hx hg hlen hB fun v' w' h1 h2 => hK _ _ (h v' w' h1 h2)
theorem parOk_snoc {T : List Bg} (h : ParOk T) {p : Nat} (hp : p < T.length) : ParOk (T ++ [((p : Int), 0)]) := by
  refine ⟨by rw [List.getElem?_append_left h.pos]; exact h.head, fun j x hx => ?_⟩
  by_cases hj : j < T.length
  · rw [List.getElem?_append_left hj] at hx
    exact h.tail j x hx
  · rw [List.getElem?_append_right (by omega)] at hx
    have hj0 : j - T.length = 0 := by
      rcases Nat.eq_zero_or_pos (j - T.length) with h0 | h0
      · exact h0
      · rw [List.getElem?_eq_none (by simp; omega)] at hx; cases hx
    rw [hj0] at hx
    cases hx
    exact ⟨rfl, fun _ => ⟨p, rfl, by omega⟩⟩
theorem parOk_one : ParOk [(-1, 0)] := ⟨rfl, fun j x hx => by
  match j, hx with
  | 0, hx => cases hx; exact ⟨rfl, fun h => absurd rfl h⟩⟩
end Go.Proofs.YtkoeeabeoefggaaDoor
