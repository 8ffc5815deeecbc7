/-
  Rows of the call's own whose elements are structs of k cells: what they hold, append of one element, reading. No program.
-/
import Derived.Test.YtmmhngjndnonhaaGreatDoorDRule
import Derived.Test.YtmmhngjndnonhaaGreatDoorDRoR
import Derived.OwnWalkIn
import Derived.TacticsInMore
set_option linter.unusedSimpArgs false
set_option linter.unusedVariables false
namespace Go.Pal
open Go Go.RowKit

/-- The cells of a list of elements. -/
def encC {α : Type} (enc : α → Array Value) (l : List α) : List Value := l.flatMap fun x => (enc x).toList
/-- What is known of an element's type. -/
structure ElT {α : Type} (P : Program) (e : TypeId) (k : Nat) (enc : α → Array Value) where
  bytes : Nat
  zero : Value
  info : (P.info? e).map (fun i => (i.zero, i.size, i.bytes)) = some (some zero, k, bytes)
  zc : zero.cells.size = k
  pos : 0 < k
  small : bytes ≤ 10000
  size : ∀ x, (enc x).size = k
  one : ∀ x, ∀ u ∈ (enc x).toList, u.oneCell' = true

section
variable {α : Type} {P : Program} {e : TypeId} {k : Nat} {enc : α → Array Value}
theorem encC_nil : encC enc [] = [] := rfl
theorem encC_append (l m : List α) : encC enc (l ++ m) = encC enc l ++ encC enc m := by simp [encC]
theorem encC_one (x : α) : encC enc [x] = (enc x).toList := by simp [encC]
theorem encC_length (E : ElT P e k enc) (l : List α) : (encC enc l).length = l.length * k := by
  induction l with
  | nil => simp [encC]
  | cons x r ih =>
    simp only [encC, List.flatMap_cons, List.length_append, Array.length_toList, E.size, List.length_cons] at ih ⊢
    rw [ih, Nat.add_mul]
    omega
theorem encC_get (E : ElT P e k enc) {l : List α} {i j : Nat} {x : α} {u : Value} (hx : l[i]? = some x) (hu : (enc x)[j]? = some u) : (encC enc l)[i * k + j]? = some u := by
  induction l generalizing i with
  | nil => simp at hx
  | cons y r ih =>
    have hj : j < k := by have := (Array.getElem?_eq_some_iff.1 hu).1; rwa [E.size] at this
    rw [show encC enc (y :: r) = (enc y).toList ++ encC enc r from rfl]
    cases i with
    | zero =>
      simp at hx
      subst hx
      rw [List.getElem?_append_left (by rw [Array.length_toList, E.size]; omega), Nat.zero_mul, Nat.zero_add]
      simpa using hu
    | succ i =>
      rw [List.getElem?_append_right (by rw [Array.length_toList, E.size, Nat.add_mul]; omega), Array.length_toList, E.size, show (i + 1) * k + j - k = i * k + j by rw [Nat.add_mul]; omega]
      exact ih (by simpa using hx)

/-- A ROW OF THE CALL's OWN (its block is B or later) THAT HOLDS THE LIST. -/
def OwnR (e : TypeId) (k : Nat) (enc : α → Array Value) (B : Nat) (w : World) (v : Value) (l : List α) : Prop := w.ownsRow B e k v l.length (encC enc l)
variable {B : Nat} {w w' : World} {v : Value} {l : List α}
theorem OwnR.nil (B : Nat) (w : World) : OwnR e k enc B w (.slice none 0 0) [] := World.ownsRow_nil _ _ _ _
theorem OwnR.block (h : OwnR e k enc B w v l) : ∀ j, v.ownBlock = some j → B ≤ j := fun j hj => (World.ownsRow.lt (base := B) h j hj).1
theorem OwnR.lt (h : OwnR e k enc B w v l) : ∀ j, v.ownBlock = some j → j < w.heap.size := fun j hj => (World.ownsRow.lt (base := B) h j hj).2
theorem OwnR.alloc (h : OwnR e k enc B w v l) (o : Obj) : OwnR e k enc B (w.alloc o) v l := World.ownsRow.alloc (base := B) h o
theorem OwnR.sl (h : OwnR e k enc B w v l) : ∃ a c, v = .slice a l.length c := by
  rcases h.2 with ⟨rfl, h2⟩ | ⟨g, cap, cur, rfl, _⟩
  · exact ⟨_, _, by rw [h2]⟩
  · exact ⟨_, _, rfl⟩
theorem OwnR.same (h : OwnR e k enc B w v l) (hb : ∀ g, v.ownBlock = some g → w'.heap[g]? = w.heap[g]?) : OwnR e k enc B w' v l := by
  refine ⟨h.1, ?_⟩
  rcases h.2 with h2 | ⟨g, cap, cur, rfl, hB, hg, h3⟩
  · exact .inl h2
  · exact .inr ⟨g, cap, cur, rfl, hB, (hb g rfl).trans hg, h3⟩
theorem OwnR.below {C : Nat} (h : OwnR e k enc B w v l) (hb : Below C w w') (hC : w.heap.size ≤ C) : OwnR e k enc B w' v l := h.same fun g hg => hb.block g (Nat.lt_of_lt_of_le (h.lt g hg) hC)
theorem OwnR.lower {B' : Nat} (h : OwnR e k enc B w v l) (hB : B' ≤ B) : OwnR e k enc B' w v l := by
  refine ⟨h.1, ?_⟩
  rcases h.2 with h2 | ⟨g, cap, cur, rfl, hg, h3⟩
  · exact .inl h2
  · exact .inr ⟨g, cap, cur, rfl, by omega, h3⟩
theorem OwnR.rd (E : ElT P e k enc) (h : OwnR e k enc B w v l) : Rd enc k w.heap.size w v l := by
  obtain ⟨a, c, rfl⟩ := h.sl
  refine ⟨a, c, rfl, ?_⟩
  rcases h.2 with ⟨_, h2⟩ | ⟨g, cap, cur, h1, hB, hg, _⟩
  · exact .inl (List.length_eq_zero_iff.1 h2)
  · simp only [Value.slice.injEq] at h1
    obtain ⟨rfl, -, rfl⟩ := h1
    refine .inr ⟨g, 0, rfl, (Array.getElem?_eq_some_iff.1 hg).1, fun i x hx j u hu => ?_⟩
    have := World.ownsRow.cells (base := B) h (g := g) rfl _ _ (encC_get E hx hu)
    have e : (⟨g, 0, none⟩ : Addr).add (i * k + j) = ⟨g, 0 + i * k + j, none⟩ := by unfold Addr.add; split <;> simp_all
    rwa [e] at this
/-- append of one element. -/
theorem run_appO (E : ElT P e k enc) (st ty : TypeId) (hst : P.underlying st = some (.slice e)) (h : OwnR e k enc B w v l) (g : Nat) (y : α) (c : Nat) (hg : row? w g = some (enc y)) (hlen : l.length < 4000000) (hB : B ≤ w.heap.size) :
    ∃ v' w', (Builtin.append_ #[st, st] ty #[v, .slice (some ⟨g, 0, none⟩) 1 c]).run P w = .ok v' w' ∧ OwnR e k enc B w' v' (l ++ [y]) ∧ Below B w w' ∧ w.grownBy w' v.ownBlock ∧ (v'.ownBlock = v.ownBlock ∨ v'.ownBlock = some w.heap.size) := by
  obtain ⟨i0, hi, hz0, hz1, hz2⟩ := info_parts E.info
  obtain ⟨v', w', hr, h2, h3, h4⟩ := run_append_own2 (P := P) w B st ty e i0 E.zero k E.bytes hst hi hz0 hz1 hz2 E.zc E.pos v l.length (encC enc l) h ⟨g, 0, none⟩ 1 c (by decide) (enc y).toList (by rw [Array.length_toList, E.size, Nat.one_mul])
    (fun j u hj => by
      have : (⟨g, 0, none⟩ : Addr).add j = ⟨g, j, none⟩ := by unfold Addr.add; split <;> simp_all
      rw [this, cell?_row hg]
      simpa using hj) (E.one y) (by unfold maxLen; omega) (by
        have := E.small
        refine Nat.le_trans (Nat.mul_le_mul (Nat.succ_le_of_lt hlen) this) (by decide)) hB
  refine ⟨v', w', hr, ?_, (Below.refl B w).grown h3 hB h.block, h3, h4⟩
  unfold OwnR
  rw [List.length_append, encC_append, encC_one]
  exact h2
theorem wp_appO {o : Oper} {a : Act} {K : Act → World → Prop} {Q : Exit → Act → World → Prop} (E : ElT P e k enc) (st : TypeId) (hst : P.underlying st = some (.slice e)) (s x : Operand)
    (ho : o.op = .call { callee := .builtin .append, args := #[s, x], argTypes := #[st, st] }) (B : Nat) (v : Value) (l : List α) (hs : a.eval s = v) (hown : OwnR e k enc B w v l)
    (g : Nat) (y : α) (c : Nat) (hx : a.eval x = .slice (some ⟨g, 0, none⟩) 1 c) (hg : row? w g = some (enc y)) (hlen : l.length < 4000000) (hB : B ≤ w.heap.size)
    (h : ∀ v' w', OwnR e k enc B w' v' (l ++ [y]) → Below B w w' → w.grownBy w' v.ownBlock → (v'.ownBlock = v.ownBlock ∨ v'.ownBlock = some w.heap.size) → K (a.put o.dst v') w') : o.wp P a w K Q := by
  obtain ⟨v', w', hr, h2, h3, h4, h5⟩ := run_appO E st o.type hst hown g y c hg hlen hB
  unfold Oper.wp execOp
  simp only [ho, resolve, invoke, builtin, Sem.run_bind, Sem.run_pure, Result.andThen_ok, List.map_toArray, List.map_cons, List.map_nil, hs, hx, hr]
  exact h v' w' h2 h3 h4 h5
theorem wpList_appO {ops : Array Oper} {rest : List Oper} {o : Oper} {a : Act} {Q : Exit → Act → World → Prop} (E : ElT P e k enc) (st : TypeId) (hst : P.underlying st = some (.slice e)) (hgd : o.guard = none) (s x : Operand)
    (ho : o.op = .call { callee := .builtin .append, args := #[s, x], argTypes := #[st, st] }) (B : Nat) (v : Value) (l : List α) (hs : a.eval s = v) (hown : OwnR e k enc B w v l)
    (g : Nat) (y : α) (c : Nat) (hx : a.eval x = .slice (some ⟨g, 0, none⟩) 1 c) (hg : row? w g = some (enc y)) (hlen : l.length < 4000000) (hB : B ≤ w.heap.size)
    (h : ∀ v' w', OwnR e k enc B w' v' (l ++ [y]) → Below B w w' → w.grownBy w' v.ownBlock → (v'.ownBlock = v.ownBlock ∨ v'.ownBlock = some w.heap.size) → wpList P ops Q rest (a.put o.dst v') w') : wpList P ops Q (o :: rest) a w :=
  wpList_plain hgd fun _ hK => wp_appO E st hst s x ho B v l hs hown g y c hx hg hlen hB fun v' w' h1 h2 h3 h4 => hK _ _ (h v' w' h1 h2 h3 h4)
end

section
variable {α : Type} {P : Program} {e : TypeId} {k : Nat} {enc : α → Array Value}
theorem wpListIn_appO {F : Fence} {n : Nat} {w : World} {ops : Array Oper} {rest : List Oper} {o : Oper} {a : Act} {Q : Exit → Act → World → Prop} (E : ElT P e k enc) (st : TypeId) (hst : P.underlying st = some (.slice e)) (hgd : o.guard = none) (s x : Operand)
    (ho : o.op = .call { callee := .builtin .append, args := #[s, x], argTypes := #[st, st] }) (B : Nat) (v : Value) (l : List α) (hs : a.eval s = v) (hown : OwnR e k enc B w v l)
    (g : Nat) (y : α) (c : Nat) (hx : a.eval x = .slice (some ⟨g, 0, none⟩) 1 c) (hg : row? w g = some (enc y)) (hlen : l.length < 4000000) (hB : B ≤ w.heap.size)
    (h : ∀ v' w', OwnR e k enc B w' v' (l ++ [y]) → Below B w w' → w.grownBy w' v.ownBlock → (v'.ownBlock = v.ownBlock ∨ v'.ownBlock = some w.heap.size) → wpListIn F n P ops Q rest (a.put o.dst v') w') : wpListIn F n P ops Q (o :: rest) a w := by
  obtain ⟨v', w', hr, h2, h3, h4, h5⟩ := run_appO E st o.type hst hown g y c hg hlen hB
  refine wpListIn_plain hgd fun K hK' => ?_
  unfold Oper.wpIn
  refine ⟨?_, ?_⟩
  · simp [Oper.about, ho, resolve, Target.leads, Sem.run_pure]
  · rw [Oper.semAt_plain F _ _ (by rw [ho]; intro c hc'; cases hc')]
    simp [execOp, ho, resolve, invoke, builtin, hs, hx, hr, Result.andThen]
    exact hK' _ _ (h v' w' h2 h3 h4 h5)
end
/-- The world has only grown. -/
structure Ext (w w' : World) : Prop where
  below : Below w.heap.size w w'
  drawn : w.drawn ≤ w'.drawn
theorem Ext.refl (w : World) : Ext w w := ⟨Below.refl _ _, Nat.le_refl _⟩
theorem Ext.trans {a b c : World} (h : Ext a b) (k : Ext b c) : Ext a c := ⟨h.below.trans (k.below.mono h.below.size), Nat.le_trans h.drawn k.drawn⟩
theorem Ext.alloc (w : World) (o : Obj) : Ext w (w.alloc o) := ⟨(Below.refl _ w).alloc (Nat.le_refl _) _, Nat.le_refl _⟩
theorem Ext.drew (w : World) : Ext w w.drew := ⟨(Below.refl _ w).drew, Nat.le_succ _⟩
end Go.Pal
