/- A range over a function of two values; the blocks that its body keeps are told by a set. .. -/
import Derived.Test.YtgnlebnpnpjfmaaGreatDoorURu
import Derived.OwnWalkIn
import Derived.TacticsInMore
set_option linter.all false
namespace Go.Pal
open Go Go.RowKit
def IteratesA {α : Type} (P : Program) (A : Nat → Prop) (g : Nat) (lb : Array Value) (enc : α → Array Value) (xs : List α) (W : World) : Prop :=
 ∀ (l : Nat) (J : Nat → List α → World → Prop),
   (∀ M pre W1 W2, W.heap.size ≤ M → M ≤ W1.heap.size → J M pre W1 → Same (fun k => k < W.heap.size ∨ M ≤ k) W1 W2 → J M pre W2) →
   (∀ M pre x W1, W.heap.size ≤ M → M ≤ W1.heap.size → J M pre W1 → (∃ r, xs = pre ++ x :: r) → YieldAt Fence.wide 0 P l (enc x) W1 fun e W' =>
     e = .returned (.bool true) ∧ J M (pre ++ [x]) W' ∧ Same (fun k => A k ∨ (W.heap.size ≤ k ∧ k < M)) W1 W') →
   (∀ M W1, W.heap.size ≤ M → M ≤ W1.heap.size → Same (fun k => k < W.heap.size) W W1 → J M [] W1) →
   CallsIn Fence.wide 0 P g (#[.func (.yield l) #[] #[]] ++ lb) W fun e W' => (∃ v, e = .returned v) ∧ ∃ M, W.heap.size ≤ M ∧ J M xs W'
section
variable {P : Program}
theorem wpIn_rangeA {α : Type} {g : Operand} {ps : Array Tmp} {assign body : Code} {Q : Exit → Act → World → Prop} {a : Act} {w : World} (A : Nat → Prop)
   {gf : Nat} {lb : Array Value} (hg : a.eval g = .func (.func gf) #[] lb) (eg : ∀ args w, (callFunc gf args).run P w = .ok (.enter gf args) w)
   {enc : α → Array Value} {xs : List α} (hps : ∀ x, (enc x).size = ps.size) (hgT : ∀ k, A k → k < w.heap.size)
   (hit : ∀ W, Below w.heap.size w W → w.heap.size + 2 ≤ W.heap.size → IteratesA P A gf lb enc xs W)
   (I : Nat → List α → World → Prop)
   (hI : ∀ M pre W W', w.heap.size ≤ M → M ≤ W.heap.size → I M pre W → Same (fun k => k < w.heap.size ∨ M ≤ k) W W' → I M pre W')
   (h0 : ∀ M W, w.heap.size ≤ M → M ≤ W.heap.size → Below w.heap.size w W → I M [] W) (a₁ : α → Act)
   (hassign : ∀ (l : Nat) (x : α) (W : World) (K : Act → World → Prop), K (a₁ x) W →
     assign.wpIn (Fence.wide.inRound l) 0 P (Exit.then K (fun _ _ _ => False)) { tmps := (ps.zip (enc x)).foldl (fun t (p, v) => t.setIfInBounds p v) a.tmps, defers := [] } W)
   (hbody : ∀ (l M : Nat) (pre : List α) (x : α) (W : World), w.heap.size + 2 ≤ M → M ≤ W.heap.size → I M pre W → (∃ r, xs = pre ++ x :: r) →
     body.wpIn (Fence.wide.inRound l) 0 P (fun e _ W' => match e with
       | .normal => I M (pre ++ [x]) W' ∧ Same (fun k => A k ∨ (w.heap.size ≤ k ∧ k < M)) W W'
       | _ => False) (a₁ x) W)
   (hdone : ∀ (D M : Nat) (W : World), w.heap.size ≤ D → D < M → M ≤ W.heap.size → I M xs W → W.heap[D]? = some (.deferred (some [])) → Q .normal { a with defers := { target := .collected D, args := #[] } :: a.defers } W) :
   (Code.rangeFunc g ps assign body).wpIn Fence.wide 0 P Q a w := by
 refine wpIn_rangeFunc ?_
 intro fn hfn
 show ∃ (l : Nat) (mark : List Deferred) (w₁ : World) (d : Deferred) (w₁' : World) (f : FuncId) (args : Array Value) (w₂ : World), (Instr.enterLoop fn a.tmps ps assign body none).run P w = .ok (l, mark) w₁ ∧ _
 obtain ⟨rec, hrec⟩ : ∃ rec : LoopState → Option Code → Loop, rec = fun st pe => { state := st, pending := pe, fn, tmps := a.tmps, params := ps, assign, body, defers := w.heap.size } := ⟨_, rfl⟩
 obtain ⟨W1, hW1⟩ : ∃ W1, (w.alloc (.deferred (some []))).alloc (.loop (rec .ready none)) = W1 := ⟨_, rfl⟩
 have hs1 : W1.heap.size = w.heap.size + 2 := by rw [← hW1]; simp
 have hL1 : W1.heap[w.heap.size + 1]? = some (.loop (rec .ready none)) := by
   rw [← hW1]; have := World.alloc_heap_new (w.alloc (.deferred (some []))) (.loop (rec .ready none)); rwa [World.size_alloc] at this
 have hK1 : W1.heap[w.heap.size]? = some (.deferred (some [])) := by
   rw [← hW1]; exact (Below.heap_alloc _ _ _ (by simp)).trans (World.alloc_heap_new w _)
 have hb1 : Below w.heap.size w W1 := by
   rw [← hW1]; exact ((Below.refl _ w).alloc (Nat.le_refl _) _).alloc (by simp) _
 refine ⟨w.heap.size + 1, [{ target := .collected w.heap.size, args := #[] }], W1, { target := .fn (.func gf) lb, args := #[.func (.yield (w.heap.size + 1)) #[] #[]] }, W1, gf,
   #[.func (.yield (w.heap.size + 1)) #[] #[]] ++ lb, W1, ?_, ?_, ?_, ?_, (fun h => nomatch h), ?_⟩
 · rw [← hW1, hrec]; exact run_enterLoop_outer _ _ _ _ _
 · simp only [resolve, hg]
   simp [go_sem]
 · intro f' _; trivial
 · simp [invoke, go_sem, eg]
 · refine (hit W1 hb1 (by omega) (w.heap.size + 1)
     (fun M pre W => W1.heap.size ≤ M ∧ M ≤ W.heap.size ∧ I M pre W ∧ W.heap[w.heap.size + 1]? = some (.loop (rec .ready none)) ∧ W.heap[w.heap.size]? = some (.deferred (some []))) ?_ ?_ ?_).mono ?_
   · rintro M pre WA B hM hMA ⟨_, _, hi, hl, hk⟩ hs
     exact ⟨hM, Nat.le_trans hMA hs.size, hI M pre WA B (by omega) hMA hi (hs.mono fun k _ h => h.imp (fun h => by omega) id),
       (hs.block _ (Array.getElem?_eq_some_iff.1 hl).1 (.inl (by omega))).trans hl, (hs.block _ (Array.getElem?_eq_some_iff.1 hk).1 (.inl (by omega))).trans hk⟩
   · rintro M pre x W hM hMW ⟨_, _, hi, hl, hk⟩ hx
     have hlt : w.heap.size + 1 < W.heap.size := (Array.getElem?_eq_some_iff.1 hl).1
     have hy := run_yield (P := P) (args := enc x) hl (by rw [hrec]; exact hps x)
     rw [hrec] at hy
     refine ⟨fn, _, assign, body, hy, roundIn_of_wpIn trivial (hassign _ x W _ ⟨_, run_beginRound hl (by rw [hrec]), ?_⟩)⟩
     have hne : ¬ (w.heap.size + 1 < w.heap.size ∨ M ≤ w.heap.size + 1) := by omega
     have hl2 : (W.putObj (w.heap.size + 1) (.loop { rec .ready none with state := .busy })).heap[w.heap.size + 1]? = some (.loop { rec .ready none with state := .busy }) := World.putObj_heap_same hlt
     have hk2 : (W.putObj (w.heap.size + 1) (.loop { rec .ready none with state := .busy })).heap[w.heap.size]? = some (.deferred (some [])) := (World.putObj_heap_other (by omega)).trans hk
     have hi2 := hI M pre _ _ (by omega) hMW hi (Same.putObj _ W (w.heap.size + 1) (.loop { rec .ready none with state := .busy }) hne)
     refine wpIn_mono (hbody _ M pre x _ (by omega) (by simpa using hMW) hi2 hx) ?_
     rintro e a3 W3 hp
     cases e with
     | normal =>
       obtain ⟨hi3, hs3⟩ := hp
       have hl3 := (hs3.block _ (by simpa using hlt) (.inr ⟨by omega, by omega⟩)).trans hl2
       have hk3 := (hs3.block _ (by simp; omega) (.inr ⟨by omega, by omega⟩)).trans hk2
       have hend := run_endRound (P := P) none hl3
       have hsz3 := hs3.size
       simp only [World.putObj_size] at hsz3
       refine ⟨_, _, hend, rfl, ⟨hM, by simp; omega, hI M _ _ _ (by omega) (by omega) hi3 (Same.putObj _ W3 (w.heap.size + 1) _ hne), ?_, (World.putObj_heap_other (by omega)).trans hk3⟩, ?_⟩
       · rw [World.putObj_heap_same (Array.getElem?_eq_some_iff.1 hl3).1, hrec]
         rfl
       · refine ⟨hs3.os, hs3.tape, hs3.output, by simp; omega, fun k hk hA => ?_⟩
         have hkl : k ≠ w.heap.size + 1 := by
           rcases hA with h | h
           · have := hgT k h; omega
           · omega
         rw [World.putObj_heap_other hkl]
         refine (hs3.block k (by simpa using hk) (hA.imp id fun h => ⟨by omega, h.2⟩)).trans (World.putObj_heap_other hkl)
     | _ => exact hp.elim
   · intro M W hM hMW hs
     have e1 := hs.block _ (by omega : w.heap.size + 1 < W1.heap.size) (by omega)
     have e2 := hs.block _ (by omega : w.heap.size < W1.heap.size) (by omega)
     exact ⟨hM, hMW, h0 M W (by omega) hMW (hb1.trans (hs.below (by omega) fun k hk => by omega)), e1.trans hL1, e2.trans hK1⟩
   · rintro e W2 ⟨⟨v, rfl⟩, M, hM, _, hMW, hi, hl, hk⟩
     have hend := run_endLoop (P := P) hl (by rw [hrec]; simp)
     rw [hrec] at hend
     refine ⟨none, _, hend, hdone _ M _ (Nat.le_refl _) (by omega) (by simpa using hMW) (hI M _ _ _ (by omega) hMW hi (Same.putObj _ W2 (w.heap.size + 1) _ (by omega))) ((World.putObj_heap_other (by omega)).trans hk)⟩
theorem wpIn_range_set2 {α : Type} {g : Operand} {p1 p2 : Tmp} {assign body : Code} {Q : Exit → Act → World → Prop} {a : Act} {w : World} (A : Nat → Prop) (s1 s2 : Nat)
   {gf : Nat} {lb : Array Value} (hg : a.eval g = .func (.func gf) #[] lb) (eg : ∀ args w, (callFunc gf args).run P w = .ok (.enter gf args) w)
   {u1 u2 : α → Value} {xs : List α} (hgT : ∀ k, A k → k < w.heap.size)
   (hit : ∀ W, Below w.heap.size w W → w.heap.size + 2 ≤ W.heap.size → IteratesA P A gf lb (fun x => #[u1 x, u2 x]) xs W)
   (I : Nat → List α → World → Prop)
   (hI : ∀ M pre W W', w.heap.size ≤ M → M ≤ W.heap.size → I M pre W → Same (fun k => k < w.heap.size ∨ M ≤ k) W W' → I M pre W')
   (h0 : ∀ M W, w.heap.size ≤ M → M ≤ W.heap.size → Below w.heap.size w W → I M [] W)
   (hassign : ∀ (l : Nat) (x : α) (W : World) (K : Act → World → Prop), K { tmps := (((a.tmps.setIfInBounds p1 (u1 x)).setIfInBounds p2 (u2 x)).setIfInBounds s1 (u1 x)).setIfInBounds s2 (u2 x), defers := [] } W →
     assign.wpIn (Fence.wide.inRound l) 0 P (Exit.then K (fun _ _ _ => False)) { tmps := (a.tmps.setIfInBounds p1 (u1 x)).setIfInBounds p2 (u2 x), defers := [] } W)
   (hbody : ∀ (l M : Nat) (pre : List α) (x : α) (W : World), w.heap.size + 2 ≤ M → M ≤ W.heap.size → I M pre W → (∃ r, xs = pre ++ x :: r) →
     body.wpIn (Fence.wide.inRound l) 0 P (fun e _ W' => match e with
       | .normal => I M (pre ++ [x]) W' ∧ Same (fun k => A k ∨ (w.heap.size ≤ k ∧ k < M)) W W'
       | _ => False) { tmps := (((a.tmps.setIfInBounds p1 (u1 x)).setIfInBounds p2 (u2 x)).setIfInBounds s1 (u1 x)).setIfInBounds s2 (u2 x), defers := [] } W)
   (hdone : ∀ (D M : Nat) (W : World), w.heap.size ≤ D → D < M → M ≤ W.heap.size → I M xs W → W.heap[D]? = some (.deferred (some [])) → Q .normal { a with defers := { target := .collected D, args := #[] } :: a.defers } W) :
   (Code.rangeFunc g #[p1, p2] assign body).wpIn Fence.wide 0 P Q a w :=
 wpIn_rangeA A hg eg (enc := fun x => #[u1 x, u2 x]) (fun _ => rfl) hgT hit I hI h0 (fun x => { tmps := (((a.tmps.setIfInBounds p1 (u1 x)).setIfInBounds p2 (u2 x)).setIfInBounds s1 (u1 x)).setIfInBounds s2 (u2 x), defers := [] }) (fun l x W K hK => by have := hassign l x W K hK; simpa using this) hbody hdone
end
def encC {α : Type} (enc : α → Array Value) (l : List α) : List Value := l.flatMap fun x => (enc x).toList
structure ElT {α : Type} (P : Program) (e : TypeId) (k : Nat) (enc : α → Array Value) where
 bytes : Nat
 zero : Value
 info : (P.info? e).map (fun i => (i.zero, i.size, i.bytes)) = some (some zero, k, bytes)
 zc : zero.cells.size = k
 pos : 0 < k
 small : bytes ≤ 10000
 size : ∀ x, (enc x).size = k
 one : ∀ x, ∀ u ∈ (enc x).toList, u.oneCell' = true
section
variable {α : Type} {P : Program} {e : TypeId} {k : Nat} {enc : α → Array Value}
theorem encC_nil : encC enc [] = [] := rfl
theorem encC_append (l m : List α) : encC enc (l ++ m) = encC enc l ++ encC enc m := by simp [encC]
theorem encC_one (x : α) : encC enc [x] = (enc x).toList := by simp [encC]
theorem encC_length (E : ElT P e k enc) (l : List α) : (encC enc l).length = l.length * k := by
 induction l with
 | nil => simp [encC]
 | cons x r ih =>
   simp only [encC, List.flatMap_cons, List.length_append, Array.length_toList, E.size, List.length_cons] at ih ⊢
   rw [ih, Nat.add_mul]
   omega
theorem encC_get (E : ElT P e k enc) {l : List α} {i j : Nat} {x : α} {u : Value} (hx : l[i]? = some x) (hu : (enc x)[j]? = some u) : (encC enc l)[i * k + j]? = some u := by
 induction l generalizing i with
 | nil => simp at hx
 | cons y r ih =>
   have hj : j < k := by have := (Array.getElem?_eq_some_iff.1 hu).1; rwa [E.size] at this
   rw [show encC enc (y :: r) = (enc y).toList ++ encC enc r from rfl]
   cases i with
   | zero =>
     simp at hx
     subst hx
     rw [List.getElem?_append_left (by rw [Array.length_toList, E.size]; omega), Nat.zero_mul, Nat.zero_add]
     simpa using hu
   | succ i =>
     rw [List.getElem?_append_right (by rw [Array.length_toList, E.size, Nat.add_mul]; omega), Array.length_toList, E.size, show (i + 1) * k + j - k = i * k + j by rw [Nat.add_mul]; omega]
     exact ih (by simpa using hx)
def OwnR (e : TypeId) (k : Nat) (enc : α → Array Value) (B : Nat) (w : World) (v : Value) (l : List α) : Prop := w.ownsRow B e k v l.length (encC enc l)
variable {B : Nat} {w w' : World} {v : Value} {l : List α}
theorem OwnR.nil (B : Nat) (w : World) : OwnR e k enc B w (.slice none 0 0) [] := World.ownsRow_nil _ _ _ _
theorem OwnR.block (h : OwnR e k enc B w v l) : ∀ j, v.ownBlock = some j → B ≤ j := fun j hj => (World.ownsRow.lt (base := B) h j hj).1
theorem OwnR.lt (h : OwnR e k enc B w v l) : ∀ j, v.ownBlock = some j → j < w.heap.size := fun j hj => (World.ownsRow.lt (base := B) h j hj).2
theorem OwnR.alloc (h : OwnR e k enc B w v l) (o : Obj) : OwnR e k enc B (w.alloc o) v l := World.ownsRow.alloc (base := B) h o
theorem OwnR.sl (h : OwnR e k enc B w v l) : ∃ a c, v = .slice a l.length c := by
 rcases h.2 with ⟨rfl, h2⟩ | ⟨g, cap, cur, rfl, _⟩
 · exact ⟨_, _, by rw [h2]⟩
 · exact ⟨_, _, rfl⟩
theorem OwnR.same (h : OwnR e k enc B w v l) (hb : ∀ g, v.ownBlock = some g → w'.heap[g]? = w.heap[g]?) : OwnR e k enc B w' v l := by
 refine ⟨h.1, ?_⟩
 rcases h.2 with h2 | ⟨g, cap, cur, rfl, hB, hg, h3⟩
 · exact .inl h2
 · exact .inr ⟨g, cap, cur, rfl, hB, (hb g rfl).trans hg, h3⟩
theorem OwnR.below {C : Nat} (h : OwnR e k enc B w v l) (hb : Below C w w') (hC : w.heap.size ≤ C) : OwnR e k enc B w' v l := h.same fun g hg => hb.block g (Nat.lt_of_lt_of_le (h.lt g hg) hC)
theorem OwnR.lower {B' : Nat} (h : OwnR e k enc B w v l) (hB : B' ≤ B) : OwnR e k enc B' w v l := by
 refine ⟨h.1, ?_⟩
 rcases h.2 with h2 | ⟨g, cap, cur, rfl, hg, h3⟩
 · exact .inl h2
 · exact .inr ⟨g, cap, cur, rfl, by omega, h3⟩
theorem OwnR.rd (E : ElT P e k enc) (h : OwnR e k enc B w v l) : Rd enc k w.heap.size w v l := by
 obtain ⟨a, c, rfl⟩ := h.sl
 refine ⟨a, c, rfl, ?_⟩
 rcases h.2 with ⟨_, h2⟩ | ⟨g, cap, cur, h1, hB, hg, _⟩
 · exact .inl (List.length_eq_zero_iff.1 h2)
 · simp only [Value.slice.injEq] at h1
   obtain ⟨rfl, -, rfl⟩ := h1
   refine .inr ⟨g, 0, rfl, (Array.getElem?_eq_some_iff.1 hg).1, fun i x hx j u hu => ?_⟩
   have := World.ownsRow.cells (base := B) h (g := g) rfl _ _ (encC_get E hx hu)
   have e : (⟨g, 0, none⟩ : Addr).add (i * k + j) = ⟨g, 0 + i * k + j, none⟩ := by unfold Addr.add; split <;> simp_all
   rwa [e] at this
theorem run_appO (E : ElT P e k enc) (st ty : TypeId) (hst : P.underlying st = some (.slice e)) (h : OwnR e k enc B w v l) (g : Nat) (y : α) (c : Nat) (hg : row? w g = some (enc y)) (hlen : l.length < 4000000) (hB : B ≤ w.heap.size) :
   ∃ v' w', (Builtin.append_ #[st, st] ty #[v, .slice (some ⟨g, 0, none⟩) 1 c]).run P w = .ok v' w' ∧ OwnR e k enc B w' v' (l ++ [y]) ∧ Below B w w' ∧ w.grownBy w' v.ownBlock ∧ (v'.ownBlock = v.ownBlock ∨ v'.ownBlock = some w.heap.size) := by
 obtain ⟨i0, hi, hz0, hz1, hz2⟩ := info_parts E.info
 obtain ⟨v', w', hr, h2, h3, h4⟩ := run_append_own2 (P := P) w B st ty e i0 E.zero k E.bytes hst hi hz0 hz1 hz2 E.zc E.pos v l.length (encC enc l) h ⟨g, 0, none⟩ 1 c (by decide) (enc y).toList (by rw [Array.length_toList, E.size, Nat.one_mul])
   (fun j u hj => by
     have : (⟨g, 0, none⟩ : Addr).add j = ⟨g, j, none⟩ := by unfold Addr.add; split <;> simp_all
     rw [this, cell?_row hg]
     simpa using hj) (E.one y) (by unfold maxLen; omega) (by
       have := E.small
       refine Nat.le_trans (Nat.mul_le_mul (Nat.succ_le_of_lt hlen) this) (by decide)) hB
 refine ⟨v', w', hr, ?_, (Below.refl B w).grown h3 hB h.block, h3, h4⟩
 unfold OwnR
 rw [List.length_append, encC_append, encC_one]
 exact h2
theorem wp_appO {o : Oper} {a : Act} {K : Act → World → Prop} {Q : Exit → Act → World → Prop} (E : ElT P e k enc) (st : TypeId) (hst : P.underlying st = some (.slice e)) (s x : Operand)
   (ho : o.op = .call { callee := .builtin .append, args := #[s, x], argTypes := #[st, st] }) (B : Nat) (v : Value) (l : List α) (hs : a.eval s = v) (hown : OwnR e k enc B w v l)
   (g : Nat) (y : α) (c : Nat) (hx : a.eval x = .slice (some ⟨g, 0, none⟩) 1 c) (hg : row? w g = some (enc y)) (hlen : l.length < 4000000) (hB : B ≤ w.heap.size)
   (h : ∀ v' w', OwnR e k enc B w' v' (l ++ [y]) → Below B w w' → w.grownBy w' v.ownBlock → (v'.ownBlock = v.ownBlock ∨ v'.ownBlock = some w.heap.size) → K (a.put o.dst v') w') : o.wp P a w K Q := by
 obtain ⟨v', w', hr, h2, h3, h4, h5⟩ := run_appO E st o.type hst hown g y c hg hlen hB
 unfold Oper.wp execOp
 simp only [ho, resolve, invoke, builtin, Sem.run_bind, Sem.run_pure, Result.andThen_ok, List.map_toArray, List.map_cons, List.map_nil, hs, hx, hr]
 exact h v' w' h2 h3 h4 h5
theorem wpList_appO {ops : Array Oper} {rest : List Oper} {o : Oper} {a : Act} {Q : Exit → Act → World → Prop} (E : ElT P e k enc) (st : TypeId) (hst : P.underlying st = some (.slice e)) (hgd : o.guard = none) (s x : Operand)
   (ho : o.op = .call { callee := .builtin .append, args := #[s, x], argTypes := #[st, st] }) (B : Nat) (v : Value) (l : List α) (hs : a.eval s = v) (hown : OwnR e k enc B w v l)
   (g : Nat) (y : α) (c : Nat) (hx : a.eval x = .slice (some ⟨g, 0, none⟩) 1 c) (hg : row? w g = some (enc y)) (hlen : l.length < 4000000) (hB : B ≤ w.heap.size)
   (h : ∀ v' w', OwnR e k enc B w' v' (l ++ [y]) → Below B w w' → w.grownBy w' v.ownBlock → (v'.ownBlock = v.ownBlock ∨ v'.ownBlock = some w.heap.size) → wpList P ops Q rest (a.put o.dst v') w') : wpList P ops Q (o :: rest) a w :=
 wpList_plain hgd fun _ hK => wp_appO E st hst s x ho B v l hs hown g y c hx hg hlen hB fun v' w' h1 h2 h3 h4 => hK _ _ (h v' w' h1 h2 h3 h4)
end
section
variable {α : Type} {P : Program} {e : TypeId} {k : Nat} {enc : α → Array Value}
theorem wpListIn_appO {F : Fence} {n : Nat} {w : World} {ops : Array Oper} {rest : List Oper} {o : Oper} {a : Act} {Q : Exit → Act → World → Prop} (E : ElT P e k enc) (st : TypeId) (hst : P.underlying st = some (.slice e)) (hgd : o.guard = none) (s x : Operand)
   (ho : o.op = .call { callee := .builtin .append, args := #[s, x], argTypes := #[st, st] }) (B : Nat) (v : Value) (l : List α) (hs : a.eval s = v) (hown : OwnR e k enc B w v l)
   (g : Nat) (y : α) (c : Nat) (hx : a.eval x = .slice (some ⟨g, 0, none⟩) 1 c) (hg : row? w g = some (enc y)) (hlen : l.length < 4000000) (hB : B ≤ w.heap.size)
   (h : ∀ v' w', OwnR e k enc B w' v' (l ++ [y]) → Below B w w' → w.grownBy w' v.ownBlock → (v'.ownBlock = v.ownBlock ∨ v'.ownBlock = some w.heap.size) → wpListIn F n P ops Q rest (a.put o.dst v') w') : wpListIn F n P ops Q (o :: rest) a w := by
 obtain ⟨v', w', hr, h2, h3, h4, h5⟩ := run_appO E st o.type hst hown g y c hg hlen hB
 refine wpListIn_plain hgd fun K hK' => ?_
 unfold Oper.wpIn
 refine ⟨?_, ?_⟩
 · simp [Oper.about, ho, resolve, Target.leads, Sem.run_pure]
 · rw [Oper.semAt_plain F _ _ (by rw [ho]; intro c hc'; cases hc')]
   simp [execOp, ho, resolve, invoke, builtin, hs, hx, hr, Result.andThen]
   exact hK' _ _ (h v' w' h2 h3 h4 h5)
end
structure Ext (w w' : World) : Prop where
 below : Below w.heap.size w w'
 drawn : w.drawn ≤ w'.drawn
theorem Ext.refl (w : World) : Ext w w := ⟨Below.refl _ _, Nat.le_refl _⟩
theorem Ext.trans {a b c : World} (h : Ext a b) (k : Ext b c) : Ext a c := ⟨h.below.trans (k.below.mono h.below.size), Nat.le_trans h.drawn k.drawn⟩
theorem Ext.alloc (w : World) (o : Obj) : Ext w (w.alloc o) := ⟨(Below.refl _ w).alloc (Nat.le_refl _) _, Nat.le_refl _⟩
theorem Ext.drew (w : World) : Ext w w.drew := ⟨(Below.refl _ w).drew, Nat.le_succ _⟩
end Go.Pal
namespace Go.Pal
open Go
section
variable {P : Program} {ops : Array Oper} {md : Region.Mode} {S : World → Prop} {Q : Exit → Act → World → Prop}
theorem ready_lt {listed : Array Bool} {j : Nat} (h : j ∈ Region.ready md ops listed) : j < ops.size := by
 obtain ⟨_, oj, hoj, _⟩ := mem_ready.1 h
 exact (Array.getElem?_eq_some_iff.1 hoj).1
def Region.restB (md : Region.Mode) (ops : Array Oper) (n : Nat) : Bool :=
 (List.range ops.size).all fun t => decide (t < n) || (List.range t).any fun j => decide (n ≤ j + 1) && Region.waitsFor md ops t j
theorem head_last {n : Nat} {listed : Array Bool} (hs : Region.sinkB md ops (n - 1) = true) (hn : n ≤ ops.size) (inv : HeadInv md ops n listed) :
   ∀ (d i : Nat), n - 1 - i = d → i < n → listed.getD i true = false → listed.getD (n - 1) false = false := by
 intro d
 induction d using Nat.strongRecOn with
 | _ d ih =>
   intro i hd hi hun
   by_cases hin : i = n - 1
   · rw [← hin]; exact getD_both hun
   · have h1 := List.all_eq_true.1 hs i (List.mem_range.2 (by omega))
     obtain ⟨j, hj, hj2⟩ := List.any_eq_true.1 h1
     simp only [Bool.and_eq_true, decide_eq_true_eq] at hj2
     obtain ⟨oj, hoj, e, he, hb, hon⟩ := Region.waitsFor_spec hj2.2
     have hjle := List.mem_range.1 hj
     cases hl : listed.getD j false with
     | true =>
       have h2 := inv.closed j oj hoj hl e he hb
       rw [hon, getD_both hun] at h2
       cases h2
     | false =>
       have hjs : j < listed.size := by rw [inv.size]; omega
       exact ih (n - 1 - j) (by omega) j rfl (by omega) (getD_in hjs hl)
theorem rest_waits {n : Nat} {listed : Array Bool} (hs : Region.sinkB md ops (n - 1) = true) (hc : Region.restB md ops n = true) (hn : n ≤ ops.size) (inv : HeadInv md ops n listed) {i : Nat} (hi : i < n) (hun : listed.getD i true = false) :
   ∀ t, n ≤ t → t ∉ Region.ready md ops listed := by
 intro t ht hr
 obtain ⟨_, ot, hot, hall⟩ := mem_ready.1 hr
 have h0 := head_last hs hn inv _ i rfl hi hun
 have h1 := List.all_eq_true.1 hc t (List.mem_range.2 (ready_lt hr))
 simp only [Bool.or_eq_true, decide_eq_true_eq, List.any_eq_true, Bool.and_eq_true, List.mem_range] at h1
 rcases h1 with h1 | ⟨j, hj, hj1, hj2⟩
 · omega
 · obtain ⟨o', ho', e, he, hb, hon⟩ := Region.waitsFor_spec hj2
   have : o' = ot := Option.some.inj (ho'.symm.trans hot)
   subst this
   have h2 := hall e he hb
   rw [hon] at h2
   by_cases hjn : j = n - 1
   · rw [hjn, h0] at h2
     cases h2
   · have := getD_both (inv.tail j (by omega) (by have := ready_lt hr; omega))
     rw [this] at h2
     cases h2
theorem wpAnyH_first1 {n i : Nat} {oi : Oper} {v : Value} {L : Array Bool → Act → World → Prop} (hi : ops[i]? = some oi) (hsel : ∀ (j : Nat) (o : Oper) cs b, ops[j]? = some o → o.op ≠ .select cs b)
   (hQ : ∀ c a w, Q (.panic c) (a.put oi.dst v) w → Q (.panic c) a w)
   (hs : Region.sinkB md ops (n - 1) = true) (hc : Region.restB md ops n = true) (hn : n ≤ ops.size) (hin : i < n)
   (hdone : ∀ listed a w, L listed a w → ∀ j ∈ Region.ready md ops listed, n ≤ j) :
   ∀ (f : Nat) (listed : Array Bool) (a : Act) (w : World), HeadInv md ops n listed →
     (∀ j oj, ops[j]? = some oj → j ≠ i → listed.getD j true = false → (∀ e ∈ oj.after, Region.binds md e = true → e.on ≠ i) → oi.apart ops oj = true) →
     i ∈ Region.ready md ops listed → HeldY P ops S oi v a → S w →
     wpAnyH P md ops S Q n L f (listed.setIfInBounds i true) (a.put oi.dst v) w → wpAnyH P md ops S Q n L (f + 1) listed a w := by
 intro f
 induction f with
 | zero =>
   intro listed a w inv _ hr hy hS H
   have hun := (mem_ready.1 hr).1
   refine ⟨hS, fun h => (by rw [h] at hr; cases hr), fun j hj => ?_⟩
   have hjn : j < n := by
     rcases Nat.lt_or_ge j n with h | h
     · exact h
     · exact absurd hj (rest_waits hs hc hn inv hin hun j h)
   refine ⟨hjn, ?_⟩
   by_cases hji : j = i
   · subst hji; exact hy.wpOp hi hS H
   · have := hdone _ _ _ H.2 j (ready_mono hj hji)
     omega
 | succ f ih =>
   intro listed a w inv hfree hr hy hS H
   have hun := (mem_ready.1 hr).1
   refine ⟨hS, fun h => (by rw [h] at hr; cases hr), fun j hj => ?_⟩
   have hjn : j < n := by
     rcases Nat.lt_or_ge j n with h | h
     · exact h
     · exact absurd hj (rest_waits hs hc hn inv hin hun j h)
   refine ⟨hjn, ?_⟩
   by_cases hji : j = i
   · subst hji; exact hy.wpOp hi hS H
   · have h1 := (H.2.2 j (ready_mono hj hji)).2
     obtain ⟨hjun, oj, hoj, hall⟩ := mem_ready.1 hj
     have hnot : ∀ e ∈ oj.after, Region.binds md e = true → e.on ≠ i := fun e he hb heq => by
       have h1 := hall e he hb
       rw [heq, getD_both hun] at h1
       cases h1
     have h2 := heldOp_put hoj (hfree j oj hoj hji hjun hnot) (fun cs b => hsel i oi cs b hi) (fun cs b => hsel j oj cs b hoj) hQ hy h1
     have hfree' : ∀ k ok, ops[k]? = some ok → k ≠ i → (listed.setIfInBounds j true).getD k true = false →
         (∀ e ∈ ok.after, Region.binds md e = true → e.on ≠ i) → oi.apart ops ok = true := fun k ok hk hki hun' hno => by
       refine hfree k ok hk hki ?_ hno
       by_cases hjk : j = k
       · subst hjk; exact hjun
       · rw [getD_set_ne true hjk] at hun'; exact hun'
     refine wpOp_mono (fun a' w' h3 => ?_) h2
     obtain ⟨hy3, h3⟩ := h3
     rw [Array.setIfInBounds_comm _ _ (Ne.symm hji)] at h3
     exact ih (listed.setIfInBounds j true) a' w' (inv.set hj hjn) hfree' (ready_mono hr (Ne.symm hji)) hy3 (wpAnyH_S h3) h3
inductive TailT where
 | done : TailT
 | one : Nat → TailT → TailT
 | two : Nat → Nat → TailT → TailT → TailT
def Region.tailB (md : Region.Mode) (ops : Array Oper) : TailT → Nat → Array Bool → Bool
 | .done, g, listed => decide (g = 0) && (Region.ready md ops listed).isEmpty
 | .one k r, g, listed => decide (0 < g) && decide (Region.ready md ops listed = [k]) && Region.tailB md ops r (g - 1) (listed.setIfInBounds k true)
 | .two k j r s, g, listed => decide (0 < g) && decide (Region.ready md ops listed = [k, j]) && Region.tailB md ops r (g - 1) (listed.setIfInBounds k true) && Region.tailB md ops s (g - 1) (listed.setIfInBounds j true)
def wpTail (P : Program) (ops : Array Oper) (Q : Exit → Act → World → Prop) : TailT → Act → World → Prop
 | .done, a, w => Q .normal a w
 | .one k r, a, w => wpOp P ops Q k (wpTail P ops Q r) a w
 | .two k j r s, a, w => wpOp P ops Q k (wpTail P ops Q r) a w ∧ wpOp P ops Q j (wpTail P ops Q s) a w
theorem wpAny_of_tail : ∀ (t : TailT) (g : Nat) (listed : Array Bool) (a : Act) (w : World), Region.tailB md ops t g listed = true → wpTail P ops Q t a w → wpAny P md ops Q g listed a w
 | .done, g, listed, a, w, hB, h => by
   simp only [Region.tailB, Bool.and_eq_true, decide_eq_true_eq, List.isEmpty_iff] at hB
   obtain ⟨rfl, hr⟩ := hB
   exact ⟨hr, h⟩
 | .one k r, g, listed, a, w, hB, h => by
   simp only [Region.tailB, Bool.and_eq_true, decide_eq_true_eq] at hB
   obtain ⟨⟨hg, hr⟩, hB'⟩ := hB
   rw [show g = (g - 1) + 1 by omega]
   refine ⟨fun h0 => (by rw [hr] at h0; cases h0), fun i hi => ?_⟩
   rw [hr] at hi
   have hik : i = k := by simpa using hi
   subst hik
   exact wpOp_mono (fun a' w' h' => wpAny_of_tail r _ _ a' w' hB' h') h
 | .two k j r s, g, listed, a, w, hB, h => by
   simp only [Region.tailB, Bool.and_eq_true, decide_eq_true_eq] at hB
   obtain ⟨⟨⟨hg, hr⟩, hB'⟩, hB2⟩ := hB
   rw [show g = (g - 1) + 1 by omega]
   refine ⟨fun h0 => (by rw [hr] at h0; cases h0), fun i hi => ?_⟩
   rw [hr] at hi
   have hik : i = k ∨ i = j := by simpa using hi
   rcases hik with rfl | rfl
   · exact wpOp_mono (fun a' w' h' => wpAny_of_tail r _ _ a' w' hB' h') h.1
   · exact wpOp_mono (fun a' w' h' => wpAny_of_tail s _ _ a' w' hB2 h') h.2
def Region.planB1 (md : Region.Mode) (ops : Array Oper) (n g : Nat) (t : TailT) : List (Nat × Bool) → Array Bool → Bool
 | [], listed => (Region.ready md ops listed).all (fun j => decide (n ≤ j)) && Region.tailB md ops t g listed
 | (k, true) :: r, listed => (Region.ready md ops listed).contains k && decide (k < n) && Region.free md ops listed k && Region.planB1 md ops n g t r (listed.setIfInBounds k true)
 | (k, false) :: r, listed => decide (Region.ready md ops listed = [k]) && decide (k < n) && Region.planB1 md ops n g t r (listed.setIfInBounds k true)
def Region.mixB1 (md : Region.Mode) (ops : Array Oper) (n : Nat) (plan : List (Nat × Bool)) (t : TailT) : Bool :=
 Region.noSelect ops && decide (n ≤ ops.size) && Region.sinkB md ops (n - 1) && Region.restB md ops n && decide (plan.length = n) && Region.planB1 md ops n (ops.size - n) t plan (Array.replicate ops.size false)
theorem wpAnyH_plan1 {n g : Nat} {t : TailT} {K : Act → World → Prop} (hsel : Region.noSelect ops = true) (hs : Region.sinkB md ops (n - 1) = true) (hc : Region.restB md ops n = true) (hn : n ≤ ops.size) (hQ : ∀ c a a' w, Q (.panic c) a w → Q (.panic c) a' w) :
   ∀ (plan : List (Nat × Bool)) (listed : Array Bool) (a : Act) (w : World), HeadInv md ops n listed → Region.planB1 md ops n g t plan listed = true → S w → wpPlan P ops S Q K plan a w →
   wpAnyH P md ops S Q n (fun listed' a' w' => ((Region.ready md ops listed').all (fun j => decide (n ≤ j)) = true ∧ Region.tailB md ops t g listed' = true) ∧ K a' w') plan.length listed a w
 | [], listed, a, w, _, hB, hS, h => by
   simp only [Region.planB1, Bool.and_eq_true] at hB
   exact ⟨hS, hB, h⟩
 | (k, true) :: r, listed, a, w, inv, hB, hS, h => by
   obtain ⟨o, v, ho, hy, h⟩ := h
   simp only [Region.planB1, Bool.and_eq_true, decide_eq_true_eq] at hB
   obtain ⟨⟨⟨hr, hk⟩, hf⟩, hB'⟩ := hB
   have hr' : k ∈ Region.ready md ops listed := by simpa using hr
   exact wpAnyH_first1 ho (Region.noSelect_spec hsel) (fun c a w => hQ c _ _ w) hs hc hn hk (fun listed' a' w' hL j hj => by simpa using List.all_eq_true.1 hL.1.1 j hj) r.length listed a w inv (Region.free_spec ho hf) hr' hy hS
     (wpAnyH_plan1 hsel hs hc hn hQ r _ _ w (inv.set hr' hk) hB' hS h)
 | (k, false) :: r, listed, a, w, inv, hB, hS, h => by
   simp only [Region.planB1, Bool.and_eq_true, decide_eq_true_eq] at hB
   obtain ⟨⟨hr, hk⟩, hB'⟩ := hB
   refine ⟨hS, by rw [hr]; simp, fun j hj => ?_⟩
   have hjk : j = k := by rw [hr] at hj; simpa using hj
   subst hjk
   exact ⟨hk, wpOp_mono (fun a' w' h' => wpAnyH_plan1 hsel hs hc hn hQ r _ a' w' (inv.set hj hk) hB' h'.1 h'.2) h⟩
theorem wp_region_mix1 {id : Nat} {Q : Exit → Act → World → Prop} {a : Act} {w : World} {l : List Oper} (S : World → Prop) (n : Nat) (plan : List (Nat × Bool)) (t : TailT) (hm : P.follows .mixedOrders = true) (hB : Region.mixB1 .any l.toArray n plan t = true)
   (hS : S w.drew)
   (h : wpPlan P l.toArray S noQ (wpTail P l.toArray Q t) plan a w.drew) : (Code.region id l.toArray true).wp P Q a w := by
 simp only [Region.mixB1, Bool.and_eq_true, decide_eq_true_eq] at hB
 obtain ⟨⟨⟨⟨⟨hsel, hn⟩, hs⟩, hc⟩, hpl⟩, hplan⟩ := hB
 have inv0 : HeadInv .any l.toArray n (Array.replicate l.toArray.size false) :=
   ⟨by simp, fun j oj _ hl => (by rw [getD_replicate_false] at hl; cases hl), fun t _ ht => getD_in (by simpa using ht) (getD_replicate_false _ _)⟩
 have H := wpAnyH_plan1 (md := .any) (Q := noQ) (g := l.toArray.size - n) hsel hs hc hn (fun _ _ _ _ h => h) plan _ a w.drew inv0 hplan hS h
 refine wp_region_any hm ?_
 have := wpAny_of_headH (Q := Q) (g := l.toArray.size - n) (fun listed a' w' hL => wpAny_of_tail t _ listed a' w' hL.1.2 hL.2) _ _ _ _ H
 rw [hpl, show n + (l.toArray.size - n) = l.toArray.size by omega] at this
 exact this
theorem wpTail_done {a : Act} {w : World} (h : Q .normal a w) : wpTail P ops Q .done a w := h
theorem wpTail_one {a : Act} {w : World} {k : Nat} {r : TailT} {o : Oper} (ho : ops[k]? = some o) (hg : o.guard = none)
   (h : ∀ K' : Act → World → Prop, (∀ a w, wpTail P ops Q r a w → K' a w) → o.wp P a w K' Q) : wpTail P ops Q (.one k r) a w := by
 show wpOp P ops Q k _ a w
 unfold wpOp
 simp only [ho, wanted_none hg, if_true]
 exact .inl (h _ fun _ _ h => h)
theorem wpTail_two {a : Act} {w : World} {k j : Nat} {r s : TailT} (h1 : wpTail P ops Q (.one k r) a w) (h2 : wpTail P ops Q (.one j s) a w) : wpTail P ops Q (.two k j r s) a w := ⟨h1, h2⟩
end
section
variable {P : Program} {ops : Array Oper} {md : Region.Mode} {S1 S2 : World → Prop} {z : Nat} {Q : Exit → Act → World → Prop}
def SLz (S1 S2 : World → Prop) (z : Nat) (listed : Array Bool) (w : World) : Prop := (listed.getD z false = false → S1 w) ∧ (listed.getD z false = true → S2 w)
theorem SLz.set {i : Nat} {listed : Array Bool} {w : World} (h : i ≠ z) : SLz S1 S2 z (listed.setIfInBounds i true) w ↔ SLz S1 S2 z listed w := by
 unfold SLz
 rw [getD_set_ne false h]
def wpAnyG (P : Program) (md : Region.Mode) (ops : Array Oper) (SL : Array Bool → World → Prop) (Q : Exit → Act → World → Prop) (L : Array Bool → Act → World → Prop) : Nat → Array Bool → Act → World → Prop
 | 0, listed, a, w => SL listed w ∧ L listed a w
 | f + 1, listed, a, w => SL listed w ∧ Region.ready md ops listed ≠ [] ∧ ∀ i ∈ Region.ready md ops listed, wpOp P ops Q i (wpAnyG P md ops SL Q L f (listed.setIfInBounds i true)) a w
theorem wpAnyG_S {SL : Array Bool → World → Prop} {L : Array Bool → Act → World → Prop} : ∀ {f : Nat} {listed : Array Bool} {a : Act} {w : World}, wpAnyG P md ops SL Q L f listed a w → SL listed w
 | 0, _, _, _, h => h.1
 | _ + 1, _, _, _, h => h.1
theorem wpAny_of_G {SL : Array Bool → World → Prop} {L : Array Bool → Act → World → Prop} (hL : ∀ listed a w, L listed a w → wpAny P md ops Q 0 listed a w) :
   ∀ (f : Nat) (listed : Array Bool) (a : Act) (w : World), wpAnyG P md ops SL noQ L f listed a w → wpAny P md ops Q f listed a w
 | 0, listed, a, w, h => hL _ _ _ h.2
 | f + 1, listed, a, w, h => ⟨fun h0 => absurd h0 h.2.1, fun i hi => wpOp_noQ (wpOp_mono (fun a' w' h' => wpAny_of_G hL f _ a' w' h') (h.2.2 i hi))⟩
theorem wpAnyG_first {i : Nat} {oi : Oper} {v : Value} {S0 : World → Prop} {L : Array Bool → Act → World → Prop} (hi : ops[i]? = some oi) (hsel : ∀ (j : Nat) (o : Oper) cs b, ops[j]? = some o → o.op ≠ .select cs b)
   (hQ : ∀ c a w, Q (.panic c) (a.put oi.dst v) w → Q (.panic c) a w) (hiz : i ≠ z)
   (hdone : ∀ listed a w, L listed a w → Region.ready md ops listed = [])
   (b : Bool) (hS0 : ∀ listed w, HeadInv md ops ops.size listed → listed.getD i true = false → (b = true → listed.getD z false = true) → SLz S1 S2 z listed w → S0 w) :
   ∀ (f : Nat) (listed : Array Bool) (a : Act) (w : World), HeadInv md ops ops.size listed → (b = true → listed.getD z false = true) →
     (∀ j oj, ops[j]? = some oj → j ≠ i → listed.getD j true = false → (∀ e ∈ oj.after, Region.binds md e = true → e.on ≠ i) → oi.apart ops oj = true) →
     i ∈ Region.ready md ops listed → HeldY P ops S0 oi v a → SLz S1 S2 z listed w →
     wpAnyG P md ops (SLz S1 S2 z) Q L f (listed.setIfInBounds i true) (a.put oi.dst v) w → wpAnyG P md ops (SLz S1 S2 z) Q L (f + 1) listed a w := by
 intro f
 induction f with
 | zero =>
   intro listed a w inv hbz _ hr hy hS H
   refine ⟨hS, fun h => (by rw [h] at hr; cases hr), fun j hj => ?_⟩
   by_cases hji : j = i
   · subst hji; exact hy.wpOp hi (hS0 _ _ inv (mem_ready.1 hr).1 hbz hS) H
   · have h1 := hdone _ _ _ H.2
     have h2 := ready_mono hj hji
     rw [h1] at h2
     cases h2
 | succ f ih =>
   intro listed a w inv hbz hfree hr hy hS H
   have hun := (mem_ready.1 hr).1
   refine ⟨hS, fun h => (by rw [h] at hr; cases hr), fun j hj => ?_⟩
   by_cases hji : j = i
   · subst hji; exact hy.wpOp hi (hS0 _ _ inv hun hbz hS) H
   · have h1 := H.2.2 j (ready_mono hj hji)
     obtain ⟨hjun, oj, hoj, hall⟩ := mem_ready.1 hj
     have hnot : ∀ e ∈ oj.after, Region.binds md e = true → e.on ≠ i := fun e he hb heq => by
       have h1 := hall e he hb
       rw [heq, getD_both hun] at h1
       cases h1
     have h2 := heldOp_put hoj (hfree j oj hoj hji hjun hnot) (fun cs b => hsel i oi cs b hi) (fun cs b => hsel j oj cs b hoj) hQ hy h1
     have hfree' : ∀ k ok, ops[k]? = some ok → k ≠ i → (listed.setIfInBounds j true).getD k true = false →
         (∀ e ∈ ok.after, Region.binds md e = true → e.on ≠ i) → oi.apart ops ok = true := fun k ok hk hki hun' hno => by
       refine hfree k ok hk hki ?_ hno
       by_cases hjk : j = k
       · subst hjk; exact hjun
       · rw [getD_set_ne true hjk] at hun'; exact hun'
     refine wpOp_mono (fun a' w' h3 => ?_) h2
     obtain ⟨hy3, h3⟩ := h3
     rw [Array.setIfInBounds_comm _ _ (Ne.symm hji)] at h3
     exact ih (listed.setIfInBounds j true) a' w' (inv.set hj (ready_lt hj)) (fun hb => getD_set_true (hbz hb)) hfree' (ready_mono hr (Ne.symm hji)) hy3 ((SLz.set hiz).1 (wpAnyG_S h3)) h3
def Region.planZ (md : Region.Mode) (ops : Array Oper) (z : Nat) : List (Nat × Bool) → Array Bool → Bool
 | [], listed => (Region.ready md ops listed).isEmpty
 | (k, true) :: r, listed => (Region.ready md ops listed).contains k && decide (k ≠ z) && Region.free md ops listed k && Region.planZ md ops z r (listed.setIfInBounds k true)
 | (k, false) :: r, listed => decide (Region.ready md ops listed = [k]) && Region.planZ md ops z r (listed.setIfInBounds k true)
def Region.mixZ (md : Region.Mode) (ops : Array Oper) (z : Nat) (plan : List (Nat × Bool)) : Bool :=
 Region.noSelect ops && decide (z < ops.size) && decide (plan.length = ops.size) && Region.planZ md ops z plan (Array.replicate ops.size false)
def wpPlanZ (P : Program) (md : Region.Mode) (ops : Array Oper) (S1 S2 : World → Prop) (z : Nat) (Q : Exit → Act → World → Prop) (K : Act → World → Prop) : List (Nat × Bool) → Bool → Act → World → Prop
 | [], _, a, w => K a w
 | (k, true) :: r, b, a, w => ∃ o v, ops[k]? = some o ∧ HeldY P ops (fun w => (b = false ∧ S1 w) ∨ ((b = true ∨ Region.waitsFor md ops z k = false) ∧ S2 w)) o v a ∧ wpPlanZ P md ops S1 S2 z Q K r b (a.put o.dst v) w
 | (k, false) :: r, b, a, w => wpOp P ops Q k (fun a' w' => (if k = z ∨ b = true then S2 w' else S1 w') ∧ wpPlanZ P md ops S1 S2 z Q K r (decide (k = z) || b) a' w') a w
theorem wpAnyG_plan {K : Act → World → Prop} (hsel : Region.noSelect ops = true) (hz : z < ops.size) (hQ : ∀ c a a' w, Q (.panic c) a w → Q (.panic c) a' w) :
   ∀ (plan : List (Nat × Bool)) (listed : Array Bool) (b : Bool) (a : Act) (w : World), HeadInv md ops ops.size listed → Region.planZ md ops z plan listed = true → listed.getD z false = b → SLz S1 S2 z listed w → wpPlanZ P md ops S1 S2 z Q K plan b a w →
   wpAnyG P md ops (SLz S1 S2 z) Q (fun listed' a' w' => Region.ready md ops listed' = [] ∧ K a' w') plan.length listed a w
 | [], listed, b, a, w, _, hB, _, hS, h => by
   simp only [Region.planZ, List.isEmpty_iff] at hB
   exact ⟨hS, hB, h⟩
 | (k, true) :: r, listed, b, a, w, inv, hB, hb, hS, h => by
   obtain ⟨o, v, ho, hy, h⟩ := h
   simp only [Region.planZ, Bool.and_eq_true, decide_eq_true_eq] at hB
   obtain ⟨⟨⟨hr, hk⟩, hf⟩, hB'⟩ := hB
   have hr' : k ∈ Region.ready md ops listed := by simpa using hr
   refine wpAnyG_first ho (Region.noSelect_spec hsel) (fun c a w => hQ c _ _ w) hk (fun _ _ _ hL => hL.1) b (fun l w inv' hun hbz hSL => ?_) r.length listed a w inv (fun h => hb.trans h) (Region.free_spec ho hf) hr' hy hS
     (wpAnyG_plan hsel hz hQ r _ b _ w (inv.set hr' (ready_lt hr')) hB' (by rw [getD_set_ne false hk]; exact hb) ((SLz.set hk).2 hS) h)
   cases hlz : l.getD z false with
   | true =>
     refine .inr ⟨?_, hSL.2 hlz⟩
     cases hw : Region.waitsFor md ops z k with
     | false => exact .inr rfl
     | true =>
       obtain ⟨oz, hoz, e, he, heb, hon⟩ := Region.waitsFor_spec hw
       have := inv'.closed z oz hoz hlz e he heb
       rw [hon, getD_both hun] at this
       cases this
   | false =>
     refine .inl ⟨?_, hSL.1 hlz⟩
     cases b with
     | false => rfl
     | true => rw [hbz rfl] at hlz; cases hlz
 | (k, false) :: r, listed, b, a, w, inv, hB, hb, hS, h => by
   simp only [Region.planZ, Bool.and_eq_true, decide_eq_true_eq] at hB
   obtain ⟨hr, hB'⟩ := hB
   refine ⟨hS, by rw [hr]; simp, fun j hj => ?_⟩
   have hjk : j = k := by rw [hr] at hj; simpa using hj
   subst hjk
   refine wpOp_mono (fun a' w' h' => ?_) h
   have hbn : (listed.setIfInBounds j true).getD z false = (decide (j = z) || b) := by
     by_cases hjz : j = z
     · subst hjz
       have : j < listed.size := by rw [inv.size]; exact hz
       simp [this]
     · rw [getD_set_ne false hjz, hb]
       simp [hjz]
   refine wpAnyG_plan hsel hz hQ r _ _ a' w' (inv.set hj (ready_lt hj)) hB' hbn ⟨fun h0 => ?_, fun h1 => ?_⟩ h'.2
   · rw [hbn] at h0
     simp at h0
     have := h'.1
     rw [if_neg (by simp [h0.1, h0.2])] at this
     exact this
   · rw [hbn] at h1
     simp at h1
     have := h'.1
     rw [if_pos (by simpa using h1)] at this
     exact this
theorem wp_region_mixZ {id : Nat} {Q : Exit → Act → World → Prop} {a : Act} {w : World} {l : List Oper} (S1 S2 : World → Prop) (z : Nat) (plan : List (Nat × Bool)) (hm : P.follows .mixedOrders = true) (hB : Region.mixZ .any l.toArray z plan = true)
   (hS : S1 w.drew)
   (h : wpPlanZ P .any l.toArray S1 S2 z noQ (fun a' w' => Q .normal a' w') plan false a w.drew) : (Code.region id l.toArray true).wp P Q a w := by
 simp only [Region.mixZ, Bool.and_eq_true, decide_eq_true_eq] at hB
 obtain ⟨⟨⟨hsel, hz⟩, hpl⟩, hplan⟩ := hB
 have inv0 : HeadInv .any l.toArray l.toArray.size (Array.replicate l.toArray.size false) :=
   ⟨by simp, fun j oj _ hl => (by rw [getD_replicate_false] at hl; cases hl), fun t _ ht => getD_in (by simpa using ht) (getD_replicate_false _ _)⟩
 have H := wpAnyG_plan (md := .any) (Q := noQ) hsel hz (fun _ _ _ _ h => h) plan _ false a w.drew inv0 hplan (getD_replicate_false _ _) ⟨fun _ => hS, fun h1 => by rw [getD_replicate_false] at h1; cases h1⟩ h
 refine wp_region_any hm ?_
 have := wpAny_of_G (Q := Q) (fun listed a' w' hL => hL) _ _ _ _ H
 rw [hpl] at this
 exact this
theorem wpPlanZ_nil {K : Act → World → Prop} {b : Bool} {a : Act} {w : World} (h : K a w) : wpPlanZ P md ops S1 S2 z Q K [] b a w := h
theorem wpPlanZ_old {K : Act → World → Prop} {a : Act} {w : World} {k : Nat} {r : List (Nat × Bool)} {o : Oper} {v : Value} (ho : ops[k]? = some o) (hg : o.guard = none) (hk : Region.waitsFor md ops z k = true) (hv : ∀ w, S1 w → (execOp a.eval o).run P w = .ok (.value v) w)
   (h : ∀ K' : Act → World → Prop, (∀ a w, wpPlanZ P md ops S1 S2 z Q K r false a w → K' a w) → K' (a.put o.dst v) w) : wpPlanZ P md ops S1 S2 z Q K ((k, true) :: r) false a w :=
 ⟨o, v, ho, .inl ⟨wanted_none hg, fun w hw => by
   rcases hw with ⟨_, hw⟩ | ⟨h1, hw⟩
   · exact hv w hw
   · rw [hk] at h1
     rcases h1 with h1 | h1 <;> cases h1⟩, h _ fun _ _ h => h⟩
theorem wpPlanZ_free {K : Act → World → Prop} {b : Bool} {a : Act} {w : World} {k : Nat} {r : List (Nat × Bool)} {o : Oper} {v : Value} (ho : ops[k]? = some o) (hg : o.guard = none) (hv : ∀ w, (execOp a.eval o).run P w = .ok (.value v) w)
   (h : ∀ K' : Act → World → Prop, (∀ a w, wpPlanZ P md ops S1 S2 z Q K r b a w → K' a w) → K' (a.put o.dst v) w) : wpPlanZ P md ops S1 S2 z Q K ((k, true) :: r) b a w :=
 ⟨o, v, ho, .inl ⟨wanted_none hg, fun w _ => hv w⟩, h _ fun _ _ h => h⟩
theorem wpPlanZ_freeG {K : Act → World → Prop} {b : Bool} {a : Act} {w : World} {k : Nat} {r : List (Nat × Bool)} {o : Oper} {v : Value} (ho : ops[k]? = some o) (hw : Region.wanted o (yielded ops a.tmps) = true) (hv : ∀ w, (execOp a.eval o).run P w = .ok (.value v) w)
   (h : ∀ K' : Act → World → Prop, (∀ a w, wpPlanZ P md ops S1 S2 z Q K r b a w → K' a w) → K' (a.put o.dst v) w) : wpPlanZ P md ops S1 S2 z Q K ((k, true) :: r) b a w :=
 ⟨o, v, ho, .inl ⟨hw, fun w _ => hv w⟩, h _ fun _ _ h => h⟩
theorem wpPlanZ_act {K : Act → World → Prop} {b : Bool} {a : Act} {w : World} {k : Nat} {r : List (Nat × Bool)} {o : Oper} (ho : ops[k]? = some o) (hg : o.guard = none) (hk : k = z ∨ b = true)
   (h : ∀ K' : Act → World → Prop, (∀ a w, S2 w → wpPlanZ P md ops S1 S2 z Q K r true a w → K' a w) → o.wp P a w K' Q) : wpPlanZ P md ops S1 S2 z Q K ((k, false) :: r) b a w := by
 show wpOp P ops Q k _ a w
 unfold wpOp
 simp only [ho, wanted_none hg, if_true, if_pos hk]
 have hb : (decide (k = z) || b) = true := by simpa using hk
 rw [hb]
 exact .inl (h _ fun a w hs hp => ⟨hs, hp⟩)
end
end Go.Pal
