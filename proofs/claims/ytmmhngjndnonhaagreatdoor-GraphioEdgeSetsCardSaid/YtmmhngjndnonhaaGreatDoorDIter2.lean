/-
  A range over a function whose variable is boxed (the assign code lays a block), told of its own record; a range over a function within a round of another. Own rules beside those of the text on iterators. The marks that such loops leave among the deferred calls. No program.
-/
import Derived.Test.YtmmhngjndnonhaaGreatDoorDRoR
set_option linter.unusedSimpArgs false
set_option linter.unusedVariables false
namespace Go.Pal
open Go Go.RowKit
section
variable {P : Program}

/-- THE STATEMENT 'for x := range g { .. }', ITS VARIABLE BOXED. -/
theorem wpIn_rangeB {α : Type} {g : Operand} {ps : Array Tmp} {assign body : Code} {Q : Exit → Act → World → Prop} {a : Act} {w : World} (gT : Nat)
    {gf : Nat} {lb : Array Value} (hg : a.eval g = .func (.func gf) #[] lb) (eg : ∀ args w, (callFunc gf args).run P w = .ok (.enter gf args) w)
    {enc : α → Value} {xs : List α} (hps : ps.size = 1) (hgT : gT < w.heap.size)
    (hit : ∀ W, Below w.heap.size w W → w.heap.size + 2 ≤ W.heap.size → Iterates P gT gf lb enc xs W)
    (I : Nat → List α → World → Prop)
    (hI : ∀ M pre W W', w.heap.size ≤ M → M ≤ W.heap.size → I M pre W → Same (fun k => k < w.heap.size ∨ M ≤ k) W W' → I M pre W')
    (h0 : ∀ M W, w.heap.size ≤ M → M ≤ W.heap.size → Below w.heap.size w W → I M [] W)
    (Ax : Nat → α → Act → World → Prop) (hAx : ∀ M x a' W W', w.heap.size ≤ M → Ax M x a' W → Same (fun k => k < w.heap.size ∨ M ≤ k) W W' → Ax M x a' W')
    (hassign : ∀ (l M : Nat) (pre : List α) (x : α) (W : World) (K : Act → World → Prop), w.heap.size + 2 ≤ M → M ≤ W.heap.size → I M pre W → (∀ a' W', Below W.heap.size W W' → Ax M x a' W' → K a' W') →
      assign.wpIn (Fence.wide.inRound l) 0 P (Exit.then K (fun _ _ _ => False)) { tmps := (ps.zip #[enc x]).foldl (fun t (p, v) => t.setIfInBounds p v) a.tmps, defers := [] } W)
    (hbody : ∀ (l M : Nat) (pre : List α) (x : α) (a' : Act) (W : World), w.heap.size + 2 ≤ M → M ≤ W.heap.size → w.heap.size ≤ l → l < M → (∃ r, W.heap[l]? = some (.loop r)) → I M pre W → Ax M x a' W → (∃ r, xs = pre ++ x :: r) →
      body.wpIn (Fence.wide.inRound l) 0 P (fun e _ W' => match e with
        | .normal => I M (pre ++ [x]) W' ∧ Same (fun k => k = gT ∨ (w.heap.size ≤ k ∧ k < M)) W W'
        | _ => False) a' W)
    (hdone : ∀ (D M : Nat) (W : World), w.heap.size ≤ D → D < M → M ≤ W.heap.size → I M xs W → W.heap[D]? = some (.deferred (some [])) → Q .normal { a with defers := { target := .collected D, args := #[] } :: a.defers } W) :
    (Code.rangeFunc g ps assign body).wpIn Fence.wide 0 P Q a w := by
  refine wpIn_rangeFunc ?_
  intro fn hfn
  show ∃ (l : Nat) (mark : List Deferred) (w₁ : World) (d : Deferred) (w₁' : World) (f : FuncId) (args : Array Value) (w₂ : World), (Instr.enterLoop fn a.tmps ps assign body none).run P w = .ok (l, mark) w₁ ∧ _
  obtain ⟨rec, hrec⟩ : ∃ rec : LoopState → Option Code → Loop, rec = fun st pe => { state := st, pending := pe, fn, tmps := a.tmps, params := ps, assign, body, defers := w.heap.size } := ⟨_, rfl⟩
  obtain ⟨W1, hW1⟩ : ∃ W1, (w.alloc (.deferred (some []))).alloc (.loop (rec .ready none)) = W1 := ⟨_, rfl⟩
  have hs1 : W1.heap.size = w.heap.size + 2 := by rw [← hW1]; simp
  have hL1 : W1.heap[w.heap.size + 1]? = some (.loop (rec .ready none)) := by
    rw [← hW1]; have := World.alloc_heap_new (w.alloc (.deferred (some []))) (.loop (rec .ready none)); rwa [World.size_alloc] at this
  have hK1 : W1.heap[w.heap.size]? = some (.deferred (some [])) := by
    rw [← hW1]; exact (Below.heap_alloc _ _ _ (by simp)).trans (World.alloc_heap_new w _)
  have hb1 : Below w.heap.size w W1 := by
    rw [← hW1]; exact ((Below.refl _ w).alloc (Nat.le_refl _) _).alloc (by simp) _
  refine ⟨w.heap.size + 1, [{ target := .collected w.heap.size, args := #[] }], W1, { target := .fn (.func gf) lb, args := #[.func (.yield (w.heap.size + 1)) #[] #[]] }, W1, gf,
    #[.func (.yield (w.heap.size + 1)) #[] #[]] ++ lb, W1, ?_, ?_, ?_, ?_, (fun h => nomatch h), ?_⟩
  · rw [← hW1, hrec]; exact run_enterLoop_outer _ _ _ _ _
  · simp only [resolve, hg]
    simp [go_sem]
  · intro f' _; trivial
  · simp [invoke, go_sem, eg]
  · refine (hit W1 hb1 (by omega) (w.heap.size + 1)
      (fun M pre W => W1.heap.size ≤ M ∧ M ≤ W.heap.size ∧ I M pre W ∧ W.heap[w.heap.size + 1]? = some (.loop (rec .ready none)) ∧ W.heap[w.heap.size]? = some (.deferred (some []))) ?_ ?_ ?_).mono ?_
    · rintro M pre A B hM hMA ⟨_, _, hi, hl, hk⟩ hs
      exact ⟨hM, Nat.le_trans hMA hs.size, hI M pre A B (by omega) hMA hi (hs.mono fun k _ h => h.imp (fun h => by omega) id),
        (hs.block _ (Array.getElem?_eq_some_iff.1 hl).1 (.inl (by omega))).trans hl, (hs.block _ (Array.getElem?_eq_some_iff.1 hk).1 (.inl (by omega))).trans hk⟩
    · rintro M pre x W hM hMW ⟨_, _, hi, hl, hk⟩ hx
      have hlt : w.heap.size + 1 < W.heap.size := (Array.getElem?_eq_some_iff.1 hl).1
      have hy := run_yield (P := P) (args := #[enc x]) hl (by rw [hrec, hps]; rfl)
      rw [hrec] at hy
      have hne : ¬ (w.heap.size + 1 < w.heap.size ∨ M ≤ w.heap.size + 1) := by omega
      refine ⟨fn, _, assign, body, hy, roundIn_of_wpIn trivial (hassign _ M pre x W _ (by omega) hMW hi ?_)⟩
      intro a' Wa hba hax
      have hla : Wa.heap[w.heap.size + 1]? = some (.loop (rec .ready none)) := (hba.block _ hlt).trans hl
      have hka : Wa.heap[w.heap.size]? = some (.deferred (some [])) := (hba.block _ (by omega)).trans hk
      have hlta : w.heap.size + 1 < Wa.heap.size := (Array.getElem?_eq_some_iff.1 hla).1
      have hia : I M pre Wa := hI M pre _ _ (by omega) hMW hi ((Same.of_below hba).mono fun k hk _ => hk)
      refine ⟨_, run_beginRound hla (by rw [hrec]), ?_⟩
      have hl2 : (Wa.putObj (w.heap.size + 1) (.loop { rec .ready none with state := .busy })).heap[w.heap.size + 1]? = some (.loop { rec .ready none with state := .busy }) := World.putObj_heap_same hlta
      have hk2 : (Wa.putObj (w.heap.size + 1) (.loop { rec .ready none with state := .busy })).heap[w.heap.size]? = some (.deferred (some [])) := (World.putObj_heap_other (by omega)).trans hka
      have hsp := Same.putObj (fun k => k < w.heap.size ∨ M ≤ k) Wa (w.heap.size + 1) (.loop { rec .ready none with state := .busy }) hne
      have hi2 := hI M pre _ _ (by omega) (Nat.le_trans hMW hba.size) hia hsp
      refine wpIn_mono (hbody _ M pre x a' _ (by omega) (by simpa using Nat.le_trans hMW hba.size) (by omega) (by omega) ⟨_, hl2⟩ hi2 (hAx M x a' _ _ (by omega) hax hsp) hx) ?_
      rintro e a3 W3 hp
      cases e with
      | normal =>
        obtain ⟨hi3, hs3⟩ := hp
        have hl3 := (hs3.block _ (by simpa using hlta) (.inr ⟨by omega, by omega⟩)).trans hl2
        have hk3 := (hs3.block _ (by simp; omega) (.inr ⟨by omega, by omega⟩)).trans hk2
        have hend := run_endRound (P := P) none hl3
        have hsz3 := hs3.size
        simp only [World.putObj_size] at hsz3
        have hsa := hba.size
        refine ⟨_, _, hend, rfl, ⟨hM, by simp; omega, hI M _ _ _ (by omega) (by omega) hi3 (Same.putObj _ W3 (w.heap.size + 1) _ hne), ?_, (World.putObj_heap_other (by omega)).trans hk3⟩, ?_⟩
        · rw [World.putObj_heap_same (Array.getElem?_eq_some_iff.1 hl3).1, hrec]
          rfl
        · refine ⟨hs3.os.trans hba.os, hs3.tape.trans hba.tape, hs3.output.trans hba.output, by simp; omega, fun k hk hA => ?_⟩
          have hkl : k ≠ w.heap.size + 1 := by omega
          rw [World.putObj_heap_other hkl]
          refine (hs3.block k (by simp; omega) (hA.imp id fun h => ⟨by omega, h.2⟩)).trans ((World.putObj_heap_other hkl).trans (hba.block k hk))
      | _ => exact hp.elim
    · intro M W hM hMW hs
      have e1 := hs.block _ (by omega : w.heap.size + 1 < W1.heap.size) (by omega)
      have e2 := hs.block _ (by omega : w.heap.size < W1.heap.size) (by omega)
      exact ⟨hM, hMW, h0 M W (by omega) hMW (hb1.trans (hs.below (by omega) fun k hk => by omega)), e1.trans hL1, e2.trans hK1⟩
    · rintro e W2 ⟨⟨v, rfl⟩, M, hM, _, hMW, hi, hl, hk⟩
      have hend := run_endLoop (P := P) hl (by rw [hrec]; simp)
      rw [hrec] at hend
      refine ⟨none, _, hend, hdone _ M _ (Nat.le_refl _) (by omega) (by simpa using hMW) (hI M _ _ _ (by omega) hMW hi (Same.putObj _ W2 (w.heap.size + 1) _ (by omega))) ((World.putObj_heap_other (by omega)).trans hk)⟩

/-- The same, the variable's slot s, its box of type t, the yielded value's slot p. -/
theorem wpIn_range_box {α : Type} {g : Operand} {p : Tmp} {assign body : Code} {Q : Exit → Act → World → Prop} {a : Act} {w : World} (gT s : Nat) (t : TypeId)
    {gf : Nat} {lb : Array Value} (hg : a.eval g = .func (.func gf) #[] lb) (eg : ∀ args w, (callFunc gf args).run P w = .ok (.enter gf args) w)
    {enc : α → Value} {xs : List α} (hgT : gT < w.heap.size)
    (hit : ∀ W, Below w.heap.size w W → w.heap.size + 2 ≤ W.heap.size → Iterates P gT gf lb enc xs W)
    (I : Nat → List α → World → Prop)
    (hI : ∀ M pre W W', w.heap.size ≤ M → M ≤ W.heap.size → I M pre W → Same (fun k => k < w.heap.size ∨ M ≤ k) W W' → I M pre W')
    (h0 : ∀ M W, w.heap.size ≤ M → M ≤ W.heap.size → Below w.heap.size w W → I M [] W)
    (hassign : ∀ (l : Nat) (x : α) (W : World) (K : Act → World → Prop), K { tmps := (a.tmps.setIfInBounds p (enc x)).setIfInBounds s (.pointer (some ⟨W.heap.size, 0, none⟩)), defers := [] } (W.alloc (.cells #[enc x] t)) →
      assign.wpIn (Fence.wide.inRound l) 0 P (Exit.then K (fun _ _ _ => False)) { tmps := a.tmps.setIfInBounds p (enc x), defers := [] } W)
    (hbody : ∀ (l M : Nat) (pre : List α) (x : α) (bx : Nat) (W : World), w.heap.size + 2 ≤ M → M ≤ W.heap.size → w.heap.size ≤ l → l < M → (∃ r, W.heap[l]? = some (.loop r)) → I M pre W → M ≤ bx → row? W bx = some #[enc x] → (∃ r, xs = pre ++ x :: r) →
      body.wpIn (Fence.wide.inRound l) 0 P (fun e _ W' => match e with
        | .normal => I M (pre ++ [x]) W' ∧ Same (fun k => k = gT ∨ (w.heap.size ≤ k ∧ k < M)) W W'
        | _ => False) { tmps := (a.tmps.setIfInBounds p (enc x)).setIfInBounds s (.pointer (some ⟨bx, 0, none⟩)), defers := [] } W)
    (hdone : ∀ (D M : Nat) (W : World), w.heap.size ≤ D → D < M → M ≤ W.heap.size → I M xs W → W.heap[D]? = some (.deferred (some [])) → Q .normal { a with defers := { target := .collected D, args := #[] } :: a.defers } W) :
    (Code.rangeFunc g #[p] assign body).wpIn Fence.wide 0 P Q a w :=
  wpIn_rangeB gT hg eg rfl hgT hit I hI h0 (fun M x a' W => ∃ bx, M ≤ bx ∧ row? W bx = some #[enc x] ∧ a' = { tmps := (a.tmps.setIfInBounds p (enc x)).setIfInBounds s (.pointer (some ⟨bx, 0, none⟩)), defers := [] })
    (fun M x a' W W' hM ⟨bx, h1, h2, h3⟩ hs => ⟨bx, h1, (row?_congr (hs.block _ (row?_lt h2) (.inr h1))).trans h2, h3⟩)
    (fun l M pre x W K hM hMW hi hK => by
      have := hassign l x W K (hK _ _ ((Below.refl _ W).alloc (Nat.le_refl _) _) ⟨W.heap.size, hMW, row?_alloc_at _ _ _ _ rfl, rfl⟩)
      simpa using this)
    (fun l M pre x a' W h1 h2 h3 h4 h5 hi ⟨bx, h6, h7, h8⟩ hx => by rw [h8]; exact hbody l M pre x bx W h1 h2 h3 h4 h5 hi h6 h7 hx) hdone

/-- THE SAME STATEMENT WITHIN A ROUND of the loop l0: one block is laid, no mark is left. -/
theorem wpIn_rangeN {α : Type} {g : Operand} {ps : Array Tmp} {assign body : Code} {Q : Exit → Act → World → Prop} {a : Act} {w : World} (gT l0 : Nat) (hl0 : ∃ r, w.heap[l0]? = some (.loop r))
    {gf : Nat} {lb : Array Value} (hg : a.eval g = .func (.func gf) #[] lb) (eg : ∀ args w, (callFunc gf args).run P w = .ok (.enter gf args) w)
    {enc : α → Value} {xs : List α} (hps : ps.size = 1) (hgT : gT < w.heap.size)
    (hit : ∀ W, Below w.heap.size w W → w.heap.size + 1 ≤ W.heap.size → Iterates P gT gf lb enc xs W)
    (I : Nat → List α → World → Prop)
    (hI : ∀ M pre W W', w.heap.size ≤ M → M ≤ W.heap.size → I M pre W → Same (fun k => k < w.heap.size ∨ M ≤ k) W W' → I M pre W')
    (h0 : ∀ M W, w.heap.size ≤ M → M ≤ W.heap.size → Below w.heap.size w W → I M [] W) (a₁ : α → Act)
    (hassign : ∀ (l : Nat) (x : α) (W : World) (K : Act → World → Prop), K (a₁ x) W →
      assign.wpIn (Fence.wide.inRound l) 0 P (Exit.then K (fun _ _ _ => False)) { tmps := (ps.zip #[enc x]).foldl (fun t (p, v) => t.setIfInBounds p v) a.tmps, defers := [] } W)
    (hbody : ∀ (l M : Nat) (pre : List α) (x : α) (W : World), w.heap.size + 1 ≤ M → M ≤ W.heap.size → I M pre W → (∃ r, xs = pre ++ x :: r) →
      body.wpIn (Fence.wide.inRound l) 0 P (fun e _ W' => match e with
        | .normal => I M (pre ++ [x]) W' ∧ Same (fun k => k = gT ∨ (w.heap.size ≤ k ∧ k < M)) W W'
        | _ => False) (a₁ x) W)
    (hdone : ∀ (M : Nat) (W : World), w.heap.size ≤ M → M ≤ W.heap.size → I M xs W → Q .normal a W) :
    (Code.rangeFunc g ps assign body).wpIn (Fence.wide.inRound l0) 0 P Q a w := by
  obtain ⟨r₀, hl0⟩ := hl0
  refine wpIn_rangeFunc ?_
  intro fn hfn
  show ∃ (l : Nat) (mark : List Deferred) (w₁ : World) (d : Deferred) (w₁' : World) (f : FuncId) (args : Array Value) (w₂ : World), (Instr.enterLoop fn a.tmps ps assign body (some l0)).run P w = .ok (l, mark) w₁ ∧ _
  obtain ⟨rec, hrec⟩ : ∃ rec : LoopState → Option Code → Loop, rec = fun st pe => { state := st, pending := pe, fn, tmps := a.tmps, params := ps, assign, body, defers := r₀.defers } := ⟨_, rfl⟩
  obtain ⟨W1, hW1⟩ : ∃ W1, w.alloc (.loop (rec .ready none)) = W1 := ⟨_, rfl⟩
  have hs1 : W1.heap.size = w.heap.size + 1 := by rw [← hW1]; simp
  have hL1 : W1.heap[w.heap.size]? = some (.loop (rec .ready none)) := by rw [← hW1]; exact World.alloc_heap_new w _
  have hb1 : Below w.heap.size w W1 := by
    rw [← hW1]; exact (Below.refl _ w).alloc (Nat.le_refl _) _
  refine ⟨w.heap.size, [], W1, { target := .fn (.func gf) lb, args := #[.func (.yield w.heap.size) #[] #[]] }, W1, gf,
    #[.func (.yield w.heap.size) #[] #[]] ++ lb, W1, ?_, ?_, ?_, ?_, (fun h => nomatch h), CallsIn.inRound l0 ?_⟩
  · rw [← hW1, hrec]; exact run_enterLoop_inner hl0 _ _ _ _ _
  · simp only [resolve, hg]
    simp [go_sem]
  · intro f' _; trivial
  · simp [invoke, go_sem, eg]
  · refine (hit W1 hb1 (by omega) w.heap.size
      (fun M pre W => W1.heap.size ≤ M ∧ M ≤ W.heap.size ∧ I M pre W ∧ W.heap[w.heap.size]? = some (.loop (rec .ready none))) ?_ ?_ ?_).mono ?_
    · rintro M pre A B hM hMA ⟨_, _, hi, hl⟩ hs
      exact ⟨hM, Nat.le_trans hMA hs.size, hI M pre A B (by omega) hMA hi (hs.mono fun k _ h => h.imp (fun h => by omega) id),
        (hs.block _ (Array.getElem?_eq_some_iff.1 hl).1 (.inl (by omega))).trans hl⟩
    · rintro M pre x W hM hMW ⟨_, _, hi, hl⟩ hx
      have hlt : w.heap.size < W.heap.size := (Array.getElem?_eq_some_iff.1 hl).1
      have hy := run_yield (P := P) (args := #[enc x]) hl (by rw [hrec, hps]; rfl)
      rw [hrec] at hy
      refine ⟨fn, _, assign, body, hy, roundIn_of_wpIn trivial (hassign _ x W _ ⟨_, run_beginRound hl (by rw [hrec]), ?_⟩)⟩
      have hne : ¬ (w.heap.size < w.heap.size ∨ M ≤ w.heap.size) := by omega
      have hl2 : (W.putObj w.heap.size (.loop { rec .ready none with state := .busy })).heap[w.heap.size]? = some (.loop { rec .ready none with state := .busy }) := World.putObj_heap_same hlt
      have hi2 := hI M pre _ _ (by omega) hMW hi (Same.putObj _ W w.heap.size (.loop { rec .ready none with state := .busy }) hne)
      refine wpIn_mono (hbody _ M pre x _ (by omega) (by simpa using hMW) hi2 hx) ?_
      rintro e a3 W3 hp
      cases e with
      | normal =>
        obtain ⟨hi3, hs3⟩ := hp
        have hl3 := (hs3.block _ (by simpa using hlt) (.inr ⟨by omega, by omega⟩)).trans hl2
        have hend := run_endRound (P := P) none hl3
        have hsz3 := hs3.size
        simp only [World.putObj_size] at hsz3
        refine ⟨_, _, hend, rfl, ⟨hM, by simp; omega, hI M _ _ _ (by omega) (by omega) hi3 (Same.putObj _ W3 w.heap.size _ hne), ?_⟩, ?_⟩
        · rw [World.putObj_heap_same (Array.getElem?_eq_some_iff.1 hl3).1, hrec]
          rfl
        · refine ⟨hs3.os, hs3.tape, hs3.output, by simp; omega, fun k hk hA => ?_⟩
          have hkl : k ≠ w.heap.size := by omega
          rw [World.putObj_heap_other hkl]
          refine (hs3.block k (by simpa using hk) (hA.imp id fun h => ⟨by omega, h.2⟩)).trans (World.putObj_heap_other hkl)
      | _ => exact hp.elim
    · intro M W hM hMW hs
      have e1 := hs.block _ (by omega : w.heap.size < W1.heap.size) (by omega)
      exact ⟨hM, hMW, h0 M W (by omega) hMW (hb1.trans (hs.below (by omega) fun k hk => by omega)), e1.trans hL1⟩
    · rintro e W2 ⟨⟨v, rfl⟩, M, hM, _, hMW, hi, hl⟩
      have hend := run_endLoop (P := P) hl (by rw [hrec]; simp)
      rw [hrec] at hend
      refine ⟨none, _, hend, hdone M _ (by omega) (by simpa using hMW) (hI M _ _ _ (by omega) hMW hi (Same.putObj _ W2 w.heap.size _ (by omega)))⟩

/-- Within a round; the variable's slot is s, the yielded value's p. -/
theorem wpIn_rangeN_set {α : Type} {g : Operand} {p : Tmp} {assign body : Code} {Q : Exit → Act → World → Prop} {a : Act} {w : World} (gT s l0 : Nat) (hl0 : ∃ r, w.heap[l0]? = some (.loop r))
    {gf : Nat} {lb : Array Value} (hg : a.eval g = .func (.func gf) #[] lb) (eg : ∀ args w, (callFunc gf args).run P w = .ok (.enter gf args) w)
    {enc : α → Value} {xs : List α} (hgT : gT < w.heap.size)
    (hit : ∀ W, Below w.heap.size w W → w.heap.size + 1 ≤ W.heap.size → Iterates P gT gf lb enc xs W)
    (I : Nat → List α → World → Prop)
    (hI : ∀ M pre W W', w.heap.size ≤ M → M ≤ W.heap.size → I M pre W → Same (fun k => k < w.heap.size ∨ M ≤ k) W W' → I M pre W')
    (h0 : ∀ M W, w.heap.size ≤ M → M ≤ W.heap.size → Below w.heap.size w W → I M [] W)
    (hassign : ∀ (l : Nat) (x : α) (W : World) (K : Act → World → Prop), K { tmps := (a.tmps.setIfInBounds p (enc x)).setIfInBounds s (enc x), defers := [] } W →
      assign.wpIn (Fence.wide.inRound l) 0 P (Exit.then K (fun _ _ _ => False)) { tmps := a.tmps.setIfInBounds p (enc x), defers := [] } W)
    (hbody : ∀ (l M : Nat) (pre : List α) (x : α) (W : World), w.heap.size + 1 ≤ M → M ≤ W.heap.size → I M pre W → (∃ r, xs = pre ++ x :: r) →
      body.wpIn (Fence.wide.inRound l) 0 P (fun e _ W' => match e with
        | .normal => I M (pre ++ [x]) W' ∧ Same (fun k => k = gT ∨ (w.heap.size ≤ k ∧ k < M)) W W'
        | _ => False) { tmps := (a.tmps.setIfInBounds p (enc x)).setIfInBounds s (enc x), defers := [] } W)
    (hdone : ∀ (M : Nat) (W : World), w.heap.size ≤ M → M ≤ W.heap.size → I M xs W → Q .normal a W) :
    (Code.rangeFunc g #[p] assign body).wpIn (Fence.wide.inRound l0) 0 P Q a w :=
  wpIn_rangeN gT l0 hl0 hg eg rfl hgT hit I hI h0 (fun x => { tmps := (a.tmps.setIfInBounds p (enc x)).setIfInBounds s (enc x), defers := [] }) (fun l x W K hK => by have := hassign l x W K hK; simpa using this) hbody hdone
/-! ### marks among the deferred calls -/
/-- The marks that loops over functions have left: each names a block of its own, not below B. -/
def Marks (B : Nat) : List Deferred → World → Prop
  | [], _ => True
  | d :: ds, w => (∃ D, d = { target := .collected D, args := #[] } ∧ B ≤ D ∧ w.heap[D]? = some (.deferred (some [])) ∧ ∀ e ∈ ds, e ≠ d) ∧ Marks B ds w
theorem Marks.same {B : Nat} {A : Nat → Prop} : ∀ {ds : List Deferred} {w w' : World}, Marks B ds w → Same A w w' → (∀ D, B ≤ D → ({ target := .collected D, args := #[] } : Deferred) ∈ ds → A D) → Marks B ds w'
  | [], _, _, _, _, _ => trivial
  | d :: ds, w, w', h, hs, hA => by
    obtain ⟨⟨D, rfl, hB, hk, hne⟩, h2⟩ := h
    exact ⟨⟨D, rfl, hB, (hs.block D (Array.getElem?_eq_some_iff.1 hk).1 (hA D hB (by simp))).trans hk, hne⟩, h2.same hs fun D' h3 h4 => hA D' h3 (List.mem_cons_of_mem _ h4)⟩
theorem Marks.lt {B : Nat} : ∀ {ds : List Deferred} {w : World}, Marks B ds w → ∀ D, ({ target := .collected D, args := #[] } : Deferred) ∈ ds → D < w.heap.size
  | d :: ds, w, h, D, hD => by
    obtain ⟨⟨D', rfl, _, hk, _⟩, h2⟩ := h
    rcases List.mem_cons.1 hD with e | e
    · cases e
      exact (Array.getElem?_eq_some_iff.1 hk).1
    · exact h2.lt D e
theorem Marks.ge {B : Nat} : ∀ {ds : List Deferred} {w : World}, Marks B ds w → ∀ D, ({ target := .collected D, args := #[] } : Deferred) ∈ ds → B ≤ D
  | d :: ds, w, h, D, hD => by
    obtain ⟨⟨D', rfl, hB, _, _⟩, h2⟩ := h
    rcases List.mem_cons.1 hD with e | e
    · cases e
      exact hB
    · exact h2.ge D e
/-- One mark more. -/
theorem Marks.cons {B D : Nat} {ds : List Deferred} {w : World} (h : Marks B ds w) (hB : B ≤ D) (hk : w.heap[D]? = some (.deferred (some []))) (hn : ({ target := .collected D, args := #[] } : Deferred) ∉ ds) : Marks B ({ target := .collected D, args := #[] } :: ds) w :=
  ⟨⟨D, rfl, hB, hk, fun _ he e => hn (e ▸ he)⟩, h⟩
/-- Leaving with marks: each block is shut. -/
theorem leaves_marks {F : Fence} {n : Nat} {fn : Func} {tmps : Array Value} {R : Ending → World → Prop} {B : Nat} : ∀ (ds : List Deferred) (w : World), Marks B ds w →
    (∀ w', Same (fun k => ¬ ({ target := .collected k, args := #[] } : Deferred) ∈ ds) w w' → LeavesInM F n P fn tmps R [] .returning w') → LeavesInM F n P fn tmps R ds .returning w
  | [], w, _, h => h w (Same.refl _ _)
  | d :: ds, w, hM, h => by
    obtain ⟨⟨D, rfl, hB, hk, hne⟩, h2⟩ := hM
    refine ⟨by simp, .inl ⟨D, _, rfl, run_takeDeferred hk, ?_⟩⟩
    have hs : Same (fun k => k ≠ D) w (w.putObj D (.deferred none)) := Same.putObj _ w D _ (by simp)
    refine leaves_marks ds _ (h2.same hs fun D' _ h3 e => hne _ h3 (by rw [e])) fun w' hs' => h w' ?_
    refine (hs.mono fun k _ hk e => hk (by rw [e]; simp)).trans (hs'.mono fun k _ hk e => hk (List.mem_cons_of_mem _ e))
end
end Go.Pal
