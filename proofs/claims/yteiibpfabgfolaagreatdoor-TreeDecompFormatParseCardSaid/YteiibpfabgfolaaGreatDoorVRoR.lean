/- A range over a function: the rule for an iterator that keeps its state in blocks of its .. -/
import Derived.Test.YteiibpfabgfolaaGreatDoorVRule
import Derived.RangeFuncNested
import Derived.RangeFuncBound
import Derived.RangeFuncCalls
import Derived.RangeFuncLeaves
import Derived.OrdersIn
set_option linter.all false
namespace Go.Pal
open Go Go.RowKit
structure Same (A : Nat → Prop) (w w' : World) : Prop where
 os : w'.os = w.os
 tape : w'.tape = w.tape
 output : w'.output = w.output
 size : w.heap.size ≤ w'.heap.size
 block : ∀ k, k < w.heap.size → A k → w'.heap[k]? = w.heap[k]?
theorem Same.refl (A : Nat → Prop) (w : World) : Same A w w := ⟨rfl, rfl, rfl, Nat.le_refl _, fun _ _ _ => rfl⟩
theorem Same.trans {A : Nat → Prop} {a b c : World} (h : Same A a b) (k : Same A b c) : Same A a c :=
 ⟨k.os.trans h.os, k.tape.trans h.tape, k.output.trans h.output, Nat.le_trans h.size k.size, fun i hi ha => (k.block i (Nat.lt_of_lt_of_le hi h.size) ha).trans (h.block i hi ha)⟩
theorem Same.mono {A A' : Nat → Prop} {w w' : World} (h : Same A w w') (ha : ∀ k, k < w.heap.size → A' k → A k) : Same A' w w' := ⟨h.os, h.tape, h.output, h.size, fun k hk hk' => h.block k hk (ha k hk hk')⟩
theorem Same.of_below {B : Nat} {w w' : World} (h : Below B w w') : Same (fun k => k < B) w w' := ⟨h.os, h.tape, h.output, h.size, fun k _ hk => h.block k hk⟩
theorem Same.below {A : Nat → Prop} {B : Nat} {w w' : World} (h : Same A w w') (hB : B ≤ w.heap.size) (hA : ∀ k, k < B → A k) : Below B w w' := ⟨h.os, h.tape, h.output, h.size, fun k hk => h.block k (by omega) (hA k hk)⟩
theorem Same.alloc (A : Nat → Prop) (w : World) (o : Obj) : Same A w (w.alloc o) := ⟨rfl, rfl, rfl, by simp, fun k hk _ => Below.heap_alloc w o k hk⟩
theorem Same.drew (A : Nat → Prop) (w : World) : Same A w w.drew := ⟨rfl, rfl, rfl, Nat.le_refl _, fun _ _ _ => rfl⟩
theorem Same.putObj (A : Nat → Prop) (w : World) (l : Nat) (o : Obj) (h : ¬ A l) : Same A w (w.putObj l o) := ⟨rfl, rfl, rfl, by simp, fun k _ hk => World.putObj_heap_other (fun e => h (e ▸ hk))⟩
theorem Same.setRow (A : Nat → Prop) (w : World) (g : Nat) (c : Array Value) (h : ¬ A g) : Same A w (w.setRow g c) := ⟨rfl, rfl, rfl, by simp, fun k _ hk => setRow_other w g k c (fun e => h (e ▸ hk))⟩
theorem Same.setCell (A : Nat → Prop) (w : World) (a : Addr) (v : Value) (h : ¬ A a.block) : Same A w (w.setCell a v) := ⟨rfl, rfl, rfl, by simp, fun k _ hk => Below.heap_setCell w a v k (fun e => h (e ▸ hk))⟩
def Iterates {α : Type} (P : Program) (gT : Nat) (g : Nat) (lb : Array Value) (enc : α → Value) (xs : List α) (W : World) : Prop :=
 ∀ (l : Nat) (J : Nat → List α → World → Prop),
   (∀ M pre W1 W2, W.heap.size ≤ M → M ≤ W1.heap.size → J M pre W1 → Same (fun k => k < W.heap.size ∨ M ≤ k) W1 W2 → J M pre W2) →
   (∀ M pre x W1, W.heap.size ≤ M → M ≤ W1.heap.size → J M pre W1 → (∃ r, xs = pre ++ x :: r) → YieldAt Fence.wide 0 P l #[enc x] W1 fun e W' =>
     e = .returned (.bool true) ∧ J M (pre ++ [x]) W' ∧ Same (fun k => k = gT ∨ (W.heap.size ≤ k ∧ k < M)) W1 W') →
   (∀ M W1, W.heap.size ≤ M → M ≤ W1.heap.size → Same (fun k => k < W.heap.size) W W1 → J M [] W1) →
   CallsIn Fence.wide 0 P g (#[.func (.yield l) #[] #[]] ++ lb) W fun e W' => (∃ v, e = .returned v) ∧ ∃ M, W.heap.size ≤ M ∧ J M xs W'
section
variable {P : Program}
theorem wpIn_range {α : Type} {g : Operand} {ps : Array Tmp} {assign body : Code} {Q : Exit → Act → World → Prop} {a : Act} {w : World} (gT : Nat)
   {gf : Nat} {lb : Array Value} (hg : a.eval g = .func (.func gf) #[] lb) (eg : ∀ args w, (callFunc gf args).run P w = .ok (.enter gf args) w)
   {enc : α → Value} {xs : List α} (hps : ps.size = 1) (hgT : gT < w.heap.size)
   (hit : ∀ W, Below w.heap.size w W → w.heap.size + 2 ≤ W.heap.size → Iterates P gT gf lb enc xs W)
   (I : Nat → List α → World → Prop)
   (hI : ∀ M pre W W', w.heap.size ≤ M → M ≤ W.heap.size → I M pre W → Same (fun k => k < w.heap.size ∨ M ≤ k) W W' → I M pre W')
   (h0 : ∀ M W, w.heap.size ≤ M → M ≤ W.heap.size → Below w.heap.size w W → I M [] W) (a₁ : α → Act)
   (hassign : ∀ (l : Nat) (x : α) (W : World) (K : Act → World → Prop), K (a₁ x) W →
     assign.wpIn (Fence.wide.inRound l) 0 P (Exit.then K (fun _ _ _ => False)) { tmps := (ps.zip #[enc x]).foldl (fun t (p, v) => t.setIfInBounds p v) a.tmps, defers := [] } W)
   (hbody : ∀ (l M : Nat) (pre : List α) (x : α) (W : World), w.heap.size + 2 ≤ M → M ≤ W.heap.size → I M pre W → (∃ r, xs = pre ++ x :: r) →
     body.wpIn (Fence.wide.inRound l) 0 P (fun e _ W' => match e with
       | .normal => I M (pre ++ [x]) W' ∧ Same (fun k => k = gT ∨ (w.heap.size ≤ k ∧ k < M)) W W'
       | _ => False) (a₁ x) W)
   (hdone : ∀ (D M : Nat) (W : World), w.heap.size ≤ D → D < M → M ≤ W.heap.size → I M xs W → W.heap[D]? = some (.deferred (some [])) → Q .normal { a with defers := { target := .collected D, args := #[] } :: a.defers } W) :
   (Code.rangeFunc g ps assign body).wpIn Fence.wide 0 P Q a w := by
 refine wpIn_rangeFunc ?_
 intro fn hfn
 show ∃ (l : Nat) (mark : List Deferred) (w₁ : World) (d : Deferred) (w₁' : World) (f : FuncId) (args : Array Value) (w₂ : World), (Instr.enterLoop fn a.tmps ps assign body none).run P w = .ok (l, mark) w₁ ∧ _
 obtain ⟨rec, hrec⟩ : ∃ rec : LoopState → Option Code → Loop, rec = fun st pe => { state := st, pending := pe, fn, tmps := a.tmps, params := ps, assign, body, defers := w.heap.size } := ⟨_, rfl⟩
 obtain ⟨W1, hW1⟩ : ∃ W1, (w.alloc (.deferred (some []))).alloc (.loop (rec .ready none)) = W1 := ⟨_, rfl⟩
 have hs1 : W1.heap.size = w.heap.size + 2 := by rw [← hW1]; simp
 have hL1 : W1.heap[w.heap.size + 1]? = some (.loop (rec .ready none)) := by
   rw [← hW1]; have := World.alloc_heap_new (w.alloc (.deferred (some []))) (.loop (rec .ready none)); rwa [World.size_alloc] at this
 have hK1 : W1.heap[w.heap.size]? = some (.deferred (some [])) := by
   rw [← hW1]; exact (Below.heap_alloc _ _ _ (by simp)).trans (World.alloc_heap_new w _)
 have hb1 : Below w.heap.size w W1 := by
   rw [← hW1]; exact ((Below.refl _ w).alloc (Nat.le_refl _) _).alloc (by simp) _
 refine ⟨w.heap.size + 1, [{ target := .collected w.heap.size, args := #[] }], W1, { target := .fn (.func gf) lb, args := #[.func (.yield (w.heap.size + 1)) #[] #[]] }, W1, gf,
   #[.func (.yield (w.heap.size + 1)) #[] #[]] ++ lb, W1, ?_, ?_, ?_, ?_, (fun h => nomatch h), ?_⟩
 · rw [← hW1, hrec]; exact run_enterLoop_outer _ _ _ _ _
 · simp only [resolve, hg]
   simp [go_sem]
 · intro f' _; trivial
 · simp [invoke, go_sem, eg]
 · refine (hit W1 hb1 (by omega) (w.heap.size + 1)
     (fun M pre W => W1.heap.size ≤ M ∧ M ≤ W.heap.size ∧ I M pre W ∧ W.heap[w.heap.size + 1]? = some (.loop (rec .ready none)) ∧ W.heap[w.heap.size]? = some (.deferred (some []))) ?_ ?_ ?_).mono ?_
   · rintro M pre A B hM hMA ⟨_, _, hi, hl, hk⟩ hs
     exact ⟨hM, Nat.le_trans hMA hs.size, hI M pre A B (by omega) hMA hi (hs.mono fun k _ h => h.imp (fun h => by omega) id),
       (hs.block _ (Array.getElem?_eq_some_iff.1 hl).1 (.inl (by omega))).trans hl, (hs.block _ (Array.getElem?_eq_some_iff.1 hk).1 (.inl (by omega))).trans hk⟩
   · rintro M pre x W hM hMW ⟨_, _, hi, hl, hk⟩ hx
     have hlt : w.heap.size + 1 < W.heap.size := (Array.getElem?_eq_some_iff.1 hl).1
     have hy := run_yield (P := P) (args := #[enc x]) hl (by rw [hrec, hps]; rfl)
     rw [hrec] at hy
     refine ⟨fn, _, assign, body, hy, roundIn_of_wpIn trivial (hassign _ x W _ ⟨_, run_beginRound hl (by rw [hrec]), ?_⟩)⟩
     have hne : ¬ (w.heap.size + 1 < w.heap.size ∨ M ≤ w.heap.size + 1) := by omega
     have hl2 : (W.putObj (w.heap.size + 1) (.loop { rec .ready none with state := .busy })).heap[w.heap.size + 1]? = some (.loop { rec .ready none with state := .busy }) := World.putObj_heap_same hlt
     have hk2 : (W.putObj (w.heap.size + 1) (.loop { rec .ready none with state := .busy })).heap[w.heap.size]? = some (.deferred (some [])) := (World.putObj_heap_other (by omega)).trans hk
     have hi2 := hI M pre _ _ (by omega) hMW hi (Same.putObj _ W (w.heap.size + 1) (.loop { rec .ready none with state := .busy }) hne)
     refine wpIn_mono (hbody _ M pre x _ (by omega) (by simpa using hMW) hi2 hx) ?_
     rintro e a3 W3 hp
     cases e with
     | normal =>
       obtain ⟨hi3, hs3⟩ := hp
       have hl3 := (hs3.block _ (by simpa using hlt) (.inr ⟨by omega, by omega⟩)).trans hl2
       have hk3 := (hs3.block _ (by simp; omega) (.inr ⟨by omega, by omega⟩)).trans hk2
       have hend := run_endRound (P := P) none hl3
       have hsz3 := hs3.size
       simp only [World.putObj_size] at hsz3
       refine ⟨_, _, hend, rfl, ⟨hM, by simp; omega, hI M _ _ _ (by omega) (by omega) hi3 (Same.putObj _ W3 (w.heap.size + 1) _ hne), ?_, (World.putObj_heap_other (by omega)).trans hk3⟩, ?_⟩
       · rw [World.putObj_heap_same (Array.getElem?_eq_some_iff.1 hl3).1, hrec]
         rfl
       · refine ⟨hs3.os, hs3.tape, hs3.output, by simp; omega, fun k hk hA => ?_⟩
         have hkl : k ≠ w.heap.size + 1 := by omega
         rw [World.putObj_heap_other hkl]
         refine (hs3.block k (by simpa using hk) (hA.imp id fun h => ⟨by omega, h.2⟩)).trans (World.putObj_heap_other hkl)
     | _ => exact hp.elim
   · intro M W hM hMW hs
     have e1 := hs.block _ (by omega : w.heap.size + 1 < W1.heap.size) (by omega)
     have e2 := hs.block _ (by omega : w.heap.size < W1.heap.size) (by omega)
     exact ⟨hM, hMW, h0 M W (by omega) hMW (hb1.trans (hs.below (by omega) fun k hk => by omega)), e1.trans hL1, e2.trans hK1⟩
   · rintro e W2 ⟨⟨v, rfl⟩, M, hM, _, hMW, hi, hl, hk⟩
     have hend := run_endLoop (P := P) hl (by rw [hrec]; simp)
     rw [hrec] at hend
     refine ⟨none, _, hend, hdone _ M _ (Nat.le_refl _) (by omega) (by simpa using hMW) (hI M _ _ _ (by omega) hMW hi (Same.putObj _ W2 (w.heap.size + 1) _ (by omega))) ((World.putObj_heap_other (by omega)).trans hk)⟩
theorem wpIn_range_set {α : Type} {g : Operand} {p : Tmp} {assign body : Code} {Q : Exit → Act → World → Prop} {a : Act} {w : World} (gT s : Nat)
   {gf : Nat} {lb : Array Value} (hg : a.eval g = .func (.func gf) #[] lb) (eg : ∀ args w, (callFunc gf args).run P w = .ok (.enter gf args) w)
   {enc : α → Value} {xs : List α} (hgT : gT < w.heap.size)
   (hit : ∀ W, Below w.heap.size w W → w.heap.size + 2 ≤ W.heap.size → Iterates P gT gf lb enc xs W)
   (I : Nat → List α → World → Prop)
   (hI : ∀ M pre W W', w.heap.size ≤ M → M ≤ W.heap.size → I M pre W → Same (fun k => k < w.heap.size ∨ M ≤ k) W W' → I M pre W')
   (h0 : ∀ M W, w.heap.size ≤ M → M ≤ W.heap.size → Below w.heap.size w W → I M [] W)
   (hassign : ∀ (l : Nat) (x : α) (W : World) (K : Act → World → Prop), K { tmps := (a.tmps.setIfInBounds p (enc x)).setIfInBounds s (enc x), defers := [] } W →
     assign.wpIn (Fence.wide.inRound l) 0 P (Exit.then K (fun _ _ _ => False)) { tmps := a.tmps.setIfInBounds p (enc x), defers := [] } W)
   (hbody : ∀ (l M : Nat) (pre : List α) (x : α) (W : World), w.heap.size + 2 ≤ M → M ≤ W.heap.size → I M pre W → (∃ r, xs = pre ++ x :: r) →
     body.wpIn (Fence.wide.inRound l) 0 P (fun e _ W' => match e with
       | .normal => I M (pre ++ [x]) W' ∧ Same (fun k => k = gT ∨ (w.heap.size ≤ k ∧ k < M)) W W'
       | _ => False) { tmps := (a.tmps.setIfInBounds p (enc x)).setIfInBounds s (enc x), defers := [] } W)
   (hdone : ∀ (D M : Nat) (W : World), w.heap.size ≤ D → D < M → M ≤ W.heap.size → I M xs W → W.heap[D]? = some (.deferred (some [])) → Q .normal { a with defers := { target := .collected D, args := #[] } :: a.defers } W) :
   (Code.rangeFunc g #[p] assign body).wpIn Fence.wide 0 P Q a w :=
 wpIn_range gT hg eg rfl hgT hit I hI h0 (fun x => { tmps := (a.tmps.setIfInBounds p (enc x)).setIfInBounds s (enc x), defers := [] }) (fun l x W K hK => by have := hassign l x W K hK; simpa using this) hbody hdone
end
section
variable {P : Program}
theorem rowsIn_wide {n : Nat} {row : String} {args : Array Value} {w : World} {R : Value → World → Prop} (h : Rows P row args w R) : RowsIn Fence.wide n P row args w R :=
 fun c cs _ => let ⟨v, w', r, s⟩ := h c cs; ⟨v, w', r, stepsIn_wide.2 s⟩
theorem uponIn_round_of {l : Nat} {o : Oper} {a : Act} {next : Act → World → Prop} {Q : Exit → Act → World → Prop} {r : Result Next} (h : o.upon P a next Q r) : o.uponIn (Fence.wide.inRound l) 0 P a next Q r := by
 cases r with
 | ok x w' =>
   cases x <;> simp only [Oper.upon, Oper.uponIn] at h ⊢ <;>
     first
       | exact h
       | exact ⟨fun h => (by cases h), CallsIn.inRound l (callsIn_wide.2 h)⟩
       | exact ⟨fun h => (by cases h), (show RowsIn Fence.wide 0 P _ _ _ _ from rowsIn_wide h)⟩
       | exact h.elim
 | halt x w' => cases x <;> simp only [Oper.upon, Oper.uponIn] at h ⊢ <;> exact h
theorem wpAnyIn_round_of {l : Nat} {md : Region.Mode} {ops : Array Oper} {Q : Exit → Act → World → Prop} (hno : ¬ LetsOut Q) (hdef : ∀ (j : Nat) o, ops[j]? = some o → ∀ c, o.op ≠ .defer c) :
   ∀ (fuel : Nat) (listed : Array Bool) (a : Act) (w : World), wpAny P md ops Q fuel listed a w → wpAnyIn (Fence.wide.inRound l) 0 P md ops Q fuel listed a w
 | 0, _, _, _, h => h
 | fuel + 1, listed, a, w, h => by
   refine ⟨h.1, fun i hi => ?_⟩
   have h2 := h.2 i hi
   unfold wpOp at h2
   unfold wpOpIn
   cases ho : ops[i]? with
   | none =>
     simp only [ho] at h2
     exact wpAnyIn_round_of hno hdef fuel _ a w h2
   | some o =>
     simp only [ho] at h2
     simp only
     split
     · rename_i hw
       rw [if_pos hw] at h2
       rcases h2 with h2 | ⟨_, h2⟩
       · refine Oper.wpIn_mono (K := wpAny P md ops Q fuel (listed.setIfInBounds i true)) (fun a' w' h' => wpAnyIn_round_of hno hdef fuel _ a' w' h') ?_
         refine ⟨fun f _ => trivial, ?_⟩
         rw [Oper.semAt_eq _ _ _ (hdef i o ho)]
         exact uponIn_round_of h2
       · exact absurd h2 hno
     · rename_i hw
       rw [if_neg hw] at h2
       exact ⟨fun f _ => trivial, wpAnyIn_round_of hno hdef fuel _ _ w h2⟩
theorem wpAny_free_tail {Q : Exit → Act → World → Prop} {a : Act} {w : World} {l : List Oper} (S : World → Prop) (n : Nat) (hB : Region.lexTailB .any l.toArray n = true)
   (hS : S w.drew)
   (h : wpFree P l.toArray S (fun a' => ∀ w', S w' → wpList P l.toArray Q (l.drop n) a' w') (l.take n) a) : wpAny P .any l.toArray Q l.toArray.size (Array.replicate l.toArray.size false) a w.drew := by
 simp only [Region.lexTailB, Bool.and_eq_true, decide_eq_true_eq] at hB
 obtain ⟨⟨⟨⟨hsel, hn⟩, hs⟩, hc⟩, hlex⟩ := hB
 have hn' : n < l.length := by simpa using hn
 have htl : (l.take n).length = n := by simp; omega
 have hdl : (l.drop n).length = l.toArray.size - n := by simp
 have inv0 : HeadInv .any l.toArray n (Array.replicate l.toArray.size false) :=
   ⟨by simp, fun j oj _ hl => (by rw [getD_replicate_false] at hl; cases hl), fun t _ ht => getD_in (by simpa using ht) (getD_replicate_false _ _)⟩
 have H := wpAnyF_lex (md := .any) (g := l.toArray.size - n) hsel hs hc hn (l.take n) 0 _ a (fun j hj => by
   have hj' : j < n := by rw [htl] at hj; exact hj
   simp [hj']) (by simpa using htl) inv0 (by rw [htl]; exact hlex) h
 have := wpAny_of_headF (S := S) (Q' := Q) (g := l.toArray.size - n) (fun listed a' w' hS hL => by
   have := wpAny_of_seq (md := .any) (Q' := Q) (l.drop n) n listed a' w' (fun j => by simp [List.getElem?_drop]) (by rw [hdl]; exact hL.1) (hL.2 _ hS)
   rwa [hdl] at this) _ _ _ _ hS H
 rw [htl, show n + (l.toArray.size - n) = l.toArray.size by omega] at this
 exact this
def Region.noDefer (ops : Array Oper) : Bool := ops.all fun o => match o.op with | .defer _ => false | _ => true
theorem Region.noDefer_spec {ops : Array Oper} (h : Region.noDefer ops = true) (j : Nat) (o : Oper) (ho : ops[j]? = some o) : ∀ c, o.op ≠ .defer c := by
 intro c heq
 unfold Region.noDefer at h
 rw [Array.all_eq_true_iff_forall_mem] at h
 have := h o (Array.mem_of_getElem? ho)
 rw [heq] at this
 cases this
theorem wpIn_round_free_tail {id l0 : Nat} {Q : Exit → Act → World → Prop} {a : Act} {w : World} {l : List Oper} (S : World → Prop) (n : Nat) (hm : P.follows .mixedOrders = true) (hB : Region.lexTailB .any l.toArray n = true)
   (hD : Region.noDefer l.toArray = true) (hno : ¬ LetsOut Q) (hS : S w.drew)
   (h : wpFree P l.toArray S (fun a' => ∀ w', S w' → wpList P l.toArray Q (l.drop n) a' w') (l.take n) a) : (Code.region id l.toArray true).wpIn (Fence.wide.inRound l0) 0 P Q a w :=
 wpIn_region_any hm (wpAnyIn_round_of hno (Region.noDefer_spec hD) _ _ _ _ (wpAny_free_tail S n hB hS h))
theorem calls_of_wp_marks {f : FuncId} {fn : Func} {c : Code} {args : Array Value} {w : World} {R : Ending → World → Prop}
   (hf : P.funcs[f]? = some fn) (hb : fn.body = some c)
   (h : c.wp P (bodyPostM Fence.wide 0 P fn R) { tmps := args ++ Array.replicate (fn.ntmps - args.size) undef, defers := [] } w) : Calls P f args w R :=
 callsIn_wide.1 (callsIn_of_wp_marks (n := 0) hf hb trivial (wpIn_wide.2 h) rfl)
end
end Go.Pal
