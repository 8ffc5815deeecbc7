/- A region whose order is drawn: if each of its operations, in whatever world of a set S, .. -/
import Derived.StillTail
import Derived.WalkKit
import Derived.Laws.CopyRow
import Derived.Laws.CopyOwn
import Derived.Deep.WholeRow
import Derived.Handy
import Derived.Deep.OwnRows
import Derived.Deep.Quiet
set_option linter.all false
namespace Go.Pal
open Go
section
variable {P : Program} {ops : Array Oper} {md : Region.Mode} {S : World → Prop}
def FreeV (P : Program) (S : World → Prop) (e : Sem Next) (v : Value) : Prop :=
 ∀ w, S w → match e.run P w with
   | .ok (.value u) w' => u = v ∧ S w'
   | .ok .skip w' => v = undef ∧ S w'
   | .ok (.enter f args) w' => Calls P f args w' (fun e w'' => e = .returned v ∧ S w'')
   | _ => False
def FreeY (P : Program) (ops : Array Oper) (S : World → Prop) (o : Oper) (v : Value) (a : Act) : Prop :=
 (Region.wanted o (yielded ops a.tmps) = true ∧ FreeV P S (execOp a.eval o) v) ∨
 (Region.wanted o (yielded ops a.tmps) = false ∧ v = undef)
def frOp (P : Program) (ops : Array Oper) (S : World → Prop) (i : Nat) (K : Act → Prop) (a : Act) : Prop :=
 match ops[i]? with
 | none => K a
 | some o => ∃ v, FreeY P ops S o v a ∧ K (a.put o.dst v)
def wpFree (P : Program) (ops : Array Oper) (S : World → Prop) (Q : Act → Prop) : List Oper → Act → Prop
 | [], a => Q a
 | o :: rest, a => ∃ v, FreeY P ops S o v a ∧ wpFree P ops S Q rest (a.put o.dst v)
theorem FreeY.of_same {o : Oper} {v : Value} {a a' : Act} (hy : FreeY P ops S o v a) (he : execOp a'.eval o = execOp a.eval o)
   (hw : Region.wanted o (yielded ops a'.tmps) = Region.wanted o (yielded ops a.tmps)) : FreeY P ops S o v a' := by
 unfold FreeY at *
 rw [he, hw]
 exact hy
theorem frOp_mono {i : Nat} {a : Act} {K K' : Act → Prop} (h : ∀ a, K a → K' a) (hh : frOp P ops S i K a) : frOp P ops S i K' a := by
 unfold frOp at *
 cases ho : ops[i]? with
 | none => simp only [ho] at hh ⊢; exact h _ hh
 | some o => simp only [ho] at hh ⊢; obtain ⟨v, hy, hk⟩ := hh; exact ⟨v, hy, h _ hk⟩
theorem FreeY.frOp {i : Nat} {o : Oper} {v : Value} {a : Act} (hi : ops[i]? = some o) (hy : FreeY P ops S o v a) {K : Act → Prop} (h : K (a.put o.dst v)) : frOp P ops S i K a := by
 unfold Go.Pal.frOp
 simp only [hi]
 exact ⟨v, hy, h⟩
theorem frOp_put {j : Nat} {oi oj : Oper} {v : Value} (hj : ops[j]? = some oj) (hap : oi.apart ops oj = true)
   (hsi : ∀ cs b, oi.op ≠ .select cs b) (hsj : ∀ cs b, oj.op ≠ .select cs b) {K : Act → Prop} {a : Act}
   (hy : FreeY P ops S oi v a) (h : frOp P ops S j K (a.put oi.dst v)) :
   frOp P ops S j (fun a' => FreeY P ops S oi v a' ∧ K (a'.put oi.dst v)) a := by
 obtain ⟨h1, h2, h3⟩ := Oper.apart_spec hap
 have keep : ∀ (a : Act), FreeY P ops S oi v a → ∀ u, FreeY P ops S oi v (a.put oj.dst u) := fun a hy u =>
   hy.of_same (execOp_put oi hsi a oj.dst u h3) (wanted_put oi a oj.dst u h3)
 unfold frOp at *
 simp only [hj] at *
 obtain ⟨u, hu, hk⟩ := h
 refine ⟨u, hu.of_same (execOp_put oj hsj a oi.dst v h1).symm (wanted_put oj a oi.dst v h1).symm, keep a hy u, ?_⟩
 rw [← Act.put_comm a v u h2]
 exact hk
theorem wpOp_of_frOp {i : Nat} {a : Act} {w : World} {K : Act → Prop} {K' : Act → World → Prop} {Q' : Exit → Act → World → Prop} (hS : S w)
   (h : ∀ a w, S w → K a → K' a w) (hh : frOp P ops S i K a) : wpOp P ops Q' i K' a w := by
 unfold frOp at hh
 unfold wpOp
 cases ho : ops[i]? with
 | none => simp only [ho] at hh; exact h _ _ hS hh
 | some o =>
   simp only [ho] at hh
   obtain ⟨v, hy, hk⟩ := hh
   rcases hy with ⟨hw, hv⟩ | ⟨hw, rfl⟩
   · simp only [hw, if_true]
     refine .inl ?_
     have hv' := hv w hS
     unfold Oper.wp
     generalize (execOp a.eval o).run P w = r at *
     cases r with
     | halt x w' => exact hv'.elim
     | ok n w' =>
       cases n <;> simp only [Oper.upon] at hv' ⊢
       case value u => obtain ⟨rfl, hs⟩ := hv'; exact h _ _ hs hk
       case skip => obtain ⟨rfl, hs⟩ := hv'; exact h _ _ hs hk
       case enter f args => exact hv'.mono fun e w'' ⟨he, hs⟩ => by subst he; exact h _ _ hs hk
   · simp only [hw, Bool.false_eq_true, if_false]; exact h _ _ hS hk
def wpAnyF (P : Program) (md : Region.Mode) (ops : Array Oper) (S : World → Prop) (n : Nat) (L : Array Bool → Act → Prop) : Nat → Array Bool → Act → Prop
 | 0, listed, a => L listed a
 | f + 1, listed, a =>
   Region.ready md ops listed ≠ [] ∧ ∀ i ∈ Region.ready md ops listed, i < n ∧ frOp P ops S i (wpAnyF P md ops S n L f (listed.setIfInBounds i true)) a
theorem wpAny_of_headF {n g : Nat} {L : Array Bool → Act → Prop} {Q' : Exit → Act → World → Prop} (hL : ∀ listed a w, S w → L listed a → wpAny P md ops Q' g listed a w) :
   ∀ (f : Nat) (listed : Array Bool) (a : Act) (w : World), S w → wpAnyF P md ops S n L f listed a → wpAny P md ops Q' (f + g) listed a w
 | 0, listed, a, w, hS, h => by rw [Nat.zero_add]; exact hL _ _ _ hS h
 | f + 1, listed, a, w, hS, h => by
   rw [show f + 1 + g = (f + g) + 1 by omega]
   exact ⟨fun h0 => absurd h0 h.1, fun i hi => wpOp_of_frOp hS (fun a' w' hs h' => wpAny_of_headF hL f _ a' w' hs h') (h.2 i hi).2⟩
theorem wpAnyF_first {n i : Nat} {oi : Oper} {v : Value} {L : Array Bool → Act → Prop} (hi : ops[i]? = some oi) (hsel : ∀ (j : Nat) (o : Oper) cs b, ops[j]? = some o → o.op ≠ .select cs b)
   (hs : Region.sinkB md ops n = true) (hc : Region.chainB md ops n = true) (hn : n < ops.size) (hin : i < n)
   (hdone : ∀ listed a, L listed a → ∀ j ∈ Region.ready md ops listed, n ≤ j) :
   ∀ (f : Nat) (listed : Array Bool) (a : Act), HeadInv md ops n listed →
     (∀ j oj, ops[j]? = some oj → j ≠ i → listed.getD j true = false → (∀ e ∈ oj.after, Region.binds md e = true → e.on ≠ i) → oi.apart ops oj = true) →
     i ∈ Region.ready md ops listed → FreeY P ops S oi v a →
     wpAnyF P md ops S n L f (listed.setIfInBounds i true) (a.put oi.dst v) → wpAnyF P md ops S n L (f + 1) listed a := by
 intro f
 induction f with
 | zero =>
   intro listed a inv _ hr hy H
   have hun := (mem_ready.1 hr).1
   refine ⟨fun h => (by rw [h] at hr; cases hr), fun j hj => ?_⟩
   have hjn : j < n := by
     rcases Nat.lt_or_ge j n with h | h
     · exact h
     · exact absurd hj (tail_waits hs hc hn inv _ i rfl hin hun j h)
   refine ⟨hjn, ?_⟩
   by_cases hji : j = i
   · subst hji; exact hy.frOp hi H
   · have := hdone _ _ H j (ready_mono hj hji)
     omega
 | succ f ih =>
   intro listed a inv hfree hr hy H
   have hun := (mem_ready.1 hr).1
   refine ⟨fun h => (by rw [h] at hr; cases hr), fun j hj => ?_⟩
   have hjn : j < n := by
     rcases Nat.lt_or_ge j n with h | h
     · exact h
     · exact absurd hj (tail_waits hs hc hn inv _ i rfl hin hun j h)
   refine ⟨hjn, ?_⟩
   by_cases hji : j = i
   · subst hji; exact hy.frOp hi H
   · have h1 := (H.2 j (ready_mono hj hji)).2
     obtain ⟨hjun, oj, hoj, hall⟩ := mem_ready.1 hj
     have hnot : ∀ e ∈ oj.after, Region.binds md e = true → e.on ≠ i := fun e he hb heq => by
       have h1 := hall e he hb
       rw [heq, getD_both hun] at h1
       cases h1
     have h2 := frOp_put hoj (hfree j oj hoj hji hjun hnot) (fun cs b => hsel i oi cs b hi) (fun cs b => hsel j oj cs b hoj) hy h1
     have hfree' : ∀ k ok, ops[k]? = some ok → k ≠ i → (listed.setIfInBounds j true).getD k true = false →
         (∀ e ∈ ok.after, Region.binds md e = true → e.on ≠ i) → oi.apart ops ok = true := fun k ok hk hki hun' hno => by
       refine hfree k ok hk hki ?_ hno
       by_cases hjk : j = k
       · subst hjk; exact hjun
       · rw [getD_set_ne true hjk] at hun'; exact hun'
     refine frOp_mono (fun a' h3 => ih (listed.setIfInBounds j true) a' (inv.set hj hjn) hfree' (ready_mono hr (Ne.symm hji)) h3.1 ?_) h2
     rw [Array.setIfInBounds_comm _ _ hji]
     exact h3.2
theorem wpAnyF_lex {n g : Nat} {Lq : Act → Prop} (hsel : Region.noSelect ops = true) (hs : Region.sinkB md ops n = true) (hc : Region.chainB md ops n = true) (hn : n < ops.size) :
   ∀ (l : List Oper) (k : Nat) (listed : Array Bool) (a : Act), (∀ j, j < l.length → l[j]? = ops[k + j]?) → k + l.length = n → HeadInv md ops n listed →
   Region.lexHead md ops g l.length k listed = true → wpFree P ops S Lq l a →
   wpAnyF P md ops S n (fun listed' a' => Region.seqB md ops g n listed' = true ∧ Lq a') l.length listed a
 | [], k, listed, a, _, hk, _, hB, h => by
   have : k = n := by simpa using hk
   subst this
   exact ⟨by simpa [Region.lexHead] using hB, h⟩
 | o :: l, k, listed, a, hl, hk, inv, hB, h => by
   have h0 : ops[k]? = some o := by simpa using (hl 0 (by simp)).symm
   simp only [List.length_cons, Region.lexHead, Bool.and_eq_true] at hB
   obtain ⟨⟨hr, hf⟩, hB'⟩ := hB
   have hkn : k < n := by simp only [List.length_cons] at hk; omega
   have hr' : k ∈ Region.ready md ops listed := by simpa using hr
   obtain ⟨v, hy, hK⟩ := h
   exact wpAnyF_first h0 (Region.noSelect_spec hsel) hs hc hn hkn (fun listed' a' hL => seqB_ready hL.1) l.length listed a inv (Region.free_spec h0 hf) hr' hy
     (wpAnyF_lex hsel hs hc hn l (k + 1) _ _ (fun j hj => by have := hl (j + 1) (by simp; omega); simpa [Nat.add_assoc, Nat.add_comm 1 j] using this) (by simp only [List.length_cons] at hk; omega) (inv.set hr' hkn) hB' hK)
theorem wp_region_free_tail {id : Nat} {Q : Exit → Act → World → Prop} {a : Act} {w : World} {l : List Oper} (S : World → Prop) (n : Nat) (hm : P.follows .mixedOrders = true) (hB : Region.lexTailB .any l.toArray n = true)
   (hS : S w.drew)
   (h : wpFree P l.toArray S (fun a' => ∀ w', S w' → wpList P l.toArray Q (l.drop n) a' w') (l.take n) a) : (Code.region id l.toArray true).wp P Q a w := by
 simp only [Region.lexTailB, Bool.and_eq_true, decide_eq_true_eq] at hB
 obtain ⟨⟨⟨⟨hsel, hn⟩, hs⟩, hc⟩, hlex⟩ := hB
 have hn' : n < l.length := by simpa using hn
 have htl : (l.take n).length = n := by simp; omega
 have hdl : (l.drop n).length = l.toArray.size - n := by simp
 have inv0 : HeadInv .any l.toArray n (Array.replicate l.toArray.size false) :=
   ⟨by simp, fun j oj _ hl => (by rw [getD_replicate_false] at hl; cases hl), fun t _ ht => getD_in (by simpa using ht) (getD_replicate_false _ _)⟩
 have H := wpAnyF_lex (md := .any) (g := l.toArray.size - n) hsel hs hc hn (l.take n) 0 _ a (fun j hj => by
   have hj' : j < n := by rw [htl] at hj; exact hj
   simp [hj']) (by simpa using htl) inv0 (by rw [htl]; exact hlex) h
 refine wp_region_any hm ?_
 have := wpAny_of_headF (S := S) (Q' := Q) (g := l.toArray.size - n) (fun listed a' w' hS hL => by
   have := wpAny_of_seq (md := .any) (Q' := Q) (l.drop n) n listed a' w' (fun j => by simp [List.getElem?_drop]) (by rw [hdl]; exact hL.1) (hL.2 _ hS)
   rwa [hdl] at this) _ _ _ _ hS H
 rw [htl, show n + (l.toArray.size - n) = l.toArray.size by omega] at this
 exact this
def wpAnyN (P : Program) (md : Region.Mode) (ops : Array Oper) (S : World → Prop) (Q : Act → Prop) : Nat → Array Bool → Act → Prop
 | 0, listed, a => Region.ready md ops listed = [] ∧ Q a
 | fuel + 1, listed, a =>
   (Region.ready md ops listed = [] → Q a) ∧
   ∀ i ∈ Region.ready md ops listed, frOp P ops S i (wpAnyN P md ops S Q fuel (listed.setIfInBounds i true)) a
theorem wpAny_of_free {Q : Act → Prop} {Q' : Exit → Act → World → Prop} (hQ : ∀ a w, S w → Q a → Q' .normal a w) : ∀ (fuel : Nat) (listed : Array Bool) (a : Act) (w : World), S w →
   wpAnyN P md ops S Q fuel listed a → wpAny P md ops Q' fuel listed a w
 | 0, _, _, _, hS, h => ⟨h.1, hQ _ _ hS h.2⟩
 | fuel + 1, _, _, _, hS, h => ⟨fun h0 => hQ _ _ hS (h.1 h0), fun i hi => wpOp_of_frOp hS (fun a' w' hs h' => wpAny_of_free hQ fuel _ a' w' hs h') (h.2 i hi)⟩
theorem wpAnyN_first {Q : Act → Prop} {i : Nat} {oi : Oper} {v : Value} (hi : ops[i]? = some oi) (hsel : ∀ (j : Nat) (o : Oper) cs b, ops[j]? = some o → o.op ≠ .select cs b) :
   ∀ (fuel : Nat) (listed : Array Bool) (a : Act),
     (∀ j oj, ops[j]? = some oj → j ≠ i → listed.getD j true = false → (∀ e ∈ oj.after, Region.binds md e = true → e.on ≠ i) → oi.apart ops oj = true) →
     i ∈ Region.ready md ops listed → FreeY P ops S oi v a →
     wpAnyN P md ops S Q fuel (listed.setIfInBounds i true) (a.put oi.dst v) → wpAnyN P md ops S Q (fuel + 1) listed a := by
 intro fuel
 induction fuel with
 | zero =>
   intro listed a _ hr hy H
   refine ⟨fun h => (by rw [h] at hr; cases hr), fun j hj => ?_⟩
   by_cases hji : j = i
   · subst hji; exact hy.frOp hi H
   · have := ready_mono hj hji
     rw [H.1] at this
     cases this
 | succ fuel ih =>
   intro listed a hfree hr hy H
   refine ⟨fun h => (by rw [h] at hr; cases hr), fun j hj => ?_⟩
   by_cases hji : j = i
   · subst hji; exact hy.frOp hi H
   · have h1 := H.2 j (ready_mono hj hji)
     obtain ⟨hjun, oj, hoj, hall⟩ := mem_ready.1 hj
     have hun := (mem_ready.1 hr).1
     have hnot : ∀ e ∈ oj.after, Region.binds md e = true → e.on ≠ i := fun e he hb heq => by
       have h1 := hall e he hb
       rw [heq, getD_both hun] at h1
       cases h1
     have h2 := frOp_put hoj (hfree j oj hoj hji hjun hnot) (fun cs b => hsel i oi cs b hi) (fun cs b => hsel j oj cs b hoj) hy h1
     have hfree' : ∀ k ok, ops[k]? = some ok → k ≠ i → (listed.setIfInBounds j true).getD k true = false →
         (∀ e ∈ ok.after, Region.binds md e = true → e.on ≠ i) → oi.apart ops ok = true := fun k ok hk hki hun' hno => by
       refine hfree k ok hk hki ?_ hno
       by_cases hjk : j = k
       · subst hjk; exact hjun
       · rw [getD_set_ne true hjk] at hun'; exact hun'
     refine frOp_mono (fun a' h3 => ih (listed.setIfInBounds j true) a' hfree' (ready_mono hr (Ne.symm hji)) h3.1 ?_) h2
     rw [Array.setIfInBounds_comm _ _ hji]
     exact h3.2
theorem wpAnyN_lex {Q : Act → Prop} (hs : Region.noSelect ops = true) : ∀ (l : List Oper) (k : Nat) (listed : Array Bool) (a : Act), (∀ j, l[j]? = ops[k + j]?) →
   Region.lexFrom md ops l.length k listed = true → wpFree P ops S Q l a → wpAnyN P md ops S Q l.length listed a
 | [], _, _, _, _, hB, h => ⟨by simpa [Region.lexFrom] using hB, h⟩
 | o :: l, k, listed, a, hl, hB, h => by
   have h0 : ops[k]? = some o := by simpa using (hl 0).symm
   simp only [List.length_cons, Region.lexFrom, Bool.and_eq_true] at hB
   obtain ⟨⟨hr, hf⟩, hB'⟩ := hB
   obtain ⟨v, hy, hK⟩ := h
   exact wpAnyN_first h0 (Region.noSelect_spec hs) l.length listed a (Region.free_spec h0 hf) (by simpa using hr) hy
     (wpAnyN_lex hs l (k + 1) _ _ (fun j => by have := hl (j + 1); simpa [Nat.add_assoc, Nat.add_comm 1 j] using this) hB' hK)
theorem wp_region_free {id : Nat} {Q : Exit → Act → World → Prop} {a : Act} {w : World} {l : List Oper} (S : World → Prop) (hm : P.follows .mixedOrders = true) (hB : Region.lexB .any l.toArray = true)
   (hS : S w.drew)
   (h : wpFree P l.toArray S (fun a' => ∀ w', S w' → Q .normal a' w') l a) : (Code.region id l.toArray true).wp P Q a w := by
 simp only [Region.lexB, Bool.and_eq_true] at hB
 refine wp_region_any hm (wpAny_of_free (S := S) (Q := fun a' => ∀ w', S w' → Q .normal a' w') (fun a w hs h => h w hs) _ _ _ _ hS ?_)
 have := wpAnyN_lex (md := .any) (S := S) hB.1 l 0 (Array.replicate l.toArray.size false) a (by simp) (by simpa using hB.2) h
 simpa using this
theorem wpFree_nil {Q : Act → Prop} {a : Act} (h : Q a) : wpFree P ops S Q [] a := h
theorem wpFree_want {Q : Act → Prop} {a : Act} {o : Oper} {rest : List Oper} (v : Value) (hw : Region.wanted o (yielded ops a.tmps) = true) (hv : FreeV P S (execOp a.eval o) v)
   (h : ∀ K : Act → Prop, (∀ a, wpFree P ops S Q rest a → K a) → K (a.put o.dst v)) : wpFree P ops S Q (o :: rest) a :=
 ⟨v, .inl ⟨hw, hv⟩, h _ fun _ h => h⟩
theorem wpFree_skip {Q : Act → Prop} {a : Act} {o : Oper} {rest : List Oper} (hw : Region.wanted o (yielded ops a.tmps) = false)
   (h : ∀ K : Act → Prop, (∀ a, wpFree P ops S Q rest a → K a) → K (a.put o.dst undef)) : wpFree P ops S Q (o :: rest) a :=
 ⟨undef, .inr ⟨hw, rfl⟩, h _ fun _ h => h⟩
theorem freeV_still {e : Sem Next} {v : Value} (h : ∀ w, S w → e.run P w = .ok (.value v) w) : FreeV P S e v := fun w hS => by rw [h w hS]; exact ⟨rfl, hS⟩
theorem freeV_call {e : Sem Next} {v : Value} {f : FuncId} {args : Array Value} (h : ∀ w, S w → e.run P w = .ok (.enter f args) w) (hc : ∀ w, S w → Calls P f args w (fun e w' => e = .returned v ∧ S w')) : FreeV P S e v :=
 fun w hS => by rw [h w hS]; exact hc w hS
theorem wanted_none {o : Oper} {y : Nat → Option Bool} (h : o.guard = none) : Region.wanted o y = true := by simp [Region.wanted, h]
theorem wpFree_still {Q : Act → Prop} {a : Act} {o : Oper} {rest : List Oper} {v : Value} (hv : ∀ w, S w → (execOp a.eval o).run P w = .ok (.value v) w) (hg : o.guard = none)
   (h : ∀ K : Act → Prop, (∀ a, wpFree P ops S Q rest a → K a) → K (a.put o.dst v)) : wpFree P ops S Q (o :: rest) a := wpFree_want v (wanted_none hg) (freeV_still hv) h
theorem wpFree_call {Q : Act → Prop} {a : Act} {o : Oper} {rest : List Oper} {v : Value} {f : FuncId} {args : Array Value} (hv : ∀ w, S w → (execOp a.eval o).run P w = .ok (.enter f args) w) (hg : o.guard = none)
   (hc : ∀ w, S w → Calls P f args w (fun e w' => e = .returned v ∧ S w'))
   (h : ∀ K : Act → Prop, (∀ a, wpFree P ops S Q rest a → K a) → K (a.put o.dst v)) : wpFree P ops S Q (o :: rest) a := wpFree_want v (wanted_none hg) (freeV_call hv hc) h
theorem wpFree_stillG {Q : Act → Prop} {a : Act} {o : Oper} {rest : List Oper} {v : Value} (hw : Region.wanted o (yielded ops a.tmps) = true) (hv : ∀ w, S w → (execOp a.eval o).run P w = .ok (.value v) w)
   (h : ∀ K : Act → Prop, (∀ a, wpFree P ops S Q rest a → K a) → K (a.put o.dst v)) : wpFree P ops S Q (o :: rest) a := wpFree_want v hw (freeV_still hv) h
theorem wpFree_callG {Q : Act → Prop} {a : Act} {o : Oper} {rest : List Oper} {v : Value} {f : FuncId} {args : Array Value} (hw : Region.wanted o (yielded ops a.tmps) = true) (hv : ∀ w, S w → (execOp a.eval o).run P w = .ok (.enter f args) w)
   (hc : ∀ w, S w → Calls P f args w (fun e w' => e = .returned v ∧ S w'))
   (h : ∀ K : Act → Prop, (∀ a, wpFree P ops S Q rest a → K a) → K (a.put o.dst v)) : wpFree P ops S Q (o :: rest) a := wpFree_want v hw (freeV_call hv hc) h
end
end Go.Pal
namespace Go.Pal
open Go Go.RowKit
def row? (w : World) (g : Nat) : Option (Array Value) := match w.heap[g]? with
 | some (.cells c _ (0, 0)) => some c
 | _ => none
theorem row?_some {w : World} {g : Nat} {c : Array Value} (h : row? w g = some c) : ∃ t, w.heap[g]? = some (.cells c t (0, 0)) := by
 unfold row? at h
 split at h
 · rename_i c' t hg
   simp only [Option.some.injEq] at h
   subst h
   exact ⟨t, hg⟩
 · cases h
theorem row?_of {w : World} {g : Nat} {c : Array Value} {t : TypeId} (h : w.heap[g]? = some (.cells c t (0, 0))) : row? w g = some c := by simp [row?, h]
theorem row?_congr {w w' : World} {g : Nat} (h : w'.heap[g]? = w.heap[g]?) : row? w' g = row? w g := by simp [row?, h]
theorem row?_lt {w : World} {g : Nat} {c : Array Value} (h : row? w g = some c) : g < w.heap.size := by
 obtain ⟨t, hg⟩ := row?_some h
 exact (Array.getElem?_eq_some_iff.1 hg).1
@[go_sem] theorem row?_alloc_at (w : World) (c : Array Value) (t : TypeId) (n : Nat) (h : n = w.heap.size) : row? (w.alloc (.cells c t)) n = some c := by
 subst h
 exact row?_of (heap_alloc_new w _)
@[go_sem] theorem row?_alloc_past (w : World) (o : Obj) (n : Nat) (h : n < w.heap.size) : row? (w.alloc o) n = row? w n := row?_congr (Below.heap_alloc w o n h)
@[go_sem] theorem row?_drew (w : World) (n : Nat) : row? w.drew n = row? w n := rfl
@[go_sem] theorem row?_drewN (w : World) (k n : Nat) : row? (w.drewN k) n = row? w n := row?_congr rfl
@[go_sem] theorem row?_setRow_same (w : World) (g : Nat) (c : Array Value) (h : (row? w g).isSome = true) : row? (w.setRow g c) g = some c := by
 obtain ⟨c', hc⟩ := Option.isSome_iff_exists.1 h
 obtain ⟨t, hg⟩ := row?_some hc
 exact row?_of (setRow_heap w g c' c t (0, 0) hg)
@[go_sem] theorem row?_setRow_other (w : World) (g n : Nat) (c : Array Value) (h : ¬ n = g) : row? (w.setRow g c) n = row? w n := row?_congr (setRow_other w g n c h)
@[go_sem] theorem row?_setCell_same (w : World) (g i : Nat) (v : Value) : row? (w.setCell ⟨g, i, none⟩ v) g = (row? w g).map (·.setIfInBounds i v) := by
 unfold row?
 simp only [World.setCell, Array.getElem?_modify, if_true]
 cases h : w.heap[g]? with
 | none => rfl
 | some o =>
   cases o <;> simp
   rename_i c t fr
   obtain ⟨f1, f2⟩ := fr
   cases f1 <;> cases f2 <;> rfl
@[go_sem] theorem row?_setCell_other (w : World) (g i n : Nat) (v : Value) (h : ¬ n = g) : row? (w.setCell ⟨g, i, none⟩ v) n = row? w n := row?_congr (heap_setCell_other w _ n v h)
@[go_sem] theorem setRow_alloc_at (w : World) (c c' : Array Value) (t : TypeId) (n : Nat) (h : n = w.heap.size) : (w.alloc (.cells c t)).setRow n c' = w.alloc (.cells c' t) := by
 subst h
 exact World.setRow_alloc_new w c c' t
@[go_sem] theorem setRow_alloc_past (w : World) (o : Obj) (c : Array Value) (n : Nat) (h : n < w.heap.size) : (w.alloc o).setRow n c = (w.setRow n c).alloc o := by
 unfold World.setRow World.alloc
 congr 1
 apply Array.ext_getElem?
 intro i
 simp only [Array.getElem?_modify, Array.getElem?_push, Array.size_modify]
 by_cases hi : i = w.heap.size
 · subst hi
   have : ¬ n = w.heap.size := by omega
   simp [this]
 · simp [hi]
@[go_sem] theorem setRow_drew (w : World) (c : Array Value) (n : Nat) : w.drew.setRow n c = (w.setRow n c).drew := rfl
theorem row?_below {B : Nat} {w w' : World} (h : Below B w w') {g : Nat} (hg : g < B) : row? w' g = row? w g := row?_congr (h.block g hg)
theorem cell?_row {w : World} {g i : Nat} {c : Array Value} (h : row? w g = some c) : w.cell? ⟨g, i, none⟩ = c[i]? := by
 obtain ⟨t, hg⟩ := row?_some h
 exact cell_of_row w g i c t (0, 0) hg
theorem frozen?_row {w : World} {g i : Nat} {c : Array Value} (h : row? w g = some c) : w.frozen? ⟨g, i, none⟩ = false := by
 obtain ⟨t, hg⟩ := row?_some h
 exact frozen_of_row w g i c t hg
def laterLoad (P : Program) (ty : TypeId) (a : Addr) (w : World) : Result Value := (loadVar ty a).run P w
def laterStore (P : Program) (ty : TypeId) (a : Addr) (v : Value) (w : World) : Result Unit := (storeVar ty a v).run P w
def Rd {α : Type} (enc : α → Array Value) (k B : Nat) (w : World) (v : Value) (xs : List α) : Prop :=
 ∃ a c, v = .slice a xs.length c ∧ (xs = [] ∨ ∃ b off, a = some ⟨b, off, none⟩ ∧ b < B ∧ ∀ i x, xs[i]? = some x → ∀ j u, (enc x)[j]? = some u → w.cell? ⟨b, off + i * k + j, none⟩ = some u)
theorem Rd.below {α : Type} {enc : α → Array Value} {k B C : Nat} {w w' : World} {v : Value} {xs : List α} (h : Rd enc k B w v xs) (hb : Below C w w') (hC : B ≤ C) : Rd enc k B w' v xs := by
 obtain ⟨a, c, hv, h⟩ := h
 refine ⟨a, c, hv, h.imp id ?_⟩
 rintro ⟨b, off, ha, hbB, hc⟩
 exact ⟨b, off, ha, hbB, fun i x hi j u hu => (hb.cell (p := ⟨b, off + i * k + j, none⟩) (by show b < C; omega)).trans (hc i x hi j u hu)⟩
theorem Rd.mono {α : Type} {enc : α → Array Value} {k B B' : Nat} {w : World} {v : Value} {xs : List α} (h : Rd enc k B w v xs) (hB : B ≤ B') : Rd enc k B' w v xs := by
 obtain ⟨a, c, hv, h⟩ := h
 exact ⟨a, c, hv, h.imp id fun ⟨b, off, ha, hbB, hc⟩ => ⟨b, off, ha, by omega, hc⟩⟩
section
variable {P : Program}
theorem run_loadVar_part (w : World) (g o n : Nat) (ty : TypeId) (cs : Array Value) (hg : row? w g = some cs) (hagg : ∀ w, (isAgg ty).run P w = .ok true w) (hn : ∀ w, (sizeOf ty).run P w = .ok n w)
   (hfit : o + n ≤ cs.size) : (loadVar ty ⟨g, o, none⟩).run P w = .ok (.agg (cs.extract o (o + n))) w := by
 have hl : (loadCells ⟨g, o, none⟩ (cs.toList.drop o |>.take n).length).run P w = .ok (cs.toList.drop o |>.take n).toArray w :=
   run_loadCells_list (P := P) w ⟨g, o, none⟩ _ (fun j v hv => by
     have hadd : (⟨g, o, none⟩ : Addr).add j = ⟨g, o + j, none⟩ := by unfold Addr.add; split <;> simp_all
     rw [hadd, Go.Pal.cell?_row hg]
     rw [List.getElem?_take] at hv
     split at hv
     · rw [List.getElem?_drop] at hv; simpa using hv
     · cases hv)
 have hlen : (cs.toList.drop o |>.take n).length = n := by simp; omega
 rw [hlen] at hl
 have hx : (cs.toList.drop o |>.take n).toArray = cs.extract o (o + n) := by
   apply Array.ext'
   simp only [Array.toList_extract, List.extract_eq_drop_take']
   rw [List.drop_take, show o + n - o = n by omega]
 rw [hx] at hl
 simp [loadVar, Sem.run_bind, hagg, hn, hl]
def loadLater (ty : TypeId) (a : Addr) : Sem Value := loadVar ty a
def storeLater (ty : TypeId) (a : Addr) (v : Value) : Sem Unit := storeVar ty a v
def rowLoad (P : Program) (ty : TypeId) (a : Addr) (w : World) : Result Value := (loadVar ty a).run P w
def rowStore (P : Program) (ty : TypeId) (a : Addr) (v : Value) (w : World) : Result Unit := (storeVar ty a v).run P w
theorem load_row {ty n : Nat} (hagg : ∀ w, (isAgg ty).run P w = .ok true w) (hn : ∀ w, (sizeOf ty).run P w = .ok n w) (w : World) (g : Nat) :
   rowLoad P ty ⟨g, 0, none⟩ w = match row? w g with
     | some c => if c.size = n then .ok (.agg c) w else laterLoad P ty ⟨g, 0, none⟩ w
     | none => laterLoad P ty ⟨g, 0, none⟩ w := by
 unfold rowLoad
 cases h : row? w g with
 | none => rfl
 | some c =>
   simp only []
   by_cases hc : c.size = n
   · rw [if_pos hc, run_loadVar_part w g 0 n ty c h hagg hn (by omega)]
     simp [← hc]
   · rw [if_neg hc]; rfl
theorem load_part {ty n : Nat} (hagg : ∀ w, (isAgg ty).run P w = .ok true w) (hn : ∀ w, (sizeOf ty).run P w = .ok n w) (w : World) (g o : Nat) (h : (row? w g).isSome = true) :
   rowLoad P ty ⟨g, o, none⟩ w = match row? w g with
     | some c => if o + n ≤ c.size then .ok (.agg (c.extract o (o + n))) w else laterLoad P ty ⟨g, o, none⟩ w
     | none => laterLoad P ty ⟨g, o, none⟩ w := by
 unfold rowLoad
 obtain ⟨c, hc⟩ := Option.isSome_iff_exists.1 h
 rw [hc]
 simp only []
 by_cases hs : o + n ≤ c.size
 · rw [if_pos hs, run_loadVar_part w g o n ty c hc hagg hn hs]
 · rw [if_neg hs]; rfl
theorem load_cells {ty n : Nat} (hagg : ∀ w, (isAgg ty).run P w = .ok true w) (hn : ∀ w, (sizeOf ty).run P w = .ok n w) (w : World) (g o : Nat) (cs : Array Value) (hs : cs.size = n)
   (hc : ∀ j u, cs[j]? = some u → w.cell? ⟨g, o + j, none⟩ = some u) : rowLoad P ty ⟨g, o, none⟩ w = .ok (.agg cs) w := by
 have hl : (loadCells ⟨g, o, none⟩ cs.toList.length).run P w = .ok cs.toList.toArray w :=
   run_loadCells_list (P := P) w ⟨g, o, none⟩ cs.toList (fun j v hv => by
     have hadd : (⟨g, o, none⟩ : Addr).add j = ⟨g, o + j, none⟩ := by unfold Addr.add; split <;> simp_all
     rw [hadd]
     exact hc j v (by simpa using hv))
 unfold rowLoad
 rw [Array.length_toList, hs, Array.toArray_toList] at hl
 simp [loadVar, Sem.run_bind, hagg, hn, hl]
theorem run_storeVar_part (w : World) (g o n : Nat) (ty : TypeId) (cs d : Array Value) (hg : row? w g = some cs) (hn : ∀ w, (sizeOf ty).run P w = .ok n w)
   (hd : d.size = n) (hfit : o + n ≤ cs.size) (h1 : ∀ v ∈ d.toList, v.oneCell' = true) :
   (storeVar ty ⟨g, o, none⟩ (.agg d)).run P w = .ok () (w.setRow g (cs.toList.take o ++ d.toList ++ cs.toList.drop (o + n)).toArray) := by
 obtain ⟨t, hg'⟩ := row?_some hg
 have h := Go.run_storeCells_at (P := P) g o t d.toList 0 cs w hg' (by simp; omega) h1
 simp only [Nat.add_zero, Array.length_toList, hd] at h
 simp [storeVar, Sem.run_bind, hn, Value.cells, hd, h]
def allOne (d : Array Value) : Bool := d.all fun v => v.oneCell'
theorem store_row {ty n : Nat} (hn : ∀ w, (sizeOf ty).run P w = .ok n w) (w : World) (g : Nat) (d : Array Value) :
   rowStore P ty ⟨g, 0, none⟩ (.agg d) w = match row? w g with
     | some c => if c.size = n ∧ d.size = n ∧ allOne d = true then .ok () (w.setRow g d) else laterStore P ty ⟨g, 0, none⟩ (.agg d) w
     | none => laterStore P ty ⟨g, 0, none⟩ (.agg d) w := by
 unfold rowStore
 cases h : row? w g with
 | none => rfl
 | some c =>
   simp only []
   by_cases hc : c.size = n ∧ d.size = n ∧ allOne d = true
   · rw [if_pos hc, run_storeVar_part w g 0 n ty c d h hn hc.2.1 (by omega) (fun v hv => by
       have := hc.2.2
       unfold allOne at this
       rw [Array.all_eq_true_iff_forall_mem] at this
       exact this v (by simpa using hv))]
     congr 1
     congr 1
     apply Array.ext'
     simp only [List.take_zero, List.nil_append, Nat.zero_add, ← hc.1]
     simp
   · rw [if_neg hc]; rfl
theorem results_row {fn : Func} {p : Tmp} {ty n : Nat} (h : fn.results = #[.cell p ty]) (hagg : ∀ w, (isAgg ty).run P w = .ok true w) (hn : ∀ w, (sizeOf ty).run P w = .ok n w)
   (tmps : Array Value) (w : World) (g : Nat) (c : Array Value) (hp : tmps.getD p undef = .pointer (some ⟨g, 0, none⟩)) (hg : row? w g = some c) (hc : c.size = n) :
   (results fn tmps).run P w = .ok (.agg c) w := by
 have hp' : tmps[p]?.getD undef = .pointer (some ⟨g, 0, none⟩) := by simpa using hp
 have hl := load_row (P := P) hagg hn w g
 rw [hg] at hl
 simp only [hc, if_true] at hl
 unfold rowLoad at hl
 simp [results, h, hp', asAddr, hl]
theorem run_index_arr (ty elem : TypeId) (n : Nat) (cs : Array Value) (k : IntKind) (i : Nat) (v : Value) (w : World) (ht : P.underlying ty = some (.array n elem))
   (hz : ∀ w, (sizeOf elem).run P w = .ok 1 w) (ha : ∀ w, (isAgg elem).run P w = .ok false w) (hi : i < n) (hv : cs[i]? = some v) : (Instr.index ty (.agg cs) (.int k (i : Int))).run P w = .ok v w := by
 unfold Instr.index
 have h1 : (0 : Int) ≤ (i : Int) ∧ (i : Int) < (n : Int) := by omega
 have h2 : ¬ n ≤ i := by omega
 simp [Sem.run_bind, asIntOf, run_underlying ht, h1, hz, part, ha, hv, h2]
theorem run_append_own2 (w : World) (base : Nat) (t ty e : TypeId) (i : TypeInfo) (z : Value) (size bytes : Nat) (ht : P.underlying t = some (.slice e)) (hi : P.info? e = some i) (hz : i.zero = some z)
   (hsize : i.size = size) (hby : i.bytes = bytes) (hzs : z.cells.size = size) (hsz : 0 < size)
   (v : Value) (n : Nat) (xs : List Value) (hown : w.ownsRow base e size v n xs)
   (a : Addr) (m c : Nat) (hm : 0 < m) (news : List Value) (hl : news.length = m * size) (hnews : ∀ j u, news[j]? = some u → w.cell? (a.add j) = some u) (h1 : ∀ u ∈ news, u.oneCell' = true)
   (h63 : n + m ≤ maxLen) (hbytes : (n + m) * bytes ≤ 140737488355328) (hbase : base ≤ w.heap.size) :
   ∃ v' w', (Builtin.append_ #[t, t] ty #[v, .slice (some a) m c]).run P w = .ok v' w' ∧ w'.ownsRow base e size v' (n + m) (xs ++ news) ∧ w.grownBy w' v.ownBlock ∧
     (v'.ownBlock = v.ownBlock ∨ v'.ownBlock = some w.heap.size) := by
 obtain ⟨v', w', hr, h2, h3, _⟩ := run_append_own (P := P) w base t ty e i z size bytes ht hi hz hsize hby hzs hsz v n xs hown a m c news hl hnews h1 h63 hbytes hbase
 refine ⟨v', w', hr, h2, h3, ?_⟩
 have hsmall : n + m ≤ 9223372036854775807 := by simp only [maxLen] at h63; omega
 rcases hown.2 with ⟨rfl, rfl⟩ | ⟨g, cap, cur, rfl, hbg, hg, hnc, hcm, hcs, htake⟩
 · have hr2 := run_append_nil (P := P) w t ty e i z ht hi hz a m c news (by rw [hsize]; exact hl) hnews (by omega) (by omega) (by rw [hby]; have hb2 := hbytes; simp only [Nat.zero_add] at hb2; omega)
   rw [hr] at hr2
   cases hr2
   exact .inr rfl
 · by_cases hroom : n + m ≤ cap
   · obtain ⟨w2, hr2, _⟩ := run_append_fits (P := P) w base t ty e i size ht hi hsize g n cap xs hown a m c news hl hnews h1 hroom
     rw [hr] at hr2
     cases hr2
     exact .inl rfl
   · have holds : ∀ j u, xs[j]? = some u → w.cell? ((⟨g, 0, none⟩ : Addr).add j) = some u := hown.cells (g := g) rfl
     have hr2 := run_append_grow (P := P) w t ty e i z ht hi hz ⟨g, 0, none⟩ n cap xs (by rw [hsize]; exact hown.1) holds a m c news (by rw [hsize]; exact hl) hnews (by omega) (by omega) (growslice_fits (by omega) (by rw [hby]; exact hbytes))
     rw [hr] at hr2
     cases hr2
     exact .inr rfl
theorem run_make1 {t e bytes : Nat} {z : Value} (ht : P.underlying t = some (.slice e)) (hinfo : (P.info? e).map (fun i => (i.zero, i.size, i.bytes)) = some (some z, 1, bytes)) (hz1 : z.cells = #[z]) (n : Nat) (hbytes : bytes * n ≤ 281474976710656) (h63 : n ≤ 9223372036854775807) (w : World) :
   (Instr.makeSlice t (.int .i64 (n : Int)) (.int .i64 (n : Int))).run P w = .ok (.slice (some ⟨w.heap.size, 0, none⟩) n n) (w.alloc (.cells (Array.replicate n z) e)) := by
 have h := run_make_row' (P := P) t e z bytes ht hinfo hz1 .i64 .i64 n hbytes h63 w
 have e1 : madeCells #[z] n = Array.replicate n z := by
   apply Array.ext'
   rw [toList_madeCells_one]
   simp
 rw [e1] at h
 exact h
theorem run_equalIn_ints (d : Nat) (t elem : TypeId) (k k' : IntKind) (n : Nat) (xs ys : Array Value) (f g : Nat → Int) (w : World) (ht : P.underlying t = some (.array n elem)) (he : P.underlying elem = some (.int k'))
   (hz : ∀ w, (sizeOf elem).run P w = .ok 1 w) (ha : ∀ w, (isAgg elem).run P w = .ok false w)
   (hx : ∀ i, i < n → xs[i]? = some (.int k (f i))) (hy : ∀ i, i < n → ys[i]? = some (.int k (g i))) :
   (Op.equalIn (d + 1 + 1) t (.agg xs) (.agg ys)).run P w = .ok ((List.range' 0 n).all fun i => f i == g i) w := by
 rw [Op.equalIn]
 simp only [Sem.run_bind, run_underlying ht, Result.andThen_ok, hz]
 rw [Std.Legacy.Range.forIn_eq_forIn_range']
 simp only [Std.Legacy.Range.size, Nat.sub_zero, Nat.add_sub_cancel, Nat.div_one]
 have key : ∀ (m i : Nat), i + m ≤ n → ∀ (w : World), (forIn (List.range' i m) (none, ()) (fun (i : Nat) (r : Option Bool × Unit) => (do
     let __do_lift ← part elem xs (i * 1)
     let __do_lift_1 ← part elem ys (i * 1)
     let __do_lift ← Op.equalIn (d + 1) elem __do_lift __do_lift_1
     if (!__do_lift) = true then pure (ForInStep.done (some false, ())) else pure (ForInStep.yield (none, ())) : Sem (ForInStep (Option Bool × Unit))))).run P w = .ok (if (List.range' i m).all (fun i => f i == g i) then (none, ()) else (some false, ())) w := by
   intro m
   induction m with
   | zero => intro i _ w; simp
   | succ m ih =>
     intro i hi w
     have h1 := hx i (by omega)
     have h2 := hy i (by omega)
     have hp : ∀ (cs : Array Value) (v : Value) (w : World), cs[i]? = some v → (part elem cs (i * 1)).run P w = .ok v w := fun cs v w hv => by
       simp [part, Sem.run_bind, ha, hv]
     rw [List.range'_succ, List.forIn_cons]
     simp only [Sem.run_bind, hp xs _ _ h1, hp ys _ _ h2, Result.andThen_ok, run_equalIn_int _ d elem k k' _ _ he, List.all_cons]
     by_cases hfg : f i = g i
     · simp only [hfg, beq_self_eq_true, Bool.not_true, Bool.false_eq_true, if_false, Sem.run_pure, Result.andThen_ok, Bool.true_and]
       exact ih (i + 1) (by omega) w
     · have : (f i == g i) = false := by simpa using hfg
       simp [this]
 have hk := key n 0 (by omega) w
 rw [hk]
 generalize (List.range' 0 n).all (fun i => f i == g i) = b
 cases b <;> simp
theorem ret_row {fn : Func} {R : Ending → World → Prop} {a : Act} {w : World} {p : Tmp} {ty n : Nat} (g : Nat) (c : Array Value) (h : fn.results = #[.cell p ty]) (hagg : ∀ w, (isAgg ty).run P w = .ok true w) (hn : ∀ w, (sizeOf ty).run P w = .ok n w)
   (hp : a.tmps.getD p undef = .pointer (some ⟨g, 0, none⟩)) (hd : a.defers = []) (hg : row? w g = some c) (hc : c.size = n) (hR : R (.returned (.agg c)) w) : bodyPost P fn R .ret a w :=
 bodyPost_ret (results_row h hagg hn a.tmps w g c hp hg hc) hd hR
end
end Go.Pal
namespace Go.Pal
open Go
section
variable {P : Program} {ops : Array Oper} {md : Region.Mode} {S : World → Prop} {Q : Exit → Act → World → Prop}
def HeldY (P : Program) (ops : Array Oper) (S : World → Prop) (o : Oper) (v : Value) (a : Act) : Prop :=
 (Region.wanted o (yielded ops a.tmps) = true ∧ ∀ w, S w → (execOp a.eval o).run P w = .ok (.value v) w) ∨
 (Region.wanted o (yielded ops a.tmps) = false ∧ v = undef)
theorem HeldY.of_same {o : Oper} {v : Value} {a a' : Act} (hy : HeldY P ops S o v a) (he : execOp a'.eval o = execOp a.eval o)
   (hw : Region.wanted o (yielded ops a'.tmps) = Region.wanted o (yielded ops a.tmps)) : HeldY P ops S o v a' := by
 unfold HeldY at *
 rw [he, hw]
 exact hy
theorem HeldY.wpOp {i : Nat} {o : Oper} {v : Value} {a : Act} (hi : ops[i]? = some o) (hy : HeldY P ops S o v a)
   {K : Act → World → Prop} {w : World} (hS : S w) (h : K (a.put o.dst v) w) : wpOp P ops Q i K a w := by
 unfold Go.wpOp
 simp only [hi]
 rcases hy with ⟨hw, hv⟩ | ⟨hw, rfl⟩
 · simp only [hw, if_true, Oper.wp, hv w hS, Oper.upon]; exact .inl h
 · simp only [hw, Bool.false_eq_true, if_false]; exact h
theorem heldOp_put {j : Nat} {oi oj : Oper} {v : Value} (hj : ops[j]? = some oj) (hap : oi.apart ops oj = true)
   (hsi : ∀ cs b, oi.op ≠ .select cs b) (hsj : ∀ cs b, oj.op ≠ .select cs b)
   (hQ : ∀ c a w, Q (.panic c) (a.put oi.dst v) w → Q (.panic c) a w) {K : Act → World → Prop} {a : Act} {w : World}
   (hy : HeldY P ops S oi v a) (h : wpOp P ops Q j K (a.put oi.dst v) w) :
   wpOp P ops Q j (fun a' w' => HeldY P ops S oi v a' ∧ K (a'.put oi.dst v) w') a w := by
 obtain ⟨h1, h2, h3⟩ := Oper.apart_spec hap
 have keep : ∀ (a : Act), HeldY P ops S oi v a → ∀ u, HeldY P ops S oi v (a.put oj.dst u) := fun a hy u =>
   hy.of_same (execOp_put oi hsi a oj.dst u h3) (wanted_put oi a oj.dst u h3)
 have keepD : ∀ d, HeldY P ops S oi v { a with defers := d :: a.defers } := fun d => hy.of_same rfl rfl
 unfold wpOp at *
 simp only [hj] at *
 rw [wanted_put oj a oi.dst v h1] at h
 split
 · rename_i hw
   simp only [hw, if_true] at h
   rcases h with h | ⟨hasks, hlets⟩
   case inr => exact .inr ⟨by unfold Oper.asks at *; rw [execOp_put oj hsj a oi.dst v h1] at hasks; exact hasks, hlets⟩
   refine .inl ?_
   unfold Oper.wp at *
   rw [execOp_put oj hsj a oi.dst v h1] at h
   generalize (execOp a.eval oj).run P w = r at *
   cases r with
   | ok n w' =>
     cases n <;> simp only [Oper.upon] at h ⊢
     case value u => exact ⟨keep a hy u, by rw [← Act.put_comm a v u h2]; exact h⟩
     case skip => exact ⟨keep a hy _, by rw [← Act.put_comm a v undef h2]; exact h⟩
     case defer d =>
       refine ⟨keep _ (keepD d) _, ?_⟩
       rw [← Act.put_comm _ v undef h2, ← Act.put_defers]
       exact h
     case enter f args =>
       refine Calls.mono h fun e w'' he => ?_
       cases e with
       | returned u => exact ⟨keep a hy u, by rw [← Act.put_comm a v u h2]; exact he⟩
       | panicked c => exact hQ _ _ _ he
       | outgrown => exact he
     case row row args => exact Rows.mono h fun u w'' he => ⟨keep a hy u, by rw [← Act.put_comm a v u h2]; exact he⟩
   | halt x w' =>
     cases x <;> simp only [Oper.upon] at h ⊢
     case panic u => exact hQ _ _ _ h
 · rename_i hw
   simp only [hw] at h
   exact ⟨keep a hy _, by rw [← Act.put_comm a v undef h2]; exact h⟩
def noQ : Exit → Act → World → Prop := fun _ _ _ => False
theorem wpOp_noQ {i : Nat} {K : Act → World → Prop} {a : Act} {w : World} (h : wpOp P ops noQ i K a w) : wpOp P ops Q i K a w := by
 unfold wpOp at *
 cases ho : ops[i]? with
 | none => simp only [ho] at h ⊢; exact h
 | some o =>
   simp only [ho] at h ⊢
   split
   · rename_i hw
     simp only [hw, if_true] at h
     rcases h with h | ⟨_, a', w', h⟩
     · refine .inl ?_
       unfold Oper.wp at *
       generalize (execOp a.eval o).run P w = r at *
       cases r with
       | ok n w' =>
         cases n <;> simp only [Oper.upon] at h ⊢
         case enter f args =>
           refine Calls.mono h fun e w'' he => ?_
           cases e with
           | returned u => exact he
           | panicked c => exact he.elim
           | outgrown => obtain ⟨_, _, h⟩ := he; exact h.elim
         all_goals exact h
       | halt x w' =>
         cases x <;> simp only [Oper.upon] at h ⊢
         case panic u => exact h.elim
     · exact h.elim
   · rename_i hw
     simp only [hw] at h
     exact h
def wpAnyH (P : Program) (md : Region.Mode) (ops : Array Oper) (S : World → Prop) (Q : Exit → Act → World → Prop) (n : Nat) (L : Array Bool → Act → World → Prop) : Nat → Array Bool → Act → World → Prop
 | 0, listed, a, w => S w ∧ L listed a w
 | f + 1, listed, a, w => S w ∧ Region.ready md ops listed ≠ [] ∧ ∀ i ∈ Region.ready md ops listed, i < n ∧ wpOp P ops Q i (wpAnyH P md ops S Q n L f (listed.setIfInBounds i true)) a w
theorem wpAnyH_S {n : Nat} {L : Array Bool → Act → World → Prop} : ∀ {f : Nat} {listed : Array Bool} {a : Act} {w : World}, wpAnyH P md ops S Q n L f listed a w → S w
 | 0, _, _, _, h => h.1
 | _ + 1, _, _, _, h => h.1
theorem wpAny_of_headH {n g : Nat} {L : Array Bool → Act → World → Prop} (hL : ∀ listed a w, L listed a w → wpAny P md ops Q g listed a w) :
   ∀ (f : Nat) (listed : Array Bool) (a : Act) (w : World), wpAnyH P md ops S noQ n L f listed a w → wpAny P md ops Q (f + g) listed a w
 | 0, listed, a, w, h => by rw [Nat.zero_add]; exact hL _ _ _ h.2
 | f + 1, listed, a, w, h => by
   rw [show f + 1 + g = (f + g) + 1 by omega]
   exact ⟨fun h0 => absurd h0 h.2.1, fun i hi => wpOp_noQ (wpOp_mono (fun a' w' h' => wpAny_of_headH hL f _ a' w' h') (h.2.2 i hi).2)⟩
theorem wpAnyH_first {n i : Nat} {oi : Oper} {v : Value} {L : Array Bool → Act → World → Prop} (hi : ops[i]? = some oi) (hsel : ∀ (j : Nat) (o : Oper) cs b, ops[j]? = some o → o.op ≠ .select cs b)
   (hQ : ∀ c a w, Q (.panic c) (a.put oi.dst v) w → Q (.panic c) a w)
   (hs : Region.sinkB md ops n = true) (hc : Region.chainB md ops n = true) (hn : n < ops.size) (hin : i < n)
   (hdone : ∀ listed a w, L listed a w → ∀ j ∈ Region.ready md ops listed, n ≤ j) :
   ∀ (f : Nat) (listed : Array Bool) (a : Act) (w : World), HeadInv md ops n listed →
     (∀ j oj, ops[j]? = some oj → j ≠ i → listed.getD j true = false → (∀ e ∈ oj.after, Region.binds md e = true → e.on ≠ i) → oi.apart ops oj = true) →
     i ∈ Region.ready md ops listed → HeldY P ops S oi v a → S w →
     wpAnyH P md ops S Q n L f (listed.setIfInBounds i true) (a.put oi.dst v) w → wpAnyH P md ops S Q n L (f + 1) listed a w := by
 intro f
 induction f with
 | zero =>
   intro listed a w inv _ hr hy hS H
   have hun := (mem_ready.1 hr).1
   refine ⟨hS, fun h => (by rw [h] at hr; cases hr), fun j hj => ?_⟩
   have hjn : j < n := by
     rcases Nat.lt_or_ge j n with h | h
     · exact h
     · exact absurd hj (tail_waits hs hc hn inv _ i rfl hin hun j h)
   refine ⟨hjn, ?_⟩
   by_cases hji : j = i
   · subst hji; exact hy.wpOp hi hS H
   · have := hdone _ _ _ H.2 j (ready_mono hj hji)
     omega
 | succ f ih =>
   intro listed a w inv hfree hr hy hS H
   have hun := (mem_ready.1 hr).1
   refine ⟨hS, fun h => (by rw [h] at hr; cases hr), fun j hj => ?_⟩
   have hjn : j < n := by
     rcases Nat.lt_or_ge j n with h | h
     · exact h
     · exact absurd hj (tail_waits hs hc hn inv _ i rfl hin hun j h)
   refine ⟨hjn, ?_⟩
   by_cases hji : j = i
   · subst hji; exact hy.wpOp hi hS H
   · have h1 := (H.2.2 j (ready_mono hj hji)).2
     obtain ⟨hjun, oj, hoj, hall⟩ := mem_ready.1 hj
     have hnot : ∀ e ∈ oj.after, Region.binds md e = true → e.on ≠ i := fun e he hb heq => by
       have h1 := hall e he hb
       rw [heq, getD_both hun] at h1
       cases h1
     have h2 := heldOp_put hoj (hfree j oj hoj hji hjun hnot) (fun cs b => hsel i oi cs b hi) (fun cs b => hsel j oj cs b hoj) hQ hy h1
     have hfree' : ∀ k ok, ops[k]? = some ok → k ≠ i → (listed.setIfInBounds j true).getD k true = false →
         (∀ e ∈ ok.after, Region.binds md e = true → e.on ≠ i) → oi.apart ops ok = true := fun k ok hk hki hun' hno => by
       refine hfree k ok hk hki ?_ hno
       by_cases hjk : j = k
       · subst hjk; exact hjun
       · rw [getD_set_ne true hjk] at hun'; exact hun'
     refine wpOp_mono (fun a' w' h3 => ?_) h2
     obtain ⟨hy3, h3⟩ := h3
     rw [Array.setIfInBounds_comm _ _ (Ne.symm hji)] at h3
     exact ih (listed.setIfInBounds j true) a' w' (inv.set hj hjn) hfree' (ready_mono hr (Ne.symm hji)) hy3 (wpAnyH_S h3) h3
def Region.planB (md : Region.Mode) (ops : Array Oper) (n g : Nat) : List (Nat × Bool) → Array Bool → Bool
 | [], listed => Region.seqB md ops g n listed
 | (k, true) :: r, listed => (Region.ready md ops listed).contains k && decide (k < n) && Region.free md ops listed k && Region.planB md ops n g r (listed.setIfInBounds k true)
 | (k, false) :: r, listed => decide (Region.ready md ops listed = [k]) && decide (k < n) && Region.planB md ops n g r (listed.setIfInBounds k true)
def Region.mixB (md : Region.Mode) (ops : Array Oper) (n : Nat) (plan : List (Nat × Bool)) : Bool :=
 Region.noSelect ops && decide (n < ops.size) && Region.sinkB md ops n && Region.chainB md ops n && decide (plan.length = n) && Region.planB md ops n (ops.size - n) plan (Array.replicate ops.size false)
def wpPlan (P : Program) (ops : Array Oper) (S : World → Prop) (Q : Exit → Act → World → Prop) (K : Act → World → Prop) : List (Nat × Bool) → Act → World → Prop
 | [], a, w => K a w
 | (k, true) :: r, a, w => ∃ o v, ops[k]? = some o ∧ HeldY P ops S o v a ∧ wpPlan P ops S Q K r (a.put o.dst v) w
 | (k, false) :: r, a, w => wpOp P ops Q k (fun a' w' => S w' ∧ wpPlan P ops S Q K r a' w') a w
theorem wpAnyH_plan {n g : Nat} {K : Act → World → Prop} (hsel : Region.noSelect ops = true) (hs : Region.sinkB md ops n = true) (hc : Region.chainB md ops n = true) (hn : n < ops.size) (hQ : ∀ c a a' w, Q (.panic c) a w → Q (.panic c) a' w) :
   ∀ (plan : List (Nat × Bool)) (listed : Array Bool) (a : Act) (w : World), HeadInv md ops n listed → Region.planB md ops n g plan listed = true → S w → wpPlan P ops S Q K plan a w →
   wpAnyH P md ops S Q n (fun listed' a' w' => Region.seqB md ops g n listed' = true ∧ K a' w') plan.length listed a w
 | [], listed, a, w, _, hB, hS, h => ⟨hS, hB, h⟩
 | (k, true) :: r, listed, a, w, inv, hB, hS, h => by
   obtain ⟨o, v, ho, hy, h⟩ := h
   simp only [Region.planB, Bool.and_eq_true, decide_eq_true_eq] at hB
   obtain ⟨⟨⟨hr, hk⟩, hf⟩, hB'⟩ := hB
   have hr' : k ∈ Region.ready md ops listed := by simpa using hr
   exact wpAnyH_first ho (Region.noSelect_spec hsel) (fun c a w => hQ c _ _ w) hs hc hn hk (fun listed' a' w' hL => seqB_ready hL.1) r.length listed a w inv (Region.free_spec ho hf) hr' hy hS
     (wpAnyH_plan hsel hs hc hn hQ r _ _ w (inv.set hr' hk) hB' hS h)
 | (k, false) :: r, listed, a, w, inv, hB, hS, h => by
   simp only [Region.planB, Bool.and_eq_true, decide_eq_true_eq] at hB
   obtain ⟨⟨hr, hk⟩, hB'⟩ := hB
   refine ⟨hS, by rw [hr]; simp, fun j hj => ?_⟩
   have hjk : j = k := by rw [hr] at hj; simpa using hj
   subst hjk
   exact ⟨hk, wpOp_mono (fun a' w' h' => wpAnyH_plan hsel hs hc hn hQ r _ a' w' (inv.set hj hk) hB' h'.1 h'.2) h⟩
theorem wp_region_mix {id : Nat} {Q : Exit → Act → World → Prop} {a : Act} {w : World} {l : List Oper} (S : World → Prop) (n : Nat) (plan : List (Nat × Bool)) (hm : P.follows .mixedOrders = true) (hB : Region.mixB .any l.toArray n plan = true)
   (hS : S w.drew)
   (h : wpPlan P l.toArray S noQ (fun a' w' => wpList P l.toArray Q (l.drop n) a' w') plan a w.drew) : (Code.region id l.toArray true).wp P Q a w := by
 simp only [Region.mixB, Bool.and_eq_true, decide_eq_true_eq] at hB
 obtain ⟨⟨⟨⟨⟨hsel, hn⟩, hs⟩, hc⟩, hpl⟩, hplan⟩ := hB
 have hn' : n < l.length := by simpa using hn
 have hdl : (l.drop n).length = l.toArray.size - n := by simp
 have inv0 : HeadInv .any l.toArray n (Array.replicate l.toArray.size false) :=
   ⟨by simp, fun j oj _ hl => (by rw [getD_replicate_false] at hl; cases hl), fun t _ ht => getD_in (by simpa using ht) (getD_replicate_false _ _)⟩
 have H := wpAnyH_plan (md := .any) (Q := noQ) (g := l.toArray.size - n) hsel hs hc hn (fun _ _ _ _ h => h) plan _ a w.drew inv0 hplan hS h
 refine wp_region_any hm ?_
 have := wpAny_of_headH (Q := Q) (g := l.toArray.size - n) (fun listed a' w' hL => by
   have := wpAny_of_seq (md := .any) (Q' := Q) (l.drop n) n listed a' w' (fun j => by simp [List.getElem?_drop]) (by rw [hdl]; exact hL.1) hL.2
   rwa [hdl] at this) _ _ _ _ H
 rw [hpl, show n + (l.toArray.size - n) = l.toArray.size by omega] at this
 exact this
theorem wpPlan_nil {K : Act → World → Prop} {a : Act} {w : World} (h : K a w) : wpPlan P ops S Q K [] a w := h
theorem wpPlan_still {K : Act → World → Prop} {a : Act} {w : World} {k : Nat} {r : List (Nat × Bool)} {o : Oper} {v : Value} (ho : ops[k]? = some o) (hg : o.guard = none) (hv : ∀ w, S w → (execOp a.eval o).run P w = .ok (.value v) w)
   (h : ∀ K' : Act → World → Prop, (∀ a w, wpPlan P ops S Q K r a w → K' a w) → K' (a.put o.dst v) w) : wpPlan P ops S Q K ((k, true) :: r) a w :=
 ⟨o, v, ho, .inl ⟨wanted_none hg, hv⟩, h _ fun _ _ h => h⟩
theorem wpPlan_act {K : Act → World → Prop} {a : Act} {w : World} {k : Nat} {r : List (Nat × Bool)} {o : Oper} (ho : ops[k]? = some o) (hg : o.guard = none)
   (h : ∀ K' : Act → World → Prop, (∀ a w, S w → wpPlan P ops S Q K r a w → K' a w) → o.wp P a w K' Q) : wpPlan P ops S Q K ((k, false) :: r) a w := by
 show wpOp P ops Q k _ a w
 unfold wpOp
 simp only [ho, wanted_none hg, if_true]
 exact .inl (h _ fun a w hs hp => ⟨hs, hp⟩)
end
end Go.Pal
namespace Go.Pal
open Go Go.RowKit
inductive PlanT where
 | done : PlanT
 | read : Nat → PlanT → PlanT
 | act : Nat → PlanT → PlanT
 | fork : Nat → Nat → PlanT → PlanT → PlanT
 | fork3 : Nat → Nat → Nat → PlanT → PlanT → PlanT → PlanT
namespace PlanT
def reads : List Nat → PlanT → PlanT
 | [], p => p
 | k :: l, p => read k (reads l p)
def lenB : PlanT → Nat → Bool
 | done, n => n == 0
 | read _ r, n => decide (0 < n) && lenB r (n - 1)
 | act _ r, n => decide (0 < n) && lenB r (n - 1)
 | fork _ _ r s, n => decide (0 < n) && lenB r (n - 1) && lenB s (n - 1)
 | fork3 _ _ _ r s t, n => decide (0 < n) && lenB r (n - 1) && lenB s (n - 1) && lenB t (n - 1)
end PlanT
section
variable {P : Program} {ops : Array Oper} {md : Region.Mode} {S : World → Prop} {Q : Exit → Act → World → Prop}
def Region.planTB (md : Region.Mode) (ops : Array Oper) (n g : Nat) : PlanT → Array Bool → Bool
 | .done, listed => Region.seqB md ops g n listed
 | .read k r, listed => (Region.ready md ops listed).contains k && decide (k < n) && Region.free md ops listed k && Region.planTB md ops n g r (listed.setIfInBounds k true)
 | .act k r, listed => decide (Region.ready md ops listed = [k]) && decide (k < n) && Region.planTB md ops n g r (listed.setIfInBounds k true)
 | .fork k j r s, listed => decide (Region.ready md ops listed = [k, j]) && decide (k < n) && decide (j < n) && Region.planTB md ops n g r (listed.setIfInBounds k true) && Region.planTB md ops n g s (listed.setIfInBounds j true)
 | .fork3 k j i r s t, listed => decide (Region.ready md ops listed = [k, j, i]) && decide (k < n) && decide (j < n) && decide (i < n) && Region.planTB md ops n g r (listed.setIfInBounds k true) && Region.planTB md ops n g s (listed.setIfInBounds j true) && Region.planTB md ops n g t (listed.setIfInBounds i true)
def Region.mixTB (md : Region.Mode) (ops : Array Oper) (n : Nat) (plan : PlanT) : Bool :=
 Region.noSelect ops && decide (n < ops.size) && Region.sinkB md ops n && Region.chainB md ops n && plan.lenB n && Region.planTB md ops n (ops.size - n) plan (Array.replicate ops.size false)
def wpPlanT (P : Program) (ops : Array Oper) (S : World → Prop) (Q : Exit → Act → World → Prop) (K : Act → World → Prop) : PlanT → Act → World → Prop
 | .done, a, w => K a w
 | .read k r, a, w => ∃ o v, ops[k]? = some o ∧ HeldY P ops S o v a ∧ wpPlanT P ops S Q K r (a.put o.dst v) w
 | .act k r, a, w => wpOp P ops Q k (fun a' w' => S w' ∧ wpPlanT P ops S Q K r a' w') a w
 | .fork k j r s, a, w => wpOp P ops Q k (fun a' w' => S w' ∧ wpPlanT P ops S Q K r a' w') a w ∧ wpOp P ops Q j (fun a' w' => S w' ∧ wpPlanT P ops S Q K s a' w') a w
 | .fork3 k j i r s t, a, w => wpOp P ops Q k (fun a' w' => S w' ∧ wpPlanT P ops S Q K r a' w') a w ∧ wpOp P ops Q j (fun a' w' => S w' ∧ wpPlanT P ops S Q K s a' w') a w ∧ wpOp P ops Q i (fun a' w' => S w' ∧ wpPlanT P ops S Q K t a' w') a w
theorem wpAnyH_planT {n g : Nat} {K : Act → World → Prop} (hsel : Region.noSelect ops = true) (hs : Region.sinkB md ops n = true) (hc : Region.chainB md ops n = true) (hn : n < ops.size) (hQ : ∀ c a a' w, Q (.panic c) a w → Q (.panic c) a' w) :
   ∀ (plan : PlanT) (m : Nat) (listed : Array Bool) (a : Act) (w : World), plan.lenB m = true → HeadInv md ops n listed → Region.planTB md ops n g plan listed = true → S w → wpPlanT P ops S Q K plan a w →
   wpAnyH P md ops S Q n (fun listed' a' w' => Region.seqB md ops g n listed' = true ∧ K a' w') m listed a w
 | .done, m, listed, a, w, hl, _, hB, hS, h => by
   simp only [PlanT.lenB, beq_iff_eq] at hl
   subst hl
   exact ⟨hS, hB, h⟩
 | .read k r, m, listed, a, w, hl, inv, hB, hS, h => by
   obtain ⟨o, v, ho, hy, h⟩ := h
   simp only [PlanT.lenB, Bool.and_eq_true, decide_eq_true_eq] at hl
   obtain ⟨hm, hl⟩ := hl
   simp only [Region.planTB, Bool.and_eq_true, decide_eq_true_eq] at hB
   obtain ⟨⟨⟨hr, hk⟩, hf⟩, hB'⟩ := hB
   have hr' : k ∈ Region.ready md ops listed := by simpa using hr
   rw [show m = (m - 1) + 1 by omega]
   exact wpAnyH_first ho (Region.noSelect_spec hsel) (fun c a w => hQ c _ _ w) hs hc hn hk (fun listed' a' w' hL => seqB_ready hL.1) (m - 1) listed a w inv (Region.free_spec ho hf) hr' hy hS
     (wpAnyH_planT hsel hs hc hn hQ r _ _ _ w hl (inv.set hr' hk) hB' hS h)
 | .act k r, m, listed, a, w, hl, inv, hB, hS, h => by
   simp only [PlanT.lenB, Bool.and_eq_true, decide_eq_true_eq] at hl
   obtain ⟨hm, hl⟩ := hl
   simp only [Region.planTB, Bool.and_eq_true, decide_eq_true_eq] at hB
   obtain ⟨⟨hr, hk⟩, hB'⟩ := hB
   rw [show m = (m - 1) + 1 by omega]
   refine ⟨hS, by rw [hr]; simp, fun j hj => ?_⟩
   have hjk : j = k := by rw [hr] at hj; simpa using hj
   subst hjk
   exact ⟨hk, wpOp_mono (fun a' w' h' => wpAnyH_planT hsel hs hc hn hQ r _ _ a' w' hl (inv.set hj hk) hB' h'.1 h'.2) h⟩
 | .fork k j r s, m, listed, a, w, hl, inv, hB, hS, h => by
   simp only [PlanT.lenB, Bool.and_eq_true, decide_eq_true_eq] at hl
   obtain ⟨⟨hm, hl⟩, hl2⟩ := hl
   simp only [Region.planTB, Bool.and_eq_true, decide_eq_true_eq] at hB
   obtain ⟨⟨⟨⟨hr, hk⟩, hj⟩, hB'⟩, hB2⟩ := hB
   rw [show m = (m - 1) + 1 by omega]
   refine ⟨hS, by rw [hr]; simp, fun i hi => ?_⟩
   have hjk : i = k ∨ i = j := by rw [hr] at hi; simpa using hi
   rcases hjk with rfl | rfl
   · exact ⟨hk, wpOp_mono (fun a' w' h' => wpAnyH_planT hsel hs hc hn hQ r _ _ a' w' hl (inv.set hi hk) hB' h'.1 h'.2) h.1⟩
   · exact ⟨hj, wpOp_mono (fun a' w' h' => wpAnyH_planT hsel hs hc hn hQ s _ _ a' w' hl2 (inv.set hi hj) hB2 h'.1 h'.2) h.2⟩
 | .fork3 k j i r s t, m, listed, a, w, hl, inv, hB, hS, h => by
   simp only [PlanT.lenB, Bool.and_eq_true, decide_eq_true_eq] at hl
   obtain ⟨⟨⟨hm, hl⟩, hl2⟩, hl3⟩ := hl
   simp only [Region.planTB, Bool.and_eq_true, decide_eq_true_eq] at hB
   obtain ⟨⟨⟨⟨⟨⟨hr, hk⟩, hj⟩, hi⟩, hB'⟩, hB2⟩, hB3⟩ := hB
   rw [show m = (m - 1) + 1 by omega]
   refine ⟨hS, by rw [hr]; simp, fun c hc' => ?_⟩
   have hjk : c = k ∨ c = j ∨ c = i := by rw [hr] at hc'; simpa using hc'
   rcases hjk with rfl | rfl | rfl
   · exact ⟨hk, wpOp_mono (fun a' w' h' => wpAnyH_planT hsel hs hc hn hQ r _ _ a' w' hl (inv.set hc' hk) hB' h'.1 h'.2) h.1⟩
   · exact ⟨hj, wpOp_mono (fun a' w' h' => wpAnyH_planT hsel hs hc hn hQ s _ _ a' w' hl2 (inv.set hc' hj) hB2 h'.1 h'.2) h.2.1⟩
   · exact ⟨hi, wpOp_mono (fun a' w' h' => wpAnyH_planT hsel hs hc hn hQ t _ _ a' w' hl3 (inv.set hc' hi) hB3 h'.1 h'.2) h.2.2⟩
theorem wp_region_mixT {id : Nat} {Q : Exit → Act → World → Prop} {a : Act} {w : World} {l : List Oper} (S : World → Prop) (n : Nat) (plan : PlanT) (hm : P.follows .mixedOrders = true) (hB : Region.mixTB .any l.toArray n plan = true)
   (hS : S w.drew)
   (h : wpPlanT P l.toArray S noQ (fun a' w' => wpList P l.toArray Q (l.drop n) a' w') plan a w.drew) : (Code.region id l.toArray true).wp P Q a w := by
 simp only [Region.mixTB, Bool.and_eq_true, decide_eq_true_eq] at hB
 obtain ⟨⟨⟨⟨⟨hsel, hn⟩, hs⟩, hc⟩, hpl⟩, hplan⟩ := hB
 have hn' : n < l.length := by simpa using hn
 have hdl : (l.drop n).length = l.toArray.size - n := by simp
 have inv0 : HeadInv .any l.toArray n (Array.replicate l.toArray.size false) :=
   ⟨by simp, fun j oj _ hl => (by rw [getD_replicate_false] at hl; cases hl), fun t _ ht => getD_in (by simpa using ht) (getD_replicate_false _ _)⟩
 have H := wpAnyH_planT (md := .any) (Q := noQ) (g := l.toArray.size - n) hsel hs hc hn (fun _ _ _ _ h => h) plan n _ a w.drew hpl inv0 hplan hS h
 refine wp_region_any hm ?_
 have := wpAny_of_headH (Q := Q) (g := l.toArray.size - n) (fun listed a' w' hL => by
   have := wpAny_of_seq (md := .any) (Q' := Q) (l.drop n) n listed a' w' (fun j => by simp [List.getElem?_drop]) (by rw [hdl]; exact hL.1) hL.2
   rwa [hdl] at this) _ _ _ _ H
 rw [show n + (l.toArray.size - n) = l.toArray.size by omega] at this
 exact this
theorem wpPlanT_done {K : Act → World → Prop} {a : Act} {w : World} (h : K a w) : wpPlanT P ops S Q K .done a w := h
theorem wpPlanT_still {K : Act → World → Prop} {a : Act} {w : World} {k : Nat} {r : PlanT} {o : Oper} {v : Value} (ho : ops[k]? = some o) (hg : o.guard = none) (hv : ∀ w, S w → (execOp a.eval o).run P w = .ok (.value v) w)
   (h : ∀ K' : Act → World → Prop, (∀ a w, wpPlanT P ops S Q K r a w → K' a w) → K' (a.put o.dst v) w) : wpPlanT P ops S Q K (.read k r) a w :=
 ⟨o, v, ho, .inl ⟨wanted_none hg, hv⟩, h _ fun _ _ h => h⟩
theorem wpPlanT_act {K : Act → World → Prop} {a : Act} {w : World} {k : Nat} {r : PlanT} {o : Oper} (ho : ops[k]? = some o) (hg : o.guard = none)
   (h : ∀ K' : Act → World → Prop, (∀ a w, S w → wpPlanT P ops S Q K r a w → K' a w) → o.wp P a w K' Q) : wpPlanT P ops S Q K (.act k r) a w := by
 show wpOp P ops Q k _ a w
 unfold wpOp
 simp only [ho, wanted_none hg, if_true]
 exact .inl (h _ fun a w hs hp => ⟨hs, hp⟩)
theorem wpPlanT_fork3 {K : Act → World → Prop} {a : Act} {w : World} {k j i : Nat} {r s t : PlanT} (h1 : wpPlanT P ops S Q K (.act k r) a w) (h2 : wpPlanT P ops S Q K (.act j s) a w) (h3 : wpPlanT P ops S Q K (.act i t) a w) : wpPlanT P ops S Q K (.fork3 k j i r s t) a w := ⟨h1, h2, h3⟩
theorem wpPlanT_fork {K : Act → World → Prop} {a : Act} {w : World} {k j : Nat} {r s : PlanT} (h1 : wpPlanT P ops S Q K (.act k r) a w) (h2 : wpPlanT P ops S Q K (.act j s) a w) : wpPlanT P ops S Q K (.fork k j r s) a w := ⟨h1, h2⟩
theorem wpPlanT_alloc {K : Act → World → Prop} {a : Act} {w : World} {k : Nat} {r : PlanT} {o : Oper} (z : Array Value) (ty : TypeId) (ho : ops[k]? = some o) (hg : o.guard = none)
   (hv : ∀ w, (execOp a.eval o).run P w = .ok (.value (.pointer (some ⟨w.heap.size, 0, none⟩))) (w.alloc (.cells z ty)))
   (h : ∀ p w', row? w' p = some z → w.heap.size ≤ p → p < w'.heap.size → Below w.heap.size w w' → S w' ∧ ∀ K' : Act → World → Prop, (∀ a w, wpPlanT P ops S Q K r a w → K' a w) → K' (a.put o.dst (.pointer (some ⟨p, 0, none⟩))) w') : wpPlanT P ops S Q K (.act k r) a w := by
 obtain ⟨h1, h2⟩ := h w.heap.size (w.alloc (.cells z ty)) (row?_alloc_at _ _ _ _ rfl) (Nat.le_refl _) (by simp) ((Below.refl _ w).alloc (Nat.le_refl _) _)
 show wpOp P ops Q k _ a w
 unfold wpOp
 simp only [ho, wanted_none hg, if_true]
 refine .inl ?_
 unfold Oper.wp
 rw [hv w]
 exact ⟨h1, h2 _ fun _ _ h => h⟩
theorem wp_region_cut2 {id : Nat} {Q : Exit → Act → World → Prop} {a : Act} {w : World} {l : List Oper} (S : World → Prop) (n : Nat) (plan : PlanT) (F : Nat → Nat → World → Prop) (hm : P.follows .mixedOrders = true) (hB : Region.mixTB .any l.toArray n plan = true)
   (hS : S w.drew)
   (h : ∃ fin : Nat → Nat → Act, wpPlanT P l.toArray S noQ (fun a' w' => wpList P l.toArray (fun x a'' w'' => x = .normal ∧ ∃ p q, a'' = fin p q ∧ F p q w'') (l.drop n) a' w') plan a w.drew ∧ ∀ p q w', F p q w' → Q .normal (fin p q) w') : (Code.region id l.toArray true).wp P Q a w := by
 obtain ⟨fin, h1, h2⟩ := h
 have := wp_region_mixT (id := id) S n plan hm hB hS h1
 refine Code.wp_mono (fun x a' w' hx => ?_) this
 obtain ⟨rfl, p, q, rfl, hF⟩ := hx
 exact h2 p q w' hF
end
end Go.Pal
