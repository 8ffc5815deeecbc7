/-
  A region whose order is drawn: if each of its operations, in whatever world of a set S, yields one and the same value and stays in S, then one walk in the order of the text is enough. Own text; the proof follows the kit's theorem on regions that leave the world alone.
  A region whose order is drawn and that holds operations which change the world, in one forced order among themselves, beside operations that only read: if each of the latter yields one fixed value in every world of a set S that the former keep, one plan of the operations is enough. Own text.
-/
import Derived.StillTail
import Derived.WalkKit
namespace Go.Pal
open Go
section
variable {P : Program} {ops : Array Oper} {md : Region.Mode} {S : World → Prop}

/-- In every world of S the run yields the value v, or enters a call that returns v, and the world behind lies in S. -/
def FreeV (P : Program) (S : World → Prop) (e : Sem Next) (v : Value) : Prop :=
  ∀ w, S w → match e.run P w with
    | .ok (.value u) w' => u = v ∧ S w'
    | .ok .skip w' => v = undef ∧ S w'
    | .ok (.enter f args) w' => Calls P f args w' (fun e w'' => e = .returned v ∧ S w'')
    | _ => False

def FreeY (P : Program) (ops : Array Oper) (S : World → Prop) (o : Oper) (v : Value) (a : Act) : Prop :=
  (Region.wanted o (yielded ops a.tmps) = true ∧ FreeV P S (execOp a.eval o) v) ∨
  (Region.wanted o (yielded ops a.tmps) = false ∧ v = undef)

def frOp (P : Program) (ops : Array Oper) (S : World → Prop) (i : Nat) (K : Act → Prop) (a : Act) : Prop :=
  match ops[i]? with
  | none => K a
  | some o => ∃ v, FreeY P ops S o v a ∧ K (a.put o.dst v)

def wpFree (P : Program) (ops : Array Oper) (S : World → Prop) (Q : Act → Prop) : List Oper → Act → Prop
  | [], a => Q a
  | o :: rest, a => ∃ v, FreeY P ops S o v a ∧ wpFree P ops S Q rest (a.put o.dst v)

theorem FreeY.of_same {o : Oper} {v : Value} {a a' : Act} (hy : FreeY P ops S o v a) (he : execOp a'.eval o = execOp a.eval o)
    (hw : Region.wanted o (yielded ops a'.tmps) = Region.wanted o (yielded ops a.tmps)) : FreeY P ops S o v a' := by
  unfold FreeY at *
  rw [he, hw]
  exact hy

theorem frOp_mono {i : Nat} {a : Act} {K K' : Act → Prop} (h : ∀ a, K a → K' a) (hh : frOp P ops S i K a) : frOp P ops S i K' a := by
  unfold frOp at *
  cases ho : ops[i]? with
  | none => simp only [ho] at hh ⊢; exact h _ hh
  | some o => simp only [ho] at hh ⊢; obtain ⟨v, hy, hk⟩ := hh; exact ⟨v, hy, h _ hk⟩

theorem FreeY.frOp {i : Nat} {o : Oper} {v : Value} {a : Act} (hi : ops[i]? = some o) (hy : FreeY P ops S o v a) {K : Act → Prop} (h : K (a.put o.dst v)) : frOp P ops S i K a := by
  unfold Go.Pal.frOp
  simp only [hi]
  exact ⟨v, hy, h⟩

theorem frOp_put {j : Nat} {oi oj : Oper} {v : Value} (hj : ops[j]? = some oj) (hap : oi.apart ops oj = true)
    (hsi : ∀ cs b, oi.op ≠ .select cs b) (hsj : ∀ cs b, oj.op ≠ .select cs b) {K : Act → Prop} {a : Act}
    (hy : FreeY P ops S oi v a) (h : frOp P ops S j K (a.put oi.dst v)) :
    frOp P ops S j (fun a' => FreeY P ops S oi v a' ∧ K (a'.put oi.dst v)) a := by
  obtain ⟨h1, h2, h3⟩ := Oper.apart_spec hap
  have keep : ∀ (a : Act), FreeY P ops S oi v a → ∀ u, FreeY P ops S oi v (a.put oj.dst u) := fun a hy u =>
    hy.of_same (execOp_put oi hsi a oj.dst u h3) (wanted_put oi a oj.dst u h3)
  unfold frOp at *
  simp only [hj] at *
  obtain ⟨u, hu, hk⟩ := h
  refine ⟨u, hu.of_same (execOp_put oj hsj a oi.dst v h1).symm (wanted_put oj a oi.dst v h1).symm, keep a hy u, ?_⟩
  rw [← Act.put_comm a v u h2]
  exact hk

theorem wpOp_of_frOp {i : Nat} {a : Act} {w : World} {K : Act → Prop} {K' : Act → World → Prop} {Q' : Exit → Act → World → Prop} (hS : S w)
    (h : ∀ a w, S w → K a → K' a w) (hh : frOp P ops S i K a) : wpOp P ops Q' i K' a w := by
  unfold frOp at hh
  unfold wpOp
  cases ho : ops[i]? with
  | none => simp only [ho] at hh; exact h _ _ hS hh
  | some o =>
    simp only [ho] at hh
    obtain ⟨v, hy, hk⟩ := hh
    rcases hy with ⟨hw, hv⟩ | ⟨hw, rfl⟩
    · simp only [hw, if_true]
      refine .inl ?_
      have hv' := hv w hS
      unfold Oper.wp
      generalize (execOp a.eval o).run P w = r at *
      cases r with
      | halt x w' => exact hv'.elim
      | ok n w' =>
        cases n <;> simp only [Oper.upon] at hv' ⊢
        case value u => obtain ⟨rfl, hs⟩ := hv'; exact h _ _ hs hk
        case skip => obtain ⟨rfl, hs⟩ := hv'; exact h _ _ hs hk
        case enter f args => exact hv'.mono fun e w'' ⟨he, hs⟩ => by subst he; exact h _ _ hs hk
    · simp only [hw, Bool.false_eq_true, if_false]; exact h _ _ hS hk

def wpAnyF (P : Program) (md : Region.Mode) (ops : Array Oper) (S : World → Prop) (n : Nat) (L : Array Bool → Act → Prop) : Nat → Array Bool → Act → Prop
  | 0, listed, a => L listed a
  | f + 1, listed, a =>
    Region.ready md ops listed ≠ [] ∧ ∀ i ∈ Region.ready md ops listed, i < n ∧ frOp P ops S i (wpAnyF P md ops S n L f (listed.setIfInBounds i true)) a

theorem wpAny_of_headF {n g : Nat} {L : Array Bool → Act → Prop} {Q' : Exit → Act → World → Prop} (hL : ∀ listed a w, S w → L listed a → wpAny P md ops Q' g listed a w) :
    ∀ (f : Nat) (listed : Array Bool) (a : Act) (w : World), S w → wpAnyF P md ops S n L f listed a → wpAny P md ops Q' (f + g) listed a w
  | 0, listed, a, w, hS, h => by rw [Nat.zero_add]; exact hL _ _ _ hS h
  | f + 1, listed, a, w, hS, h => by
    rw [show f + 1 + g = (f + g) + 1 by omega]
    exact ⟨fun h0 => absurd h0 h.1, fun i hi => wpOp_of_frOp hS (fun a' w' hs h' => wpAny_of_headF hL f _ a' w' hs h') (h.2 i hi).2⟩

theorem wpAnyF_first {n i : Nat} {oi : Oper} {v : Value} {L : Array Bool → Act → Prop} (hi : ops[i]? = some oi) (hsel : ∀ (j : Nat) (o : Oper) cs b, ops[j]? = some o → o.op ≠ .select cs b)
    (hs : Region.sinkB md ops n = true) (hc : Region.chainB md ops n = true) (hn : n < ops.size) (hin : i < n)
    (hdone : ∀ listed a, L listed a → ∀ j ∈ Region.ready md ops listed, n ≤ j) :
    ∀ (f : Nat) (listed : Array Bool) (a : Act), HeadInv md ops n listed →
      (∀ j oj, ops[j]? = some oj → j ≠ i → listed.getD j true = false → (∀ e ∈ oj.after, Region.binds md e = true → e.on ≠ i) → oi.apart ops oj = true) →
      i ∈ Region.ready md ops listed → FreeY P ops S oi v a →
      wpAnyF P md ops S n L f (listed.setIfInBounds i true) (a.put oi.dst v) → wpAnyF P md ops S n L (f + 1) listed a := by
  intro f
  induction f with
  | zero =>
    intro listed a inv _ hr hy H
    have hun := (mem_ready.1 hr).1
    refine ⟨fun h => (by rw [h] at hr; cases hr), fun j hj => ?_⟩
    have hjn : j < n := by
      rcases Nat.lt_or_ge j n with h | h
      · exact h
      · exact absurd hj (tail_waits hs hc hn inv _ i rfl hin hun j h)
    refine ⟨hjn, ?_⟩
    by_cases hji : j = i
    · subst hji; exact hy.frOp hi H
    · have := hdone _ _ H j (ready_mono hj hji)
      omega
  | succ f ih =>
    intro listed a inv hfree hr hy H
    have hun := (mem_ready.1 hr).1
    refine ⟨fun h => (by rw [h] at hr; cases hr), fun j hj => ?_⟩
    have hjn : j < n := by
      rcases Nat.lt_or_ge j n with h | h
      · exact h
      · exact absurd hj (tail_waits hs hc hn inv _ i rfl hin hun j h)
    refine ⟨hjn, ?_⟩
    by_cases hji : j = i
    · subst hji; exact hy.frOp hi H
    · have h1 := (H.2 j (ready_mono hj hji)).2
      obtain ⟨hjun, oj, hoj, hall⟩ := mem_ready.1 hj
      have hnot : ∀ e ∈ oj.after, Region.binds md e = true → e.on ≠ i := fun e he hb heq => by
        have h1 := hall e he hb
        rw [heq, getD_both hun] at h1
        cases h1
      have h2 := frOp_put hoj (hfree j oj hoj hji hjun hnot) (fun cs b => hsel i oi cs b hi) (fun cs b => hsel j oj cs b hoj) hy h1
      have hfree' : ∀ k ok, ops[k]? = some ok → k ≠ i → (listed.setIfInBounds j true).getD k true = false →
          (∀ e ∈ ok.after, Region.binds md e = true → e.on ≠ i) → oi.apart ops ok = true := fun k ok hk hki hun' hno => by
        refine hfree k ok hk hki ?_ hno
        by_cases hjk : j = k
        · subst hjk; exact hjun
        · rw [getD_set_ne true hjk] at hun'; exact hun'
      refine frOp_mono (fun a' h3 => ih (listed.setIfInBounds j true) a' (inv.set hj hjn) hfree' (ready_mono hr (Ne.symm hji)) h3.1 ?_) h2
      rw [Array.setIfInBounds_comm _ _ hji]
      exact h3.2

theorem wpAnyF_lex {n g : Nat} {Lq : Act → Prop} (hsel : Region.noSelect ops = true) (hs : Region.sinkB md ops n = true) (hc : Region.chainB md ops n = true) (hn : n < ops.size) :
    ∀ (l : List Oper) (k : Nat) (listed : Array Bool) (a : Act), (∀ j, j < l.length → l[j]? = ops[k + j]?) → k + l.length = n → HeadInv md ops n listed →
    Region.lexHead md ops g l.length k listed = true → wpFree P ops S Lq l a →
    wpAnyF P md ops S n (fun listed' a' => Region.seqB md ops g n listed' = true ∧ Lq a') l.length listed a
  | [], k, listed, a, _, hk, _, hB, h => by
    have : k = n := by simpa using hk
    subst this
    exact ⟨by simpa [Region.lexHead] using hB, h⟩
  | o :: l, k, listed, a, hl, hk, inv, hB, h => by
    have h0 : ops[k]? = some o := by simpa using (hl 0 (by simp)).symm
    simp only [List.length_cons, Region.lexHead, Bool.and_eq_true] at hB
    obtain ⟨⟨hr, hf⟩, hB'⟩ := hB
    have hkn : k < n := by simp only [List.length_cons] at hk; omega
    have hr' : k ∈ Region.ready md ops listed := by simpa using hr
    obtain ⟨v, hy, hK⟩ := h
    exact wpAnyF_first h0 (Region.noSelect_spec hsel) hs hc hn hkn (fun listed' a' hL => seqB_ready hL.1) l.length listed a inv (Region.free_spec h0 hf) hr' hy
      (wpAnyF_lex hsel hs hc hn l (k + 1) _ _ (fun j hj => by have := hl (j + 1) (by simp; omega); simpa [Nat.add_assoc, Nat.add_comm 1 j] using this) (by simp only [List.length_cons] at hk; omega) (inv.set hr' hkn) hB' hK)

/-- A REGION THAT DRAWS, WITH A TAIL IN ONE FORCED ORDER: its first n operations are free in S. -/
theorem wp_region_free_tail {id : Nat} {Q : Exit → Act → World → Prop} {a : Act} {w : World} {l : List Oper} (S : World → Prop) (n : Nat) (hm : P.follows .mixedOrders = true) (hB : Region.lexTailB .any l.toArray n = true)
    (hS : S w.drew)
    (h : wpFree P l.toArray S (fun a' => ∀ w', S w' → wpList P l.toArray Q (l.drop n) a' w') (l.take n) a) : (Code.region id l.toArray true).wp P Q a w := by
  simp only [Region.lexTailB, Bool.and_eq_true, decide_eq_true_eq] at hB
  obtain ⟨⟨⟨⟨hsel, hn⟩, hs⟩, hc⟩, hlex⟩ := hB
  have hn' : n < l.length := by simpa using hn
  have htl : (l.take n).length = n := by simp; omega
  have hdl : (l.drop n).length = l.toArray.size - n := by simp
  have inv0 : HeadInv .any l.toArray n (Array.replicate l.toArray.size false) :=
    ⟨by simp, fun j oj _ hl => (by rw [getD_replicate_false] at hl; cases hl), fun t _ ht => getD_in (by simpa using ht) (getD_replicate_false _ _)⟩
  have H := wpAnyF_lex (md := .any) (g := l.toArray.size - n) hsel hs hc hn (l.take n) 0 _ a (fun j hj => by
    have hj' : j < n := by rw [htl] at hj; exact hj
    simp [hj']) (by simpa using htl) inv0 (by rw [htl]; exact hlex) h
  refine wp_region_any hm ?_
  have := wpAny_of_headF (S := S) (Q' := Q) (g := l.toArray.size - n) (fun listed a' w' hS hL => by
    have := wpAny_of_seq (md := .any) (Q' := Q) (l.drop n) n listed a' w' (fun j => by simp [List.getElem?_drop]) (by rw [hdl]; exact hL.1) (hL.2 _ hS)
    rwa [hdl] at this) _ _ _ _ hS H
  rw [htl, show n + (l.toArray.size - n) = l.toArray.size by omega] at this
  exact this

def wpAnyN (P : Program) (md : Region.Mode) (ops : Array Oper) (S : World → Prop) (Q : Act → Prop) : Nat → Array Bool → Act → Prop
  | 0, listed, a => Region.ready md ops listed = [] ∧ Q a
  | fuel + 1, listed, a =>
    (Region.ready md ops listed = [] → Q a) ∧
    ∀ i ∈ Region.ready md ops listed, frOp P ops S i (wpAnyN P md ops S Q fuel (listed.setIfInBounds i true)) a

theorem wpAny_of_free {Q : Act → Prop} {Q' : Exit → Act → World → Prop} (hQ : ∀ a w, S w → Q a → Q' .normal a w) : ∀ (fuel : Nat) (listed : Array Bool) (a : Act) (w : World), S w →
    wpAnyN P md ops S Q fuel listed a → wpAny P md ops Q' fuel listed a w
  | 0, _, _, _, hS, h => ⟨h.1, hQ _ _ hS h.2⟩
  | fuel + 1, _, _, _, hS, h => ⟨fun h0 => hQ _ _ hS (h.1 h0), fun i hi => wpOp_of_frOp hS (fun a' w' hs h' => wpAny_of_free hQ fuel _ a' w' hs h') (h.2 i hi)⟩

theorem wpAnyN_first {Q : Act → Prop} {i : Nat} {oi : Oper} {v : Value} (hi : ops[i]? = some oi) (hsel : ∀ (j : Nat) (o : Oper) cs b, ops[j]? = some o → o.op ≠ .select cs b) :
    ∀ (fuel : Nat) (listed : Array Bool) (a : Act),
      (∀ j oj, ops[j]? = some oj → j ≠ i → listed.getD j true = false → (∀ e ∈ oj.after, Region.binds md e = true → e.on ≠ i) → oi.apart ops oj = true) →
      i ∈ Region.ready md ops listed → FreeY P ops S oi v a →
      wpAnyN P md ops S Q fuel (listed.setIfInBounds i true) (a.put oi.dst v) → wpAnyN P md ops S Q (fuel + 1) listed a := by
  intro fuel
  induction fuel with
  | zero =>
    intro listed a _ hr hy H
    refine ⟨fun h => (by rw [h] at hr; cases hr), fun j hj => ?_⟩
    by_cases hji : j = i
    · subst hji; exact hy.frOp hi H
    · have := ready_mono hj hji
      rw [H.1] at this
      cases this
  | succ fuel ih =>
    intro listed a hfree hr hy H
    refine ⟨fun h => (by rw [h] at hr; cases hr), fun j hj => ?_⟩
    by_cases hji : j = i
    · subst hji; exact hy.frOp hi H
    · have h1 := H.2 j (ready_mono hj hji)
      obtain ⟨hjun, oj, hoj, hall⟩ := mem_ready.1 hj
      have hun := (mem_ready.1 hr).1
      have hnot : ∀ e ∈ oj.after, Region.binds md e = true → e.on ≠ i := fun e he hb heq => by
        have h1 := hall e he hb
        rw [heq, getD_both hun] at h1
        cases h1
      have h2 := frOp_put hoj (hfree j oj hoj hji hjun hnot) (fun cs b => hsel i oi cs b hi) (fun cs b => hsel j oj cs b hoj) hy h1
      have hfree' : ∀ k ok, ops[k]? = some ok → k ≠ i → (listed.setIfInBounds j true).getD k true = false →
          (∀ e ∈ ok.after, Region.binds md e = true → e.on ≠ i) → oi.apart ops ok = true := fun k ok hk hki hun' hno => by
        refine hfree k ok hk hki ?_ hno
        by_cases hjk : j = k
        · subst hjk; exact hjun
        · rw [getD_set_ne true hjk] at hun'; exact hun'
      refine frOp_mono (fun a' h3 => ih (listed.setIfInBounds j true) a' hfree' (ready_mono hr (Ne.symm hji)) h3.1 ?_) h2
      rw [Array.setIfInBounds_comm _ _ hji]
      exact h3.2

theorem wpAnyN_lex {Q : Act → Prop} (hs : Region.noSelect ops = true) : ∀ (l : List Oper) (k : Nat) (listed : Array Bool) (a : Act), (∀ j, l[j]? = ops[k + j]?) →
    Region.lexFrom md ops l.length k listed = true → wpFree P ops S Q l a → wpAnyN P md ops S Q l.length listed a
  | [], _, _, _, _, hB, h => ⟨by simpa [Region.lexFrom] using hB, h⟩
  | o :: l, k, listed, a, hl, hB, h => by
    have h0 : ops[k]? = some o := by simpa using (hl 0).symm
    simp only [List.length_cons, Region.lexFrom, Bool.and_eq_true] at hB
    obtain ⟨⟨hr, hf⟩, hB'⟩ := hB
    obtain ⟨v, hy, hK⟩ := h
    exact wpAnyN_first h0 (Region.noSelect_spec hs) l.length listed a (Region.free_spec h0 hf) (by simpa using hr) hy
      (wpAnyN_lex hs l (k + 1) _ _ (fun j => by have := hl (j + 1); simpa [Nat.add_assoc, Nat.add_comm 1 j] using this) hB' hK)

/-- A REGION THAT DRAWS, ALL OF WHOSE OPERATIONS ARE FREE IN S. -/
theorem wp_region_free {id : Nat} {Q : Exit → Act → World → Prop} {a : Act} {w : World} {l : List Oper} (S : World → Prop) (hm : P.follows .mixedOrders = true) (hB : Region.lexB .any l.toArray = true)
    (hS : S w.drew)
    (h : wpFree P l.toArray S (fun a' => ∀ w', S w' → Q .normal a' w') l a) : (Code.region id l.toArray true).wp P Q a w := by
  simp only [Region.lexB, Bool.and_eq_true] at hB
  refine wp_region_any hm (wpAny_of_free (S := S) (Q := fun a' => ∀ w', S w' → Q .normal a' w') (fun a w hs h => h w hs) _ _ _ _ hS ?_)
  have := wpAnyN_lex (md := .any) (S := S) hB.1 l 0 (Array.replicate l.toArray.size false) a (by simp) (by simpa using hB.2) h
  simpa using this

theorem wpFree_nil {Q : Act → Prop} {a : Act} (h : Q a) : wpFree P ops S Q [] a := h
theorem wpFree_want {Q : Act → Prop} {a : Act} {o : Oper} {rest : List Oper} (v : Value) (hw : Region.wanted o (yielded ops a.tmps) = true) (hv : FreeV P S (execOp a.eval o) v)
    (h : ∀ K : Act → Prop, (∀ a, wpFree P ops S Q rest a → K a) → K (a.put o.dst v)) : wpFree P ops S Q (o :: rest) a :=
  ⟨v, .inl ⟨hw, hv⟩, h _ fun _ h => h⟩
theorem wpFree_skip {Q : Act → Prop} {a : Act} {o : Oper} {rest : List Oper} (hw : Region.wanted o (yielded ops a.tmps) = false)
    (h : ∀ K : Act → Prop, (∀ a, wpFree P ops S Q rest a → K a) → K (a.put o.dst undef)) : wpFree P ops S Q (o :: rest) a :=
  ⟨undef, .inr ⟨hw, rfl⟩, h _ fun _ h => h⟩

/-- One step of the text's order: the operation, run in a world of S of which no more is known, leaves the world alone and yields a value that does not name it. -/
theorem freeV_still {e : Sem Next} {v : Value} (h : ∀ w, S w → e.run P w = .ok (.value v) w) : FreeV P S e v := fun w hS => by rw [h w hS]; exact ⟨rfl, hS⟩
theorem freeV_skip {e : Sem Next} (h : ∀ w, S w → e.run P w = .ok .skip w) : FreeV P S e undef := fun w hS => by rw [h w hS]; exact ⟨rfl, hS⟩
theorem freeV_call {e : Sem Next} {v : Value} {f : FuncId} {args : Array Value} (h : ∀ w, S w → e.run P w = .ok (.enter f args) w) (hc : ∀ w, S w → Calls P f args w (fun e w' => e = .returned v ∧ S w')) : FreeV P S e v :=
  fun w hS => by rw [h w hS]; exact hc w hS

/-- The steps as a walk takes them: the run first (it finds the value), then the rest. -/
theorem wanted_none {o : Oper} {y : Nat → Option Bool} (h : o.guard = none) : Region.wanted o y = true := by simp [Region.wanted, h]
theorem wpFree_still {Q : Act → Prop} {a : Act} {o : Oper} {rest : List Oper} {v : Value} (hv : ∀ w, S w → (execOp a.eval o).run P w = .ok (.value v) w) (hg : o.guard = none)
    (h : ∀ K : Act → Prop, (∀ a, wpFree P ops S Q rest a → K a) → K (a.put o.dst v)) : wpFree P ops S Q (o :: rest) a := wpFree_want v (wanted_none hg) (freeV_still hv) h
theorem wpFree_stillS {Q : Act → Prop} {a : Act} {o : Oper} {rest : List Oper} (hv : ∀ w, S w → (execOp a.eval o).run P w = .ok .skip w) (hg : o.guard = none)
    (h : ∀ K : Act → Prop, (∀ a, wpFree P ops S Q rest a → K a) → K (a.put o.dst undef)) : wpFree P ops S Q (o :: rest) a := wpFree_want undef (wanted_none hg) (freeV_skip hv) h
theorem wpFree_call {Q : Act → Prop} {a : Act} {o : Oper} {rest : List Oper} {v : Value} {f : FuncId} {args : Array Value} (hv : ∀ w, S w → (execOp a.eval o).run P w = .ok (.enter f args) w) (hg : o.guard = none)
    (hc : ∀ w, S w → Calls P f args w (fun e w' => e = .returned v ∧ S w'))
    (h : ∀ K : Act → Prop, (∀ a, wpFree P ops S Q rest a → K a) → K (a.put o.dst v)) : wpFree P ops S Q (o :: rest) a := wpFree_want v (wanted_none hg) (freeV_call hv hc) h
theorem wpFree_stillG {Q : Act → Prop} {a : Act} {o : Oper} {rest : List Oper} {v : Value} (hw : Region.wanted o (yielded ops a.tmps) = true) (hv : ∀ w, S w → (execOp a.eval o).run P w = .ok (.value v) w)
    (h : ∀ K : Act → Prop, (∀ a, wpFree P ops S Q rest a → K a) → K (a.put o.dst v)) : wpFree P ops S Q (o :: rest) a := wpFree_want v hw (freeV_still hv) h
theorem wpFree_callG {Q : Act → Prop} {a : Act} {o : Oper} {rest : List Oper} {v : Value} {f : FuncId} {args : Array Value} (hw : Region.wanted o (yielded ops a.tmps) = true) (hv : ∀ w, S w → (execOp a.eval o).run P w = .ok (.enter f args) w)
    (hc : ∀ w, S w → Calls P f args w (fun e w' => e = .returned v ∧ S w'))
    (h : ∀ K : Act → Prop, (∀ a, wpFree P ops S Q rest a → K a) → K (a.put o.dst v)) : wpFree P ops S Q (o :: rest) a := wpFree_want v hw (freeV_call hv hc) h
end
end Go.Pal
namespace Go.Pal
open Go
section
variable {P : Program} {ops : Array Oper} {md : Region.Mode} {S : World → Prop} {Q : Exit → Act → World → Prop}

def HeldY (P : Program) (ops : Array Oper) (S : World → Prop) (o : Oper) (v : Value) (a : Act) : Prop :=
  (Region.wanted o (yielded ops a.tmps) = true ∧ ∀ w, S w → (execOp a.eval o).run P w = .ok (.value v) w) ∨
  (Region.wanted o (yielded ops a.tmps) = false ∧ v = undef)

theorem HeldY.of_same {o : Oper} {v : Value} {a a' : Act} (hy : HeldY P ops S o v a) (he : execOp a'.eval o = execOp a.eval o)
    (hw : Region.wanted o (yielded ops a'.tmps) = Region.wanted o (yielded ops a.tmps)) : HeldY P ops S o v a' := by
  unfold HeldY at *
  rw [he, hw]
  exact hy

theorem HeldY.wpOp {i : Nat} {o : Oper} {v : Value} {a : Act} (hi : ops[i]? = some o) (hy : HeldY P ops S o v a)
    {K : Act → World → Prop} {w : World} (hS : S w) (h : K (a.put o.dst v) w) : wpOp P ops Q i K a w := by
  unfold Go.wpOp
  simp only [hi]
  rcases hy with ⟨hw, hv⟩ | ⟨hw, rfl⟩
  · simp only [hw, if_true, Oper.wp, hv w hS, Oper.upon]; exact .inl h
  · simp only [hw, Bool.false_eq_true, if_false]; exact h

theorem heldOp_put {j : Nat} {oi oj : Oper} {v : Value} (hj : ops[j]? = some oj) (hap : oi.apart ops oj = true)
    (hsi : ∀ cs b, oi.op ≠ .select cs b) (hsj : ∀ cs b, oj.op ≠ .select cs b)
    (hQ : ∀ c a w, Q (.panic c) (a.put oi.dst v) w → Q (.panic c) a w) {K : Act → World → Prop} {a : Act} {w : World}
    (hy : HeldY P ops S oi v a) (h : wpOp P ops Q j K (a.put oi.dst v) w) :
    wpOp P ops Q j (fun a' w' => HeldY P ops S oi v a' ∧ K (a'.put oi.dst v) w') a w := by
  obtain ⟨h1, h2, h3⟩ := Oper.apart_spec hap
  have keep : ∀ (a : Act), HeldY P ops S oi v a → ∀ u, HeldY P ops S oi v (a.put oj.dst u) := fun a hy u =>
    hy.of_same (execOp_put oi hsi a oj.dst u h3) (wanted_put oi a oj.dst u h3)
  have keepD : ∀ d, HeldY P ops S oi v { a with defers := d :: a.defers } := fun d => hy.of_same rfl rfl
  unfold wpOp at *
  simp only [hj] at *
  rw [wanted_put oj a oi.dst v h1] at h
  split
  · rename_i hw
    simp only [hw, if_true] at h
    rcases h with h | ⟨hasks, hlets⟩
    case inr => exact .inr ⟨by unfold Oper.asks at *; rw [execOp_put oj hsj a oi.dst v h1] at hasks; exact hasks, hlets⟩
    refine .inl ?_
    unfold Oper.wp at *
    rw [execOp_put oj hsj a oi.dst v h1] at h
    generalize (execOp a.eval oj).run P w = r at *
    cases r with
    | ok n w' =>
      cases n <;> simp only [Oper.upon] at h ⊢
      case value u => exact ⟨keep a hy u, by rw [← Act.put_comm a v u h2]; exact h⟩
      case skip => exact ⟨keep a hy _, by rw [← Act.put_comm a v undef h2]; exact h⟩
      case defer d =>
        refine ⟨keep _ (keepD d) _, ?_⟩
        rw [← Act.put_comm _ v undef h2, ← Act.put_defers]
        exact h
      case enter f args =>
        refine Calls.mono h fun e w'' he => ?_
        cases e with
        | returned u => exact ⟨keep a hy u, by rw [← Act.put_comm a v u h2]; exact he⟩
        | panicked c => exact hQ _ _ _ he
        | outgrown => exact he
      case row row args => exact Rows.mono h fun u w'' he => ⟨keep a hy u, by rw [← Act.put_comm a v u h2]; exact he⟩
    | halt x w' =>
      cases x <;> simp only [Oper.upon] at h ⊢
      case panic u => exact hQ _ _ _ h
  · rename_i hw
    simp only [hw] at h
    exact ⟨keep a hy _, by rw [← Act.put_comm a v undef h2]; exact h⟩

/-- No way out but the plain one. -/
def noQ : Exit → Act → World → Prop := fun _ _ _ => False
theorem wpOp_noQ {i : Nat} {K : Act → World → Prop} {a : Act} {w : World} (h : wpOp P ops noQ i K a w) : wpOp P ops Q i K a w := by
  unfold wpOp at *
  cases ho : ops[i]? with
  | none => simp only [ho] at h ⊢; exact h
  | some o =>
    simp only [ho] at h ⊢
    split
    · rename_i hw
      simp only [hw, if_true] at h
      rcases h with h | ⟨_, a', w', h⟩
      · refine .inl ?_
        unfold Oper.wp at *
        generalize (execOp a.eval o).run P w = r at *
        cases r with
        | ok n w' =>
          cases n <;> simp only [Oper.upon] at h ⊢
          case enter f args =>
            refine Calls.mono h fun e w'' he => ?_
            cases e with
            | returned u => exact he
            | panicked c => exact he.elim
            | outgrown => obtain ⟨_, _, h⟩ := he; exact h.elim
          all_goals exact h
        | halt x w' =>
          cases x <;> simp only [Oper.upon] at h ⊢
          case panic u => exact h.elim
      · exact h.elim
    · rename_i hw
      simp only [hw] at h
      exact h

/-- Every schedule of the first n operations that the edges allow, S being kept throughout; then L. -/
def wpAnyH (P : Program) (md : Region.Mode) (ops : Array Oper) (S : World → Prop) (Q : Exit → Act → World → Prop) (n : Nat) (L : Array Bool → Act → World → Prop) : Nat → Array Bool → Act → World → Prop
  | 0, listed, a, w => S w ∧ L listed a w
  | f + 1, listed, a, w => S w ∧ Region.ready md ops listed ≠ [] ∧ ∀ i ∈ Region.ready md ops listed, i < n ∧ wpOp P ops Q i (wpAnyH P md ops S Q n L f (listed.setIfInBounds i true)) a w

theorem wpAnyH_S {n : Nat} {L : Array Bool → Act → World → Prop} : ∀ {f : Nat} {listed : Array Bool} {a : Act} {w : World}, wpAnyH P md ops S Q n L f listed a w → S w
  | 0, _, _, _, h => h.1
  | _ + 1, _, _, _, h => h.1

theorem wpAny_of_headH {n g : Nat} {L : Array Bool → Act → World → Prop} (hL : ∀ listed a w, L listed a w → wpAny P md ops Q g listed a w) :
    ∀ (f : Nat) (listed : Array Bool) (a : Act) (w : World), wpAnyH P md ops S noQ n L f listed a w → wpAny P md ops Q (f + g) listed a w
  | 0, listed, a, w, h => by rw [Nat.zero_add]; exact hL _ _ _ h.2
  | f + 1, listed, a, w, h => by
    rw [show f + 1 + g = (f + g) + 1 by omega]
    exact ⟨fun h0 => absurd h0 h.2.1, fun i hi => wpOp_noQ (wpOp_mono (fun a' w' h' => wpAny_of_headH hL f _ a' w' h') (h.2.2 i hi).2)⟩

theorem wpAnyH_first {n i : Nat} {oi : Oper} {v : Value} {L : Array Bool → Act → World → Prop} (hi : ops[i]? = some oi) (hsel : ∀ (j : Nat) (o : Oper) cs b, ops[j]? = some o → o.op ≠ .select cs b)
    (hQ : ∀ c a w, Q (.panic c) (a.put oi.dst v) w → Q (.panic c) a w)
    (hs : Region.sinkB md ops n = true) (hc : Region.chainB md ops n = true) (hn : n < ops.size) (hin : i < n)
    (hdone : ∀ listed a w, L listed a w → ∀ j ∈ Region.ready md ops listed, n ≤ j) :
    ∀ (f : Nat) (listed : Array Bool) (a : Act) (w : World), HeadInv md ops n listed →
      (∀ j oj, ops[j]? = some oj → j ≠ i → listed.getD j true = false → (∀ e ∈ oj.after, Region.binds md e = true → e.on ≠ i) → oi.apart ops oj = true) →
      i ∈ Region.ready md ops listed → HeldY P ops S oi v a → S w →
      wpAnyH P md ops S Q n L f (listed.setIfInBounds i true) (a.put oi.dst v) w → wpAnyH P md ops S Q n L (f + 1) listed a w := by
  intro f
  induction f with
  | zero =>
    intro listed a w inv _ hr hy hS H
    have hun := (mem_ready.1 hr).1
    refine ⟨hS, fun h => (by rw [h] at hr; cases hr), fun j hj => ?_⟩
    have hjn : j < n := by
      rcases Nat.lt_or_ge j n with h | h
      · exact h
      · exact absurd hj (tail_waits hs hc hn inv _ i rfl hin hun j h)
    refine ⟨hjn, ?_⟩
    by_cases hji : j = i
    · subst hji; exact hy.wpOp hi hS H
    · have := hdone _ _ _ H.2 j (ready_mono hj hji)
      omega
  | succ f ih =>
    intro listed a w inv hfree hr hy hS H
    have hun := (mem_ready.1 hr).1
    refine ⟨hS, fun h => (by rw [h] at hr; cases hr), fun j hj => ?_⟩
    have hjn : j < n := by
      rcases Nat.lt_or_ge j n with h | h
      · exact h
      · exact absurd hj (tail_waits hs hc hn inv _ i rfl hin hun j h)
    refine ⟨hjn, ?_⟩
    by_cases hji : j = i
    · subst hji; exact hy.wpOp hi hS H
    · have h1 := (H.2.2 j (ready_mono hj hji)).2
      obtain ⟨hjun, oj, hoj, hall⟩ := mem_ready.1 hj
      have hnot : ∀ e ∈ oj.after, Region.binds md e = true → e.on ≠ i := fun e he hb heq => by
        have h1 := hall e he hb
        rw [heq, getD_both hun] at h1
        cases h1
      have h2 := heldOp_put hoj (hfree j oj hoj hji hjun hnot) (fun cs b => hsel i oi cs b hi) (fun cs b => hsel j oj cs b hoj) hQ hy h1
      have hfree' : ∀ k ok, ops[k]? = some ok → k ≠ i → (listed.setIfInBounds j true).getD k true = false →
          (∀ e ∈ ok.after, Region.binds md e = true → e.on ≠ i) → oi.apart ops ok = true := fun k ok hk hki hun' hno => by
        refine hfree k ok hk hki ?_ hno
        by_cases hjk : j = k
        · subst hjk; exact hjun
        · rw [getD_set_ne true hjk] at hun'; exact hun'
      refine wpOp_mono (fun a' w' h3 => ?_) h2
      obtain ⟨hy3, h3⟩ := h3
      rw [Array.setIfInBounds_comm _ _ (Ne.symm hji)] at h3
      exact ih (listed.setIfInBounds j true) a' w' (inv.set hj hjn) hfree' (ready_mono hr (Ne.symm hji)) hy3 (wpAnyH_S h3) h3

/-- The plan: the operations in the order in which the proof takes them; 'true': one that only reads. -/
def Region.planB (md : Region.Mode) (ops : Array Oper) (n g : Nat) : List (Nat × Bool) → Array Bool → Bool
  | [], listed => Region.seqB md ops g n listed
  | (k, true) :: r, listed => (Region.ready md ops listed).contains k && decide (k < n) && Region.free md ops listed k && Region.planB md ops n g r (listed.setIfInBounds k true)
  | (k, false) :: r, listed => decide (Region.ready md ops listed = [k]) && decide (k < n) && Region.planB md ops n g r (listed.setIfInBounds k true)
def Region.mixB (md : Region.Mode) (ops : Array Oper) (n : Nat) (plan : List (Nat × Bool)) : Bool :=
  Region.noSelect ops && decide (n < ops.size) && Region.sinkB md ops n && Region.chainB md ops n && decide (plan.length = n) && Region.planB md ops n (ops.size - n) plan (Array.replicate ops.size false)

def wpPlan (P : Program) (ops : Array Oper) (S : World → Prop) (Q : Exit → Act → World → Prop) (K : Act → World → Prop) : List (Nat × Bool) → Act → World → Prop
  | [], a, w => K a w
  | (k, true) :: r, a, w => ∃ o v, ops[k]? = some o ∧ HeldY P ops S o v a ∧ wpPlan P ops S Q K r (a.put o.dst v) w
  | (k, false) :: r, a, w => wpOp P ops Q k (fun a' w' => S w' ∧ wpPlan P ops S Q K r a' w') a w

theorem wpAnyH_plan {n g : Nat} {K : Act → World → Prop} (hsel : Region.noSelect ops = true) (hs : Region.sinkB md ops n = true) (hc : Region.chainB md ops n = true) (hn : n < ops.size) (hQ : ∀ c a a' w, Q (.panic c) a w → Q (.panic c) a' w) :
    ∀ (plan : List (Nat × Bool)) (listed : Array Bool) (a : Act) (w : World), HeadInv md ops n listed → Region.planB md ops n g plan listed = true → S w → wpPlan P ops S Q K plan a w →
    wpAnyH P md ops S Q n (fun listed' a' w' => Region.seqB md ops g n listed' = true ∧ K a' w') plan.length listed a w
  | [], listed, a, w, _, hB, hS, h => ⟨hS, hB, h⟩
  | (k, true) :: r, listed, a, w, inv, hB, hS, h => by
    obtain ⟨o, v, ho, hy, h⟩ := h
    simp only [Region.planB, Bool.and_eq_true, decide_eq_true_eq] at hB
    obtain ⟨⟨⟨hr, hk⟩, hf⟩, hB'⟩ := hB
    have hr' : k ∈ Region.ready md ops listed := by simpa using hr
    exact wpAnyH_first ho (Region.noSelect_spec hsel) (fun c a w => hQ c _ _ w) hs hc hn hk (fun listed' a' w' hL => seqB_ready hL.1) r.length listed a w inv (Region.free_spec ho hf) hr' hy hS
      (wpAnyH_plan hsel hs hc hn hQ r _ _ w (inv.set hr' hk) hB' hS h)
  | (k, false) :: r, listed, a, w, inv, hB, hS, h => by
    simp only [Region.planB, Bool.and_eq_true, decide_eq_true_eq] at hB
    obtain ⟨⟨hr, hk⟩, hB'⟩ := hB
    refine ⟨hS, by rw [hr]; simp, fun j hj => ?_⟩
    have hjk : j = k := by rw [hr] at hj; simpa using hj
    subst hjk
    exact ⟨hk, wpOp_mono (fun a' w' h' => wpAnyH_plan hsel hs hc hn hQ r _ a' w' (inv.set hj hk) hB' h'.1 h'.2) h⟩

/-- A REGION THAT DRAWS: reads in any order, changes of the world in one forced order, a tail in one forced order. -/
theorem wp_region_mix {id : Nat} {Q : Exit → Act → World → Prop} {a : Act} {w : World} {l : List Oper} (S : World → Prop) (n : Nat) (plan : List (Nat × Bool)) (hm : P.follows .mixedOrders = true) (hB : Region.mixB .any l.toArray n plan = true)
    (hS : S w.drew)
    (h : wpPlan P l.toArray S noQ (fun a' w' => wpList P l.toArray Q (l.drop n) a' w') plan a w.drew) : (Code.region id l.toArray true).wp P Q a w := by
  simp only [Region.mixB, Bool.and_eq_true, decide_eq_true_eq] at hB
  obtain ⟨⟨⟨⟨⟨hsel, hn⟩, hs⟩, hc⟩, hpl⟩, hplan⟩ := hB
  have hn' : n < l.length := by simpa using hn
  have hdl : (l.drop n).length = l.toArray.size - n := by simp
  have inv0 : HeadInv .any l.toArray n (Array.replicate l.toArray.size false) :=
    ⟨by simp, fun j oj _ hl => (by rw [getD_replicate_false] at hl; cases hl), fun t _ ht => getD_in (by simpa using ht) (getD_replicate_false _ _)⟩
  have H := wpAnyH_plan (md := .any) (Q := noQ) (g := l.toArray.size - n) hsel hs hc hn (fun _ _ _ _ h => h) plan _ a w.drew inv0 hplan hS h
  refine wp_region_any hm ?_
  have := wpAny_of_headH (Q := Q) (g := l.toArray.size - n) (fun listed a' w' hL => by
    have := wpAny_of_seq (md := .any) (Q' := Q) (l.drop n) n listed a' w' (fun j => by simp [List.getElem?_drop]) (by rw [hdl]; exact hL.1) hL.2
    rwa [hdl] at this) _ _ _ _ H
  rw [hpl, show n + (l.toArray.size - n) = l.toArray.size by omega] at this
  exact this

theorem wpPlan_nil {K : Act → World → Prop} {a : Act} {w : World} (h : K a w) : wpPlan P ops S Q K [] a w := h
theorem wpPlan_still {K : Act → World → Prop} {a : Act} {w : World} {k : Nat} {r : List (Nat × Bool)} {o : Oper} {v : Value} (ho : ops[k]? = some o) (hg : o.guard = none) (hv : ∀ w, S w → (execOp a.eval o).run P w = .ok (.value v) w)
    (h : ∀ K' : Act → World → Prop, (∀ a w, wpPlan P ops S Q K r a w → K' a w) → K' (a.put o.dst v) w) : wpPlan P ops S Q K ((k, true) :: r) a w :=
  ⟨o, v, ho, .inl ⟨wanted_none hg, hv⟩, h _ fun _ _ h => h⟩
theorem wpPlan_act {K : Act → World → Prop} {a : Act} {w : World} {k : Nat} {r : List (Nat × Bool)} {o : Oper} (ho : ops[k]? = some o) (hg : o.guard = none)
    (h : ∀ K' : Act → World → Prop, (∀ a w, S w → wpPlan P ops S Q K r a w → K' a w) → o.wp P a w K' Q) : wpPlan P ops S Q K ((k, false) :: r) a w := by
  show wpOp P ops Q k _ a w
  unfold wpOp
  simp only [ho, wanted_none hg, if_true]
  exact .inl (h _ fun a w hs hp => ⟨hs, hp⟩)
end
end Go.Pal
