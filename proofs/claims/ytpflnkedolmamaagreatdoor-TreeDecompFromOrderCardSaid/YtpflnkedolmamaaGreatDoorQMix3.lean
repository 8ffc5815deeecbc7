/-
  A region whose order is drawn: a plan for the first operations, as the text on plans has it, then every order of the last ones (which may be ready side by side: results kept and stored). Own text.
-/
import Derived.Test.YtpflnkedolmamaaGreatDoorQRule
namespace Go.Pal
open Go
section
variable {P : Program} {ops : Array Oper} {md : Region.Mode} {S : World → Prop} {Q : Exit → Act → World → Prop}
theorem ready_lt {listed : Array Bool} {j : Nat} (h : j ∈ Region.ready md ops listed) : j < ops.size := by
  obtain ⟨_, oj, hoj, _⟩ := mem_ready.1 h
  exact (Array.getElem?_eq_some_iff.1 hoj).1
/-- Every operation behind the first n waits for the last of them or for one between. -/
def Region.restB (md : Region.Mode) (ops : Array Oper) (n : Nat) : Bool :=
  (List.range ops.size).all fun t => decide (t < n) || (List.range t).any fun j => decide (n ≤ j + 1) && Region.waitsFor md ops t j
theorem head_last {n : Nat} {listed : Array Bool} (hs : Region.sinkB md ops (n - 1) = true) (hn : n ≤ ops.size) (inv : HeadInv md ops n listed) :
    ∀ (d i : Nat), n - 1 - i = d → i < n → listed.getD i true = false → listed.getD (n - 1) false = false := by
  intro d
  induction d using Nat.strongRecOn with
  | _ d ih =>
    intro i hd hi hun
    by_cases hin : i = n - 1
    · rw [← hin]; exact getD_both hun
    · have h1 := List.all_eq_true.1 hs i (List.mem_range.2 (by omega))
      obtain ⟨j, hj, hj2⟩ := List.any_eq_true.1 h1
      simp only [Bool.and_eq_true, decide_eq_true_eq] at hj2
      obtain ⟨oj, hoj, e, he, hb, hon⟩ := Region.waitsFor_spec hj2.2
      have hjle := List.mem_range.1 hj
      cases hl : listed.getD j false with
      | true =>
        have h2 := inv.closed j oj hoj hl e he hb
        rw [hon, getD_both hun] at h2
        cases h2
      | false =>
        have hjs : j < listed.size := by rw [inv.size]; omega
        exact ih (n - 1 - j) (by omega) j rfl (by omega) (getD_in hjs hl)
theorem rest_waits {n : Nat} {listed : Array Bool} (hs : Region.sinkB md ops (n - 1) = true) (hc : Region.restB md ops n = true) (hn : n ≤ ops.size) (inv : HeadInv md ops n listed) {i : Nat} (hi : i < n) (hun : listed.getD i true = false) :
    ∀ t, n ≤ t → t ∉ Region.ready md ops listed := by
  intro t ht hr
  obtain ⟨_, ot, hot, hall⟩ := mem_ready.1 hr
  have h0 := head_last hs hn inv _ i rfl hi hun
  have h1 := List.all_eq_true.1 hc t (List.mem_range.2 (ready_lt hr))
  simp only [Bool.or_eq_true, decide_eq_true_eq, List.any_eq_true, Bool.and_eq_true, List.mem_range] at h1
  rcases h1 with h1 | ⟨j, hj, hj1, hj2⟩
  · omega
  · obtain ⟨o', ho', e, he, hb, hon⟩ := Region.waitsFor_spec hj2
    have : o' = ot := Option.some.inj (ho'.symm.trans hot)
    subst this
    have h2 := hall e he hb
    rw [hon] at h2
    by_cases hjn : j = n - 1
    · rw [hjn, h0] at h2
      cases h2
    · have := getD_both (inv.tail j (by omega) (by have := ready_lt hr; omega))
      rw [this] at h2
      cases h2
theorem wpAnyH_first1 {n i : Nat} {oi : Oper} {v : Value} {L : Array Bool → Act → World → Prop} (hi : ops[i]? = some oi) (hsel : ∀ (j : Nat) (o : Oper) cs b, ops[j]? = some o → o.op ≠ .select cs b)
    (hQ : ∀ c a w, Q (.panic c) (a.put oi.dst v) w → Q (.panic c) a w)
    (hs : Region.sinkB md ops (n - 1) = true) (hc : Region.restB md ops n = true) (hn : n ≤ ops.size) (hin : i < n)
    (hdone : ∀ listed a w, L listed a w → ∀ j ∈ Region.ready md ops listed, n ≤ j) :
    ∀ (f : Nat) (listed : Array Bool) (a : Act) (w : World), HeadInv md ops n listed →
      (∀ j oj, ops[j]? = some oj → j ≠ i → listed.getD j true = false → (∀ e ∈ oj.after, Region.binds md e = true → e.on ≠ i) → oi.apart ops oj = true) →
      i ∈ Region.ready md ops listed → HeldY P ops S oi v a → S w →
      wpAnyH P md ops S Q n L f (listed.setIfInBounds i true) (a.put oi.dst v) w → wpAnyH P md ops S Q n L (f + 1) listed a w := by
  intro f
  induction f with
  | zero =>
    intro listed a w inv _ hr hy hS H
    have hun := (mem_ready.1 hr).1
    refine ⟨hS, fun h => (by rw [h] at hr; cases hr), fun j hj => ?_⟩
    have hjn : j < n := by
      rcases Nat.lt_or_ge j n with h | h
      · exact h
      · exact absurd hj (rest_waits hs hc hn inv hin hun j h)
    refine ⟨hjn, ?_⟩
    by_cases hji : j = i
    · subst hji; exact hy.wpOp hi hS H
    · have := hdone _ _ _ H.2 j (ready_mono hj hji)
      omega
  | succ f ih =>
    intro listed a w inv hfree hr hy hS H
    have hun := (mem_ready.1 hr).1
    refine ⟨hS, fun h => (by rw [h] at hr; cases hr), fun j hj => ?_⟩
    have hjn : j < n := by
      rcases Nat.lt_or_ge j n with h | h
      · exact h
      · exact absurd hj (rest_waits hs hc hn inv hin hun j h)
    refine ⟨hjn, ?_⟩
    by_cases hji : j = i
    · subst hji; exact hy.wpOp hi hS H
    · have h1 := (H.2.2 j (ready_mono hj hji)).2
      obtain ⟨hjun, oj, hoj, hall⟩ := mem_ready.1 hj
      have hnot : ∀ e ∈ oj.after, Region.binds md e = true → e.on ≠ i := fun e he hb heq => by
        have h1 := hall e he hb
        rw [heq, getD_both hun] at h1
        cases h1
      have h2 := heldOp_put hoj (hfree j oj hoj hji hjun hnot) (fun cs b => hsel i oi cs b hi) (fun cs b => hsel j oj cs b hoj) hQ hy h1
      have hfree' : ∀ k ok, ops[k]? = some ok → k ≠ i → (listed.setIfInBounds j true).getD k true = false →
          (∀ e ∈ ok.after, Region.binds md e = true → e.on ≠ i) → oi.apart ops ok = true := fun k ok hk hki hun' hno => by
        refine hfree k ok hk hki ?_ hno
        by_cases hjk : j = k
        · subst hjk; exact hjun
        · rw [getD_set_ne true hjk] at hun'; exact hun'
      refine wpOp_mono (fun a' w' h3 => ?_) h2
      obtain ⟨hy3, h3⟩ := h3
      rw [Array.setIfInBounds_comm _ _ (Ne.symm hji)] at h3
      exact ih (listed.setIfInBounds j true) a' w' (inv.set hj hjn) hfree' (ready_mono hr (Ne.symm hji)) hy3 (wpAnyH_S h3) h3

/-- The orders of the last operations. -/
inductive TailT where
  | done : TailT
  | one : Nat → TailT → TailT
  | two : Nat → Nat → TailT → TailT → TailT
def Region.tailB (md : Region.Mode) (ops : Array Oper) : TailT → Nat → Array Bool → Bool
  | .done, g, listed => decide (g = 0) && (Region.ready md ops listed).isEmpty
  | .one k r, g, listed => decide (0 < g) && decide (Region.ready md ops listed = [k]) && Region.tailB md ops r (g - 1) (listed.setIfInBounds k true)
  | .two k j r s, g, listed => decide (0 < g) && decide (Region.ready md ops listed = [k, j]) && Region.tailB md ops r (g - 1) (listed.setIfInBounds k true) && Region.tailB md ops s (g - 1) (listed.setIfInBounds j true)
def wpTail (P : Program) (ops : Array Oper) (Q : Exit → Act → World → Prop) : TailT → Act → World → Prop
  | .done, a, w => Q .normal a w
  | .one k r, a, w => wpOp P ops Q k (wpTail P ops Q r) a w
  | .two k j r s, a, w => wpOp P ops Q k (wpTail P ops Q r) a w ∧ wpOp P ops Q j (wpTail P ops Q s) a w
theorem wpAny_of_tail : ∀ (t : TailT) (g : Nat) (listed : Array Bool) (a : Act) (w : World), Region.tailB md ops t g listed = true → wpTail P ops Q t a w → wpAny P md ops Q g listed a w
  | .done, g, listed, a, w, hB, h => by
    simp only [Region.tailB, Bool.and_eq_true, decide_eq_true_eq, List.isEmpty_iff] at hB
    obtain ⟨rfl, hr⟩ := hB
    exact ⟨hr, h⟩
  | .one k r, g, listed, a, w, hB, h => by
    simp only [Region.tailB, Bool.and_eq_true, decide_eq_true_eq] at hB
    obtain ⟨⟨hg, hr⟩, hB'⟩ := hB
    rw [show g = (g - 1) + 1 by omega]
    refine ⟨fun h0 => (by rw [hr] at h0; cases h0), fun i hi => ?_⟩
    rw [hr] at hi
    have hik : i = k := by simpa using hi
    subst hik
    exact wpOp_mono (fun a' w' h' => wpAny_of_tail r _ _ a' w' hB' h') h
  | .two k j r s, g, listed, a, w, hB, h => by
    simp only [Region.tailB, Bool.and_eq_true, decide_eq_true_eq] at hB
    obtain ⟨⟨⟨hg, hr⟩, hB'⟩, hB2⟩ := hB
    rw [show g = (g - 1) + 1 by omega]
    refine ⟨fun h0 => (by rw [hr] at h0; cases h0), fun i hi => ?_⟩
    rw [hr] at hi
    have hik : i = k ∨ i = j := by simpa using hi
    rcases hik with rfl | rfl
    · exact wpOp_mono (fun a' w' h' => wpAny_of_tail r _ _ a' w' hB' h') h.1
    · exact wpOp_mono (fun a' w' h' => wpAny_of_tail s _ _ a' w' hB2 h') h.2
def Region.planB1 (md : Region.Mode) (ops : Array Oper) (n g : Nat) (t : TailT) : List (Nat × Bool) → Array Bool → Bool
  | [], listed => (Region.ready md ops listed).all (fun j => decide (n ≤ j)) && Region.tailB md ops t g listed
  | (k, true) :: r, listed => (Region.ready md ops listed).contains k && decide (k < n) && Region.free md ops listed k && Region.planB1 md ops n g t r (listed.setIfInBounds k true)
  | (k, false) :: r, listed => decide (Region.ready md ops listed = [k]) && decide (k < n) && Region.planB1 md ops n g t r (listed.setIfInBounds k true)
def Region.mixB1 (md : Region.Mode) (ops : Array Oper) (n : Nat) (plan : List (Nat × Bool)) (t : TailT) : Bool :=
  Region.noSelect ops && decide (n ≤ ops.size) && Region.sinkB md ops (n - 1) && Region.restB md ops n && decide (plan.length = n) && Region.planB1 md ops n (ops.size - n) t plan (Array.replicate ops.size false)
theorem wpAnyH_plan1 {n g : Nat} {t : TailT} {K : Act → World → Prop} (hsel : Region.noSelect ops = true) (hs : Region.sinkB md ops (n - 1) = true) (hc : Region.restB md ops n = true) (hn : n ≤ ops.size) (hQ : ∀ c a a' w, Q (.panic c) a w → Q (.panic c) a' w) :
    ∀ (plan : List (Nat × Bool)) (listed : Array Bool) (a : Act) (w : World), HeadInv md ops n listed → Region.planB1 md ops n g t plan listed = true → S w → wpPlan P ops S Q K plan a w →
    wpAnyH P md ops S Q n (fun listed' a' w' => ((Region.ready md ops listed').all (fun j => decide (n ≤ j)) = true ∧ Region.tailB md ops t g listed' = true) ∧ K a' w') plan.length listed a w
  | [], listed, a, w, _, hB, hS, h => by
    simp only [Region.planB1, Bool.and_eq_true] at hB
    exact ⟨hS, hB, h⟩
  | (k, true) :: r, listed, a, w, inv, hB, hS, h => by
    obtain ⟨o, v, ho, hy, h⟩ := h
    simp only [Region.planB1, Bool.and_eq_true, decide_eq_true_eq] at hB
    obtain ⟨⟨⟨hr, hk⟩, hf⟩, hB'⟩ := hB
    have hr' : k ∈ Region.ready md ops listed := by simpa using hr
    exact wpAnyH_first1 ho (Region.noSelect_spec hsel) (fun c a w => hQ c _ _ w) hs hc hn hk (fun listed' a' w' hL j hj => by simpa using List.all_eq_true.1 hL.1.1 j hj) r.length listed a w inv (Region.free_spec ho hf) hr' hy hS
      (wpAnyH_plan1 hsel hs hc hn hQ r _ _ w (inv.set hr' hk) hB' hS h)
  | (k, false) :: r, listed, a, w, inv, hB, hS, h => by
    simp only [Region.planB1, Bool.and_eq_true, decide_eq_true_eq] at hB
    obtain ⟨⟨hr, hk⟩, hB'⟩ := hB
    refine ⟨hS, by rw [hr]; simp, fun j hj => ?_⟩
    have hjk : j = k := by rw [hr] at hj; simpa using hj
    subst hjk
    exact ⟨hk, wpOp_mono (fun a' w' h' => wpAnyH_plan1 hsel hs hc hn hQ r _ a' w' (inv.set hj hk) hB' h'.1 h'.2) h⟩
/-- A REGION THAT DRAWS: reads in any order and changes of the world in one forced order, to one operation for which the rest waits; then the rest in every order. -/
theorem wp_region_mix1 {id : Nat} {Q : Exit → Act → World → Prop} {a : Act} {w : World} {l : List Oper} (S : World → Prop) (n : Nat) (plan : List (Nat × Bool)) (t : TailT) (hm : P.follows .mixedOrders = true) (hB : Region.mixB1 .any l.toArray n plan t = true)
    (hS : S w.drew)
    (h : wpPlan P l.toArray S noQ (wpTail P l.toArray Q t) plan a w.drew) : (Code.region id l.toArray true).wp P Q a w := by
  simp only [Region.mixB1, Bool.and_eq_true, decide_eq_true_eq] at hB
  obtain ⟨⟨⟨⟨⟨hsel, hn⟩, hs⟩, hc⟩, hpl⟩, hplan⟩ := hB
  have inv0 : HeadInv .any l.toArray n (Array.replicate l.toArray.size false) :=
    ⟨by simp, fun j oj _ hl => (by rw [getD_replicate_false] at hl; cases hl), fun t _ ht => getD_in (by simpa using ht) (getD_replicate_false _ _)⟩
  have H := wpAnyH_plan1 (md := .any) (Q := noQ) (g := l.toArray.size - n) hsel hs hc hn (fun _ _ _ _ h => h) plan _ a w.drew inv0 hplan hS h
  refine wp_region_any hm ?_
  have := wpAny_of_headH (Q := Q) (g := l.toArray.size - n) (fun listed a' w' hL => wpAny_of_tail t _ listed a' w' hL.1.2 hL.2) _ _ _ _ H
  rw [hpl, show n + (l.toArray.size - n) = l.toArray.size by omega] at this
  exact this
theorem wpTail_done {a : Act} {w : World} (h : Q .normal a w) : wpTail P ops Q .done a w := h
theorem wpTail_one {a : Act} {w : World} {k : Nat} {r : TailT} {o : Oper} (ho : ops[k]? = some o) (hg : o.guard = none)
    (h : ∀ K' : Act → World → Prop, (∀ a w, wpTail P ops Q r a w → K' a w) → o.wp P a w K' Q) : wpTail P ops Q (.one k r) a w := by
  show wpOp P ops Q k _ a w
  unfold wpOp
  simp only [ho, wanted_none hg, if_true]
  exact .inl (h _ fun _ _ h => h)
theorem wpTail_two {a : Act} {w : World} {k j : Nat} {r s : TailT} (h1 : wpTail P ops Q (.one k r) a w) (h2 : wpTail P ops Q (.one j s) a w) : wpTail P ops Q (.two k j r s) a w := ⟨h1, h2⟩
end
end Go.Pal
