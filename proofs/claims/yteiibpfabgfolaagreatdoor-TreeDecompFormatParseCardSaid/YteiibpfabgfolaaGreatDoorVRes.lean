/- A region that draws its order and whose operations only read or make memory: one walk for .. -/
import Derived.Test.YteiibpfabgfolaaGreatDoorVRoR
set_option linter.all false
namespace Go.Pal
open Go Go.RowKit
section
variable {P : Program} {ops : Array Oper}
structure Fill (ops : Array Oper) (n : Nat) (a0 : Act) (L : Nat → Prop) (vals : Nat → Value) (a : Act) : Prop where
 defers : a.defers = a0.defers
 size : a.tmps.size = a0.tmps.size
 old : ∀ d, (∀ k o, k < n → L k → ops[k]? = some o → o.dst ≠ some d) → a.tmps[d]? = a0.tmps[d]?
 new : ∀ k o d, k < n → L k → ops[k]? = some o → o.dst = some d → a.tmps[d]? = some (vals k)
theorem Fill.unique {n : Nat} {a0 : Act} {L : Nat → Prop} {vals : Nat → Value} {a a' : Act} (h : Fill ops n a0 L vals a) (h' : Fill ops n a0 L vals a') : a = a' := by
 have : a.tmps = a'.tmps := by
   apply Array.ext_getElem?
   intro d
   by_cases hd : ∃ k o, k < n ∧ L k ∧ ops[k]? = some o ∧ o.dst = some d
   · obtain ⟨k, o, h1, h2, h3, h4⟩ := hd
     rw [h.new k o d h1 h2 h3 h4, h'.new k o d h1 h2 h3 h4]
   · have hn : ∀ k o, k < n → L k → ops[k]? = some o → o.dst ≠ some d := fun k o h1 h2 h3 h4 => hd ⟨k, o, h1, h2, h3, h4⟩
     rw [h.old d hn, h'.old d hn]
 cases a; cases a'
 simp only at this
 have h2 := h.defers.trans h'.defers.symm
 simp only at h2
 subst this h2
 rfl
def Region.resB (md : Region.Mode) (ops : Array Oper) (n m : Nat) : Bool :=
 (List.range n).all fun k => match ops[k]? with
   | none => false
   | some o => o.guard.isNone && (match o.dst with
     | none => false
     | some d => decide (d < m) && (List.range n).all fun j => j == k || (match ops[j]? with | none => true | some oj => !(oj.dst == some d))) && o.after.all fun e => !(Region.binds md e) || decide (e.on < k)
theorem resB_spec {md : Region.Mode} {n m k : Nat} (h : Region.resB md ops n m = true) (hk : k < n) : ∃ o d, ops[k]? = some o ∧ o.guard = none ∧ o.dst = some d ∧ d < m ∧ (∀ j oj, j < n → j ≠ k → ops[j]? = some oj → oj.dst ≠ some d) ∧ ∀ e ∈ o.after, Region.binds md e = true → e.on < k := by
 unfold Region.resB at h
 rw [List.all_eq_true] at h
 have h1 := h k (List.mem_range.2 hk)
 cases ho : ops[k]? with
 | none => rw [ho] at h1; cases h1
 | some o =>
   rw [ho] at h1
   simp only [Bool.and_eq_true] at h1
   obtain ⟨⟨h2, h3⟩, h4⟩ := h1
   cases hd : o.dst with
   | none => rw [hd] at h3; cases h3
   | some d =>
     rw [hd] at h3
     simp only [Bool.and_eq_true, decide_eq_true_eq, List.all_eq_true] at h3
     refine ⟨o, d, rfl, by simpa using h2, hd, h3.1, fun j oj hj hjk hoj hdj => ?_, fun e he hb => ?_⟩
     · have := h3.2 j (List.mem_range.2 hj)
       rw [hoj] at this
       simp [hjk, hdj] at this
     · rw [Array.all_eq_true_iff_forall_mem] at h4
       have := h4 e he
       simp [hb] at this
       exact this
theorem Fill.put {md : Region.Mode} {n k : Nat} {a0 a : Act} {L L' : Nat → Prop} {vals : Nat → Value} {o : Oper} {v : Value} (hB : Region.resB md ops n a0.tmps.size = true) (h : Fill ops n a0 L vals a) (hk : k < n) (ho : ops[k]? = some o)
   (hL : ∀ j, L' j ↔ L j ∨ j = k) : Fill ops n a0 L' (fun j => if j = k then v else vals j) (a.put o.dst v) := by
 obtain ⟨o', d, ho', -, hd, hdm, hdis, -⟩ := resB_spec hB hk
 rw [ho] at ho'
 cases ho'
 rw [hd]
 refine ⟨h.defers, by simp [Act.put, h.size], fun c hc => ?_, fun j oj c hj hLj hoj hdj => ?_⟩
 · have hcd : d ≠ c := fun e => hc k o hk ((hL k).2 (.inr rfl)) ho (by rw [hd, e])
   simp only [Act.put, Array.getElem?_setIfInBounds_ne hcd]
   exact h.old c fun j oj hj hLj hoj => hc j oj hj ((hL j).2 (.inl hLj)) hoj
 · by_cases hjk : j = k
   · subst hjk
     rw [hoj] at ho
     cases ho
     rw [hd] at hdj
     cases hdj
     simp only [Act.put, if_true]
     rw [Array.getElem?_setIfInBounds_self_of_lt (by rw [h.size]; exact hdm)]
   · have hcd : d ≠ c := fun e => hdis j oj hj hjk hoj (by rw [hdj, e])
     simp only [Act.put, Array.getElem?_setIfInBounds_ne hcd, if_neg hjk]
     rcases (hL j).1 hLj with h1 | h1
     · exact h.new j oj c hj h1 hoj hdj
     · exact absurd h1 hjk
def putAll (ops : Array Oper) (vals : Nat → Value) (a : Act) : Nat → Act
 | 0 => a
 | k + 1 => (putAll ops vals a k).put ((ops[k]?).bind (·.dst)) (vals k)
theorem putAll_fill {md : Region.Mode} {n : Nat} {a0 : Act} {vals : Nat → Value} (hB : Region.resB md ops n a0.tmps.size = true) : ∀ k, k ≤ n → Fill ops n a0 (· < k) vals (putAll ops vals a0 k)
 | 0, _ => ⟨rfl, rfl, fun _ _ => rfl, fun k _ _ _ h => by omega⟩
 | k + 1, hk => by
   obtain ⟨o, d, ho, -⟩ := resB_spec hB (k := k) (by omega)
   have h := (putAll_fill (vals := vals) hB k (by omega)).put (v := vals k) (L' := (· < k + 1)) hB (by omega) ho (fun j => by omega)
   have e : (fun j => if j = k then vals k else vals j) = vals := by funext j; by_cases hj : j = k <;> simp [hj]
   rw [e] at h
   show Fill ops n a0 (· < k + 1) vals ((putAll ops vals a0 k).put ((ops[k]?).bind (·.dst)) (vals k))
   rw [ho]
   exact h
def unl (listed : Array Bool) : Nat → Nat
 | 0 => 0
 | n + 1 => unl listed n + if listed.getD n true = false then 1 else 0
theorem unl_set_out {listed : Array Bool} {i : Nat} : ∀ n, n ≤ i → unl (listed.setIfInBounds i true) n = unl listed n
 | 0, _ => rfl
 | n + 1, h => by
   rw [unl, unl, unl_set_out n (by omega), getD_set_ne true (by omega)]
theorem unl_set {listed : Array Bool} {i : Nat} (hi : listed.getD i true = false) : ∀ n, i < n → unl listed n = unl (listed.setIfInBounds i true) n + 1
 | 0, h => by omega
 | n + 1, h => by
   rw [unl, unl]
   have hil : i < listed.size := by
     rcases Nat.lt_or_ge i listed.size with h | h
     · exact h
     · simp [h] at hi
   by_cases hin : i = n
   · subst hin
     rw [unl_set_out i (Nat.le_refl _), hi]
     simp [hil]
   · rw [unl_set hi n (by omega), getD_set_ne true (by omega)]
     omega
theorem unl_zero {listed : Array Bool} : ∀ n, unl listed n = 0 → ∀ i, i < n → listed.getD i true ≠ false
 | n + 1, h, i, hi => by
   rw [unl] at h
   by_cases hin : i = n
   · subst hin
     intro e
     rw [if_pos e] at h
     omega
   · exact unl_zero n (by omega) i (by omega)
def ResStep (P : Program) (ops : Array Oper) (n : Nat) (S : World → Prop) (Φ : Nat → Value → World → Prop) (a0 : Act) (k : Nat) : Prop :=
 ∀ o, ops[k]? = some o → ∀ a w, S w → (∀ d, (∀ j oj, j < n → ops[j]? = some oj → oj.dst ≠ some d) → a.tmps[d]? = a0.tmps[d]?) →
   (∀ e ∈ o.after, Region.binds .any e = true → ∀ oj d, ops[e.on]? = some oj → oj.dst = some d → ∃ v, a.tmps[d]? = some v ∧ Φ e.on v w) →
   ∀ K : Act → World → Prop, (∀ v w', Φ k v w' → S w' → Below w.heap.size w w' → K (a.put o.dst v) w') → o.wp P a w K noQ
theorem wpAny_res {n g : Nat} {S : World → Prop} {Φ : Nat → Value → World → Prop} {a0 : Act} {Q : Exit → Act → World → Prop} (hs : Region.sinkB .any ops n = true) (hc : Region.chainB .any ops n = true) (hn : n < ops.size)
   (hB : Region.resB .any ops n a0.tmps.size = true) (hΦ : ∀ k v w w', Φ k v w → Below w.heap.size w w' → Φ k v w') (hstep : ∀ k, k < n → ResStep P ops n S Φ a0 k)
   (hend : ∀ listed a w vals, HeadInv .any ops n listed → (∀ i, i < n → listed.getD i true ≠ false) → S w → Fill ops n a0 (· < n) vals a → (∀ k, k < n → Φ k (vals k) w) → wpAny P .any ops Q g listed a w) :
   ∀ (f : Nat) (listed : Array Bool) (a : Act) (w : World) (vals : Nat → Value), HeadInv .any ops n listed → unl listed n = f → S w → Fill ops n a0 (fun k => listed.getD k true ≠ false) vals a → (∀ k, k < n → listed.getD k true ≠ false → Φ k (vals k) w) →
     wpAny P .any ops Q (f + g) listed a w
 | 0, listed, a, w, vals, inv, hf, hS, hF, hP => by
   rw [Nat.zero_add]
   have hall := unl_zero n hf
   refine hend listed a w vals inv hall hS ⟨hF.defers, hF.size, fun d hd => hF.old d fun k o hk _ ho => hd k o hk hk ho, fun k o d hk _ ho hd => hF.new k o d hk (hall k hk) ho hd⟩ fun k hk => hP k hk (hall k hk)
 | f + 1, listed, a, w, vals, inv, hf, hS, hF, hP => by
   rw [show f + 1 + g = (f + g) + 1 by omega]
   have hex : ∃ i, i < n ∧ listed.getD i true = false := by
     refine Classical.byContradiction fun hno => ?_
     have : ∀ m, m ≤ n → unl listed m = 0 := by
       intro m
       induction m with
       | zero => intro _; rfl
       | succ m ih =>
         intro hm
         rw [unl, ih (by omega), if_neg fun e => hno ⟨m, by omega, e⟩]
     rw [this n (Nat.le_refl _)] at hf
     omega
   have hready : ∀ i, i < n → listed.getD i true = false → ∃ j, j ∈ Region.ready .any ops listed := by
     intro i
     induction i using Nat.strongRecOn with
     | _ i ih =>
       intro hi hun
       obtain ⟨o, d, ho, _, _, _, _, hback⟩ := resB_spec hB hi
       by_cases hall : ∀ e ∈ o.after, Region.binds .any e = true → listed.getD e.on false = true
       · exact ⟨i, mem_ready.2 ⟨hun, o, ho, hall⟩⟩
       · have : ∃ e, e ∈ o.after ∧ Region.binds .any e = true ∧ ¬ listed.getD e.on false = true := by
           refine Classical.byContradiction fun hno => hall fun e he hb => Classical.byContradiction fun h => hno ⟨e, he, hb, h⟩
         obtain ⟨e, he, hb, hl⟩ := this
         have hlt := hback e he hb
         exact ih e.on hlt (by omega) (getD_in (by rw [inv.size]; omega) (by simpa using hl))
   refine ⟨fun h0 => ?_, fun i hi => ?_⟩
   · obtain ⟨i, hi, hun⟩ := hex
     obtain ⟨j, hj⟩ := hready i hi hun
     rw [h0] at hj
     cases hj
   · have hin : i < n := by
       rcases Nat.lt_or_ge i n with h | h
       · exact h
       · obtain ⟨k, hk, hun⟩ := hex
         exact absurd hi (tail_waits hs hc hn inv _ k rfl hk hun i h)
     obtain ⟨hun, o, ho, hdeps⟩ := mem_ready.1 hi
     obtain ⟨o', d, ho', hgd, hd, hdm, hdis, hback⟩ := resB_spec hB hin
     rw [ho] at ho'
     cases ho'
     refine wpOp_noQ ?_
     unfold wpOp
     simp only [ho, wanted_none hgd, if_true]
     refine .inl (hstep i hin o ho a w hS (fun c hc => hF.old c fun k ok hk _ hok => hc k ok hk hok) (fun e he hb oj c hoj hcj => ?_) _ fun v w' hv hS' hb => ?_)
     · have hlt := hback e he hb
       have hl := hdeps e he hb
       have hl2 : listed.getD e.on true ≠ false := fun h => by rw [getD_both h] at hl; cases hl
       exact ⟨vals e.on, hF.new e.on oj c (by omega) hl2 hoj hcj, hP e.on (by omega) hl2⟩
     · have hsz : i < listed.size := by rw [inv.size]; omega
       have hL : ∀ j, (listed.setIfInBounds i true).getD j true ≠ false ↔ listed.getD j true ≠ false ∨ j = i := by
         intro j
         by_cases hj : j = i
         · subst hj
           simp [hsz]
         · rw [getD_set_ne true (fun e => hj e.symm)]
           simp [hj]
       refine wpAny_res hs hc hn hB hΦ hstep hend f _ _ w' (fun j => if j = i then v else vals j) (inv.set hi hin) (by have := unl_set hun n hin; omega) hS' (hF.put hB hin ho hL) fun k hk hlk => ?_
       by_cases hki : k = i
       · subst hki
         simpa using hv
       · simp only [if_neg hki]
         rcases (hL k).1 hlk with h | h
         · exact hΦ k _ w w' (hP k hk h) hb
         · exact absurd h hki
theorem wp_region_res {id : Nat} {Q : Exit → Act → World → Prop} {a : Act} {w : World} {l : List Oper} (n : Nat) (S : World → Prop) (Φ : Nat → Value → World → Prop) (hm : P.follows .mixedOrders = true)
   (hs : Region.sinkB .any l.toArray n = true) (hc : Region.chainB .any l.toArray n = true) (hn : decide (n < l.length) = true) (hB : Region.resB .any l.toArray n a.tmps.size = true)
   (hq : Region.seqB .any l.toArray (l.length - n) n ((Array.replicate n true) ++ Array.replicate (l.length - n) false) = true) (hΦ : ∀ k v w w', Φ k v w → Below w.heap.size w w' → Φ k v w') (hS : S w.drew)
   (hstep : ∀ k, k < n → ResStep P l.toArray n S Φ a k)
   (hend : ∀ vals w', S w' → (∀ k, k < n → Φ k (vals k) w') → wpList P l.toArray Q (l.drop n) (putAll l.toArray vals a n) w') : (Code.region id l.toArray true).wp P Q a w := by
 have hn' : n < l.length := by simpa using hn
 refine wp_region_any hm ?_
 have hdl : (l.drop n).length = l.length - n := by simp
 have inv0 : HeadInv .any l.toArray n (Array.replicate l.toArray.size false) :=
   ⟨by simp, fun j oj _ hl => (by rw [getD_replicate_false] at hl; cases hl), fun t _ ht => getD_in (by simpa using ht) (getD_replicate_false _ _)⟩
 have hu : ∀ m, m ≤ l.length → unl (Array.replicate l.toArray.size false) m = m := by
   intro m
   induction m with
   | zero => intro _; rfl
   | succ m ih =>
     intro hm
     rw [unl, ih (by omega), if_pos (getD_in (by simp; omega) (getD_replicate_false _ _))]
 have hno : ∀ k, k < n → ¬ (Array.replicate l.toArray.size false).getD k true ≠ false := fun k hk h => h (getD_in (by simp; omega) (getD_replicate_false _ _))
 have key := wpAny_res (P := P) (Q := Q) (g := l.length - n) hs hc (by simpa using hn') hB hΦ hstep (fun listed a' w' vals inv hall hS' hF hP => ?_) n (Array.replicate l.toArray.size false) a w.drew (fun _ => default) inv0 (hu n (by omega)) hS
   ⟨rfl, rfl, fun _ _ => rfl, fun k o d hk hl _ _ => absurd hl (hno k hk)⟩ (fun k hk hl => absurd hl (hno k hk))
 · have e : n + (l.length - n) = l.toArray.size := by simp; omega
   rw [e] at key
   exact key
 · have hl : listed = (Array.replicate n true) ++ Array.replicate (l.length - n) false := by
     apply Array.ext_getElem?
     intro i
     by_cases hi : i < n
     · rw [Array.getElem?_append_left (by simpa using hi)]
       have h1 := hall i hi
       have h2 : i < listed.size := by rw [inv.size]; simp; omega
       simp [h2] at h1
       simp [hi, h2, h1]
     · by_cases hi2 : i < l.length
       · have h1 := inv.tail i (by omega) (by simpa using hi2)
         have h2 : i < listed.size := by rw [inv.size]; simpa using hi2
         simp [h2] at h1
         rw [Array.getElem?_append_right (by simp; omega)]
         have h3 : i - n < l.length - n := by omega
         rw [Array.getElem?_eq_getElem h2, h1, Array.size_replicate, Array.getElem?_replicate, if_pos h3]
       · rw [Array.getElem?_eq_none (by rw [inv.size]; simp; omega), Array.getElem?_eq_none (by simp; omega)]
   subst hl
   have ha : a' = putAll l.toArray vals a n := hF.unique (putAll_fill hB n (Nat.le_refl _))
   rw [ha]
   have := wpAny_of_seq (md := .any) (Q' := Q) (l.drop n) n _ (putAll l.toArray vals a n) w' (fun j => by simp [List.getElem?_drop]) (by rw [hdl]; exact hq) (hend vals w' hS' hP)
   rwa [hdl] at this
def Region.asideB (ops : Array Oper) (n d : Nat) : Bool := (List.range n).all fun j => match ops[j]? with | none => true | some oj => !(oj.dst == some d)
theorem resStep_of {n k : Nat} {S : World → Prop} {Φ : Nat → Value → World → Prop} {a0 : Act} {o : Oper} (ho : ops[k]? = some o)
   (h : ∀ a w, S w → (∀ d v, Region.asideB ops n d = true → a0.tmps[d]? = some v → a.tmps[d]? = some v) → (∀ j d, (o.after.any fun e => Region.binds .any e && decide (e.on = j)) = true → (ops[j]?).bind (·.dst) = some d → ∃ v, a.tmps[d]? = some v ∧ Φ j v w) →
     ∀ K : Act → World → Prop, (∀ v w', Φ k v w' → S w' → Below w.heap.size w w' → K (a.put o.dst v) w') → o.wp P a w K noQ) : ResStep P ops n S Φ a0 k := by
 intro o' ho' a w hS hold hdep K hK
 rw [ho] at ho'
 cases ho'
 refine h a w hS (fun d v hd hv => ?_) (fun j d hj hd => ?_) K hK
 · rw [hold d fun j oj hj hoj hdj => ?_]
   · exact hv
   · unfold Region.asideB at hd
     rw [List.all_eq_true] at hd
     have := hd j (List.mem_range.2 hj)
     rw [hoj] at this
     simp [hdj] at this
 · rw [Array.any_eq_true] at hj
   obtain ⟨i, hi, hj⟩ := hj
   simp only [Bool.and_eq_true, decide_eq_true_eq] at hj
   obtain ⟨hb, hj⟩ := hj
   subst hj
   rw [Option.bind_eq_some_iff] at hd
   obtain ⟨oj, hoj, hdj⟩ := hd
   exact hdep _ (Array.getElem_mem hi) hb oj d hoj hdj
end
end Go.Pal
