/- Maps of the call's own, told by a list of keys and elements: what a lookup yields, what a .. -/
import Derived.Test.YteiibpfabgfolaaGreatDoorVRule
import Derived.Maps.RangeWalk
import Derived.DeepKeys4
import Derived.Test.YteiibpfabgfolaaGreatDoorVPlain
set_option linter.all false
namespace Go.Pal
open Go Go.RowKit Go.ChangeMaps
open Go.Maps (has size Tidy IsMap Keyed)
structure Cod (α β : Type) where
 key : α → Value
 kl : α → Lit
 ok : α → Prop
 val : β → Value
 dat : β → DataW Unit
section
variable {α β : Type}
open Classical in
noncomputable def Cod.R (C : Cod α β) (v : Value) : Option (DataW Unit × List MemPlace) := if h : ∃ b, v = C.val b then some (C.dat h.choose, []) else none
structure Cod.Good (C : Cod α β) (P : Program) (k : TypeId) : Prop where
 keyed : Keyed P k
 kinj : ∀ x y, C.ok x → C.ok y → C.kl x = C.kl y → x = y
 isk : ∀ x, C.ok x → WideAt.IsKeyLit (C.kl x)
 keyOf : ∀ x, C.ok x → keyOf P k (C.key x) = some (C.kl x)
 vinj : ∀ a b, C.val a = C.val b → a = b
 dinj : ∀ a b, C.dat a = C.dat b → a = b
variable {C : Cod α β} {P : Program} {k : TypeId}
theorem Cod.Good.R_val (G : C.Good P k) (b : β) : C.R (C.val b) = some (C.dat b, []) := by
 unfold Cod.R
 have h : ∃ s, C.val b = C.val s := ⟨b, rfl⟩
 rw [dif_pos h, ← G.vinj _ _ h.choose_spec]
theorem Cod.R_inv {v : Value} {z : DataW Unit × List MemPlace} (h : C.R v = some z) : ∃ b, v = C.val b ∧ z = (C.dat b, []) := by
 unfold Cod.R at h
 split at h
 · rename_i hx
   exact ⟨hx.choose, hx.choose_spec, (Option.some.inj h).symm⟩
 · cases h
def look [DecidableEq α] (l : List (α × β)) (x : α) : Option β := (l.find? fun p => decide (p.1 = x)).map (·.2)
def del [DecidableEq α] (x : α) (l : List (α × β)) : List (α × β) := l.filter fun p => !decide (p.1 = x)
def NoDup (l : List (α × β)) : Prop := l.Pairwise fun a b => a.1 ≠ b.1
theorem NoDup.perm {l l' : List (α × β)} (h : NoDup l) (hp : l.Perm l') : NoDup l' := (hp.pairwise_iff (fun {_ _} h => Ne.symm h)).1 h
theorem NoDup.one {l : List (α × β)} (h : NoDup l) {p q : α × β} (hp : p ∈ l) (hq : q ∈ l) (e : p.1 = q.1) : p = q := by
 induction l with
 | nil => simp at hp
 | cons a r ih =>
   unfold NoDup at h
   rw [List.pairwise_cons] at h
   rcases List.mem_cons.1 hp with rfl | hp'
   · rcases List.mem_cons.1 hq with rfl | hq'
     · rfl
     · exact absurd e (h.1 q hq')
   · rcases List.mem_cons.1 hq with rfl | hq'
     · exact absurd e.symm (h.1 p hp')
     · exact ih h.2 hp' hq'
theorem look_mem [DecidableEq α] {l : List (α × β)} {x : α} {b : β} (hl : NoDup l) : look l x = some b ↔ (x, b) ∈ l := by
 unfold look
 constructor
 · intro h
   obtain ⟨p, hp, rfl⟩ := Option.map_eq_some_iff.1 h
   have h1 := List.mem_of_find?_eq_some hp
   have h2 := List.find?_some hp
   simp only [decide_eq_true_eq] at h2
   rw [← h2]
   exact h1
 · intro h
   cases hf : l.find? (fun p => decide (p.1 = x)) with
   | none =>
     rw [List.find?_eq_none] at hf
     have := hf _ h
     simp at this
   | some p =>
     have h1 := List.mem_of_find?_eq_some hf
     have h2 := List.find?_some hf
     simp only [decide_eq_true_eq] at h2
     rw [hl.one h1 h h2]
     rfl
theorem look_none [DecidableEq α] {l : List (α × β)} {x : α} : look l x = none ↔ ∀ p ∈ l, p.1 ≠ x := by
 unfold look
 simp [List.find?_eq_none]
theorem look_some [DecidableEq α] {l : List (α × β)} {x : α} : (look l x).isSome = true ↔ ∃ p ∈ l, p.1 = x := by
 unfold look
 simp [List.find?_isSome]
theorem mem_del [DecidableEq α] {l : List (α × β)} {x : α} {p : α × β} : p ∈ del x l ↔ p ∈ l ∧ p.1 ≠ x := by unfold del; simp
theorem NoDup.del [DecidableEq α] {l : List (α × β)} (h : NoDup l) (x : α) : NoDup (del x l) := h.filter _
theorem NoDup.ins [DecidableEq α] {l : List (α × β)} (h : NoDup l) (x : α) (b : β) : NoDup ((x, b) :: Pal.del x l) :=
 List.pairwise_cons.2 ⟨fun _ hp e => (mem_del.1 hp).2 e.symm, h.del x⟩
structure MRd (C : Cod α β) (l : List (α × β)) (D : DataW Unit) : Prop where
 tidy : Tidy D
 ok : ∀ p ∈ l, C.ok p.1
 nd : NoDup l
 has : ∀ kk, has D kk = l.any fun p => (C.kl p.1).sameKey kk
 at_ : ∀ p ∈ l, ∀ z, D.atKey (C.kl p.1) z = C.dat p.2
 size : size D = l.length
theorem mrd_nil : MRd C ([] : List (α × β)) (.map []) := ⟨Maps.tidy_empty, by simp, List.Pairwise.nil, fun _ => rfl, by simp, rfl⟩
theorem MRd.perm [DecidableEq α] {l l' : List (α × β)} {D : DataW Unit} (h : MRd C l D) (hp : l.Perm l') : MRd C l' D :=
 ⟨h.tidy, fun p hq => h.ok p (hp.mem_iff.2 hq), h.nd.perm hp, fun kk => by rw [h.has]; rw [Bool.eq_iff_iff, List.any_eq_true, List.any_eq_true]; simp only [hp.mem_iff], fun p hq => h.at_ p (hp.mem_iff.2 hq), h.size.trans hp.length_eq⟩
theorem MRd.has_kl [DecidableEq α] (G : C.Good P k) {l : List (α × β)} {D : DataW Unit} (h : MRd C l D) {x : α} (hx : C.ok x) : Maps.has D (C.kl x) = (look l x).isSome := by
 rw [h.has, Bool.eq_iff_iff, List.any_eq_true, look_some]
 constructor
 · rintro ⟨p, hp, hs⟩
   exact ⟨p, hp, G.kinj _ _ (h.ok p hp) hx (WideAt.sameKey_eq hs)⟩
 · rintro ⟨p, hp, rfl⟩
   exact ⟨p, hp, WideAt.sameKey_self (G.isk _ hx)⟩
theorem MRd.at_kl [DecidableEq α] (G : C.Good P k) {l : List (α × β)} {D : DataW Unit} (h : MRd C l D) {x : α} (hx : C.ok x) (b0 : β) : D.atKey (C.kl x) (C.dat b0) = C.dat ((look l x).getD b0) := by
 cases hl : look l x with
 | none =>
   have := h.has_kl G hx
   rw [hl] at this
   exact Maps.atKey_of_not_has this _
 | some b => exact h.at_ (x, b) ((look_mem h.nd).1 hl) _
theorem kl_ne (G : C.Good P k) {x y : α} (hx : C.ok x) (hy : C.ok y) (h : x ≠ y) : C.kl x ≠ C.kl y := fun e => h (G.kinj _ _ hx hy e)
theorem MRd.put [DecidableEq α] (G : C.Good P k) {l l' : List (α × β)} {D : DataW Unit} (h : MRd C l D) {x : α} (hx : C.ok x) (b : β) (hp : ((x, b) :: del x l).Perm l') : MRd C l' (D.put (C.kl x) (C.dat b)) := by
 refine MRd.perm ⟨h.tidy.put (G.isk x hx) _, fun p hq => ?_, h.nd.ins x b, fun kk => ?_, fun p hq z => ?_, ?_⟩ hp
 · rcases List.mem_cons.1 hq with rfl | hq
   · exact hx
   · exact h.ok p (mem_del.1 hq).1
 · by_cases hkk : kk = C.kl x
   · subst hkk
     rw [Maps.has_put_same h.tidy.isMap (G.isk x hx)]
     simp [WideAt.sameKey_self (G.isk x hx)]
   · rw [Maps.has_put_other hkk, h.has, List.any_cons, Maps.sameKey_ne (Ne.symm hkk), Bool.false_or, Bool.eq_iff_iff, List.any_eq_true, List.any_eq_true]
     constructor
     · rintro ⟨p, hpl, hs⟩
       refine ⟨p, mem_del.2 ⟨hpl, fun e => hkk ?_⟩, hs⟩
       rw [← e]
       exact (WideAt.sameKey_eq hs).symm
     · rintro ⟨p, hpl, hs⟩
       exact ⟨p, (mem_del.1 hpl).1, hs⟩
 · rcases List.mem_cons.1 hq with rfl | hq
   · exact Maps.atKey_put_same h.tidy.isMap (G.isk x hx) _ _
   · obtain ⟨hpl, hne⟩ := mem_del.1 hq
     rw [Maps.atKey_put_other (kl_ne G (h.ok p hpl) hx hne)]
     exact h.at_ p hpl z
 · rw [Maps.size_put h.tidy, h.has_kl G hx, h.size]
   have hlen : (del x l).length + (if (look l x).isSome = true then 1 else 0) = l.length := by
     clear hp
     have hnd := h.nd
     clear h
     induction l with
     | nil => rfl
     | cons p r ih =>
       unfold NoDup at hnd
       rw [List.pairwise_cons] at hnd
       have ih := ih hnd.2
       by_cases hpx : p.1 = x
       · have hnone : look r x = none := look_none.2 fun q hq e => hnd.1 q hq (by rw [hpx, e])
         rw [hnone] at ih
         have e1 : del x (p :: r) = del x r := by unfold del; rw [List.filter_cons, if_neg (by simp [hpx])]
         have e2 : look (p :: r) x = some p.2 := by unfold look; rw [List.find?_cons, show decide (p.1 = x) = true by simp [hpx]]; rfl
         rw [e1, e2]
         simp at ih ⊢
         omega
       · have e1 : del x (p :: r) = p :: del x r := by unfold del; rw [List.filter_cons, if_pos (by simp [hpx])]
         have e2 : look (p :: r) x = look r x := by unfold look; rw [List.find?_cons, show decide (p.1 = x) = false by simp [hpx]]
         rw [e1, e2]
         simp only [List.length_cons]
         omega
   rw [List.length_cons]
   split <;> simp_all <;> omega
theorem MRd.del [DecidableEq α] (G : C.Good P k) {l : List (α × β)} {D : DataW Unit} (h : MRd C l D) {x : α} (hx : C.ok x) : MRd C (del x l) (D.del (C.kl x)) := by
 have hp := fun b => h.put G hx b (List.Perm.refl _)
 refine ⟨h.tidy.del _, fun p hq => h.ok p (mem_del.1 hq).1, h.nd.del x, fun kk => ?_, fun p hq z => ?_, ?_⟩
 · by_cases hkk : kk = C.kl x
   · subst hkk
     rw [Maps.has_del_same, Eq.comm, List.any_eq_false]
     intro p hq
     rw [Maps.sameKey_ne (kl_ne G (h.ok p (mem_del.1 hq).1) hx (mem_del.1 hq).2)]
     simp
   · rw [Maps.has_del_other hkk, h.has, Bool.eq_iff_iff, List.any_eq_true, List.any_eq_true]
     constructor
     · rintro ⟨p, hpl, hs⟩
       refine ⟨p, mem_del.2 ⟨hpl, fun e => hkk ?_⟩, hs⟩
       rw [← e]
       exact (WideAt.sameKey_eq hs).symm
     · rintro ⟨p, hpl, hs⟩
       exact ⟨p, (mem_del.1 hpl).1, hs⟩
 · obtain ⟨hpl, hne⟩ := mem_del.1 hq
   rw [Maps.atKey_del_other (kl_ne G (h.ok p hpl) hx hne)]
   exact h.at_ p hpl z
 · have h1 := Maps.size_del (k := C.kl x) h.tidy
   rw [h.has_kl G hx, h.size] at h1
   cases hl : look l x with
   | none =>
     rw [hl] at h1
     have : Pal.del x l = l := by unfold Pal.del; rw [List.filter_eq_self]; intro p hpl; simp [look_none.1 hl p hpl]
     rw [this]
     simpa using h1
   | some b =>
     rw [hl] at h1
     have h2 := (hp b).size
     rw [Maps.size_put h.tidy, h.has_kl G hx, hl, h.size] at h2
     simp at h1 h2
     omega
def Own (C : Cod α β) (P : Program) (k : TypeId) (w : World) (b : Nat) (l : List (α × β)) : Prop := ∃ D, w.ownsMap P k C.R b l.length D ∧ MRd C l D
theorem Own.made [DecidableEq α] (w : World) : Own C P k (w.alloc (.map #[] 0)) w.heap.size ([] : List (α × β)) := ⟨_, World.ownsMap_made w P k C.R, mrd_nil⟩
theorem Own.lt {w : World} {b : Nat} {l : List (α × β)} (h : Own C P k w b l) : b < w.heap.size := by obtain ⟨D, h, -⟩ := h; exact h.lt
theorem Own.congr {w w' : World} {b : Nat} {l : List (α × β)} (h : Own C P k w b l) (hb : w'.heap[b]? = w.heap[b]?) : Own C P k w' b l := by
 obtain ⟨D, ⟨es, clock, h1, h2⟩, h3⟩ := h
 exact ⟨D, ⟨es, clock, hb.trans h1, h2⟩, h3⟩
theorem Own.below [DecidableEq α] {w w' : World} {b B : Nat} {l : List (α × β)} (h : Own C P k w b l) (hb : Below B w w') (hB : b < B) : Own C P k w' b l := h.congr (hb.block b hB)
theorem Own.drew [DecidableEq α] {w : World} {b : Nat} {l : List (α × β)} (h : Own C P k w b l) : Own C P k w.drew b l := h.congr rfl
theorem Own.perm [DecidableEq α] {w : World} {b : Nat} {l l' : List (α × β)} (h : Own C P k w b l) (hp : l.Perm l') : Own C P k w b l' := by
 obtain ⟨D, h1, h2⟩ := h
 exact ⟨D, by rw [← hp.length_eq]; exact h1, h2.perm hp⟩
theorem Own.nd {w : World} {b : Nat} {l : List (α × β)} (h : Own C P k w b l) : NoDup l := by obtain ⟨D, _, h⟩ := h; exact h.nd
theorem Own.look [DecidableEq α] {w : World} {b : Nat} {l : List (α × β)} (h : Own C P k w b l) (G : C.Good P k) {t e : TypeId} (ht : P.underlying t = some (.map k e)) {b0 : β} (hz : ∀ w, (zeroValue e).run P w = .ok (C.val b0) w) {x : α} (hx : C.ok x) :
   (Instr.lookup t (.map (some b)) (C.key x) false).run P w = .ok (C.val ((look l x).getD b0)) w := by
 obtain ⟨D, h, hD⟩ := h
 obtain ⟨v, ps, hr, hv⟩ := h.lookup G.keyed ht (hz w) (G.R_val b0) (G.keyOf x hx)
 rw [hD.at_kl G hx] at hv
 obtain ⟨b, rfl, hb⟩ := Cod.R_inv hv
 simp only [Prod.mk.injEq] at hb
 rw [hr, G.dinj _ _ hb.1]
theorem Own.look_ok [DecidableEq α] {w : World} {b : Nat} {l : List (α × β)} (h : Own C P k w b l) (G : C.Good P k) {t e : TypeId} (ht : P.underlying t = some (.map k e)) {b0 : β} (hz : ∀ w, (zeroValue e).run P w = .ok (C.val b0) w) {x : α} (hx : C.ok x) :
   (Instr.lookup t (.map (some b)) (C.key x) true).run P w = .ok (.tuple #[C.val ((Pal.look l x).getD b0), .bool (Pal.look l x).isSome]) w := by
 obtain ⟨D, h, hD⟩ := h
 obtain ⟨v, ps, hr, hv⟩ := h.look_ok G.keyed ht (hz w) (G.R_val b0) (G.keyOf x hx)
 rw [hD.at_kl G hx] at hv
 obtain ⟨b, rfl, hb⟩ := Cod.R_inv hv
 simp only [Prod.mk.injEq] at hb
 rw [hr, G.dinj _ _ hb.1, hD.has_kl G hx]
theorem Own.len {w : World} {b : Nat} {l : List (α × β)} (h : Own C P k w b l) {t e : TypeId} (ht : P.underlying t = some (.map k e)) (ty : TypeId) : (Builtin.len_ #[t] ty #[.map (some b)]).run P w = .ok (.int .i64 (l.length : Int)) w := by
 obtain ⟨D, h, hD⟩ := h
 rw [h.len ht ty, hD.size]
theorem ownsMap_tight {w : World} {R : Value → Option (DataW Unit × List MemPlace)} {b n : Nat} {D : DataW Unit} (h : w.ownsMap P k R b n D) : w.ownsMap P k R b (size D) D := by
 obtain ⟨es, clock, h1, h2, h3, rfl⟩ := h
 exact ⟨es, clock, h1, h2, by simp [Maps.size, length_sorted], rfl⟩
theorem Own.store [DecidableEq α] {w : World} {b : Nat} {l l' : List (α × β)} (h : Own C P k w b l) (G : C.Good P k) {t e : TypeId} (ht : P.underlying t = some (.map k e)) {x : α} (hx : C.ok x) (y : β) (hp : ((x, y) :: Pal.del x l).Perm l') (hl : l.length < 1000000) :
   ∃ w', (Instr.mapUpdate t (.map (some b)) (C.key x) (C.val y)).run P w = .ok () w' ∧ Own C P k w' b l' ∧ w.grownBy w' (some b) ∧ w'.heap.size = w.heap.size := by
 obtain ⟨D, h, hD⟩ := h
 obtain ⟨w', hr, ho, hg⟩ := h.store G.keyed ht (Nat.lt_of_lt_of_le hl (by unfold maxLen; omega)) (G.keyOf x hx) (G.R_val y)
 have hD' := MRd.put G hD hx y hp
 refine ⟨w', hr, ⟨_, ?_, hD'⟩, hg.grown, ?_⟩
 · rw [← hD'.size]; exact ownsMap_tight ho
 · obtain ⟨es, clock, es', clock', -, rfl⟩ := hg; simp [setBlock]
theorem Own.drop [DecidableEq α] {w : World} {b : Nat} {l : List (α × β)} (h : Own C P k w b l) (G : C.Good P k) {t e : TypeId} (ht : P.underlying t = some (.map k e)) {x : α} (hx : C.ok x) (ty : TypeId) :
   ∃ w', (Builtin.delete_ #[t, k] ty #[.map (some b), C.key x]).run P w = .ok (.tuple #[]) w' ∧ Own C P k w' b (del x l) ∧ w.grownBy w' (some b) ∧ w'.heap.size = w.heap.size := by
 obtain ⟨D, h, hD⟩ := h
 obtain ⟨w', hr, ho, hg⟩ := h.drop G.keyed ht (G.keyOf x hx) ty
 have hD' := MRd.del G hD hx
 refine ⟨w', hr, ⟨_, ?_, hD'⟩, hg.grown, ?_⟩
 · rw [← hD'.size]; exact ownsMap_tight ho
 · obtain ⟨es, clock, es', clock', -, rfl⟩ := hg; simp [setBlock]
def Rng (C : Cod α β) (P : Program) (k : TypeId) (w : World) (b r : Nat) (l rest : List (α × β)) : Prop :=
 ∃ D left cnt, w.ranges P k C.R b r l.length D left cnt ∧ MRd C l D ∧ (∀ p ∈ rest, p ∈ l) ∧ NoDup rest ∧ ∀ kk, left kk = rest.any fun p => (C.kl p.1).sameKey kk
theorem Rng.own {w : World} {b r : Nat} {l rest : List (α × β)} (h : Rng C P k w b r l rest) : Own C P k w b l := by
 obtain ⟨D, left, cnt, h1, h2, -⟩ := h
 exact ⟨D, h1.owns, h2⟩
theorem Rng.lt {w : World} {b r : Nat} {l rest : List (α × β)} (h : Rng C P k w b r l rest) : r < w.heap.size := by obtain ⟨D, left, cnt, h1, -⟩ := h; exact h1.lt
theorem Rng.ne {w : World} {b r : Nat} {l rest : List (α × β)} (h : Rng C P k w b r l rest) : r ≠ b := by obtain ⟨D, left, cnt, h1, -⟩ := h; exact h1.ne
theorem Rng.congr {w w' : World} {b r : Nat} {l rest : List (α × β)} (h : Rng C P k w b r l rest) (hb : w'.heap[b]? = w.heap[b]?) (hr : w'.heap[r]? = w.heap[r]?) : Rng C P k w' b r l rest := by
 obtain ⟨D, left, cnt, ⟨es, clock, since, seen, c0, h1, h2, h3, h4, h5, h6⟩, hrest⟩ := h
 exact ⟨D, left, cnt, ⟨es, clock, since, seen, c0, hb.trans h1, h2, h3, h4, hr.trans h5, h6⟩, hrest⟩
theorem Own.range {w : World} {b : Nat} {l : List (α × β)} (h : Own C P k w b l) (G : C.Good P k) {t e : TypeId} (ht : P.underlying t = some (.map k e)) :
   ∃ w', (Instr.range t (.map (some b))).run P w = .ok (.pointer (some ⟨w.heap.size, 0, none⟩)) w' ∧ Rng C P k w' b w.heap.size l l ∧ Below w.heap.size w w' ∧ w'.heap.size = w.heap.size + 1 := by
 obtain ⟨D, h, hD⟩ := h
 obtain ⟨w', hr, h1, h2, h3⟩ := h.range G.keyed ht
 exact ⟨w', hr, ⟨D, _, _, h1, hD, fun _ h => h, hD.nd, hD.has⟩, ⟨h2.os, h2.tape, h2.output, h2.size, fun i hi => h2.block i hi (by simp)⟩, h3⟩
theorem Rng.next [DecidableEq α] {w : World} {b r : Nat} {l rest : List (α × β)} (h : Rng C P k w b r l rest) (G : C.Good P k) (ty : TypeId) :
   (rest = [] ∧ (Instr.next (.pointer (some ⟨r, 0, none⟩)) false ty).run P w = .ok (.tuple #[.bool false]) w) ∨
   ∃ x y r1 r2 w', rest = r1 ++ (x, y) :: r2 ∧ (Instr.next (.pointer (some ⟨r, 0, none⟩)) false ty).run P w = .ok (.tuple #[.bool true, C.key x, C.val y]) w' ∧ Rng C P k w' b r l (r1 ++ r2) ∧ w.grownBy w' (some r) ∧ w'.heap.size = w.heap.size ∧
     (Instr.entry (.pointer (some ⟨r, 0, none⟩))).run P w' = .ok (.tuple #[C.key x, C.val y]) w' := by
 obtain ⟨D, left, cnt, h1, h2, h3, h4, h5⟩ := h
 rcases h1.next G.keyed ty with ⟨hc, hl, hrun⟩ | ⟨key, v, kl, y, w', cnt', hkey, hlk, hv, hat, hrun, hr', hlt, hg, hs, hen⟩
 · refine .inl ⟨?_, hrun⟩
   cases rest with
   | nil => rfl
   | cons p q =>
     have := hl (C.kl p.1)
     rw [h5, List.any_cons, WideAt.sameKey_self (G.isk _ (h2.ok p (h3 p (by simp))))] at this
     cases this
 · rw [h5, List.any_eq_true] at hlk
   obtain ⟨p, hp, hs1⟩ := hlk
   have hkl := WideAt.sameKey_eq hs1
   have hpl := h3 p hp
   have hok := h2.ok p hpl
   rw [← hkl] at hkey hat hr'
   have hkk := G.keyed.inj hkey (G.keyOf p.1 hok)
   subst hkk
   obtain ⟨b', rfl, hb'⟩ := Cod.R_inv hv
   have h6 := hat (C.dat b')
   rw [h2.at_ p hpl, hb'] at h6
   have := G.dinj _ _ h6
   subst this
   obtain ⟨r1, r2, rfl⟩ := List.append_of_mem hp
   refine .inr ⟨p.1, p.2, r1, r2, w', rfl, hrun, ⟨D, _, cnt', hr', h2, fun q hq => h3 q ?_, ?_, fun kk => ?_⟩, hg, hs, hen⟩
   · rcases List.mem_append.1 hq with h | h
     · exact List.mem_append_left _ h
     · exact List.mem_append_right _ (List.mem_cons_of_mem _ h)
   · exact List.Pairwise.sublist (List.Sublist.append_left (List.sublist_cons_self _ _) _) h4
   · have hnd := h4.perm (List.perm_middle)
     unfold NoDup at hnd
     rw [List.pairwise_cons] at hnd
     rw [h5, Bool.eq_iff_iff]
     simp only [Bool.and_eq_true, List.any_eq_true, Bool.not_eq_true']
     constructor
     · rintro ⟨⟨q, hq, hqs⟩, hne⟩
       refine ⟨q, ?_, hqs⟩
       rcases List.mem_append.1 hq with h | h
       · exact List.mem_append_left _ h
       · rcases List.mem_cons.1 h with rfl | h
         · exfalso
           have := WideAt.sameKey_eq hqs
           rw [← this, WideAt.sameKey_self (G.isk _ hok)] at hne
           cases hne
         · exact List.mem_append_right _ h
     · rintro ⟨q, hq, hqs⟩
       have hne : p.1 ≠ q.1 := hnd.1 q hq
       have hql : q ∈ l := h3 q (by
         rcases List.mem_append.1 hq with h | h
         · exact List.mem_append_left _ h
         · exact List.mem_append_right _ (List.mem_cons_of_mem _ h))
       refine ⟨⟨q, ?_, hqs⟩, ?_⟩
       · rcases List.mem_append.1 hq with h | h
         · exact List.mem_append_left _ h
         · exact List.mem_append_right _ (List.mem_cons_of_mem _ h)
       · rw [← WideAt.sameKey_eq hqs]
         exact Maps.sameKey_ne (fun e => hne (G.kinj _ _ hok (h2.ok q hql) e.symm))
end
end Go.Pal
namespace Go.Pal
open Go
abbrev Th := Nat × Int
def thD (t : Th) : DataW Unit := .agg [.lit (.int .u8 (t.1 : Int)), .lit (.int .i64 t.2)]
def thV (t : Th) : Value := .agg #[.int .u8 (t.1 : Int), .int .i64 t.2]
theorem thD_inj (a b : Th) (h : thD a = thD b) : a = b := by
 obtain ⟨a1, a2⟩ := a
 obtain ⟨b1, b2⟩ := b
 simp only [thD, DataW.agg.injEq, List.cons.injEq, DataW.lit.injEq, Lit.int.injEq, true_and, and_true] at h
 obtain ⟨h1, h2⟩ := h
 have : a1 = b1 := by omega
 rw [this, h2]
theorem thV_inj (a b : Th) (h : thV a = thV b) : a = b := by
 obtain ⟨a1, a2⟩ := a
 obtain ⟨b1, b2⟩ := b
 simp only [thV, Value.agg.injEq, Array.mk.injEq, List.cons.injEq, Value.int.injEq, true_and, and_true] at h
 obtain ⟨h1, h2⟩ := h
 have : a1 = b1 := by omega
 rw [this, h2]
section
variable {α β : Type} [DecidableEq α]
def putS (lt : α → α → Bool) (x : α) (t : β) : List (α × β) → List (α × β)
 | [] => [(x, t)]
 | p :: r => if lt x p.1 = true then (x, t) :: p :: r else if x = p.1 then (x, t) :: r else p :: putS lt x t r
structure Ord (lt : α → α → Bool) : Prop where
 irrefl : ∀ x, lt x x = false
 trans : ∀ x y z, lt x y = true → lt y z = true → lt x z = true
 total : ∀ x y, lt x y = false → lt y x = false → x = y
def Srt (lt : α → α → Bool) (l : List (α × β)) : Prop := l.Pairwise fun a b => lt a.1 b.1 = true
variable {lt : α → α → Bool}
omit [DecidableEq α] in
theorem Srt.nd (O : Ord lt) {l : List (α × β)} (h : Srt lt l) : NoDup l := h.imp fun {a b} h e => by
 rw [e, O.irrefl] at h
 cases h
theorem del_all {x : α} {l : List (α × β)} (h : ∀ p ∈ l, p.1 ≠ x) : del x l = l := by
 unfold del
 rw [List.filter_eq_self]
 intro p hp
 simp [h p hp]
theorem putS_perm (O : Ord lt) (x : α) (t : β) : ∀ {l : List (α × β)}, Srt lt l → ((x, t) :: del x l).Perm (putS lt x t l)
 | [], _ => List.Perm.refl _
 | p :: r, h => by
   unfold Srt at h
   rw [List.pairwise_cons] at h
   unfold putS
   by_cases h1 : lt x p.1 = true
   · rw [if_pos h1, del_all fun q hq e => ?_]
     rcases List.mem_cons.1 hq with rfl | hq
     · rw [e, O.irrefl] at h1; cases h1
     · have := O.trans _ _ _ h1 (h.1 q hq)
       rw [e, O.irrefl] at this
       cases this
   · rw [if_neg h1]
     by_cases h2 : x = p.1
     · rw [if_pos h2]
       have e : del x (p :: r) = r := by
         unfold del
         rw [List.filter_cons, if_neg (by simp [h2])]
         exact del_all fun q hq e => by
           have := h.1 q hq
           rw [e, h2, O.irrefl] at this
           cases this
       rw [e]
     · rw [if_neg h2]
       have e : del x (p :: r) = p :: del x r := by unfold del; rw [List.filter_cons, if_pos (by simp; exact fun e => h2 e.symm)]
       rw [e]
       exact (List.Perm.swap p (x, t) _).trans ((putS_perm O x t h.2).cons p)
theorem mem_putS (O : Ord lt) {x : α} {t : β} {l : List (α × β)} (h : Srt lt l) {p : α × β} : p ∈ putS lt x t l ↔ p = (x, t) ∨ (p ∈ l ∧ p.1 ≠ x) := by
 rw [← (putS_perm O x t h).mem_iff, List.mem_cons, mem_del]
theorem putS_srt (O : Ord lt) (x : α) (t : β) : ∀ {l : List (α × β)}, Srt lt l → Srt lt (putS lt x t l)
 | [], _ => List.pairwise_singleton _ _
 | p :: r, h => by
   have h0 := h
   unfold Srt at h
   rw [List.pairwise_cons] at h
   unfold putS
   by_cases h1 : lt x p.1 = true
   · rw [if_pos h1]
     refine List.pairwise_cons.2 ⟨fun q hq => ?_, h0⟩
     rcases List.mem_cons.1 hq with rfl | hq
     · exact h1
     · exact O.trans _ _ _ h1 (h.1 q hq)
   · rw [if_neg h1]
     by_cases h2 : x = p.1
     · rw [if_pos h2]
       exact List.pairwise_cons.2 ⟨fun q hq => by rw [h2]; exact h.1 q hq, h.2⟩
     · rw [if_neg h2]
       refine List.pairwise_cons.2 ⟨fun q hq => ?_, putS_srt O x t h.2⟩
       rcases (mem_putS O h.2).1 hq with rfl | ⟨hq, -⟩
       · show lt p.1 x = true
         cases h3 : lt p.1 x with
         | true => rfl
         | false => exact absurd (O.total _ _ (by simpa using h1) h3) h2
       · exact h.1 q hq
theorem del_srt {l : List (α × β)} (h : Srt lt l) (x : α) : Srt lt (del x l) := h.filter _
theorem putS_length (O : Ord lt) (x : α) (t : β) {l : List (α × β)} (h : Srt lt l) : (putS lt x t l).length = if (look l x).isSome then l.length else l.length + 1 := by
 rw [← (putS_perm O x t h).length_eq, List.length_cons]
 by_cases hx : ∃ p ∈ l, p.1 = x
 · rw [if_pos (look_some.2 hx)]
   obtain ⟨p, hp, hpx⟩ := hx
   have hlt := List.length_filter_lt_length_iff_exists (p := fun p : α × β => !decide (p.1 = x)) (l := l) |>.2 ⟨p, hp, by simp [hpx]⟩
   have hperm : l.Perm (p :: del x l) := by
     refine (List.perm_ext_iff_of_nodup ?_ ?_).2 fun q => ?_
     · exact (h.nd O).imp fun {a b} h e => h (by rw [e])
     · refine List.nodup_cons.2 ⟨fun hm => (mem_del.1 hm).2 hpx, ((h.nd O).del x).imp fun {a b} h e => h (by rw [e])⟩
     · rw [List.mem_cons, mem_del]
       constructor
       · intro hq
         by_cases hqx : q.1 = x
         · exact .inl ((h.nd O).one hq hp (by rw [hqx, hpx]))
         · exact .inr ⟨hq, hqx⟩
       · rintro (rfl | ⟨hq, -⟩)
         · exact hp
         · exact hq
   rw [hperm.length_eq, List.length_cons]
 · rw [if_neg (fun hs => hx (look_some.1 hs)), del_all fun p hp e => hx ⟨p, hp, e⟩]
theorem look_putS (O : Ord lt) (x : α) (t : β) {l : List (α × β)} (h : Srt lt l) (y : α) : look (putS lt x t l) y = if y = x then some t else look l y := by
 apply Option.ext
 intro b
 rw [look_mem ((putS_srt O x t h).nd O), mem_putS O h]
 by_cases hy : y = x
 · rw [if_pos hy]
   simp [hy]
   exact eq_comm
 · rw [if_neg hy, look_mem (h.nd O)]
   simp [hy]
omit [DecidableEq α] in
theorem srt_unique (O : Ord lt) : ∀ {l l' : List (α × β)}, Srt lt l → Srt lt l' → l.Perm l' → l = l'
 | [], l', _, _, hp => (List.Perm.nil_eq hp)
 | p :: r, [], _, _, hp => by have := hp.length_eq; simp at this
 | p :: r, q :: s, h, h', hp => by
   have h0 := h
   have h0' := h'
   unfold Srt at h h'
   rw [List.pairwise_cons] at h h'
   have hpq : p = q := by
     have h1 : p ∈ q :: s := hp.mem_iff.1 (by simp)
     have h2 : q ∈ p :: r := hp.mem_iff.2 (by simp)
     rcases List.mem_cons.1 h1 with e | h1
     · exact e
     · rcases List.mem_cons.1 h2 with e | h2
       · exact e.symm
       · have := O.trans _ _ _ (h'.1 p h1) (h.1 q h2)
         rw [O.irrefl] at this
         cases this
   subst hpq
   rw [srt_unique O h.2 h'.2 (List.Perm.cons_inv hp)]
end
def ltV (a b : Int) : Bool := decide (a < b)
def ltE (a b : Int × Int) : Bool := decide (a.1 < b.1 ∨ (a.1 = b.1 ∧ a.2 < b.2))
theorem ordV : Ord ltV := ⟨fun x => by simp [ltV], fun x y z h1 h2 => by simp [ltV] at *; omega, fun x y h1 h2 => by simp [ltV] at *; omega⟩
theorem ordE : Ord ltE := ⟨fun x => by simp [ltE], fun x y z h1 h2 => by simp [ltE] at *; omega, fun x y h1 h2 => by
 simp [ltE] at *
 apply Prod.ext <;> omega⟩
structure Gr where
 V : List (Int × Th)
 E : List ((Int × Int) × Th)
structure Ed where
 op : Int
 u : Int
 v : Int
 lab : Nat
 wt : Int
def InI (n : Int) : Prop := -9223372036854775808 ≤ n ∧ n ≤ 9223372036854775807
structure Ed.Wf (e : Ed) : Prop where
 op : InI e.op
 u : InI e.u
 v : InI e.v
 lab : e.lab < 256
 wt : InI e.wt
def Ed.pairs (e : Ed) : Bool := decide (e.op = 2 ∨ e.op = 3 ∨ e.op = 6 ∨ e.op = 7)
def Ed.weighs (e : Ed) : Bool := decide (e.op = 0 ∨ e.op = 2 ∨ e.op = 5 ∨ e.op = 7)
def idB (n : Int) : Bool := decide (0 ≤ n ∧ n < 1024)
def heavyB (n : Int) : Bool := decide (n < -1048576 ∨ 1048576 < n)
def btw (u v : Int) : Int × Int := (min u v, max u v)
def Gr.wrong (G : Gr) (e : Ed) : Nat :=
 if e.op < 0 ∨ 8 ≤ e.op then 11
 else if !idB e.u || (e.pairs && !idB e.v) || (e.weighs && heavyB e.wt) then 2
 else if e.pairs && decide (e.u = e.v) then 15
 else if decide (e.op = 0) && (look G.V e.u).isSome then 7
 else if (decide (e.op ≠ 0) && !e.pairs && !(look G.V e.u).isSome) || (decide (e.op = 2) && !((look G.V e.u).isSome && (look G.V e.v).isSome)) then 9
 else if e.pairs && decide (e.op ≠ 2) && !(look G.E (btw e.u e.v)).isSome then 9
 else if decide (e.op = 2) && (look G.E (btw e.u e.v)).isSome then 7
 else if decide (e.op = 2) && decide (1024 ≤ G.E.length) then 8
 else 0
def Gr.doit (G : Gr) (e : Ed) : Gr :=
 if e.op = 0 then { G with V := putS ltV e.u (e.lab, e.wt) G.V }
 else if e.op = 1 then { V := del e.u G.V, E := G.E.filter fun p => !(decide (p.1.1 = e.u) || decide (p.1.2 = e.u)) }
 else if e.op = 2 then { G with E := putS ltE (btw e.u e.v) (e.lab, e.wt) G.E }
 else if e.op = 3 then { G with E := del (btw e.u e.v) G.E }
 else if e.op = 4 then { G with V := putS ltV e.u (e.lab, ((look G.V e.u).getD (0, 0)).2) G.V }
 else if e.op = 5 then { G with V := putS ltV e.u (((look G.V e.u).getD (0, 0)).1, e.wt) G.V }
 else if e.op = 6 then { G with E := putS ltE (btw e.u e.v) (e.lab, ((look G.E (btw e.u e.v)).getD (0, 0)).2) G.E }
 else { G with E := putS ltE (btw e.u e.v) (((look G.E (btw e.u e.v)).getD (0, 0)).1, e.wt) G.E }
def Gr.app (G : Gr) (e : Ed) : Gr := if G.wrong e = 0 then G.doit e else G
def ThOk (t : Th) : Prop := t.1 < 256 ∧ -1048576 ≤ t.2 ∧ t.2 ≤ 1048576
structure Gr.Ok (G : Gr) : Prop where
 sV : Srt ltV G.V
 sE : Srt ltE G.E
 ids : ∀ p ∈ G.V, 0 ≤ p.1 ∧ p.1 < 1024
 ends : ∀ p ∈ G.E, p.1.1 < p.1.2 ∧ (look G.V p.1.1).isSome = true ∧ (look G.V p.1.2).isSome = true
 thV : ∀ p ∈ G.V, ThOk p.2
 thE : ∀ p ∈ G.E, ThOk p.2
 most : G.E.length ≤ 1024
def Gr.none : Gr := ⟨[], []⟩
theorem gr_none_ok : Gr.none.Ok := ⟨List.Pairwise.nil, List.Pairwise.nil, by simp [Gr.none], by simp [Gr.none], by simp [Gr.none], by simp [Gr.none], by simp [Gr.none]⟩
theorem btw_ne {u v : Int} (h : u ≠ v) : (btw u v).1 < (btw u v).2 := by unfold btw; simp only; omega
theorem btw_look {V : List (Int × Th)} {u v : Int} (hu : (look V u).isSome = true) (hv : (look V v).isSome = true) : (look V (btw u v).1).isSome = true ∧ (look V (btw u v).2).isSome = true := by
 unfold btw
 simp only
 rcases Int.le_total u v with h | h
 · rw [Int.min_eq_left h, Int.max_eq_right h]; exact ⟨hu, hv⟩
 · rw [Int.min_eq_right h, Int.max_eq_left h]; exact ⟨hv, hu⟩
theorem look_thOk {α : Type} [DecidableEq α] {l : List (α × Th)} (h : ∀ p ∈ l, ThOk p.2) (hn : NoDup l) (x : α) : ThOk ((look l x).getD (0, 0)) := by
 cases hl : look l x with
 | none => exact ⟨by decide, by decide, by decide⟩
 | some b => exact h _ ((look_mem hn).1 hl)
theorem Gr.Ok.len {G : Gr} (h : G.Ok) : G.V.length ≤ 1024 := by
 have key : ∀ (l : List (Int × Th)) (a : Int), Srt ltV l → (∀ p ∈ l, a ≤ p.1 ∧ p.1 < 1024) → a ≤ 1024 → (l.length : Int) ≤ 1024 - a := by
   intro l
   induction l with
   | nil => intro a _ _ h; simp; omega
   | cons p r ih =>
     intro a hs hb ha
     unfold Srt at hs
     rw [List.pairwise_cons] at hs
     have hp := hb p (by simp)
     have := ih (p.1 + 1) hs.2 (fun q hq => ⟨by have := hs.1 q hq; simp [ltV] at this; omega, (hb q (by simp [hq])).2⟩) (by omega)
     simp only [List.length_cons]
     omega
 have := key G.V 0 h.sV (fun p hp => h.ids p hp) (by omega)
 omega
structure Gr.Fine (G : Gr) (e : Ed) : Prop where
 op : 0 ≤ e.op ∧ e.op < 8
 u : 0 ≤ e.u ∧ e.u < 1024
 wt : e.weighs = true → -1048576 ≤ e.wt ∧ e.wt ≤ 1048576
 ne : e.pairs = true → e.u ≠ e.v
 new : e.op = 0 → (look G.V e.u).isSome = false
 old : e.op ≠ 0 → e.pairs = false → (look G.V e.u).isSome = true
 two : e.op = 2 → (look G.V e.u).isSome = true ∧ (look G.V e.v).isSome = true ∧ (look G.E (btw e.u e.v)).isSome = false ∧ G.E.length < 1024
 edge : e.pairs = true → e.op ≠ 2 → (look G.E (btw e.u e.v)).isSome = true
theorem Gr.fine_of {G : Gr} {e : Ed} (h : G.wrong e = 0) : G.Fine e := by
 unfold Gr.wrong at h
 have p0 : e.op = 0 → e.pairs = false := fun h => by simp [Ed.pairs, h]
 have p2 : e.op = 2 → e.pairs = true := fun h => by simp [Ed.pairs, h]
 by_cases h1 : e.op < 0 ∨ 8 ≤ e.op
 · rw [if_pos h1] at h; simp at h
 rw [if_neg h1] at h
 split at h
 · simp at h
 rename_i h2
 split at h
 · simp at h
 rename_i h3
 split at h
 · simp at h
 rename_i h4
 split at h
 · simp at h
 rename_i h5
 split at h
 · simp at h
 rename_i h6
 split at h
 · simp at h
 rename_i h7
 split at h
 · simp at h
 rename_i h8
 clear h
 simp only [Bool.or_eq_true, Bool.and_eq_true, Bool.not_eq_true', decide_eq_true_eq, not_or, not_and, Bool.not_eq_true, Bool.not_eq_false] at h2 h3 h4 h5 h6 h7 h8
 refine ⟨by omega, ?_, ?_, h3, h4, ?_, ?_, ?_⟩
 · have := h2.1.1
   simpa [idB] using this
 · intro hw
   have := h2.2 hw
   simp [heavyB] at this
   omega
 · intro h0 hp
   exact h5.1 ⟨h0, hp⟩
 · intro h0
   have h9 := h5.2 h0
   refine ⟨?_, ?_, h7 h0, by have := h8 h0; omega⟩
   · cases hq : (look G.V e.u).isSome <;> simp_all
   · cases hq : (look G.V e.v).isSome <;> simp_all
 · intro hp hn
   exact h6 ⟨hp, hn⟩
theorem look_filter_isSome {α β : Type} [DecidableEq α] {l : List (α × β)} {x : α} {q : α × β → Bool} (h : (look l x).isSome = true) (hq : ∀ p, p.1 = x → q p = true) : (look (l.filter q) x).isSome = true := by
 obtain ⟨p, hp, hx⟩ := look_some.1 h
 exact look_some.2 ⟨p, List.mem_filter.2 ⟨hp, hq p hx⟩, hx⟩
theorem look_putS_isSome {α β : Type} [DecidableEq α] {lt : α → α → Bool} (O : Ord lt) {x : α} {t : β} {l : List (α × β)} (h : Srt lt l) {y : α} (hy : (look l y).isSome = true) : (look (putS lt x t l) y).isSome = true := by
 rw [look_putS O x t h]
 split
 · rfl
 · exact hy
theorem thOk_of {G : Gr} {e : Ed} (he : e.Wf) (h : G.Fine e) (hw : e.weighs = true) : ThOk (e.lab, e.wt) := ⟨he.lab, (h.wt hw).1, (h.wt hw).2⟩
theorem Gr.Ok.doit {G : Gr} (h : G.Ok) {e : Ed} (he : e.Wf) (hf : G.Fine e) : (G.doit e).Ok := by
 have hV := h.sV.nd ordV
 have hE := h.sE.nd ordE
 have putV : ∀ t : Th, ThOk t → (0 ≤ e.u ∧ e.u < 1024) → ({ G with V := putS ltV e.u t G.V } : Gr).Ok := fun t ht hu => by
   refine ⟨putS_srt ordV _ _ h.sV, h.sE, fun p hp => ?_, fun p hp => ?_, fun p hp => ?_, h.thE, h.most⟩
   · rcases (mem_putS ordV h.sV).1 hp with rfl | ⟨hp, -⟩
     · exact hu
     · exact h.ids p hp
   · obtain ⟨h1, h2, h3⟩ := h.ends p hp
     exact ⟨h1, look_putS_isSome ordV h.sV h2, look_putS_isSome ordV h.sV h3⟩
   · rcases (mem_putS ordV h.sV).1 hp with rfl | ⟨hp, -⟩
     · exact ht
     · exact h.thV p hp
 have putE : ∀ t : Th, ThOk t → e.u ≠ e.v → (look G.V e.u).isSome = true → (look G.V e.v).isSome = true → (putS ltE (btw e.u e.v) t G.E).length ≤ 1024 → ({ G with E := putS ltE (btw e.u e.v) t G.E } : Gr).Ok := fun t ht hn hu hv hl => by
   refine ⟨h.sV, putS_srt ordE _ _ h.sE, h.ids, fun p hp => ?_, h.thV, fun p hp => ?_, hl⟩
   · rcases (mem_putS ordE h.sE).1 hp with rfl | ⟨hp, -⟩
     · exact ⟨btw_ne hn, btw_look hu hv⟩
     · exact h.ends p hp
   · rcases (mem_putS ordE h.sE).1 hp with rfl | ⟨hp, -⟩
     · exact ht
     · exact h.thE p hp
 have oldE : (look G.E (btw e.u e.v)).isSome = true → (look G.V e.u).isSome = true ∧ (look G.V e.v).isSome = true := fun h1 => by
   obtain ⟨p, hp, hx⟩ := look_some.1 h1
   obtain ⟨-, h2, h3⟩ := h.ends p hp
   rw [hx] at h2 h3
   unfold btw at h2 h3
   simp only at h2 h3
   rcases Int.le_total e.u e.v with h4 | h4
   · rw [Int.min_eq_left h4] at h2
     rw [Int.max_eq_right h4] at h3
     exact ⟨h2, h3⟩
   · rw [Int.min_eq_right h4] at h2
     rw [Int.max_eq_left h4] at h3
     exact ⟨h3, h2⟩
 unfold Gr.doit
 split
 · rename_i h0
   exact putV _ (thOk_of he hf (by simp [Ed.weighs, h0])) hf.u
 split
 · rename_i h0 h1
   refine ⟨del_srt h.sV _, h.sE.filter _, fun p hp => h.ids p (mem_del.1 hp).1, fun p hp => ?_, fun p hp => h.thV p (mem_del.1 hp).1, fun p hp => h.thE p (List.mem_filter.1 hp).1, Nat.le_trans (List.length_filter_le _ _) h.most⟩
   obtain ⟨hp, hq⟩ := List.mem_filter.1 hp
   obtain ⟨h2, h3, h4⟩ := h.ends p hp
   simp at hq
   exact ⟨h2, look_filter_isSome h3 fun q hq' => by simp [hq', hq.1], look_filter_isSome h4 fun q hq' => by simp [hq', hq.2]⟩
 split
 · rename_i h0 h1 h2
   obtain ⟨h3, h4, h5, h6⟩ := hf.two h2
   have hp : e.pairs = true := by simp [Ed.pairs, h2]
   refine putE _ (thOk_of he hf (by simp [Ed.weighs, h2])) (hf.ne hp) h3 h4 ?_
   rw [putS_length ordE _ _ h.sE, h5]
   simp
   omega
 have hlen : ∀ t : Th, (look G.E (btw e.u e.v)).isSome = true → (putS ltE (btw e.u e.v) t G.E).length ≤ 1024 := fun t ht => by
   rw [putS_length ordE _ _ h.sE, ht]
   exact h.most
 split
 · rename_i h0 h1 h2 h3
   exact ⟨h.sV, del_srt h.sE _, h.ids, fun p hp => h.ends p (mem_del.1 hp).1, h.thV, fun p hp => h.thE p (mem_del.1 hp).1, Nat.le_trans (List.length_filter_le _ _) h.most⟩
 split
 · rename_i h0 h1 h2 h3 h4
   exact putV _ ⟨he.lab, (look_thOk h.thV hV e.u).2⟩ hf.u
 split
 · rename_i h0 h1 h2 h3 h4 h5
   exact putV _ ⟨(look_thOk h.thV hV e.u).1, hf.wt (by simp [Ed.weighs, h5])⟩ hf.u
 split
 · rename_i h0 h1 h2 h3 h4 h5 h6
   have hp : e.pairs = true := by simp [Ed.pairs, h6]
   have hl := hf.edge hp h2
   obtain ⟨hu, hv⟩ := oldE hl
   exact putE _ ⟨he.lab, (look_thOk h.thE hE _).2⟩ (hf.ne hp) hu hv (hlen _ hl)
 · rename_i h0 h1 h2 h3 h4 h5 h6
   have h7 : e.op = 7 := by have := hf.op; omega
   have hp : e.pairs = true := by simp [Ed.pairs, h7]
   have hl := hf.edge hp h2
   obtain ⟨hu, hv⟩ := oldE hl
   exact putE _ ⟨(look_thOk h.thE hE _).1, hf.wt (by simp [Ed.weighs, h7])⟩ (hf.ne hp) hu hv (hlen _ hl)
theorem Gr.Ok.app {G : Gr} (h : G.Ok) {e : Ed} (he : e.Wf) : (G.app e).Ok := by
 unfold Gr.app
 split
 · rename_i hw
   exact h.doit he (Gr.fine_of hw)
 · exact h
def edgB (u v : Int) (p : (Int × Int) × Th) : Bool := (decide (p.1.1 = u) && decide (p.1.2 = v)) || (decide (p.1.1 = v) && decide (p.1.2 = u))
def Gr.edge (G : Gr) (u v : Int) : Int := idx (edgB u v) G.E
end Go.Pal
