/- Maps of the call's own, told by a list of keys and elements: what a lookup yields, what a .. -/
import Derived.Test.YtgnlebnpnpjfmaaGreatDoorURu
import Derived.Maps.RangeWalk
import Derived.DeepKeys4
import Derived.Lib.ItoaLen
import Derived.Lib.AtoiAll
import Derived.Lib.AtoiAllCases
import Derived.Lib.ItoaMem
import Derived.Lib.SplitLaws
import Derived.Lib.IndexMore
import Derived.Lib.Join
set_option linter.all false
namespace Go.Pal
open Go Go.RowKit Go.ChangeMaps
open Go.Maps (has size Tidy IsMap Keyed)
structure Cod (α β : Type) where
 key : α → Value
 kl : α → Lit
 ok : α → Prop
 val : β → Value
 dat : β → DataW Unit
section
variable {α β : Type}
open Classical in
noncomputable def Cod.R (C : Cod α β) (v : Value) : Option (DataW Unit × List MemPlace) := if h : ∃ b, v = C.val b then some (C.dat h.choose, []) else none
structure Cod.Good (C : Cod α β) (P : Program) (k : TypeId) : Prop where
 keyed : Keyed P k
 kinj : ∀ x y, C.ok x → C.ok y → C.kl x = C.kl y → x = y
 isk : ∀ x, C.ok x → WideAt.IsKeyLit (C.kl x)
 keyOf : ∀ x, C.ok x → keyOf P k (C.key x) = some (C.kl x)
 vinj : ∀ a b, C.val a = C.val b → a = b
 dinj : ∀ a b, C.dat a = C.dat b → a = b
variable {C : Cod α β} {P : Program} {k : TypeId}
theorem Cod.Good.R_val (G : C.Good P k) (b : β) : C.R (C.val b) = some (C.dat b, []) := by
 unfold Cod.R
 have h : ∃ s, C.val b = C.val s := ⟨b, rfl⟩
 rw [dif_pos h, ← G.vinj _ _ h.choose_spec]
theorem Cod.R_inv {v : Value} {z : DataW Unit × List MemPlace} (h : C.R v = some z) : ∃ b, v = C.val b ∧ z = (C.dat b, []) := by
 unfold Cod.R at h
 split at h
 · rename_i hx
   exact ⟨hx.choose, hx.choose_spec, (Option.some.inj h).symm⟩
 · cases h
def look [DecidableEq α] (l : List (α × β)) (x : α) : Option β := (l.find? fun p => decide (p.1 = x)).map (·.2)
def del [DecidableEq α] (x : α) (l : List (α × β)) : List (α × β) := l.filter fun p => !decide (p.1 = x)
def NoDup (l : List (α × β)) : Prop := l.Pairwise fun a b => a.1 ≠ b.1
theorem NoDup.perm {l l' : List (α × β)} (h : NoDup l) (hp : l.Perm l') : NoDup l' := (hp.pairwise_iff (fun {_ _} h => Ne.symm h)).1 h
theorem NoDup.one {l : List (α × β)} (h : NoDup l) {p q : α × β} (hp : p ∈ l) (hq : q ∈ l) (e : p.1 = q.1) : p = q := by
 induction l with
 | nil => simp at hp
 | cons a r ih =>
   unfold NoDup at h
   rw [List.pairwise_cons] at h
   rcases List.mem_cons.1 hp with rfl | hp'
   · rcases List.mem_cons.1 hq with rfl | hq'
     · rfl
     · exact absurd e (h.1 q hq')
   · rcases List.mem_cons.1 hq with rfl | hq'
     · exact absurd e.symm (h.1 p hp')
     · exact ih h.2 hp' hq'
theorem look_mem [DecidableEq α] {l : List (α × β)} {x : α} {b : β} (hl : NoDup l) : look l x = some b ↔ (x, b) ∈ l := by
 unfold look
 constructor
 · intro h
   obtain ⟨p, hp, rfl⟩ := Option.map_eq_some_iff.1 h
   have h1 := List.mem_of_find?_eq_some hp
   have h2 := List.find?_some hp
   simp only [decide_eq_true_eq] at h2
   rw [← h2]
   exact h1
 · intro h
   cases hf : l.find? (fun p => decide (p.1 = x)) with
   | none =>
     rw [List.find?_eq_none] at hf
     have := hf _ h
     simp at this
   | some p =>
     have h1 := List.mem_of_find?_eq_some hf
     have h2 := List.find?_some hf
     simp only [decide_eq_true_eq] at h2
     rw [hl.one h1 h h2]
     rfl
theorem look_none [DecidableEq α] {l : List (α × β)} {x : α} : look l x = none ↔ ∀ p ∈ l, p.1 ≠ x := by
 unfold look
 simp [List.find?_eq_none]
theorem look_some [DecidableEq α] {l : List (α × β)} {x : α} : (look l x).isSome = true ↔ ∃ p ∈ l, p.1 = x := by
 unfold look
 simp [List.find?_isSome]
theorem look_perm [DecidableEq α] {l l' : List (α × β)} (hl : NoDup l) (h : l.Perm l') (x : α) : look l x = look l' x := by
 apply Option.ext
 intro b
 rw [look_mem hl, look_mem (hl.perm h), h.mem_iff]
theorem mem_del [DecidableEq α] {l : List (α × β)} {x : α} {p : α × β} : p ∈ del x l ↔ p ∈ l ∧ p.1 ≠ x := by unfold del; simp
theorem NoDup.del [DecidableEq α] {l : List (α × β)} (h : NoDup l) (x : α) : NoDup (del x l) := h.filter _
theorem NoDup.ins [DecidableEq α] {l : List (α × β)} (h : NoDup l) (x : α) (b : β) : NoDup ((x, b) :: Pal.del x l) :=
 List.pairwise_cons.2 ⟨fun _ hp e => (mem_del.1 hp).2 e.symm, h.del x⟩
structure MRd (C : Cod α β) (l : List (α × β)) (D : DataW Unit) : Prop where
 tidy : Tidy D
 ok : ∀ p ∈ l, C.ok p.1
 nd : NoDup l
 has : ∀ kk, has D kk = l.any fun p => (C.kl p.1).sameKey kk
 at_ : ∀ p ∈ l, ∀ z, D.atKey (C.kl p.1) z = C.dat p.2
 size : size D = l.length
theorem mrd_nil : MRd C ([] : List (α × β)) (.map []) := ⟨Maps.tidy_empty, by simp, List.Pairwise.nil, fun _ => rfl, by simp, rfl⟩
theorem MRd.perm [DecidableEq α] {l l' : List (α × β)} {D : DataW Unit} (h : MRd C l D) (hp : l.Perm l') : MRd C l' D :=
 ⟨h.tidy, fun p hq => h.ok p (hp.mem_iff.2 hq), h.nd.perm hp, fun kk => by rw [h.has]; rw [Bool.eq_iff_iff, List.any_eq_true, List.any_eq_true]; simp only [hp.mem_iff], fun p hq => h.at_ p (hp.mem_iff.2 hq), h.size.trans hp.length_eq⟩
theorem MRd.has_kl [DecidableEq α] (G : C.Good P k) {l : List (α × β)} {D : DataW Unit} (h : MRd C l D) {x : α} (hx : C.ok x) : Maps.has D (C.kl x) = (look l x).isSome := by
 rw [h.has, Bool.eq_iff_iff, List.any_eq_true, look_some]
 constructor
 · rintro ⟨p, hp, hs⟩
   exact ⟨p, hp, G.kinj _ _ (h.ok p hp) hx (WideAt.sameKey_eq hs)⟩
 · rintro ⟨p, hp, rfl⟩
   exact ⟨p, hp, WideAt.sameKey_self (G.isk _ hx)⟩
theorem MRd.at_kl [DecidableEq α] (G : C.Good P k) {l : List (α × β)} {D : DataW Unit} (h : MRd C l D) {x : α} (hx : C.ok x) (b0 : β) : D.atKey (C.kl x) (C.dat b0) = C.dat ((look l x).getD b0) := by
 cases hl : look l x with
 | none =>
   have := h.has_kl G hx
   rw [hl] at this
   exact Maps.atKey_of_not_has this _
 | some b => exact h.at_ (x, b) ((look_mem h.nd).1 hl) _
theorem kl_ne (G : C.Good P k) {x y : α} (hx : C.ok x) (hy : C.ok y) (h : x ≠ y) : C.kl x ≠ C.kl y := fun e => h (G.kinj _ _ hx hy e)
theorem MRd.put [DecidableEq α] (G : C.Good P k) {l l' : List (α × β)} {D : DataW Unit} (h : MRd C l D) {x : α} (hx : C.ok x) (b : β) (hp : ((x, b) :: del x l).Perm l') : MRd C l' (D.put (C.kl x) (C.dat b)) := by
 refine MRd.perm ⟨h.tidy.put (G.isk x hx) _, fun p hq => ?_, h.nd.ins x b, fun kk => ?_, fun p hq z => ?_, ?_⟩ hp
 · rcases List.mem_cons.1 hq with rfl | hq
   · exact hx
   · exact h.ok p (mem_del.1 hq).1
 · by_cases hkk : kk = C.kl x
   · subst hkk
     rw [Maps.has_put_same h.tidy.isMap (G.isk x hx)]
     simp [WideAt.sameKey_self (G.isk x hx)]
   · rw [Maps.has_put_other hkk, h.has, List.any_cons, Maps.sameKey_ne (Ne.symm hkk), Bool.false_or, Bool.eq_iff_iff, List.any_eq_true, List.any_eq_true]
     constructor
     · rintro ⟨p, hpl, hs⟩
       refine ⟨p, mem_del.2 ⟨hpl, fun e => hkk ?_⟩, hs⟩
       rw [← e]
       exact (WideAt.sameKey_eq hs).symm
     · rintro ⟨p, hpl, hs⟩
       exact ⟨p, (mem_del.1 hpl).1, hs⟩
 · rcases List.mem_cons.1 hq with rfl | hq
   · exact Maps.atKey_put_same h.tidy.isMap (G.isk x hx) _ _
   · obtain ⟨hpl, hne⟩ := mem_del.1 hq
     rw [Maps.atKey_put_other (kl_ne G (h.ok p hpl) hx hne)]
     exact h.at_ p hpl z
 · rw [Maps.size_put h.tidy, h.has_kl G hx, h.size]
   have hlen : (del x l).length + (if (look l x).isSome = true then 1 else 0) = l.length := by
     clear hp
     have hnd := h.nd
     clear h
     induction l with
     | nil => rfl
     | cons p r ih =>
       unfold NoDup at hnd
       rw [List.pairwise_cons] at hnd
       have ih := ih hnd.2
       by_cases hpx : p.1 = x
       · have hnone : look r x = none := look_none.2 fun q hq e => hnd.1 q hq (by rw [hpx, e])
         rw [hnone] at ih
         have e1 : del x (p :: r) = del x r := by unfold del; rw [List.filter_cons, if_neg (by simp [hpx])]
         have e2 : look (p :: r) x = some p.2 := by unfold look; rw [List.find?_cons, show decide (p.1 = x) = true by simp [hpx]]; rfl
         rw [e1, e2]
         simp at ih ⊢
         omega
       · have e1 : del x (p :: r) = p :: del x r := by unfold del; rw [List.filter_cons, if_pos (by simp [hpx])]
         have e2 : look (p :: r) x = look r x := by unfold look; rw [List.find?_cons, show decide (p.1 = x) = false by simp [hpx]]
         rw [e1, e2]
         simp only [List.length_cons]
         omega
   rw [List.length_cons]
   split <;> simp_all <;> omega
theorem MRd.del [DecidableEq α] (G : C.Good P k) {l : List (α × β)} {D : DataW Unit} (h : MRd C l D) {x : α} (hx : C.ok x) : MRd C (del x l) (D.del (C.kl x)) := by
 have hp := fun b => h.put G hx b (List.Perm.refl _)
 refine ⟨h.tidy.del _, fun p hq => h.ok p (mem_del.1 hq).1, h.nd.del x, fun kk => ?_, fun p hq z => ?_, ?_⟩
 · by_cases hkk : kk = C.kl x
   · subst hkk
     rw [Maps.has_del_same, Eq.comm, List.any_eq_false]
     intro p hq
     rw [Maps.sameKey_ne (kl_ne G (h.ok p (mem_del.1 hq).1) hx (mem_del.1 hq).2)]
     simp
   · rw [Maps.has_del_other hkk, h.has, Bool.eq_iff_iff, List.any_eq_true, List.any_eq_true]
     constructor
     · rintro ⟨p, hpl, hs⟩
       refine ⟨p, mem_del.2 ⟨hpl, fun e => hkk ?_⟩, hs⟩
       rw [← e]
       exact (WideAt.sameKey_eq hs).symm
     · rintro ⟨p, hpl, hs⟩
       exact ⟨p, (mem_del.1 hpl).1, hs⟩
 · obtain ⟨hpl, hne⟩ := mem_del.1 hq
   rw [Maps.atKey_del_other (kl_ne G (h.ok p hpl) hx hne)]
   exact h.at_ p hpl z
 · have h1 := Maps.size_del (k := C.kl x) h.tidy
   rw [h.has_kl G hx, h.size] at h1
   cases hl : look l x with
   | none =>
     rw [hl] at h1
     have : Pal.del x l = l := by unfold Pal.del; rw [List.filter_eq_self]; intro p hpl; simp [look_none.1 hl p hpl]
     rw [this]
     simpa using h1
   | some b =>
     rw [hl] at h1
     have h2 := (hp b).size
     rw [Maps.size_put h.tidy, h.has_kl G hx, hl, h.size] at h2
     simp at h1 h2
     omega
def Own (C : Cod α β) (P : Program) (k : TypeId) (w : World) (b : Nat) (l : List (α × β)) : Prop := ∃ D, w.ownsMap P k C.R b l.length D ∧ MRd C l D
theorem Own.made [DecidableEq α] (w : World) : Own C P k (w.alloc (.map #[] 0)) w.heap.size ([] : List (α × β)) := ⟨_, World.ownsMap_made w P k C.R, mrd_nil⟩
theorem Own.lt {w : World} {b : Nat} {l : List (α × β)} (h : Own C P k w b l) : b < w.heap.size := by obtain ⟨D, h, -⟩ := h; exact h.lt
theorem Own.congr {w w' : World} {b : Nat} {l : List (α × β)} (h : Own C P k w b l) (hb : w'.heap[b]? = w.heap[b]?) : Own C P k w' b l := by
 obtain ⟨D, ⟨es, clock, h1, h2⟩, h3⟩ := h
 exact ⟨D, ⟨es, clock, hb.trans h1, h2⟩, h3⟩
theorem Own.below [DecidableEq α] {w w' : World} {b B : Nat} {l : List (α × β)} (h : Own C P k w b l) (hb : Below B w w') (hB : b < B) : Own C P k w' b l := h.congr (hb.block b hB)
theorem Own.drew [DecidableEq α] {w : World} {b : Nat} {l : List (α × β)} (h : Own C P k w b l) : Own C P k w.drew b l := h.congr rfl
theorem Own.perm [DecidableEq α] {w : World} {b : Nat} {l l' : List (α × β)} (h : Own C P k w b l) (hp : l.Perm l') : Own C P k w b l' := by
 obtain ⟨D, h1, h2⟩ := h
 exact ⟨D, by rw [← hp.length_eq]; exact h1, h2.perm hp⟩
theorem Own.nd {w : World} {b : Nat} {l : List (α × β)} (h : Own C P k w b l) : NoDup l := by obtain ⟨D, _, h⟩ := h; exact h.nd
theorem Own.okd {w : World} {b : Nat} {l : List (α × β)} (h : Own C P k w b l) : ∀ p ∈ l, C.ok p.1 := by obtain ⟨D, _, h⟩ := h; exact h.ok
theorem Own.look [DecidableEq α] {w : World} {b : Nat} {l : List (α × β)} (h : Own C P k w b l) (G : C.Good P k) {t e : TypeId} (ht : P.underlying t = some (.map k e)) {b0 : β} (hz : ∀ w, (zeroValue e).run P w = .ok (C.val b0) w) {x : α} (hx : C.ok x) :
   (Instr.lookup t (.map (some b)) (C.key x) false).run P w = .ok (C.val ((look l x).getD b0)) w := by
 obtain ⟨D, h, hD⟩ := h
 obtain ⟨v, ps, hr, hv⟩ := h.lookup G.keyed ht (hz w) (G.R_val b0) (G.keyOf x hx)
 rw [hD.at_kl G hx] at hv
 obtain ⟨b, rfl, hb⟩ := Cod.R_inv hv
 simp only [Prod.mk.injEq] at hb
 rw [hr, G.dinj _ _ hb.1]
theorem Own.look_ok [DecidableEq α] {w : World} {b : Nat} {l : List (α × β)} (h : Own C P k w b l) (G : C.Good P k) {t e : TypeId} (ht : P.underlying t = some (.map k e)) {b0 : β} (hz : ∀ w, (zeroValue e).run P w = .ok (C.val b0) w) {x : α} (hx : C.ok x) :
   (Instr.lookup t (.map (some b)) (C.key x) true).run P w = .ok (.tuple #[C.val ((Pal.look l x).getD b0), .bool (Pal.look l x).isSome]) w := by
 obtain ⟨D, h, hD⟩ := h
 obtain ⟨v, ps, hr, hv⟩ := h.look_ok G.keyed ht (hz w) (G.R_val b0) (G.keyOf x hx)
 rw [hD.at_kl G hx] at hv
 obtain ⟨b, rfl, hb⟩ := Cod.R_inv hv
 simp only [Prod.mk.injEq] at hb
 rw [hr, G.dinj _ _ hb.1, hD.has_kl G hx]
theorem Own.len {w : World} {b : Nat} {l : List (α × β)} (h : Own C P k w b l) {t e : TypeId} (ht : P.underlying t = some (.map k e)) (ty : TypeId) : (Builtin.len_ #[t] ty #[.map (some b)]).run P w = .ok (.int .i64 (l.length : Int)) w := by
 obtain ⟨D, h, hD⟩ := h
 rw [h.len ht ty, hD.size]
theorem ownsMap_tight {w : World} {R : Value → Option (DataW Unit × List MemPlace)} {b n : Nat} {D : DataW Unit} (h : w.ownsMap P k R b n D) : w.ownsMap P k R b (size D) D := by
 obtain ⟨es, clock, h1, h2, h3, rfl⟩ := h
 exact ⟨es, clock, h1, h2, by simp [Maps.size, length_sorted], rfl⟩
theorem Own.store [DecidableEq α] {w : World} {b : Nat} {l l' : List (α × β)} (h : Own C P k w b l) (G : C.Good P k) {t e : TypeId} (ht : P.underlying t = some (.map k e)) {x : α} (hx : C.ok x) (y : β) (hp : ((x, y) :: Pal.del x l).Perm l') (hl : l.length < 1000000) :
   ∃ w', (Instr.mapUpdate t (.map (some b)) (C.key x) (C.val y)).run P w = .ok () w' ∧ Own C P k w' b l' ∧ w.grownBy w' (some b) ∧ w'.heap.size = w.heap.size := by
 obtain ⟨D, h, hD⟩ := h
 obtain ⟨w', hr, ho, hg⟩ := h.store G.keyed ht (Nat.lt_of_lt_of_le hl (by unfold maxLen; omega)) (G.keyOf x hx) (G.R_val y)
 have hD' := MRd.put G hD hx y hp
 refine ⟨w', hr, ⟨_, ?_, hD'⟩, hg.grown, ?_⟩
 · rw [← hD'.size]; exact ownsMap_tight ho
 · obtain ⟨es, clock, es', clock', -, rfl⟩ := hg; simp [setBlock]
theorem Own.drop [DecidableEq α] {w : World} {b : Nat} {l : List (α × β)} (h : Own C P k w b l) (G : C.Good P k) {t e : TypeId} (ht : P.underlying t = some (.map k e)) {x : α} (hx : C.ok x) (ty : TypeId) :
   ∃ w', (Builtin.delete_ #[t, k] ty #[.map (some b), C.key x]).run P w = .ok (.tuple #[]) w' ∧ Own C P k w' b (del x l) ∧ w.grownBy w' (some b) ∧ w'.heap.size = w.heap.size := by
 obtain ⟨D, h, hD⟩ := h
 obtain ⟨w', hr, ho, hg⟩ := h.drop G.keyed ht (G.keyOf x hx) ty
 have hD' := MRd.del G hD hx
 refine ⟨w', hr, ⟨_, ?_, hD'⟩, hg.grown, ?_⟩
 · rw [← hD'.size]; exact ownsMap_tight ho
 · obtain ⟨es, clock, es', clock', -, rfl⟩ := hg; simp [setBlock]
def Rng (C : Cod α β) (P : Program) (k : TypeId) (w : World) (b r : Nat) (l rest : List (α × β)) : Prop :=
 ∃ D left cnt, w.ranges P k C.R b r l.length D left cnt ∧ MRd C l D ∧ (∀ p ∈ rest, p ∈ l) ∧ NoDup rest ∧ ∀ kk, left kk = rest.any fun p => (C.kl p.1).sameKey kk
theorem Rng.own {w : World} {b r : Nat} {l rest : List (α × β)} (h : Rng C P k w b r l rest) : Own C P k w b l := by
 obtain ⟨D, left, cnt, h1, h2, -⟩ := h
 exact ⟨D, h1.owns, h2⟩
theorem Rng.lt {w : World} {b r : Nat} {l rest : List (α × β)} (h : Rng C P k w b r l rest) : r < w.heap.size := by obtain ⟨D, left, cnt, h1, -⟩ := h; exact h1.lt
theorem Rng.ne {w : World} {b r : Nat} {l rest : List (α × β)} (h : Rng C P k w b r l rest) : r ≠ b := by obtain ⟨D, left, cnt, h1, -⟩ := h; exact h1.ne
theorem Rng.congr {w w' : World} {b r : Nat} {l rest : List (α × β)} (h : Rng C P k w b r l rest) (hb : w'.heap[b]? = w.heap[b]?) (hr : w'.heap[r]? = w.heap[r]?) : Rng C P k w' b r l rest := by
 obtain ⟨D, left, cnt, ⟨es, clock, since, seen, c0, h1, h2, h3, h4, h5, h6⟩, hrest⟩ := h
 exact ⟨D, left, cnt, ⟨es, clock, since, seen, c0, hb.trans h1, h2, h3, h4, hr.trans h5, h6⟩, hrest⟩
theorem Own.range {w : World} {b : Nat} {l : List (α × β)} (h : Own C P k w b l) (G : C.Good P k) {t e : TypeId} (ht : P.underlying t = some (.map k e)) :
   ∃ w', (Instr.range t (.map (some b))).run P w = .ok (.pointer (some ⟨w.heap.size, 0, none⟩)) w' ∧ Rng C P k w' b w.heap.size l l ∧ Below w.heap.size w w' ∧ w'.heap.size = w.heap.size + 1 := by
 obtain ⟨D, h, hD⟩ := h
 obtain ⟨w', hr, h1, h2, h3⟩ := h.range G.keyed ht
 exact ⟨w', hr, ⟨D, _, _, h1, hD, fun _ h => h, hD.nd, hD.has⟩, ⟨h2.os, h2.tape, h2.output, h2.size, fun i hi => h2.block i hi (by simp)⟩, h3⟩
theorem Rng.next [DecidableEq α] {w : World} {b r : Nat} {l rest : List (α × β)} (h : Rng C P k w b r l rest) (G : C.Good P k) (ty : TypeId) :
   (rest = [] ∧ (Instr.next (.pointer (some ⟨r, 0, none⟩)) false ty).run P w = .ok (.tuple #[.bool false]) w) ∨
   ∃ x y r1 r2 w', rest = r1 ++ (x, y) :: r2 ∧ (Instr.next (.pointer (some ⟨r, 0, none⟩)) false ty).run P w = .ok (.tuple #[.bool true, C.key x, C.val y]) w' ∧ Rng C P k w' b r l (r1 ++ r2) ∧ w.grownBy w' (some r) ∧ w'.heap.size = w.heap.size ∧
     (Instr.entry (.pointer (some ⟨r, 0, none⟩))).run P w' = .ok (.tuple #[C.key x, C.val y]) w' := by
 obtain ⟨D, left, cnt, h1, h2, h3, h4, h5⟩ := h
 rcases h1.next G.keyed ty with ⟨hc, hl, hrun⟩ | ⟨key, v, kl, y, w', cnt', hkey, hlk, hv, hat, hrun, hr', hlt, hg, hs, hen⟩
 · refine .inl ⟨?_, hrun⟩
   cases rest with
   | nil => rfl
   | cons p q =>
     have := hl (C.kl p.1)
     rw [h5, List.any_cons, WideAt.sameKey_self (G.isk _ (h2.ok p (h3 p (by simp))))] at this
     cases this
 · rw [h5, List.any_eq_true] at hlk
   obtain ⟨p, hp, hs1⟩ := hlk
   have hkl := WideAt.sameKey_eq hs1
   have hpl := h3 p hp
   have hok := h2.ok p hpl
   rw [← hkl] at hkey hat hr'
   have hkk := G.keyed.inj hkey (G.keyOf p.1 hok)
   subst hkk
   obtain ⟨b', rfl, hb'⟩ := Cod.R_inv hv
   have h6 := hat (C.dat b')
   rw [h2.at_ p hpl, hb'] at h6
   have := G.dinj _ _ h6
   subst this
   obtain ⟨r1, r2, rfl⟩ := List.append_of_mem hp
   refine .inr ⟨p.1, p.2, r1, r2, w', rfl, hrun, ⟨D, _, cnt', hr', h2, fun q hq => h3 q ?_, ?_, fun kk => ?_⟩, hg, hs, hen⟩
   · rcases List.mem_append.1 hq with h | h
     · exact List.mem_append_left _ h
     · exact List.mem_append_right _ (List.mem_cons_of_mem _ h)
   · exact List.Pairwise.sublist (List.Sublist.append_left (List.sublist_cons_self _ _) _) h4
   · have hnd := h4.perm (List.perm_middle)
     unfold NoDup at hnd
     rw [List.pairwise_cons] at hnd
     rw [h5, Bool.eq_iff_iff]
     simp only [Bool.and_eq_true, List.any_eq_true, Bool.not_eq_true']
     constructor
     · rintro ⟨⟨q, hq, hqs⟩, hne⟩
       refine ⟨q, ?_, hqs⟩
       rcases List.mem_append.1 hq with h | h
       · exact List.mem_append_left _ h
       · rcases List.mem_cons.1 h with rfl | h
         · exfalso
           have := WideAt.sameKey_eq hqs
           rw [← this, WideAt.sameKey_self (G.isk _ hok)] at hne
           cases hne
         · exact List.mem_append_right _ h
     · rintro ⟨q, hq, hqs⟩
       have hne : p.1 ≠ q.1 := hnd.1 q hq
       have hql : q ∈ l := h3 q (by
         rcases List.mem_append.1 hq with h | h
         · exact List.mem_append_left _ h
         · exact List.mem_append_right _ (List.mem_cons_of_mem _ h))
       refine ⟨⟨q, ?_, hqs⟩, ?_⟩
       · rcases List.mem_append.1 hq with h | h
         · exact List.mem_append_left _ h
         · exact List.mem_append_right _ (List.mem_cons_of_mem _ h)
       · rw [← WideAt.sameKey_eq hqs]
         exact Maps.sameKey_ne (fun e => hne (G.kinj _ _ hok (h2.ok q hql) e.symm))
end
end Go.Pal
namespace Go.Pal
open Go
abbrev Th := Nat × Int
def thD (t : Th) : DataW Unit := .agg [.lit (.int .u8 (t.1 : Int)), .lit (.int .i64 t.2)]
def thC (t : Th) : Array Value := #[.int .u8 (t.1 : Int), .int .i64 t.2]
def thV (t : Th) : Value := .agg #[.int .u8 (t.1 : Int), .int .i64 t.2]
theorem thD_inj (a b : Th) (h : thD a = thD b) : a = b := by
 obtain ⟨a1, a2⟩ := a
 obtain ⟨b1, b2⟩ := b
 simp only [thD, DataW.agg.injEq, List.cons.injEq, DataW.lit.injEq, Lit.int.injEq, true_and, and_true] at h
 obtain ⟨h1, h2⟩ := h
 have : a1 = b1 := by omega
 rw [this, h2]
theorem thV_inj (a b : Th) (h : thV a = thV b) : a = b := by
 obtain ⟨a1, a2⟩ := a
 obtain ⟨b1, b2⟩ := b
 simp only [thV, Value.agg.injEq, Array.mk.injEq, List.cons.injEq, Value.int.injEq, true_and, and_true] at h
 obtain ⟨h1, h2⟩ := h
 have : a1 = b1 := by omega
 rw [this, h2]
section
variable {α β : Type} [DecidableEq α]
def putS (lt : α → α → Bool) (x : α) (t : β) : List (α × β) → List (α × β)
 | [] => [(x, t)]
 | p :: r => if lt x p.1 = true then (x, t) :: p :: r else if x = p.1 then (x, t) :: r else p :: putS lt x t r
structure Ord (lt : α → α → Bool) : Prop where
 irrefl : ∀ x, lt x x = false
 trans : ∀ x y z, lt x y = true → lt y z = true → lt x z = true
 total : ∀ x y, lt x y = false → lt y x = false → x = y
def Srt (lt : α → α → Bool) (l : List (α × β)) : Prop := l.Pairwise fun a b => lt a.1 b.1 = true
variable {lt : α → α → Bool}
omit [DecidableEq α] in
theorem Srt.nd (O : Ord lt) {l : List (α × β)} (h : Srt lt l) : NoDup l := h.imp fun {a b} h e => by
 rw [e, O.irrefl] at h
 cases h
theorem del_all {x : α} {l : List (α × β)} (h : ∀ p ∈ l, p.1 ≠ x) : del x l = l := by
 unfold del
 rw [List.filter_eq_self]
 intro p hp
 simp [h p hp]
theorem putS_perm (O : Ord lt) (x : α) (t : β) : ∀ {l : List (α × β)}, Srt lt l → ((x, t) :: del x l).Perm (putS lt x t l)
 | [], _ => List.Perm.refl _
 | p :: r, h => by
   unfold Srt at h
   rw [List.pairwise_cons] at h
   unfold putS
   by_cases h1 : lt x p.1 = true
   · rw [if_pos h1, del_all fun q hq e => ?_]
     rcases List.mem_cons.1 hq with rfl | hq
     · rw [e, O.irrefl] at h1; cases h1
     · have := O.trans _ _ _ h1 (h.1 q hq)
       rw [e, O.irrefl] at this
       cases this
   · rw [if_neg h1]
     by_cases h2 : x = p.1
     · rw [if_pos h2]
       have e : del x (p :: r) = r := by
         unfold del
         rw [List.filter_cons, if_neg (by simp [h2])]
         exact del_all fun q hq e => by
           have := h.1 q hq
           rw [e, h2, O.irrefl] at this
           cases this
       rw [e]
     · rw [if_neg h2]
       have e : del x (p :: r) = p :: del x r := by unfold del; rw [List.filter_cons, if_pos (by simp; exact fun e => h2 e.symm)]
       rw [e]
       exact (List.Perm.swap p (x, t) _).trans ((putS_perm O x t h.2).cons p)
theorem mem_putS (O : Ord lt) {x : α} {t : β} {l : List (α × β)} (h : Srt lt l) {p : α × β} : p ∈ putS lt x t l ↔ p = (x, t) ∨ (p ∈ l ∧ p.1 ≠ x) := by
 rw [← (putS_perm O x t h).mem_iff, List.mem_cons, mem_del]
theorem putS_srt (O : Ord lt) (x : α) (t : β) : ∀ {l : List (α × β)}, Srt lt l → Srt lt (putS lt x t l)
 | [], _ => List.pairwise_singleton _ _
 | p :: r, h => by
   have h0 := h
   unfold Srt at h
   rw [List.pairwise_cons] at h
   unfold putS
   by_cases h1 : lt x p.1 = true
   · rw [if_pos h1]
     refine List.pairwise_cons.2 ⟨fun q hq => ?_, h0⟩
     rcases List.mem_cons.1 hq with rfl | hq
     · exact h1
     · exact O.trans _ _ _ h1 (h.1 q hq)
   · rw [if_neg h1]
     by_cases h2 : x = p.1
     · rw [if_pos h2]
       exact List.pairwise_cons.2 ⟨fun q hq => by rw [h2]; exact h.1 q hq, h.2⟩
     · rw [if_neg h2]
       refine List.pairwise_cons.2 ⟨fun q hq => ?_, putS_srt O x t h.2⟩
       rcases (mem_putS O h.2).1 hq with rfl | ⟨hq, -⟩
       · show lt p.1 x = true
         cases h3 : lt p.1 x with
         | true => rfl
         | false => exact absurd (O.total _ _ (by simpa using h1) h3) h2
       · exact h.1 q hq
theorem del_srt {l : List (α × β)} (h : Srt lt l) (x : α) : Srt lt (del x l) := h.filter _
theorem putS_length (O : Ord lt) (x : α) (t : β) {l : List (α × β)} (h : Srt lt l) : (putS lt x t l).length = if (look l x).isSome then l.length else l.length + 1 := by
 rw [← (putS_perm O x t h).length_eq, List.length_cons]
 by_cases hx : ∃ p ∈ l, p.1 = x
 · rw [if_pos (look_some.2 hx)]
   obtain ⟨p, hp, hpx⟩ := hx
   have hlt := List.length_filter_lt_length_iff_exists (p := fun p : α × β => !decide (p.1 = x)) (l := l) |>.2 ⟨p, hp, by simp [hpx]⟩
   have hperm : l.Perm (p :: del x l) := by
     refine (List.perm_ext_iff_of_nodup ?_ ?_).2 fun q => ?_
     · exact (h.nd O).imp fun {a b} h e => h (by rw [e])
     · refine List.nodup_cons.2 ⟨fun hm => (mem_del.1 hm).2 hpx, ((h.nd O).del x).imp fun {a b} h e => h (by rw [e])⟩
     · rw [List.mem_cons, mem_del]
       constructor
       · intro hq
         by_cases hqx : q.1 = x
         · exact .inl ((h.nd O).one hq hp (by rw [hqx, hpx]))
         · exact .inr ⟨hq, hqx⟩
       · rintro (rfl | ⟨hq, -⟩)
         · exact hp
         · exact hq
   rw [hperm.length_eq, List.length_cons]
 · rw [if_neg (fun hs => hx (look_some.1 hs)), del_all fun p hp e => hx ⟨p, hp, e⟩]
theorem look_putS (O : Ord lt) (x : α) (t : β) {l : List (α × β)} (h : Srt lt l) (y : α) : look (putS lt x t l) y = if y = x then some t else look l y := by
 apply Option.ext
 intro b
 rw [look_mem ((putS_srt O x t h).nd O), mem_putS O h]
 by_cases hy : y = x
 · rw [if_pos hy]
   simp [hy]
   exact eq_comm
 · rw [if_neg hy, look_mem (h.nd O)]
   simp [hy]
theorem look_del {l : List (α × β)} (h : NoDup l) (x y : α) : look (del x l) y = if y = x then none else look l y := by
 apply Option.ext
 intro b
 rw [look_mem (h.del x), mem_del]
 by_cases hy : y = x
 · rw [if_pos hy]
   simp [hy]
 · rw [if_neg hy, look_mem h]
   simp [hy]
omit [DecidableEq α] in
theorem srt_unique (O : Ord lt) : ∀ {l l' : List (α × β)}, Srt lt l → Srt lt l' → l.Perm l' → l = l'
 | [], l', _, _, hp => (List.Perm.nil_eq hp)
 | p :: r, [], _, _, hp => by have := hp.length_eq; simp at this
 | p :: r, q :: s, h, h', hp => by
   have h0 := h
   have h0' := h'
   unfold Srt at h h'
   rw [List.pairwise_cons] at h h'
   have hpq : p = q := by
     have h1 : p ∈ q :: s := hp.mem_iff.1 (by simp)
     have h2 : q ∈ p :: r := hp.mem_iff.2 (by simp)
     rcases List.mem_cons.1 h1 with e | h1
     · exact e
     · rcases List.mem_cons.1 h2 with e | h2
       · exact e.symm
       · have := O.trans _ _ _ (h'.1 p h1) (h.1 q h2)
         rw [O.irrefl] at this
         cases this
   subst hpq
   rw [srt_unique O h.2 h'.2 (List.Perm.cons_inv hp)]
end
def ltV (a b : Int) : Bool := decide (a < b)
def ltE (a b : Int × Int) : Bool := decide (a.1 < b.1 ∨ (a.1 = b.1 ∧ a.2 < b.2))
theorem ordV : Ord ltV := ⟨fun x => by simp [ltV], fun x y z h1 h2 => by simp [ltV] at *; omega, fun x y h1 h2 => by simp [ltV] at *; omega⟩
theorem ordE : Ord ltE := ⟨fun x => by simp [ltE], fun x y z h1 h2 => by simp [ltE] at *; omega, fun x y h1 h2 => by
 simp [ltE] at *
 apply Prod.ext <;> omega⟩
structure Gr where
 V : List (Int × Th)
 E : List ((Int × Int) × Th)
structure Ed where
 op : Int
 u : Int
 v : Int
 lab : Nat
 wt : Int
def InI (n : Int) : Prop := -9223372036854775808 ≤ n ∧ n ≤ 9223372036854775807
structure Ed.Wf (e : Ed) : Prop where
 op : InI e.op
 u : InI e.u
 v : InI e.v
 lab : e.lab < 256
 wt : InI e.wt
def Ed.pairs (e : Ed) : Bool := decide (e.op = 2 ∨ e.op = 3 ∨ e.op = 6 ∨ e.op = 7)
def Ed.weighs (e : Ed) : Bool := decide (e.op = 0 ∨ e.op = 2 ∨ e.op = 5 ∨ e.op = 7)
def idB (n : Int) : Bool := decide (0 ≤ n ∧ n < 1024)
def heavyB (n : Int) : Bool := decide (n < -1048576 ∨ 1048576 < n)
def btw (u v : Int) : Int × Int := (min u v, max u v)
def Gr.wrong (G : Gr) (e : Ed) : Nat :=
 if e.op < 0 ∨ 8 ≤ e.op then 11
 else if !idB e.u || (e.pairs && !idB e.v) || (e.weighs && heavyB e.wt) then 2
 else if e.pairs && decide (e.u = e.v) then 15
 else if decide (e.op = 0) && (look G.V e.u).isSome then 7
 else if (decide (e.op ≠ 0) && !e.pairs && !(look G.V e.u).isSome) || (decide (e.op = 2) && !((look G.V e.u).isSome && (look G.V e.v).isSome)) then 9
 else if e.pairs && decide (e.op ≠ 2) && !(look G.E (btw e.u e.v)).isSome then 9
 else if decide (e.op = 2) && (look G.E (btw e.u e.v)).isSome then 7
 else if decide (e.op = 2) && decide (1024 ≤ G.E.length) then 8
 else 0
def Gr.doit (G : Gr) (e : Ed) : Gr :=
 if e.op = 0 then { G with V := putS ltV e.u (e.lab, e.wt) G.V }
 else if e.op = 1 then { V := del e.u G.V, E := G.E.filter fun p => !(decide (p.1.1 = e.u) || decide (p.1.2 = e.u)) }
 else if e.op = 2 then { G with E := putS ltE (btw e.u e.v) (e.lab, e.wt) G.E }
 else if e.op = 3 then { G with E := del (btw e.u e.v) G.E }
 else if e.op = 4 then { G with V := putS ltV e.u (e.lab, ((look G.V e.u).getD (0, 0)).2) G.V }
 else if e.op = 5 then { G with V := putS ltV e.u (((look G.V e.u).getD (0, 0)).1, e.wt) G.V }
 else if e.op = 6 then { G with E := putS ltE (btw e.u e.v) (e.lab, ((look G.E (btw e.u e.v)).getD (0, 0)).2) G.E }
 else { G with E := putS ltE (btw e.u e.v) (((look G.E (btw e.u e.v)).getD (0, 0)).1, e.wt) G.E }
def Gr.app (G : Gr) (e : Ed) : Gr := if G.wrong e = 0 then G.doit e else G
def ThOk (t : Th) : Prop := t.1 < 256 ∧ -1048576 ≤ t.2 ∧ t.2 ≤ 1048576
structure Gr.Ok (G : Gr) : Prop where
 sV : Srt ltV G.V
 sE : Srt ltE G.E
 ids : ∀ p ∈ G.V, 0 ≤ p.1 ∧ p.1 < 1024
 ends : ∀ p ∈ G.E, p.1.1 < p.1.2 ∧ (look G.V p.1.1).isSome = true ∧ (look G.V p.1.2).isSome = true
 thV : ∀ p ∈ G.V, ThOk p.2
 thE : ∀ p ∈ G.E, ThOk p.2
 most : G.E.length ≤ 1024
def Gr.none : Gr := ⟨[], []⟩
theorem gr_none_ok : Gr.none.Ok := ⟨List.Pairwise.nil, List.Pairwise.nil, by simp [Gr.none], by simp [Gr.none], by simp [Gr.none], by simp [Gr.none], by simp [Gr.none]⟩
theorem btw_ne {u v : Int} (h : u ≠ v) : (btw u v).1 < (btw u v).2 := by unfold btw; simp only; omega
theorem btw_look {V : List (Int × Th)} {u v : Int} (hu : (look V u).isSome = true) (hv : (look V v).isSome = true) : (look V (btw u v).1).isSome = true ∧ (look V (btw u v).2).isSome = true := by
 unfold btw
 simp only
 rcases Int.le_total u v with h | h
 · rw [Int.min_eq_left h, Int.max_eq_right h]; exact ⟨hu, hv⟩
 · rw [Int.min_eq_right h, Int.max_eq_left h]; exact ⟨hv, hu⟩
theorem look_thOk {α : Type} [DecidableEq α] {l : List (α × Th)} (h : ∀ p ∈ l, ThOk p.2) (hn : NoDup l) (x : α) : ThOk ((look l x).getD (0, 0)) := by
 cases hl : look l x with
 | none => exact ⟨by decide, by decide, by decide⟩
 | some b => exact h _ ((look_mem hn).1 hl)
theorem Gr.Ok.len {G : Gr} (h : G.Ok) : G.V.length ≤ 1024 := by
 have key : ∀ (l : List (Int × Th)) (a : Int), Srt ltV l → (∀ p ∈ l, a ≤ p.1 ∧ p.1 < 1024) → a ≤ 1024 → (l.length : Int) ≤ 1024 - a := by
   intro l
   induction l with
   | nil => intro a _ _ h; simp; omega
   | cons p r ih =>
     intro a hs hb ha
     unfold Srt at hs
     rw [List.pairwise_cons] at hs
     have hp := hb p (by simp)
     have := ih (p.1 + 1) hs.2 (fun q hq => ⟨by have := hs.1 q hq; simp [ltV] at this; omega, (hb q (by simp [hq])).2⟩) (by omega)
     simp only [List.length_cons]
     omega
 have := key G.V 0 h.sV (fun p hp => h.ids p hp) (by omega)
 omega
def spNum (n : Int) : List UInt8 := 32 :: Lib.itoa n
def lineB (s : List UInt8) (ns : List Int) : List UInt8 := s ++ ns.flatMap spNum
theorem spNum_len {n : Int} (h : InI n) : (spNum n).length ≤ 22 := by
 unfold spNum
 have := Lib.itoa_length_le n h.1 h.2
 simp only [List.length_cons]
 omega
theorem lineB_len {s : List UInt8} : ∀ {ns : List Int}, (∀ n ∈ ns, InI n) → (lineB s ns).length ≤ s.length + 22 * ns.length
 | [], _ => by simp [lineB]
 | n :: r, h => by
   have ih := lineB_len (s := s) (ns := r) fun m hm => h m (by simp [hm])
   have h1 := spNum_len (h n (by simp))
   unfold lineB at ih ⊢
   simp only [List.flatMap_cons, List.length_append, List.length_cons] at ih ⊢
   omega
theorem lineB_snoc (s : List UInt8) (ns : List Int) (n : Int) : lineB s (ns ++ [n]) = lineB s ns ++ spNum n := by
 simp [lineB]
theorem flatMap_len {α : Type} {f : α → List UInt8} {b : Nat} : ∀ {l : List α}, (∀ x ∈ l, (f x).length ≤ b) → (l.flatMap f).length ≤ b * l.length
 | [], _ => by simp
 | x :: r, h => by
   have ih := flatMap_len (f := f) (b := b) (l := r) fun y hy => h y (by simp [hy])
   have h1 := h x (by simp)
   simp only [List.flatMap_cons, List.length_append, List.length_cons]
   rw [Nat.mul_add]
   omega
theorem inI_of {n : Int} (h0 : -1048576 ≤ n) (h1 : n ≤ 1048576) : InI n := ⟨by omega, by omega⟩
end Go.Pal
namespace Go.Pal
open Go Go.RowKit
def isDig (c : UInt8) : Prop := 48 ≤ c.toNat ∧ c.toNat ≤ 57
instance (c : UInt8) : Decidable (isDig c) := by unfold isDig; infer_instance
def dval (acc : Nat) (l : List UInt8) : Nat := l.foldl (fun a c => a * 10 + (c.toNat - 48)) acc
theorem dval_nil (acc : Nat) : dval acc [] = acc := by unfold dval; rw [List.foldl_nil]
theorem dval_cons (c : UInt8) (r : List UInt8) (acc : Nat) : dval acc (c :: r) = dval (acc * 10 + (c.toNat - 48)) r := by unfold dval; rw [List.foldl_cons]
theorem dval_append (l r : List UInt8) (acc : Nat) : dval acc (l ++ r) = dval (dval acc l) r := by unfold dval; rw [List.foldl_append]
theorem dval_snoc (l : List UInt8) (c : UInt8) (acc : Nat) : dval acc (l ++ [c]) = dval acc l * 10 + (c.toNat - 48) := by rw [dval_append, dval_cons, dval_nil]
theorem dval_le (l : List UInt8) : ∀ acc, acc ≤ dval acc l := by
 induction l with
 | nil => intro acc; rw [dval_nil]; exact Nat.le_refl _
 | cons c l ih =>
   intro acc
   have h := ih (acc * 10 + (c.toNat - 48))
   rw [dval_cons]
   omega
theorem dval_lt (l : List UInt8) (hd : ∀ c ∈ l, isDig c) : dval 0 l < 10 ^ l.length := by
 have key : ∀ acc, dval acc l < (acc + 1) * 10 ^ l.length := by
   induction l with
   | nil => intro acc; rw [dval_nil, List.length_nil, Nat.pow_zero, Nat.mul_one]; exact Nat.lt_succ_self acc
   | cons c l ih =>
     intro acc
     have hc := (hd c (by simp)).2
     obtain ⟨b, hb⟩ : ∃ b, b = acc * 10 + (c.toNat - 48) := ⟨_, rfl⟩
     have h1 := ih (fun x hx => hd x (by simp [hx])) b
     have h2 : (b + 1) * 10 ^ l.length ≤ (acc + 1) * 10 * 10 ^ l.length := Nat.mul_le_mul_right _ (by omega)
     rw [dval_cons, ← hb, List.length_cons, Nat.pow_succ, Nat.mul_comm (10 ^ l.length) 10, ← Nat.mul_assoc]
     exact Nat.lt_of_lt_of_le h1 h2
 have := key 0
 rwa [Nat.zero_add, Nat.one_mul] at this
theorem dig_of {d : Nat} (h : d < 10) : (UInt8.ofNat (48 + d)).toNat = 48 + d := by
 rw [UInt8.toNat_ofNat']
 exact Nat.mod_eq_of_lt (by omega)
theorem dec_small {u : Nat} (h : u < 10) : Lib.decDigits u = [UInt8.ofNat (48 + u)] := Lib.decDigits_one h
theorem dec_big {u : Nat} (h : ¬ u < 10) : Lib.decDigits u = Lib.decDigits (u / 10) ++ [UInt8.ofNat (48 + u % 10)] := by rw [Lib.decDigits, dif_neg h]
theorem dec_all (u : Nat) : ∀ c ∈ Lib.decDigits u, isDig c := by
 induction u using Nat.strongRecOn with
 | _ u ih =>
   intro c hc
   by_cases h : u < 10
   · rw [dec_small h, List.mem_singleton] at hc
     subst hc
     unfold isDig
     rw [dig_of h]
     omega
   · rw [dec_big h, List.mem_append, List.mem_singleton] at hc
     rcases hc with hc | rfl
     · exact ih (u / 10) (by omega) c hc
     · unfold isDig
       rw [dig_of (by omega)]
       omega
theorem dval_dec (u : Nat) : dval 0 (Lib.decDigits u) = u := by
 induction u using Nat.strongRecOn with
 | _ u ih =>
   by_cases h : u < 10
   · have e := dval_snoc [] (UInt8.ofNat (48 + u)) 0
     rw [dig_of h, List.nil_append] at e
     rw [dec_small h, e, dval_nil]
     omega
   · rw [dec_big h, dval_snoc, ih (u / 10) (by omega), dig_of (by omega)]
     omega
theorem dec_ne (u : Nat) : Lib.decDigits u ≠ [] := by
 by_cases h : u < 10
 · rw [dec_small h]; simp
 · rw [dec_big h]; simp
theorem dec_head {u : Nat} (h1 : 1 ≤ u) : ∃ c r, Lib.decDigits u = c :: r ∧ c.toNat ≠ 48 := by
 induction u using Nat.strongRecOn with
 | _ u ih =>
   by_cases h : u < 10
   · exact ⟨_, [], dec_small h, by rw [dig_of h]; omega⟩
   · obtain ⟨c, r, hc, hn⟩ := ih (u / 10) (by omega) (by omega)
     exact ⟨c, r ++ [UInt8.ofNat (48 + u % 10)], by rw [dec_big h, hc]; rfl, hn⟩
theorem dec_cons (u : Nat) : ∃ c r, Lib.decDigits u = c :: r ∧ isDig c := by
 cases h : Lib.decDigits u with
 | nil => exact absurd h (dec_ne u)
 | cons c r => exact ⟨c, r, rfl, dec_all u c (by rw [h]; simp)⟩
theorem dec_len {u k : Nat} (hk : 1 ≤ k) (h : u < 10 ^ k) : (Lib.decDigits u).length ≤ k := by
 induction k generalizing u with
 | zero => omega
 | succ k ih =>
   by_cases h2 : u < 10
   · rw [dec_small h2]; simp
   · rw [dec_big h2, List.length_append]
     rcases Nat.eq_zero_or_pos k with e | e
     · subst e; simp at h; omega
     · have := ih e (u := u / 10) (by rw [Nat.pow_succ] at h; omega)
       simp only [List.length_cons, List.length_nil]
       omega
theorem dec_of (l : List UInt8) (hd : ∀ c ∈ l, isDig c) (hne : l ≠ []) (hz : ∀ c r, l = c :: r → c.toNat = 48 → r = []) : Lib.decDigits (dval 0 l) = l := by
 have key : ∀ (n : Nat) (l : List UInt8), l.length = n → (∀ c ∈ l, isDig c) → l ≠ [] → (∀ c r, l = c :: r → c.toNat = 48 → r = []) → Lib.decDigits (dval 0 l) = l := by
   intro n
   induction n with
   | zero => intro l hl _ hne; exact absurd (List.length_eq_zero_iff.1 hl) hne
   | succ n ih =>
     intro l hl hd _ hz
     obtain ⟨m, c, rfl⟩ : ∃ m c, l = m ++ [c] := ⟨l.dropLast, l.getLast (by intro e; rw [e] at hl; simp at hl), (List.dropLast_concat_getLast _).symm⟩
     have hc := hd c (by simp)
     rw [dval_snoc]
     by_cases hm : m = []
     · subst hm
       rw [dval_nil, List.nil_append]
       have h9 : 0 * 10 + (c.toNat - 48) < 10 := by have := hc.2; omega
       rw [dec_small h9]
       congr 1
       apply UInt8.toNat_inj.1
       rw [dig_of h9]
       have := hc.1
       omega
     · have hml : m.length = n := by rw [List.length_append] at hl; simp at hl; exact hl
       have hi := ih m hml (fun x hx => hd x (by simp [hx])) hm fun x r e hx => by
         have := hz x (r ++ [c]) (by rw [e]; rfl) hx
         simp at this
       have hpos : 1 ≤ dval 0 m := by
         rcases Nat.eq_zero_or_pos (dval 0 m) with e | e
         · exfalso
           rw [e, dec_small (by omega)] at hi
           have := hz _ [c] (by rw [← hi]; rfl) (by rw [dig_of (by omega)])
           simp at this
         · exact e
       have hcl : c.toNat - 48 < 10 := by have := hc.2; omega
       rw [dec_big (by omega), show (dval 0 m * 10 + (c.toNat - 48)) / 10 = dval 0 m by omega, show (dval 0 m * 10 + (c.toNat - 48)) % 10 = c.toNat - 48 by omega, hi]
       congr 2
       apply UInt8.toNat_inj.1
       rw [dig_of hcl]
       have := hc.1
       omega
 exact key l.length l rfl hd hne hz
theorem parse_dig (l : List UInt8) : ∀ acc, (∀ c ∈ l, isDig c) → dval acc l < 18446744073709551616 → Lib.parseUint10 acc l = .ok (dval acc l) := by
 induction l with
 | nil => intro acc _ _; rw [dval_nil]; rfl
 | cons c l ih =>
   intro acc hd hv
   have hc := hd c (by simp)
   have hle := dval_le l (acc * 10 + (c.toNat - 48))
   rw [dval_cons] at hv ⊢
   unfold Lib.parseUint10
   rw [if_pos (show 48 ≤ c.toNat ∧ c.toNat ≤ 57 from hc), if_neg (by omega), if_neg (by omega)]
   exact ih _ (fun x hx => hd x (by simp [hx])) hv
theorem atoi_itoa {n : Int} (h : InI n) : Lib.atoiAll (Lib.itoa n) = .ok n := by
 obtain ⟨h0, h1⟩ := h
 by_cases hn : n < 0
 · obtain ⟨u, hu⟩ : ∃ u : Nat, n = -(u : Int) := ⟨n.natAbs, by omega⟩
   subst hu
   rw [Lib.itoa_neg u (by omega)]
   have hp := parse_dig (Lib.decDigits u) 0 (dec_all u) (by rw [dval_dec]; omega)
   rw [dval_dec] at hp
   have hm : Lib.parseMag (Lib.decDigits u) = .ok u := by
     unfold Lib.parseMag
     rw [if_neg (dec_ne u), hp]
   have h45 : (45 : UInt8).toNat = 45 := rfl
   simp only [Lib.atoiAll, h45, or_true, if_true, hm, not_true, false_and, if_false, true_and]
   rw [if_neg (by omega)]
 · obtain ⟨u, hu⟩ : ∃ u : Nat, n = (u : Int) := ⟨n.toNat, by omega⟩
   subst hu
   rw [Lib.itoa_nonneg u]
   obtain ⟨c, r, hc, hcd⟩ := dec_cons u
   have hp := parse_dig (Lib.decDigits u) 0 (dec_all u) (by rw [dval_dec]; omega)
   rw [dval_dec] at hp
   have hm : Lib.parseMag (Lib.decDigits u) = .ok u := by
     unfold Lib.parseMag
     rw [if_neg (dec_ne u), hp]
   unfold isDig at hcd
   rw [hc] at hm ⊢
   rw [Lib.atoiAll_plain c r (by omega) (by omega), hm]
   show (if 9223372036854775808 ≤ u then Lib.NumEnd.range else Lib.NumEnd.ok (u : Int)) = _
   rw [if_neg (by omega)]
theorem itoa_inj {n m : Int} (hn : InI n) (hm : InI m) (h : Lib.itoa n = Lib.itoa m) : n = m := by
 have h1 := atoi_itoa hn
 rw [h, atoi_itoa hm] at h1
 injection h1 with h1
 exact h1.symm
def NumOf (s : List UInt8) (n : Int) : Prop := s = Lib.itoa n ∧ -2147483648 ≤ n ∧ n ≤ 2147483648
theorem NumOf.inI {s : List UInt8} {n : Int} (h : NumOf s n) : InI n := ⟨by have := h.2.1; omega, by have := h.2.2; omega⟩
theorem NumOf.eq {s : List UInt8} {n m : Int} (h : NumOf s n) (h' : NumOf s m) : n = m := itoa_inj h.inI h'.inI (h.1.symm.trans h'.1)
theorem NumOf.atoi {s : List UInt8} {n : Int} (h : NumOf s n) : Lib.atoiAll s = .ok n := by rw [h.1]; exact atoi_itoa h.inI
noncomputable def numb (s : List UInt8) : Option Int := by
 classical exact if h : ∃ n, NumOf s n then some h.choose else none
theorem numb_some {s : List UInt8} {n : Int} (h : NumOf s n) : numb s = some n := by
 have hex : ∃ n, NumOf s n := ⟨n, h⟩
 unfold numb
 rw [dif_pos hex, hex.choose_spec.eq h]
theorem numb_none {s : List UInt8} (h : ∀ n, ¬ NumOf s n) : numb s = none := by
 unfold numb
 rw [dif_neg (fun ⟨n, hn⟩ => h n hn)]
theorem numb_of {s : List UInt8} {n : Int} (h : numb s = some n) : NumOf s n := by
 unfold numb at h
 split at h
 · rename_i hex
   injection h with h
   rw [← h]
   exact hex.choose_spec
 · cases h
theorem numOf_pos {l : List UInt8} (hd : ∀ c ∈ l, isDig c) (hne : l ≠ []) (hz : ∀ c r, l = c :: r → c.toNat = 48 → r = []) (hv : dval 0 l ≤ 2147483648) : NumOf l (dval 0 l : Int) :=
 ⟨by rw [Lib.itoa_nonneg, dec_of l hd hne hz], by omega, by omega⟩
theorem numOf_neg {l : List UInt8} (hd : ∀ c ∈ l, isDig c) (hne : l ≠ []) (hz : ∀ c r, l = c :: r → c.toNat ≠ 48) (hv : dval 0 l ≤ 2147483648) : NumOf (45 :: l) (-(dval 0 l : Int)) := by
 have hdd := dec_of l hd hne fun c r e h => absurd h (hz c r e)
 have h1 : 1 ≤ dval 0 l := by
   rcases Nat.eq_zero_or_pos (dval 0 l) with e | e
   · rw [e, dec_small (by omega)] at hdd
     exact absurd (dig_of (d := 0) (by omega)) (hz _ [] hdd.symm)
   · exact e
 exact ⟨by rw [Lib.itoa_neg _ h1, hdd], by omega, by omega⟩
theorem numOf_look {s : List UInt8} {n : Int} (h : NumOf s n) : (∃ u : Nat, n = (u : Int) ∧ u ≤ 2147483648 ∧ s = Lib.decDigits u) ∨ (∃ u : Nat, n = -(u : Int) ∧ 1 ≤ u ∧ u ≤ 2147483648 ∧ s = 45 :: Lib.decDigits u) := by
 obtain ⟨h1, h2, h3⟩ := h
 by_cases hn : n < 0
 · obtain ⟨u, rfl⟩ : ∃ u : Nat, n = -(u : Int) := ⟨n.natAbs, by omega⟩
   exact .inr ⟨u, rfl, by omega, by omega, by rw [h1, Lib.itoa_neg u (by omega)]⟩
 · obtain ⟨u, rfl⟩ : ∃ u : Nat, n = (u : Int) := ⟨n.toNat, by omega⟩
   exact .inl ⟨u, rfl, by omega, by rw [h1, Lib.itoa_nonneg]⟩
theorem dec_len10 {u : Nat} (h : u ≤ 2147483648) : (Lib.decDigits u).length ≤ 10 := dec_len (by omega) (by omega)
def digsOk (minus : Bool) (l : List UInt8) : Prop := l ≠ [] ∧ l.length ≤ 10 ∧ (∀ c r, l = c :: r → c.toNat = 48 → r = [] ∧ minus = false) ∧ (∀ c ∈ l, isDig c) ∧ dval 0 l ≤ 2147483648
theorem digs_pos {l : List UInt8} (h : digsOk false l) : NumOf l (dval 0 l : Int) := numOf_pos h.2.2.2.1 h.1 (fun c r e hc => (h.2.2.1 c r e hc).1) h.2.2.2.2
theorem digs_neg {l : List UInt8} (h : digsOk true l) : NumOf (45 :: l) (-(dval 0 l : Int)) := numOf_neg h.2.2.2.1 h.1 (fun c r e hc => by have := (h.2.2.1 c r e hc).2; simp at this) h.2.2.2.2
theorem digs_of_dec {u : Nat} (hu : u ≤ 2147483648) (minus : Bool) (h : minus = true → 1 ≤ u) : digsOk minus (Lib.decDigits u) := by
 refine ⟨dec_ne u, dec_len10 hu, fun c r e hc => ?_, dec_all u, by rw [dval_dec]; exact hu⟩
 rcases Nat.eq_zero_or_pos u with e0 | e0
 · subst e0
   rw [dec_small (by omega)] at e
   injection e with e1 e2
   refine ⟨e2.symm, ?_⟩
   cases minus with
   | false => rfl
   | true => have := h rfl; omega
 · obtain ⟨c', r', hh, hn⟩ := dec_head e0
   rw [hh] at e
   injection e with e1 e2
   subst e1
   exact absurd hc hn
theorem numb_plain {s : List UInt8} (h : ∀ r, s ≠ 45 :: r) : (digsOk false s → numb s = some (dval 0 s : Int)) ∧ (¬ digsOk false s → numb s = none) := by
 refine ⟨fun hd => numb_some (digs_pos hd), fun hn => numb_none fun n hnn => ?_⟩
 rcases numOf_look hnn with ⟨u, -, hu, rfl⟩ | ⟨u, -, -, -, rfl⟩
 · exact hn (digs_of_dec hu false (by simp))
 · exact h _ rfl
theorem numb_minus (l : List UInt8) : (digsOk true l → numb (45 :: l) = some (-(dval 0 l : Int))) ∧ (¬ digsOk true l → numb (45 :: l) = none) := by
 refine ⟨fun hd => numb_some (digs_neg hd), fun hn => numb_none fun n hnn => ?_⟩
 rcases numOf_look hnn with ⟨u, -, hu, e⟩ | ⟨u, -, h1, hu, e⟩
 · obtain ⟨c, r, hc, hcd⟩ := dec_cons u
   rw [hc] at e
   injection e with e1 e2
   subst e1
   unfold isDig at hcd
   exact absurd hcd.1 (by decide)
 · injection e with e1 e2
   subst e2
   exact hn (digs_of_dec hu true fun _ => h1)
def partsA (c : UInt8) : List UInt8 → List UInt8 → List (List UInt8)
 | a, [] => [a]
 | a, x :: r => if x = c then a :: partsA c [] r else partsA c (a ++ [x]) r
theorem partsA_nil (c : UInt8) (a : List UInt8) : partsA c a [] = [a] := rfl
theorem partsA_cons (c : UInt8) (a : List UInt8) (x : UInt8) (r : List UInt8) : partsA c a (x :: r) = if x = c then a :: partsA c [] r else partsA c (a ++ [x]) r := rfl
theorem partsA_ne (c : UInt8) : ∀ (s a : List UInt8), partsA c a s ≠ []
 | [], a => by rw [partsA_nil]; simp
 | x :: r, a => by
   rw [partsA_cons]
   split
   · simp
   · exact partsA_ne c r _
theorem partsA_none {c : UInt8} : ∀ {s : List UInt8} (a : List UInt8), (∀ x ∈ s, x ≠ c) → partsA c a s = [a ++ s]
 | [], a, _ => by rw [partsA_nil, List.append_nil]
 | x :: r, a, h => by
   rw [partsA_cons, if_neg (h x (by simp)), partsA_none (a ++ [x]) fun y hy => h y (by simp [hy])]
   simp
theorem partsA_hit {c : UInt8} : ∀ {p : List UInt8} (a r : List UInt8), (∀ x ∈ p, x ≠ c) → partsA c a (p ++ c :: r) = (a ++ p) :: partsA c [] r
 | [], a, r, _ => by rw [List.nil_append, partsA_cons, if_pos rfl, List.append_nil]
 | x :: q, a, r, h => by
   rw [List.cons_append, partsA_cons, if_neg (h x (by simp)), partsA_hit (a ++ [x]) r fun y hy => h y (by simp [hy])]
   simp
def glue (c : UInt8) : List (List UInt8) → List UInt8
 | [] => []
 | p :: r => p ++ r.flatMap fun q => c :: q
theorem glue_cons (c : UInt8) (p : List UInt8) (r : List (List UInt8)) : glue c (p :: r) = p ++ r.flatMap fun q => c :: q := rfl
theorem glue_parts (c : UInt8) : ∀ (s a : List UInt8), glue c (partsA c a s) = a ++ s
 | [], a => by rw [partsA_nil]; simp [glue]
 | x :: r, a => by
   rw [partsA_cons]
   split
   · rename_i h
     have ih := glue_parts c r []
     rw [List.nil_append] at ih
     cases hp : partsA c [] r with
     | nil => exact absurd hp (partsA_ne c r [])
     | cons p ps =>
       rw [hp] at ih
       rw [glue_cons] at ih ⊢
       rw [List.flatMap_cons, List.cons_append, ih, h]
   · rw [glue_parts c r (a ++ [x])]
     simp
theorem parts_glue {c : UInt8} : ∀ (p : List UInt8) (r : List (List UInt8)), (∀ x ∈ p, x ≠ c) → (∀ q ∈ r, ∀ x ∈ q, x ≠ c) → partsA c [] (glue c (p :: r)) = p :: r
 | p, [], hp, _ => by rw [glue_cons, List.flatMap_nil, List.append_nil, partsA_none [] hp, List.nil_append]
 | p, q :: r, hp, hr => by
   have ih := parts_glue q r (hr q (by simp)) fun t ht => hr t (by simp [ht])
   rw [glue_cons] at ih ⊢
   rw [List.flatMap_cons, List.cons_append, partsA_hit [] _ hp, ih, List.nil_append]
theorem partsA_mem {c : UInt8} : ∀ {s a : List UInt8}, (∀ x ∈ a, x ≠ c) → ∀ p ∈ partsA c a s, ∀ x ∈ p, x ≠ c
 | [], a, ha, p, hp, x, hx => by rw [partsA_nil, List.mem_singleton] at hp; subst hp; exact ha x hx
 | y :: r, a, ha, p, hp, x, hx => by
   rw [partsA_cons] at hp
   split at hp
   · rcases List.mem_cons.1 hp with rfl | hp
     · exact ha x hx
     · exact partsA_mem (s := r) (a := []) (by simp) p hp x hx
   · rename_i h
     refine partsA_mem (s := r) (a := a ++ [y]) (fun z hz => ?_) p hp x hx
     rcases List.mem_append.1 hz with hz | hz
     · exact ha z hz
     · rw [List.mem_singleton.1 hz]; exact h
theorem partsA_len {c : UInt8} : ∀ {s a : List UInt8}, ∀ p ∈ partsA c a s, p.length ≤ a.length + s.length
 | [], a, p, hp => by rw [partsA_nil, List.mem_singleton] at hp; subst hp; simp
 | y :: r, a, p, hp => by
   rw [partsA_cons] at hp
   split at hp
   · rcases List.mem_cons.1 hp with rfl | hp
     · simp
     · have := partsA_len (s := r) (a := []) p hp
       simp only [List.length_nil, List.length_cons] at this ⊢
       omega
   · have := partsA_len (s := r) (a := a ++ [y]) p hp
     simp only [List.length_append, List.length_cons, List.length_nil] at this ⊢
     omega
theorem partsA_count (c : UInt8) : ∀ (s a : List UInt8), (partsA c a s).length ≤ s.length + 1
 | [], a => by rw [partsA_nil]; simp
 | y :: r, a => by
   rw [partsA_cons]
   split
   · have := partsA_count c r []
     simp only [List.length_cons] at this ⊢
     omega
   · have := partsA_count c r (a ++ [y])
     simp only [List.length_cons] at this ⊢
     omega
noncomputable def numsA : List Int → List (List UInt8) → Option (List Int)
 | out, [] => some out
 | out, p :: r => match numb p with
   | none => none
   | some n => if out.length = 4 then none else numsA (out ++ [n]) r
theorem numsA_nil (out : List Int) : numsA out [] = some out := rfl
theorem numsA_none {p : List UInt8} (h : numb p = none) (out : List Int) (r : List (List UInt8)) : numsA out (p :: r) = none := by
 show (match numb p with | none => _ | some n => _) = _
 rw [h]
theorem numsA_some {p : List UInt8} {n : Int} (h : numb p = some n) (out : List Int) (r : List (List UInt8)) : numsA out (p :: r) = if out.length = 4 then none else numsA (out ++ [n]) r := by
 show (match numb p with | none => _ | some n => _) = _
 rw [h]
noncomputable def numsU : List Int → List (List UInt8) → Option (List Int)
 | out, [] => some out
 | out, p :: r => match numb p with
   | none => none
   | some n => numsU (out ++ [n]) r
theorem numsU_nil (out : List Int) : numsU out [] = some out := rfl
theorem numsU_none {p : List UInt8} (h : numb p = none) (out : List Int) (r : List (List UInt8)) : numsU out (p :: r) = none := by
 show (match numb p with | none => _ | some n => _) = _
 rw [h]
theorem numsU_some {p : List UInt8} {n : Int} (h : numb p = some n) (out : List Int) (r : List (List UInt8)) : numsU out (p :: r) = numsU (out ++ [n]) r := by
 show (match numb p with | none => _ | some n => _) = _
 rw [h]
theorem numsA_eq : ∀ (r : List (List UInt8)) (out : List Int), out.length + r.length ≤ 4 → numsA out r = numsU out r
 | [], _, _ => rfl
 | p :: r, out, h => by
   rw [List.length_cons] at h
   cases hp : numb p with
   | none => rw [numsA_none hp, numsU_none hp]
   | some n => rw [numsA_some hp, numsU_some hp, if_neg (by omega), numsA_eq r _ (by simp; omega)]
theorem numsA_over : ∀ (r : List (List UInt8)) (out : List Int), 4 < out.length + r.length → out.length ≤ 4 → numsA out r = none
 | [], _, h, h2 => by simp at h; omega
 | p :: r, out, h, h2 => by
   rw [List.length_cons] at h
   cases hp : numb p with
   | none => exact numsA_none hp out r
   | some n =>
     rw [numsA_some hp]
     split
     · rfl
     · exact numsA_over r _ (by simp; omega) (by simp; omega)
theorem numsU_of : ∀ {r : List (List UInt8)} {out l : List Int}, numsU out r = some l → ∃ m, l = out ++ m ∧ r = m.map Lib.itoa ∧ ∀ n ∈ m, -2147483648 ≤ n ∧ n ≤ 2147483648
 | [], out, l, h => ⟨[], by rw [numsU_nil] at h; injection h with h; rw [← h, List.append_nil], rfl, by simp⟩
 | p :: r, out, l, h => by
   cases hp : numb p with
   | none => rw [numsU_none hp] at h; cases h
   | some n =>
     rw [numsU_some hp] at h
     obtain ⟨m, h1, h2, h3⟩ := numsU_of h
     have hn := numb_of hp
     refine ⟨n :: m, by rw [h1, List.append_assoc]; rfl, by rw [h2, hn.1]; rfl, fun k hk => ?_⟩
     rcases List.mem_cons.1 hk with rfl | hk
     · exact hn.2
     · exact h3 k hk
theorem numsU_itoa : ∀ (m out : List Int), (∀ n ∈ m, -2147483648 ≤ n ∧ n ≤ 2147483648) → numsU out (m.map Lib.itoa) = some (out ++ m)
 | [], out, _ => by rw [List.map_nil, numsU_nil, List.append_nil]
 | n :: m, out, h => by
   have h1 := h n (by simp)
   rw [List.map_cons, numsU_some (numb_some ⟨rfl, h1.1, h1.2⟩), numsU_itoa m _ fun k hk => h k (by simp [hk]), List.append_assoc]
   rfl
noncomputable def wordsT (s : List UInt8) : Option (List UInt8 × List Int) :=
 match numsA [] (partsA 32 [] s).tail with
 | none => none
 | some l => some ((partsA 32 [] s).head?.getD [], l)
theorem wordsT_none {s : List UInt8} (h : numsA [] (partsA 32 [] s).tail = none) : wordsT s = none := by unfold wordsT; rw [h]
theorem wordsT_some {s : List UInt8} {l : List Int} (h : numsA [] (partsA 32 [] s).tail = some l) : wordsT s = some ((partsA 32 [] s).head?.getD [], l) := by unfold wordsT; rw [h]
noncomputable def readW (s w : List UInt8) (many : Nat) : Option (List Int) :=
 match wordsT s with
 | none => none
 | some (v, l) => if v = w ∧ l.length = many then some l else none
noncomputable def readP (P : List (List UInt8)) (w : List UInt8) (many : Nat) : Option (List Int) :=
 if P.length = many + 1 ∧ P.head?.getD [] = w then numsU [] P.tail else none
theorem readP_eq (s w : List UInt8) {many : Nat} (h : many ≤ 4) : readP (partsA 32 [] s) w many = readW s w many := by
 have hne := partsA_ne 32 s []
 unfold readP readW
 obtain ⟨P, hP⟩ : ∃ P, P = partsA 32 [] s := ⟨_, rfl⟩
 unfold wordsT
 rw [← hP] at hne ⊢
 have hl : P.length = P.tail.length + 1 := by
   cases P with
   | nil => exact absurd rfl hne
   | cons p r => simp
 by_cases h4 : P.tail.length ≤ 4
 · rw [numsA_eq _ [] (by simpa using h4)]
   cases hu : numsU [] P.tail with
   | none => simp
   | some l =>
     obtain ⟨m, h1, h2, -⟩ := numsU_of hu
     rw [List.nil_append] at h1
     subst h1
     have h3 : P.tail.length = l.length := by rw [h2, List.length_map]
     simp only
     by_cases hc : P.head?.getD [] = w ∧ l.length = many
     · rw [if_pos ⟨by omega, hc.1⟩, if_pos hc]
     · rw [if_neg (fun hh => hc ⟨hh.2, by omega⟩), if_neg hc]
 · rw [numsA_over _ [] (by rw [List.length_nil]; omega) (by simp), if_neg (by omega)]
theorem lineB_glue (w : List UInt8) (ns : List Int) : lineB w ns = glue 32 (w :: ns.map Lib.itoa) := by
 unfold lineB
 rw [glue_cons, List.flatMap_map]
 rfl
theorem wordsT_line {s w : List UInt8} {l : List Int} (h : wordsT s = some (w, l)) : s = lineB w l ∧ l.length ≤ 4 ∧ ∀ n ∈ l, -2147483648 ≤ n ∧ n ≤ 2147483648 := by
 have hne := partsA_ne 32 s []
 have hg := glue_parts 32 s []
 unfold wordsT at h
 obtain ⟨P, hP⟩ : ∃ P, P = partsA 32 [] s := ⟨_, rfl⟩
 rw [← hP] at h hne hg
 split at h
 · cases h
 · rename_i l' hl
   simp only [Option.some.injEq, Prod.mk.injEq] at h
   obtain ⟨h1, rfl⟩ := h
   by_cases h4 : P.tail.length ≤ 4
   · rw [numsA_eq _ [] (by simpa using h4)] at hl
     obtain ⟨m, e1, e2, e3⟩ := numsU_of hl
     rw [List.nil_append] at e1
     subst e1
     have hPe : P = w :: l'.map Lib.itoa := by
       cases P with
       | nil => exact absurd rfl hne
       | cons p r =>
         simp at h1 e2
         rw [h1, e2]
     refine ⟨?_, by rw [e2, List.length_map] at h4; exact h4, e3⟩
     rw [lineB_glue, ← hPe, hg, List.nil_append]
   · rw [numsA_over _ [] (by rw [List.length_nil]; omega) (by simp)] at hl
     cases hl
theorem itoa_no (b : UInt8) (hb : ¬ isDig b) (hm : b ≠ 45) (n : Int) (h : InI n) : ∀ x ∈ Lib.itoa n, x ≠ b := by
 intro x hx e
 subst e
 by_cases hn : n < 0
 · obtain ⟨u, rfl⟩ : ∃ u : Nat, n = -(u : Int) := ⟨n.natAbs, by omega⟩
   rw [Lib.itoa_neg u (by omega), List.mem_cons] at hx
   rcases hx with hx | hx
   · exact hm hx
   · exact hb (dec_all u _ hx)
 · obtain ⟨u, rfl⟩ : ∃ u : Nat, n = (u : Int) := ⟨n.toNat, by omega⟩
   rw [Lib.itoa_nonneg u] at hx
   exact hb (dec_all u _ hx)
theorem words_lineB {w : List UInt8} {l : List Int} (hw : ∀ x ∈ w, x ≠ 32) (hl : l.length ≤ 4) (hn : ∀ n ∈ l, -2147483648 ≤ n ∧ n ≤ 2147483648) : wordsT (lineB w l) = some (w, l) := by
 have hP : partsA 32 [] (lineB w l) = w :: l.map Lib.itoa := by
   rw [lineB_glue]
   refine parts_glue w _ hw fun q hq => ?_
   obtain ⟨n, h1, rfl⟩ := List.mem_map.1 hq
   have := hn n h1
   exact itoa_no 32 (by decide) (by decide) n ⟨by omega, by omega⟩
 have := wordsT_some (s := lineB w l) (l := l) (by rw [hP, List.tail_cons, numsA_eq _ [] (by simpa using hl), numsU_itoa l [] hn, List.nil_append])
 rw [this, hP]
 rfl
theorem lineB_no (b : UInt8) (hb : ¬ isDig b) (hm : b ≠ 45) (h32 : b ≠ 32) {w : List UInt8} {l : List Int} (hw : ∀ x ∈ w, x ≠ b) (hn : ∀ n ∈ l, InI n) : ∀ x ∈ lineB w l, x ≠ b := by
 intro x hx
 unfold lineB at hx
 rcases List.mem_append.1 hx with hx | hx
 · exact hw x hx
 · obtain ⟨n, h1, h2⟩ := List.mem_flatMap.1 hx
   unfold spNum at h2
   rcases List.mem_cons.1 h2 with rfl | h2
   · exact h32.symm
   · exact itoa_no b hb hm n (hn n h1) x h2
def linesP {σ : Type} (f : σ → List UInt8 → σ × Nat) : σ → Nat → List (List UInt8) → σ × Nat × Nat
 | x, _, [] => (x, 0, 0)
 | x, n, [p] => if p = [] then (x, 0, 0) else (x, n, 4)
 | x, n, p :: q :: ps => if (f x p).2 = 0 then linesP f (f x p).1 (n + 1) (q :: ps) else ((f x p).1, n, (f x p).2)
theorem linesP_last {σ : Type} (f : σ → List UInt8 → σ × Nat) (x : σ) (n : Nat) (p : List UInt8) : linesP f x n [p] = if p = [] then (x, 0, 0) else (x, n, 4) := rfl
theorem linesP_cons {σ : Type} (f : σ → List UInt8 → σ × Nat) (x : σ) (n : Nat) (p : List UInt8) {ps : List (List UInt8)} (h : ps ≠ []) : linesP f x n (p :: ps) = if (f x p).2 = 0 then linesP f (f x p).1 (n + 1) ps else ((f x p).1, n, (f x p).2) := by
 cases ps with
 | nil => exact absurd rfl h
 | cons q ps => rfl
theorem linesP_line {σ : Type} (f : σ → List UInt8 → σ × Nat) : ∀ (P : List (List UInt8)) (x : σ) (n : Nat), (linesP f x n P).2.2 ≠ 0 → n ≤ (linesP f x n P).2.1
 | [], x, n, h => absurd rfl h
 | [p], x, n, h => by
   rw [linesP_last] at h ⊢
   split at h
   · exact absurd rfl h
   · rename_i hp
     rw [if_neg hp]
     exact Nat.le_refl _
 | p :: q :: ps, x, n, h => by
   rw [linesP_cons f x n p (by simp)] at h ⊢
   by_cases h0 : (f x p).2 = 0
   · rw [if_pos h0] at h ⊢
     have := linesP_line f (q :: ps) _ _ h
     omega
   · rw [if_neg h0]
     exact Nat.le_refl _
theorem linesP_good {σ : Type} (f : σ → List UInt8 → σ × Nat) : ∀ (P : List (List UInt8)) (x : σ) (n : Nat), (linesP f x n P).2.2 = 0 → (linesP f x n P).2.1 = 0
 | [], x, n, _ => rfl
 | [p], x, n, h => by
   rw [linesP_last] at h ⊢
   split at h
   · rename_i hp
     rw [if_pos hp]
   · cases h
 | p :: q :: ps, x, n, h => by
   rw [linesP_cons f x n p (by simp)] at h ⊢
   by_cases h0 : (f x p).2 = 0
   · rw [if_pos h0] at h ⊢
     exact linesP_good f (q :: ps) _ _ h
   · rw [if_neg h0] at h
     exact absurd h h0
theorem linesP_all {σ : Type} (f : σ → List UInt8 → σ × Nat) (I : σ → List UInt8 → Prop) (hI : ∀ x p t, I x t → (f x p).2 = 0 → I (f x p).1 (t ++ (p ++ [10]))) :
   ∀ (P : List (List UInt8)) (x : σ) (n : Nat) (t : List UInt8), P ≠ [] → I x t → (linesP f x n P).2.2 = 0 → I (linesP f x n P).1 (t ++ glue 10 P)
 | [], x, n, t, h, _, _ => absurd rfl h
 | [p], x, n, t, _, hx, h => by
   rw [linesP_last] at h ⊢
   split at h
   · rename_i hp
     rw [if_pos hp, hp]
     simpa [glue] using hx
   · cases h
 | p :: q :: ps, x, n, t, _, hx, h => by
   rw [linesP_cons f x n p (by simp)] at h ⊢
   by_cases h0 : (f x p).2 = 0
   · rw [if_pos h0] at h ⊢
     have := linesP_all f I hI (q :: ps) _ (n + 1) _ (by simp) (hI x p t hx h0) h
     have e : t ++ glue 10 (p :: q :: ps) = t ++ (p ++ [10]) ++ glue 10 (q :: ps) := by simp [glue]
     rw [e]
     exact this
   · rw [if_neg h0] at h
     exact absurd h h0
def foldF {σ : Type} (f : σ → List UInt8 → σ × Nat) : σ → List (List UInt8) → σ
 | x, [] => x
 | x, p :: r => foldF f (f x p).1 r
theorem linesP_run {σ : Type} (f : σ → List UInt8 → σ × Nat) : ∀ (L : List (List UInt8)) (x : σ) (n : Nat), (∀ k p, L[k]? = some p → (f (foldF f x (L.take k)) p).2 = 0) → linesP f x n (L ++ [[]]) = (foldF f x L, 0, 0)
 | [], x, n, _ => rfl
 | p :: r, x, n, h => by
   have h0 : (f x p).2 = 0 := h 0 p rfl
   rw [List.cons_append, linesP_cons f x n p (by simp), if_pos h0]
   exact linesP_run f r _ _ fun k q hq => h (k + 1) q hq
theorem parts_lines : ∀ (L : List (List UInt8)), (∀ p ∈ L, ∀ x ∈ p, x ≠ 10) → partsA 10 [] (L.flatMap fun p => p ++ [10]) = L ++ [[]]
 | [], _ => rfl
 | p :: r, h => by
   have e : (List.flatMap (fun p => p ++ [10]) (p :: r)) = p ++ 10 :: r.flatMap fun p => p ++ [10] := by simp
   rw [e, partsA_hit [] _ (h p (by simp)), parts_lines r fun q hq => h q (by simp [hq])]
   rfl
end Go.Pal
namespace Go.Pal
def valB (b : Nat) : List Nat → Nat
 | [] => 0
 | x :: r => x + b * valB b r
def digF (b : Nat) : Nat → Nat → List Nat
 | 0, _ => []
 | m + 1, n => if n = 0 then [] else n % b :: digF b m (n / b)
def digB (b n : Nat) : List Nat := digF b n n
def DigOk (b : Nat) (l : List Nat) : Prop := ∀ x ∈ l, x < b
def Tight (l : List Nat) : Prop := ∀ k, l.length = k + 1 → l[k]? ≠ some 0
theorem valB_nil (b : Nat) : valB b [] = 0 := rfl
theorem valB_cons (b x : Nat) (r : List Nat) : valB b (x :: r) = x + b * valB b r := rfl
theorem valB_append (b : Nat) (l r : List Nat) : valB b (l ++ r) = valB b l + b ^ l.length * valB b r := by
 induction l with
 | nil => simp [valB]
 | cons x l ih => rw [List.cons_append, valB_cons, valB_cons, ih, List.length_cons, Nat.pow_succ, Nat.mul_add, ← Nat.add_assoc, Nat.mul_comm (b ^ l.length) b, Nat.mul_assoc]
theorem valB_snoc (b : Nat) (l : List Nat) (x : Nat) : valB b (l ++ [x]) = valB b l + b ^ l.length * x := by rw [valB_append, valB_cons, valB_nil, Nat.mul_zero, Nat.add_zero]
theorem valB_lt {b : Nat} {l : List Nat} (h : DigOk b l) : valB b l < b ^ l.length := by
 induction l with
 | nil => simp [valB]
 | cons x l ih =>
   have h1 := ih fun y hy => h y (by simp [hy])
   have h2 := h x (by simp)
   rw [valB_cons, List.length_cons, Nat.pow_succ]
   have h3 : (valB b l + 1) * b ≤ b ^ l.length * b := Nat.mul_le_mul_right _ h1
   rw [Nat.add_mul, Nat.one_mul, Nat.mul_comm (valB b l) b] at h3
   omega
theorem valB_zeros {b : Nat} {l : List Nat} (h : ∀ x ∈ l, x = 0) : valB b l = 0 := by
 induction l with
 | nil => rfl
 | cons x l ih => rw [valB_cons, h x (by simp), ih fun y hy => h y (by simp [hy])]; simp
theorem digF_enough {b : Nat} (hb : 2 ≤ b) : ∀ m n k, n ≤ m → n ≤ k → digF b m n = digF b k n := by
 intro m
 induction m with
 | zero =>
   intro n k hm hk
   have : n = 0 := by omega
   subst this
   cases k <;> simp [digF]
 | succ m ih =>
   intro n k hm hk
   by_cases h0 : n = 0
   · subst h0; cases k <;> simp [digF]
   · cases k with
     | zero => omega
     | succ k =>
       have hlt : n / b < n := Nat.div_lt_self (by omega) hb
       simp only [digF, if_neg h0]
       rw [ih (n / b) k (by omega) (by omega)]
theorem digB_zero (b : Nat) : digB b 0 = [] := rfl
theorem digB_pos {b n : Nat} (hb : 2 ≤ b) (hn : 0 < n) : digB b n = n % b :: digB b (n / b) := by
 unfold digB
 cases n with
 | zero => omega
 | succ n =>
   have hlt : (n + 1) / b < n + 1 := Nat.div_lt_self (by omega) hb
   rw [digF, if_neg (by omega), digF_enough hb n ((n + 1) / b) ((n + 1) / b) (by omega) (Nat.le_refl _)]
theorem valB_digB {b : Nat} (hb : 2 ≤ b) (n : Nat) : valB b (digB b n) = n := by
 induction n using Nat.strongRecOn with
 | _ n ih =>
   by_cases h : n = 0
   · subst h; rfl
   · rw [digB_pos hb (by omega), valB_cons, ih _ (Nat.div_lt_self (by omega) hb)]
     exact Nat.mod_add_div n b
theorem digB_ok {b : Nat} (hb : 2 ≤ b) (n : Nat) : DigOk b (digB b n) := by
 induction n using Nat.strongRecOn with
 | _ n ih =>
   by_cases h : n = 0
   · subst h; intro x hx; simp [digB_zero] at hx
   · rw [digB_pos hb (by omega)]
     intro x hx
     rcases List.mem_cons.1 hx with rfl | hx
     · exact Nat.mod_lt _ (by omega)
     · exact ih _ (Nat.div_lt_self (by omega) hb) x hx
theorem digB_nil {b n : Nat} (hb : 2 ≤ b) : digB b n = [] ↔ n = 0 := by
 constructor
 · intro h
   have := valB_digB hb n
   rw [h] at this
   exact this.symm
 · rintro rfl; rfl
theorem tight_cons {x : Nat} {l : List Nat} (h : Tight l) (hx : l = [] → x ≠ 0) : Tight (x :: l) := by
 intro k hk
 cases l with
 | nil =>
   simp at hk
   subst hk
   simpa using hx rfl
 | cons y r =>
   cases k with
   | zero => simp at hk
   | succ k =>
     rw [List.getElem?_cons_succ]
     exact h k (by simpa using hk)
theorem digB_tight {b : Nat} (hb : 2 ≤ b) (n : Nat) : Tight (digB b n) := by
 induction n using Nat.strongRecOn with
 | _ n ih =>
   by_cases h : n = 0
   · subst h; intro k hk; simp [digB_zero] at hk
   · rw [digB_pos hb (by omega)]
     refine tight_cons (ih _ (Nat.div_lt_self (by omega) hb)) fun he => ?_
     rw [digB_nil hb] at he
     have := Nat.mod_add_div n b
     rw [he] at this
     omega
theorem Tight.tail {x : Nat} {l : List Nat} (h : Tight (x :: l)) : Tight l := by
 intro k hk
 have := h (k + 1) (by simp [hk])
 rwa [List.getElem?_cons_succ] at this
theorem tight_pos {b : Nat} (hb : 2 ≤ b) {l : List Nat} (h : Tight l) (hne : l ≠ []) : 0 < valB b l := by
 induction l with
 | nil => exact absurd rfl hne
 | cons x l ih =>
   rw [valB_cons]
   by_cases hl : l = []
   · subst hl
     have := h 0 rfl
     simp at this
     omega
   · have := ih h.tail hl
     have : 0 < b * valB b l := Nat.mul_pos (by omega) this
     omega
theorem digB_valB {b : Nat} (hb : 2 ≤ b) {l : List Nat} (h : DigOk b l) (ht : Tight l) : digB b (valB b l) = l := by
 induction l with
 | nil => rfl
 | cons x l ih =>
   have hx := h x (by simp)
   have hp := tight_pos hb ht (by simp)
   rw [digB_pos hb hp, valB_cons, Nat.add_mul_mod_self_left, Nat.mod_eq_of_lt hx, Nat.add_mul_div_left _ _ (by omega), Nat.div_eq_of_lt hx, Nat.zero_add, ih (fun y hy => h y (by simp [hy])) ht.tail]
theorem take_digB {b : Nat} (hb : 2 ≤ b) {l : List Nat} {k : Nat} (h : DigOk b l) (hk : k ≤ l.length) (hz : ∀ x ∈ l.drop k, x = 0) (ht : ∀ j, k = j + 1 → l[j]? ≠ some 0) : l.take k = digB b (valB b l) := by
 have hv : valB b l = valB b (l.take k) := by
   have e := valB_append b (l.take k) (l.drop k)
   rw [List.take_append_drop, valB_zeros hz, Nat.mul_zero, Nat.add_zero] at e
   exact e
 rw [hv, digB_valB hb (fun x hx => h x (List.mem_of_mem_take hx))]
 intro j hj
 rw [List.length_take, Nat.min_eq_left hk] at hj
 rw [List.getElem?_take, if_pos (by omega)]
 exact ht j hj
theorem digB_len {b : Nat} (hb : 2 ≤ b) {n k : Nat} (h : n < b ^ k) : (digB b n).length ≤ k := by
 induction k generalizing n with
 | zero =>
   have : n = 0 := by simpa using h
   subst this
   simp [digB_zero]
 | succ k ih =>
   by_cases h0 : n = 0
   · subst h0; simp [digB_zero]
   · rw [digB_pos hb (by omega), List.length_cons]
     have : n / b < b ^ k := by rw [Nat.div_lt_iff_lt_mul (by omega), ← Nat.pow_succ]; exact h
     have := ih this
     omega
theorem lt_digB_len {b : Nat} (hb : 2 ≤ b) (n : Nat) : n < b ^ (digB b n).length := by
 have := valB_lt (digB_ok hb n)
 rwa [valB_digB hb] at this
theorem digB_inj {b : Nat} (hb : 2 ≤ b) {m n : Nat} (h : digB b m = digB b n) : m = n := by rw [← valB_digB hb m, h, valB_digB hb]
theorem digB_one {b n : Nat} (hb : 2 ≤ b) (h0 : 0 < n) (h : n < b) : digB b n = [n] := by
 rw [digB_pos hb h0, Nat.mod_eq_of_lt h, Nat.div_eq_of_lt h, digB_zero]
def atB (l : List Nat) (i : Nat) : Nat := (l[i]?).getD 0
theorem atB_of {l : List Nat} {i x : Nat} (h : l[i]? = some x) : atB l i = x := by simp [atB, h]
theorem atB_past {l : List Nat} {i : Nat} (h : l.length ≤ i) : atB l i = 0 := by simp [atB, h]
theorem atB_lt {b : Nat} (hb : 0 < b) {l : List Nat} (h : DigOk b l) (i : Nat) : atB l i < b := by
 unfold atB
 cases hi : l[i]? with
 | none => simpa using hb
 | some x => exact h x (List.mem_of_getElem? hi)
theorem valB_take_succ (b : Nat) (l : List Nat) (i : Nat) : valB b (l.take (i + 1)) = valB b (l.take i) + b ^ i * atB l i := by
 rw [List.take_add_one]
 cases hi : l[i]? with
 | none => simp [atB, hi]
 | some x =>
   have hlt := (List.getElem?_eq_some_iff.1 hi).1
   rw [Option.toList_some, valB_snoc, List.length_take, Nat.min_eq_left (by omega), atB_of hi]
theorem valB_take_all {b : Nat} {l : List Nat} {n : Nat} (h : l.length ≤ n) : valB b (l.take n) = valB b l := by rw [List.take_of_length_le h]
theorem digOk_snoc {b x : Nat} {l : List Nat} (h : DigOk b l) (hx : x < b) : DigOk b (l ++ [x]) := by
 intro y hy
 rcases List.mem_append.1 hy with h1 | h1
 · exact h y h1
 · rw [List.mem_singleton] at h1; subst h1; exact hx
theorem digOk_set {b x i : Nat} {l : List Nat} (h : DigOk b l) (hx : x < b) : DigOk b (l.set i x) := by
 intro y hy
 rcases List.mem_or_eq_of_mem_set hy with h1 | rfl
 · exact h y h1
 · exact hx
theorem digOk_zeros (b n : Nat) (hb : 0 < b) : DigOk b (List.replicate n 0) := by
 intro y hy
 rw [(List.mem_replicate.1 hy).2]
 exact hb
theorem valB_set (b : Nat) {l : List Nat} {i : Nat} (x : Nat) (h : i < l.length) : valB b (l.set i x) + b ^ i * atB l i = valB b l + b ^ i * x := by
 induction l generalizing i with
 | nil => simp at h
 | cons y l ih =>
   cases i with
   | zero => simp [valB_cons, atB]; omega
   | succ i =>
     have h1 := ih (i := i) (by simpa using h)
     have h2 : atB (y :: l) (i + 1) = atB l i := by simp [atB]
     rw [List.set_cons_succ, valB_cons, valB_cons, h2, Nat.pow_succ, Nat.mul_comm (b ^ i) b, Nat.mul_assoc, Nat.mul_assoc]
     have := congrArg (b * ·) h1
     simp only [Nat.mul_add] at this
     omega
def joinB (f : Nat → Nat → Nat × Nat) : Nat → List Nat × Nat
 | 0 => ([], 0)
 | n + 1 => ((joinB f n).1 ++ [(f n (joinB f n).2).1], (f n (joinB f n).2).2)
theorem joinB_len (f : Nat → Nat → Nat × Nat) (n : Nat) : (joinB f n).1.length = n := by
 induction n with
 | zero => rfl
 | succ n ih => simp [joinB, ih]
def joinR (f : Nat → Nat → Nat × Nat) (n : Nat) : List Nat := (joinB f n).1 ++ if 0 < (joinB f n).2 then [(joinB f n).2] else []
theorem joinR_val {b : Nat} (f : Nat → Nat → Nat × Nat) (n : Nat) : valB b (joinR f n) = valB b (joinB f n).1 + b ^ n * (joinB f n).2 := by
 unfold joinR
 by_cases h : 0 < (joinB f n).2
 · rw [if_pos h, valB_snoc, joinB_len]
 · rw [if_neg h, List.append_nil, show (joinB f n).2 = 0 by omega]; simp
theorem joinR_len (f : Nat → Nat → Nat × Nat) (n : Nat) : (joinR f n).length ≤ n + 1 := by
 unfold joinR
 rw [List.length_append, joinB_len]
 split <;> simp
theorem joinR_ok {b : Nat} {f : Nat → Nat → Nat × Nat} {n : Nat} (h1 : DigOk b (joinB f n).1) (h2 : (joinB f n).2 < b) : DigOk b (joinR f n) := by
 unfold joinR
 split
 · exact digOk_snoc h1 h2
 · rw [List.append_nil]; exact h1
def addF (b : Nat) (x y : List Nat) (i c : Nat) : Nat × Nat := ((atB x i + atB y i + c) % b, (atB x i + atB y i + c) / b)
theorem addF_inv {b : Nat} (hb : 2 ≤ b) {x y : List Nat} (hx : DigOk b x) (hy : DigOk b y) (n : Nat) :
   valB b (joinB (addF b x y) n).1 + b ^ n * (joinB (addF b x y) n).2 = valB b (x.take n) + valB b (y.take n) ∧ (joinB (addF b x y) n).2 ≤ 1 ∧ DigOk b (joinB (addF b x y) n).1 := by
 induction n with
 | zero => simp [joinB, valB, DigOk]
 | succ n ih =>
   obtain ⟨h1, h2, h3⟩ := ih
   obtain ⟨c, hc⟩ : ∃ c, c = (joinB (addF b x y) n).2 := ⟨_, rfl⟩
   obtain ⟨s, hs⟩ : ∃ s, s = atB x n + atB y n + c := ⟨_, rfl⟩
   have e1 : joinB (addF b x y) (n + 1) = ((joinB (addF b x y) n).1 ++ [s % b], s / b) := by simp [joinB, addF, hs, hc]
   rw [← hc] at h1 h2
   have hxn := atB_lt (by omega) hx n
   have hyn := atB_lt (by omega) hy n
   rw [e1]
   refine ⟨?_, ?_, digOk_snoc h3 (Nat.mod_lt _ (by omega))⟩
   · rw [valB_snoc, joinB_len, valB_take_succ, valB_take_succ, Nat.pow_succ, Nat.mul_assoc, Nat.add_assoc, ← Nat.mul_add, Nat.mod_add_div, hs, Nat.mul_add, Nat.mul_add]
     omega
   · show s / b ≤ 1
     rw [← Nat.lt_succ_iff, Nat.div_lt_iff_lt_mul (by omega)]
     omega
theorem add_digits {b : Nat} (hb : 2 ≤ b) (m n M : Nat) (hm : (digB b m).length ≤ M) (hn : (digB b n).length ≤ M) : valB b (joinR (addF b (digB b m) (digB b n)) M) = m + n ∧ DigOk b (joinR (addF b (digB b m) (digB b n)) M) := by
 obtain ⟨h1, h2, h3⟩ := addF_inv hb (digB_ok hb m) (digB_ok hb n) M
 refine ⟨?_, joinR_ok h3 (by omega)⟩
 rw [joinR_val, h1, valB_take_all hm, valB_take_all hn, valB_digB hb, valB_digB hb]
def smallF (b : Nat) (x : List Nat) (k plus : Nat) (i c : Nat) : Nat × Nat := ((atB x i * k + if i = 0 then plus else c) % b, (atB x i * k + if i = 0 then plus else c) / b)
theorem smallF_inv {b : Nat} (hb : 2 ≤ b) {x : List Nat} (hx : DigOk b x) {k plus : Nat} (hk : k < b) (hp : plus < b) (n : Nat) :
   valB b (joinB (smallF b x k plus) (n + 1)).1 + b ^ (n + 1) * (joinB (smallF b x k plus) (n + 1)).2 = valB b (x.take (n + 1)) * k + plus ∧ (joinB (smallF b x k plus) (n + 1)).2 < b ∧ DigOk b (joinB (smallF b x k plus) (n + 1)).1 := by
 have hcar : ∀ (i c : Nat), c < b → (atB x i * k + c) / b < b := by
   intro i c hc
   rw [Nat.div_lt_iff_lt_mul (by omega)]
   have h1 := atB_lt (by omega) hx i
   have h2 : atB x i * k ≤ (b - 1) * (b - 1) := Nat.mul_le_mul (by omega) (by omega)
   have h3 : (b - 1) * (b - 1) + b ≤ b * b := by
     obtain ⟨d, rfl⟩ : ∃ d, b = d + 1 := ⟨b - 1, by omega⟩
     simp only [Nat.add_sub_cancel]
     rw [Nat.add_mul, Nat.mul_add]
     omega
   omega
 induction n with
 | zero =>
   have e1 : joinB (smallF b x k plus) (0 + 1) = ([(atB x 0 * k + plus) % b], (atB x 0 * k + plus) / b) := by simp [joinB, smallF]
   rw [e1, valB_take_succ]
   refine ⟨?_, hcar 0 plus hp, ?_⟩
   · simp only [valB_cons, valB_nil, List.take_zero, Nat.mul_zero, Nat.add_zero, Nat.zero_add, Nat.pow_one, Nat.pow_zero, Nat.one_mul]
     exact Nat.mod_add_div _ _
   · intro y hy
     rw [List.mem_singleton] at hy
     subst hy
     exact Nat.mod_lt _ (by omega)
 | succ n ih =>
   obtain ⟨h1, h2, h3⟩ := ih
   obtain ⟨c, hc⟩ : ∃ c, c = (joinB (smallF b x k plus) (n + 1)).2 := ⟨_, rfl⟩
   obtain ⟨s, hs⟩ : ∃ s, s = atB x (n + 1) * k + c := ⟨_, rfl⟩
   have e1 : joinB (smallF b x k plus) (n + 1 + 1) = ((joinB (smallF b x k plus) (n + 1)).1 ++ [s % b], s / b) := by
     show ((joinB (smallF b x k plus) (n + 1)).1 ++ _, _) = _
     simp [smallF, hs, hc]
   rw [← hc] at h1 h2
   rw [e1]
   refine ⟨?_, ?_, digOk_snoc h3 (Nat.mod_lt _ (by omega))⟩
   · rw [valB_snoc, joinB_len, valB_take_succ b x (n + 1), Nat.pow_succ (n := b) (m := n + 1), Nat.mul_assoc, Nat.add_assoc, ← Nat.mul_add, Nat.mod_add_div, hs, Nat.mul_add, Nat.add_mul, Nat.mul_assoc]
     omega
   · show s / b < b
     rw [hs]
     exact hcar _ _ h2
theorem small_digits {b : Nat} (hb : 2 ≤ b) (m : Nat) {k plus : Nat} (hk : k < b) (hp : plus < b) : valB b (joinR (smallF b (digB b m) k plus) ((digB b m).length + 1)) = m * k + plus ∧ DigOk b (joinR (smallF b (digB b m) k plus) ((digB b m).length + 1)) := by
 obtain ⟨h1, h2, h3⟩ := smallF_inv hb (digB_ok hb m) hk hp (digB b m).length
 refine ⟨?_, joinR_ok h3 h2⟩
 rw [joinR_val, h1, valB_take_all (by omega), valB_digB hb]
def mulK (b x i : Nat) (y out : List Nat) : Nat → List Nat × Nat
 | 0 => (out, 0)
 | k + 1 => (((mulK b x i y out k).1.set (i + k) ((x * atB y k + atB (mulK b x i y out k).1 (i + k) + (mulK b x i y out k).2) % b)), (x * atB y k + atB (mulK b x i y out k).1 (i + k) + (mulK b x i y out k).2) / b)
def mulRow (b x i : Nat) (y out : List Nat) : List Nat := (mulK b x i y out y.length).1.set (i + y.length) (mulK b x i y out y.length).2
def mulAll (b : Nat) (x y : List Nat) : Nat → List Nat
 | 0 => List.replicate (x.length + y.length) 0
 | i + 1 => mulRow b (atB x i) i y (mulAll b x y i)
theorem mulK_len (b x i : Nat) (y out : List Nat) (k : Nat) : (mulK b x i y out k).1.length = out.length := by
 induction k with
 | zero => rfl
 | succ k ih => simp [mulK, ih]
theorem mulRow_len (b x i : Nat) (y out : List Nat) : (mulRow b x i y out).length = out.length := by simp [mulRow, mulK_len]
theorem mulAll_len (b : Nat) (x y : List Nat) (i : Nat) : (mulAll b x y i).length = x.length + y.length := by
 induction i with
 | zero => simp [mulAll]
 | succ i ih => rw [mulAll, mulRow_len, ih]
theorem atB_set {l : List Nat} {i j x : Nat} (h : i ≠ j) : atB (l.set i x) j = atB l j := by unfold atB; rw [List.getElem?_set_ne h]
theorem atB_set_same {l : List Nat} {i x : Nat} (h : i < l.length) : atB (l.set i x) i = x := by unfold atB; rw [List.getElem?_set_self h]; rfl
theorem set_atB {l : List Nat} {i : Nat} (h : i < l.length) : l.set i (atB l i) = l := by
 apply List.ext_getElem?
 intro j
 by_cases hj : i = j
 · subst hj; rw [List.getElem?_set_self h, List.getElem?_eq_getElem h]; simp [atB, h]
 · rw [List.getElem?_set_ne hj]
theorem mul_car {b x y o c : Nat} (hx : x < b) (hy : y < b) (ho : o < b) (hc : c < b) : x * y + o + c < b * b := by
 have h2 : x * y ≤ (b - 1) * (b - 1) := Nat.mul_le_mul (by omega) (by omega)
 obtain ⟨d, rfl⟩ : ∃ d, b = d + 1 := ⟨b - 1, by omega⟩
 simp only [Nat.add_sub_cancel] at h2
 have h3 : (d + 1) * (d + 1) = d * d + d + d + 1 := by rw [Nat.add_mul, Nat.mul_add]; omega
 omega
theorem mulK_inv {b x i : Nat} (hb : 2 ≤ b) (hx : x < b) {y out : List Nat} (hy : DigOk b y) (ho : DigOk b out) (k : Nat) (hk : i + k ≤ out.length) :
   valB b (mulK b x i y out k).1 + b ^ (i + k) * (mulK b x i y out k).2 = valB b out + b ^ i * (x * valB b (y.take k)) ∧ (mulK b x i y out k).2 < b ∧ DigOk b (mulK b x i y out k).1 ∧ ∀ j, i + k ≤ j → atB (mulK b x i y out k).1 j = atB out j := by
 induction k with
 | zero => exact ⟨by simp [mulK, valB], by simp [mulK]; omega, ho, fun _ _ => rfl⟩
 | succ k ih =>
   obtain ⟨h1, h2, h3, h4⟩ := ih (by omega)
   obtain ⟨c, hc⟩ : ∃ c, c = (mulK b x i y out k).2 := ⟨_, rfl⟩
   obtain ⟨o, hoo⟩ : ∃ o, o = (mulK b x i y out k).1 := ⟨_, rfl⟩
   obtain ⟨s, hs⟩ : ∃ s, s = x * atB y k + atB o (i + k) + c := ⟨_, rfl⟩
   have e1 : mulK b x i y out (k + 1) = (o.set (i + k) (s % b), s / b) := by simp [mulK, hs, hc, hoo]
   have hol : o.length = out.length := by rw [hoo]; exact mulK_len ..
   rw [← hc, ← hoo] at h1
   rw [← hc] at h2
   rw [← hoo] at h3 h4
   have hyk := atB_lt (by omega) hy k
   have hok := atB_lt (by omega) h3 (i + k)
   rw [e1]
   refine ⟨?_, ?_, digOk_set h3 (Nat.mod_lt _ (by omega)), fun j hj => ?_⟩
   · have e2 := valB_set b (l := o) (i := i + k) (s % b) (by omega)
     have e3 : b ^ (i + (k + 1)) * (s / b) = b ^ (i + k) * (b * (s / b)) := by rw [← Nat.add_assoc, Nat.pow_succ, Nat.mul_assoc]
     have e4 : b ^ (i + k) * (s % b) + b ^ (i + k) * (b * (s / b)) = b ^ (i + k) * s := by rw [← Nat.mul_add, Nat.mod_add_div]
     have e5 : b ^ (i + k) * s = b ^ i * (x * (b ^ k * atB y k)) + b ^ (i + k) * atB o (i + k) + b ^ (i + k) * c := by
       rw [hs, Nat.mul_add, Nat.mul_add]
       congr 2
       rw [Nat.pow_add, Nat.mul_assoc, Nat.mul_left_comm x]
     rw [valB_take_succ, Nat.mul_add, Nat.mul_add, e3]
     simp only
     omega
   · show s / b < b
     rw [Nat.div_lt_iff_lt_mul (by omega), hs]
     exact mul_car hx hyk hok h2
   · show atB (o.set (i + k) (s % b)) j = _
     rw [atB_set (by omega)]
     exact h4 j (by omega)
theorem mulRow_inv {b x i : Nat} (hb : 2 ≤ b) (hx : x < b) {y out : List Nat} (hy : DigOk b y) (ho : DigOk b out) (hk : i + y.length < out.length) (hz : ∀ j, i + y.length ≤ j → atB out j = 0) :
   valB b (mulRow b x i y out) = valB b out + b ^ i * (x * valB b y) ∧ DigOk b (mulRow b x i y out) ∧ ∀ j, i + 1 + y.length ≤ j → atB (mulRow b x i y out) j = 0 := by
 obtain ⟨h1, h2, h3, h4⟩ := mulK_inv (i := i) hb hx hy ho y.length (by omega)
 rw [valB_take_all (Nat.le_refl _)] at h1
 have e2 := valB_set b (l := (mulK b x i y out y.length).1) (i := i + y.length) (mulK b x i y out y.length).2 (by rw [mulK_len]; omega)
 rw [h4 _ (Nat.le_refl _), hz _ (Nat.le_refl _), Nat.mul_zero, Nat.add_zero] at e2
 refine ⟨e2.trans h1, digOk_set h3 h2, fun j hj => ?_⟩
 unfold mulRow
 rw [atB_set (by omega), h4 j (by omega), hz j (by omega)]
theorem mulAll_inv {b : Nat} (hb : 2 ≤ b) {x y : List Nat} (hx : DigOk b x) (hy : DigOk b y) (i : Nat) (hi : i ≤ x.length) :
   valB b (mulAll b x y i) = valB b (x.take i) * valB b y ∧ DigOk b (mulAll b x y i) ∧ ∀ j, i + y.length ≤ j → atB (mulAll b x y i) j = 0 := by
 induction i with
 | zero =>
   refine ⟨?_, digOk_zeros _ _ (by omega), fun j _ => ?_⟩
   · rw [mulAll, valB_zeros (fun z hz => (List.mem_replicate.1 hz).2)]; simp [valB]
   · unfold mulAll atB
     rw [List.getElem?_replicate]
     split <;> rfl
 | succ i ih =>
   obtain ⟨h1, h2, h3⟩ := ih (by omega)
   obtain ⟨g1, g2, g3⟩ := mulRow_inv (i := i) hb (atB_lt (by omega) hx i) hy h2 (by rw [mulAll_len]; omega) h3
   refine ⟨?_, g2, g3⟩
   rw [mulAll, g1, h1, valB_take_succ, Nat.add_mul, Nat.mul_assoc]
theorem mul_digits {b : Nat} (hb : 2 ≤ b) (m n : Nat) : valB b (mulAll b (digB b m) (digB b n) (digB b m).length) = m * n ∧ DigOk b (mulAll b (digB b m) (digB b n) (digB b m).length) := by
 obtain ⟨h1, h2, -⟩ := mulAll_inv hb (digB_ok hb m) (digB_ok hb n) (digB b m).length (Nat.le_refl _)
 refine ⟨?_, h2⟩
 rw [h1, valB_take_all (Nat.le_refl _), valB_digB hb, valB_digB hb]
theorem mulRow_none {b x i : Nat} {y out : List Nat} (hk : i + y.length < out.length) (hz : atB (mulK b x i y out y.length).1 (i + y.length) = 0) (hc : (mulK b x i y out y.length).2 = 0) : mulRow b x i y out = (mulK b x i y out y.length).1 := by
 unfold mulRow
 rw [hc, ← hz]
 exact set_atB (by rw [mulK_len]; exact hk)
def shortB (b n : Nat) : List Nat → List Nat × Nat
 | [] => ([], 0)
 | x :: r => (((shortB b n r).2 * b + x) / n :: (shortB b n r).1, ((shortB b n r).2 * b + x) % n)
theorem shortB_inv {b n : Nat} (hn : 0 < n) (l : List Nat) (hl : DigOk b l) : valB b (shortB b n l).1 * n + (shortB b n l).2 = valB b l ∧ (shortB b n l).2 < n ∧ DigOk b (shortB b n l).1 ∧ (shortB b n l).1.length = l.length := by
 induction l with
 | nil => exact ⟨by simp [shortB, valB], hn, by intro x hx; simp [shortB] at hx, rfl⟩
 | cons x r ih =>
   obtain ⟨h1, h2, h3, h4⟩ := ih fun y hy => hl y (by simp [hy])
   have hx := hl x (by simp)
   obtain ⟨q, hq⟩ : ∃ q, q = (shortB b n r).1 := ⟨_, rfl⟩
   obtain ⟨c, hc⟩ : ∃ c, c = (shortB b n r).2 := ⟨_, rfl⟩
   obtain ⟨s, hs⟩ : ∃ s, s = c * b + x := ⟨_, rfl⟩
   have e1 : shortB b n (x :: r) = (s / n :: q, s % n) := by simp [shortB, hs, hc, hq]
   rw [← hq, ← hc] at h1
   rw [← hc] at h2
   rw [← hq] at h3 h4
   rw [e1]
   refine ⟨?_, Nat.mod_lt _ hn, ?_, by simp [h4]⟩
   · show valB b (s / n :: q) * n + s % n = valB b (x :: r)
     rw [valB_cons, valB_cons, ← h1, Nat.add_mul, Nat.mul_add]
     have e2 : s / n * n + s % n = s := by rw [Nat.mul_comm]; exact Nat.div_add_mod s n
     have e3 : b * valB b q * n = b * (valB b q * n) := Nat.mul_assoc _ _ _
     have e4 : c * b = b * c := Nat.mul_comm _ _
     omega
   · intro y hy
     rcases List.mem_cons.1 hy with rfl | hy
     · rw [Nat.div_lt_iff_lt_mul hn, hs]
       have h5 : c * b + b ≤ n * b := by
         have : (c + 1) * b ≤ n * b := Nat.mul_le_mul_right _ h2
         rw [Nat.add_mul, Nat.one_mul] at this
         exact this
       rw [Nat.mul_comm b n]
       omega
     · exact h3 y hy
theorem short_digits {b n : Nat} (hb : 2 ≤ b) (hn : 0 < n) (m : Nat) : valB b (shortB b n (digB b m)).1 = m / n ∧ (shortB b n (digB b m)).2 = m % n ∧ DigOk b (shortB b n (digB b m)).1 ∧ (shortB b n (digB b m)).1.length = (digB b m).length := by
 obtain ⟨h1, h2, h3, h4⟩ := shortB_inv hn (digB b m) (digB_ok hb m)
 rw [valB_digB hb] at h1
 have e1 : valB b (shortB b n (digB b m)).1 = m / n := by
   generalize valB b (shortB b n (digB b m)).1 = q at h1
   generalize (shortB b n (digB b m)).2 = r at h1 h2
   subst h1
   rw [Nat.mul_comm q n, Nat.mul_add_div hn, Nat.div_eq_of_lt h2, Nat.add_zero]
 refine ⟨e1, ?_, h3, h4⟩
 have := Nat.div_add_mod m n
 rw [e1, Nat.mul_comm] at h1
 omega
def shortS (b n : Nat) (l : List Nat) (m : Nat) : List Nat × Nat := (List.replicate m 0 ++ (shortB b n (l.drop m)).1, (shortB b n (l.drop m)).2)
theorem shortS_all (b n : Nat) (l : List Nat) : shortS b n l l.length = (List.replicate l.length 0, 0) := by
 unfold shortS
 rw [List.drop_length]
 simp [shortB]
theorem shortS_zero (b n : Nat) (l : List Nat) : shortS b n l 0 = shortB b n l := by
 unfold shortS
 rw [List.drop_zero]
 simp
theorem shortS_step {b n m : Nat} {l : List Nat} (h : m < l.length) : shortS b n l m = ((shortS b n l (m + 1)).1.set m (((shortS b n l (m + 1)).2 * b + atB l m) / n), ((shortS b n l (m + 1)).2 * b + atB l m) % n) := by
 unfold shortS
 have hd : l.drop m = atB l m :: l.drop (m + 1) := by
   rw [List.drop_eq_getElem_cons h]
   simp [atB, h]
 rw [hd, shortB]
 simp only [Prod.mk.injEq, and_true]
 rw [List.replicate_succ', List.append_assoc, List.set_append, if_neg (by simp), List.length_replicate, Nat.sub_self]
 rfl
theorem shortS_len {b n : Nat} (hn : 0 < n) {l : List Nat} (hl : DigOk b l) {m : Nat} (hm : m ≤ l.length) : (shortS b n l m).1.length = l.length ∧ (shortS b n l m).2 < n := by
 unfold shortS
 obtain ⟨-, h2, -, h4⟩ := shortB_inv hn (l.drop m) fun x hx => hl x (List.mem_of_mem_drop hx)
 refine ⟨?_, h2⟩
 simp only [List.length_append, List.length_replicate, h4, List.length_drop]
 omega
abbrev Ex := Nat × Nat
abbrev Pol := List (Ex × Nat)
def ltX (k l : Ex) : Bool := decide (k.1 < l.1) || (decide (k.1 = l.1) && decide (k.2 < l.2))
theorem ltX_iff {k l : Ex} : ltX k l = true ↔ k.1 < l.1 ∨ (k.1 = l.1 ∧ k.2 < l.2) := by simp [ltX]
theorem ltX_irr (k : Ex) : ltX k k = false := by simp [ltX]
theorem ltX_trans {k l m : Ex} (h1 : ltX k l = true) (h2 : ltX l m = true) : ltX k m = true := by rw [ltX_iff] at *; omega
theorem ltX_total {k l : Ex} (h1 : ltX k l = false) (h2 : ¬ k = l) : ltX l k = true := by
 have h3 : ¬ (ltX k l = true) := by rw [h1]; simp
 rw [ltX_iff] at *
 have : ¬ (k.1 = l.1 ∧ k.2 = l.2) := fun ⟨a, b⟩ => h2 (Prod.ext a b)
 omega
theorem ltX_ne {k l : Ex} (h : ltX k l = true) : k ≠ l := by rintro rfl; rw [ltX_irr] at h; cases h
structure Canon (p : Pol) : Prop where
 srt : p.Pairwise fun x y => ltX x.1 y.1 = true
 pos : ∀ x ∈ p, 0 < x.2
theorem Canon.nil : Canon [] := ⟨List.Pairwise.nil, by simp⟩
def insT (t : Ex × Nat) : Pol → Pol
 | [] => [t]
 | x :: r => if ltX x.1 t.1 then x :: insT t r else if x.1 = t.1 then (x.1, x.2 + t.2) :: r else t :: x :: r
def addT (p : Pol) (t : Ex × Nat) : Pol := if t.2 = 0 then p else insT t p
def padd (p q : Pol) : Pol := q.foldl addT p
def coefP (l : Pol) (k : Ex) : Nat := match l with
 | [] => 0
 | x :: r => (if x.1 = k then x.2 else 0) + coefP r k
def lin (g : Ex → Nat) : Pol → Nat
 | [] => 0
 | x :: r => g x.1 * x.2 + lin g r
def wt (l : Pol) : Nat := lin (fun _ => 1) l
theorem coefP_lin (l : Pol) (k : Ex) : coefP l k = lin (fun e => if e = k then 1 else 0) l := by
 induction l with
 | nil => rfl
 | cons x r ih =>
   rw [coefP, lin, ih]
   split <;> simp
theorem lin_ins (g : Ex → Nat) (t : Ex × Nat) (p : Pol) : lin g (insT t p) = lin g p + g t.1 * t.2 := by
 induction p with
 | nil => simp [insT, lin]
 | cons x r ih =>
   unfold insT
   split
   · rw [lin, lin, ih]; omega
   · split
     · rename_i h
       simp only [lin, h, Nat.mul_add]
       omega
     · simp only [lin]; omega
theorem lin_addT (g : Ex → Nat) (p : Pol) (t : Ex × Nat) : lin g (addT p t) = lin g p + g t.1 * t.2 := by
 unfold addT
 split
 · rename_i h; rw [h]; simp
 · exact lin_ins g t p
theorem lin_append (g : Ex → Nat) (p q : Pol) : lin g (p ++ q) = lin g p + lin g q := by
 induction p with
 | nil => simp [lin]
 | cons x r ih => rw [List.cons_append, lin, lin, ih]; omega
theorem lin_padd (g : Ex → Nat) (p q : Pol) : lin g (padd p q) = lin g p + lin g q := by
 unfold padd
 induction q generalizing p with
 | nil => simp [lin]
 | cons x r ih => rw [List.foldl_cons, ih, lin_addT, lin]; omega
theorem lin_perm (g : Ex → Nat) {p q : Pol} (h : p.Perm q) : lin g p = lin g q := by
 induction h with
 | nil => rfl
 | cons x _ ih => rw [lin, lin, ih]
 | swap x y l => simp only [lin]; omega
 | trans _ _ h1 h2 => exact h1.trans h2
theorem lin_congr {g h : Ex → Nat} {p : Pol} (e : ∀ x ∈ p, g x.1 = h x.1) : lin g p = lin h p := by
 induction p with
 | nil => rfl
 | cons x r ih => rw [lin, lin, e x (by simp), ih fun y hy => e y (by simp [hy])]
theorem lin_plus (g h : Ex → Nat) (p : Pol) : lin (fun e => g e + h e) p = lin g p + lin h p := by
 induction p with
 | nil => rfl
 | cons x r ih => simp only [lin, ih, Nat.add_mul]; omega
theorem lin_zero (p : Pol) : lin (fun _ => 0) p = 0 := by
 induction p with
 | nil => rfl
 | cons x r ih => simp [lin, ih]
theorem lin_scale (c : Nat) (g : Ex → Nat) (p : Pol) : lin (fun e => c * g e) p = c * lin g p := by
 induction p with
 | nil => rfl
 | cons x r ih => simp only [lin, ih, Nat.mul_add, Nat.mul_assoc]
theorem lin_scale' (c : Nat) (g : Ex → Nat) (p : Pol) : lin (fun e => g e * c) p = lin g p * c := by
 rw [Nat.mul_comm, ← lin_scale]
 exact lin_congr fun x _ => Nat.mul_comm _ _
theorem lin_swap (h : Ex → Ex → Nat) (p q : Pol) : lin (fun e => lin (fun f => h e f) q) p = lin (fun f => lin (fun e => h e f) p) q := by
 induction p with
 | nil => simp only [lin]; exact (lin_zero q).symm
 | cons x r ih =>
   rw [lin, ih]
   have e1 : (fun f => lin (fun e => h e f) (x :: r)) = fun f => h x.1 f * x.2 + lin (fun e => h e f) r := rfl
   rw [e1, lin_plus, lin_scale']
theorem mem_coef {p : Pol} (h : Canon p) {x : Ex × Nat} (hx : x ∈ p) : coefP p x.1 = x.2 := by
 have hs := h.srt
 clear h
 induction p with
 | nil => simp at hx
 | cons y r ih =>
   rw [List.pairwise_cons] at hs
   rw [coefP]
   rcases List.mem_cons.1 hx with rfl | hx
   · have : coefP r x.1 = 0 := by
       have h1 := hs.1
       clear ih hs hx
       induction r with
       | nil => rfl
       | cons z r ih =>
         rw [coefP, if_neg (fun e => ltX_ne (h1 z (by simp)) e.symm), ih fun u hu => h1 u (by simp [hu])]
     rw [if_pos rfl, this, Nat.add_zero]
   · rw [if_neg (ltX_ne (hs.1 x hx)), ih hx hs.2, Nat.zero_add]
theorem coef_none {p : Pol} {k : Ex} (h : ∀ x ∈ p, x.1 ≠ k) : coefP p k = 0 := by
 induction p with
 | nil => rfl
 | cons x r ih => rw [coefP, if_neg (h x (by simp)), ih fun y hy => h y (by simp [hy])]
theorem coef_mem {p : Pol} (h : Canon p) {k : Ex} {n : Nat} (hk : coefP p k = n) (hn : 0 < n) : (k, n) ∈ p := by
 by_cases hx : ∃ x ∈ p, x.1 = k
 · obtain ⟨x, hx, rfl⟩ := hx
   rw [mem_coef h hx] at hk
   subst hk
   exact hx
 · rw [coef_none fun x hxp e => hx ⟨x, hxp, e⟩] at hk
   omega
theorem Canon.tail {x : Ex × Nat} {p : Pol} (h : Canon (x :: p)) : Canon p := ⟨(List.pairwise_cons.1 h.srt).2, fun y hy => h.pos y (by simp [hy])⟩
theorem Canon.ext {p q : Pol} (hp : Canon p) (hq : Canon q) (h : ∀ k, coefP p k = coefP q k) : p = q := by
 induction p generalizing q with
 | nil =>
   cases q with
   | nil => rfl
   | cons y s =>
     have := h y.1
     rw [mem_coef hq (by simp)] at this
     have := hq.pos y (by simp)
     simp [coefP] at *
     omega
 | cons x r ih =>
   have hxq := coef_mem hq (k := x.1) (n := x.2) (by rw [← h, mem_coef hp (by simp)]) (hp.pos x (by simp))
   cases q with
   | nil => simp at hxq
   | cons y s =>
     have hyp := coef_mem hp (k := y.1) (n := y.2) (by rw [h, mem_coef hq (by simp)]) (hq.pos y (by simp))
     have hxy : x = y := by
       rcases List.mem_cons.1 hxq with e | e
       · exact e
       · rcases List.mem_cons.1 hyp with e2 | e2
         · exact e2.symm
         · exfalso
           have h1 := (List.pairwise_cons.1 hp.srt).1 _ e2
           have h2 := (List.pairwise_cons.1 hq.srt).1 _ e
           exact absurd (ltX_trans h1 h2) (by rw [ltX_irr]; simp)
     subst hxy
     rw [ih hp.tail hq.tail fun k => ?_]
     have := h k
     rw [coefP, coefP] at this
     omega
theorem mem_ins {t x : Ex × Nat} {p : Pol} (h : x ∈ insT t p) : x = t ∨ x ∈ p ∨ (x.1 = t.1 ∧ t.2 ≤ x.2) := by
 induction p with
 | nil => simp [insT] at h; exact .inl h
 | cons y r ih =>
   unfold insT at h
   split at h
   · rcases List.mem_cons.1 h with rfl | h
     · exact .inr (.inl (by simp))
     · rcases ih h with h | h | h
       · exact .inl h
       · exact .inr (.inl (by simp [h]))
       · exact .inr (.inr h)
   · split at h
     · rcases List.mem_cons.1 h with rfl | h
       · rename_i e; exact .inr (.inr ⟨e, by simp⟩)
       · exact .inr (.inl (by simp [h]))
     · rcases List.mem_cons.1 h with rfl | h
       · exact .inl rfl
       · exact .inr (.inl h)
theorem mem_ins_key {t x : Ex × Nat} {p : Pol} (h : x ∈ insT t p) : x.1 = t.1 ∨ ∃ y ∈ p, y.1 = x.1 := by
 rcases mem_ins h with rfl | h | h
 · exact .inl rfl
 · exact .inr ⟨x, h, rfl⟩
 · exact .inl h.1
theorem Canon.ins {p : Pol} (h : Canon p) {t : Ex × Nat} (ht : 0 < t.2) : Canon (insT t p) := by
 induction p with
 | nil => exact ⟨by simp [insT], by simp [insT]; exact ht⟩
 | cons x r ih =>
   have ih := ih h.tail
   have hx := (List.pairwise_cons.1 h.srt).1
   unfold insT
   split
   · rename_i hlt
     refine ⟨List.pairwise_cons.2 ⟨fun y hy => ?_, ih.srt⟩, fun y hy => ?_⟩
     · rcases mem_ins_key hy with e | ⟨z, hz, e⟩
       · rw [e]; exact hlt
       · rw [← e]; exact hx z hz
     · rcases List.mem_cons.1 hy with rfl | hy
       · exact h.pos _ (by simp)
       · exact ih.pos y hy
   · split
     · rename_i h1 h2
       refine ⟨List.pairwise_cons.2 ⟨fun y hy => hx y hy, h.tail.srt⟩, fun y hy => ?_⟩
       rcases List.mem_cons.1 hy with rfl | hy
       · show 0 < x.2 + t.2; omega
       · exact h.pos y (by simp [hy])
     · rename_i h1 h2
       have h3 := ltX_total (k := x.1) (l := t.1) (by simpa using h1) h2
       refine ⟨List.pairwise_cons.2 ⟨fun y hy => ?_, h.srt⟩, fun y hy => ?_⟩
       · rcases List.mem_cons.1 hy with rfl | hy
         · exact h3
         · exact ltX_trans h3 (hx y hy)
       · rcases List.mem_cons.1 hy with rfl | hy
         · exact ht
         · exact h.pos y hy
theorem Canon.addT {p : Pol} (h : Canon p) (t : Ex × Nat) : Canon (addT p t) := by
 unfold Pal.addT
 split
 · exact h
 · exact h.ins (by omega)
theorem Canon.padd {p : Pol} (h : Canon p) (q : Pol) : Canon (padd p q) := by
 unfold Pal.padd
 induction q generalizing p with
 | nil => exact h
 | cons x r ih => exact ih (h.addT x)
theorem coef_padd (p q : Pol) (k : Ex) : coefP (padd p q) k = coefP p k + coefP q k := by rw [coefP_lin, coefP_lin, coefP_lin, lin_padd]
theorem coef_perm {p q : Pol} (h : p.Perm q) (k : Ex) : coefP p k = coefP q k := by rw [coefP_lin, coefP_lin, lin_perm _ h]
theorem padd_perm {p q q' : Pol} (hp : Canon p) (h : q.Perm q') : padd p q = padd p q' := (hp.padd q).ext (hp.padd q') fun k => by rw [coef_padd, coef_padd, coef_perm h]
theorem padd_nil {p : Pol} (hp : Canon p) : padd [] p = p := (Canon.nil.padd p).ext hp fun k => by rw [coef_padd]; simp [coefP]
theorem padd_comm {p q : Pol} (hp : Canon p) (hq : Canon q) : padd p q = padd q p := (hp.padd q).ext (hq.padd p) fun k => by rw [coef_padd, coef_padd]; omega
theorem padd_assoc {p q r : Pol} (hp : Canon p) : padd (padd p q) r = padd p (padd q r) := ((hp.padd q).padd r).ext (hp.padd _) fun k => by simp only [coef_padd]; omega
theorem padd_append (p q r : Pol) : padd p (q ++ r) = padd (padd p q) r := by unfold padd; rw [List.foldl_append]
theorem insT_len (p : Pol) (t : Ex × Nat) : (insT t p).length ≤ p.length + 1 := by
 induction p with
 | nil => simp [insT]
 | cons x r ih =>
   unfold insT
   split
   · simp only [List.length_cons]; omega
   · split <;> simp
theorem addT_len (p : Pol) (t : Ex × Nat) : (addT p t).length ≤ p.length + 1 := by
 unfold addT
 split
 · omega
 · exact insT_len p t
theorem padd_len (p q : Pol) : (padd p q).length ≤ p.length + q.length := by
 unfold padd
 induction q generalizing p with
 | nil => simp
 | cons x r ih =>
   have h1 := ih (addT p x)
   have h2 := addT_len p x
   simp only [List.foldl_cons, List.length_cons] at *
   omega
theorem mem_addT_key {t x : Ex × Nat} {p : Pol} (h : x ∈ addT p t) : x.1 = t.1 ∨ ∃ y ∈ p, y.1 = x.1 := by
 unfold addT at h
 split at h
 · exact .inr ⟨x, h, rfl⟩
 · exact mem_ins_key h
theorem mem_padd_key {x : Ex × Nat} {p q : Pol} (h : x ∈ padd p q) : (∃ y ∈ p, y.1 = x.1) ∨ ∃ y ∈ q, y.1 = x.1 := by
 unfold padd at h
 induction q generalizing p with
 | nil => exact .inl ⟨x, h, rfl⟩
 | cons t r ih =>
   rcases ih h with ⟨y, hy, e⟩ | ⟨y, hy, e⟩
   · rcases mem_addT_key hy with e2 | ⟨z, hz, e2⟩
     · exact .inr ⟨t, by simp, by rw [← e, e2]⟩
     · exact .inl ⟨z, hz, by rw [e2, e]⟩
   · exact .inr ⟨y, by simp [hy], e⟩
theorem wt_mem {p : Pol} {x : Ex × Nat} (h : x ∈ p) : x.2 ≤ wt p := by
 induction p with
 | nil => simp at h
 | cons y r ih =>
   unfold wt at ih ⊢
   rw [lin]
   rcases List.mem_cons.1 h with rfl | h
   · omega
   · have := ih h; omega
theorem wt_padd (p q : Pol) : wt (padd p q) = wt p + wt q := lin_padd _ p q
def addX (k l : Ex) : Ex := (k.1 + l.1, k.2 + l.2)
def okX (k : Ex) : Prop := k.1 ≤ 2048 ∧ k.2 ≤ 2048
instance (k : Ex) : Decidable (okX k) := by unfold okX; infer_instance
def prodT (x : Ex × Nat) (q : Pol) : Pol := q.flatMap fun y => if okX (addX x.1 y.1) then [(addX x.1 y.1, x.2 * y.2)] else []
def prodL (p q : Pol) : Pol := p.flatMap fun x => prodT x q
def pmul (p q : Pol) : Pol := padd [] (prodL p q)
theorem lin_prodT (g : Ex → Nat) (x : Ex × Nat) (q : Pol) : lin g (prodT x q) = lin (fun f => if okX (addX x.1 f) then g (addX x.1 f) else 0) q * x.2 := by
 unfold prodT
 induction q with
 | nil => simp [lin]
 | cons y r ih =>
   rw [List.flatMap_cons, lin_append, ih, lin, Nat.add_mul]
   congr 1
   split
   · simp only [lin, Nat.add_zero]
     rw [Nat.mul_comm x.2, Nat.mul_assoc]
   · simp [lin]
theorem lin_prodL (g : Ex → Nat) (p q : Pol) : lin g (prodL p q) = lin (fun e => lin (fun f => if okX (addX e f) then g (addX e f) else 0) q) p := by
 unfold prodL
 induction p with
 | nil => rfl
 | cons x r ih => rw [List.flatMap_cons, lin_append, ih, lin, lin_prodT]
theorem lin_pmul (g : Ex → Nat) (p q : Pol) : lin g (pmul p q) = lin (fun e => lin (fun f => if okX (addX e f) then g (addX e f) else 0) q) p := by
 unfold pmul
 rw [lin_padd, lin_prodL]
 simp [lin]
theorem canon_pmul (p q : Pol) : Canon (pmul p q) := Canon.nil.padd _
theorem prodT_len (x : Ex × Nat) (q : Pol) : (prodT x q).length ≤ q.length := by
 unfold prodT
 induction q with
 | nil => simp
 | cons y r ih =>
   rw [List.flatMap_cons, List.length_append, List.length_cons]
   have : (if okX (addX x.1 y.1) then [(addX x.1 y.1, x.2 * y.2)] else []).length ≤ 1 := by split <;> simp
   omega
theorem prodL_len (p q : Pol) : (prodL p q).length ≤ p.length * q.length := by
 unfold prodL
 induction p with
 | nil => simp
 | cons x r ih =>
   rw [List.flatMap_cons, List.length_append, List.length_cons, Nat.add_mul, Nat.one_mul]
   have := prodT_len x q
   omega
theorem pmul_len (p q : Pol) : (pmul p q).length ≤ p.length * q.length := by
 have h1 := padd_len [] (prodL p q)
 have h2 := prodL_len p q
 unfold pmul
 simp at h1
 omega
theorem lin_le {g h : Ex → Nat} {p : Pol} (e : ∀ x, g x ≤ h x) : lin g p ≤ lin h p := by
 induction p with
 | nil => exact Nat.le_refl _
 | cons x r ih => rw [lin, lin]; exact Nat.add_le_add (Nat.mul_le_mul_right _ (e x.1)) ih
theorem wt_prodL (p q : Pol) : wt (prodL p q) ≤ wt p * wt q := by
 unfold wt
 rw [lin_prodL, Nat.mul_comm, ← lin_scale]
 refine lin_le fun e => ?_
 rw [Nat.mul_one]
 exact lin_le fun f => by split <;> omega
theorem wt_pmul (p q : Pol) : wt (pmul p q) ≤ wt p * wt q := by
 unfold pmul
 rw [wt_padd]
 have := wt_prodL p q
 have h0 : wt [] = 0 := rfl
 omega
theorem addX_comm (k l : Ex) : addX k l = addX l k := by unfold addX; rw [Nat.add_comm, Nat.add_comm k.2]
theorem addX_assoc (k l m : Ex) : addX (addX k l) m = addX k (addX l m) := by simp only [addX, Nat.add_assoc]
theorem coef_pmul (p q : Pol) (k : Ex) : coefP (pmul p q) k = if okX k then lin (fun e => lin (fun f => if addX e f = k then 1 else 0) q) p else 0 := by
 rw [coefP_lin, lin_pmul]
 by_cases h : okX k
 · rw [if_pos h]
   refine lin_congr fun x _ => lin_congr fun y _ => ?_
   by_cases e : addX x.1 y.1 = k
   · rw [e, if_pos h]
   · rw [if_neg e]; split <;> rfl
 · rw [if_neg h]
   refine Eq.trans (lin_congr fun x _ => ?_) (lin_zero p)
   refine Eq.trans (lin_congr fun y _ => ?_) (lin_zero q)
   by_cases e : addX x.1 y.1 = k
   · rw [e, if_neg h]
   · rw [if_neg e]; split <;> rfl
theorem pmul_comm (p q : Pol) : pmul p q = pmul q p := (canon_pmul p q).ext (canon_pmul q p) fun k => by
 rw [coef_pmul, coef_pmul, lin_swap]
 congr 1
 exact lin_congr fun x _ => lin_congr fun y _ => by rw [addX_comm]
theorem pmul_assoc (p q r : Pol) : pmul (pmul p q) r = pmul p (pmul q r) := (canon_pmul _ r).ext (canon_pmul p _) fun k => by
 rw [coef_pmul, coef_pmul]
 by_cases h : okX k
 · rw [if_pos h, if_pos h, lin_pmul]
   refine lin_congr fun x _ => ?_
   rw [lin_pmul]
   refine lin_congr fun y _ => ?_
   have hok : ∀ {e f : Ex}, addX e f = k → okX e ∧ okX f := by
     intro e f he
     subst he
     unfold okX addX at *
     simp only at h
     exact ⟨⟨by omega, by omega⟩, ⟨by omega, by omega⟩⟩
   have e1 : (if okX (addX x.1 y.1) then lin (fun f => if addX (addX x.1 y.1) f = k then 1 else 0) r else 0) = lin (fun f => if addX (addX x.1 y.1) f = k then 1 else 0) r := by
     by_cases ho : okX (addX x.1 y.1)
     · rw [if_pos ho]
     · rw [if_neg ho]
       exact Eq.symm (Eq.trans (lin_congr fun z _ => by rw [if_neg fun e => ho (hok e).1]) (lin_zero r))
   rw [e1]
   refine lin_congr fun z _ => ?_
   rw [addX_assoc]
   by_cases e : addX x.1 (addX y.1 z.1) = k
   · rw [if_pos e, if_pos (hok e).2]
   · rw [if_neg e]; split <;> rfl
 · rw [if_neg h, if_neg h]
theorem pmul_padd (p q r : Pol) : pmul p (padd q r) = padd (pmul p q) (pmul p r) := (canon_pmul _ _).ext ((canon_pmul _ _).padd _) fun k => by
 rw [coef_padd, coef_pmul, coef_pmul, coef_pmul]
 by_cases h : okX k
 · rw [if_pos h, if_pos h, if_pos h, ← lin_plus]
   exact lin_congr fun x _ => by rw [lin_padd]
 · rw [if_neg h, if_neg h, if_neg h]
def Upto (m : Nat) (p : Pol) : Prop := ∀ x ∈ p, x.1.1 ≤ m ∧ x.1.2 ≤ m
theorem Upto.mono {m n : Nat} {p : Pol} (h : Upto m p) (hn : m ≤ n) : Upto n p := fun x hx => ⟨by have := (h x hx).1; omega, by have := (h x hx).2; omega⟩
theorem Upto.padd {m : Nat} {p q : Pol} (hp : Upto m p) (hq : Upto m q) : Upto m (padd p q) := fun x hx => by
 rcases mem_padd_key hx with ⟨y, hy, e⟩ | ⟨y, hy, e⟩
 · rw [← e]; exact hp y hy
 · rw [← e]; exact hq y hy
theorem upto_nil (m : Nat) : Upto m [] := fun x hx => by simp at hx
theorem mem_prodL {x : Ex × Nat} {p q : Pol} (h : x ∈ prodL p q) : ∃ y ∈ p, ∃ z ∈ q, x = (addX y.1 z.1, y.2 * z.2) ∧ okX x.1 := by
 unfold prodL prodT at h
 simp only [List.mem_flatMap] at h
 obtain ⟨y, hy, z, hz, h⟩ := h
 split at h
 · rw [List.mem_singleton] at h
   subst h
   exact ⟨y, hy, z, hz, rfl, by assumption⟩
 · simp at h
theorem Upto.pmul {m n : Nat} {p q : Pol} (hp : Upto m p) (hq : Upto n q) : Upto (m + n) (pmul p q) := by
 refine (upto_nil _).padd fun x hx => ?_
 obtain ⟨y, hy, z, hz, rfl, -⟩ := mem_prodL hx
 have h1 := hp y hy
 have h2 := hq z hz
 simp only [addX]
 omega
theorem upto_pmul (p q : Pol) : Upto 2048 (pmul p q) := by
 refine (upto_nil _).padd fun x hx => ?_
 obtain ⟨y, hy, z, hz, -, h⟩ := mem_prodL hx
 exact h
def oneP : Pol := [((0, 0), 1)]
theorem pmul_one {p : Pol} (hp : Canon p) (hu : Upto 2048 p) : pmul p oneP = p := (canon_pmul _ _).ext hp fun k => by
 rw [coef_pmul]
 by_cases h : okX k
 · rw [if_pos h, coefP_lin]
   refine lin_congr fun x _ => ?_
   show (if (x.1.1 + 0, x.1.2 + 0) = k then 1 else 0) * 1 + 0 = _
   rw [Nat.mul_one, Nat.add_zero]
   rfl
 · rw [if_neg h]
   symm
   refine coef_none fun x hx e => h ?_
   rw [← e]
   exact hu x hx
theorem pmul_zero (p : Pol) : pmul p [] = [] := (canon_pmul _ _).ext Canon.nil fun k => by
 rw [coef_pmul]
 split
 · simp only [lin, lin_zero]; rfl
 · rfl
def evalP (p : Pol) (x y : Nat) : Nat := lin (fun e => x ^ e.1 * y ^ e.2) p
theorem eval_padd (p q : Pol) (x y : Nat) : evalP (padd p q) x y = evalP p x y + evalP q x y := lin_padd _ p q
theorem eval_pmul {p q : Pol} (hp : Upto 1024 p) (hq : Upto 1024 q) (x y : Nat) : evalP (pmul p q) x y = evalP p x y * evalP q x y := by
 unfold evalP
 rw [lin_pmul, ← lin_scale']
 refine lin_congr fun e he => ?_
 rw [← lin_scale]
 refine lin_congr fun f hf => ?_
 have h1 := hp e he
 have h2 := hq f hf
 rw [if_pos (by unfold okX addX; simp only; omega)]
 simp only [addX, Nat.pow_add]
 rw [Nat.mul_assoc, Nat.mul_assoc, Nat.mul_left_comm (y ^ e.1.2)]
def diffT (x : Ex × Nat) : Pol := if x.1.1 = 0 then [] else [((x.1.1 - 1, x.1.2), x.2 * x.1.1)]
def diffL (p : Pol) : Pol := p.flatMap diffT
def diffP (p : Pol) : Pol := padd [] (diffL p)
theorem lin_diffL (g : Ex → Nat) (p : Pol) : lin g (diffL p) = lin (fun e => if e.1 = 0 then 0 else g (e.1 - 1, e.2) * e.1) p := by
 unfold diffL
 induction p with
 | nil => rfl
 | cons x r ih =>
   rw [List.flatMap_cons, lin_append, ih, lin]
   congr 1
   unfold diffT
   split
   · simp [lin]
   · simp only [lin, Nat.add_zero]
     rw [Nat.mul_assoc, Nat.mul_comm x.2]
theorem lin_diffP (g : Ex → Nat) (p : Pol) : lin g (diffP p) = lin (fun e => if e.1 = 0 then 0 else g (e.1 - 1, e.2) * e.1) p := by
 unfold diffP
 rw [lin_padd, lin_diffL]
 simp [lin]
theorem canon_diffP (p : Pol) : Canon (diffP p) := Canon.nil.padd _
theorem diffL_len (p : Pol) : (diffL p).length ≤ p.length := by
 unfold diffL
 induction p with
 | nil => simp
 | cons x r ih =>
   rw [List.flatMap_cons, List.length_append, List.length_cons]
   have : (diffT x).length ≤ 1 := by unfold diffT; split <;> simp
   omega
theorem mem_diffL {x : Ex × Nat} {p : Pol} (h : x ∈ diffL p) : ∃ y ∈ p, y.1.1 ≠ 0 ∧ x = ((y.1.1 - 1, y.1.2), y.2 * y.1.1) := by
 unfold diffL diffT at h
 simp only [List.mem_flatMap] at h
 obtain ⟨y, hy, h⟩ := h
 split at h
 · simp at h
 · rename_i h0
   rw [List.mem_singleton] at h
   exact ⟨y, hy, h0, h⟩
theorem Upto.diff {m : Nat} {p : Pol} (h : Upto m p) : Upto m (diffP p) := by
 refine (upto_nil _).padd fun x hx => ?_
 obtain ⟨y, hy, -, rfl⟩ := mem_diffL hx
 have := h y hy
 simp only
 omega
theorem wt_diffL {m : Nat} {p : Pol} (h : Upto m p) : wt (diffL p) ≤ wt p * m := by
 unfold wt
 rw [lin_diffL, ← lin_scale']
 have e1 : ∀ (q : Pol), Upto m q → lin (fun e => if e.1 = 0 then 0 else 1 * e.1) q ≤ lin (fun _ => 1 * m) q := by
   intro q
   induction q with
   | nil => intro _; exact Nat.le_refl _
   | cons x r ih =>
     intro hq
     rw [lin, lin]
     refine Nat.add_le_add (Nat.mul_le_mul_right _ ?_) (ih fun y hy => hq y (by simp [hy]))
     have := (hq x (by simp)).1
     split <;> omega
 exact e1 p h
theorem diff_pmul {p q : Pol} (hp : Upto 1024 p) (hq : Upto 1024 q) : diffP (pmul p q) = padd (pmul (diffP p) q) (pmul p (diffP q)) := (canon_diffP _).ext ((canon_pmul _ _).padd _) fun k => by
 rw [coef_padd, coefP_lin, coefP_lin, coefP_lin, lin_diffP, lin_pmul, lin_pmul, lin_pmul, lin_diffP, ← lin_plus]
 refine lin_congr fun e he => ?_
 have h1 := hp e he
 rw [lin_diffP]
 have e2 : (if e.1.1 = 0 then 0 else lin (fun f => if okX (addX (e.1.1 - 1, e.1.2) f) then if addX (e.1.1 - 1, e.1.2) f = k then 1 else 0 else 0) q * e.1.1) = lin (fun f => if e.1.1 = 0 then 0 else (if addX (e.1.1 - 1, e.1.2) f = k then 1 else 0) * e.1.1) q := by
   by_cases h0 : e.1.1 = 0
   · rw [if_pos h0]
     exact Eq.symm (Eq.trans (lin_congr fun f _ => by rw [if_pos h0]) (lin_zero q))
   · rw [if_neg h0, ← lin_scale']
     refine lin_congr fun f hf => ?_
     have h2 := hq f hf
     rw [if_neg h0, if_pos (by unfold okX addX; simp only; omega)]
 rw [e2, ← lin_plus]
 refine lin_congr fun f hf => ?_
 have h2 := hq f hf
 have h3 : okX (addX e.1 f.1) := by unfold okX addX; simp only; omega
 rw [if_pos h3]
 have h4 : okX (addX e.1 (f.1.1 - 1, f.1.2)) := by unfold okX addX; simp only; omega
 rw [if_pos h4]
 have ea : (addX e.1 f.1).1 = e.1.1 + f.1.1 := rfl
 have eb : (addX e.1 f.1).2 = e.1.2 + f.1.2 := rfl
 rw [ea, eb]
 by_cases ha : e.1.1 = 0
 · rw [if_pos ha, ha, Nat.zero_add, Nat.zero_add]
   by_cases hb : f.1.1 = 0
   · rw [if_pos hb, if_pos hb]
   · rw [if_neg hb, if_neg hb]
     have : addX e.1 (f.1.1 - 1, f.1.2) = (f.1.1 - 1, e.1.2 + f.1.2) := by unfold addX; simp only [ha, Nat.zero_add]
     rw [this]
 · rw [if_neg ha, if_neg (by omega)]
   have e5 : addX (e.1.1 - 1, e.1.2) f.1 = (e.1.1 + f.1.1 - 1, e.1.2 + f.1.2) := by unfold addX; simp only; congr 1; omega
   rw [e5]
   by_cases hb : f.1.1 = 0
   · rw [if_pos hb, hb]; simp
   · rw [if_neg hb]
     have e6 : addX e.1 (f.1.1 - 1, f.1.2) = (e.1.1 + f.1.1 - 1, e.1.2 + f.1.2) := by unfold addX; simp only; congr 1; omega
     rw [e6, Nat.mul_add]
def degP (p : Pol) : Int × Int := p.foldl (fun d x => (max d.1 (x.1.1 : Int), max d.2 (x.1.2 : Int))) (-1, -1)
def topP (p : Pol) (b : Int) : Nat := p.foldl (fun m x => if (x.1.2 : Int) = b then max m (x.1.1 + 1) else m) 0
def rowP (p : Pol) (b : Int) : List Nat := (List.range (topP p b)).map fun a => coefP p (a, b.toNat)
end Go.Pal
namespace Go.Pal
open Go
def dgT (l : List Nat) : List UInt8 := l.reverse.map fun d => UInt8.ofNat (48 + d)
theorem dgT_cons (x : Nat) (l : List Nat) : dgT (x :: l) = dgT l ++ [UInt8.ofNat (48 + x)] := by simp [dgT]
theorem dgT_digB {n : Nat} (h : 0 < n) : dgT (digB 10 n) = Lib.decDigits n := by
 induction n using Nat.strongRecOn with
 | _ n ih =>
   rw [digB_pos (by omega) h, dgT_cons]
   by_cases h9 : n < 10
   · rw [Nat.div_eq_of_lt h9, digB_zero, Nat.mod_eq_of_lt h9, dec_small h9]; rfl
   · rw [ih (n / 10) (by omega) (by omega), dec_big h9]
def padT : Nat → Nat → List UInt8
 | 0, _ => []
 | k + 1, n => padT k (n / 10) ++ [UInt8.ofNat (48 + n % 10)]
theorem dec_pad : ∀ (k q r : Nat), 0 < q → r < 10 ^ k → Lib.decDigits (q * 10 ^ k + r) = Lib.decDigits q ++ padT k r
 | 0, q, r, _, hr => by
   have : r = 0 := by simpa using hr
   subst this
   simp [padT]
 | k + 1, q, r, hq, hr => by
   have h1 : 10 ≤ q * 10 ^ (k + 1) + r := by
     have : 1 ≤ q * 10 ^ k := Nat.mul_pos hq (Nat.pow_pos (by omega))
     rw [Nat.pow_succ, ← Nat.mul_assoc]
     omega
   have h2 : (q * 10 ^ (k + 1) + r) / 10 = q * 10 ^ k + r / 10 := by rw [Nat.pow_succ, ← Nat.mul_assoc]; omega
   have h3 : (q * 10 ^ (k + 1) + r) % 10 = r % 10 := by rw [Nat.pow_succ, ← Nat.mul_assoc]; omega
   rw [dec_big (by omega), h2, h3, dec_pad k q (r / 10) hq (by rw [Nat.pow_succ] at hr; omega), padT, List.append_assoc]
theorem pad_dec : ∀ (k r : Nat), r < 10 ^ (k + 1) → padT (k + 1) r = List.replicate (k + 1 - (Lib.decDigits r).length) 48 ++ Lib.decDigits r
 | 0, r, h => by
   have h9 : r < 10 := by simpa using h
   rw [dec_small h9]
   simp [padT, Nat.mod_eq_of_lt h9]
 | k + 1, r, h => by
   have ih := pad_dec k (r / 10) (by rw [Nat.pow_succ] at h; omega)
   rw [padT, ih]
   by_cases h9 : r < 10
   · rw [Nat.div_eq_of_lt h9, dec_small h9, dec_small (by omega), Nat.mod_eq_of_lt h9]
     have : List.replicate (k + 1 + 1 - [UInt8.ofNat (48 + r)].length) (48 : UInt8) = List.replicate (k + 1 - [UInt8.ofNat (48 + 0)].length) 48 ++ [UInt8.ofNat (48 + 0)] := by
       simp only [List.length_cons, List.length_nil]
       rw [show k + 1 + 1 - (0 + 1) = k + 1 - (0 + 1) + 1 by omega, List.replicate_succ']
       rfl
     rw [this]
   · have hl := dec_len (u := r / 10) (k := k + 1) (by omega) (by rw [Nat.pow_succ] at h; omega)
     rw [dec_big h9, List.length_append, List.length_cons, List.length_nil, show k + 1 + 1 - ((Lib.decDigits (r / 10)).length + (0 + 1)) = k + 1 - (Lib.decDigits (r / 10)).length by omega, List.append_assoc]
def grpT : Nat → Nat → List (List UInt8)
 | 0, _ => []
 | m + 1, n => if n = 0 then [] else (if n / 1000000000 = 0 then Lib.decDigits (n % 1000000000) else padT 9 (n % 1000000000)) :: grpT m (n / 1000000000)
theorem grpT_text : ∀ (m n : Nat), n ≤ m → 0 < n → (grpT m n).reverse.flatten = Lib.decDigits n
 | 0, n, h, h0 => by omega
 | m + 1, n, h, h0 => by
   rw [grpT, if_neg (by omega), List.reverse_cons, List.flatten_append]
   by_cases hq : n / 1000000000 = 0
   · have h9 : n % 1000000000 = n := Nat.mod_eq_of_lt (by omega)
     rw [if_pos hq, hq, h9]
     have : grpT m 0 = [] := by cases m <;> simp [grpT]
     rw [this]
     simp
   · rw [if_neg hq, grpT_text m (n / 1000000000) (by omega) (by omega)]
     have e := dec_pad 9 (n / 1000000000) (n % 1000000000) (by omega) (by show _ < 1000000000; omega)
     rw [show n / 1000000000 * 10 ^ 9 + n % 1000000000 = n by show n / 1000000000 * 1000000000 + _ = _; omega] at e
     rw [e]
     simp
def pwT (c : UInt8) (a : Nat) : List UInt8 := if a = 0 then [] else 32 :: c :: 94 :: Lib.decDigits a
def termT (x : Ex × Nat) : List UInt8 := Lib.decDigits x.2 ++ pwT 120 x.1.1 ++ pwT 121 x.1.2
def textP (p : Pol) : List UInt8 := if p = [] then [48] else Lib.join (p.map termT) [32, 43, 32]
def parts3 : List UInt8 → List UInt8 → List (List UInt8)
 | a, [] => [a]
 | a, [x] => [a ++ [x]]
 | a, [x, y] => [a ++ [x, y]]
 | a, x :: y :: z :: r => if x = 32 ∧ y = 43 ∧ z = 32 then a :: parts3 [] r else parts3 (a ++ [x]) (y :: z :: r)
theorem parts3_nil (a : List UInt8) : parts3 a [] = [a] := by rw [parts3]
theorem parts3_one (a : List UInt8) (x : UInt8) : parts3 a [x] = [a ++ [x]] := by rw [parts3]
theorem parts3_two (a : List UInt8) (x y : UInt8) : parts3 a [x, y] = [a ++ [x, y]] := by rw [parts3]
theorem parts3_three (a : List UInt8) (x y z : UInt8) (r : List UInt8) : parts3 a (x :: y :: z :: r) = if x = 32 ∧ y = 43 ∧ z = 32 then a :: parts3 [] r else parts3 (a ++ [x]) (y :: z :: r) := by rw [parts3]
theorem first3 : ∀ s : List UInt8, (Lib.index s [32, 43, 32] = -1 ∧ ∀ a, parts3 a s = [a ++ s]) ∨ ∃ p r, s = p ++ 32 :: 43 :: 32 :: r ∧ Lib.index s [32, 43, 32] = (p.length : Int) ∧ ∀ a, parts3 a s = (a ++ p) :: parts3 [] r
 | [] => .inl ⟨rfl, fun a => by rw [parts3_nil, List.append_nil]⟩
 | [x] => .inl ⟨by simp [Lib.index, List.isPrefixOf], fun a => parts3_one a x⟩
 | [x, y] => .inl ⟨by simp [Lib.index, List.isPrefixOf], fun a => parts3_two a x y⟩
 | x :: y :: z :: r => by
   by_cases h : x = 32 ∧ y = 43 ∧ z = 32
   · obtain ⟨rfl, rfl, rfl⟩ := h
     exact .inr ⟨[], r, rfl, by rw [Lib.index, if_pos (by simp [List.isPrefixOf])]; rfl, fun a => by rw [parts3_three, if_pos ⟨rfl, rfl, rfl⟩, List.append_nil]⟩
   · have hb : ([32, 43, 32] : List UInt8).isPrefixOf (x :: y :: z :: r) = false := by
       simp only [List.isPrefixOf, Bool.and_true]
       rw [← Bool.not_eq_true]
       intro e
       simp only [Bool.and_eq_true, beq_iff_eq] at e
       exact h ⟨e.1.symm, e.2.1.symm, e.2.2.symm⟩
     rcases first3 (y :: z :: r) with ⟨i1, i2⟩ | ⟨p, q, i1, i2, i3⟩
     · refine .inl ⟨by rw [Lib.index, hb, i1]; rfl, fun a => ?_⟩
       rw [parts3_three, if_neg h, i2]
       simp
     · refine .inr ⟨x :: p, q, by rw [i1]; rfl, ?_, fun a => ?_⟩
       · have hne : ¬ ((p.length : Int) == -1) = true := by
           intro e
           have := beq_iff_eq.1 e
           omega
         rw [Lib.index, hb, i2, if_neg (by simp), if_neg hne, List.length_cons]
         omega
       · rw [parts3_three, if_neg h, i3]
         simp
theorem bytes_list3 (s : List UInt8) : (⟨s.toArray⟩ : ByteArray).data.toList = s := by simp
theorem split3 : ∀ (n : Nat) (s : List UInt8), s.length ≤ n → Lib.splitB ⟨#[32, 43, 32]⟩ 0 (Lib.countB ⟨s.toArray⟩ ⟨#[32, 43, 32]⟩) ⟨s.toArray⟩ = (parts3 [] s).map fun p => (⟨p.toArray⟩ : ByteArray)
 | n, s, hn => by
   have hsz : (⟨s.toArray⟩ : ByteArray).size = s.length := by simp [ByteArray.size]
   rcases first3 s with ⟨h1, h2⟩ | ⟨p, r, hs, h1, h2⟩
   · have hix : Lib.indexB ⟨s.toArray⟩ ⟨#[32, 43, 32]⟩ = -1 := by
       show Lib.index _ _ = _
       rw [bytes_list3]
       exact h1
     rw [Lib.splitB_miss _ _ _ _ hix, h2]
     rfl
   · have hix : Lib.indexB ⟨s.toArray⟩ ⟨#[32, 43, 32]⟩ = (p.length : Int) := by
       show Lib.index _ _ = _
       rw [bytes_list3]
       exact h1
     have hc := Lib.countB_hit ⟨s.toArray⟩ ⟨#[32, 43, 32]⟩ p.length (by decide) hix
     have e1 : (⟨s.toArray⟩ : ByteArray).extract (p.length + (⟨#[32, 43, 32]⟩ : ByteArray).size) (⟨s.toArray⟩ : ByteArray).size = ⟨r.toArray⟩ := by
       rw [hsz, show (⟨#[32, 43, 32]⟩ : ByteArray).size = 3 from rfl]
       apply ByteArray.ext
       rw [ByteArray.data_extract, hs]
       simp
       exact List.take_of_length_le (by omega)
     have e2 : (⟨s.toArray⟩ : ByteArray).extract 0 (p.length + 0) = ⟨p.toArray⟩ := by
       apply ByteArray.ext
       rw [ByteArray.data_extract, hs]
       simp
     rw [e1] at hc
     rw [hc, Nat.add_comm 1, Lib.splitB_hit _ _ _ _ _ hix, e1, e2]
     have hl := congrArg List.length hs
     rw [List.length_append, List.length_cons, List.length_cons, List.length_cons] at hl
     match n, hn with
     | 0, hn => omega
     | n + 1, hn =>
       rw [split3 n r (by omega), h2, List.nil_append]
       rfl
theorem count3 (s : List UInt8) : Lib.countB ⟨s.toArray⟩ ⟨#[32, 43, 32]⟩ + 1 = (parts3 [] s).length := by
 have := Lib.splitB_all ⟨#[32, 43, 32]⟩ (by decide) 0 _ ⟨s.toArray⟩ rfl
 rw [split3 s.length s (Nat.le_refl _), List.length_map] at this
 exact this.symm
theorem parts3_ne (a s : List UInt8) : parts3 a s ≠ [] := by
 rcases first3 s with ⟨-, h⟩ | ⟨p, r, -, -, h⟩ <;> rw [h] <;> simp
theorem parts3_bound : ∀ (n : Nat) (s : List UInt8), s.length ≤ n → ∀ a, (parts3 a s).length ≤ s.length + 1 ∧ ∀ p ∈ parts3 a s, p.length ≤ a.length + s.length
 | n, s, hn, a => by
   rcases first3 s with ⟨-, h⟩ | ⟨p, r, hs, -, h⟩
   · rw [h]
     exact ⟨by simp, fun p hp => by rw [List.mem_singleton.1 hp]; simp⟩
   · have hl := congrArg List.length hs
     rw [List.length_append, List.length_cons, List.length_cons, List.length_cons] at hl
     match n, hn with
     | 0, hn => omega
     | n + 1, hn =>
       have ih := parts3_bound n r (by omega) []
       rw [h]
       refine ⟨by rw [List.length_cons]; omega, fun q hq => ?_⟩
       rcases List.mem_cons.1 hq with rfl | hq
       · rw [List.length_append]; omega
       · have := ih.2 q hq
         simp at this
         omega
theorem parts3_none {s : List UInt8} (h : ∀ x ∈ s, x ≠ 43) (a : List UInt8) : parts3 a s = [a ++ s] := by
 rcases first3 s with ⟨-, h2⟩ | ⟨p, r, hs, -, -⟩
 · exact h2 a
 · exact absurd rfl (h 43 (by rw [hs]; simp))
theorem parts3_hit : ∀ (p : List UInt8) (a r : List UInt8), (∀ x ∈ p, x ≠ 43) → parts3 a (p ++ 32 :: 43 :: 32 :: r) = (a ++ p) :: parts3 [] r
 | [], a, r, _ => by rw [List.nil_append, parts3_three, if_pos ⟨rfl, rfl, rfl⟩, List.append_nil]
 | [x], a, r, h => by
   rw [List.cons_append, List.nil_append, parts3_three, if_neg (fun e => by simp at e), parts3_three, if_pos ⟨rfl, rfl, rfl⟩]
 | x :: y :: p, a, r, h => by
   have ih := parts3_hit (y :: p) (a ++ [x]) r fun z hz => h z (List.mem_cons_of_mem _ hz)
   have hy := h y (by simp)
   rw [List.cons_append, List.cons_append] at *
   cases hp : p ++ 32 :: 43 :: 32 :: r with
   | nil => simp at hp
   | cons z q =>
     rw [hp] at ih
     rw [parts3_three, if_neg (fun e => hy e.2.1), ih]
     simp
theorem join3_cons {a : List UInt8} {l : List (List UInt8)} (h : l ≠ []) (sep : List UInt8) : Lib.join (a :: l) sep = a ++ sep ++ Lib.join l sep := by
 cases l with
 | nil => exact absurd rfl h
 | cons b r => simp [Lib.join, List.intercalate, List.intersperse]
theorem join3_one (a sep : List UInt8) : Lib.join [a] sep = a := by simp [Lib.join, List.intercalate]
theorem parts3_join : ∀ (n : Nat) (s : List UInt8), s.length ≤ n → ∀ a, Lib.join (parts3 a s) [32, 43, 32] = a ++ s
 | n, s, hn, a => by
   rcases first3 s with ⟨-, h⟩ | ⟨p, r, hs, -, h⟩
   · rw [h, join3_one]
   · have hl := congrArg List.length hs
     rw [List.length_append, List.length_cons, List.length_cons, List.length_cons] at hl
     match n, hn with
     | 0, hn => omega
     | n + 1, hn => rw [h, join3_cons (parts3_ne _ _), parts3_join n r (by omega), hs]; simp
theorem parts3_of : ∀ (l : List (List UInt8)) (p : List UInt8), (∀ q ∈ p :: l, ∀ x ∈ q, x ≠ 43) → parts3 [] (Lib.join (p :: l) [32, 43, 32]) = p :: l
 | [], p, h => by rw [join3_one, parts3_none (h p (by simp)), List.nil_append]
 | q :: l, p, h => by
   rw [join3_cons (by simp), show p ++ [32, 43, 32] ++ Lib.join (q :: l) [32, 43, 32] = p ++ 32 :: 43 :: 32 :: Lib.join (q :: l) [32, 43, 32] by simp, parts3_hit p [] _ (h p (by simp)), parts3_of l q fun t ht => h t (List.mem_cons_of_mem _ ht), List.nil_append]
def numS (s : List UInt8) : Bool := decide (s ≠ []) && decide (s.head? ≠ some 48) && s.all fun c => decide (isDig c)
theorem numS_iff {s : List UInt8} : numS s = true ↔ s ≠ [] ∧ s.head? ≠ some 48 ∧ ∀ c ∈ s, isDig c := by
 unfold numS
 simp only [Bool.and_eq_true, decide_eq_true_eq, List.all_eq_true, and_assoc]
theorem numS_dec {u : Nat} (h : 0 < u) : numS (Lib.decDigits u) = true := by
 obtain ⟨c, r, hc, hn⟩ := dec_head h
 refine numS_iff.2 ⟨dec_ne u, ?_, dec_all u⟩
 rw [hc]
 intro e
 simp only [List.head?_cons, Option.some.injEq] at e
 subst e
 exact hn rfl
theorem dec_numS {s : List UInt8} (h : numS s = true) : Lib.decDigits (dval 0 s) = s ∧ 0 < dval 0 s := by
 obtain ⟨h1, h2, h3⟩ := numS_iff.1 h
 have e := dec_of s h3 h1 fun c r e hc => by
   exfalso
   refine h2 ?_
   rw [e, List.head?_cons]
   congr 1
   exact UInt8.toNat_inj.1 hc
 refine ⟨e, ?_⟩
 rcases Nat.eq_zero_or_pos (dval 0 s) with e0 | e0
 · exfalso
   rw [e0, dec_small (by omega)] at e
   exact h2 (by rw [← e]; rfl)
 · exact e0
def digP (s : List UInt8) : List UInt8 := s.takeWhile fun c => decide (isDig c)
theorem digP_all (s : List UInt8) : ∀ c ∈ digP s, isDig c := fun c hc => by
 have := List.all_takeWhile (p := fun c => decide (isDig c)) (l := s)
 rw [List.all_eq_true] at this
 exact of_decide_eq_true (this c hc)
theorem digP_app {s r : List UInt8} (h : ∀ c ∈ s, isDig c) (hr : ∀ c t, r = c :: t → ¬ isDig c) : digP (s ++ r) = s := by
 induction s with
 | nil =>
   cases r with
   | nil => rfl
   | cons c t => simp [digP, hr c t rfl]
 | cons x s ih =>
   have := ih fun c hc => h c (by simp [hc])
   unfold digP at *
   rw [List.cons_append, List.takeWhile_cons, if_pos (by simpa using h x (by simp)), this]
theorem digP_drop (s : List UInt8) : s = digP s ++ s.drop (digP s).length := by
 unfold digP
 induction s with
 | nil => rfl
 | cons x s ih =>
   rw [List.takeWhile_cons]
   split
   · rw [List.length_cons, List.drop_succ_cons, List.cons_append, ← ih]
   · rfl
theorem digP_stop (s : List UInt8) : ∀ c t, s.drop (digP s).length = c :: t → ¬ isDig c := by
 unfold digP
 induction s with
 | nil => intro c t h; simp at h
 | cons x s ih =>
   intro c t h
   rw [List.takeWhile_cons] at h
   split at h
   · rw [List.length_cons, List.drop_succ_cons] at h; exact ih c t h
   · rename_i hx
     rw [List.length_nil, List.drop_zero] at h
     injection h with h1 h2
     subst h1
     simpa using hx
def powW (c : UInt8) (l : List (List UInt8)) : Option (Nat × List (List UInt8)) :=
 match l with
 | [] => some (0, [])
 | w :: r => if [c, 94].isPrefixOf w then (if numS (w.drop 2) && decide ((w.drop 2).length ≤ 9) then some (dval 0 (w.drop 2), r) else none) else some (0, w :: r)
def readT (t : List UInt8) : Option (Ex × Nat) :=
 if numS ((partsA 32 [] t).head?.getD []) then
   match powW 120 (partsA 32 [] t).tail with
   | none => none
   | some (a, l) => match powW 121 l with
     | none => none
     | some (b, m) => if m = [] then some ((a, b), dval 0 ((partsA 32 [] t).head?.getD [])) else none
 else none
def pwW (c : UInt8) (a : Nat) : List (List UInt8) := if a = 0 then [] else [c :: 94 :: Lib.decDigits a]
theorem dec_not {u : Nat} {b : UInt8} (hb : ¬ isDig b) : ∀ x ∈ Lib.decDigits u, x ≠ b := fun x hx e => hb (e ▸ dec_all u x hx)
theorem glue_nil (c : UInt8) (p : List UInt8) : glue c [p] = p := by rw [glue_cons]; simp
theorem termT_glue (x : Ex × Nat) : termT x = glue 32 (Lib.decDigits x.2 :: (pwW 120 x.1.1 ++ pwW 121 x.1.2)) := by
 rw [glue_cons]
 unfold termT pwT pwW
 split <;> split <;> simp
theorem parts_term (x : Ex × Nat) : partsA 32 [] (termT x) = Lib.decDigits x.2 :: (pwW 120 x.1.1 ++ pwW 121 x.1.2) := by
 rw [termT_glue]
 refine parts_glue _ _ (dec_not (by unfold isDig; decide)) fun q hq y hy => ?_
 have key : ∀ (c : UInt8) (a : Nat), c ≠ 32 → q ∈ pwW c a → y ≠ 32 := by
   intro c a hc h
   unfold pwW at h
   split at h
   · cases h
   · rw [List.mem_singleton] at h
     subst h
     rcases List.mem_cons.1 hy with rfl | hy
     · exact hc
     · rcases List.mem_cons.1 hy with rfl | hy
       · decide
       · exact dec_not (by unfold isDig; decide) y hy
 rcases List.mem_append.1 hq with h | h
 · exact key 120 _ (by decide) h
 · exact key 121 _ (by decide) h
theorem numS_len {a : Nat} (h0 : 0 < a) (h : a < 1000000000) : (numS (Lib.decDigits a) && decide ((Lib.decDigits a).length ≤ 9)) = true := by
 rw [numS_dec h0, Bool.true_and, decide_eq_true_eq]
 exact dec_len (by omega) h
theorem powW_hit {c : UInt8} {a : Nat} (h : a < 1000000000) (r : List (List UInt8)) (hr : ∀ w t, r = w :: t → [c, 94].isPrefixOf w = false) : powW c (pwW c a ++ r) = some (a, r) := by
 unfold pwW
 by_cases h0 : a = 0
 · rw [if_pos h0, List.nil_append, h0]
   cases r with
   | nil => rfl
   | cons w t => rw [powW, hr w t rfl]; simp
 · rw [if_neg h0, List.cons_append, List.nil_append, powW, if_pos (by simp [List.isPrefixOf])]
   have e : List.drop 2 (c :: 94 :: Lib.decDigits a) = Lib.decDigits a := rfl
   rw [e, if_pos (numS_len (by omega) h), dval_dec]
theorem readT_term {x : Ex × Nat} (hn : 0 < x.2) (ha : x.1.1 < 1000000000) (hb : x.1.2 < 1000000000) : readT (termT x) = some x := by
 unfold readT
 rw [parts_term, List.head?_cons, Option.getD_some, List.tail_cons, if_pos (numS_dec hn), powW_hit ha]
 · simp only
   have := powW_hit (c := 121) hb [] (by simp)
   rw [List.append_nil] at this
   rw [this]
   simp [dval_dec]
 · intro w t e
   unfold pwW at e
   split at e
   · cases e
   · injection e with e1 e2
     subst e1
     simp [List.isPrefixOf]
theorem powW_inv {c : UInt8} {l m : List (List UInt8)} {a : Nat} (h : powW c l = some (a, m)) : l = pwW c a ++ m ∧ a < 1000000000 := by
 cases l with
 | nil =>
   rw [powW] at h
   injection h with h
   injection h with h1 h2
   subst h1 h2
   exact ⟨rfl, by omega⟩
 | cons w r =>
   rw [powW] at h
   split at h
   · rename_i hp
     split at h
     · rename_i hn
       injection h with h
       injection h with h1 h2
       subst h1 h2
       rw [Bool.and_eq_true, decide_eq_true_eq] at hn
       obtain ⟨e, h0⟩ := dec_numS hn.1
       have hlt := dval_lt _ (numS_iff.1 hn.1).2.2
       refine ⟨?_, Nat.lt_of_lt_of_le hlt (Nat.pow_le_pow_right (by omega) hn.2)⟩
       unfold pwW
       rw [if_neg (by omega), e]
       obtain ⟨t, ht⟩ := List.isPrefixOf_iff_prefix.1 hp
       rw [← ht]
       rfl
     · cases h
   · injection h with h
     injection h with h1 h2
     subst h1 h2
     exact ⟨rfl, by omega⟩
theorem readT_inv {t : List UInt8} {x : Ex × Nat} (h : readT t = some x) : t = termT x ∧ 0 < x.2 ∧ x.1.1 < 1000000000 ∧ x.1.2 < 1000000000 := by
 unfold readT at h
 split at h
 · rename_i hn
   cases hp : partsA 32 [] t with
   | nil => exact absurd hp (partsA_ne _ _ _)
   | cons w l =>
     rw [hp] at h hn
     simp only [List.head?_cons, Option.getD_some, List.tail_cons] at h hn
     cases h1 : powW 120 l with
     | none => rw [h1] at h; cases h
     | some q =>
       obtain ⟨a, l1⟩ := q
       rw [h1] at h
       simp only at h
       cases h2 : powW 121 l1 with
       | none => rw [h2] at h; cases h
       | some q =>
         obtain ⟨b, l2⟩ := q
         rw [h2] at h
         simp only at h
         split at h
         · rename_i he
           injection h with h
           subst h he
           obtain ⟨e1, ha⟩ := powW_inv h1
           obtain ⟨e2, hb⟩ := powW_inv h2
           obtain ⟨e3, h0⟩ := dec_numS hn
           refine ⟨?_, h0, ha, hb⟩
           have := glue_parts 32 t []
           rw [hp, List.nil_append] at this
           rw [← this, termT_glue]
           simp only
           rw [e3, e1, e2, List.append_nil]
         · cases h
 · cases h
theorem termT_no {x : Ex × Nat} : ∀ y ∈ termT x, y ≠ 43 := by
 have hd : ∀ u : Nat, ∀ y ∈ Lib.decDigits u, y ≠ 43 := fun u => dec_not (by unfold isDig; decide)
 have hp : ∀ (c : UInt8) (a : Nat), c ≠ 43 → ∀ y ∈ pwT c a, y ≠ 43 := by
   intro c a hc y hy
   unfold pwT at hy
   split at hy
   · cases hy
   · rcases List.mem_cons.1 hy with rfl | hy
     · decide
     · rcases List.mem_cons.1 hy with rfl | hy
       · exact hc
       · rcases List.mem_cons.1 hy with rfl | hy
         · decide
         · exact hd a y hy
 intro y hy
 unfold termT at hy
 rw [List.mem_append, List.mem_append] at hy
 rcases hy with (h | h) | h
 · exact hd _ y h
 · exact hp 120 _ (by decide) y h
 · exact hp 121 _ (by decide) y h
end Go.Pal
namespace Go.Pal
abbrev Tm := Nat × Nat × Nat
def TmOk (t : Tm) : Prop := t.1 < 4294967296 ∧ t.2.1 < 65536 ∧ t.2.2 < 65536
def tmX (most : Nat) (t : Tm) : Ex × Nat := ((t.2.1 % (most + 1), t.2.2 % (most + 1)), t.1)
def madeP (most : Nat) (l : List Tm) : Pol := padd [] (l.map (tmX most))
theorem madeP_nil (most : Nat) : madeP most [] = [] := rfl
theorem padd_addT (P : Pol) (x : Ex × Nat) : padd P (addT [] x) = addT P x := by
 by_cases h : x.2 = 0
 · unfold addT
   rw [if_pos h, if_pos h]
   rfl
 · have e1 : addT [] x = [x] := by unfold addT; rw [if_neg h]; rfl
   rw [e1]
   rfl
theorem madeP_snoc (most : Nat) (l : List Tm) (t : Tm) : madeP most (l ++ [t]) = padd (madeP most l) (addT [] (tmX most t)) := by
 rw [padd_addT]
 unfold madeP
 rw [List.map_append, padd_append]
 rfl
theorem canon_madeP (most : Nat) (l : List Tm) : Canon (madeP most l) := Canon.nil.padd _
theorem upto_madeP (most : Nat) (l : List Tm) : Upto most (madeP most l) := by
 refine (upto_nil _).padd fun x hx => ?_
 obtain ⟨t, -, rfl⟩ := List.mem_map.1 hx
 have h1 := Nat.mod_lt t.2.1 (show 0 < most + 1 by omega)
 have h2 := Nat.mod_lt t.2.2 (show 0 < most + 1 by omega)
 show t.2.1 % (most + 1) ≤ most ∧ t.2.2 % (most + 1) ≤ most
 omega
theorem upto_tm (most : Nat) (t : Tm) : Upto most (addT [] (tmX most t)) := fun x hx => by
 have h1 := Nat.mod_lt t.2.1 (show 0 < most + 1 by omega)
 have h2 := Nat.mod_lt t.2.2 (show 0 < most + 1 by omega)
 rcases mem_addT_key hx with e | ⟨y, hy, -⟩
 · rw [e]
   show t.2.1 % (most + 1) ≤ most ∧ t.2.2 % (most + 1) ≤ most
   omega
 · simp at hy
theorem len_madeP (most : Nat) (l : List Tm) : (madeP most l).length ≤ l.length := by
 have h := padd_len [] (l.map (tmX most))
 simp only [List.length_nil, List.length_map, Nat.zero_add] at h
 exact h
theorem wt_addT (P : Pol) (x : Ex × Nat) : wt (addT P x) = wt P + x.2 := by
 unfold wt
 rw [lin_addT, Nat.one_mul]
theorem wt_madeP (most : Nat) {l : List Tm} (h : ∀ t ∈ l, TmOk t) : wt (madeP most l) ≤ l.length * 4294967296 := by
 unfold madeP
 rw [wt_padd]
 have h0 : wt [] = 0 := rfl
 rw [h0, Nat.zero_add]
 induction l with
 | nil => exact Nat.le_refl _
 | cons t r ih =>
   have h1 := (h t (by simp)).1
   have h2 := ih fun u hu => h u (by simp [hu])
   rw [List.map_cons, List.length_cons, Nat.add_mul]
   show lin _ (tmX most t :: r.map (tmX most)) ≤ _
   rw [lin]
   have h3 : (tmX most t).2 = t.1 := rfl
   unfold wt at h2
   omega
structure Made (most : Nat) (p : Pol) : Prop where
 canon : Canon p
 upto : Upto most p
 len : p.length ≤ 8
 wt : Pal.wt p ≤ 34359738368
theorem made_of (most : Nat) {l : List Tm} (h : ∀ t ∈ l, TmOk t) : Made most (madeP most (l.take 8)) := by
 have hl : (l.take 8).length ≤ 8 := by rw [List.length_take]; omega
 refine ⟨canon_madeP _ _, upto_madeP _ _, Nat.le_trans (len_madeP _ _) hl, Nat.le_trans (wt_madeP most fun t ht => h t (List.mem_of_mem_take ht)) ?_⟩
 omega
end Go.Pal
namespace Go.Pal
open Go
def foldP (acc : Pol) : List (List UInt8) → Option Pol
 | [] => some acc
 | t :: r => match readT t with
   | none => none
   | some x => if (match acc.getLast? with | none => true | some y => ltX y.1 x.1) then foldP (acc ++ [x]) r else none
def farP (l : Pol) : Bool := l.any fun x => decide (2048 < x.1.1) || decide (2048 < x.1.2)
def parseP (s : List UInt8) : Pol × Nat :=
 if s = [48] then ([], 0) else match foldP [] (parts3 [] s) with
 | none => ([], 3)
 | some l => if farP l then ([], 2) else (l, 0)
def nextP (acc : Pol) (x : Ex × Nat) : Bool := match acc.getLast? with | none => true | some y => ltX y.1 x.1
theorem foldP_nil (acc : Pol) : foldP acc [] = some acc := rfl
theorem foldP_bad {t : List UInt8} (h : readT t = none) (acc : Pol) (r : List (List UInt8)) : foldP acc (t :: r) = none := by rw [foldP, h]
theorem foldP_some {t : List UInt8} {x : Ex × Nat} (h : readT t = some x) (acc : Pol) (r : List (List UInt8)) : foldP acc (t :: r) = if nextP acc x then foldP (acc ++ [x]) r else none := by rw [foldP, h]; rfl
theorem snoc_srt {acc : Pol} (h : acc.Pairwise fun x y => ltX x.1 y.1 = true) {x : Ex × Nat} (hx : nextP acc x = true) : (acc ++ [x]).Pairwise fun x y => ltX x.1 y.1 = true := by
 rw [List.pairwise_append]
 refine ⟨h, by simp, fun a ha b hb => ?_⟩
 rw [List.mem_singleton] at hb
 subst hb
 unfold nextP at hx
 cases hl : acc.getLast? with
 | none => rw [List.getLast?_eq_none_iff] at hl; subst hl; cases ha
 | some y =>
   rw [hl] at hx
   simp only at hx
   obtain ⟨m, rfl⟩ : ∃ m, acc = m ++ [y] := by
     rw [List.getLast?_eq_some_iff] at hl
     exact hl
   rcases List.mem_append.1 ha with h1 | h1
   · rw [List.pairwise_append] at h
     exact ltX_trans (h.2.2 a h1 y (by simp)) hx
   · rw [List.mem_singleton] at h1
     subst h1
     exact hx
theorem foldP_inv : ∀ (ps : List (List UInt8)) (acc l : Pol), foldP acc ps = some l → (acc.Pairwise fun x y => ltX x.1 y.1 = true) → (l.Pairwise fun x y => ltX x.1 y.1 = true) ∧ ∃ m, l = acc ++ m ∧ m.map termT = ps ∧ ∀ x ∈ m, 0 < x.2 ∧ x.1.1 < 1000000000 ∧ x.1.2 < 1000000000
 | [], acc, l, h, hs => by
   rw [foldP_nil] at h
   injection h with h
   subst h
   exact ⟨hs, [], by simp, rfl, by simp⟩
 | t :: r, acc, l, h, hs => by
   cases ht : readT t with
   | none => rw [foldP_bad ht] at h; cases h
   | some x =>
     rw [foldP_some ht] at h
     split at h
     · rename_i hx
       obtain ⟨h1, m, h2, h3, h4⟩ := foldP_inv r _ l h (snoc_srt hs hx)
       obtain ⟨e1, e2, e3, e4⟩ := readT_inv ht
       refine ⟨h1, x :: m, by rw [h2]; simp, by rw [List.map_cons, h3, ← e1], fun y hy => ?_⟩
       rcases List.mem_cons.1 hy with rfl | hy
       · exact ⟨e2, e3, e4⟩
       · exact h4 y hy
     · cases h
theorem foldP_text : ∀ (m acc : Pol), ((acc ++ m).Pairwise fun x y => ltX x.1 y.1 = true) → (∀ x ∈ m, 0 < x.2 ∧ x.1.1 < 1000000000 ∧ x.1.2 < 1000000000) → foldP acc (m.map termT) = some (acc ++ m)
 | [], acc, _, _ => by simp [foldP_nil]
 | x :: m, acc, hs, hm => by
   obtain ⟨h1, h2, h3⟩ := hm x (by simp)
   rw [List.map_cons, foldP_some (readT_term h1 h2 h3), if_pos]
   · rw [foldP_text m (acc ++ [x]) (by simpa using hs) fun y hy => hm y (by simp [hy])]
     simp
   · unfold nextP
     cases hl : acc.getLast? with
     | none => rfl
     | some y =>
       obtain ⟨k, rfl⟩ : ∃ m, acc = m ++ [y] := by
         rw [List.getLast?_eq_some_iff] at hl
         exact hl
       simp only
       rw [List.pairwise_append] at hs
       exact hs.2.2 y (by simp) x (by simp)
theorem termT_head (x : Ex × Nat) (hx : 0 < x.2) : ∃ c r, termT x = c :: r ∧ c ≠ 48 := by
 obtain ⟨c, r, hc, hn⟩ := dec_head hx
 refine ⟨c, r ++ pwT 120 x.1.1 ++ pwT 121 x.1.2, by unfold termT; rw [hc]; simp, ?_⟩
 rintro rfl
 exact hn rfl
theorem join3_head {c : UInt8} {t : List UInt8} (l : List (List UInt8)) (sep : List UInt8) : ∃ r, Lib.join ((c :: t) :: l) sep = c :: r := by
 cases l with
 | nil => exact ⟨t, join3_one _ _⟩
 | cons b l => exact ⟨_, by rw [join3_cons (by simp), List.append_assoc, List.cons_append]⟩
theorem textP_ne {p : Pol} (hne : p ≠ []) (hp : ∀ x ∈ p, 0 < x.2) : textP p = Lib.join (p.map termT) [32, 43, 32] ∧ textP p ≠ [48] := by
 unfold textP
 rw [if_neg hne]
 refine ⟨rfl, ?_⟩
 cases p with
 | nil => exact absurd rfl hne
 | cons x p =>
   obtain ⟨c, r, hc, hn⟩ := termT_head x (hp x (by simp))
   rw [List.map_cons, hc]
   obtain ⟨q, hq⟩ := join3_head (c := c) (t := r) (p.map termT) [32, 43, 32]
   rw [hq]
   intro e
   injection e with e1 e2
   exact hn e1
theorem parse_text {p : Pol} (hp : Canon p) (hu : Upto 2048 p) : parseP (textP p) = (p, 0) := by
 by_cases hne : p = []
 · subst hne
   unfold parseP textP
   rw [if_pos rfl, if_pos rfl]
 · obtain ⟨h1, h2⟩ := textP_ne hne hp.pos
   have h3 : parts3 [] (textP p) = p.map termT := by
     rw [h1]
     cases p with
     | nil => exact absurd rfl hne
     | cons x p =>
       rw [List.map_cons]
       refine parts3_of _ _ fun q hq => ?_
       rw [← List.map_cons (f := termT) (a := x)] at hq
       obtain ⟨y, -, rfl⟩ := List.mem_map.1 hq
       exact termT_no
   have h4 := foldP_text p [] (by simpa using hp.srt) fun x hx => ⟨hp.pos x hx, by have := (hu x hx).1; omega, by have := (hu x hx).2; omega⟩
   unfold parseP
   rw [if_neg h2, h3, h4]
   have h5 : farP ([] ++ p) = false := by
     unfold farP
     rw [List.nil_append, List.any_eq_false]
     intro x hx
     have := hu x hx
     simp
     omega
   rw [List.nil_append] at h5 ⊢
   simp only [h5]
   rfl
theorem text_parse {s : List UInt8} (h : (parseP s).2 = 0) : textP (parseP s).1 = s := by
 unfold parseP at h ⊢
 by_cases h0 : s = [48]
 · rw [if_pos h0]; rw [h0]; rfl
 · rw [if_neg h0] at h ⊢
   cases hf : foldP [] (parts3 [] s) with
   | none => rw [hf] at h; cases h
   | some l =>
     rw [hf] at h
     simp only at h ⊢
     by_cases hr : farP l = true
     · rw [if_pos hr] at h; cases h
     · rw [if_neg hr]
       obtain ⟨-, m, h1, h2, -⟩ := foldP_inv _ _ _ hf List.Pairwise.nil
       rw [List.nil_append] at h1
       subst h1
       have hne : l ≠ [] := by rintro rfl; exact parts3_ne [] s h2.symm
       unfold textP
       rw [if_neg hne, h2, parts3_join s.length s (Nat.le_refl _)]
       rfl
theorem parse_ok (s : List UInt8) : Canon (parseP s).1 ∧ Upto 2048 (parseP s).1 ∧ ((parseP s).2 ≠ 0 → (parseP s).1 = []) := by
 unfold parseP
 by_cases h0 : s = [48]
 · rw [if_pos h0]; exact ⟨Canon.nil, upto_nil _, fun _ => rfl⟩
 · rw [if_neg h0]
   cases hf : foldP [] (parts3 [] s) with
   | none => exact ⟨Canon.nil, upto_nil _, fun _ => rfl⟩
   | some l =>
     simp only
     by_cases hr : farP l = true
     · rw [if_pos hr]; exact ⟨Canon.nil, upto_nil _, fun _ => rfl⟩
     · rw [if_neg hr]
       obtain ⟨h1, m, h2, -, h4⟩ := foldP_inv _ _ _ hf List.Pairwise.nil
       rw [List.nil_append] at h2
       subst h2
       refine ⟨⟨h1, fun x hx => (h4 x hx).1⟩, fun x hx => ?_, fun h => absurd rfl h⟩
       unfold farP at hr
       rw [Bool.not_eq_true, List.any_eq_false] at hr
       have := hr x hx
       simp at this
       omega
theorem textP_inj {p q : Pol} (hp : Canon p) (hq : Canon q) (hu : Upto 2048 p) (hv : Upto 2048 q) (h : textP p = textP q) : p = q := by
 have h1 := parse_text hp hu
 rw [h, parse_text hq hv] at h1
 injection h1 with h1 h2
 exact h1.symm
def rnumP (s : List UInt8) (most : Nat) : List UInt8 × List UInt8 × Bool :=
 (digP s, s.drop (digP s).length, decide (0 < (digP s).length) && decide ((digP s).length ≤ most) && (decide ((digP s).length = 1) || decide (s.head? ≠ some 48)))
def rcutP (f s : List UInt8) : List UInt8 × Bool := if f.isPrefixOf s then (s.drop f.length, true) else (s, false)
def rpowP (c : UInt8) (s : List UInt8) : Nat × List UInt8 × Bool :=
 if [32, c, 94].isPrefixOf s then (dval 0 ((digP (s.drop 3)).take 9), (s.drop 3).drop (digP (s.drop 3)).length, (rnumP (s.drop 3) 9).2.2 && decide (0 < dval 0 ((digP (s.drop 3)).take 9))) else (0, s, true)
def rstep (s : List UInt8) : Option ((Ex × Nat) × List UInt8) :=
 if (rnumP s 65536).2.2 && decide (digP s ≠ [48]) then
   if (rpowP 120 (s.drop (digP s).length)).2.2 then
     if (rpowP 121 (rpowP 120 (s.drop (digP s).length)).2.1).2.2 then
       some ((((rpowP 120 (s.drop (digP s).length)).1, (rpowP 121 (rpowP 120 (s.drop (digP s).length)).2.1).1), dval 0 (digP s)), (rpowP 121 (rpowP 120 (s.drop (digP s).length)).2.1).2.1)
     else none
   else none
 else none
def rparse : Nat → Pol → List UInt8 → Option Pol
 | 0, _, _ => none
 | n + 1, acc, s => match rstep s with
   | none => none
   | some (x, r) => if nextP acc x then (if r = [] then some (acc ++ [x]) else if [32, 43, 32].isPrefixOf r then rparse n (acc ++ [x]) (r.drop 3) else none) else none
def stopP (r : List UInt8) : Prop := r = [] ∨ ∃ t, r = 32 :: 43 :: t
theorem stop_nodig {r : List UInt8} (h : stopP r) : ∀ c t, r = c :: t → ¬ isDig c := by
 rintro c t rfl
 rcases h with h | ⟨u, h⟩
 · cases h
 · injection h with h1 h2
   subst h1
   unfold isDig
   decide
theorem pw_nodig {c : UInt8} {a : Nat} {r : List UInt8} (h : ∀ d t, r = d :: t → ¬ isDig d) : ∀ d t, pwT c a ++ r = d :: t → ¬ isDig d := by
 intro d t e
 unfold pwT at e
 split at e
 · exact h d t e
 · injection e with e1 e2
   subst e1
   unfold isDig
   decide
theorem dec9_pos {a : Nat} (h : a < 1000000000) : 0 < (Lib.decDigits a).length ∧ (Lib.decDigits a).length ≤ 9 := ⟨List.length_pos_iff.2 (dec_ne a), dec_len (by omega) h⟩
theorem rpow_hit {c : UInt8} {a : Nat} (ha : a < 1000000000) {r : List UInt8} (hd : ∀ d t, r = d :: t → ¬ isDig d) (hr : [32, c, 94].isPrefixOf r = false) : rpowP c (pwT c a ++ r) = (a, r, true) := by
 unfold pwT
 by_cases h0 : a = 0
 · rw [if_pos h0, List.nil_append]
   unfold rpowP
   rw [hr, h0]
   rfl
 · rw [if_neg h0]
   have e1 : [32, c, 94].isPrefixOf (32 :: c :: 94 :: Lib.decDigits a ++ r) = true := by simp [List.isPrefixOf]
   have e2 : List.drop 3 (32 :: c :: 94 :: Lib.decDigits a ++ r) = Lib.decDigits a ++ r := rfl
   have e3 : digP (Lib.decDigits a ++ r) = Lib.decDigits a := digP_app (dec_all a) hd
   obtain ⟨h1, h2⟩ := dec9_pos ha
   obtain ⟨d, t, hdt, hn⟩ := dec_head (u := a) (by omega)
   have e4 : (Lib.decDigits a ++ r).head? = some d := by rw [hdt]; rfl
   unfold rpowP rnumP
   rw [if_pos e1, e2, e3, List.take_of_length_le h2, dval_dec, List.drop_left, e4]
   have : d ≠ 48 := by rintro rfl; exact hn rfl
   simp [h1, h2, this]
   omega
theorem not_pre {c : UInt8} (hc : c ≠ 43) {r : List UInt8} (h : stopP r) : [32, c, 94].isPrefixOf r = false := by
 rcases h with rfl | ⟨t, rfl⟩
 · rfl
 · cases t with
   | nil => simp [List.isPrefixOf]
   | cons x t => simp [List.isPrefixOf, hc]
theorem rstep_term {x : Ex × Nat} (hn : 0 < x.2) (ha : x.1.1 < 1000000000) (hb : x.1.2 < 1000000000) (hl : (Lib.decDigits x.2).length ≤ 65536) {r : List UInt8} (h : stopP r) : rstep (termT x ++ r) = some (x, r) := by
 have hd2 : ∀ d t, pwT 121 x.1.2 ++ r = d :: t → ¬ isDig d := pw_nodig (stop_nodig h)
 have hd1 : ∀ d t, pwT 120 x.1.1 ++ (pwT 121 x.1.2 ++ r) = d :: t → ¬ isDig d := pw_nodig hd2
 have e0 : termT x ++ r = Lib.decDigits x.2 ++ (pwT 120 x.1.1 ++ (pwT 121 x.1.2 ++ r)) := by unfold termT; simp
 have e1 : digP (termT x ++ r) = Lib.decDigits x.2 := by rw [e0]; exact digP_app (dec_all _) hd1
 have hp1 : [32, 120, 94].isPrefixOf (pwT 121 x.1.2 ++ r) = false := by
   unfold pwT
   split
   · exact not_pre (by decide) h
   · simp [List.isPrefixOf]
 have e2 := rpow_hit (c := 120) ha hd2 hp1
 have e3 := rpow_hit (c := 121) hb (stop_nodig h) (not_pre (by decide) h)
 obtain ⟨d, t, hdt, hd⟩ := dec_head hn
 have e4 : (termT x ++ r).head? = some d := by rw [e0, hdt]; rfl
 have h48 : d ≠ 48 := by rintro rfl; exact hd rfl
 have hpos : 0 < (Lib.decDigits x.2).length := List.length_pos_iff.2 (dec_ne _)
 have e5 : (rnumP (termT x ++ r) 65536).2.2 = true := by
   unfold rnumP
   rw [e1, e4]
   simp [h48, hl, hpos]
 have e6 : Lib.decDigits x.2 ≠ [48] := by rw [hdt]; intro e; injection e with e1 e2; exact h48 e1
 unfold rstep
 rw [e5, e1, e0, List.drop_left, e2]
 simp only [e3, dval_dec]
 simp [e6]
theorem rpow_inv {c : UInt8} {s r : List UInt8} {a : Nat} (h : rpowP c s = (a, r, true)) : s = pwT c a ++ r ∧ a < 1000000000 := by
 unfold rpowP at h
 split at h
 · rename_i hp
   simp only [Prod.mk.injEq, Bool.and_eq_true, decide_eq_true_eq] at h
   obtain ⟨h1, h2, h3, h4⟩ := h
   unfold rnumP at h3
   simp only [Bool.and_eq_true, Bool.or_eq_true, decide_eq_true_eq] at h3
   obtain ⟨⟨h5, h6⟩, h7⟩ := h3
   rw [List.take_of_length_le h6] at h1 h4
   have hz : numS (digP (s.drop 3)) = true := by
     refine numS_iff.2 ⟨List.length_pos_iff.1 h5, ?_, digP_all _⟩
     intro e
     rcases h7 with h7 | h7
     · obtain ⟨y, hy⟩ := List.length_eq_one_iff.1 h7
       rw [hy] at e h4
       simp only [List.head?_cons, Option.some.injEq] at e
       subst e
       exact absurd h4 (by rw [dval_cons, dval_nil]; decide)
     · refine h7 ?_
       have := digP_drop (s.drop 3)
       rw [this, List.head?_append, e]
       rfl
   obtain ⟨e1, -⟩ := dec_numS hz
   rw [h1] at e1 h4
   have hlt := dval_lt _ (digP_all (s.drop 3))
   rw [h1] at hlt
   refine ⟨?_, Nat.lt_of_lt_of_le hlt (Nat.pow_le_pow_right (by omega) h6)⟩
   obtain ⟨t, ht⟩ := List.isPrefixOf_iff_prefix.1 hp
   have ht2 : s.drop 3 = t := by rw [← ht]; rfl
   unfold pwT
   rw [if_neg (by omega), e1, ← h2]
   have := digP_drop (s.drop 3)
   rw [ht2] at this ⊢
   rw [← ht]
   exact congrArg (fun l => 32 :: c :: 94 :: l) this
 · simp only [Prod.mk.injEq, and_true] at h
   obtain ⟨rfl, rfl⟩ := h
   exact ⟨rfl, by omega⟩
theorem rstep_inv {s r : List UInt8} {x : Ex × Nat} (h : rstep s = some (x, r)) : s = termT x ++ r ∧ 0 < x.2 ∧ x.1.1 < 1000000000 ∧ x.1.2 < 1000000000 := by
 unfold rstep at h
 split at h
 · rename_i h0
   split at h
   · rename_i h1
     split at h
     · rename_i h2
       injection h with h
       injection h with h3 h4
       obtain ⟨⟨a, r1, o1⟩, hq1⟩ : ∃ q, rpowP 120 (s.drop (digP s).length) = q := ⟨_, rfl⟩
       rw [hq1] at h1 h2 h3 h4
       simp only at h1 h2 h3 h4
       obtain ⟨⟨b, r2, o2⟩, hq2⟩ : ∃ q, rpowP 121 r1 = q := ⟨_, rfl⟩
       rw [hq2] at h2 h3 h4
       simp only at h2 h3 h4
       subst h1 h2 h3 h4
       obtain ⟨e1, ha⟩ := rpow_inv hq1
       obtain ⟨e2, hb⟩ := rpow_inv hq2
       unfold rnumP at h0
       simp only [Bool.and_eq_true, Bool.or_eq_true, decide_eq_true_eq] at h0
       obtain ⟨⟨⟨h5, h6⟩, h7⟩, h8⟩ := h0
       have hz : numS (digP s) = true := by
         refine numS_iff.2 ⟨List.length_pos_iff.1 h5, ?_, digP_all _⟩
         intro e
         rcases h7 with h7 | h7
         · obtain ⟨y, hy⟩ := List.length_eq_one_iff.1 h7
           rw [hy] at e h8
           simp only [List.head?_cons, Option.some.injEq] at e
           subst e
           exact h8 rfl
         · refine h7 ?_
           have := digP_drop s
           rw [this, List.head?_append, e]
           rfl
       obtain ⟨e3, h9⟩ := dec_numS hz
       refine ⟨?_, h9, ha, hb⟩
       unfold termT
       simp only
       rw [e3]
       have := digP_drop s
       rw [e1, e2] at this
       rw [List.append_assoc, List.append_assoc]
       exact this
     · cases h
   · cases h
 · cases h
theorem rparse_eq : ∀ (n : Nat) (s : List UInt8) (acc : Pol), s.length < n → s.length ≤ 65536 → rparse n acc s = foldP acc (parts3 [] s)
 | 0, s, acc, h, _ => by omega
 | n + 1, s, acc, h, hl => by
   rw [rparse]
   have key : ∀ x r, rstep s = some (x, r) → stopP r → readT (termT x) = some x := by
     intro x r hx _
     obtain ⟨-, h1, h2, h3⟩ := rstep_inv hx
     exact readT_term h1 h2 h3
   rcases first3 s with ⟨-, hp⟩ | ⟨p, q, hs, -, hp⟩
   · rw [hp, List.nil_append]
     cases ht : readT s with
     | some x =>
       obtain ⟨e1, e2, e3, e4⟩ := readT_inv ht
       have hlen : (Lib.decDigits x.2).length ≤ 65536 := by
         have := congrArg List.length e1
         unfold termT at this
         simp only [List.length_append] at this
         omega
       have := rstep_term e2 e3 e4 hlen (r := []) (.inl rfl)
       rw [List.append_nil, ← e1] at this
       rw [this, foldP_some ht]
       simp only [if_true]
       rfl
     | none =>
       rw [foldP_bad ht]
       cases hx : rstep s with
       | none => rfl
       | some q =>
         obtain ⟨x, r⟩ := q
         obtain ⟨e1, e2, e3, e4⟩ := rstep_inv hx
         simp only
         split
         · split
           · rename_i hr
             subst hr
             rw [List.append_nil] at e1
             rw [e1, readT_term e2 e3 e4] at ht
             cases ht
           · split
             · rename_i hr
               obtain ⟨t, hrt⟩ := List.isPrefixOf_iff_prefix.1 hr
               have h3 : parts3 [] s = termT x :: parts3 [] t := by
                 rw [e1, ← hrt]
                 exact parts3_hit (termT x) [] t termT_no
               rw [hp, List.nil_append] at h3
               injection h3 with h4 h5
               exact absurd h5.symm (parts3_ne _ _)
             · rfl
         · rfl
   · rw [hp, List.nil_append]
     have hsl := congrArg List.length hs
     rw [List.length_append, List.length_cons, List.length_cons, List.length_cons] at hsl
     cases ht : readT p with
     | some x =>
       obtain ⟨e1, e2, e3, e4⟩ := readT_inv ht
       have hlen : (Lib.decDigits x.2).length ≤ 65536 := by
         have := congrArg List.length e1
         unfold termT at this
         simp only [List.length_append] at this
         omega
       have := rstep_term e2 e3 e4 hlen (r := 32 :: 43 :: 32 :: q) (.inr ⟨_, rfl⟩)
       rw [← e1, ← hs] at this
       rw [this, foldP_some ht]
       simp only
       have e5 : List.drop 3 (32 :: 43 :: 32 :: q) = q := rfl
       by_cases hn : nextP acc x = true
       · rw [if_pos hn, if_pos hn, if_neg (by simp), if_pos (by simp [List.isPrefixOf]), e5, rparse_eq n q _ (by omega) (by omega)]
       · rw [if_neg hn, if_neg hn]
     | none =>
       rw [foldP_bad ht]
       cases hx : rstep s with
       | none => rfl
       | some qq =>
         obtain ⟨x, r⟩ := qq
         obtain ⟨e1, e2, e3, e4⟩ := rstep_inv hx
         simp only
         split
         · split
           · rename_i hr
             subst hr
             rw [List.append_nil] at e1
             exfalso
             refine termT_no (x := x) 43 ?_ rfl
             rw [← e1, hs]
             simp
           · split
             · rename_i hr
               obtain ⟨t, hrt⟩ := List.isPrefixOf_iff_prefix.1 hr
               have h3 : parts3 [] s = termT x :: parts3 [] t := by
                 rw [e1, ← hrt]
                 exact parts3_hit (termT x) [] t termT_no
               rw [hp, List.nil_append] at h3
               injection h3 with h4 h5
               rw [h4, readT_term e2 e3 e4] at ht
               cases ht
             · rfl
         · rfl
end Go.Pal
namespace Go.Pal
def textU (p : Pol) : List UInt8 := Lib.join (p.map termT) [32, 43, 32]
theorem join_snoc (sep : List UInt8) : ∀ (l : List (List UInt8)) (a : List UInt8), l ≠ [] → Lib.join (l ++ [a]) sep = Lib.join l sep ++ sep ++ a
 | [], _, h => absurd rfl h
 | [x], a, _ => by
   rw [List.singleton_append, join3_cons (by simp), join3_one, join3_one]
 | x :: y :: r, a, _ => by
   rw [List.cons_append, join3_cons (by simp), join_snoc sep (y :: r) a (by simp), join3_cons (l := y :: r) (by simp)]
   simp only [List.append_assoc]
theorem textU_nil : textU [] = [] := by simp [textU, Lib.join, List.intercalate]
theorem textU_snoc (p : Pol) (x : Ex × Nat) : textU (p ++ [x]) = (if p.length = 0 then [] else textU p ++ [32, 43, 32]) ++ termT x := by
 unfold textU
 rw [List.map_append, List.map_cons, List.map_nil]
 by_cases h : p = []
 · subst h
   show Lib.join [termT x] _ = [] ++ termT x
   rw [join3_one]
   rfl
 · rw [if_neg (fun e => h (List.length_eq_zero_iff.1 e)), join_snoc _ _ _ (by simpa using h)]
theorem textP_U {p : Pol} (h : p ≠ []) : textP p = textU p := by unfold textP textU; rw [if_neg h]
theorem pwT_len {c : UInt8} {a : Nat} (h : a < 1000000000) : (pwT c a).length ≤ 12 := by
 unfold pwT
 split
 · simp
 · have := (dec9_pos h).2
   simp only [List.length_cons]
   omega
theorem termT_len {x : Ex × Nat} {d : Nat} (h1 : x.1.1 ≤ 2048) (h2 : x.1.2 ≤ 2048) (hd : (Lib.decDigits x.2).length ≤ d) : (termT x).length ≤ d + 24 := by
 unfold termT
 have h3 := pwT_len (c := 120) (a := x.1.1) (by omega)
 have h4 := pwT_len (c := 121) (a := x.1.2) (by omega)
 simp only [List.length_append]
 omega
theorem textU_len {d : Nat} : ∀ {p : Pol}, Upto 2048 p → (∀ x ∈ p, (Lib.decDigits x.2).length ≤ d) → (textU p).length ≤ p.length * (d + 27)
 | [], _, _ => by rw [textU_nil]; simp
 | [x], hu, hd => by
   have h := termT_len (hu x (by simp)).1 (hu x (by simp)).2 (hd x (by simp))
   show (Lib.join [termT x] _).length ≤ _
   rw [join3_one]
   simp only [List.length_cons, List.length_nil]
   omega
 | x :: y :: r, hu, hd => by
   have h := termT_len (hu x (by simp)).1 (hu x (by simp)).2 (hd x (by simp))
   have ih := textU_len (p := y :: r) (fun z hz => hu z (by simp only [List.mem_cons] at hz ⊢; exact .inr hz)) (fun z hz => hd z (by simp only [List.mem_cons] at hz ⊢; exact .inr hz))
   show (Lib.join (termT x :: (y :: r).map termT) _).length ≤ _
   rw [join3_cons (by simp)]
   show (termT x ++ [32, 43, 32] ++ textU (y :: r)).length ≤ _
   simp only [List.length_append, List.length_cons, List.length_nil] at *
   rw [Nat.add_mul _ 1]
   omega
theorem textP_len {p : Pol} {d : Nat} (hu : Upto 2048 p) (hd : ∀ x ∈ p, (Lib.decDigits x.2).length ≤ d) : (textP p).length ≤ 1 + p.length * (d + 27) := by
 by_cases h : p = []
 · unfold textP; rw [if_pos h]; simp
 · rw [textP_U h]
   have := textU_len hu hd
   omega
theorem dec_wt {p : Pol} {d : Nat} (hd : 0 < d) (h : wt p < 10 ^ d) : ∀ x ∈ p, (Lib.decDigits x.2).length ≤ d := fun _ hx => dec_len hd (Nat.lt_of_le_of_lt (wt_mem hx) h)
end Go.Pal
