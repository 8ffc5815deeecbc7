/- Rows of the call's own whose elements are structs of k cells: what they hold, append of .. -/
import Derived.Test.YteiibpfabgfolaaGreatDoorVRule
import Derived.Test.YteiibpfabgfolaaGreatDoorVRoR
import Derived.OwnWalkIn
import Derived.TacticsInMore
import Derived.Shelf.SlSortCmp.NoneTotal
set_option linter.all false
namespace Go.Pal
open Go Go.RowKit
def encC {α : Type} (enc : α → Array Value) (l : List α) : List Value := l.flatMap fun x => (enc x).toList
structure ElT {α : Type} (P : Program) (e : TypeId) (k : Nat) (enc : α → Array Value) where
 bytes : Nat
 zero : Value
 info : (P.info? e).map (fun i => (i.zero, i.size, i.bytes)) = some (some zero, k, bytes)
 zc : zero.cells.size = k
 pos : 0 < k
 small : bytes ≤ 10000
 size : ∀ x, (enc x).size = k
 one : ∀ x, ∀ u ∈ (enc x).toList, u.oneCell' = true
section
variable {α : Type} {P : Program} {e : TypeId} {k : Nat} {enc : α → Array Value}
theorem encC_append (l m : List α) : encC enc (l ++ m) = encC enc l ++ encC enc m := by simp [encC]
theorem encC_one (x : α) : encC enc [x] = (enc x).toList := by simp [encC]
theorem encC_length (E : ElT P e k enc) (l : List α) : (encC enc l).length = l.length * k := by
 induction l with
 | nil => simp [encC]
 | cons x r ih =>
   simp only [encC, List.flatMap_cons, List.length_append, Array.length_toList, E.size, List.length_cons] at ih ⊢
   rw [ih, Nat.add_mul]
   omega
theorem encC_get (E : ElT P e k enc) {l : List α} {i j : Nat} {x : α} {u : Value} (hx : l[i]? = some x) (hu : (enc x)[j]? = some u) : (encC enc l)[i * k + j]? = some u := by
 induction l generalizing i with
 | nil => simp at hx
 | cons y r ih =>
   have hj : j < k := by have := (Array.getElem?_eq_some_iff.1 hu).1; rwa [E.size] at this
   rw [show encC enc (y :: r) = (enc y).toList ++ encC enc r from rfl]
   cases i with
   | zero =>
     simp at hx
     subst hx
     rw [List.getElem?_append_left (by rw [Array.length_toList, E.size]; omega), Nat.zero_mul, Nat.zero_add]
     simpa using hu
   | succ i =>
     rw [List.getElem?_append_right (by rw [Array.length_toList, E.size, Nat.add_mul]; omega), Array.length_toList, E.size, show (i + 1) * k + j - k = i * k + j by rw [Nat.add_mul]; omega]
     exact ih (by simpa using hx)
def OwnR (e : TypeId) (k : Nat) (enc : α → Array Value) (B : Nat) (w : World) (v : Value) (l : List α) : Prop := w.ownsRow B e k v l.length (encC enc l)
variable {B : Nat} {w w' : World} {v : Value} {l : List α}
theorem OwnR.nil (B : Nat) (w : World) : OwnR e k enc B w (.slice none 0 0) [] := World.ownsRow_nil _ _ _ _
theorem OwnR.block (h : OwnR e k enc B w v l) : ∀ j, v.ownBlock = some j → B ≤ j := fun j hj => (World.ownsRow.lt (base := B) h j hj).1
theorem OwnR.lt (h : OwnR e k enc B w v l) : ∀ j, v.ownBlock = some j → j < w.heap.size := fun j hj => (World.ownsRow.lt (base := B) h j hj).2
theorem OwnR.alloc (h : OwnR e k enc B w v l) (o : Obj) : OwnR e k enc B (w.alloc o) v l := World.ownsRow.alloc (base := B) h o
theorem OwnR.sl (h : OwnR e k enc B w v l) : ∃ a c, v = .slice a l.length c := by
 rcases h.2 with ⟨rfl, h2⟩ | ⟨g, cap, cur, rfl, _⟩
 · exact ⟨_, _, by rw [h2]⟩
 · exact ⟨_, _, rfl⟩
theorem OwnR.same (h : OwnR e k enc B w v l) (hb : ∀ g, v.ownBlock = some g → w'.heap[g]? = w.heap[g]?) : OwnR e k enc B w' v l := by
 refine ⟨h.1, ?_⟩
 rcases h.2 with h2 | ⟨g, cap, cur, rfl, hB, hg, h3⟩
 · exact .inl h2
 · exact .inr ⟨g, cap, cur, rfl, hB, (hb g rfl).trans hg, h3⟩
theorem OwnR.below {C : Nat} (h : OwnR e k enc B w v l) (hb : Below C w w') (hC : w.heap.size ≤ C) : OwnR e k enc B w' v l := h.same fun g hg => hb.block g (Nat.lt_of_lt_of_le (h.lt g hg) hC)
theorem OwnR.lower {B' : Nat} (h : OwnR e k enc B w v l) (hB : B' ≤ B) : OwnR e k enc B' w v l := by
 refine ⟨h.1, ?_⟩
 rcases h.2 with h2 | ⟨g, cap, cur, rfl, hg, h3⟩
 · exact .inl h2
 · exact .inr ⟨g, cap, cur, rfl, by omega, h3⟩
theorem OwnR.rd (E : ElT P e k enc) (h : OwnR e k enc B w v l) : Rd enc k w.heap.size w v l := by
 obtain ⟨a, c, rfl⟩ := h.sl
 refine ⟨a, c, rfl, ?_⟩
 rcases h.2 with ⟨_, h2⟩ | ⟨g, cap, cur, h1, hB, hg, _⟩
 · exact .inl (List.length_eq_zero_iff.1 h2)
 · simp only [Value.slice.injEq] at h1
   obtain ⟨rfl, -, rfl⟩ := h1
   refine .inr ⟨g, 0, rfl, (Array.getElem?_eq_some_iff.1 hg).1, fun i x hx j u hu => ?_⟩
   have := World.ownsRow.cells (base := B) h (g := g) rfl _ _ (encC_get E hx hu)
   have e : (⟨g, 0, none⟩ : Addr).add (i * k + j) = ⟨g, 0 + i * k + j, none⟩ := by unfold Addr.add; split <;> simp_all
   rwa [e] at this
theorem run_appO (E : ElT P e k enc) (st ty : TypeId) (hst : P.underlying st = some (.slice e)) (h : OwnR e k enc B w v l) (g : Nat) (y : α) (c : Nat) (hg : row? w g = some (enc y)) (hlen : l.length < 4000000) (hB : B ≤ w.heap.size) :
   ∃ v' w', (Builtin.append_ #[st, st] ty #[v, .slice (some ⟨g, 0, none⟩) 1 c]).run P w = .ok v' w' ∧ OwnR e k enc B w' v' (l ++ [y]) ∧ Below B w w' ∧ w.grownBy w' v.ownBlock ∧ (v'.ownBlock = v.ownBlock ∨ v'.ownBlock = some w.heap.size) := by
 obtain ⟨i0, hi, hz0, hz1, hz2⟩ := info_parts E.info
 obtain ⟨v', w', hr, h2, h3, h4⟩ := run_append_own2 (P := P) w B st ty e i0 E.zero k E.bytes hst hi hz0 hz1 hz2 E.zc E.pos v l.length (encC enc l) h ⟨g, 0, none⟩ 1 c (by decide) (enc y).toList (by rw [Array.length_toList, E.size, Nat.one_mul])
   (fun j u hj => by
     have : (⟨g, 0, none⟩ : Addr).add j = ⟨g, j, none⟩ := by unfold Addr.add; split <;> simp_all
     rw [this, cell?_row hg]
     simpa using hj) (E.one y) (by unfold maxLen; omega) (by
       have := E.small
       refine Nat.le_trans (Nat.mul_le_mul (Nat.succ_le_of_lt hlen) this) (by decide)) hB
 refine ⟨v', w', hr, ?_, (Below.refl B w).grown h3 hB h.block, h3, h4⟩
 unfold OwnR
 rw [List.length_append, encC_append, encC_one]
 exact h2
theorem wp_appO {o : Oper} {a : Act} {K : Act → World → Prop} {Q : Exit → Act → World → Prop} (E : ElT P e k enc) (st : TypeId) (hst : P.underlying st = some (.slice e)) (s x : Operand)
   (ho : o.op = .call { callee := .builtin .append, args := #[s, x], argTypes := #[st, st] }) (B : Nat) (v : Value) (l : List α) (hs : a.eval s = v) (hown : OwnR e k enc B w v l)
   (g : Nat) (y : α) (c : Nat) (hx : a.eval x = .slice (some ⟨g, 0, none⟩) 1 c) (hg : row? w g = some (enc y)) (hlen : l.length < 4000000) (hB : B ≤ w.heap.size)
   (h : ∀ v' w', OwnR e k enc B w' v' (l ++ [y]) → Below B w w' → w.grownBy w' v.ownBlock → (v'.ownBlock = v.ownBlock ∨ v'.ownBlock = some w.heap.size) → K (a.put o.dst v') w') : o.wp P a w K Q := by
 obtain ⟨v', w', hr, h2, h3, h4, h5⟩ := run_appO E st o.type hst hown g y c hg hlen hB
 unfold Oper.wp execOp
 simp only [ho, resolve, invoke, builtin, Sem.run_bind, Sem.run_pure, Result.andThen_ok, List.map_toArray, List.map_cons, List.map_nil, hs, hx, hr]
 exact h v' w' h2 h3 h4 h5
theorem wpList_appO {ops : Array Oper} {rest : List Oper} {o : Oper} {a : Act} {Q : Exit → Act → World → Prop} (E : ElT P e k enc) (st : TypeId) (hst : P.underlying st = some (.slice e)) (hgd : o.guard = none) (s x : Operand)
   (ho : o.op = .call { callee := .builtin .append, args := #[s, x], argTypes := #[st, st] }) (B : Nat) (v : Value) (l : List α) (hs : a.eval s = v) (hown : OwnR e k enc B w v l)
   (g : Nat) (y : α) (c : Nat) (hx : a.eval x = .slice (some ⟨g, 0, none⟩) 1 c) (hg : row? w g = some (enc y)) (hlen : l.length < 4000000) (hB : B ≤ w.heap.size)
   (h : ∀ v' w', OwnR e k enc B w' v' (l ++ [y]) → Below B w w' → w.grownBy w' v.ownBlock → (v'.ownBlock = v.ownBlock ∨ v'.ownBlock = some w.heap.size) → wpList P ops Q rest (a.put o.dst v') w') : wpList P ops Q (o :: rest) a w :=
 wpList_plain hgd fun _ hK => wp_appO E st hst s x ho B v l hs hown g y c hx hg hlen hB fun v' w' h1 h2 h3 h4 => hK _ _ (h v' w' h1 h2 h3 h4)
end
section
variable {α : Type} {P : Program} {e : TypeId} {k : Nat} {enc : α → Array Value}
theorem wpListIn_appO {F : Fence} {n : Nat} {w : World} {ops : Array Oper} {rest : List Oper} {o : Oper} {a : Act} {Q : Exit → Act → World → Prop} (E : ElT P e k enc) (st : TypeId) (hst : P.underlying st = some (.slice e)) (hgd : o.guard = none) (s x : Operand)
   (ho : o.op = .call { callee := .builtin .append, args := #[s, x], argTypes := #[st, st] }) (B : Nat) (v : Value) (l : List α) (hs : a.eval s = v) (hown : OwnR e k enc B w v l)
   (g : Nat) (y : α) (c : Nat) (hx : a.eval x = .slice (some ⟨g, 0, none⟩) 1 c) (hg : row? w g = some (enc y)) (hlen : l.length < 4000000) (hB : B ≤ w.heap.size)
   (h : ∀ v' w', OwnR e k enc B w' v' (l ++ [y]) → Below B w w' → w.grownBy w' v.ownBlock → (v'.ownBlock = v.ownBlock ∨ v'.ownBlock = some w.heap.size) → wpListIn F n P ops Q rest (a.put o.dst v') w') : wpListIn F n P ops Q (o :: rest) a w := by
 obtain ⟨v', w', hr, h2, h3, h4, h5⟩ := run_appO E st o.type hst hown g y c hg hlen hB
 refine wpListIn_plain hgd fun K hK' => ?_
 unfold Oper.wpIn
 refine ⟨?_, ?_⟩
 · simp [Oper.about, ho, resolve, Target.leads, Sem.run_pure]
 · rw [Oper.semAt_plain F _ _ (by rw [ho]; intro c hc'; cases hc')]
   simp [execOp, ho, resolve, invoke, builtin, hs, hx, hr, Result.andThen]
   exact hK' _ _ (h v' w' h2 h3 h4 h5)
end
structure Ext (w w' : World) : Prop where
 below : Below w.heap.size w w'
 drawn : w.drawn ≤ w'.drawn
theorem Ext.refl (w : World) : Ext w w := ⟨Below.refl _ _, Nat.le_refl _⟩
theorem Ext.trans {a b c : World} (h : Ext a b) (k : Ext b c) : Ext a c := ⟨h.below.trans (k.below.mono h.below.size), Nat.le_trans h.drawn k.drawn⟩
theorem Ext.alloc (w : World) (o : Obj) : Ext w (w.alloc o) := ⟨(Below.refl _ w).alloc (Nat.le_refl _) _, Nat.le_refl _⟩
theorem Ext.drew (w : World) : Ext w w.drew := ⟨(Below.refl _ w).drew, Nat.le_succ _⟩
end Go.Pal
namespace Go.Pal
open Go Go.RowKit Go.Sort Go.Shelf Go.Lib Go.Proofs
theorem Ext.grow {w w' : World} (h : Ext w w') : ∃ q os, w' = grow (w.drewN q) os := by
 refine ⟨w'.drawn - w.drawn, w'.heap.extract w.heap.size w'.heap.size, ?_⟩
 obtain ⟨⟨h1, h2, h3, h4, h5⟩, h6⟩ := h
 have hh : w'.heap = w.heap ++ w'.heap.extract w.heap.size w'.heap.size := by
   apply Array.ext_getElem?
   intro i
   by_cases hi : i < w.heap.size
   · rw [h5 i hi, Array.getElem?_append_left hi]
   · rw [Array.getElem?_append_right (by omega), Array.getElem?_extract]
     by_cases hi2 : i < w'.heap.size
     · rw [if_pos (by omega)]
       congr 1
       omega
     · rw [if_neg (by omega), Array.getElem?_eq_none (by omega)]
 have hd : w.drewN (w'.drawn - w.drawn) = { w with drawn := w'.drawn } := by
   show ({ w with drawn := w.drawn + (w'.drawn - w.drawn) } : World) = _
   rw [show w.drawn + (w'.drawn - w.drawn) = w'.drawn by omega]
 rw [hd]
 unfold Sort.grow
 cases w' with
 | mk heap' tape' drawn' os' output' =>
 simp only at h1 h2 h3 hh ⊢
 rw [h1, h2, h3, ← hh]
section
variable {α : Type} [Inhabited α] {P : Program} {e : TypeId} {k : Nat} {enc : α → Array Value}
theorem flatK_toList (E : ElT P e k enc) (d : Array α) : (flatK (fun x => (enc x).toList) k d).toList = encC enc d.toList := by
 have hk := E.pos
 apply List.ext_getElem?
 intro t
 by_cases ht : t < d.size * k
 · have hd : t / k < d.size := Nat.div_lt_of_lt_mul (by rwa [Nat.mul_comm] at ht)
   have hm : t % k < k := Nat.mod_lt _ hk
   have h1 : (flatK (fun x => (enc x).toList) k d)[t]? = some ((enc d[t / k]!).toList[t % k]!) := by
     have := get_flatK (fun x => (enc x).toList) k d t ht
     rw [getElem!_pos _ t (by simpa using ht)] at this
     rw [Array.getElem?_eq_getElem (by simpa using ht), this]
   rw [Array.getElem?_toList, h1]
   have hx : d.toList[t / k]? = some d[t / k]! := by
     rw [Array.getElem?_toList, Array.getElem?_eq_getElem hd, getElem!_pos d _ hd]
   have hu : (enc d[t / k]!)[t % k]? = some ((enc d[t / k]!).toList[t % k]!) := by
     have : t % k < (enc d[t / k]!).size := by rw [E.size]; exact hm
     have h3 : t % k < (enc d[t / k]!).toList.length := by simpa using this
     rw [← Array.getElem?_toList, List.getElem?_eq_getElem h3, getElem!_pos (enc d[t / k]!).toList _ h3]
   have := encC_get E hx hu
   rw [show t / k * k + t % k = t by rw [Nat.mul_comm]; exact Nat.div_add_mod t k] at this
   exact this.symm
 · rw [List.getElem?_eq_none (by simp; omega), List.getElem?_eq_none (by rw [encC_length E]; simp; omega)]
theorem putCells_take (F cur : Array Value) (hF : F.size ≤ cur.size) : (putCells id 0 F cur).toList.take F.size = F.toList := by
 apply List.ext_getElem?
 intro t
 rw [List.getElem?_take]
 by_cases ht : t < F.size
 · rw [if_pos ht]
   have h2 : t < cur.size := by omega
   unfold putCells
   simp [ht, h2]
 · rw [if_neg ht, List.getElem?_eq_none (by simp; omega)]
theorem sort_own {ρ : Ren} (L : SlLaysF0.n6 P ρ) (E : ElT P (ρ.t 24) k enc) (aE : ∀ w, (isAgg (ρ.t 24)).run P w = .ok true w) (zE : ∀ w, (Go.sizeOf (ρ.t 24)).run P w = .ok k w) (cf : α → α → Int) (hO : SWO (ltOf cf)) (g : Nat)
   (eg : ∀ args w, (callFunc g args).run P w = .ok (.enter g args) w) (hcmp : ∀ x y W, Calls P g #[.agg (enc x), .agg (enc y)] W fun e w' => e = .returned (.int .i64 (cf x y)) ∧ Ext W w')
   (B : Nat) (v : Value) (l : List α) (w : World) (h : OwnR (ρ.t 24) k enc B w v l) (hlen : l.length ≤ 1000000) :
   Calls P (ρ.f 6) #[v, .func (.func g) #[] #[]] w fun e w' => e = .returned (.tuple #[]) ∧ ∃ l', l.Perm l' ∧ l'.Pairwise (fun x y => ltOf cf y x = false) ∧ OwnR (ρ.t 24) k enc B w' v l' ∧ Same (fun j => v.ownBlock ≠ some j) w w' := by
 rcases h.2 with ⟨rfl, h2⟩ | ⟨b, cap, cur, rfl, hB, hg, hle, hcm, hcs, htake⟩
 · have hl : l = [] := List.length_eq_zero_iff.1 h2
   subst hl
   refine (Proofs.AnyF.slices_SortFunc_none L none 0 _ w).mono ?_
   rintro e w' ⟨rfl, rfl⟩
   exact ⟨rfl, [], List.Perm.refl _, List.Pairwise.nil, OwnR.nil _ _, Same.refl _ _⟩
 · have hblk := (Array.getElem?_eq_some_iff.1 hg).1
   have hFl : (flatK (fun x => (enc x).toList) k l.toArray).size = l.length * k := by simp
   have hH : HoldsK (fun x => (enc x).toList) k w b 0 l.toArray := by
     intro j hj
     have hj' : j < l.length * k := by simpa using hj
     have h3 : (encC enc l)[j]? = some ((flatK (fun x => (enc x).toList) k l.toArray)[j]!) := by
       rw [← flatK_toList E l.toArray, Array.getElem?_toList, Array.getElem?_eq_getElem hj, getElem!_pos _ j hj]
     have h4 := World.ownsRow.cells (base := B) h (g := b) rfl _ _ h3
     have e1 : (⟨b, 0, none⟩ : Addr).add j = ⟨b, 0 + j, none⟩ := by unfold Addr.add; split <;> simp_all
     rw [e1] at h4
     exact ⟨h4, frozen_of_row w b (0 + j) cur _ hg⟩
   have key := Proofs.AnyQ.slices_SortFunc L k aE zE (fun x => (enc x).toList) (fun x => by rw [Array.length_toList, E.size]) E.one cf hO g #[] b 0 cap l.toArray w eg
     (fun m os dk _ x y => (hcmp x y _).mono fun e w' ⟨he, hx⟩ => ⟨he, hx.grow⟩) hH hblk (by simp; omega)
   have hsz : l.toArray.size = l.length := by simp
   rw [hsz] at key
   refine key.mono ?_
   rintro e w' ⟨rfl, d', n, os, hp, hs, rfl⟩
   have hd' : d'.size = l.length := by have := hp.1; simpa using this
   have hperm : l.Perm d'.toList := by
     have h3 := hp.2.2
     have e1 : d'.extract 0 l.length = d' := by rw [← hd']; exact Array.extract_size
     have e2 : l.toArray.extract 0 l.length = l.toArray := by rw [← hsz]; exact Array.extract_size
     rw [e1, e2] at h3
     exact h3.symm
   have hlen' : d'.toList.length = l.length := by simpa using hd'
   have hF' : (flatK (fun x => (enc x).toList) k d').size = l.length * k := by rw [size_flatK, hd']
   have hheap : (sortWorldK (fun x => (enc x).toList) k w b 0 n d' os).heap[b]? = some (.cells (putCells id 0 (flatK (fun x => (enc x).toList) k d') cur) (ρ.t 24) (0, 0)) := by
     unfold sortWorldK putRowK
     rw [heap_grow_old _ _ (by rw [Go.Sort.size_putRow]; exact hblk)]
     unfold putRow mapBlock
     show (w.heap.modify b _)[b]? = _
     rw [Array.getElem?_modify, if_pos rfl, hg]
     rfl
   refine ⟨rfl, d'.toList, hperm, ?_, ?_, ?_⟩
   · rw [List.pairwise_iff_getElem]
     intro i j hi hj hij
     have := hs i j (Nat.zero_le _) hij (by simpa [hd'] using hj)
     simp only [Array.length_toList] at hi hj
     rw [getElem!_pos d' j hj, getElem!_pos d' i hi] at this
     simpa using this
   · refine ⟨encC_length E _, .inr ⟨b, cap, _, by rw [hlen'], hB, hheap, by rw [hlen']; exact hle, hcm, ?_, ?_⟩⟩
     · simp [putCells, hcs]
     · rw [hlen', ← flatK_toList E d', ← hF']
       exact putCells_take _ _ (by rw [hF', hcs]; exact Nat.mul_le_mul_right _ hle)
   · refine ⟨rfl, rfl, rfl, ?_, fun j hj hne => ?_⟩
     · unfold sortWorldK putRowK
       rw [size_grow, Go.Sort.size_putRow]
       exact Nat.le_add_right _ _
     · unfold sortWorldK putRowK
       rw [heap_grow_old _ _ (by rw [Go.Sort.size_putRow]; exact hj)]
       unfold putRow mapBlock
       show (w.heap.modify b _)[j]? = _
       rw [Array.getElem?_modify, if_neg fun e => hne (by rw [e]; rfl)]
end
end Go.Pal
