/- Rows of the call's own whose elements are structs of k cells: what they hold, append of .. -/
import Derived.Test.YtglnhnjmelilmaaGreatDoorRRule
import Derived.Test.YtglnhnjmelilmaaGreatDoorRRoR
import Derived.OwnWalkIn
import Derived.TacticsInMore
import Derived.Test.YtglnhnjmelilmaaGreatDoorRGp
import Derived.Test.YtglnhnjmelilmaaGreatDoorRSets
import Derived.Maps.Own
import Derived.Maps.OwnIn
set_option maxHeartbeats 4000000
set_option linter.all false
namespace Go.Pal
open Go Go.RowKit
def encC {α : Type} (enc : α → Array Value) (l : List α) : List Value := l.flatMap fun x => (enc x).toList
structure ElT {α : Type} (P : Program) (e : TypeId) (k : Nat) (enc : α → Array Value) where
 bytes : Nat
 zero : Value
 info : (P.info? e).map (fun i => (i.zero, i.size, i.bytes)) = some (some zero, k, bytes)
 zc : zero.cells.size = k
 pos : 0 < k
 small : bytes ≤ 10000
 size : ∀ x, (enc x).size = k
 one : ∀ x, ∀ u ∈ (enc x).toList, u.oneCell' = true
section
variable {α : Type} {P : Program} {e : TypeId} {k : Nat} {enc : α → Array Value}
theorem encC_append (l m : List α) : encC enc (l ++ m) = encC enc l ++ encC enc m := by simp [encC]
theorem encC_one (x : α) : encC enc [x] = (enc x).toList := by simp [encC]
theorem encC_length (E : ElT P e k enc) (l : List α) : (encC enc l).length = l.length * k := by
 induction l with
 | nil => simp [encC]
 | cons x r ih =>
   simp only [encC, List.flatMap_cons, List.length_append, Array.length_toList, E.size, List.length_cons] at ih ⊢
   rw [ih, Nat.add_mul]
   omega
theorem encC_get (E : ElT P e k enc) {l : List α} {i j : Nat} {x : α} {u : Value} (hx : l[i]? = some x) (hu : (enc x)[j]? = some u) : (encC enc l)[i * k + j]? = some u := by
 induction l generalizing i with
 | nil => simp at hx
 | cons y r ih =>
   have hj : j < k := by have := (Array.getElem?_eq_some_iff.1 hu).1; rwa [E.size] at this
   rw [show encC enc (y :: r) = (enc y).toList ++ encC enc r from rfl]
   cases i with
   | zero =>
     simp at hx
     subst hx
     rw [List.getElem?_append_left (by rw [Array.length_toList, E.size]; omega), Nat.zero_mul, Nat.zero_add]
     simpa using hu
   | succ i =>
     rw [List.getElem?_append_right (by rw [Array.length_toList, E.size, Nat.add_mul]; omega), Array.length_toList, E.size, show (i + 1) * k + j - k = i * k + j by rw [Nat.add_mul]; omega]
     exact ih (by simpa using hx)
def OwnR (e : TypeId) (k : Nat) (enc : α → Array Value) (B : Nat) (w : World) (v : Value) (l : List α) : Prop := w.ownsRow B e k v l.length (encC enc l)
variable {B : Nat} {w w' : World} {v : Value} {l : List α}
theorem OwnR.nil (B : Nat) (w : World) : OwnR e k enc B w (.slice none 0 0) [] := World.ownsRow_nil _ _ _ _
theorem OwnR.block (h : OwnR e k enc B w v l) : ∀ j, v.ownBlock = some j → B ≤ j := fun j hj => (World.ownsRow.lt (base := B) h j hj).1
theorem OwnR.lt (h : OwnR e k enc B w v l) : ∀ j, v.ownBlock = some j → j < w.heap.size := fun j hj => (World.ownsRow.lt (base := B) h j hj).2
theorem OwnR.alloc (h : OwnR e k enc B w v l) (o : Obj) : OwnR e k enc B (w.alloc o) v l := World.ownsRow.alloc (base := B) h o
theorem OwnR.sl (h : OwnR e k enc B w v l) : ∃ a c, v = .slice a l.length c := by
 rcases h.2 with ⟨rfl, h2⟩ | ⟨g, cap, cur, rfl, _⟩
 · exact ⟨_, _, by rw [h2]⟩
 · exact ⟨_, _, rfl⟩
theorem OwnR.same (h : OwnR e k enc B w v l) (hb : ∀ g, v.ownBlock = some g → w'.heap[g]? = w.heap[g]?) : OwnR e k enc B w' v l := by
 refine ⟨h.1, ?_⟩
 rcases h.2 with h2 | ⟨g, cap, cur, rfl, hB, hg, h3⟩
 · exact .inl h2
 · exact .inr ⟨g, cap, cur, rfl, hB, (hb g rfl).trans hg, h3⟩
theorem OwnR.below {C : Nat} (h : OwnR e k enc B w v l) (hb : Below C w w') (hC : w.heap.size ≤ C) : OwnR e k enc B w' v l := h.same fun g hg => hb.block g (Nat.lt_of_lt_of_le (h.lt g hg) hC)
theorem OwnR.lower {B' : Nat} (h : OwnR e k enc B w v l) (hB : B' ≤ B) : OwnR e k enc B' w v l := by
 refine ⟨h.1, ?_⟩
 rcases h.2 with h2 | ⟨g, cap, cur, rfl, hg, h3⟩
 · exact .inl h2
 · exact .inr ⟨g, cap, cur, rfl, by omega, h3⟩
theorem OwnR.rd (E : ElT P e k enc) (h : OwnR e k enc B w v l) : Rd enc k w.heap.size w v l := by
 obtain ⟨a, c, rfl⟩ := h.sl
 refine ⟨a, c, rfl, ?_⟩
 rcases h.2 with ⟨_, h2⟩ | ⟨g, cap, cur, h1, hB, hg, _⟩
 · exact .inl (List.length_eq_zero_iff.1 h2)
 · simp only [Value.slice.injEq] at h1
   obtain ⟨rfl, -, rfl⟩ := h1
   refine .inr ⟨g, 0, rfl, (Array.getElem?_eq_some_iff.1 hg).1, fun i x hx j u hu => ?_⟩
   have := World.ownsRow.cells (base := B) h (g := g) rfl _ _ (encC_get E hx hu)
   have e : (⟨g, 0, none⟩ : Addr).add (i * k + j) = ⟨g, 0 + i * k + j, none⟩ := by unfold Addr.add; split <;> simp_all
   rwa [e] at this
theorem run_appO (E : ElT P e k enc) (st ty : TypeId) (hst : P.underlying st = some (.slice e)) (h : OwnR e k enc B w v l) (g : Nat) (y : α) (c : Nat) (hg : row? w g = some (enc y)) (hlen : l.length < 4000000) (hB : B ≤ w.heap.size) :
   ∃ v' w', (Builtin.append_ #[st, st] ty #[v, .slice (some ⟨g, 0, none⟩) 1 c]).run P w = .ok v' w' ∧ OwnR e k enc B w' v' (l ++ [y]) ∧ Below B w w' ∧ w.grownBy w' v.ownBlock ∧ (v'.ownBlock = v.ownBlock ∨ v'.ownBlock = some w.heap.size) := by
 obtain ⟨i0, hi, hz0, hz1, hz2⟩ := info_parts E.info
 obtain ⟨v', w', hr, h2, h3, h4⟩ := run_append_own2 (P := P) w B st ty e i0 E.zero k E.bytes hst hi hz0 hz1 hz2 E.zc E.pos v l.length (encC enc l) h ⟨g, 0, none⟩ 1 c (by decide) (enc y).toList (by rw [Array.length_toList, E.size, Nat.one_mul])
   (fun j u hj => by
     have : (⟨g, 0, none⟩ : Addr).add j = ⟨g, j, none⟩ := by unfold Addr.add; split <;> simp_all
     rw [this, cell?_row hg]
     simpa using hj) (E.one y) (by unfold maxLen; omega) (by
       have := E.small
       refine Nat.le_trans (Nat.mul_le_mul (Nat.succ_le_of_lt hlen) this) (by decide)) hB
 refine ⟨v', w', hr, ?_, (Below.refl B w).grown h3 hB h.block, h3, h4⟩
 unfold OwnR
 rw [List.length_append, encC_append, encC_one]
 exact h2
theorem wp_appO {o : Oper} {a : Act} {K : Act → World → Prop} {Q : Exit → Act → World → Prop} (E : ElT P e k enc) (st : TypeId) (hst : P.underlying st = some (.slice e)) (s x : Operand)
   (ho : o.op = .call { callee := .builtin .append, args := #[s, x], argTypes := #[st, st] }) (B : Nat) (v : Value) (l : List α) (hs : a.eval s = v) (hown : OwnR e k enc B w v l)
   (g : Nat) (y : α) (c : Nat) (hx : a.eval x = .slice (some ⟨g, 0, none⟩) 1 c) (hg : row? w g = some (enc y)) (hlen : l.length < 4000000) (hB : B ≤ w.heap.size)
   (h : ∀ v' w', OwnR e k enc B w' v' (l ++ [y]) → Below B w w' → w.grownBy w' v.ownBlock → (v'.ownBlock = v.ownBlock ∨ v'.ownBlock = some w.heap.size) → K (a.put o.dst v') w') : o.wp P a w K Q := by
 obtain ⟨v', w', hr, h2, h3, h4, h5⟩ := run_appO E st o.type hst hown g y c hg hlen hB
 unfold Oper.wp execOp
 simp only [ho, resolve, invoke, builtin, Sem.run_bind, Sem.run_pure, Result.andThen_ok, List.map_toArray, List.map_cons, List.map_nil, hs, hx, hr]
 exact h v' w' h2 h3 h4 h5
theorem wpList_appO {ops : Array Oper} {rest : List Oper} {o : Oper} {a : Act} {Q : Exit → Act → World → Prop} (E : ElT P e k enc) (st : TypeId) (hst : P.underlying st = some (.slice e)) (hgd : o.guard = none) (s x : Operand)
   (ho : o.op = .call { callee := .builtin .append, args := #[s, x], argTypes := #[st, st] }) (B : Nat) (v : Value) (l : List α) (hs : a.eval s = v) (hown : OwnR e k enc B w v l)
   (g : Nat) (y : α) (c : Nat) (hx : a.eval x = .slice (some ⟨g, 0, none⟩) 1 c) (hg : row? w g = some (enc y)) (hlen : l.length < 4000000) (hB : B ≤ w.heap.size)
   (h : ∀ v' w', OwnR e k enc B w' v' (l ++ [y]) → Below B w w' → w.grownBy w' v.ownBlock → (v'.ownBlock = v.ownBlock ∨ v'.ownBlock = some w.heap.size) → wpList P ops Q rest (a.put o.dst v') w') : wpList P ops Q (o :: rest) a w :=
 wpList_plain hgd fun _ hK => wp_appO E st hst s x ho B v l hs hown g y c hx hg hlen hB fun v' w' h1 h2 h3 h4 => hK _ _ (h v' w' h1 h2 h3 h4)
end
section
variable {α : Type} {P : Program} {e : TypeId} {k : Nat} {enc : α → Array Value}
end
structure Ext (w w' : World) : Prop where
 below : Below w.heap.size w w'
 drawn : w.drawn ≤ w'.drawn
theorem Ext.refl (w : World) : Ext w w := ⟨Below.refl _ _, Nat.le_refl _⟩
theorem Ext.trans {a b c : World} (h : Ext a b) (k : Ext b c) : Ext a c := ⟨h.below.trans (k.below.mono h.below.size), Nat.le_trans h.drawn k.drawn⟩
theorem Ext.alloc (w : World) (o : Obj) : Ext w (w.alloc o) := ⟨(Below.refl _ w).alloc (Nat.le_refl _) _, Nat.le_refl _⟩
theorem Ext.drew (w : World) : Ext w w.drew := ⟨(Below.refl _ w).drew, Nat.le_succ _⟩
end Go.Pal
namespace Go.Proofs.YtglnhnjmelilmaaGreatDoor
open Go Go.RowKit Go.Pal
theorem laidOutG : laidOutB Tryz.prog = true := by kernel_rfl
def CV : Cod Int Th := { key := fun n => .int .i64 n, kl := fun n => .int .i64 n, ok := InI, val := thV, dat := thD }
def endsV (e : Int × Int) : Value := .agg #[.int .i64 e.1, .int .i64 e.2]
noncomputable def CE : Cod (Int × Int) Th := { key := endsV, kl := fun e => (keyOf Tryz.prog 159 (endsV e)).getD (.bool false), ok := fun e => InI e.1 ∧ InI e.2, val := thV, dat := thD }
theorem wf_i64 {n : Int} (h : InI n) : (Lit.int .i64 n).wf = true := by
 unfold InI at h
 have h1 : IntKind.i64.min = -9223372036854775808 := by decide
 have h2 : IntKind.i64.max = 9223372036854775807 := by decide
 simp [Lit.wf, h1, h2]
 exact h
theorem goodV : CV.Good Tryz.prog 3 where
 keyed := Maps.int_keyed Tryz.underlying3
 kinj x y _ _ h := by simpa [CV] using h
 isk x _ := trivial
 keyOf x hx := Maps.keyOf_int_mk Tryz.underlying3 (wf_i64 hx)
 vinj := thV_inj
 dinj := thD_inj
theorem rowEnds : 159 < Tryz.prog.types.size := by
 have : Tryz.prog.types[159]?.isSome = true := by kernel_rfl
 exact (Array.getElem?_eq_some_iff.1 (Option.some_get this).symm).1
theorem keyedE : Maps.Keyed Tryz.prog 159 := Maps.Keyed.of_law (deep_law_laid laidOutG (m := 5) (by omega) rowEnds (by kernel_rfl) (by rw [Tryz.underlying159]))
theorem keyLitsE (e : Int × Int) (h : InI e.1 ∧ InI e.2) (d : Nat) : Tryz.prog.keyLits (d + 2) 159 [.int .i64 e.1, .int .i64 e.2] = some [.int .i64 e.1, .int .i64 e.2] := by
 have hc : Tryz.prog.cellsOf 159 = 2 := by kernel_rfl
 have hc3 : Tryz.prog.cellsOf 3 = 1 := by kernel_rfl
 unfold Program.keyLits
 rw [Tryz.underlying159]
 simp only [hc]
 simp [Program.keyLits, hc3, Tryz.underlying3, wf_i64 h.1, wf_i64 h.2]
theorem keyOfE (e : Int × Int) (h : InI e.1 ∧ InI e.2) : keyOf Tryz.prog 159 (endsV e) = some (.string (keyBytes [.int .i64 e.1, .int .i64 e.2])) := by
 have hk : Tryz.prog.keyType 159 = true := by kernel_rfl
 have hc : Tryz.prog.cellsOf 159 = 2 := by kernel_rfl
 have hn : Tryz.prog.types.size + 1 = (Tryz.prog.types.size - 1) + 2 := by have := rowEnds; omega
 have hf : (endsV e).formed Tryz.prog 159 = true := by
   unfold endsV Value.formed
   rw [Tryz.underlying159]
   simp [hc]
 unfold keyOf
 rw [Tryz.underlying159]
 simp only [hk, hf, hn]
 have hcs : (endsV e).cells.toList = [.int .i64 e.1, .int .i64 e.2] := by simp [endsV, Value.cells]
 rw [hcs, keyLitsE e h]
 rfl
theorem goodE : CE.Good Tryz.prog 159 where
 keyed := keyedE
 kinj x y hx hy h := by
   have h1 := keyOfE x hx
   have h2 := keyOfE y hy
   simp only [CE] at h
   rw [h1, h2] at h
   simp only [Option.getD_some] at h
   rw [← h] at h2
   have := keyedE.inj h1 h2
   unfold endsV at this
   simp only [Value.agg.injEq, Array.mk.injEq, List.cons.injEq, Value.int.injEq, true_and, and_true] at this
   exact Prod.ext this.1 this.2
 isk x hx := by
   simp only [CE]
   rw [keyOfE x hx]
   trivial
 keyOf x hx := by
   simp only [CE]
   rw [keyOfE x hx]
   rfl
 vinj := thV_inj
 dinj := thD_inj
structure GOk (w : World) (g bV bE : Nat) (G : Gr) : Prop where
 row : row? w g = some #[.map (some bV), .map (some bE)]
 V : Pal.Own CV Tryz.prog 3 w bV G.V
 E : Pal.Own CE Tryz.prog 159 w bE G.E
 ne : bV ≠ bE
theorem GOk.congr {w w' : World} {g bV bE : Nat} {G : Gr} (h : GOk w g bV bE G) (hg : w'.heap[g]? = w.heap[g]?) (hV : w'.heap[bV]? = w.heap[bV]?) (hE : w'.heap[bE]? = w.heap[bE]?) : GOk w' g bV bE G :=
 ⟨(row?_congr hg).trans h.row, h.V.congr hV, h.E.congr hE, h.ne⟩
theorem GOk.lt {w : World} {g bV bE : Nat} {G : Gr} (h : GOk w g bV bE G) : g < w.heap.size ∧ bV < w.heap.size ∧ bE < w.heap.size := ⟨row?_lt h.row, h.V.lt, h.E.lt⟩
theorem GOk.below {w w' : World} {g bV bE : Nat} {G : Gr} (h : GOk w g bV bE G) (hb : Below w.heap.size w w') : GOk w' g bV bE G :=
 h.congr (hb.block _ h.lt.1) (hb.block _ h.lt.2.1) (hb.block _ h.lt.2.2)
theorem GOk.gne {w : World} {g bV bE : Nat} {G : Gr} (h : GOk w g bV bE G) : g ≠ bV ∧ g ≠ bE := by
 obtain ⟨t, ht⟩ := row?_some h.row
 refine ⟨fun e => ?_, fun e => ?_⟩
 · obtain ⟨D, ⟨es, clock, h1, -⟩, -⟩ := h.V
   rw [← e, ht] at h1
   cases h1
 · obtain ⟨D, ⟨es, clock, h1, -⟩, -⟩ := h.E
   rw [← e, ht] at h1
   cases h1
theorem zeroThing (w : World) : (zeroValue 153).run Tryz.prog w = .ok (thV (0, 0)) w := by kernel_rfl
theorem Ed.pair {e : Ed} (h : e.Wf) : InI (btw e.u e.v).1 ∧ InI (btw e.u e.v).2 := by
 have h1 := h.u
 have h2 := h.v
 unfold InI at *
 unfold btw
 simp only
 omega
theorem gnew_ok (w : World) : Calls Tryz.prog 43 #[] w fun e w' => ∃ g bV bE, e = .returned (.pointer (some ⟨g, 0, none⟩)) ∧ GOk w' g bV bE Gr.none ∧ w.heap.size ≤ g ∧ w.heap.size ≤ bV ∧ w.heap.size ≤ bE ∧ Below w.heap.size w w' := by
 have hmm := @run_makeMap Tryz.prog
 go_enter Tryz.func43, Tryz.ntmps43
 go_wp2_with fail
 go_ret
 refine ⟨w.heap.size + 1 + 1, w.heap.size, w.heap.size + 1, rfl, ⟨?_, ?_, ?_, by omega⟩, by omega, Nat.le_refl _, by omega, ?_⟩
 · exact row?_alloc_at _ _ _ _ (by simp)
 · exact (Pal.Own.made w).below (((Below.refl (w.heap.size + 1) _).alloc (by simp) _).alloc (by simp) _) (by omega)
 · refine Pal.Own.below (B := w.heap.size + 1 + 1) ?_ ((Below.refl (w.heap.size + 1 + 1) _).alloc (by simp) _) (by omega)
   have := Pal.Own.made (C := CE) (P := Tryz.prog) (k := 159) (w.alloc (.map #[] 0))
   rwa [World.size_alloc] at this
 (repeat' (first | (with_reducible first | exact Below.refl _ _ | assumption | refine Below.alloc ?_ ?_ _ | refine Below.drew ?_ | refine Below.setCell ?_ ?_ _ | refine below_setRow ?_ ?_ _ | exact Nat.le_refl _) | omega | (simp; done) | (simp; omega) | (simp at *; omega)))
def edC (e : Ed) : Array Value := #[.int .i64 e.op, .int .i64 e.u, .int .i64 e.v, .int .u8 (e.lab : Int), .int .i64 e.wt]
theorem gid_any (n : Int) (w : World) : Calls Tryz.prog 138 #[.int .i64 n] w fun e w' => e = .returned (.bool (idB n)) ∧ w' = w := by
 by_cases h1 : 0 ≤ n
 · by_cases h2 : n < 1024
   · go_enter Tryz.func138, Tryz.ntmps138
     go_wp2_with fail
     go_ret
     exact ⟨by simp [idB, h1, h2], rfl⟩
   · go_enter Tryz.func138, Tryz.ntmps138
     go_wp2_with fail
     go_ret
     exact ⟨by simp [idB, h1, h2], rfl⟩
 · go_enter Tryz.func138, Tryz.ntmps138
   go_wp2_with fail
   go_ret
   exact ⟨by simp [idB]; omega, rfl⟩
theorem gheavy_any (n : Int) (w : World) : Calls Tryz.prog 141 #[.int .i64 n] w fun e w' => e = .returned (.bool (heavyB n)) ∧ w' = w := by
 by_cases h1 : n < -1048576
 · go_enter Tryz.func141, Tryz.ntmps141
   go_wp2_with fail
   go_ret
   exact ⟨by simp [heavyB, h1], rfl⟩
 · by_cases h2 : 1048576 < n
   · go_enter Tryz.func141, Tryz.ntmps141
     go_wp2_with fail
     go_ret
     exact ⟨by simp [heavyB, h2], rfl⟩
   · go_enter Tryz.func141, Tryz.ntmps141
     go_wp2_with fail
     go_ret
     exact ⟨by simp [heavyB, h1, h2], rfl⟩
theorem gpairs_any (e : Ed) (w : World) : Calls Tryz.prog 139 #[.int .i64 e.op] w fun r w' => r = .returned (.bool e.pairs) ∧ w' = w := by
 obtain ⟨n, hn⟩ : ∃ n, n = e.op := ⟨_, rfl⟩
 have hp : e.pairs = decide (n = 2 ∨ n = 3 ∨ n = 6 ∨ n = 7) := by rw [hn]; rfl
 rw [hp, ← hn]
 clear hp hn
 by_cases h1 : n = 2
 · subst h1
   go_enter Tryz.func139, Tryz.ntmps139
   go_wp2_with fail
   go_ret
   exact ⟨by simp, rfl⟩
 · by_cases h2 : n = 3
   · subst h2
     go_enter Tryz.func139, Tryz.ntmps139
     go_wp2_with fail
     go_ret
     exact ⟨by simp, rfl⟩
   · by_cases h3 : n = 6
     · subst h3
       go_enter Tryz.func139, Tryz.ntmps139
       go_wp2_with fail
       go_ret
       exact ⟨by simp, rfl⟩
     · go_enter Tryz.func139, Tryz.ntmps139
       go_wp2_with fail
       go_ret
       refine ⟨congrArg Ending.returned (congrArg Value.bool ?_), rfl⟩
       rw [Bool.eq_iff_iff]
       simp [or_assoc]
theorem gweighs_any (e : Ed) (w : World) : Calls Tryz.prog 140 #[.int .i64 e.op] w fun r w' => r = .returned (.bool e.weighs) ∧ w' = w := by
 obtain ⟨n, hn⟩ : ∃ n, n = e.op := ⟨_, rfl⟩
 have hp : e.weighs = decide (n = 0 ∨ n = 2 ∨ n = 5 ∨ n = 7) := by rw [hn]; rfl
 rw [hp, ← hn]
 clear hp hn
 by_cases h1 : n = 0
 · subst h1
   go_enter Tryz.func140, Tryz.ntmps140
   go_wp2_with fail
   go_ret
   exact ⟨by simp, rfl⟩
 · by_cases h2 : n = 2
   · subst h2
     go_enter Tryz.func140, Tryz.ntmps140
     go_wp2_with fail
     go_ret
     exact ⟨by simp, rfl⟩
   · by_cases h3 : n = 5
     · subst h3
       go_enter Tryz.func140, Tryz.ntmps140
       go_wp2_with fail
       go_ret
       exact ⟨by simp, rfl⟩
     · go_enter Tryz.func140, Tryz.ntmps140
       go_wp2_with fail
       go_ret
       refine ⟨congrArg Ending.returned (congrArg Value.bool ?_), rfl⟩
       rw [Bool.eq_iff_iff]
       simp [or_assoc]
theorem gbetween_any (u v : Int) (w : World) : Calls Tryz.prog 132 #[.int .i64 u, .int .i64 v] w fun r w' => r = .returned (endsV (btw u v)) ∧ Below w.heap.size w w' := by
 go_enter Tryz.func132, Tryz.ntmps132
 go_wp2_with fail
 all_goals
   refine ret_row w.heap.size #[.int .i64 (min u v), .int .i64 (max u v)] rfl Tryz.isAgg159 Tryz.sizeOf159 rfl rfl (by simp [go_sem] <;> omega) rfl ⟨rfl, ?_⟩
   (repeat' (first | (with_reducible first | exact Below.refl _ _ | assumption | refine Below.alloc ?_ ?_ _ | refine Below.drew ?_ | refine Below.setCell ?_ ?_ _ | refine below_setRow ?_ ?_ _ | exact Nat.le_refl _) | omega | (simp; done) | (simp; omega) | (simp at *; omega)))
theorem wrong1_any (e : Ed) (ge : Nat) (w : World) (hr : row? w ge = some (edC e)) : Calls Tryz.prog 136 #[.pointer (some ⟨ge, 0, none⟩)] w fun r w' => r = .returned (.bool (decide (e.op < 0 ∨ 8 ≤ e.op))) ∧ w' = w := by
 have k0 := cell?_row (i := 0) hr
 simp [edC] at k0
 clear hr
 by_cases h1 : e.op < 0
 · go_enter Tryz.func136, Tryz.ntmps136
   go_wp2_with fail
   go_ret
   exact ⟨by simp [h1], rfl⟩
 · go_enter Tryz.func136, Tryz.ntmps136
   go_wp2_with fail
   go_ret
   exact ⟨by simp; omega, rfl⟩
theorem wrong2_any (e : Ed) (ge : Nat) (w : World) (hr : row? w ge = some (edC e)) : Calls Tryz.prog 137 #[.pointer (some ⟨ge, 0, none⟩)] w fun r w' => r = .returned (.bool (!idB e.u || (e.pairs && !idB e.v) || (e.weighs && heavyB e.wt))) ∧ w' = w := by
 have k0 := cell?_row (i := 0) hr
 have k1 := cell?_row (i := 1) hr
 have k2 := cell?_row (i := 2) hr
 have k4 := cell?_row (i := 4) hr
 simp [edC] at k0 k1 k2 k4
 have H1 := Lib.hid fun n W => gid_any n W
 have H2 := Lib.hid fun W => gpairs_any e W
 have H3 := Lib.hid fun W => gweighs_any e W
 have H4 := Lib.hid fun n W => gheavy_any n W
 clear hr
 cases hA : idB e.u <;> cases hB : e.pairs <;> cases hC : idB e.v <;> cases hD : e.weighs <;> cases hE : heavyB e.wt
 all_goals
   go_enter Tryz.func137, Tryz.ntmps137
   go_wp2_with fail
   (repeat (first
   | (refine (H1.out _ _).mono ?_; rintro r w1 ⟨rfl, rfl⟩; go_wp2_with fail)
   | (refine (H2.out _).mono ?_; rintro r w1 ⟨rfl, rfl⟩; go_wp2_with fail)
   | (refine (H3.out _).mono ?_; rintro r w1 ⟨rfl, rfl⟩; go_wp2_with fail)
   | (refine (H4.out _ _).mono ?_; rintro r w1 ⟨rfl, rfl⟩; go_wp2_with fail)))
   go_ret
   exact ⟨rfl, rfl⟩
theorem wrong3_any (e : Ed) (ge : Nat) (w : World) (hr : row? w ge = some (edC e)) : Calls Tryz.prog 142 #[.pointer (some ⟨ge, 0, none⟩)] w fun r w' => r = .returned (.bool (e.pairs && decide (e.u = e.v))) ∧ w' = w := by
 have k0 := cell?_row (i := 0) hr
 have k1 := cell?_row (i := 1) hr
 have k2 := cell?_row (i := 2) hr
 simp [edC] at k0 k1 k2
 have H2 := Lib.hid fun W => gpairs_any e W
 clear hr
 cases hB : e.pairs <;> by_cases h1 : e.u = e.v
 all_goals
   go_enter Tryz.func142, Tryz.ntmps142
   go_wp2_with fail
   refine (H2.out _).mono ?_
   rintro r w1 ⟨rfl, rfl⟩
   go_wp2_with fail
   go_ret
   exact ⟨by simp [h1], rfl⟩
theorem wrong4_any (e : Ed) (ge : Nat) (gu : Nat) (bu : Bool) (w : World) (hr : row? w ge = some (edC e)) (hu : row? w gu = some #[.bool bu]) : Calls Tryz.prog 143 #[.pointer (some ⟨ge, 0, none⟩), .pointer (some ⟨gu, 0, none⟩)] w fun r w' => r = .returned (.bool (decide (e.op = 0) && bu)) ∧ w' = w := by
 have k0 := cell?_row (i := 0) hr
 simp [edC] at k0
 clear hr
 have ku := cell?_row (i := 0) hu
 simp at ku
 clear hu
 by_cases h1 : e.op = 0 <;> cases bu
 all_goals
   go_enter Tryz.func143, Tryz.ntmps143
   go_wp2_with fail
   go_ret
   exact ⟨by simp [h1], rfl⟩
theorem wrong5_any (e : Ed) (ge : Nat) (gu gv : Nat) (bu bv : Bool) (w : World) (hr : row? w ge = some (edC e)) (hu : row? w gu = some #[.bool bu]) (hv : row? w gv = some #[.bool bv]) : Calls Tryz.prog 144 #[.pointer (some ⟨ge, 0, none⟩), .pointer (some ⟨gu, 0, none⟩), .pointer (some ⟨gv, 0, none⟩)] w fun r w' => r = .returned (.bool ((decide (e.op ≠ 0) && !e.pairs && !bu) || (decide (e.op = 2) && !(bu && bv)))) ∧ w' = w := by
 have k0 := cell?_row (i := 0) hr
 simp [edC] at k0
 have H2 := Lib.hid fun W => gpairs_any e W
 clear hr
 have ku := cell?_row (i := 0) hu
 simp at ku
 have kv := cell?_row (i := 0) hv
 simp at kv
 clear hu hv
 by_cases h1 : e.op = 0
 · go_enter Tryz.func144, Tryz.ntmps144
   go_wp2_with fail
   go_ret
   exact ⟨by simp [h1], rfl⟩
 by_cases h2 : e.op = 2 <;> cases hB : e.pairs <;> cases bu <;> cases bv
 all_goals
   (try simp only [h2] at H2)
   go_enter Tryz.func144, Tryz.ntmps144
   go_wp2_with fail
   refine (H2.out _).mono ?_
   rintro r w1 ⟨rfl, rfl⟩
   go_wp2_with fail
   go_ret
   exact ⟨by simp [h1, h2], rfl⟩
theorem wrong6_any (e : Ed) (ge : Nat) (gd : Nat) (bd : Bool) (w : World) (hr : row? w ge = some (edC e)) (hu : row? w gd = some #[.bool bd]) : Calls Tryz.prog 145 #[.pointer (some ⟨ge, 0, none⟩), .pointer (some ⟨gd, 0, none⟩)] w fun r w' => r = .returned (.bool (e.pairs && decide (e.op ≠ 2) && !bd)) ∧ w' = w := by
 have k0 := cell?_row (i := 0) hr
 simp [edC] at k0
 have H2 := Lib.hid fun W => gpairs_any e W
 clear hr
 have ku := cell?_row (i := 0) hu
 simp at ku
 clear hu
 by_cases h1 : e.op = 2 <;> cases hB : e.pairs <;> cases bd
 all_goals
   (try simp only [h1] at H2)
   go_enter Tryz.func145, Tryz.ntmps145
   go_wp2_with fail
   refine (H2.out _).mono ?_
   rintro r w1 ⟨rfl, rfl⟩
   go_wp2_with fail
   go_ret
   exact ⟨by simp [h1], rfl⟩
theorem wrong7_any (e : Ed) (ge : Nat) (gd : Nat) (bd : Bool) (w : World) (hr : row? w ge = some (edC e)) (hu : row? w gd = some #[.bool bd]) : Calls Tryz.prog 146 #[.pointer (some ⟨ge, 0, none⟩), .pointer (some ⟨gd, 0, none⟩)] w fun r w' => r = .returned (.bool (decide (e.op = 2) && bd)) ∧ w' = w := by
 have k0 := cell?_row (i := 0) hr
 simp [edC] at k0
 clear hr
 have ku := cell?_row (i := 0) hu
 simp at ku
 clear hu
 by_cases h1 : e.op = 2 <;> cases bd
 all_goals
   go_enter Tryz.func146, Tryz.ntmps146
   go_wp2_with fail
   go_ret
   exact ⟨by simp [h1], rfl⟩
theorem wrong8_any (e : Ed) (ge gb g bV bE : Nat) (G : Gr) (w : World) (hr : row? w ge = some (edC e)) (hg : row? w gb = some #[.pointer (some ⟨g, 0, none⟩)]) (h : GOk w g bV bE G) : Calls Tryz.prog 147 #[.pointer (some ⟨ge, 0, none⟩), .pointer (some ⟨gb, 0, none⟩)] w fun r w' => r = .returned (.bool (decide (e.op = 2) && decide (1024 ≤ G.E.length))) ∧ w' = w := by
 have k0 := cell?_row (i := 0) hr
 simp [edC] at k0
 have kg := cell?_row (i := 0) hg
 simp at kg
 have kE := cell?_row (i := 1) h.row
 simp at kE
 have hlen := fun ty => h.E.len Tryz.underlying154 ty
 obtain ⟨n, hn⟩ : ∃ n, n = G.E.length := ⟨_, rfl⟩
 rw [← hn] at hlen ⊢
 clear hr hg hn h
 by_cases h1 : e.op = 2 <;> by_cases h2 : 1024 ≤ n
 all_goals
   go_enter Tryz.func147, Tryz.ntmps147
   go_wp2_with fail
   go_ret
   refine ⟨?_, rfl⟩
   first | (simp [h1, h2]; done) | (simp [h1]; omega)
@[go_sem ↓ high] theorem loadTH (a : Addr) : loadVar 153 a = loadLater 153 a := rfl
@[go_sem ↓ high] theorem storeTH (a : Addr) (v : Value) : storeVar 153 a v = storeLater 153 a v := rfl
@[go_sem] theorem loadTH_run (w : World) (a : Addr) : (loadLater 153 a).run Tryz.prog w = rowLoad Tryz.prog 153 a w := rfl
@[go_sem] theorem storeTH_run (w : World) (a : Addr) (v : Value) : (storeLater 153 a v).run Tryz.prog w = rowStore Tryz.prog 153 a v w := rfl
@[go_sem] theorem loadTH_at (w : World) (g : Nat) : rowLoad Tryz.prog 153 ⟨g, 0, none⟩ w = match row? w g with
     | some c => if c.size = 2 then .ok (.agg c) w else laterLoad Tryz.prog 153 ⟨g, 0, none⟩ w
     | none => laterLoad Tryz.prog 153 ⟨g, 0, none⟩ w := load_row Tryz.isAgg153 Tryz.sizeOf153 w g
@[go_sem] theorem storeTH_at (w : World) (g : Nat) (d : Array Value) : rowStore Tryz.prog 153 ⟨g, 0, none⟩ (.agg d) w = match row? w g with
     | some c => if c.size = 2 ∧ d.size = 2 ∧ allOne d = true then .ok () (w.setRow g d) else laterStore Tryz.prog 153 ⟨g, 0, none⟩ (.agg d) w
     | none => laterStore Tryz.prog 153 ⟨g, 0, none⟩ (.agg d) w := store_row Tryz.sizeOf153 w g d
@[go_sem ↓ high] theorem zeroTH (w : World) : (zeroValue 153).run Tryz.prog w = .ok (.agg #[.int .u8 0, .int .i64 0]) w := by kernel_rfl
@[go_sem] theorem allOne_th (a b : Int) (p q : IntKind) : allOne #[.int p a, .int q b] = true := by unfold allOne; simp [Value.oneCell']
@[go_sem] theorem run_storeFuncG (P : Program) (w : World) (a : Addr) (m : Mode) (fn : Fn) (first captured : Array Value) : (store a (.func fn first captured) m).run P w = stored P w a (.func fn first captured) m := run_store P w a _ m rfl
theorem alloc_row {w w' : World} {c : Array Value} {t : TypeId} (h : w.alloc (.cells c t) = w') : row? w' w.heap.size = some c ∧ Below w.heap.size w w' := by
 rw [← h]
 exact ⟨row?_alloc_at _ _ _ _ rfl, (Below.refl _ w).alloc (Nat.le_refl _) _⟩
set_option maxRecDepth 20000 in
theorem gwrong_any (e : Ed) (he : e.Wf) (g bV bE : Nat) (G : Gr) (w : World) (h : GOk w g bV bE G) : Calls Tryz.prog 88 #[.pointer (some ⟨g, 0, none⟩), .agg (edC e)] w fun r w' => r = .returned (.int .i64 (G.wrong e : Int)) ∧ Below w.heap.size w w' := by
 have H0 := Lib.hid h
 have HE := Lib.hid he
 obtain ⟨U, hU⟩ : ∃ U, U = e.u := ⟨_, rfl⟩
 obtain ⟨V, hV⟩ : ∃ V, V = e.v := ⟨_, rfl⟩
 have hed : edC e = #[.int .i64 e.op, .int .i64 U, .int .i64 V, .int .u8 (e.lab : Int), .int .i64 e.wt] := by rw [hU, hV]; rfl
 have hLU : ∀ W, Below w.heap.size w W → (Instr.lookup 151 (.map (some bV)) (.int .i64 U) true).run Tryz.prog W = .ok (.tuple #[thV ((Pal.look G.V U).getD (0, 0)), .bool (Pal.look G.V U).isSome]) W :=
   fun W hb => by rw [hU]; exact (H0.out.below hb).V.look_ok goodV Tryz.underlying151 zeroThing HE.out.u
 have hLV : ∀ W, Below w.heap.size w W → (Instr.lookup 151 (.map (some bV)) (.int .i64 V) true).run Tryz.prog W = .ok (.tuple #[thV ((Pal.look G.V V).getD (0, 0)), .bool (Pal.look G.V V).isSome]) W :=
   fun W hb => by rw [hV]; exact (H0.out.below hb).V.look_ok goodV Tryz.underlying151 zeroThing HE.out.v
 have hLE : ∀ W, Below w.heap.size w W → (Instr.lookup 154 (.map (some bE)) (endsV (btw U V)) true).run Tryz.prog W = .ok (.tuple #[thV ((Pal.look G.E (btw U V)).getD (0, 0)), .bool (Pal.look G.E (btw U V)).isSome]) W :=
   fun W hb => by rw [hU, hV]; exact (H0.out.below hb).E.look_ok goodE Tryz.underlying154 zeroThing (Ed.pair HE.out)
 obtain ⟨tu, htu⟩ : ∃ tu, tu = (Pal.look G.V U).getD (0, 0) := ⟨_, rfl⟩
 obtain ⟨tv, htv⟩ : ∃ tv, tv = (Pal.look G.V V).getD (0, 0) := ⟨_, rfl⟩
 obtain ⟨te, hte⟩ : ∃ te, te = (Pal.look G.E (btw U V)).getD (0, 0) := ⟨_, rfl⟩
 obtain ⟨bu, hbu⟩ : ∃ b, b = (Pal.look G.V U).isSome := ⟨_, rfl⟩
 obtain ⟨bv, hbv⟩ : ∃ b, b = (Pal.look G.V V).isSome := ⟨_, rfl⟩
 obtain ⟨be, hbe⟩ : ∃ b, b = (Pal.look G.E (btw U V)).isSome := ⟨_, rfl⟩
 rw [← htu, ← hbu] at hLU
 rw [← htv, ← hbv] at hLV
 rw [← hte, ← hbe] at hLE
 unfold thV at hLU hLV hLE
 have HLU := Lib.hid hLU
 have HLV := Lib.hid hLV
 have HLE := Lib.hid hLE
 have HB := Lib.hid (And.intro hbu (And.intro hbv hbe))
 have HUV := Lib.hid (And.intro hU hV)
 have hgl := h.lt
 rw [hed]
 clear hLU hLV hLE htu htv hte hbu hbv hbe hU hV hed he h
 go_enter Tryz.func88, Tryz.ntmps88
 go_wp2_with fail
 obtain ⟨W0, hW0⟩ : ∃ W0, W0 = (w.alloc (Obj.cells #[.pointer (some ⟨g, 0, none⟩)] 38)).alloc (Obj.cells #[.int .i64 e.op, .int .i64 U, .int .i64 V, .int .u8 (e.lab : Int), .int .i64 e.wt] 23) := ⟨_, rfl⟩
 have hB0 : Below w.heap.size w W0 := by
   rw [hW0]
   (repeat' (first | (with_reducible first | exact Below.refl _ _ | assumption | refine Below.alloc ?_ ?_ _ | refine Below.drew ?_ | refine Below.setCell ?_ ?_ _ | refine below_setRow ?_ ?_ _ | exact Nat.le_refl _) | omega | (simp; done) | (simp; omega) | (simp at *; omega)))
 have hrb : row? W0 w.heap.size = some #[.pointer (some ⟨g, 0, none⟩)] := by
   rw [hW0, row?_alloc_past _ _ _ (by simp)]
   exact row?_alloc_at _ _ _ _ rfl
 have hre : row? W0 (w.heap.size + 1) = some (edC e) := by
   rw [hW0, show edC e = #[.int .i64 e.op, .int .i64 U, .int .i64 V, .int .u8 (e.lab : Int), .int .i64 e.wt] by rw [HUV.out.1, HUV.out.2]; rfl]
   exact row?_alloc_at _ _ _ _ (by simp)
 have hs0 : w.heap.size + 1 < W0.heap.size := by rw [hW0]; simp
 rw [← hW0]
 have HR := Lib.hid fun W (hb : Below W0.heap.size W0 W) => show W.cell? ⟨w.heap.size, 0, none⟩ = some (.pointer (some ⟨g, 0, none⟩)) ∧ W.cell? ⟨g, 0, none⟩ = some (.map (some bV)) ∧ W.cell? ⟨g, 1, none⟩ = some (.map (some bE)) ∧ W.cell? ⟨w.heap.size + 1, 1, none⟩ = some (.int .i64 U) ∧ W.cell? ⟨w.heap.size + 1, 2, none⟩ = some (.int .i64 V) from
   ⟨(cell?_row (i := 0) ((row?_below hb (by omega)).trans hrb)).trans rfl, (cell?_row (i := 0) ((row?_below hb (by omega)).trans (H0.out.below hB0).row)).trans rfl, (cell?_row (i := 1) ((row?_below hb (by omega)).trans (H0.out.below hB0).row)).trans rfl,
     (cell?_row (i := 1) ((row?_below hb (by omega)).trans hre)).trans (by rw [HUV.out.1]; rfl), (cell?_row (i := 2) ((row?_below hb (by omega)).trans hre)).trans (by rw [HUV.out.2]; rfl)⟩
 have HB0 := Lib.hid hB0
 have HRE := Lib.hid hre
 have HRB := Lib.hid hrb
 clear hW0 hB0 hre hrb
 refine wp_region_cut2 (fun W => Below W0.heap.size W0 W) 13 (.read 0 (.read 1 (.read 2 (.read 3 (.read 4 (.read 5 (.read 6 (.read 7 (.read 8 (.read 9 (.fork 10 11 (.act 11 (.act 12 .done)) (.act 10 (.act 12 .done)))))))))))))
   (fun _ b W => row? W b = some #[.bool bu] ∧ W0.heap.size ≤ b ∧ Below W0.heap.size W0 W) (by kernel_rfl) (by kernel_rfl) (Below.refl _ _).drew ?_
 apply Exists.intro
 constructor
 · (repeat (apply wpPlanT_still rfl rfl; (intro w hw; obtain ⟨k1, k2, -, k3, -⟩ := HR.out w hw; have kl := HLU.out w (HB0.out.trans (hw.mono HB0.out.size)); clear hw; go_simp; (try go_ints); (first | with_reducible rfl | (go_simp; with_reducible rfl))); (intro K hK; go_simp; (try go_ints); refine hK _ _ ?_; clear hK K)))
   have hbc : Below W0.heap.size W0 W0.drew := (Below.refl _ W0).drew
   refine wpPlanT_fork ?_ ?_
   · refine wpPlanT_alloc #[.int .u8 0, .int .i64 0] 153 rfl rfl (by intro W; go_simp) ?_
     intro p wn hp hpl hpu hbn
     have hpB : W0.heap.size ≤ p := Nat.le_trans hbc.size hpl
     have hbc := hbc.trans (hbn.mono hbc.size)
     refine ⟨hbc, ?_⟩
     intro K hK; go_simp; refine hK _ _ ?_; clear hK K
     refine wpPlanT_alloc #[.bool false] 4 rfl rfl (by intro W; go_simp) ?_
     intro q wm hq hql hqu hbm
     have hqB : W0.heap.size ≤ q := Nat.le_trans hbc.size hql
     have hbc := hbc.trans (hbm.mono hbc.size)
     refine ⟨hbc, ?_⟩
     intro K hK; go_simp; refine hK _ _ ?_; clear hK K
     have hp := (row?_below hbm hpu).trans hp
     have hpq : ¬ q = p := by omega
     apply wpPlanT_act rfl rfl
     intro K hK
     unfold Oper.wp
     go_simp
     obtain ⟨w4, hw4⟩ : ∃ w4, w4 = World.setRow wm p #[.int .u8 (tu.1 : Int), .int .i64 tu.2] := ⟨_, rfl⟩
     rw [← hw4]
     have hb4 : Below W0.heap.size W0 w4 := by rw [hw4]; exact below_setRow hbc hpB _
     have hq4 : row? w4 q = some #[.bool false] := by rw [hw4, row?_setRow_other _ _ _ _ hpq]; exact hq
     refine hK _ _ hb4 ?_
     have k := cell?_row (i := 0) hq4
     simp at k
     have hf := frozen?_row (i := 0) hq4
     have HQ4 := Lib.hid hq4
     clear hK K hw4 hp hq hpq hq4
     refine wpPlanT_done ?_
     simp only [List.drop_succ_cons, List.drop_zero]
     go_wp2_with fail
     refine ⟨p, q, ?_, ?_, hqB, ?_⟩
     · first | with_reducible rfl | exact ⟨rfl, rfl⟩
     · rw [row?_setCell_same, HQ4.out]; rfl
     · (repeat' (first | (with_reducible first | exact Below.refl _ _ | assumption | refine Below.alloc ?_ ?_ _ | refine Below.drew ?_ | refine Below.setCell ?_ ?_ _ | refine below_setRow ?_ ?_ _ | exact Nat.le_refl _) | omega | (simp; done) | (simp; omega) | (simp at *; omega)))
   · refine wpPlanT_alloc #[.bool false] 4 rfl rfl (by intro W; go_simp) ?_
     intro q wm hq hql hqu hbm
     have hqB : W0.heap.size ≤ q := Nat.le_trans hbc.size hql
     have hbc := hbc.trans (hbm.mono hbc.size)
     refine ⟨hbc, ?_⟩
     intro K hK; go_simp; refine hK _ _ ?_; clear hK K
     refine wpPlanT_alloc #[.int .u8 0, .int .i64 0] 153 rfl rfl (by intro W; go_simp) ?_
     intro p wn hp hpl hpu hbn
     have hpB : W0.heap.size ≤ p := Nat.le_trans hbc.size hpl
     have hbc := hbc.trans (hbn.mono hbc.size)
     refine ⟨hbc, ?_⟩
     intro K hK; go_simp; refine hK _ _ ?_; clear hK K
     have hq := (row?_below hbn hqu).trans hq
     have hpq : ¬ q = p := by omega
     apply wpPlanT_act rfl rfl
     intro K hK
     unfold Oper.wp
     go_simp
     obtain ⟨w4, hw4⟩ : ∃ w4, w4 = World.setRow wn p #[.int .u8 (tu.1 : Int), .int .i64 tu.2] := ⟨_, rfl⟩
     rw [← hw4]
     have hb4 : Below W0.heap.size W0 w4 := by rw [hw4]; exact below_setRow hbc hpB _
     have hq4 : row? w4 q = some #[.bool false] := by rw [hw4, row?_setRow_other _ _ _ _ hpq]; exact hq
     refine hK _ _ hb4 ?_
     have k := cell?_row (i := 0) hq4
     simp at k
     have hf := frozen?_row (i := 0) hq4
     have HQ4 := Lib.hid hq4
     clear hK K hw4 hp hq hpq hq4
     refine wpPlanT_done ?_
     simp only [List.drop_succ_cons, List.drop_zero]
     go_wp2_with fail
     refine ⟨p, q, ?_, ?_, hqB, ?_⟩
     · first | with_reducible rfl | exact ⟨rfl, rfl⟩
     · rw [row?_setCell_same, HQ4.out]; rfl
     · (repeat' (first | (with_reducible first | exact Below.refl _ _ | assumption | refine Below.alloc ?_ ?_ _ | refine Below.drew ?_ | refine Below.setCell ?_ ?_ _ | refine below_setRow ?_ ?_ _ | exact Nat.le_refl _) | omega | (simp; done) | (simp; omega) | (simp at *; omega)))
 intro p5 b6 W1 ⟨hr6, hb6, hb1⟩
 have HB1 := Lib.hid hb1
 have hr6l := row?_lt hr6
 have HR6 := Lib.hid hr6
 have hs1 := hb1.size
 clear HLU hr6 hb1
 go_wp2_with fail
 refine wp_region_cut2 (fun W => Below W1.heap.size W1 W) 13 (.read 0 (.read 1 (.read 2 (.read 3 (.read 4 (.read 5 (.read 6 (.read 7 (.read 8 (.read 9 (.fork 10 11 (.act 11 (.act 12 .done)) (.act 10 (.act 12 .done)))))))))))))
   (fun _ b W => row? W b = some #[.bool bv] ∧ W1.heap.size ≤ b ∧ Below W1.heap.size W1 W) (by kernel_rfl) (by kernel_rfl) (Below.refl _ _).drew ?_
 apply Exists.intro
 constructor
 · (repeat (apply wpPlanT_still rfl rfl; (intro w hw; have hw0 := HB1.out.trans (hw.mono HB1.out.size); obtain ⟨k1, k2, -, -, k3⟩ := HR.out w hw0; have kl := HLV.out w (HB0.out.trans (hw0.mono HB0.out.size)); clear hw hw0; go_simp; (try go_ints); (first | with_reducible rfl | (go_simp; with_reducible rfl))); (intro K hK; go_simp; (try go_ints); refine hK _ _ ?_; clear hK K)))
   have hbc : Below W1.heap.size W1 W1.drew := (Below.refl _ W1).drew
   refine wpPlanT_fork ?_ ?_
   · refine wpPlanT_alloc #[.int .u8 0, .int .i64 0] 153 rfl rfl (by intro W; go_simp) ?_
     intro p wn hp hpl hpu hbn
     have hpB : W1.heap.size ≤ p := Nat.le_trans hbc.size hpl
     have hbc := hbc.trans (hbn.mono hbc.size)
     refine ⟨hbc, ?_⟩
     intro K hK; go_simp; refine hK _ _ ?_; clear hK K
     refine wpPlanT_alloc #[.bool false] 4 rfl rfl (by intro W; go_simp) ?_
     intro q wm hq hql hqu hbm
     have hqB : W1.heap.size ≤ q := Nat.le_trans hbc.size hql
     have hbc := hbc.trans (hbm.mono hbc.size)
     refine ⟨hbc, ?_⟩
     intro K hK; go_simp; refine hK _ _ ?_; clear hK K
     have hp := (row?_below hbm hpu).trans hp
     have hpq : ¬ q = p := by omega
     apply wpPlanT_act rfl rfl
     intro K hK
     unfold Oper.wp
     go_simp
     obtain ⟨w4, hw4⟩ : ∃ w4, w4 = World.setRow wm p #[.int .u8 (tv.1 : Int), .int .i64 tv.2] := ⟨_, rfl⟩
     rw [← hw4]
     have hb4 : Below W1.heap.size W1 w4 := by rw [hw4]; exact below_setRow hbc hpB _
     have hq4 : row? w4 q = some #[.bool false] := by rw [hw4, row?_setRow_other _ _ _ _ hpq]; exact hq
     refine hK _ _ hb4 ?_
     have k := cell?_row (i := 0) hq4
     simp at k
     have hf := frozen?_row (i := 0) hq4
     have HQ4 := Lib.hid hq4
     clear hK K hw4 hp hq hpq hq4
     refine wpPlanT_done ?_
     simp only [List.drop_succ_cons, List.drop_zero]
     go_wp2_with fail
     refine ⟨p, q, ?_, ?_, hqB, ?_⟩
     · first | with_reducible rfl | exact ⟨rfl, rfl⟩
     · rw [row?_setCell_same, HQ4.out]; rfl
     · (repeat' (first | (with_reducible first | exact Below.refl _ _ | assumption | refine Below.alloc ?_ ?_ _ | refine Below.drew ?_ | refine Below.setCell ?_ ?_ _ | refine below_setRow ?_ ?_ _ | exact Nat.le_refl _) | omega | (simp; done) | (simp; omega) | (simp at *; omega)))
   · refine wpPlanT_alloc #[.bool false] 4 rfl rfl (by intro W; go_simp) ?_
     intro q wm hq hql hqu hbm
     have hqB : W1.heap.size ≤ q := Nat.le_trans hbc.size hql
     have hbc := hbc.trans (hbm.mono hbc.size)
     refine ⟨hbc, ?_⟩
     intro K hK; go_simp; refine hK _ _ ?_; clear hK K
     refine wpPlanT_alloc #[.int .u8 0, .int .i64 0] 153 rfl rfl (by intro W; go_simp) ?_
     intro p wn hp hpl hpu hbn
     have hpB : W1.heap.size ≤ p := Nat.le_trans hbc.size hpl
     have hbc := hbc.trans (hbn.mono hbc.size)
     refine ⟨hbc, ?_⟩
     intro K hK; go_simp; refine hK _ _ ?_; clear hK K
     have hq := (row?_below hbn hqu).trans hq
     have hpq : ¬ q = p := by omega
     apply wpPlanT_act rfl rfl
     intro K hK
     unfold Oper.wp
     go_simp
     obtain ⟨w4, hw4⟩ : ∃ w4, w4 = World.setRow wn p #[.int .u8 (tv.1 : Int), .int .i64 tv.2] := ⟨_, rfl⟩
     rw [← hw4]
     have hb4 : Below W1.heap.size W1 w4 := by rw [hw4]; exact below_setRow hbc hpB _
     have hq4 : row? w4 q = some #[.bool false] := by rw [hw4, row?_setRow_other _ _ _ _ hpq]; exact hq
     refine hK _ _ hb4 ?_
     have k := cell?_row (i := 0) hq4
     simp at k
     have hf := frozen?_row (i := 0) hq4
     have HQ4 := Lib.hid hq4
     clear hK K hw4 hp hq hpq hq4
     refine wpPlanT_done ?_
     simp only [List.drop_succ_cons, List.drop_zero]
     go_wp2_with fail
     refine ⟨p, q, ?_, ?_, hqB, ?_⟩
     · first | with_reducible rfl | exact ⟨rfl, rfl⟩
     · rw [row?_setCell_same, HQ4.out]; rfl
     · (repeat' (first | (with_reducible first | exact Below.refl _ _ | assumption | refine Below.alloc ?_ ?_ _ | refine Below.drew ?_ | refine Below.setCell ?_ ?_ _ | refine below_setRow ?_ ?_ _ | exact Nat.le_refl _) | omega | (simp; done) | (simp; omega) | (simp at *; omega)))
 intro p7 b8 W2 ⟨hr8, hb8, hb2⟩
 have HB2 := Lib.hid hb2
 have hr8l := row?_lt hr8
 have HR8 := Lib.hid hr8
 have hs2 := hb2.size
 clear HLV hr8 hb2
 go_wp2_with fail
 have HBT := Lib.hid fun W => gbetween_any U V W
 refine wp_region_cut2 (fun W => Below W2.heap.size W2 W) 16 (.read 0 (.read 1 (.read 2 (.read 3 (.read 4 (.read 5 (.read 6 (.read 7 (.fork3 8 13 14 (.read 9 (.read 10 (.read 11 (.read 12 (.fork 13 14 (.act 14 (.act 15 .done)) (.act 13 (.act 15 .done))))))) (.fork 8 14 (.read 9 (.read 10 (.read 11 (.read 12 (.act 14 (.act 15 .done)))))) (.act 8 (.read 9 (.read 10 (.read 11 (.read 12 (.act 15 .done))))))) (.fork 8 13 (.read 9 (.read 10 (.read 11 (.read 12 (.act 13 (.act 15 .done)))))) (.act 8 (.read 9 (.read 10 (.read 11 (.read 12 (.act 15 .done))))))))))))))))
   (fun _ b W => row? W b = some #[.bool be] ∧ W2.heap.size ≤ b ∧ Below W2.heap.size W2 W) (by kernel_rfl) (by kernel_rfl) (Below.refl _ _).drew ?_
 apply Exists.intro
 constructor
 · (repeat (apply wpPlanT_still rfl rfl; (intro w hw; obtain ⟨k1, -, k2, k3, k4⟩ := HR.out w (HB1.out.trans ((HB2.out.trans (hw.mono HB2.out.size)).mono HB1.out.size)); clear hw; go_simp; (try go_ints); (first | with_reducible rfl | (go_simp; with_reducible rfl))); (intro K hK; go_simp; (try go_ints); refine hK _ _ ?_; clear hK K)))
   have hbc : Below W2.heap.size W2 W2.drew := (Below.refl _ W2).drew
   refine wpPlanT_fork3 ?_ ?_ ?_
   · apply wpPlanT_act rfl rfl
     intro K hK
     unfold Oper.wp
     go_simp
     refine (HBT.out _).mono ?_
     rintro e w' ⟨rfl, hbw⟩
     have hbc := hbc.trans (hbw.mono hbc.size)
     refine hK _ _ hbc ?_
     clear hK K
     (repeat (apply wpPlanT_still rfl rfl; (intro w hw; have kl := HLE.out w (HB0.out.trans ((HB1.out.trans ((HB2.out.trans (hw.mono HB2.out.size)).mono HB1.out.size)).mono HB0.out.size)); clear hw; go_simp; (try go_ints); (first | with_reducible rfl | (go_simp; with_reducible rfl))); (intro K hK; go_simp; (try go_ints); refine hK _ _ ?_; clear hK K)))
     refine wpPlanT_fork ?_ ?_
     · refine wpPlanT_alloc #[.int .u8 0, .int .i64 0] 153 rfl rfl (by intro W; go_simp) ?_
       intro p wn hp hpl hpu hbn
       have hpB : W2.heap.size ≤ p := Nat.le_trans hbc.size hpl
       have hbc := hbc.trans (hbn.mono hbc.size)
       refine ⟨hbc, ?_⟩
       intro K hK; go_simp; refine hK _ _ ?_; clear hK K
       refine wpPlanT_alloc #[.bool false] 4 rfl rfl (by intro W; go_simp) ?_
       intro q wm hq hql hqu hbm
       have hqB : W2.heap.size ≤ q := Nat.le_trans hbc.size hql
       have hbc := hbc.trans (hbm.mono hbc.size)
       refine ⟨hbc, ?_⟩
       intro K hK; go_simp; refine hK _ _ ?_; clear hK K
       have hp := (row?_below hbm hpu).trans hp
       have hpu := Nat.lt_of_lt_of_le hpu hbm.size
       have hpq : ¬ q = p := by omega
       apply wpPlanT_act rfl rfl
       intro K hK
       unfold Oper.wp
       go_simp
       obtain ⟨w4, hw4⟩ : ∃ w4, w4 = World.setRow wm p #[.int .u8 (te.1 : Int), .int .i64 te.2] := ⟨_, rfl⟩
       rw [← hw4]
       have hb4 : Below W2.heap.size W2 w4 := by rw [hw4]; exact below_setRow hbc hpB _
       have hq4 : row? w4 q = some #[.bool false] := by rw [hw4, row?_setRow_other _ _ _ _ hpq]; exact hq
       refine hK _ _ hb4 ?_
       have k := cell?_row (i := 0) hq4
       simp at k
       have hf := frozen?_row (i := 0) hq4
       have HQ4 := Lib.hid hq4
       clear hK K hw4 hp hq hpq hq4
       refine wpPlanT_done ?_
       simp only [List.drop_succ_cons, List.drop_zero]
       go_wp2_with fail
       refine ⟨p, q, ?_, ?_, hqB, ?_⟩
       · first | with_reducible rfl | exact ⟨rfl, rfl⟩
       · rw [row?_setCell_same, HQ4.out]; rfl
       · (repeat' (first | (with_reducible first | exact Below.refl _ _ | assumption | refine Below.alloc ?_ ?_ _ | refine Below.drew ?_ | refine Below.setCell ?_ ?_ _ | refine below_setRow ?_ ?_ _ | exact Nat.le_refl _) | omega | (simp; done) | (simp; omega) | (simp at *; omega)))
     · refine wpPlanT_alloc #[.bool false] 4 rfl rfl (by intro W; go_simp) ?_
       intro q wm hq hql hqu hbm
       have hqB : W2.heap.size ≤ q := Nat.le_trans hbc.size hql
       have hbc := hbc.trans (hbm.mono hbc.size)
       refine ⟨hbc, ?_⟩
       intro K hK; go_simp; refine hK _ _ ?_; clear hK K
       refine wpPlanT_alloc #[.int .u8 0, .int .i64 0] 153 rfl rfl (by intro W; go_simp) ?_
       intro p wn hp hpl hpu hbn
       have hpB : W2.heap.size ≤ p := Nat.le_trans hbc.size hpl
       have hbc := hbc.trans (hbn.mono hbc.size)
       refine ⟨hbc, ?_⟩
       intro K hK; go_simp; refine hK _ _ ?_; clear hK K
       have hq := (row?_below hbn hqu).trans hq
       have hqu := Nat.lt_of_lt_of_le hqu hbn.size
       have hpq : ¬ q = p := by omega
       apply wpPlanT_act rfl rfl
       intro K hK
       unfold Oper.wp
       go_simp
       obtain ⟨w4, hw4⟩ : ∃ w4, w4 = World.setRow wn p #[.int .u8 (te.1 : Int), .int .i64 te.2] := ⟨_, rfl⟩
       rw [← hw4]
       have hb4 : Below W2.heap.size W2 w4 := by rw [hw4]; exact below_setRow hbc hpB _
       have hq4 : row? w4 q = some #[.bool false] := by rw [hw4, row?_setRow_other _ _ _ _ hpq]; exact hq
       refine hK _ _ hb4 ?_
       have k := cell?_row (i := 0) hq4
       simp at k
       have hf := frozen?_row (i := 0) hq4
       have HQ4 := Lib.hid hq4
       clear hK K hw4 hp hq hpq hq4
       refine wpPlanT_done ?_
       simp only [List.drop_succ_cons, List.drop_zero]
       go_wp2_with fail
       refine ⟨p, q, ?_, ?_, hqB, ?_⟩
       · first | with_reducible rfl | exact ⟨rfl, rfl⟩
       · rw [row?_setCell_same, HQ4.out]; rfl
       · (repeat' (first | (with_reducible first | exact Below.refl _ _ | assumption | refine Below.alloc ?_ ?_ _ | refine Below.drew ?_ | refine Below.setCell ?_ ?_ _ | refine below_setRow ?_ ?_ _ | exact Nat.le_refl _) | omega | (simp; done) | (simp; omega) | (simp at *; omega)))
   · refine wpPlanT_alloc #[.int .u8 0, .int .i64 0] 153 rfl rfl (by intro W; go_simp) ?_
     intro p wn hp hpl hpu hbn
     have hpB : W2.heap.size ≤ p := Nat.le_trans hbc.size hpl
     have hbc := hbc.trans (hbn.mono hbc.size)
     refine ⟨hbc, ?_⟩
     intro K hK; go_simp; refine hK _ _ ?_; clear hK K
     refine wpPlanT_fork ?_ ?_
     · apply wpPlanT_act rfl rfl
       intro K hK
       unfold Oper.wp
       go_simp
       refine (HBT.out _).mono ?_
       rintro e w' ⟨rfl, hbw⟩
       have hbc := hbc.trans (hbw.mono hbc.size)
       refine hK _ _ hbc ?_
       clear hK K
       have hp := (row?_below hbw hpu).trans hp
       have hpu := Nat.lt_of_lt_of_le hpu hbw.size
       (repeat (apply wpPlanT_still rfl rfl; (intro w hw; have kl := HLE.out w (HB0.out.trans ((HB1.out.trans ((HB2.out.trans (hw.mono HB2.out.size)).mono HB1.out.size)).mono HB0.out.size)); clear hw; go_simp; (try go_ints); (first | with_reducible rfl | (go_simp; with_reducible rfl))); (intro K hK; go_simp; (try go_ints); refine hK _ _ ?_; clear hK K)))
       refine wpPlanT_alloc #[.bool false] 4 rfl rfl (by intro W; go_simp) ?_
       intro q wm hq hql hqu hbm
       have hqB : W2.heap.size ≤ q := Nat.le_trans hbc.size hql
       have hbc := hbc.trans (hbm.mono hbc.size)
       refine ⟨hbc, ?_⟩
       intro K hK; go_simp; refine hK _ _ ?_; clear hK K
       have hp := (row?_below hbm hpu).trans hp
       have hpu := Nat.lt_of_lt_of_le hpu hbm.size
       have hpq : ¬ q = p := by omega
       apply wpPlanT_act rfl rfl
       intro K hK
       unfold Oper.wp
       go_simp
       obtain ⟨w4, hw4⟩ : ∃ w4, w4 = World.setRow wm p #[.int .u8 (te.1 : Int), .int .i64 te.2] := ⟨_, rfl⟩
       rw [← hw4]
       have hb4 : Below W2.heap.size W2 w4 := by rw [hw4]; exact below_setRow hbc hpB _
       have hq4 : row? w4 q = some #[.bool false] := by rw [hw4, row?_setRow_other _ _ _ _ hpq]; exact hq
       refine hK _ _ hb4 ?_
       have k := cell?_row (i := 0) hq4
       simp at k
       have hf := frozen?_row (i := 0) hq4
       have HQ4 := Lib.hid hq4
       clear hK K hw4 hp hq hpq hq4
       refine wpPlanT_done ?_
       simp only [List.drop_succ_cons, List.drop_zero]
       go_wp2_with fail
       refine ⟨p, q, ?_, ?_, hqB, ?_⟩
       · first | with_reducible rfl | exact ⟨rfl, rfl⟩
       · rw [row?_setCell_same, HQ4.out]; rfl
       · (repeat' (first | (with_reducible first | exact Below.refl _ _ | assumption | refine Below.alloc ?_ ?_ _ | refine Below.drew ?_ | refine Below.setCell ?_ ?_ _ | refine below_setRow ?_ ?_ _ | exact Nat.le_refl _) | omega | (simp; done) | (simp; omega) | (simp at *; omega)))
     · refine wpPlanT_alloc #[.bool false] 4 rfl rfl (by intro W; go_simp) ?_
       intro q wm hq hql hqu hbm
       have hqB : W2.heap.size ≤ q := Nat.le_trans hbc.size hql
       have hbc := hbc.trans (hbm.mono hbc.size)
       refine ⟨hbc, ?_⟩
       intro K hK; go_simp; refine hK _ _ ?_; clear hK K
       have hp := (row?_below hbm hpu).trans hp
       have hpu := Nat.lt_of_lt_of_le hpu hbm.size
       have hpq : ¬ q = p := by omega
       apply wpPlanT_act rfl rfl
       intro K hK
       unfold Oper.wp
       go_simp
       refine (HBT.out _).mono ?_
       rintro e w' ⟨rfl, hbw⟩
       have hbc := hbc.trans (hbw.mono hbc.size)
       refine hK _ _ hbc ?_
       clear hK K
       have hp := (row?_below hbw hpu).trans hp
       have hpu := Nat.lt_of_lt_of_le hpu hbw.size
       have hq := (row?_below hbw hqu).trans hq
       have hqu := Nat.lt_of_lt_of_le hqu hbw.size
       (repeat (apply wpPlanT_still rfl rfl; (intro w hw; have kl := HLE.out w (HB0.out.trans ((HB1.out.trans ((HB2.out.trans (hw.mono HB2.out.size)).mono HB1.out.size)).mono HB0.out.size)); clear hw; go_simp; (try go_ints); (first | with_reducible rfl | (go_simp; with_reducible rfl))); (intro K hK; go_simp; (try go_ints); refine hK _ _ ?_; clear hK K)))
       apply wpPlanT_act rfl rfl
       intro K hK
       unfold Oper.wp
       go_simp
       obtain ⟨w4, hw4⟩ : ∃ w4, w4 = World.setRow w' p #[.int .u8 (te.1 : Int), .int .i64 te.2] := ⟨_, rfl⟩
       rw [← hw4]
       have hb4 : Below W2.heap.size W2 w4 := by rw [hw4]; exact below_setRow hbc hpB _
       have hq4 : row? w4 q = some #[.bool false] := by rw [hw4, row?_setRow_other _ _ _ _ hpq]; exact hq
       refine hK _ _ hb4 ?_
       have k := cell?_row (i := 0) hq4
       simp at k
       have hf := frozen?_row (i := 0) hq4
       have HQ4 := Lib.hid hq4
       clear hK K hw4 hp hq hpq hq4
       refine wpPlanT_done ?_
       simp only [List.drop_succ_cons, List.drop_zero]
       go_wp2_with fail
       refine ⟨p, q, ?_, ?_, hqB, ?_⟩
       · first | with_reducible rfl | exact ⟨rfl, rfl⟩
       · rw [row?_setCell_same, HQ4.out]; rfl
       · (repeat' (first | (with_reducible first | exact Below.refl _ _ | assumption | refine Below.alloc ?_ ?_ _ | refine Below.drew ?_ | refine Below.setCell ?_ ?_ _ | refine below_setRow ?_ ?_ _ | exact Nat.le_refl _) | omega | (simp; done) | (simp; omega) | (simp at *; omega)))
   · refine wpPlanT_alloc #[.bool false] 4 rfl rfl (by intro W; go_simp) ?_
     intro q wm hq hql hqu hbm
     have hqB : W2.heap.size ≤ q := Nat.le_trans hbc.size hql
     have hbc := hbc.trans (hbm.mono hbc.size)
     refine ⟨hbc, ?_⟩
     intro K hK; go_simp; refine hK _ _ ?_; clear hK K
     refine wpPlanT_fork ?_ ?_
     · apply wpPlanT_act rfl rfl
       intro K hK
       unfold Oper.wp
       go_simp
       refine (HBT.out _).mono ?_
       rintro e w' ⟨rfl, hbw⟩
       have hbc := hbc.trans (hbw.mono hbc.size)
       refine hK _ _ hbc ?_
       clear hK K
       have hq := (row?_below hbw hqu).trans hq
       have hqu := Nat.lt_of_lt_of_le hqu hbw.size
       (repeat (apply wpPlanT_still rfl rfl; (intro w hw; have kl := HLE.out w (HB0.out.trans ((HB1.out.trans ((HB2.out.trans (hw.mono HB2.out.size)).mono HB1.out.size)).mono HB0.out.size)); clear hw; go_simp; (try go_ints); (first | with_reducible rfl | (go_simp; with_reducible rfl))); (intro K hK; go_simp; (try go_ints); refine hK _ _ ?_; clear hK K)))
       refine wpPlanT_alloc #[.int .u8 0, .int .i64 0] 153 rfl rfl (by intro W; go_simp) ?_
       intro p wn hp hpl hpu hbn
       have hpB : W2.heap.size ≤ p := Nat.le_trans hbc.size hpl
       have hbc := hbc.trans (hbn.mono hbc.size)
       refine ⟨hbc, ?_⟩
       intro K hK; go_simp; refine hK _ _ ?_; clear hK K
       have hq := (row?_below hbn hqu).trans hq
       have hqu := Nat.lt_of_lt_of_le hqu hbn.size
       have hpq : ¬ q = p := by omega
       apply wpPlanT_act rfl rfl
       intro K hK
       unfold Oper.wp
       go_simp
       obtain ⟨w4, hw4⟩ : ∃ w4, w4 = World.setRow wn p #[.int .u8 (te.1 : Int), .int .i64 te.2] := ⟨_, rfl⟩
       rw [← hw4]
       have hb4 : Below W2.heap.size W2 w4 := by rw [hw4]; exact below_setRow hbc hpB _
       have hq4 : row? w4 q = some #[.bool false] := by rw [hw4, row?_setRow_other _ _ _ _ hpq]; exact hq
       refine hK _ _ hb4 ?_
       have k := cell?_row (i := 0) hq4
       simp at k
       have hf := frozen?_row (i := 0) hq4
       have HQ4 := Lib.hid hq4
       clear hK K hw4 hp hq hpq hq4
       refine wpPlanT_done ?_
       simp only [List.drop_succ_cons, List.drop_zero]
       go_wp2_with fail
       refine ⟨p, q, ?_, ?_, hqB, ?_⟩
       · first | with_reducible rfl | exact ⟨rfl, rfl⟩
       · rw [row?_setCell_same, HQ4.out]; rfl
       · (repeat' (first | (with_reducible first | exact Below.refl _ _ | assumption | refine Below.alloc ?_ ?_ _ | refine Below.drew ?_ | refine Below.setCell ?_ ?_ _ | refine below_setRow ?_ ?_ _ | exact Nat.le_refl _) | omega | (simp; done) | (simp; omega) | (simp at *; omega)))
     · refine wpPlanT_alloc #[.int .u8 0, .int .i64 0] 153 rfl rfl (by intro W; go_simp) ?_
       intro p wn hp hpl hpu hbn
       have hpB : W2.heap.size ≤ p := Nat.le_trans hbc.size hpl
       have hbc := hbc.trans (hbn.mono hbc.size)
       refine ⟨hbc, ?_⟩
       intro K hK; go_simp; refine hK _ _ ?_; clear hK K
       have hq := (row?_below hbn hqu).trans hq
       have hqu := Nat.lt_of_lt_of_le hqu hbn.size
       have hpq : ¬ q = p := by omega
       apply wpPlanT_act rfl rfl
       intro K hK
       unfold Oper.wp
       go_simp
       refine (HBT.out _).mono ?_
       rintro e w' ⟨rfl, hbw⟩
       have hbc := hbc.trans (hbw.mono hbc.size)
       refine hK _ _ hbc ?_
       clear hK K
       have hp := (row?_below hbw hpu).trans hp
       have hpu := Nat.lt_of_lt_of_le hpu hbw.size
       have hq := (row?_below hbw hqu).trans hq
       have hqu := Nat.lt_of_lt_of_le hqu hbw.size
       (repeat (apply wpPlanT_still rfl rfl; (intro w hw; have kl := HLE.out w (HB0.out.trans ((HB1.out.trans ((HB2.out.trans (hw.mono HB2.out.size)).mono HB1.out.size)).mono HB0.out.size)); clear hw; go_simp; (try go_ints); (first | with_reducible rfl | (go_simp; with_reducible rfl))); (intro K hK; go_simp; (try go_ints); refine hK _ _ ?_; clear hK K)))
       apply wpPlanT_act rfl rfl
       intro K hK
       unfold Oper.wp
       go_simp
       obtain ⟨w4, hw4⟩ : ∃ w4, w4 = World.setRow w' p #[.int .u8 (te.1 : Int), .int .i64 te.2] := ⟨_, rfl⟩
       rw [← hw4]
       have hb4 : Below W2.heap.size W2 w4 := by rw [hw4]; exact below_setRow hbc hpB _
       have hq4 : row? w4 q = some #[.bool false] := by rw [hw4, row?_setRow_other _ _ _ _ hpq]; exact hq
       refine hK _ _ hb4 ?_
       have k := cell?_row (i := 0) hq4
       simp at k
       have hf := frozen?_row (i := 0) hq4
       have HQ4 := Lib.hid hq4
       clear hK K hw4 hp hq hpq hq4
       refine wpPlanT_done ?_
       simp only [List.drop_succ_cons, List.drop_zero]
       go_wp2_with fail
       refine ⟨p, q, ?_, ?_, hqB, ?_⟩
       · first | with_reducible rfl | exact ⟨rfl, rfl⟩
       · rw [row?_setCell_same, HQ4.out]; rfl
       · (repeat' (first | (with_reducible first | exact Below.refl _ _ | assumption | refine Below.alloc ?_ ?_ _ | refine Below.drew ?_ | refine Below.setCell ?_ ?_ _ | refine below_setRow ?_ ?_ _ | exact Nat.le_refl _) | omega | (simp; done) | (simp; omega) | (simp at *; omega)))
 intro p9 b10 W3 ⟨hr10, hb10, hb3⟩
 have HB3 := Lib.hid hb3
 have hr10l := row?_lt hr10
 have HR10 := Lib.hid hr10
 have hs3 := hb3.size
 clear HLE hr10 hb3 HBT
 go_wp2_with fail
 generalize hW4 : World.alloc W3 _ = W4
 obtain ⟨hrT, hB4⟩ := alloc_row hW4
 have hs4 := row?_lt hrT
 clear hW4
 obtain ⟨t1, ht1⟩ : ∃ t, t = decide (e.op < 0 ∨ 8 ≤ e.op) := ⟨_, rfl⟩
 obtain ⟨t2, ht2⟩ : ∃ t, t = (!idB e.u || (e.pairs && !idB e.v) || (e.weighs && heavyB e.wt)) := ⟨_, rfl⟩
 obtain ⟨t3, ht3⟩ : ∃ t, t = (e.pairs && decide (e.u = e.v)) := ⟨_, rfl⟩
 obtain ⟨t4, ht4⟩ : ∃ t, t = (decide (e.op = 0) && bu) := ⟨_, rfl⟩
 obtain ⟨t5, ht5⟩ : ∃ t, t = ((decide (e.op ≠ 0) && !e.pairs && !bu) || (decide (e.op = 2) && !(bu && bv))) := ⟨_, rfl⟩
 obtain ⟨t6, ht6⟩ : ∃ t, t = (e.pairs && decide (e.op ≠ 2) && !be) := ⟨_, rfl⟩
 obtain ⟨t7, ht7⟩ : ∃ t, t = (decide (e.op = 2) && be) := ⟨_, rfl⟩
 obtain ⟨t8, ht8⟩ : ∃ t, t = (decide (e.op = 2) && decide (1024 ≤ G.E.length)) := ⟨_, rfl⟩
 have hre4 := (row?_below hB4 (by omega)).trans ((row?_below HB3.out (by omega)).trans ((row?_below HB2.out (by omega)).trans ((row?_below HB1.out (by omega)).trans HRE.out)))
 have hrb4 := (row?_below hB4 (by omega)).trans ((row?_below HB3.out (by omega)).trans ((row?_below HB2.out (by omega)).trans ((row?_below HB1.out (by omega)).trans HRB.out)))
 have hr64 := (row?_below hB4 (by omega)).trans ((row?_below HB3.out (by omega)).trans ((row?_below HB2.out (by omega)).trans HR6.out))
 have hr84 := (row?_below hB4 (by omega)).trans ((row?_below HB3.out (by omega)).trans HR8.out)
 have hr104 := (row?_below hB4 (by omega)).trans HR10.out
 have hbe : Below w.heap.size w W4 := HB0.out.trans ((HB1.out.trans ((HB2.out.trans ((HB3.out.trans (hB4.mono hs3)).mono hs2)).mono hs1)).mono HB0.out.size)
 have hse := hbe.size
 have hse1 : w.heap.size + 1 < W4.heap.size := by omega
 have hG4 := H0.out.below hbe
 have HBE := Lib.hid hbe
 have HC1 := Lib.hid fun W (hb : Below W4.heap.size W4 W) => wrong1_any e (w.heap.size + 1) W ((row?_below hb hse1).trans hre4)
 have HC2 := Lib.hid fun W (hb : Below W4.heap.size W4 W) => wrong2_any e (w.heap.size + 1) W ((row?_below hb hse1).trans hre4)
 have HC3 := Lib.hid fun W (hb : Below W4.heap.size W4 W) => wrong3_any e (w.heap.size + 1) W ((row?_below hb hse1).trans hre4)
 have HC4 := Lib.hid fun W (hb : Below W4.heap.size W4 W) => wrong4_any e (w.heap.size + 1) b6 bu W ((row?_below hb hse1).trans hre4) ((row?_below hb (row?_lt hr64)).trans hr64)
 have HC5 := Lib.hid fun W (hb : Below W4.heap.size W4 W) => wrong5_any e (w.heap.size + 1) b6 b8 bu bv W ((row?_below hb hse1).trans hre4) ((row?_below hb (row?_lt hr64)).trans hr64) ((row?_below hb (row?_lt hr84)).trans hr84)
 have HC6 := Lib.hid fun W (hb : Below W4.heap.size W4 W) => wrong6_any e (w.heap.size + 1) b10 be W ((row?_below hb hse1).trans hre4) ((row?_below hb (row?_lt hr104)).trans hr104)
 have HC7 := Lib.hid fun W (hb : Below W4.heap.size W4 W) => wrong7_any e (w.heap.size + 1) b10 be W ((row?_below hb hse1).trans hre4) ((row?_below hb (row?_lt hr104)).trans hr104)
 have HC8 := Lib.hid fun W (hb : Below W4.heap.size W4 W) => wrong8_any e (w.heap.size + 1) w.heap.size g bV bE G W ((row?_below hb hse1).trans hre4) ((row?_below hb (by omega)).trans hrb4) (hG4.below hb)
 have HW : Hid (G.wrong e = if t1 then 11 else if t2 then 2 else if t3 then 15 else if t4 then 7 else if t5 then 9 else if t6 then 9 else if t7 then 7 else if t8 then 8 else 0) := by
   refine Lib.hid ?_
   obtain ⟨h1, h2, h3⟩ := HB.out
   rw [HUV.out.1] at h1 h3
   rw [HUV.out.2] at h2 h3
   unfold Gr.wrong
   rw [← h1, ← h2, ← h3, ← ht2, ← ht3, ← ht4, ← ht5, ← ht6, ← ht7, ← ht8, ht1]
   simp only [decide_eq_true_eq]
 rw [← ht1] at HC1
 rw [← ht2] at HC2
 rw [← ht3] at HC3
 rw [← ht4] at HC4
 rw [← ht5] at HC5
 rw [← ht6] at HC6
 rw [← ht7] at HC7
 rw [← ht8] at HC8
 clear ht1 ht2 ht3 ht4 ht5 ht6 ht7 ht8 hre4 hrb4 hr64 hr84 hr104 hbe hG4 HRE HRB HR6 HR8 HR10 HR HB HUV HB0 HB1 HB2 HB3 H0 HE hB4
 go_loopw [64] (fun i wr => ∃ k : Nat, k ≤ 8 ∧ i = .int .i64 (k : Int) ∧ (∀ x ∈ [t1, t2, t3, t4, t5, t6, t7, t8].take k, x = false) ∧ Below W4.heap.size W4 wr) (fun i _ => 8 - (intOf i).toNat)
 case atStart => exact ⟨0, by omega, rfl, by simp, Below.refl _ _⟩
 case round =>
   obtain ⟨k, hk, rfl, hno, hb⟩ := hrel
   have hrr := (row?_below hb (by omega)).trans hrT
   have hszb := hb.size
   have HB := Lib.hid hb
   have HNO := Lib.hid hno
   clear hb hno
   obtain rfl | rfl | rfl | rfl | rfl | rfl | rfl | rfl | rfl : k = 0 ∨ k = 1 ∨ k = 2 ∨ k = 3 ∨ k = 4 ∨ k = 5 ∨ k = 6 ∨ k = 7 ∨ k = 8 := by omega
   · have c0 := cell?_row (i := 2 * 0) hrr
     have c1 := cell?_row (i := 2 * 0 + 1) hrr
     simp at c0 c1
     clear hrr
     go_wp2_with fail
     refine Calls.mono (HC1.out _ (HB.out.alloc HB.out.size _)) ?_
     rintro r w5 ⟨rfl, rfl⟩
     cases htt : t1
     · go_wp2_with fail
       go_roundw
       case rel => exact ⟨0 + 1, by omega, by go_num, by have h := HNO.out; simp at h ⊢; first | (simp [htt]; done) | simp [h, htt], HB.out.alloc HB.out.size _⟩
       case measure => simp [intOf]
     · go_wp2_with fail
       go_ret
       refine ⟨?_, HBE.out.trans ((HB.out.alloc HB.out.size _).mono hse)⟩
       rw [HW.out]
       have h := HNO.out
       simp at h
       first | (simp [htt]; done) | simp [h, htt]
   · have c0 := cell?_row (i := 2 * 1) hrr
     have c1 := cell?_row (i := 2 * 1 + 1) hrr
     simp at c0 c1
     clear hrr
     go_wp2_with fail
     refine Calls.mono (HC2.out _ (HB.out.alloc HB.out.size _)) ?_
     rintro r w5 ⟨rfl, rfl⟩
     cases htt : t2
     · go_wp2_with fail
       go_roundw
       case rel => exact ⟨1 + 1, by omega, by go_num, by have h := HNO.out; simp at h ⊢; first | (simp [htt]; done) | simp [h, htt], HB.out.alloc HB.out.size _⟩
       case measure => simp [intOf]
     · go_wp2_with fail
       go_ret
       refine ⟨?_, HBE.out.trans ((HB.out.alloc HB.out.size _).mono hse)⟩
       rw [HW.out]
       have h := HNO.out
       simp at h
       first | (simp [htt]; done) | simp [h, htt]
   · have c0 := cell?_row (i := 2 * 2) hrr
     have c1 := cell?_row (i := 2 * 2 + 1) hrr
     simp at c0 c1
     clear hrr
     go_wp2_with fail
     refine Calls.mono (HC3.out _ (HB.out.alloc HB.out.size _)) ?_
     rintro r w5 ⟨rfl, rfl⟩
     cases htt : t3
     · go_wp2_with fail
       go_roundw
       case rel => exact ⟨2 + 1, by omega, by go_num, by have h := HNO.out; simp at h ⊢; first | (simp [htt]; done) | simp [h, htt], HB.out.alloc HB.out.size _⟩
       case measure => simp [intOf]
     · go_wp2_with fail
       go_ret
       refine ⟨?_, HBE.out.trans ((HB.out.alloc HB.out.size _).mono hse)⟩
       rw [HW.out]
       have h := HNO.out
       simp at h
       first | (simp [htt]; done) | simp [h, htt]
   · have c0 := cell?_row (i := 2 * 3) hrr
     have c1 := cell?_row (i := 2 * 3 + 1) hrr
     simp at c0 c1
     clear hrr
     go_wp2_with fail
     refine Calls.mono (HC4.out _ (HB.out.alloc HB.out.size _)) ?_
     rintro r w5 ⟨rfl, rfl⟩
     cases htt : t4
     · go_wp2_with fail
       go_roundw
       case rel => exact ⟨3 + 1, by omega, by go_num, by have h := HNO.out; simp at h ⊢; first | (simp [htt]; done) | simp [h, htt], HB.out.alloc HB.out.size _⟩
       case measure => simp [intOf]
     · go_wp2_with fail
       go_ret
       refine ⟨?_, HBE.out.trans ((HB.out.alloc HB.out.size _).mono hse)⟩
       rw [HW.out]
       have h := HNO.out
       simp at h
       first | (simp [htt]; done) | simp [h, htt]
   · have c0 := cell?_row (i := 2 * 4) hrr
     have c1 := cell?_row (i := 2 * 4 + 1) hrr
     simp at c0 c1
     clear hrr
     go_wp2_with fail
     refine Calls.mono (HC5.out _ (HB.out.alloc HB.out.size _)) ?_
     rintro r w5 ⟨rfl, rfl⟩
     cases htt : t5
     · go_wp2_with fail
       go_roundw
       case rel => exact ⟨4 + 1, by omega, by go_num, by have h := HNO.out; simp at h ⊢; first | (simp [htt]; done) | simp [h, htt], HB.out.alloc HB.out.size _⟩
       case measure => simp [intOf]
     · go_wp2_with fail
       go_ret
       refine ⟨?_, HBE.out.trans ((HB.out.alloc HB.out.size _).mono hse)⟩
       rw [HW.out]
       have h := HNO.out
       simp at h
       first | (simp [htt]; done) | simp [h, htt]
   · have c0 := cell?_row (i := 2 * 5) hrr
     have c1 := cell?_row (i := 2 * 5 + 1) hrr
     simp at c0 c1
     clear hrr
     go_wp2_with fail
     refine Calls.mono (HC6.out _ (HB.out.alloc HB.out.size _)) ?_
     rintro r w5 ⟨rfl, rfl⟩
     cases htt : t6
     · go_wp2_with fail
       go_roundw
       case rel => exact ⟨5 + 1, by omega, by go_num, by have h := HNO.out; simp at h ⊢; first | (simp [htt]; done) | simp [h, htt], HB.out.alloc HB.out.size _⟩
       case measure => simp [intOf]
     · go_wp2_with fail
       go_ret
       refine ⟨?_, HBE.out.trans ((HB.out.alloc HB.out.size _).mono hse)⟩
       rw [HW.out]
       have h := HNO.out
       simp at h
       first | (simp [htt]; done) | simp [h, htt]
   · have c0 := cell?_row (i := 2 * 6) hrr
     have c1 := cell?_row (i := 2 * 6 + 1) hrr
     simp at c0 c1
     clear hrr
     go_wp2_with fail
     refine Calls.mono (HC7.out _ (HB.out.alloc HB.out.size _)) ?_
     rintro r w5 ⟨rfl, rfl⟩
     cases htt : t7
     · go_wp2_with fail
       go_roundw
       case rel => exact ⟨6 + 1, by omega, by go_num, by have h := HNO.out; simp at h ⊢; first | (simp [htt]; done) | simp [h, htt], HB.out.alloc HB.out.size _⟩
       case measure => simp [intOf]
     · go_wp2_with fail
       go_ret
       refine ⟨?_, HBE.out.trans ((HB.out.alloc HB.out.size _).mono hse)⟩
       rw [HW.out]
       have h := HNO.out
       simp at h
       first | (simp [htt]; done) | simp [h, htt]
   · have c0 := cell?_row (i := 2 * 7) hrr
     have c1 := cell?_row (i := 2 * 7 + 1) hrr
     simp at c0 c1
     clear hrr
     go_wp2_with fail
     refine Calls.mono (HC8.out _ (HB.out.alloc HB.out.size _)) ?_
     rintro r w5 ⟨rfl, rfl⟩
     cases htt : t8
     · go_wp2_with fail
       go_roundw
       case rel => exact ⟨7 + 1, by omega, by go_num, by have h := HNO.out; simp at h ⊢; first | (simp [htt]; done) | simp [h, htt], HB.out.alloc HB.out.size _⟩
       case measure => simp [intOf]
     · go_wp2_with fail
       go_ret
       refine ⟨?_, HBE.out.trans ((HB.out.alloc HB.out.size _).mono hse)⟩
       rw [HW.out]
       have h := HNO.out
       simp at h
       first | (simp [htt]; done) | simp [h, htt]
   · clear hrr
     go_wp2_with fail
     go_ret
     refine ⟨?_, HBE.out.trans (HB.out.mono hse)⟩
     rw [HW.out]
     have h := HNO.out
     simp at h
     simp [h]
end Go.Proofs.YtglnhnjmelilmaaGreatDoor
