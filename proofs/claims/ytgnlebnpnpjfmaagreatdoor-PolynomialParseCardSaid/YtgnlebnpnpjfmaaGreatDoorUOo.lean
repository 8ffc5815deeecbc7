/- Rules: drawn regions with guards, a call ahead of the store; results in three parts; .. -/
import Derived.Test.YtgnlebnpnpjfmaaGreatDoorUOh
import Derived.Test.YtgnlebnpnpjfmaaGreatDoorUOw
import Derived.Test.YtgnlebnpnpjfmaaGreatDoorUNs
import Derived.Test.YtgnlebnpnpjfmaaGreatDoorUPl
set_option linter.all false
namespace Go.Pal
open Go Go.RowKit
section
variable {P : Program}
theorem wpPlan_stillG {ops : Array Oper} {S : World → Prop} {Q : Exit → Act → World → Prop} {K : Act → World → Prop} {a : Act} {w : World} {k : Nat} {r : List (Nat × Bool)} {o : Oper} {v : Value} (ho : ops[k]? = some o) (hw : Region.wanted o (yielded ops a.tmps) = true) (hv : ∀ w, S w → (execOp a.eval o).run P w = .ok (.value v) w)
   (h : ∀ K' : Act → World → Prop, (∀ a w, wpPlan P ops S Q K r a w → K' a w) → K' (a.put o.dst v) w) : wpPlan P ops S Q K ((k, true) :: r) a w :=
 ⟨o, v, ho, .inl ⟨hw, hv⟩, h _ fun _ _ h => h⟩
theorem wpPlan_actG {ops : Array Oper} {S : World → Prop} {Q : Exit → Act → World → Prop} {K : Act → World → Prop} {a : Act} {w : World} {k : Nat} {r : List (Nat × Bool)} {o : Oper} (ho : ops[k]? = some o) (hw : Region.wanted o (yielded ops a.tmps) = true)
   (h : ∀ K' : Act → World → Prop, (∀ a w, S w → wpPlan P ops S Q K r a w → K' a w) → o.wp P a w K' Q) : wpPlan P ops S Q K ((k, false) :: r) a w := by
 show wpOp P ops Q k _ a w
 unfold wpOp
 simp only [ho, hw, if_true]
 exact .inl (h _ fun a w hs hp => ⟨hs, hp⟩)
theorem wpPlan_skip {ops : Array Oper} {S : World → Prop} {Q : Exit → Act → World → Prop} {K : Act → World → Prop} {a : Act} {w : World} {k : Nat} {r : List (Nat × Bool)} {o : Oper} (ho : ops[k]? = some o) (hw : Region.wanted o (yielded ops a.tmps) = false)
   (h : ∀ K' : Act → World → Prop, (∀ a w, wpPlan P ops S Q K r a w → K' a w) → K' (a.put o.dst undef) w) : wpPlan P ops S Q K ((k, true) :: r) a w :=
 ⟨o, undef, ho, .inr ⟨hw, rfl⟩, h _ fun _ _ h => h⟩
theorem wpPlan_skipA {ops : Array Oper} {S : World → Prop} {Q : Exit → Act → World → Prop} {K : Act → World → Prop} {a : Act} {w : World} {k : Nat} {r : List (Nat × Bool)} {o : Oper} (hS : S w) (ho : ops[k]? = some o) (hw : Region.wanted o (yielded ops a.tmps) = false)
   (h : ∀ K' : Act → World → Prop, (∀ a w, wpPlan P ops S Q K r a w → K' a w) → K' (a.put o.dst undef) w) : wpPlan P ops S Q K ((k, false) :: r) a w := by
 show wpOp P ops Q k _ a w
 unfold wpOp
 simp only [ho, hw]
 exact ⟨hS, h _ fun _ _ h => h⟩
theorem wpPlanZ_act1 {md : Region.Mode} {ops : Array Oper} {S1 S2 : World → Prop} {z : Nat} {Q : Exit → Act → World → Prop} {K : Act → World → Prop} {a : Act} {w : World} {k : Nat} {r : List (Nat × Bool)} {o : Oper} (ho : ops[k]? = some o) (hg : o.guard = none) (hk : k ≠ z)
   (h : ∀ K' : Act → World → Prop, (∀ a w, S1 w → wpPlanZ P md ops S1 S2 z Q K r false a w → K' a w) → o.wp P a w K' Q) : wpPlanZ P md ops S1 S2 z Q K ((k, false) :: r) false a w := by
 show wpOp P ops Q k _ a w
 unfold wpOp
 have h1 : ¬ (k = z ∨ false = true) := by simpa using hk
 have h2 : (decide (k = z) || false) = false := by simpa using hk
 simp only [ho, wanted_none hg, if_true, if_neg h1, h2]
 exact .inl (h _ fun a w hs hp => ⟨hs, hp⟩)
theorem results_tct {fn : Func} {p q r : Tmp} {ty n : Nat} (h : fn.results = #[.tmp p, .cell q ty, .tmp r]) (hagg : ∀ w, (isAgg ty).run P w = .ok true w) (hn : ∀ w, (sizeOf ty).run P w = .ok n w)
   (tmps : Array Value) (w : World) (g : Nat) (c : Array Value) (hp : tmps.getD q undef = .pointer (some ⟨g, 0, none⟩)) (hg : row? w g = some c) (hc : c.size = n) :
   (results fn tmps).run P w = .ok (.tuple #[tmps.getD p undef, .agg c, tmps.getD r undef]) w := by
 have hp' : tmps[q]?.getD undef = .pointer (some ⟨g, 0, none⟩) := by simpa using hp
 have hl := load_row (P := P) hagg hn w g
 rw [hg] at hl
 simp only [hc, if_true] at hl
 unfold rowLoad at hl
 simp [results, h, hp', asAddr, hl]
theorem ret_tct {fn : Func} {R : Ending → World → Prop} {a : Act} {w : World} {p q r : Tmp} {ty n : Nat} (g : Nat) (c : Array Value) (h : fn.results = #[.tmp p, .cell q ty, .tmp r]) (hagg : ∀ w, (isAgg ty).run P w = .ok true w) (hn : ∀ w, (sizeOf ty).run P w = .ok n w)
   (hp : a.tmps.getD q undef = .pointer (some ⟨g, 0, none⟩)) (hd : a.defers = []) (hg : row? w g = some c) (hc : c.size = n) (hR : R (.returned (.tuple #[a.tmps.getD p undef, .agg c, a.tmps.getD r undef])) w) : bodyPost P fn R .ret a w :=
 bodyPost_ret (results_tct h hagg hn a.tmps w g c hp hg hc) hd hR
theorem str_part (l : List UInt8) (a b : Nat) : (⟨l.toArray⟩ : ByteArray).extract a b = ⟨((l.drop a).take (b - a)).toArray⟩ := by
 apply ByteArray.ext
 rw [ByteArray.data_extract]
 simp [List.extract]
theorem str_from (l : List UInt8) (k n : Nat) (h : n = l.length) : (⟨l.toArray⟩ : ByteArray).extract k n = ⟨(l.drop k).toArray⟩ := by
 rw [str_part, h]
 congr 1
 congr 1
 exact List.take_of_length_le (by rw [List.length_drop]; exact Nat.le_refl _)
end
theorem drop_get {α : Type} {l : List α} {k : Nat} {x : α} (h : l[k]? = some x) : l.drop k = x :: l.drop (k + 1) := by
 obtain ⟨hk, rfl⟩ := List.getElem?_eq_some_iff.1 h
 rw [List.drop_eq_getElem_cons hk]
end Go.Pal
namespace Go.Proofs.YtgnlebnpnpjfmaaGreatDoor
open Go Go.RowKit Go.Pal
@[go_sem ↓ high] theorem loadMK (a : Addr) : loadVar 132 a = loadLater 132 a := rfl
@[go_sem ↓ high] theorem storeMK (a : Addr) (v : Value) : storeVar 132 a v = storeLater 132 a v := rfl
@[go_sem] theorem loadMK_run (w : World) (a : Addr) : (loadLater 132 a).run Tryz.prog w = rowLoad Tryz.prog 132 a w := rfl
@[go_sem] theorem storeMK_run (w : World) (a : Addr) (v : Value) : (storeLater 132 a v).run Tryz.prog w = rowStore Tryz.prog 132 a v w := rfl
@[go_sem] theorem loadMK_at (w : World) (g : Nat) : rowLoad Tryz.prog 132 ⟨g, 0, none⟩ w = match row? w g with
     | some c => if c.size = 2 then .ok (.agg c) w else laterLoad Tryz.prog 132 ⟨g, 0, none⟩ w
     | none => laterLoad Tryz.prog 132 ⟨g, 0, none⟩ w := load_row Tryz.isAgg132 Tryz.sizeOf132 w g
@[go_sem] theorem storeMK_at (w : World) (g : Nat) (d : Array Value) : rowStore Tryz.prog 132 ⟨g, 0, none⟩ (.agg d) w = match row? w g with
     | some c => if c.size = 2 ∧ d.size = 2 ∧ allOne d = true then .ok () (w.setRow g d) else laterStore Tryz.prog 132 ⟨g, 0, none⟩ (.agg d) w
     | none => laterStore Tryz.prog 132 ⟨g, 0, none⟩ (.agg d) w := store_row Tryz.sizeOf132 w g d
@[go_sem ↓ high] theorem zeroMK (w : World) : (zeroValue 132).run Tryz.prog w = .ok (.agg #[.string ⟨#[]⟩, .pointer none]) w := by kernel_rfl
@[go_sem] theorem allOne_sp (s : ByteArray) (p : Option Addr) : allOne #[.string s, .pointer p] = true := by unfold allOne; simp [Value.oneCell']
@[go_sem ↓ high] theorem build_MK (s : ByteArray) (p : Option Addr) (w : World) : (Instr.build 132 #[(0, .string s), (1, .pointer p)]).run Tryz.prog w = .ok (.agg #[.string s, .pointer p]) w := by kernel_rfl
@[go_sem ↓ high] theorem bs_MK (s t : ByteArray) (p q : Option Addr) (w : World) : (Instr.buildSlice 133 2 #[(0, .agg #[.string s, .pointer p]), (1, .agg #[.string t, .pointer q])]).run Tryz.prog w = .ok (.slice (some ⟨w.heap.size, 0, none⟩) 2 2) (w.alloc (.cells #[.string s, .pointer p, .string t, .pointer q] 132)) := by kernel_rfl
theorem grown_row {w w' : World} {o : Option Nat} {g : Nat} (h : w.grownBy w' o) (hne : o ≠ some g) (hlt : g < w.heap.size) : row? w' g = row? w g := row?_congr (h.block g hlt (fun e => hne e.symm))
end Go.Proofs.YtgnlebnpnpjfmaaGreatDoor
namespace Go.Pal
open Go Go.RowKit
section
variable {α : Type} {P : Program} {e : TypeId} {k : Nat} {enc : α → Array Value} {B : Nat} {w : World} {v : Value} {l : List α}
theorem encC_inv (E : ElT P e k enc) {l : List α} {t : Nat} {u : Value} (h : (encC enc l)[t]? = some u) : ∃ i j x, t = i * k + j ∧ l[i]? = some x ∧ (enc x)[j]? = some u := by
 have hk := E.pos
 have ht : t < l.length * k := by
   have := (List.getElem?_eq_some_iff.1 h).1
   rwa [encC_length E] at this
 have hd : t / k < l.length := Nat.div_lt_of_lt_mul (by rwa [Nat.mul_comm] at ht)
 have hm : t % k < k := Nat.mod_lt _ hk
 have hx : l[t / k]? = some l[t / k] := List.getElem?_eq_getElem hd
 have hu : (enc l[t / k])[t % k]? = some ((enc l[t / k])[t % k]'(by rw [E.size]; exact hm)) := Array.getElem?_eq_getElem _
 have e1 : t / k * k + t % k = t := by rw [Nat.mul_comm]; exact Nat.div_add_mod t k
 have := encC_get E hx hu
 rw [e1, h] at this
 exact ⟨t / k, t % k, _, e1.symm, hx, by rw [hu]; exact this.symm⟩
theorem run_appL (E : ElT P e k enc) (st ty : TypeId) (hst : P.underlying st = some (.slice e)) (h : OwnR e k enc B w v l) {C : Nat} {u : Value} {ms : List α} (hu : Rd enc k C w u ms) (hn : u = .slice none 0 0 ∨ ∃ ad n c, u = .slice (some ad) n c) (hlen : l.length + ms.length < 4000000) (hB : B ≤ w.heap.size) :
   ∃ v' w', (Builtin.append_ #[st, st] ty #[v, u]).run P w = .ok v' w' ∧ OwnR e k enc B w' v' (l ++ ms) ∧ Below B w w' ∧ w.grownBy w' v.ownBlock := by
 obtain ⟨i0, hi, hz0, hz1, hz2⟩ := info_parts E.info
 have hbytes : (l.length + ms.length) * E.bytes ≤ 140737488355328 := by
   have := E.small
   exact Nat.le_trans (Nat.mul_le_mul (Nat.le_of_lt hlen) this) (by decide)
 rcases hn with rfl | ⟨ad, n, c, rfl⟩
 · obtain ⟨a, c, h1, -⟩ := hu
   simp only [Value.slice.injEq] at h1
   have hms : ms = [] := List.length_eq_zero_iff.1 h1.2.1.symm
   subst hms
   refine ⟨v, w, run_append_owned_none (P := P) (w := w) B st ty e i0 k hst hi v l.length _ h, by rw [List.append_nil]; exact h, Below.refl _ _, ?_⟩
   exact ⟨rfl, rfl, rfl, Nat.le_refl _, fun _ _ _ => rfl⟩
 · obtain ⟨a', c', h1, h2⟩ := hu
   simp only [Value.slice.injEq] at h1
   obtain ⟨rfl, rfl, rfl⟩ := h1
   obtain ⟨v', w', hr, h3, h4, -⟩ := run_append_own (P := P) w B st ty e i0 E.zero k E.bytes hst hi hz0 hz1 hz2 E.zc E.pos v l.length (encC enc l) h ad ms.length c (encC enc ms) (encC_length E ms)
     (fun t u ht => by
       obtain ⟨i, j, x, rfl, hx, hu⟩ := encC_inv E ht
       rcases h2 with h2 | ⟨b', off', h5, -, h6⟩
       · rw [h2] at hx; simp at hx
       · cases h5
         have e1 : (⟨b', off', none⟩ : Addr).add (i * k + j) = ⟨b', off' + i * k + j, none⟩ := by unfold Addr.add; split <;> simp_all <;> omega
         rw [e1]
         exact h6 i x hx j u hu) (fun u hu => by
       obtain ⟨x, -, hx⟩ := List.mem_flatMap.1 hu
       exact E.one x u hx) (by unfold maxLen; omega) hbytes hB
   refine ⟨v', w', hr, ?_, (Below.refl B w).grown h4 hB h.block, h4⟩
   unfold OwnR
   rw [List.length_append, encC_append]
   exact h3
theorem wp_appL {o : Oper} {a : Act} {K : Act → World → Prop} {Q : Exit → Act → World → Prop} (E : ElT P e k enc) (st : TypeId) (hst : P.underlying st = some (.slice e)) (s x : Operand)
   (ho : o.op = .call { callee := .builtin .append, args := #[s, x], argTypes := #[st, st] }) (B : Nat) (v u : Value) (l ms : List α) (hs : a.eval s = v) (hown : OwnR e k enc B w v l) (hx : a.eval x = u) (C : Nat) (hu : Rd enc k C w u ms) (hn : u = .slice none 0 0 ∨ ∃ ad n c, u = .slice (some ad) n c)
   (hlen : l.length + ms.length < 4000000) (hB : B ≤ w.heap.size)
   (h : ∀ v' w', OwnR e k enc B w' v' (l ++ ms) → Below B w w' → w.grownBy w' v.ownBlock → K (a.put o.dst v') w') : o.wp P a w K Q := by
 obtain ⟨v', w', hr, h2, h3, h4⟩ := run_appL E st o.type hst hown hu hn hlen hB
 unfold Oper.wp execOp
 simp only [ho, resolve, invoke, builtin, Sem.run_bind, Sem.run_pure, Result.andThen_ok, List.map_toArray, List.map_cons, List.map_nil, hs, hx, hr]
 exact h v' w' h2 h3 h4
theorem wpList_appL {ops : Array Oper} {rest : List Oper} {o : Oper} {a : Act} {Q : Exit → Act → World → Prop} (E : ElT P e k enc) (st : TypeId) (hst : P.underlying st = some (.slice e)) (hgd : o.guard = none) (s x : Operand)
   (ho : o.op = .call { callee := .builtin .append, args := #[s, x], argTypes := #[st, st] }) (B : Nat) (v u : Value) (l ms : List α) (hs : a.eval s = v) (hown : OwnR e k enc B w v l) (hx : a.eval x = u) (C : Nat) (hu : Rd enc k C w u ms) (hn : u = .slice none 0 0 ∨ ∃ ad n c, u = .slice (some ad) n c)
   (hlen : l.length + ms.length < 4000000) (hB : B ≤ w.heap.size)
   (h : ∀ v' w', OwnR e k enc B w' v' (l ++ ms) → Below B w w' → w.grownBy w' v.ownBlock → wpList P ops Q rest (a.put o.dst v') w') : wpList P ops Q (o :: rest) a w :=
 wpList_plain hgd fun _ hK => wp_appL E st hst s x ho B v u l ms hs hown hx C hu hn hlen hB fun v' w' h1 h2 h3 => hK _ _ (h v' w' h1 h2 h3)
end
abbrev Sl := Option Addr × Nat × Nat
def slV (s : Sl) : Value := .slice s.1 s.2.1 s.2.2
def tA (x : Sl × Ex) : Array Value := #[slV x.1, .int .i64 (x.2.1 : Int), .int .i64 (x.2.2 : Int)]
end Go.Pal
namespace Go.Proofs.YtgnlebnpnpjfmaaGreatDoor
open Go Go.RowKit Go.Pal
def elT : ElT Tryz.prog 104 3 tA where
 bytes := 40
 zero := .agg #[.slice none 0 0, .int .i64 0, .int .i64 0]
 info := by kernel_rfl
 zc := rfl
 pos := by decide
 small := by decide
 size _ := rfl
 one x u hu := by simp [tA, slV] at hu; rcases hu with rfl | rfl | rfl <;> rfl
abbrev OwnT := OwnR 104 3 tA
def Tells (w : World) (L : List (Sl × Ex)) (p : Pol) : Prop := L.map (·.2) = p.map (·.1) ∧ ∀ (i : Nat) (x : Sl × Ex) (y : Ex × Nat), L[i]? = some x → p[i]? = some y → RefV w (slV x.1) y.2
theorem Tells.below {w w' : World} {L : List (Sl × Ex)} {p : Pol} (h : Tells w L p) (hb : Below w.heap.size w w') : Tells w' L p := ⟨h.1, fun i x y hx hy => (h.2 i x y hx hy).below hb⟩
theorem Tells.nil (w : World) : Tells w [] [] := ⟨rfl, by simp⟩
theorem Tells.len {w : World} {L : List (Sl × Ex)} {p : Pol} (h : Tells w L p) : L.length = p.length := by
 have := congrArg List.length h.1
 simpa using this
def RefP (w : World) (v : Value) (p : Pol) : Prop := ∃ L, Rd tA 3 w.heap.size w v L ∧ Tells w L p ∧ (v = .slice none 0 0 ∨ ∃ ad n c, v = .slice (some ad) n c)
theorem RefP.below {w w' : World} {v : Value} {p : Pol} (h : RefP w v p) (hb : Below w.heap.size w w') : RefP w' v p := by
 obtain ⟨L, h1, h2, h3⟩ := h
 exact ⟨L, (h1.below hb (Nat.le_refl _)).mono hb.size, h2.below hb, h3⟩
theorem refP_nil (w : World) : RefP w (.slice none 0 0) [] := ⟨[], ⟨none, 0, rfl, .inl rfl⟩, Tells.nil w, .inl rfl⟩
end Go.Proofs.YtgnlebnpnpjfmaaGreatDoor
namespace Go.Pal
open Go Go.RowKit
def atT (k : Ex) : Pol → Nat
 | [] => 0
 | x :: r => if ltX x.1 k then atT k r + 1 else 0
theorem atT_le (k : Ex) (p : Pol) : atT k p ≤ p.length := by
 induction p with
 | nil => exact Nat.le_refl _
 | cons x r ih => unfold atT; split <;> simp <;> omega
theorem atT_lt {k : Ex} : ∀ {p : Pol} {i : Nat} {x : Ex × Nat}, i < atT k p → p[i]? = some x → ltX x.1 k = true
 | [], i, x, h, _ => by simp [atT] at h
 | y :: r, i, x, h, hx => by
   unfold atT at h
   split at h
   · rename_i hy
     cases i with
     | zero => simp at hx; subst hx; exact hy
     | succ i => exact atT_lt (p := r) (i := i) (by omega) (by simpa using hx)
   · omega
theorem atT_at {k : Ex} : ∀ {p : Pol} {x : Ex × Nat}, p[atT k p]? = some x → ltX x.1 k = false
 | [], x, h => by simp at h
 | y :: r, x, h => by
   unfold atT at h
   split at h
   · exact atT_at (p := r) (by simpa using h)
   · rename_i hy
     simp at h
     subst h
     simpa using hy
theorem insT_hit {k : Ex} {n m : Nat} : ∀ {p : Pol}, p[atT k p]? = some (k, m) → insT (k, n) p = p.set (atT k p) (k, m + n)
 | [], h => by simp at h
 | y :: r, h => by
   unfold atT at h ⊢
   unfold insT
   split at h
   · rename_i hy
     rw [if_pos hy, if_pos hy, insT_hit (p := r) (by simpa using h)]
     rfl
   · rename_i hy
     simp at h
     subst h
     rw [if_neg hy, if_neg hy]
     simp
theorem insT_miss {k : Ex} {n : Nat} : ∀ {p : Pol}, (∀ x, p[atT k p]? = some x → x.1 ≠ k) → insT (k, n) p = p.take (atT k p) ++ (k, n) :: p.drop (atT k p)
 | [], _ => rfl
 | y :: r, h => by
   unfold atT at h ⊢
   unfold insT
   split at h
   · rename_i hy
     rw [if_pos hy, if_pos hy, insT_miss (p := r) (fun x hx => h x (by simpa using hx))]
     rfl
   · rename_i hy
     have hne := h y (by simp)
     rw [if_neg hy, if_neg hy, if_neg hne]
     rfl
section
variable {α : Type} {P : Program} {e : TypeId} {k : Nat} {enc : α → Array Value} {B : Nat} {w : World} {l : List α}
theorem encC_set (E : ElT P e k enc) : ∀ {l : List α} {i j : Nat} {x y : α} {u : Value}, l[i]? = some x → j < k → (enc y).toList = (enc x).toList.set j u → (encC enc l).set (i * k + j) u = encC enc (l.set i y)
 | [], i, j, x, y, u, h, _, _ => by simp at h
 | z :: r, 0, j, x, y, u, h, hj, he => by
   simp at h
   subst h
   show ((enc z).toList ++ encC enc r).set (0 * k + j) u = (enc y).toList ++ encC enc r
   rw [Nat.zero_mul, Nat.zero_add, List.set_append, if_pos (by rw [Array.length_toList, E.size]; exact hj), he]
 | z :: r, i + 1, j, x, y, u, h, hj, he => by
   show ((enc z).toList ++ encC enc r).set ((i + 1) * k + j) u = (enc z).toList ++ encC enc (r.set i y)
   rw [List.set_append, if_neg (by rw [Array.length_toList, E.size, Nat.add_mul]; omega), Array.length_toList, E.size, show (i + 1) * k + j - k = i * k + j by rw [Nat.add_mul]; omega, encC_set E (l := r) (by simpa using h) hj he]
theorem OwnR.addr {v : Value} (h : OwnR e k enc B w v l) (hne : l ≠ []) : ∃ b c, v = .slice (some ⟨b, 0, none⟩) l.length c ∧ B ≤ b ∧ b < w.heap.size := by
 rcases h.2 with ⟨-, h2⟩ | ⟨g, cap, cur, rfl, hB, hg, -⟩
 · exact absurd (List.length_eq_zero_iff.1 h2) hne
 · exact ⟨g, cap, rfl, hB, (Array.getElem?_eq_some_iff.1 hg).1⟩
theorem OwnR.cellAt (E : ElT P e k enc) {b c : Nat} (h : OwnR e k enc B w (.slice (some ⟨b, 0, none⟩) l.length c) l) {i j : Nat} {x : α} {u : Value} (hx : l[i]? = some x) (hu : (enc x)[j]? = some u) : w.cell? ⟨b, i * k + j, none⟩ = some u := by
 have := World.ownsRow.cells (base := B) h (g := b) rfl _ _ (encC_get E hx hu)
 have e1 : (⟨b, 0, none⟩ : Addr).add (i * k + j) = ⟨b, i * k + j, none⟩ := by unfold Addr.add; split <;> simp_all
 rwa [e1] at this
theorem OwnR.frozen {b c : Nat} (h : OwnR e k enc B w (.slice (some ⟨b, 0, none⟩) l.length c) l) (i : Nat) : w.frozen? ⟨b, i, none⟩ = false := by
 rcases h.2 with ⟨h1, -⟩ | ⟨g, cap, cur, h1, hB, hg, -⟩
 · cases h1
 · simp only [Value.slice.injEq, Option.some.injEq, Addr.mk.injEq, and_true] at h1
   obtain ⟨rfl, -, rfl⟩ := h1
   exact frozen_of_row w b i cur _ hg
theorem OwnR.setCell (E : ElT P e k enc) {b c : Nat} (h : OwnR e k enc B w (.slice (some ⟨b, 0, none⟩) l.length c) l) {i j : Nat} {x y : α} {u : Value} (hx : l[i]? = some x) (hj : j < k) (he : (enc y).toList = (enc x).toList.set j u) :
   OwnR e k enc B (w.setCell ⟨b, i * k + j, none⟩ u) (.slice (some ⟨b, 0, none⟩) l.length c) (l.set i y) := by
 have hi := (List.getElem?_eq_some_iff.1 hx).1
 refine ⟨by rw [encC_length E, List.length_set], ?_⟩
 rcases h.2 with ⟨h1, -⟩ | ⟨g, cap, cur, h1, hB, hg, hle, hcm, hcs, htake⟩
 · cases h1
 · simp only [Value.slice.injEq, Option.some.injEq, Addr.mk.injEq, and_true] at h1
   obtain ⟨rfl, hln, rfl⟩ := h1
   refine .inr ⟨b, c, cur.setIfInBounds (i * k + j) u, by rw [List.length_set], hB, ?_, by rw [List.length_set]; exact hle, hcm, by rw [Array.size_setIfInBounds]; exact hcs, ?_⟩
   · unfold World.setCell
     simp only [Array.getElem?_modify, if_true, hg]
     rfl
   · rw [List.length_set, ← encC_set E hx hj he, ← htake]
     rw [Array.toList_setIfInBounds, List.take_set]
end
end Go.Pal
namespace Go.Proofs.YtgnlebnpnpjfmaaGreatDoor
open Go Go.RowKit Go.Pal
@[go_sem ↓ high] theorem bs_QT (a : Option Addr) (n c : Nat) (x y : Int) (w : World) : (Instr.buildSlice 29 1 #[(0, .agg #[.slice a n c, .int .i64 x, .int .i64 y])]).run Tryz.prog w = .ok (.slice (some ⟨w.heap.size, 0, none⟩) 1 1) (w.alloc (.cells #[.slice a n c, .int .i64 x, .int .i64 y] 104)) := by kernel_rfl
@[go_sem ↓ high] theorem bs_Q0 (w : World) : (Instr.buildSlice 29 0 #[]).run Tryz.prog w = .ok (.slice (some ⟨w.heap.size, 0, none⟩) 0 0) (w.alloc (.cells #[] 104)) := by kernel_rfl
theorem tells_one (w : World) (a : Option Addr) (n c : Nat) (k : Ex) (m : Nat) (h : RefV w (.slice a n c) m) : Tells w [((a, n, c), k)] [(k, m)] := by
 refine ⟨rfl, fun i x y hx hy => ?_⟩
 cases i with
 | zero =>
   simp at hx hy
   subst hx hy
   exact h
 | succ i => simp at hx
theorem own_one (w : World) (s : Sl) (k : Ex) : OwnT w.heap.size (w.alloc (.cells (tA (s, k)) 104)) (.slice (some ⟨w.heap.size, 0, none⟩) 1 1) [(s, k)] := by
 have h := World.ownsRow_lit (base := w.heap.size) (e := 104) (size := 3) w (tA (s, k)) 1 (Nat.le_refl _) (by unfold maxLen; omega) rfl
 unfold OwnT OwnR
 simpa [encC] using h
theorem own_none (w : World) : OwnT w.heap.size (w.alloc (.cells #[] 104)) (.slice (some ⟨w.heap.size, 0, none⟩) 0 0) [] := by
 have h := World.ownsRow_lit (base := w.heap.size) (e := 104) (size := 3) w #[] 0 (Nat.le_refl _) (by unfold maxLen; omega) rfl
 unfold OwnT OwnR
 simpa [encC] using h
theorem own_ref {B : Nat} {w : World} {v : Value} {L : List (Sl × Ex)} {p : Pol} (h : OwnT B w v L) (ht : Tells w L p) : RefP w v p := by
 refine ⟨L, h.rd elT, ht, ?_⟩
 rcases h.2 with ⟨rfl, -⟩ | ⟨g, cap, cur, rfl, -⟩
 · exact .inl rfl
 · exact .inr ⟨_, _, _, rfl⟩
theorem qof_any (k : Ex) (n : Nat) (v : Value) (w : World) (hv : RefV w v n) :
   Calls Tryz.prog 36 #[v, .int .i64 (k.1 : Int), .int .i64 (k.2 : Int)] w fun e w' => ∃ v', e = .returned v' ∧ RefP w' v' (addT [] (k, n)) ∧ Below w.heap.size w w' := by
 have HV := Lib.hid hv
 unfold RefV at hv
 obtain ⟨a, c, rfl, -, -⟩ := hv
 have hz : (digB 10 n).length = 0 ↔ n = 0 := by rw [List.length_eq_zero_iff, digB_nil (by decide)]
 obtain ⟨L, hL⟩ : ∃ L, L = (digB 10 n).length := ⟨_, rfl⟩
 rw [← hL] at HV hz ⊢
 clear hL
 rcases Nat.eq_zero_or_pos L with h0 | h0
 · have hn := hz.1 h0
   subst h0
   have ha : addT [] (k, n) = [] := by unfold addT; rw [if_pos hn]
   have HA := Lib.hid ha
   clear hz hn ha
   go_enter Tryz.func36, Tryz.ntmps36
   go_wp2_with fail
   go_ret
   exact ⟨_, rfl, by rw [HA.out]; exact refP_nil w, Below.refl _ _⟩
 · have ha : addT [] (k, n) = [(k, n)] := by unfold addT; rw [if_neg (by intro e; have := hz.2 e; omega)]; rfl
   have HA := Lib.hid ha
   have hb : ((L : Int) == 0) = false := by rw [beq_eq_false_iff_ne]; omega
   have hn0 : ¬ L = 0 := by omega
   clear hz ha
   go_enter Tryz.func36, Tryz.ntmps36
   go_wp2_with fail
   go_ret
   have hbl : Below w.heap.size w (w.alloc (.cells #[.slice a L c, .int .i64 (k.1 : Int), .int .i64 (k.2 : Int)] 104)) := (Below.refl _ _).alloc (Nat.le_refl _) _
   refine ⟨_, rfl, ?_, hbl⟩
   rw [HA.out]
   exact own_ref (own_one w (a, L, c) k) (tells_one _ a L c k n (HV.out.below hbl))
theorem own_take {B k c : Nat} {w : World} {a : Option Addr} {L : List (Sl × Ex)} (h : OwnT B w (.slice a L.length c) L) (hk : k ≤ L.length) : Rd tA 3 w.heap.size w (.slice a k c) (L.take k) := by
 have hr := h.rd elT
 obtain ⟨a', c', h1, h2⟩ := hr
 simp only [Value.slice.injEq] at h1
 obtain ⟨rfl, -, rfl⟩ := h1
 refine ⟨a, c, by rw [List.length_take, Nat.min_eq_left hk], ?_⟩
 rcases h2 with h2 | ⟨b, off, rfl, hb, hc⟩
 · exact .inl (by rw [h2]; simp)
 · refine .inr ⟨b, off, rfl, hb, fun i x hx => hc i x ?_⟩
   rw [List.getElem?_take] at hx
   split at hx
   · exact hx
   · cases hx
theorem own_cap {B c : Nat} {w : World} {a : Option Addr} {L : List (Sl × Ex)} (h : OwnT B w (.slice a L.length c) L) : L.length ≤ c := by
 rcases h.2 with ⟨h1, -⟩ | ⟨g, cap, cur, h1, -, -, hle, -⟩
 · simp only [Value.slice.injEq] at h1; omega
 · simp only [Value.slice.injEq] at h1; omega
theorem own_drop {B k c : Nat} {w : World} {a : Option Addr} {L : List (Sl × Ex)} (h : OwnT B w (.slice a L.length c) L) (hk : k ≤ L.length) : Rd tA 3 w.heap.size w (.slice (if c = k then a else a.map (·.add (k * 3))) (L.length - k) (c - k)) (L.drop k) := by
 have hcap := own_cap h
 have hr := h.rd elT
 obtain ⟨a', c', h1, h2⟩ := hr
 simp only [Value.slice.injEq] at h1
 obtain ⟨rfl, -, rfl⟩ := h1
 refine ⟨_, _, by rw [List.length_drop], ?_⟩
 by_cases hck : c = k
 · exact .inl (List.drop_eq_nil_of_le (by omega))
 · rw [if_neg hck]
   rcases h2 with h2 | ⟨b, off, rfl, hb, hc⟩
   · exact .inl (by rw [h2]; simp)
   · refine .inr ⟨b, off + k * 3, ?_, hb, fun i x hx j u hu => ?_⟩
     · show some ((⟨b, off, none⟩ : Addr).add (k * 3)) = _
       unfold Addr.add
       split <;> simp_all
     · rw [List.getElem?_drop] at hx
       have := hc (k + i) x hx j u hu
       rw [show off + (k + i) * 3 + j = off + k * 3 + i * 3 + j by omega] at this
       exact this
theorem own_shape {B c n : Nat} {w : World} {a : Option Addr} {L : List (Sl × Ex)} (h : OwnT B w (.slice a n c) L) : (a = none ∧ c = 0) ∨ ∃ ad, a = some ad := by
 rcases h.2 with ⟨h1, -⟩ | ⟨g, cap, cur, h1, -⟩
 · simp only [Value.slice.injEq] at h1; exact .inl ⟨h1.1, h1.2.2⟩
 · simp only [Value.slice.injEq] at h1; exact .inr ⟨_, h1.1⟩
theorem tells_ins {w : World} {L : List (Sl × Ex)} {P : Pol} (h : Tells w L P) {k n : Nat} {s : Sl} {e : Ex} (hk : k ≤ P.length) (hv : RefV w (slV s) n) : Tells w (L.take k ++ [(s, e)] ++ L.drop k) (P.take k ++ (e, n) :: P.drop k) := by
 have hl := h.len
 refine ⟨?_, fun i x y hx hy => ?_⟩
 · have h1 := congrArg (fun l : List Ex => l.take k) h.1
   have h2 := congrArg (fun l : List Ex => l.drop k) h.1
   simp only [← List.map_take, ← List.map_drop] at h1 h2
   simp only [List.map_append, List.map_cons, List.map_nil, h1, h2, List.append_assoc]
   rfl
 · rw [List.append_assoc] at hx
   rcases Nat.lt_trichotomy i k with hik | hik | hik
   · rw [List.getElem?_append_left (by rw [List.length_take]; omega), List.getElem?_take, if_pos hik] at hx hy
     exact h.2 i x y hx hy
   · rw [List.getElem?_append_right (by rw [List.length_take]; omega), List.length_take, show i - min k L.length = 0 by omega] at hx
     rw [List.getElem?_append_right (by rw [List.length_take]; omega), List.length_take, show i - min k P.length = 0 by omega] at hy
     simp at hx hy
     subst hx hy
     exact hv
   · rw [List.getElem?_append_right (by rw [List.length_take]; omega), List.length_take, show i - min k L.length = (i - k - 1) + 1 by omega] at hx
     rw [List.getElem?_append_right (by rw [List.length_take]; omega), List.length_take, show i - min k P.length = (i - k - 1) + 1 by omega] at hy
     have hx' : (L.drop k)[i - k - 1]? = some x := by simpa using hx
     have hy' : (P.drop k)[i - k - 1]? = some y := by simpa using hy
     rw [List.getElem?_drop] at hx' hy'
     exact h.2 _ x y hx' hy'
theorem refP_sl {w : World} {v : Value} {p : Pol} (h : RefP w v p) : ∃ a c, v = .slice a p.length c := by
 obtain ⟨L, h1, h2, -⟩ := h
 obtain ⟨a, c, rfl⟩ := h1.sl
 exact ⟨a, c, by rw [h2.len]⟩
theorem refP_at {w : World} {a : Option Addr} {n c : Nat} {p : Pol} (h : RefP w (.slice a n c) p) {i : Nat} {k : Ex} {m : Nat} (hi : p[i]? = some (k, m)) :
   ∃ b off s1 s2 s3, a = some ⟨b, off, none⟩ ∧ RefV w (.slice s1 s2 s3) m ∧ ∀ W, Below w.heap.size w W → W.cell? ⟨b, off + i * 3, none⟩ = some (.slice s1 s2 s3) ∧ W.cell? ⟨b, off + i * 3 + 1, none⟩ = some (.int .i64 (k.1 : Int)) ∧ W.cell? ⟨b, off + i * 3 + 2, none⟩ = some (.int .i64 (k.2 : Int)) := by
 obtain ⟨L, h1, h2, -⟩ := h
 have hl := h2.len
 have hil := (List.getElem?_eq_some_iff.1 hi).1
 obtain ⟨b, off, c', sx, hsl, hb, hsx, hcc⟩ := h1.at (i := i) (by omega)
 simp only [Value.slice.injEq] at hsl
 obtain ⟨rfl, -, rfl⟩ := hsl
 obtain ⟨s, k'⟩ := sx
 have hk : k' = k := by
   have h3 := congrArg (fun l : List Ex => l[i]?) h2.1
   simp only [List.getElem?_map, hsx, hi] at h3
   exact Option.some.inj h3
 subst hk
 refine ⟨b, off, s.1, s.2.1, s.2.2, rfl, h2.2 i _ _ hsx hi, fun W hW => ⟨hcc W hW 0 (slV s) rfl, hcc W hW 1 (.int .i64 (k'.1 : Int)) rfl, hcc W hW 2 (.int .i64 (k'.2 : Int)) rfl⟩⟩
end Go.Proofs.YtgnlebnpnpjfmaaGreatDoor
