/-
  Walks of the reference of sets: Has, With, And, Or.
-/
import Derived.Test.YtmmhngjndnonhaaGreatDoorDPlain
import Derived.Test.YtmmhngjndnonhaaGreatDoorDTree2
set_option linter.unusedSimpArgs false
set_option linter.unusedVariables false
namespace Go.Pal
open Go Go.RowKit
/-- A slice value reads xs a list of integers; nil or not where the list is empty. -/
def RdL (w : World) (v : Value) (ns : List Int) : Prop :=
  ∃ a c, v = .slice a ns.length c ∧ (ns = [] ∨ ∃ b off, a = some ⟨b, off, none⟩ ∧ b < w.heap.size ∧ ∀ (i : Nat) (z : Int), ns[i]? = some z → w.cell? ⟨b, off + i, none⟩ = some (.int .i64 z))
theorem RdL.below {w w' : World} {v : Value} {ns : List Int} (h : RdL w v ns) (hb : Below w.heap.size w w') : RdL w' v ns := by
  obtain ⟨a, c, hv, h⟩ := h
  refine ⟨a, c, hv, h.imp id ?_⟩
  rintro ⟨b, off, ha, hbB, hc⟩
  exact ⟨b, off, ha, Nat.lt_of_lt_of_le hbB hb.size, fun i z hz => (hb.cell (p := ⟨b, off + i, none⟩) hbB).trans (hc i z hz)⟩
theorem RdL.nil (w : World) : RdL w (.slice none 0 0) [] := ⟨none, 0, rfl, .inl rfl⟩
theorem RdL.at {w : World} {v : Value} {ns : List Int} (h : RdL w v ns) {k : Nat} (hk : k < ns.length) :
    ∃ b off c z, v = .slice (some ⟨b, off, none⟩) ns.length c ∧ ns[k]? = some z ∧ ∀ w', Below w.heap.size w w' → w'.cell? ⟨b, off + k, none⟩ = some (.int .i64 z) := by
  obtain ⟨a, c, hv, h⟩ := h
  rcases h with h | ⟨b, off, ha, hbB, hc⟩
  · rw [h] at hk; simp at hk
  · subst ha
    have hz : ns[k]? = some ns[k] := List.getElem?_eq_getElem hk
    exact ⟨b, off, c, _, hv, hz, fun w' hb => (hb.cell (p := ⟨b, off + k, none⟩) hbB).trans (hc k _ hz)⟩
def vLen : Value → Nat
  | .slice _ n _ => n
  | _ => 0
/-- The set whose elements a slice value reads xs. -/
def RdS (w : World) (v : Value) (S : Nat) : Prop := RdL w v (elemsI S) ∧ IsSet S
theorem RdS.below {w w' : World} {v : Value} {S : Nat} (h : RdS w v S) (hb : Below w.heap.size w w') : RdS w' v S := ⟨h.1.below hb, h.2⟩
/-- A slice value reads as a list of integers, in a block of which A holds. -/
def RdA (A : Nat → Prop) (w : World) (v : Value) (ns : List Int) : Prop :=
  ∃ a c, v = .slice a ns.length c ∧ (ns = [] ∨ ∃ b off, a = some ⟨b, off, none⟩ ∧ b < w.heap.size ∧ A b ∧ ∀ (i : Nat) (z : Int), ns[i]? = some z → w.cell? ⟨b, off + i, none⟩ = some (.int .i64 z))
theorem RdA.rdl {A : Nat → Prop} {w : World} {v : Value} {ns : List Int} (h : RdA A w v ns) : RdL w v ns := by
  obtain ⟨a, c, hv, h⟩ := h
  exact ⟨a, c, hv, h.imp id fun ⟨b, off, h1, h2, _, h3⟩ => ⟨b, off, h1, h2, h3⟩⟩
theorem RdL.rda {w : World} {v : Value} {ns : List Int} (h : RdL w v ns) : RdA (fun k => k < w.heap.size) w v ns := by
  obtain ⟨a, c, hv, h⟩ := h
  exact ⟨a, c, hv, h.imp id fun ⟨b, off, h1, h2, h3⟩ => ⟨b, off, h1, h2, h2, h3⟩⟩
theorem RdA.keep {A A' : Nat → Prop} {w w' : World} {v : Value} {ns : List Int} (h : RdA A w v ns) (hs : w.heap.size ≤ w'.heap.size) (hk : ∀ k, k < w.heap.size → A k → w'.heap[k]? = w.heap[k]? ∧ A' k) : RdA A' w' v ns := by
  obtain ⟨a, c, hv, h⟩ := h
  refine ⟨a, c, hv, h.imp id ?_⟩
  rintro ⟨b, off, h1, h2, hA, h3⟩
  obtain ⟨h5, h6⟩ := hk b h2 hA
  exact ⟨b, off, h1, by omega, h6, fun i z hz => (World.cell?_of_block h5).trans (h3 i z hz)⟩
theorem RdA.sl {A : Nat → Prop} {w : World} {v : Value} {ns : List Int} (h : RdA A w v ns) : ∃ a c, v = .slice a ns.length c := by
  obtain ⟨a, c, hv, _⟩ := h
  exact ⟨a, c, hv⟩
theorem RdA.below {A : Nat → Prop} {w w' : World} {v : Value} {ns : List Int} (h : RdA A w v ns) (hb : Below w.heap.size w w') : RdA A w' v ns := h.keep hb.size fun k hk hA => ⟨hb.block k hk, hA⟩
theorem RdA.mono {A A' : Nat → Prop} {w : World} {v : Value} {ns : List Int} (h : RdA A w v ns) (hA : ∀ k, A k → A' k) : RdA A' w v ns := h.keep (Nat.le_refl _) fun k _ hk => ⟨rfl, hA k hk⟩
theorem RdL.top {w : World} {v : Value} {ns : List Int} (h : RdL w v ns) : RdA (fun _ => True) w v ns := by
  obtain ⟨a, c, hv, h⟩ := h
  exact ⟨a, c, hv, h.imp id fun ⟨b, off, h1, h2, h3⟩ => ⟨b, off, h1, h2, trivial, h3⟩⟩
end Go.Pal
namespace Go.Proofs.YtmmhngjndnonhaaGreatDoor
open Go Go.RowKit Go.Pal

theorem OwnI.rdl {B : Nat} {w : World} {v : Value} {ns : List Int} (h : OwnI B w v ns) : RdL w v ns := by
  rcases h.2 with ⟨rfl, h2⟩ | ⟨g, cap, cur, rfl, hB, hg, _⟩
  · have := List.length_eq_zero_iff.1 h2
    subst this
    exact RdL.nil w
  · refine ⟨_, cap, rfl, .inr ⟨g, 0, rfl, (Array.getElem?_eq_some_iff.1 hg).1, fun i z hz => ?_⟩⟩
    have := World.ownsRow.cells (base := B) h (g := g) rfl i (.int .i64 z) (by rw [List.getElem?_map, hz]; rfl)
    have e : (⟨g, 0, none⟩ : Addr).add i = ⟨g, 0 + i, none⟩ := by unfold Addr.add; split <;> simp_all
    rwa [e] at this
theorem OwnI.empty {B : Nat} {w : World} (hB : B ≤ w.heap.size) : OwnI B (w.alloc (.cells #[] 3)) (.slice (some ⟨w.heap.size, 0, none⟩) 0 0) [] :=
  ⟨rfl, .inr ⟨w.heap.size, 0, #[], rfl, hB, heap_alloc_new _ _, Nat.le_refl _, by decide, rfl, rfl⟩⟩
theorem OwnI.sl {B : Nat} {w : World} {v : Value} {ns : List Int} (h : OwnI B w v ns) : ∃ a c, v = .slice a ns.length c := by
  obtain ⟨a, c, hv, _⟩ := h.rdl
  exact ⟨a, c, hv⟩
theorem OwnI.below {B C : Nat} {w w' : World} {v : Value} {ns : List Int} (h : OwnI B w v ns) (hb : Below C w w') (hC : w.heap.size ≤ C) : OwnI B w' v ns := by
  rcases h.2 with ⟨h1, h2⟩ | ⟨g, cap, cur, h1, hB, hg, r⟩
  · exact ⟨h.1, .inl ⟨h1, h2⟩⟩
  · have hlt := (Array.getElem?_eq_some_iff.1 hg).1
    exact ⟨h.1, .inr ⟨g, cap, cur, h1, hB, (hb.block g (by omega)).trans hg, r⟩⟩
theorem OwnI.rda {B : Nat} {w : World} {v : Value} {ns : List Int} (h : OwnI B w v ns) : RdA (fun k => B ≤ k) w v ns := by
  rcases h.2 with ⟨rfl, h2⟩ | ⟨g, cap, cur, rfl, hB, hg, _⟩
  · have := List.length_eq_zero_iff.1 h2
    subst this
    exact ⟨none, 0, rfl, .inl rfl⟩
  · refine ⟨_, cap, rfl, .inr ⟨g, 0, rfl, (Array.getElem?_eq_some_iff.1 hg).1, hB, fun i z hz => ?_⟩⟩
    have := World.ownsRow.cells (base := B) h (g := g) rfl i (.int .i64 z) (by rw [List.getElem?_map, hz]; rfl)
    have e : (⟨g, 0, none⟩ : Addr).add i = ⟨g, 0 + i, none⟩ := by unfold Addr.add; split <;> simp_all
    rwa [e] at this
theorem OwnI.lower {B B' : Nat} {w : World} {v : Value} {ns : List Int} (h : OwnI B w v ns) (hB : B' ≤ B) : OwnI B' w v ns := by
  obtain ⟨h1, h2⟩ := h
  refine ⟨h1, h2.imp id ?_⟩
  rintro ⟨g, cap, cur, hv, hb, r⟩
  exact ⟨g, cap, cur, hv, by omega, r⟩
/-- One integer appended to a row of the call's own, at any type of slices of integers. -/
theorem wp_appT {o : Oper} {a : Act} {K : Act → World → Prop} {Q : Exit → Act → World → Prop} {w : World} (st : TypeId) (hst : Tryz.prog.underlying st = some (.slice 3)) (s x : Operand)
    (ho : o.op = .call { callee := .builtin .append, args := #[s, x], argTypes := #[st, st] }) (B : Nat) (v : Value) (ns : List Int) (hs : a.eval s = v) (hown : OwnI B w v ns)
    (g : Nat) (z : Int) (c : Nat) (hx : a.eval x = .slice (some ⟨g, 0, none⟩) 1 c) (hg : w.cell? ⟨g, 0, none⟩ = some (.int .i64 z)) (hlen : ns.length < 1000000) (hB : B ≤ w.heap.size)
    (h : ∀ v' w', OwnI B w' v' (ns ++ [z]) → Below B w w' → K (a.put o.dst v') w') : o.wp Tryz.prog a w K Q := by
  obtain ⟨i0, hi, hz0, hz1, hz2⟩ := info_parts infoInt
  obtain ⟨v', w', hr, h2, h3, h4⟩ := run_append_own2 (P := Tryz.prog) w B st o.type 3 i0 (.int .i64 0) 1 8 hst hi hz0 hz1 hz2 rfl (by decide) v ns.length (ns.map (Value.int .i64)) hown ⟨g, 0, none⟩ 1 c (by decide) [.int .i64 z] rfl
    (fun j u hj => by
      cases j with
      | zero => simp at hj; subst hj; simpa [Addr.add] using hg
      | succ j => simp at hj) (fun u hu => by simp at hu; subst hu; rfl) (by unfold maxLen; omega) (by omega) hB
  unfold Oper.wp execOp
  simp only [ho, resolve, invoke, builtin, Sem.run_bind, Sem.run_pure, Result.andThen_ok, List.map_toArray, List.map_cons, List.map_nil, hs, hx, hr]
  refine h v' w' ?_ ((Below.refl B w).grown h3 hB hown.block)
  unfold OwnI
  simpa using h2
theorem wp_appT2 {o : Oper} {a : Act} {K : Act → World → Prop} {Q : Exit → Act → World → Prop} {w : World} (st : TypeId) (hst : Tryz.prog.underlying st = some (.slice 3)) (s x : Operand)
    (ho : o.op = .call { callee := .builtin .append, args := #[s, x], argTypes := #[st, st] }) (B : Nat) (v : Value) (ns : List Int) (hs : a.eval s = v) (hown : OwnI B w v ns)
    (g : Nat) (z : Int) (c : Nat) (hx : a.eval x = .slice (some ⟨g, 0, none⟩) 1 c) (hg : w.cell? ⟨g, 0, none⟩ = some (.int .i64 z)) (hlen : ns.length < 1000000) (hB : B ≤ w.heap.size)
    (h : ∀ v' w', OwnI B w' v' (ns ++ [z]) → Below B w w' → w.grownBy w' v.ownBlock → (v'.ownBlock = v.ownBlock ∨ v'.ownBlock = some w.heap.size) → K (a.put o.dst v') w') : o.wp Tryz.prog a w K Q := by
  obtain ⟨i0, hi, hz0, hz1, hz2⟩ := info_parts infoInt
  obtain ⟨v', w', hr, h2, h3, h4⟩ := run_append_own2 (P := Tryz.prog) w B st o.type 3 i0 (.int .i64 0) 1 8 hst hi hz0 hz1 hz2 rfl (by decide) v ns.length (ns.map (Value.int .i64)) hown ⟨g, 0, none⟩ 1 c (by decide) [.int .i64 z] rfl
    (fun j u hj => by
      cases j with
      | zero => simp at hj; subst hj; simpa [Addr.add] using hg
      | succ j => simp at hj) (fun u hu => by simp at hu; subst hu; rfl) (by unfold maxLen; omega) (by omega) hB
  unfold Oper.wp execOp
  simp only [ho, resolve, invoke, builtin, Sem.run_bind, Sem.run_pure, Result.andThen_ok, List.map_toArray, List.map_cons, List.map_nil, hs, hx, hr]
  refine h v' w' ?_ ((Below.refl B w).grown h3 hB hown.block) h3 h4
  unfold OwnI
  simpa using h2
theorem wpList_appT2 {ops : Array Oper} {rest : List Oper} {o : Oper} {a : Act} {Q : Exit → Act → World → Prop} {w : World} (hgd : o.guard = none) (st : TypeId) (hst : Tryz.prog.underlying st = some (.slice 3)) (s x : Operand)
    (ho : o.op = .call { callee := .builtin .append, args := #[s, x], argTypes := #[st, st] }) (B : Nat) (v : Value) (ns : List Int) (hs : a.eval s = v) (hown : OwnI B w v ns)
    (g : Nat) (z : Int) (c : Nat) (hx : a.eval x = .slice (some ⟨g, 0, none⟩) 1 c) (hg : w.cell? ⟨g, 0, none⟩ = some (.int .i64 z)) (hlen : ns.length < 1000000) (hB : B ≤ w.heap.size)
    (h : ∀ v' w', OwnI B w' v' (ns ++ [z]) → Below B w w' → w.grownBy w' v.ownBlock → (v'.ownBlock = v.ownBlock ∨ v'.ownBlock = some w.heap.size) → wpList Tryz.prog ops Q rest (a.put o.dst v') w') : wpList Tryz.prog ops Q (o :: rest) a w :=
  wpList_plain hgd fun _ hK => wp_appT2 st hst s x ho B v ns hs hown g z c hx hg hlen hB fun v' w' h1 h2 h3 h4 => hK _ _ (h v' w' h1 h2 h3 h4)
theorem OwnI.rdaOf {A : Nat → Prop} {B : Nat} {w : World} {v : Value} {ns : List Int} (h : OwnI B w v ns) (hA : ∀ k, v.ownBlock = some k → A k) : RdA A w v ns := by
  rcases h.2 with ⟨rfl, h2⟩ | ⟨g, cap, cur, rfl, hB, hg, _⟩
  · have := List.length_eq_zero_iff.1 h2
    subst this
    exact ⟨none, 0, rfl, .inl rfl⟩
  · refine ⟨_, cap, rfl, .inr ⟨g, 0, rfl, (Array.getElem?_eq_some_iff.1 hg).1, hA g rfl, fun i z hz => ?_⟩⟩
    have := World.ownsRow.cells (base := B) h (g := g) rfl i (.int .i64 z) (by rw [List.getElem?_map, hz]; rfl)
    have e : (⟨g, 0, none⟩ : Addr).add i = ⟨g, 0 + i, none⟩ := by unfold Addr.add; split <;> simp_all
    rwa [e] at this
theorem wpList_appT {ops : Array Oper} {rest : List Oper} {o : Oper} {a : Act} {Q : Exit → Act → World → Prop} {w : World} (hgd : o.guard = none) (st : TypeId) (hst : Tryz.prog.underlying st = some (.slice 3)) (s x : Operand)
    (ho : o.op = .call { callee := .builtin .append, args := #[s, x], argTypes := #[st, st] }) (B : Nat) (v : Value) (ns : List Int) (hs : a.eval s = v) (hown : OwnI B w v ns)
    (g : Nat) (z : Int) (c : Nat) (hx : a.eval x = .slice (some ⟨g, 0, none⟩) 1 c) (hg : w.cell? ⟨g, 0, none⟩ = some (.int .i64 z)) (hlen : ns.length < 1000000) (hB : B ≤ w.heap.size)
    (h : ∀ v' w', OwnI B w' v' (ns ++ [z]) → Below B w w' → wpList Tryz.prog ops Q rest (a.put o.dst v') w') : wpList Tryz.prog ops Q (o :: rest) a w :=
  wpList_plain hgd fun _ hK => wp_appT st hst s x ho B v ns hs hown g z c hx hg hlen hB fun v' w' h1 h2 => hK _ _ (h v' w' h1 h2)

set_option maxHeartbeats 400000 in
theorem rhas_any (ns : List Int) (v : Value) (n : Int) (w : World) (hv : RdL w v ns) (hlen : ns.length ≤ 1000000) :
    Calls Tryz.prog 81 #[v, .int .i64 n] w fun e w' => e = .returned (.bool (decide (n ∈ ns))) ∧ w' = w := by
  obtain ⟨a, c, rfl, hr⟩ := hv
  have HR := Lib.hid hr; clear hr
  go_enter Tryz.func81, Tryz.ntmps81
  go_wp2_with fail
  go_loop [5] (fun i => ∃ k : Nat, k ≤ ns.length ∧ i = .int .i64 (k : Int) ∧ n ∉ ns.take k) (fun i => ns.length - (intOf i).toNat)
  case atStart => exact ⟨0, by omega, rfl, by simp⟩
  case round =>
    obtain ⟨k, hk, rfl, hno⟩ := hrel
    have HN := Lib.hid hno; clear hno
    by_cases hlt : k < ns.length
    · obtain ⟨z, hz⟩ : ∃ z, ns[k]? = some z := ⟨_, List.getElem?_eq_getElem hlt⟩
      rcases HR.out with h | ⟨b, off, rfl, hbB, hc⟩
      · rw [h] at hlt; simp at hlt
      have hcell := hc k z hz
      have HZ := Lib.hid hz
      clear hc hz
      by_cases hzn : z = n
      · subst hzn
        go_wp2
        go_ret
        exact ⟨by rw [decide_eq_true (List.mem_of_getElem? HZ.out)]; rfl, rfl⟩
      · go_wp2
        go_round
        case rel => exact ⟨k + 1, by omega, by go_num, by rw [List.take_add_one, HZ.out]; simp [HN.out]; omega⟩
        case measure => simp [intOf]; omega
    · go_wp2
      go_ret
      have : k = ns.length := by omega
      rw [this, List.take_length] at HN
      exact ⟨by rw [decide_eq_false HN.out]; rfl, rfl⟩

theorem undR : Tryz.prog.underlying 68 = some (.slice 3) := Tryz.underlying68

set_option maxRecDepth 10000 in
set_option maxHeartbeats 1000000 in
theorem rwith_any (A : Nat → Prop) (S n : Nat) (v : Value) (w : World) (hA : ∀ k, w.heap.size ≤ k → A k) (hv : RdA A w v (elemsI S)) (hS : IsSet S) (hn : n < 1024) :
    Calls Tryz.prog 149 #[v, .int .i64 (n : Int)] w fun e w' => ∃ v', e = .returned v' ∧ RdA A w' v' (elemsI (sIns S n)) ∧ Below w.heap.size w w' := by
  have hlen := elemsI_length S
  have HVA := Lib.hid hv
  have HV := Lib.hid hv.rdl
  have HA := Lib.hid hA
  clear hA
  obtain ⟨a, c, rfl, -⟩ := hv
  have HS := Lib.hid hS
  have c1 : decide ((n : Int) < 0) = false := by simp
  have c2 : decide ((1023 : Int) < (n : Int)) = false := by simp; omega
  cases hb : S.testBit n with
  | true =>
    have hm : decide ((n : Int) ∈ elemsI S) = true := decide_eq_true ((mem_elemsI hS).2 hb)
    have hc : Hid (Calls Tryz.prog 81 #[.slice a (elemsI S).length c, .int .i64 (n : Int)] w fun e w' => e = .returned (.bool true) ∧ w' = w) := Lib.hid ((rhas_any _ _ _ w HV.out (by omega)).mono fun e w' h => by rw [hm] at h; exact h)
    have HB := Lib.hid hb
    clear hm hb hS
    go_enter Tryz.func149, Tryz.ntmps149
    go_wp2_with fail
    refine hc.out.mono ?_
    rintro e w1 ⟨rfl, rfl⟩
    clear hc
    go_wp2_with fail
    go_ret
    exact ⟨_, rfl, by rw [sIns_same HB.out]; exact HVA.out, Below.refl _ _⟩
  | false =>
    have hm : decide ((n : Int) ∈ elemsI S) = false := decide_eq_false fun h => by rw [(mem_elemsI hS)] at h; rw [hb] at h; cases h
    have hc : Hid (Calls Tryz.prog 81 #[.slice a (elemsI S).length c, .int .i64 (n : Int)] w fun e w' => e = .returned (.bool false) ∧ w' = w) := Lib.hid ((rhas_any _ _ _ w HV.out (by omega)).mono fun e w' h => by rw [hm] at h; exact h)
    have HB := Lib.hid hb
    obtain ⟨ns, hns⟩ : ∃ ns, ns = elemsI S := ⟨_, rfl⟩
    rw [← hns] at hc hlen ⊢
    have HRL := HV
    rw [← hns] at HRL
    have HNS := Lib.hid hns
    clear hm hb hS HV hns
    go_enter Tryz.func149, Tryz.ntmps149
    go_wp2_with fail
    refine hc.out.mono ?_
    rintro e w1 ⟨rfl, rfl⟩
    clear hc
    go_wp2_with fail
    go_loopw [5, 6, 7] (fun v d i wr => ∃ k : Nat, k ≤ ns.length ∧ i = .int .i64 (k : Int) ∧ d = .bool ((ns.take k).foldl (wStep n) ([], false)).2 ∧ OwnI w1.heap.size wr v ((ns.take k).foldl (wStep n) ([], false)).1 ∧ ((ns.take k).foldl (wStep n) ([], false)).1.length ≤ k + ((ns.take k).foldl (wStep n) ([], false)).2.toNat ∧ Below w1.heap.size w1 wr) (fun _ _ i _ => ns.length - (intOf i).toNat)
    case atStart => exact ⟨0, by omega, rfl, rfl, OwnI.empty (Nat.le_refl _), by simp, (Below.refl _ _).alloc (Nat.le_refl _) _⟩
    case round =>
      obtain ⟨k, hk, rfl, rfl, hO, hl, hb⟩ := hrel
      have hsz := hb.size
      have HO := Lib.hid hO
      have HB1 := Lib.hid hb
      clear hO hb
      by_cases hlt : k < ns.length
      · obtain ⟨b, off, c', z, hv, hz, hc⟩ := HRL.out.at hlt
        simp only [Value.slice.injEq] at hv
        obtain ⟨rfl, -, rfl⟩ := hv
        have HC := Lib.hid hc
        have hcell := hc wr HB1.out
        have hst : (ns.take (k + 1)).foldl (wStep n) ([], false) = wStep n ((ns.take k).foldl (wStep n) ([], false)) z := by rw [List.take_add_one, hz, List.foldl_append]; rfl
        obtain ⟨p, hp⟩ : ∃ p, p = (ns.take k).foldl (wStep n) ([], false) := ⟨_, rfl⟩
        rw [← hp] at hst HO hl ⊢
        obtain ⟨acc, d⟩ := p
        have HST := Lib.hid hst
        simp only at HO hl ⊢
        clear hc hz hst hp
        cases d with
        | true =>
          rw [Bool.toNat_true] at hl
          have hst2 : wStep n (acc, true) z = (acc ++ [z], true) := by simp [wStep]
          rw [hst2] at HST
          clear hst2
          go_wp2_with (at_builtin; refine wpList_appT rfl 68 undR _ _ rfl (w1.heap.size) _ (acc) rfl (HO.out.alloc _) _ (z) _ rfl (by simp [go_sem]) (by first | omega | (simp; omega)) (by simp; omega) ?_)
          intro v' w2 hO2 hb2
          obtain ⟨q2, cap2, rfl⟩ := hO2.sl
          have HO2 := Lib.hid hO2
          have HB2 := Lib.hid (((HB1.out).alloc (hsz) _).trans hb2)
          clear hO2 hb2
          go_wp2_with fail
          go_roundw
          case rel => exact ⟨k + 1, by omega, by go_num, by rw [HST.out], by rw [HST.out]; exact HO2.out, by rw [HST.out]; simp; omega, HB2.out⟩
          case measure => simp [intOf]; omega
        | false =>
          rw [Bool.toNat_false] at hl
          by_cases hnz : (n : Int) < z
          · have hst2 : wStep n (acc, false) z = (acc ++ [(n : Int), z], true) := by simp [wStep, hnz]
            rw [hst2] at HST
            clear hst2
            go_wp2_with (at_builtin; refine wpList_appT rfl 68 undR _ _ rfl (w1.heap.size) _ (acc) rfl (HO.out.alloc _) _ ((n : Int)) _ rfl (by simp [go_sem]) (by first | omega | (simp; omega)) (by simp; omega) ?_)
            intro v' w2 hO2 hb2
            obtain ⟨q2, cap2, rfl⟩ := hO2.sl
            have HO2 := Lib.hid hO2
            have HB2 := Lib.hid (((HB1.out).alloc (hsz) _).trans hb2)
            clear hO2 hb2
            have hs2 := HB2.out.size
            have hcell2 := HC.out w2 HB2.out
            clear hcell
            go_wp2_with (at_builtin; refine wpList_appT rfl 68 undR _ _ rfl (w1.heap.size) _ ((acc ++ [(n : Int)])) rfl (HO2.out.alloc _) _ (z) _ rfl (by simp [go_sem]) (by first | omega | (simp; omega)) (by simp; omega) ?_)
            intro v' w3 hO3 hb3
            have HO3 := Lib.hid hO3
            have HB3 := Lib.hid ((HB2.out.alloc hs2 _).trans hb3)
            clear hO3 hb3
            go_wp2_with fail
            go_roundw
            case rel => exact ⟨k + 1, by omega, by go_num, by rw [HST.out], by rw [HST.out]; exact HO3.out, by rw [HST.out]; simp; omega, HB3.out⟩
            case measure => simp [intOf]; omega
          · have hst2 : wStep n (acc, false) z = (acc ++ [z], false) := by simp [wStep, hnz]
            rw [hst2] at HST
            clear hst2
            go_wp2_with (at_builtin; refine wpList_appT rfl 68 undR _ _ rfl (w1.heap.size) _ (acc) rfl (HO.out.alloc _) _ (z) _ rfl (by simp [go_sem]) (by first | omega | (simp; omega)) (by simp; omega) ?_)
            intro v' w2 hO2 hb2
            obtain ⟨q2, cap2, rfl⟩ := hO2.sl
            have HO2 := Lib.hid hO2
            have HB2 := Lib.hid (((HB1.out).alloc (hsz) _).trans hb2)
            clear hO2 hb2
            go_wp2_with fail
            go_roundw
            case rel => exact ⟨k + 1, by omega, by go_num, by rw [HST.out], by rw [HST.out]; exact HO2.out, by rw [HST.out]; simp; omega, HB2.out⟩
            case measure => simp [intOf]; omega
      · have hkn : k = ns.length := by omega
        subst hkn
        rw [List.take_length] at HO hl ⊢
        have hfin := wEnd_foldl n ns []
        obtain ⟨p, hp⟩ : ∃ p, p = ns.foldl (wStep n) ([], false) := ⟨_, rfl⟩
        rw [← hp] at hfin HO hl ⊢
        obtain ⟨acc, d⟩ := p
        have HF := Lib.hid hfin
        simp only at HO hl ⊢
        clear hp hfin
        have hend : wEnd n (acc, d) = elemsI (sIns S n) := by rw [HF.out, List.nil_append, HNS.out]; exact insL_elemsI HS.out hn HB.out
        have HE := Lib.hid hend
        clear hend
        cases d with
        | true =>
          rw [Bool.toNat_true] at hl
          go_wp2_with fail
          go_ret
          exact ⟨_, rfl, by rw [← HE.out]; exact HO.out.rda.mono HA.out, HB1.out⟩
        | false =>
          rw [Bool.toNat_false] at hl
          go_wp2_with (at_builtin; refine wpList_appT rfl 68 undR _ _ rfl (w1.heap.size) _ (acc) rfl (HO.out.alloc _) _ ((n : Int)) _ rfl (by simp [go_sem]) (by first | omega | (simp; omega)) (by simp; omega) ?_)
          intro v' w2 hO2 hb2
          obtain ⟨q2, cap2, rfl⟩ := hO2.sl
          have HO2 := Lib.hid hO2
          have HB2 := Lib.hid (((HB1.out).alloc (hsz) _).trans hb2)
          clear hO2 hb2
          go_wp2_with fail
          go_ret
          exact ⟨_, rfl, by rw [← HE.out]; exact HO2.out.rda.mono HA.out, HB2.out⟩

set_option maxRecDepth 10000 in
set_option maxHeartbeats 1000000 in
theorem rand_any (A B : Nat) (va vb : Value) (w : World) (ha : RdS w va A) (hb : RdS w vb B) :
    Calls Tryz.prog 79 #[va, vb] w fun e w' => ∃ v', e = .returned v' ∧ RdA (fun k => w.heap.size ≤ k) w' v' (elemsI (A &&& B)) ∧ Below w.heap.size w w' := by
  obtain ⟨ha, hA⟩ := ha
  obtain ⟨hb, hB⟩ := hb
  have hla := elemsI_length A
  have hlb := elemsI_length B
  have hres := elemsI_and hA hB
  obtain ⟨xs, has⟩ : ∃ l, l = elemsI A := ⟨_, rfl⟩
  obtain ⟨bs, hbs⟩ : ∃ l, l = elemsI B := ⟨_, rfl⟩
  rw [← has] at ha hla hres
  rw [← hbs] at hb hlb hres
  have HA := Lib.hid ha
  have HBV := Lib.hid hb
  have HRES := Lib.hid hres
  obtain ⟨a, c, rfl, -⟩ := ha
  obtain ⟨a2, c2, rfl, -⟩ := hb
  clear has hbs hA hB hres
  go_enter Tryz.func79, Tryz.ntmps79
  go_wp2_with fail
  go_loopw [5, 6] (fun v i wr => ∃ k : Nat, k ≤ xs.length ∧ i = .int .i64 (k : Int) ∧ OwnI w.heap.size wr v ((xs.take k).filter fun z => decide (z ∈ bs)) ∧ Below w.heap.size w wr) (fun _ i _ => xs.length - (intOf i).toNat)
  case atStart => exact ⟨0, by omega, rfl, OwnI.empty (Nat.le_refl _), (Below.refl _ _).alloc (Nat.le_refl _) _⟩
  case round =>
    obtain ⟨k, hk, rfl, hO, hb⟩ := hrel
    have hsz := hb.size
    have HO := Lib.hid hO
    have HB1 := Lib.hid hb
    clear hO hb
    by_cases hlt : k < xs.length
    · obtain ⟨b, off, c', z, hv, hz, hc⟩ := HA.out.at hlt
      simp only [Value.slice.injEq] at hv
      obtain ⟨rfl, -, rfl⟩ := hv
      have hcell := hc wr HB1.out
      have hst : (xs.take (k + 1)).filter (fun z => decide (z ∈ bs)) = (xs.take k).filter (fun z => decide (z ∈ bs)) ++ if z ∈ bs then [z] else [] := by
        rw [List.take_add_one, hz, List.filter_append]
        congr 1
        by_cases h : z ∈ bs <;> simp [h]
      have HST := Lib.hid hst
      have hbl := HBV.out.below HB1.out
      have hlf : ((xs.take k).filter fun z => decide (z ∈ bs)).length ≤ k := Nat.le_trans (List.length_filter_le _ _) (List.length_take_le _ _)
      obtain ⟨acc, hacc⟩ : ∃ acc, acc = (xs.take k).filter fun z => decide (z ∈ bs) := ⟨_, rfl⟩
      rw [← hacc] at HST HO hlf
      clear hc hz hst hacc
      by_cases hm : z ∈ bs
      · rw [if_pos hm] at HST
        have hc2 : Hid (Calls Tryz.prog 81 #[.slice a2 bs.length c2, .int .i64 z] wr fun e w' => e = .returned (.bool true) ∧ w' = wr) := Lib.hid ((rhas_any _ _ _ wr hbl (by omega)).mono fun e w' h => by rw [decide_eq_true hm] at h; exact h)
        clear hbl hm
        go_wp2_with fail
        refine hc2.out.mono ?_
        rintro e w1 ⟨rfl, rfl⟩
        clear hc2
        go_wp2_with (at_builtin; refine wpList_appT rfl 68 undR _ _ rfl (w.heap.size) _ (acc) rfl (HO.out.alloc _) _ (z) _ rfl (by simp [go_sem]) (by first | omega | (simp; omega)) (by simp; omega) ?_)
        intro v' w2 hO2 hb2
        obtain ⟨q2, cap2, rfl⟩ := hO2.sl
        have HO2 := Lib.hid hO2
        have HB2 := Lib.hid (((HB1.out).alloc (hsz) _).trans hb2)
        clear hO2 hb2
        go_wp2_with fail
        go_roundw
        case rel => exact ⟨k + 1, by omega, by go_num, by rw [HST.out]; exact HO2.out, HB2.out⟩
        case measure => simp [intOf]; omega
      · rw [if_neg hm, List.append_nil] at HST
        have hc2 : Hid (Calls Tryz.prog 81 #[.slice a2 bs.length c2, .int .i64 z] wr fun e w' => e = .returned (.bool false) ∧ w' = wr) := Lib.hid ((rhas_any _ _ _ wr hbl (by omega)).mono fun e w' h => by rw [decide_eq_false hm] at h; exact h)
        clear hbl hm
        go_wp2_with fail
        refine hc2.out.mono ?_
        rintro e w1 ⟨rfl, rfl⟩
        clear hc2
        go_wp2_with fail
        go_roundw
        case rel => exact ⟨k + 1, by omega, by go_num, by rw [HST.out]; exact HO.out, HB1.out⟩
        case measure => simp [intOf]; omega
    · have hkn : k = xs.length := by omega
      subst hkn
      rw [List.take_length, HRES.out] at HO
      go_wp2_with fail
      go_ret
      exact ⟨_, rfl, HO.out.rda, HB1.out⟩

set_option maxRecDepth 10000 in
set_option maxHeartbeats 1000000 in
theorem ror_any (P : Nat → Prop) (A B : Nat) (va vb : Value) (w : World) (hP : ∀ k, w.heap.size ≤ k → P k) (ha : RdA P w va (elemsI A)) (hA : IsSet A) (hb : RdS w vb B) :
    Calls Tryz.prog 78 #[va, vb] w fun e w' => ∃ v', e = .returned v' ∧ RdA P w' v' (elemsI (A ||| B)) ∧ Below w.heap.size w w' := by
  have hla := elemsI_length B
  have HA := Lib.hid ha
  have HSA := Lib.hid hA
  have HP := Lib.hid hP
  have HBV := Lib.hid hb.1
  have HSB := Lib.hid hb.2
  obtain ⟨a, c, rfl, -⟩ := ha
  obtain ⟨⟨a2, c2, rfl, -⟩, -⟩ := hb
  clear hA hP
  go_enter Tryz.func78, Tryz.ntmps78
  go_wp2_with fail
  go_loopw [5, 6] (fun v i wr => ∃ k : Nat, k ≤ (elemsI B).length ∧ i = .int .i64 (k : Int) ∧ RdA P wr v (elemsI (((elems B).take k).foldl sIns A)) ∧ Below w.heap.size w wr) (fun _ i _ => (elemsI B).length - (intOf i).toNat)
  case atStart => exact ⟨0, by omega, rfl, HA.out, Below.refl _ _⟩
  case round =>
    obtain ⟨k, hk, rfl, hO, hb⟩ := hrel
    have hsz := hb.size
    have HO := Lib.hid hO
    have HB1 := Lib.hid hb
    clear hb
    by_cases hlt : k < (elemsI B).length
    · obtain ⟨b, off, c', z, hv, hz, hc⟩ := HBV.out.at hlt
      simp only [Value.slice.injEq] at hv
      obtain ⟨rfl, -, rfl⟩ := hv
      obtain ⟨n, hn, rfl, hn1⟩ := elemsI_get hz
      have hcell := hc wr HB1.out
      have hst : ((elems B).take (k + 1)).foldl sIns A = sIns (((elems B).take k).foldl sIns A) n := by rw [List.take_add_one, hn, List.foldl_append]; rfl
      have HST := Lib.hid hst
      obtain ⟨a3, c3, rfl, -⟩ := hO
      have hset : IsSet (((elems B).take k).foldl sIns A) := isSet_foldl (fun x hx => elems_lt (List.mem_of_mem_take hx)) HSA.out
      have HSET := Lib.hid hset
      clear hset
      clear hc hz hst hn
      go_wp2_with fail
      refine (rwith_any P _ n _ wr (fun k hk => HP.out k (Nat.le_trans hsz hk)) HO.out HSET.out hn1).mono ?_
      rintro e w1 ⟨v1, rfl, hv1, hb1⟩
      have HV1 := Lib.hid hv1
      have HB2 := Lib.hid (HB1.out.trans (hb1.mono hsz))
      clear hv1 hb1
      go_wp2_with fail
      go_roundw
      case rel => exact ⟨k + 1, by omega, by go_num, by rw [HST.out]; exact HV1.out, HB2.out⟩
      case measure => simp [intOf]; omega
    · have hkn : k = (elemsI B).length := by omega
      subst hkn
      rw [show (elemsI B).length = (elems B).length by simp [elemsI], List.take_length, foldl_sIns_or HSB.out] at HO
      clear hO
      go_wp2_with fail
      go_ret
      exact ⟨_, rfl, HO.out, HB1.out⟩
end Go.Proofs.YtmmhngjndnonhaaGreatDoor
