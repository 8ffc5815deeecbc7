/-
  The reference's tree of bags in memory; a tree of bags turned into it.
  Walks: the reference's comparison of sets (Cmp, Same), of trees of bags (Same).
-/
import Derived.Test.YtpflnkedolmamaaGreatDoorQRef1
import Derived.Test.YtpflnkedolmamaaGreatDoorQRule
namespace Go.Pal
open Go Go.RowKit
/-- A slice value reads as the reference's tree of bags. -/
def RefT (w : World) (v : Value) (T : List Bg) : Prop :=
  ∃ a c, v = .slice a T.length c ∧ (T = [] ∨ ∃ b off, a = some ⟨b, off, none⟩ ∧ b < w.heap.size ∧ ∀ (i : Nat) (x : Bg), T[i]? = some x → w.cell? ⟨b, off + i * 2, none⟩ = some (.int .i64 x.1) ∧ ∃ hv, w.cell? ⟨b, off + i * 2 + 1, none⟩ = some hv ∧ RdS w hv x.2)
theorem RefT.below {w w' : World} {v : Value} {T : List Bg} (h : RefT w v T) (hb : Below w.heap.size w w') : RefT w' v T := by
  obtain ⟨a, c, hv, h⟩ := h
  refine ⟨a, c, hv, h.imp id ?_⟩
  rintro ⟨b, off, ha, hbB, hc⟩
  refine ⟨b, off, ha, Nat.lt_of_lt_of_le hbB hb.size, fun i x hx => ?_⟩
  obtain ⟨h1, hv, h2, h3⟩ := hc i x hx
  exact ⟨(hb.cell (p := ⟨b, off + i * 2, none⟩) hbB).trans h1, hv, (hb.cell (p := ⟨b, off + i * 2 + 1, none⟩) hbB).trans h2, h3.below hb⟩
/-- One bag of it, in every later world. -/
theorem RefT.at {w : World} {v : Value} {T : List Bg} (h : RefT w v T) {k : Nat} (hk : k < T.length) :
    ∃ b off c p S q cap, v = .slice (some ⟨b, off, none⟩) T.length c ∧ T[k]? = some (p, S) ∧ IsSet S ∧ ∀ w', Below w.heap.size w w' → w'.cell? ⟨b, off + k * 2, none⟩ = some (.int .i64 p) ∧ w'.cell? ⟨b, off + k * 2 + 1, none⟩ = some (.slice q (elemsI S).length cap) ∧ RdS w' (.slice q (elemsI S).length cap) S := by
  obtain ⟨a, c, hv, h⟩ := h
  rcases h with h | ⟨b, off, ha, hbB, hc⟩
  · rw [h] at hk; simp at hk
  · subst ha
    have hx : T[k]? = some T[k] := List.getElem?_eq_getElem hk
    generalize T[k] = x at hx
    obtain ⟨p, S⟩ := x
    obtain ⟨h1, hv', h2, h3⟩ := hc k _ hx
    obtain ⟨q, cap, rfl, -⟩ := h3.1
    exact ⟨b, off, c, p, S, q, cap, hv, hx, h3.2, fun w' hb => ⟨(hb.cell (p := ⟨b, off + k * 2, none⟩) hbB).trans h1, (hb.cell (p := ⟨b, off + k * 2 + 1, none⟩) hbB).trans h2, h3.below hb⟩⟩
def refC (L : List (Int × Value)) : List Value := L.flatMap fun x => [.int .i64 x.1, x.2]
theorem refC_length (L : List (Int × Value)) : (refC L).length = L.length * 2 := by
  induction L with
  | nil => rfl
  | cons x N ih =>
    simp only [refC, List.flatMap_cons, List.length_append, List.length_cons, List.length_nil] at ih ⊢
    omega
theorem refC_append (N M : List (Int × Value)) : refC (N ++ M) = refC N ++ refC M := by simp [refC]
theorem refC_get {L : List (Int × Value)} {k : Nat} {x : Int × Value} (hx : L[k]? = some x) : (refC L)[k * 2]? = some (.int .i64 x.1) ∧ (refC L)[k * 2 + 1]? = some x.2 := by
  induction L generalizing k with
  | nil => simp at hx
  | cons y N ih =>
    rw [show refC (y :: N) = [.int .i64 y.1, y.2] ++ refC N from rfl]
    cases k with
    | zero =>
      simp at hx
      subst hx
      exact ⟨rfl, rfl⟩
    | succ k =>
      have h := ih (k := k) (by simpa using hx)
      rw [List.getElem?_append_right (by simp; omega), List.getElem?_append_right (by simp; omega)]
      simp only [List.length_cons, List.length_nil]
      rw [show (k + 1) * 2 - (0 + 1 + 1) = k * 2 by omega, show (k + 1) * 2 + 1 - (0 + 1 + 1) = k * 2 + 1 by omega]
      exact h
end Go.Pal
namespace Go.Proofs.YtpflnkedolmamaaGreatDoor
open Go Go.RowKit Go.Pal

theorem infoRB : (Tryz.prog.info? 98).map (fun i => (i.zero, i.size, i.bytes)) = some (some (.agg #[.int .i64 0, .slice none 0 0]), 2, 32) := by kernel_rfl
@[go_sem ↓ high] theorem build_rB (p : Int) (a : Option Addr) (n c : Nat) (w : World) : (Instr.build 98 #[(0, .int .i64 p), (1, .slice a n c)]).run Tryz.prog w = .ok (.agg #[.int .i64 p, .slice a n c]) w := by kernel_rfl
@[go_sem ↓ high] theorem buildSlice_rB (p : Int) (a : Option Addr) (n c : Nat) (w : World) : (Instr.buildSlice 26 1 #[(0, .agg #[.int .i64 p, .slice a n c])]).run Tryz.prog w = .ok (.slice (some ⟨w.heap.size, 0, none⟩) 1 1) (w.alloc (.cells #[.int .i64 p, .slice a n c] 98)) := by kernel_rfl
def OwnRB (B : Nat) (w : World) (v : Value) (L : List (Int × Value)) : Prop := w.ownsRow B 98 2 v L.length (refC L)
theorem OwnRB.block {B : Nat} {w : World} {v : Value} {N : List (Int × Value)} (h : OwnRB B w v N) : ∀ k, v.ownBlock = some k → B ≤ k := fun k hk => (World.ownsRow.lt (base := B) h k hk).1
theorem OwnRB.alloc {B : Nat} {w : World} {v : Value} {N : List (Int × Value)} (h : OwnRB B w v N) (o : Obj) : OwnRB B (w.alloc o) v N := World.ownsRow.alloc (base := B) h o
theorem OwnRB.below {B C : Nat} {w w' : World} {v : Value} {N : List (Int × Value)} (h : OwnRB B w v N) (hb : Below C w w') (hC : w.heap.size ≤ C) : OwnRB B w' v N := by
  rcases h.2 with ⟨h1, h2⟩ | ⟨g, cap, cur, h1, hB, hg, r⟩
  · exact ⟨h.1, .inl ⟨h1, h2⟩⟩
  · have hlt := (Array.getElem?_eq_some_iff.1 hg).1
    exact ⟨h.1, .inr ⟨g, cap, cur, h1, hB, (hb.block g (by omega)).trans hg, r⟩⟩
theorem OwnRB.sl {B : Nat} {w : World} {v : Value} {N : List (Int × Value)} (h : OwnRB B w v N) : ∃ a c, v = .slice a N.length c := by
  rcases h.2 with ⟨h1, h2⟩ | ⟨g, cap, cur, h1, _⟩
  · exact ⟨none, 0, by rw [h1, h2]⟩
  · exact ⟨_, _, h1⟩
theorem wp_appRB {o : Oper} {a : Act} {K : Act → World → Prop} {Q : Exit → Act → World → Prop} {w : World} (s x : Operand)
    (ho : o.op = .call { callee := .builtin .append, args := #[s, x], argTypes := #[26, 26] }) (B : Nat) (v : Value) (L : List (Int × Value)) (hs : a.eval s = v) (hown : OwnRB B w v L)
    (g : Nat) (p : Int) (q : Option Addr) (n cap c : Nat) (hx : a.eval x = .slice (some ⟨g, 0, none⟩) 1 c) (hg : row? w g = some #[.int .i64 p, .slice q n cap]) (hlen : L.length < 1000000) (hB : B ≤ w.heap.size)
    (h : ∀ v' w', OwnRB B w' v' (L ++ [(p, .slice q n cap)]) → w.grownBy w' v.ownBlock → (v'.ownBlock = v.ownBlock ∨ v'.ownBlock = some w.heap.size) → Below B w w' → K (a.put o.dst v') w') : o.wp Tryz.prog a w K Q := by
  obtain ⟨i0, hi, hz0, hz1, hz2⟩ := info_parts infoRB
  obtain ⟨v', w', hr, h2, h3, h4⟩ := run_append_own2 (P := Tryz.prog) w B 26 o.type 98 i0 _ 2 32 Tryz.underlying26 hi hz0 hz1 hz2 rfl (by decide) v L.length (refC L) hown ⟨g, 0, none⟩ 1 c (by decide) [.int .i64 p, .slice q n cap] rfl
    (fun j u hj => by
      have : (⟨g, 0, none⟩ : Addr).add j = ⟨g, j, none⟩ := by unfold Addr.add; split <;> simp_all
      rw [this, cell?_row hg]
      simpa using hj) (fun u hu => by simp at hu; rcases hu with rfl | rfl <;> rfl) (by unfold maxLen; omega) (by omega) hB
  unfold Oper.wp execOp
  simp only [ho, resolve, invoke, builtin, Sem.run_bind, Sem.run_pure, Result.andThen_ok, List.map_toArray, List.map_cons, List.map_nil, hs, hx, hr]
  refine h v' w' ?_ h3 h4 ((Below.refl B w).grown h3 hB hown.block)
  unfold OwnRB
  rw [List.length_append, refC_append]
  simpa [refC] using h2
theorem wpList_appRB {ops : Array Oper} {rest : List Oper} {o : Oper} {a : Act} {Q : Exit → Act → World → Prop} {w : World} (hgd : o.guard = none) (s x : Operand)
    (ho : o.op = .call { callee := .builtin .append, args := #[s, x], argTypes := #[26, 26] }) (B : Nat) (v : Value) (L : List (Int × Value)) (hs : a.eval s = v) (hown : OwnRB B w v L)
    (g : Nat) (p : Int) (q : Option Addr) (n cap c : Nat) (hx : a.eval x = .slice (some ⟨g, 0, none⟩) 1 c) (hg : row? w g = some #[.int .i64 p, .slice q n cap]) (hlen : L.length < 1000000) (hB : B ≤ w.heap.size)
    (h : ∀ v' w', OwnRB B w' v' (L ++ [(p, .slice q n cap)]) → w.grownBy w' v.ownBlock → (v'.ownBlock = v.ownBlock ∨ v'.ownBlock = some w.heap.size) → Below B w w' → wpList Tryz.prog ops Q rest (a.put o.dst v') w') : wpList Tryz.prog ops Q (o :: rest) a w :=
  wpList_plain hgd fun _ hK => wp_appRB s x ho B v L hs hown g p q n cap c hx hg hlen hB fun v' w' h1 h2 h3 h4 => hK _ _ (h v' w' h1 h2 h3 h4)
theorem OwnRB.lt {B : Nat} {w : World} {v : Value} {N : List (Int × Value)} (h : OwnRB B w v N) : ∀ k, v.ownBlock = some k → k < w.heap.size := fun k hk => (World.ownsRow.lt (base := B) h k hk).2
/-- Bags built so far: each with the set that its value reads as, in a block apart from A's. -/
def Built (A : Nat → Prop) (w : World) (L : List (Int × Value)) (T : List Bg) : Prop :=
  L.length = T.length ∧ ∀ (i : Nat) (x : Bg) (y : Int × Value), T[i]? = some x → L[i]? = some y → y.1 = x.1 ∧ RdA A w y.2 (elemsI x.2) ∧ IsSet x.2
theorem Built.ref {A : Nat → Prop} {B : Nat} {w : World} {v : Value} {L : List (Int × Value)} {T : List Bg} (hO : OwnRB B w v L) (h : Built A w L T) : RefT w v T := by
  obtain ⟨hl, h⟩ := h
  rcases hO.2 with ⟨rfl, h2⟩ | ⟨g, cap, cur, rfl, hB, hg, _⟩
  · have : T = [] := List.length_eq_zero_iff.1 (by omega)
    subst this
    exact ⟨none, 0, rfl, .inl rfl⟩
  · refine ⟨_, cap, by rw [hl], .inr ⟨g, 0, rfl, (Array.getElem?_eq_some_iff.1 hg).1, fun i x hx => ?_⟩⟩
    have hi : i < L.length := by rw [hl]; exact (List.getElem?_eq_some_iff.1 hx).1
    have hy : L[i]? = some L[i] := List.getElem?_eq_getElem hi
    generalize L[i] = y at hy
    obtain ⟨e1, e2, e3⟩ := h i x y hx hy
    obtain ⟨c1, c2⟩ := refC_get hy
    have k1 := World.ownsRow.cells (base := B) hO (g := g) rfl _ _ c1
    have k2 := World.ownsRow.cells (base := B) hO (g := g) rfl _ _ c2
    have a1 : (⟨g, 0, none⟩ : Addr).add (i * 2) = ⟨g, 0 + i * 2, none⟩ := by unfold Addr.add; split <;> simp_all
    have a2 : (⟨g, 0, none⟩ : Addr).add (i * 2 + 1) = ⟨g, 0 + i * 2 + 1, none⟩ := by unfold Addr.add; split <;> simp_all
    rw [a1] at k1
    rw [a2] at k2
    exact ⟨by rw [k1, e1], y.2, k2, e2.rdl, e3⟩
theorem Built.keep {A A' : Nat → Prop} {w w' : World} {L : List (Int × Value)} {T : List Bg} (h : Built A w L T) (hs : w.heap.size ≤ w'.heap.size) (hk : ∀ k, k < w.heap.size → A k → w'.heap[k]? = w.heap[k]? ∧ A' k) : Built A' w' L T :=
  ⟨h.1, fun i x y hx hy => ⟨(h.2 i x y hx hy).1, (h.2 i x y hx hy).2.1.keep hs hk, (h.2 i x y hx hy).2.2⟩⟩
theorem Built.snoc {A : Nat → Prop} {w : World} {L : List (Int × Value)} {T : List Bg} (h : Built A w L T) {p : Int} {S : Nat} {v : Value} (hv : RdA A w v (elemsI S)) (hS : IsSet S) : Built A w (L ++ [(p, v)]) (T ++ [(p, S)]) := by
  refine ⟨by simp [h.1], fun i x y hx hy => ?_⟩
  by_cases hi : i < T.length
  · rw [List.getElem?_append_left hi] at hx
    rw [List.getElem?_append_left (by rw [h.1]; exact hi)] at hy
    exact h.2 i x y hx hy
  · rw [List.getElem?_append_right (by omega)] at hx
    rw [List.getElem?_append_right (by rw [h.1]; omega), h.1] at hy
    cases hj : i - T.length with
    | zero =>
      rw [hj] at hx hy
      simp at hx hy
      subst hx
      subst hy
      exact ⟨rfl, hv, hS⟩
    | succ j => rw [hj] at hx; simp at hx

set_option maxRecDepth 10000 in
set_option maxHeartbeats 2000000 in
theorem l26To_any (T : List Bg) (v : Value) (w : World) (hv : Rd bagA 17 w.heap.size w v T) (hlen : T.length ≤ 65536) (hS : ∀ x ∈ T, IsSet x.2) :
    Calls Tryz.prog 13 #[v] w fun e w' => ∃ v', e = .returned v' ∧ RefT w' v' T ∧ Below w.heap.size w w' := by
  obtain ⟨a, c, rfl, hr⟩ := hv
  have HR := Lib.hid hr; clear hr
  have HS := Lib.hid hS; clear hS
  go_enter Tryz.func13, Tryz.ntmps13
  go_wp2_with fail
  go_loopw [3, 4] (fun v i wr => ∃ k : Nat, k ≤ T.length ∧ i = .int .i64 (k : Int) ∧ (∃ L, OwnRB w.heap.size wr v L ∧ Built (fun k => some k ≠ v.ownBlock) wr L (T.take k)) ∧ Below w.heap.size w wr) (fun _ i _ => T.length - (intOf i).toNat)
  case atStart => exact ⟨0, by omega, rfl, ⟨[], World.ownsRow_nil _ _ _ _, rfl, fun i x y hx => by simp at hx⟩, Below.refl _ _⟩
  case round =>
    obtain ⟨k, hk, rfl, ⟨L, hO, hB⟩, hb⟩ := hrel
    have hsz := hb.size
    have HO := Lib.hid hO
    have HBu := Lib.hid hB
    have HB1 := Lib.hid hb
    have hll := hB.1
    rw [List.length_take, Nat.min_eq_left hk] at hll
    by_cases hlt : k < T.length
    · obtain ⟨x, hx⟩ : ∃ x, T[k]? = some x := ⟨_, List.getElem?_eq_getElem hlt⟩
      have HX := Lib.hid hx
      have hSx := HS.out x (List.mem_of_getElem? hx)
      rcases HR.out with h | ⟨b, off, rfl, hbB, hc⟩
      · rw [h] at hlt; simp at hlt
      have hl : ∀ W, Below w.heap.size w W → rowLoad Tryz.prog 33 ⟨b, off + k * 17 + 1, none⟩ W = .ok (.agg (words x.2)) W ∧ W.cell? ⟨b, off + k * 17, none⟩ = some (.int .i64 x.1) := fun W h => (tree_load hc h hbB hx).2
      have HLD := Lib.hid hl
      clear hx hc hO hB hb hl
      go_wp2_with fail
      refine wp_region_mix (fun W => Below w.heap.size w W) 14 [(0, true), (1, true), (2, true), (3, true), (4, true), (5, true), (6, true), (7, true), (8, true), (9, true), (10, true), (11, false), (12, true), (13, false)] (by kernel_rfl) (by kernel_rfl) HB1.out.drew ?_
      repeat (apply wpPlan_still rfl rfl; (intro w hw; obtain ⟨k1, k2⟩ := HLD.out _ hw; clear hw; go_simp; (try go_ints); (first | with_reducible rfl | (go_simp; with_reducible rfl))); (intro K hK; go_simp; (try go_ints); refine hK _ _ ?_; clear hK K))
      apply wpPlan_act rfl rfl
      intro K hK
      unfold Oper.wp
      go_simp
      refine (l01To_any x.2 wr.drew).mono ?_
      rintro e w2 ⟨v2, rfl, hO2, hb2⟩
      have hs2 := hb2.size
      simp only [World.size_drew] at hO2 hb2 hs2
      have hB2 : Below w.heap.size w w2 := HB1.out.drew.trans (hb2.mono hsz)
      replace hb2 : Below wr.heap.size wr w2 := ((Below.refl _ wr).drew).trans hb2
      have hbl : ∀ k, k < wr.heap.size → w2.heap[k]? = wr.heap[k]? := fun k hk => hb2.block k hk
      refine hK _ _ hB2 ?_
      clear hK K
      have hO3 := HO.out.below hb2 (Nat.le_refl _)
      have hA3 := HBu.out.keep (A' := fun k => some k ≠ u3.ownBlock) hs2 fun k hk hA => ⟨hbl k hk, hA⟩
      have hR3 := hO2.rda
      obtain ⟨q, cap, rfl⟩ := hR3.sl
      have HO3 := Lib.hid hO3
      have HA3 := Lib.hid hA3
      have HR3 := Lib.hid hR3
      have HB2 := Lib.hid hB2
      have hs3 := hB2.size
      clear hO3 hA3 hR3 hO2 hb2 hbl hB2
      repeat (apply wpPlan_still rfl rfl; (intro w hw; clear hw; go_simp; (try go_ints); (first | with_reducible rfl | (go_simp; with_reducible rfl))); (intro K hK; go_simp; (try go_ints); refine hK _ _ ?_; clear hK K))
      apply wpPlan_act rfl rfl
      intro K hK
      unfold Oper.wp
      go_simp
      refine hK _ _ (HB2.out.alloc hs3 _) ?_
      clear hK K
      refine wpPlan_nil ?_
      simp only [List.drop_succ_cons, List.drop_zero]
      go_wp2_with (at_builtin; refine wpList_appRB rfl _ _ rfl w.heap.size _ L rfl (HO3.out.alloc _) w2.heap.size x.1 q _ cap _ rfl (row?_alloc_at _ _ _ _ rfl) (by omega) (by simp; omega) ?_)
      intro v4 w4 hO4 hg4 hv4 hb4
      have hst : T.take (k + 1) = T.take k ++ [x] := by rw [List.take_add_one, HX.out]; rfl
      have hu3 := HO3.out.lt
      have hbu := HA3.out
      have hA4 : Built (fun k => some k ≠ v4.ownBlock) w4 (L ++ [(x.1, .slice q (elemsI x.2).length cap)]) (T.take (k + 1)) := by
        rw [hst]
        have step : ∀ j, j < w2.heap.size → some j ≠ u3.ownBlock → w4.heap[j]? = w2.heap[j]? ∧ some j ≠ v4.ownBlock := fun j hj hA => by
          refine ⟨(hg4.block j (by simp; omega) hA).trans (Below.heap_alloc _ _ j hj), ?_⟩
          rcases hv4 with e | e
          · rw [e]; exact hA
          · rw [e]; simp; omega
        have hsz4 : w2.heap.size ≤ w4.heap.size := by have := hb4.size; simp at this; omega
        refine (hbu.keep hsz4 step).snoc (HR3.out.keep hsz4 fun j hj hA => step j hj ?_) hSx
        intro e
        have := HO.out.lt j e.symm
        omega
      have HO4 := Lib.hid hO4
      have HA4 := Lib.hid hA4
      have HB4 := Lib.hid ((HB2.out.alloc hs3 _).trans hb4)
      clear hO4 hA4 hg4 hv4 hb4 hu3 hbu hst
      go_wp2_with fail
      go_roundw
      case rel => exact ⟨k + 1, by omega, by go_num, ⟨_, HO4.out, HA4.out⟩, HB4.out⟩
      case measure => simp [intOf]; omega
    · have hkn : k = T.length := by omega
      subst hkn
      rw [List.take_length] at HBu
      clear hO hB hb
      go_wp2_with fail
      go_ret
      exact ⟨_, rfl, Built.ref HO.out HBu.out, HB1.out⟩
end Go.Proofs.YtpflnkedolmamaaGreatDoor
namespace Go.Pal
open Go
/-- Two lists compared from their ends. -/
def cmpR : List Int → List Int → Int
  | [], [] => 0
  | _ :: _, [] => 1
  | [], _ :: _ => -1
  | x :: r, y :: s => if y < x then 1 else if x < y then -1 else cmpR r s
theorem cmpR_zero : ∀ (l m : List Int), cmpR l m = 0 ↔ l = m
  | [], [] => by simp [cmpR]
  | _ :: _, [] => by simp [cmpR]
  | [], _ :: _ => by simp [cmpR]
  | x :: r, y :: s => by
    unfold cmpR
    by_cases h1 : y < x
    · rw [if_pos h1]; simp; omega
    · rw [if_neg h1]
      by_cases h2 : x < y
      · rw [if_pos h2]; simp; omega
      · rw [if_neg h2, cmpR_zero r s]
        have : x = y := by omega
        simp [this]
def cmpL (l m : List Int) : Int := cmpR l.reverse m.reverse
theorem cmpL_zero (l m : List Int) : cmpL l m = 0 ↔ l = m := by
  unfold cmpL
  rw [cmpR_zero]
  exact List.reverse_inj
theorem take_rev {l : List Int} {k : Nat} {x : Int} (h : l[k]? = some x) : (l.take (k + 1)).reverse = x :: (l.take k).reverse := by
  rw [List.take_add_one, h]
  simp
end Go.Pal
namespace Go.Proofs.YtpflnkedolmamaaGreatDoor
open Go Go.RowKit Go.Pal

set_option maxRecDepth 10000 in
set_option maxHeartbeats 2000000 in
theorem rcmp_any (xs ys : List Int) (va vb : Value) (w : World) (ha : RdL w va xs) (hb : RdL w vb ys) (hlx : xs.length ≤ 1000000) (hly : ys.length ≤ 1000000) :
    Calls Tryz.prog 114 #[va, vb] w fun e w' => e = .returned (.int .i64 (cmpL xs ys)) ∧ Below w.heap.size w w' := by
  have HA := Lib.hid ha
  have HBV := Lib.hid hb
  obtain ⟨a, c, rfl, -⟩ := ha
  obtain ⟨a2, c2, rfl, -⟩ := hb
  obtain ⟨C, hC⟩ : ∃ C, C = cmpL xs ys := ⟨_, rfl⟩
  rw [← hC]
  go_enter Tryz.func114, Tryz.ntmps114
  go_wp2_with fail
  go_loopw [5, 6] (fun i j wr => ∃ p q : Nat, p ≤ xs.length ∧ q ≤ ys.length ∧ i = .int .i64 ((p : Int) - 1) ∧ j = .int .i64 ((q : Int) - 1) ∧ Hid (cmpR (xs.take p).reverse (ys.take q).reverse = C) ∧ Below w.heap.size w wr) (fun i _ _ => (intOf i + 1).toNat)
  case atStart => exact ⟨xs.length, ys.length, by omega, by omega, rfl, rfl, Lib.hid (by rw [List.take_length, List.take_length, hC]; rfl), Below.refl _ _⟩
  case round =>
    obtain ⟨p, q, hp, hq, rfl, rfl, HC, hb⟩ := hrel
    have HB1 := Lib.hid hb
    clear hb hC
    rcases Nat.eq_zero_or_pos p with hp0 | hp0
    · subst hp0
      rcases Nat.eq_zero_or_pos q with hq0 | hq0
      · subst hq0
        go_wp2_with fail
        go_ret
        exact ⟨by rw [← HC.out]; rfl, HB1.out⟩
      · obtain ⟨n, rfl⟩ : ∃ m, q = m + 1 := ⟨q - 1, by omega⟩
        have e2 : (((n + 1 : Nat) : Int) - 1) = (n : Int) := by omega
        rw [e2]
        obtain ⟨y, hy⟩ : ∃ y, ys[n]? = some y := ⟨_, List.getElem?_eq_getElem (by omega)⟩
        have hc := HC.out
        rw [take_rev hy] at hc
        have HCC := Lib.hid hc
        clear e2 hy hc hq0
        go_wp2_with fail
        go_ret
        exact ⟨by rw [← HCC.out]; rfl, HB1.out⟩
    · obtain ⟨m, rfl⟩ : ∃ m, p = m + 1 := ⟨p - 1, by omega⟩
      have hlt : m < xs.length := by omega
      have e1 : (((m + 1 : Nat) : Int) - 1) = (m : Int) := by omega
      rw [e1]
      obtain ⟨b, off, c', z, hv, hz, hc⟩ := HA.out.at hlt
      simp only [Value.slice.injEq] at hv
      obtain ⟨rfl, -, rfl⟩ := hv
      rcases Nat.eq_zero_or_pos q with hq0 | hq0
      · subst hq0
        have hcc := HC.out
        rw [take_rev hz] at hcc
        have HCC := Lib.hid hcc
        clear hc hz hp0 e1 hcc
        go_wp2_with fail
        go_ret
        exact ⟨by rw [← HCC.out]; rfl, HB1.out⟩
      · obtain ⟨n, rfl⟩ : ∃ m, q = m + 1 := ⟨q - 1, by omega⟩
        have hlt2 : n < ys.length := by omega
        have e2 : (((n + 1 : Nat) : Int) - 1) = (n : Int) := by omega
        rw [e2]
        obtain ⟨b2, off2, c', z2, hv, hz2, hc2⟩ := HBV.out.at hlt2
        simp only [Value.slice.injEq] at hv
        obtain ⟨rfl, -, rfl⟩ := hv
        have hcell := hc wr.drew HB1.out.drew
        have hcell2 := hc2 wr.drew HB1.out.drew
        simp only [World.cell?_drew] at hcell hcell2
        have hcc := HC.out
        rw [take_rev hz, take_rev hz2, cmpR] at hcc
        have HCC := Lib.hid hcc
        clear hc hc2 hz hz2 hp0 hq0 e1 e2 hcc HC
        by_cases h1 : z2 < z
        · go_wp2_with fail
          refine wp_region_free (fun w' => w' = wr.drew) (by kernel_rfl) (by kernel_rfl) rfl ?_
          repeat (apply wpFree_still; (intro w hw; subst hw; go_simp; (try go_ints); (first | with_reducible rfl | (go_simp; with_reducible rfl))); with_reducible rfl; (intro K hK; go_simp; (try go_ints); refine hK _ ?_; clear hK K))
          with_reducible refine wpFree_nil ?_
          rintro w' rfl
          go_wp2_with fail
          go_ret
          exact ⟨by rw [← HCC.out, if_pos h1]; rfl, HB1.out.drew⟩
        · by_cases h2 : z < z2
          · go_wp2_with fail
            refine wp_region_free (fun w' => w' = wr.drew) (by kernel_rfl) (by kernel_rfl) rfl ?_
            repeat (apply wpFree_still; (intro w hw; subst hw; go_simp; (try go_ints); (first | with_reducible rfl | (go_simp; with_reducible rfl))); with_reducible rfl; (intro K hK; go_simp; (try go_ints); refine hK _ ?_; clear hK K))
            with_reducible refine wpFree_nil ?_
            rintro w' rfl
            go_wp2_with fail
            refine wp_region_free (fun w' => w' = wr.drew.drew) (by kernel_rfl) (by kernel_rfl) rfl ?_
            repeat (apply wpFree_still; (intro w hw; subst hw; go_simp; (try go_ints); (first | with_reducible rfl | (go_simp; with_reducible rfl))); with_reducible rfl; (intro K hK; go_simp; (try go_ints); refine hK _ ?_; clear hK K))
            with_reducible refine wpFree_nil ?_
            rintro w' rfl
            go_wp2_with fail
            go_ret
            exact ⟨by rw [← HCC.out, if_neg (by omega), if_pos h2]; rfl, HB1.out.drew.drew⟩
          · have hc3 := HCC.out
            rw [if_neg h1, if_neg h2] at hc3
            have HC3 := Lib.hid hc3
            clear hc3 HCC
            go_wp2_with fail
            refine wp_region_free (fun w' => w' = wr.drew) (by kernel_rfl) (by kernel_rfl) rfl ?_
            repeat (apply wpFree_still; (intro w hw; subst hw; go_simp; (try go_ints); (first | with_reducible rfl | (go_simp; with_reducible rfl))); with_reducible rfl; (intro K hK; go_simp; (try go_ints); refine hK _ ?_; clear hK K))
            with_reducible refine wpFree_nil ?_
            rintro w' rfl
            go_wp2_with fail
            refine wp_region_free (fun w' => w' = wr.drew.drew) (by kernel_rfl) (by kernel_rfl) rfl ?_
            repeat (apply wpFree_still; (intro w hw; subst hw; go_simp; (try go_ints); (first | with_reducible rfl | (go_simp; with_reducible rfl))); with_reducible rfl; (intro K hK; go_simp; (try go_ints); refine hK _ ?_; clear hK K))
            with_reducible refine wpFree_nil ?_
            rintro w' rfl
            go_wp2_with fail
            go_roundw
            case rel => exact ⟨m, n, by omega, by omega, by go_num, by go_num, HC3, HB1.out.drew.drew⟩
            case measure => simp [intOf]
theorem rsame_any (xs ys : List Int) (va vb : Value) (w : World) (ha : RdL w va xs) (hb : RdL w vb ys) (hlx : xs.length ≤ 1000000) (hly : ys.length ≤ 1000000) :
    Calls Tryz.prog 60 #[va, vb] w fun e w' => e = .returned (.bool (decide (xs = ys))) ∧ Below w.heap.size w w' := by
  have H := Lib.hid (rcmp_any xs ys va vb w ha hb hlx hly)
  obtain ⟨a, c, rfl, -⟩ := ha
  obtain ⟨a2, c2, rfl, -⟩ := hb
  obtain ⟨C, hC⟩ : ∃ C, C = cmpL xs ys := ⟨_, rfl⟩
  rw [← hC] at H
  have HC := Lib.hid hC
  clear hC
  go_enter Tryz.func60, Tryz.ntmps60
  go_wp2_with fail
  refine H.out.mono ?_
  rintro e w1 ⟨rfl, hb1⟩
  have HB1 := Lib.hid hb1
  clear hb1 H
  go_wp2_with fail
  go_ret
  refine ⟨?_, HB1.out⟩
  have : decide (xs = ys) = (C == 0) := by
    rw [HC.out, Bool.eq_iff_iff]
    simp [cmpL_zero]
  rw [this]
  rfl
set_option maxRecDepth 10000 in
set_option maxHeartbeats 2000000 in
theorem r26same_any (T T' : List Bg) (va vb : Value) (w : World) (ha : RefT w va T) (hb : RefT w vb T') (hlx : T.length ≤ 65536) (hly : T'.length ≤ 65536) :
    Calls Tryz.prog 16 #[va, vb] w fun e w' => e = .returned (.bool (decide (T = T'))) ∧ Below w.heap.size w w' := by
  have HA := Lib.hid ha
  have HBV := Lib.hid hb
  obtain ⟨a, c, rfl, -⟩ := ha
  obtain ⟨a2, c2, rfl, -⟩ := hb
  by_cases hll : T.length = T'.length
  · have HL := Lib.hid hll
    have hlz2 : ((T.length : Int) != (T'.length : Int)) = false := by simp; omega
    clear hll
    go_enter Tryz.func16, Tryz.ntmps16
    go_wp2_with fail
    go_loopw [5] (fun i wr => ∃ k : Nat, k ≤ T.length ∧ i = .int .i64 (k : Int) ∧ Hid (T.take k = T'.take k) ∧ Below w.heap.size w wr) (fun i _ => T.length - (intOf i).toNat)
    case atStart => exact ⟨0, by omega, rfl, Lib.hid rfl, Below.refl _ _⟩
    case round =>
      obtain ⟨k, hk, rfl, htk, hb⟩ := hrel
      have HBr := Lib.hid hb
      have hsz := hb.size
      clear hb
      by_cases hlt : k < T.length
      · have hlt' : k < T'.length := by have := HL.out; omega
        obtain ⟨b, off, c', p, S, q, cap, h1, hx, hS, hc⟩ := HA.out.at hlt
        obtain ⟨b', off', c'', p', S', q', cap', h1', hy, hS', hc'⟩ := HBV.out.at hlt'
        simp only [Value.slice.injEq] at h1 h1'
        obtain ⟨rfl, -, rfl⟩ := h1
        obtain ⟨rfl, -, rfl⟩ := h1'
        have HX := Lib.hid hx
        have HY := Lib.hid hy
        have HF := Lib.hid fun W (hw : Below wr.heap.size wr W) => show (W.cell? ⟨b, off + k * 2, none⟩ = some (.int .i64 p) ∧ W.cell? ⟨b, off + k * 2 + 1, none⟩ = some (.slice q (elemsI S).length cap)) ∧ (W.cell? ⟨b', off' + k * 2, none⟩ = some (.int .i64 p') ∧ W.cell? ⟨b', off' + k * 2 + 1, none⟩ = some (.slice q' (elemsI S').length cap')) from
          ⟨⟨(hc W (HBr.out.trans (hw.mono hsz))).1, (hc W (HBr.out.trans (hw.mono hsz))).2.1⟩, ⟨(hc' W (HBr.out.trans (hw.mono hsz))).1, (hc' W (HBr.out.trans (hw.mono hsz))).2.1⟩⟩
        have HSm := Lib.hid fun W (hw : Below wr.heap.size wr W) => rsame_any (elemsI S) (elemsI S') _ _ W (hc W (HBr.out.trans (hw.mono hsz))).2.2.1 (hc' W (HBr.out.trans (hw.mono hsz))).2.2.1 (by have := elemsI_length S; omega) (by have := elemsI_length S'; omega)
        have hSS : decide (elemsI S = elemsI S') = decide (S = S') := by
          rw [Bool.eq_iff_iff]
          simp
          exact ⟨fun h => elemsI_inj hS hS' h, fun h => by rw [h]⟩
        rw [hSS] at HSm
        clear hc hc' hx hy hSS
        by_cases hp : p = p'
        · have hpz : (p != p') = false := by simpa using hp
          have HP := Lib.hid hp
          clear hp
          cases hq : decide (S = S') with
          | true =>
            rw [hq] at HSm
            have HQ := Lib.hid (of_decide_eq_true hq)
            clear hq
            go_wp2_with fail
            refine wp_region_free (fun w' => Below wr.heap.size wr w') (by kernel_rfl) (by kernel_rfl) (Below.refl _ _).drew ?_
            repeat (first | (apply wpFree_still; (intro w hw; obtain ⟨⟨k1, k2⟩, k3, k4⟩ := HF.out _ hw; clear hw; go_simp; (try go_ints); (first | with_reducible rfl | (go_simp; with_reducible rfl))); with_reducible rfl; (intro K hK; go_simp; (try go_ints); refine hK _ ?_; clear hK K)) | (apply wpFree_stillG rfl; (intro w hw; obtain ⟨⟨k1, k2⟩, k3, k4⟩ := HF.out _ hw; clear hw; go_simp; (try go_ints); (first | with_reducible rfl | (go_simp; with_reducible rfl))); (intro K hK; go_simp; (try go_ints); refine hK _ ?_; clear hK K)))
            apply wpFree_callG rfl
            · intro w hw; go_simp; first | with_reducible rfl | with_reducible exact ⟨rfl, rfl⟩
            · intro w hw; refine (HSm.out w hw).mono ?_; rintro e w' ⟨h1, h2⟩; exact ⟨h1, hw.trans (h2.mono hw.size)⟩
            intro K hK; go_simp; (try go_ints); refine hK _ ?_; clear hK K
            repeat (first | (apply wpFree_still; (intro w hw; clear hw; go_simp; (try go_ints); (first | with_reducible rfl | (go_simp; with_reducible rfl))); with_reducible rfl; (intro K hK; go_simp; (try go_ints); refine hK _ ?_; clear hK K)) | (apply wpFree_stillG rfl; (intro w hw; clear hw; go_simp; (try go_ints); (first | with_reducible rfl | (go_simp; with_reducible rfl))); (intro K hK; go_simp; (try go_ints); refine hK _ ?_; clear hK K)))
            with_reducible refine wpFree_nil ?_
            intro w' hb'
            have HB' := Lib.hid (HBr.out.trans (hb'.mono hsz))
            clear hb'
            go_wp2_with fail
            go_roundw
            case rel => exact ⟨k + 1, by omega, by go_num, Lib.hid (by rw [List.take_add_one, List.take_add_one, HX.out, HY.out, HP.out, HQ.out, htk.out]), HB'.out⟩
            case measure => simp [intOf]; omega
          | false =>
            rw [hq] at HSm
            have HQ := Lib.hid (of_decide_eq_false hq)
            clear hq
            go_wp2_with fail
            refine wp_region_free (fun w' => Below wr.heap.size wr w') (by kernel_rfl) (by kernel_rfl) (Below.refl _ _).drew ?_
            repeat (first | (apply wpFree_still; (intro w hw; obtain ⟨⟨k1, k2⟩, k3, k4⟩ := HF.out _ hw; clear hw; go_simp; (try go_ints); (first | with_reducible rfl | (go_simp; with_reducible rfl))); with_reducible rfl; (intro K hK; go_simp; (try go_ints); refine hK _ ?_; clear hK K)) | (apply wpFree_stillG rfl; (intro w hw; obtain ⟨⟨k1, k2⟩, k3, k4⟩ := HF.out _ hw; clear hw; go_simp; (try go_ints); (first | with_reducible rfl | (go_simp; with_reducible rfl))); (intro K hK; go_simp; (try go_ints); refine hK _ ?_; clear hK K)))
            apply wpFree_callG rfl
            · intro w hw; go_simp; first | with_reducible rfl | with_reducible exact ⟨rfl, rfl⟩
            · intro w hw; refine (HSm.out w hw).mono ?_; rintro e w' ⟨h1, h2⟩; exact ⟨h1, hw.trans (h2.mono hw.size)⟩
            intro K hK; go_simp; (try go_ints); refine hK _ ?_; clear hK K
            repeat (first | (apply wpFree_still; (intro w hw; clear hw; go_simp; (try go_ints); (first | with_reducible rfl | (go_simp; with_reducible rfl))); with_reducible rfl; (intro K hK; go_simp; (try go_ints); refine hK _ ?_; clear hK K)) | (apply wpFree_stillG rfl; (intro w hw; clear hw; go_simp; (try go_ints); (first | with_reducible rfl | (go_simp; with_reducible rfl))); (intro K hK; go_simp; (try go_ints); refine hK _ ?_; clear hK K)))
            with_reducible refine wpFree_nil ?_
            intro w' hb'
            have HB' := Lib.hid (HBr.out.trans (hb'.mono hsz))
            clear hb'
            go_wp2_with fail
            go_ret
            have hne : ¬ T = T' := fun e => by
              have h1 := HX.out
              rw [e, HY.out] at h1
              cases h1
              exact HQ.out rfl
            exact ⟨by rw [decide_eq_false hne]; rfl, HB'.out⟩
        · have hpz : (p != p') = true := by simpa using hp
          have HP := Lib.hid hp
          clear hp
          go_wp2_with fail
          refine wp_region_free (fun w' => Below wr.heap.size wr w') (by kernel_rfl) (by kernel_rfl) (Below.refl _ _).drew ?_
          repeat (first | (apply wpFree_still; (intro w hw; obtain ⟨⟨k1, k2⟩, k3, k4⟩ := HF.out _ hw; clear hw; go_simp; (try go_ints); (first | with_reducible rfl | (go_simp; with_reducible rfl))); with_reducible rfl; (intro K hK; go_simp; (try go_ints); refine hK _ ?_; clear hK K)) | (apply wpFree_stillG rfl; (intro w hw; obtain ⟨⟨k1, k2⟩, k3, k4⟩ := HF.out _ hw; clear hw; go_simp; (try go_ints); (first | with_reducible rfl | (go_simp; with_reducible rfl))); (intro K hK; go_simp; (try go_ints); refine hK _ ?_; clear hK K)))
          repeat (first | (apply wpFree_skip rfl; (intro K hK; go_simp; (try go_ints); refine hK _ ?_; clear hK K)) | (apply wpFree_still; (intro w hw; clear hw; go_simp; (try go_ints); (first | with_reducible rfl | (go_simp; with_reducible rfl))); with_reducible rfl; (intro K hK; go_simp; (try go_ints); refine hK _ ?_; clear hK K)))
          with_reducible refine wpFree_nil ?_
          intro w' hb'
          have HB' := Lib.hid (HBr.out.trans (hb'.mono hsz))
          clear hb'
          go_wp2_with fail
          go_ret
          have hne : ¬ T = T' := fun e => by
            have h1 := HX.out
            rw [e, HY.out] at h1
            cases h1
            exact HP.out rfl
          exact ⟨by rw [decide_eq_false hne]; rfl, HB'.out⟩
      · have hkn : k = T.length := by omega
        subst hkn
        go_wp2_with fail
        go_ret
        refine ⟨?_, HBr.out⟩
        have h1 := htk.out
        rw [List.take_length, HL.out, List.take_length] at h1
        rw [decide_eq_true h1]
        rfl
  · have HL := Lib.hid hll
    have hlz2 : ((T.length : Int) != (T'.length : Int)) = true := by simp; omega
    clear hll
    go_enter Tryz.func16, Tryz.ntmps16
    go_wp2_with fail
    go_ret
    exact ⟨by rw [decide_eq_false fun e => HL.out (by rw [e])]; rfl, Below.refl _ _⟩
end Go.Proofs.YtpflnkedolmamaaGreatDoor
