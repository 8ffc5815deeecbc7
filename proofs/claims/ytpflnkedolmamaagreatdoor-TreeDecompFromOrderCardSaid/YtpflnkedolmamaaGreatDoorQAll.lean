/-
  The iterator over the elements of a set: All and its closure.
-/
import Derived.Test.YtpflnkedolmamaaGreatDoorQSets
import Derived.Test.YtpflnkedolmamaaGreatDoorQIter
import Derived.OwnWalkIn
import Derived.TacticsInMore
import Derived.LoopNIn
import Derived.LoopIn
namespace Go.Proofs.YtpflnkedolmamaaGreatDoor
open Go Go.RowKit Go.Pal
attribute [local go_sem] Oper.semAt_some

set_option maxHeartbeats 400000 in
theorem all_any (S : Nat) (w : World) :
    Calls Tryz.prog 65 #[.agg (words S)] w fun e w' => e = .returned (.func (.func 118) #[] #[.pointer (some ⟨w.heap.size, 0, none⟩)]) ∧ w.alloc (.cells (words S) 33) = w' := by
  go_enter Tryz.func65, Tryz.ntmps65
  go_wp2
  go_ret
  exact ⟨rfl, rfl⟩

theorem TabOk.same {w w' : World} (h : TabOk w) (hb : w'.heap[0]? = w.heap[0]?) : TabOk w' := fun j hj => (World.cell?_of_block (w := w) hb).trans (h j hj)

/-- How far the walk over the elements still has to go. -/
def allMeas : Value → Value → Nat
  | .int _ n, .bool true => 1025 - n.toNat
  | _, _ => 0

set_option maxRecDepth 10000 in
set_option maxHeartbeats 1000000 in
theorem all1_iterates (b S : Nat) (hS : IsSet S) (W : World) (hb : row? W b = some (words S)) (hT : TabOk W) (hg : 0 < W.heap.size) :
    Iterates Tryz.prog 0 118 #[.pointer (some ⟨b, 0, none⟩)] (fun n : Nat => .int .i64 (n : Int)) (elems S) W := by
  intro l J hJ hY h0
  have hbl := row?_lt hb
  refine callsIn_of_wp Tryz.func118 rfl trivial ?_ rfl
  simp only [Tryz.ntmps118, List.size_toArray, List.length_cons, List.length_nil, Nat.reduceAdd, Nat.reduceSub, Array.replicate_succ, Array.replicate_zero, List.push_toArray, List.append_toArray, List.nil_append, List.cons_append]
  have hT1 := hT.below ((Below.refl W.heap.size W).alloc (Nat.le_refl _) (Obj.cells (words S) 33)) hg
  have HT : Hid (TabOk W) := hT
  have HJ := Lib.hid hJ
  have HY := Lib.hid hY
  have H0 := Lib.hid h0
  clear hT hJ hY h0
  have hgA : 0 < (W.alloc (Obj.cells (words S) 33)).heap.size := by rw [World.size_alloc]; omega
  have hTA : Hid (TabOk (W.alloc (Obj.cells (words S) 33))) := hT1
  gi_wp2_with (refine ⟨trivial, rfl, ?_⟩; gi_at_call 119; refine (callsIn_wide.2 (min_any S hS _ hTA.out hgA)).mono ?_; rintro e w1 ⟨rfl, hb1⟩)
  have hR1 : row? w1 W.heap.size = some (words S) := (row?_below hb1 (by simp)).trans (row?_alloc_at W (words S) 33 _ rfl)
  have hs1 := hb1.size
  simp only [World.size_alloc] at hs1
  have hB1 : Below W.heap.size W w1 := ((Below.refl W.heap.size W).alloc (Nat.le_refl _) _).trans (hb1.mono (by simp))
  have hJ1 := H0.out (W.heap.size + 1) w1 (by omega) hs1 (Same.of_below hB1)
  have HJ1 : Hid (J (W.heap.size + 1) [] w1) := hJ1
  have HB1 : Hid (Below W.heap.size W w1) := hB1
  have HTb : Hid (w1.heap[0]? = W.heap[0]?) := hB1.block _ hg
  have HR1 : Hid (row? w1 W.heap.size = some (words S)) := hR1
  clear hJ1 hB1 hb1 hR1
  gi_loopw [4, 5] (fun n is wr => ∃ (pre rest : List Nat) (T : Nat), elems S = pre ++ rest ∧ elems T = rest ∧ IsSet T ∧ n = .int .i64 (minN T) ∧ is = .bool (minB T) ∧ row? wr W.heap.size = some (words T) ∧ W.heap.size + 1 ≤ wr.heap.size ∧ wr.heap[0]? = W.heap[0]? ∧ J (W.heap.size + 1) pre wr) (fun n is _ => allMeas n is)
  case atStart => exact ⟨[], elems S, S, rfl, rfl, hS, rfl, rfl, HR1.out, hs1, HTb.out, HJ1.out⟩
  case round =>
    obtain ⟨pre, rest, T, hx, hT0, hTs, rfl, rfl, hR, hs, hTb, hJ1⟩ := hrel
    have Hx := Lib.hid hx; clear hx
    have HTb2 := Lib.hid hTb; clear hTb
    have HJ2 : Hid (J (W.heap.size + 1) pre wr) := hJ1
    clear hJ1
    cases rest with
    | nil =>
      have hm := minB_nil hT0
      have HT0 := Lib.hid hT0; clear hT0
      rw [hm]
      gi_wp2
      go_end0
      refine ⟨⟨_, rfl⟩, W.heap.size + 1, by omega, ?_⟩
      rw [Hx.out, List.append_nil]
      exact HJ2.out
    | cons x rest =>
      obtain ⟨hm1, hm2⟩ := minN_cons hT0
      obtain ⟨fn, tmps, assign, body, hy, hRd⟩ := HY.out (W.heap.size + 1) pre x wr (by omega) hs HJ2.out ⟨rest, Hx.out⟩
      have HT0 := Lib.hid hT0; clear hT0
      rw [hm1, hm2]
      have Hm := Lib.hid hm1; clear hm1
      have Hm2 := Lib.hid hm2; clear hm2
      gi_wp2
      refine ⟨rfl, hRd.mono ?_⟩
      rintro e W3 ⟨rfl, hJ3, hk3⟩
      have hR3 : row? W3 W.heap.size = some (words T) := (row?_congr (hk3.block _ (by omega) (.inr ⟨Nat.le_refl _, by omega⟩))).trans hR
      have hT3 : W3.heap[0]? = W.heap[0]? := (hk3.block _ (by omega) (.inl rfl)).trans HTb2.out
      have hs3 : W.heap.size + 1 ≤ W3.heap.size := Nat.le_trans hs hk3.size
      have HT3 := Lib.hid hT3
      have HJ3 : Hid (J (W.heap.size + 1) (pre ++ [x]) W3) := hJ3
      clear hT3 hJ3 hk3 hy hR
      have hxl : x < 1024 := elems_lt (S := S) (by rw [Hx.out]; simp)
      gi_wp2_with fail
      refine ⟨trivial, rfl, (callsIn_wide.2 (without_in T x _ hxl)).mono ?_⟩
      rintro e w4 ⟨rfl, hb4⟩
      have hR4 : row? w4 W.heap.size = some (words T) := (row?_below hb4 (by omega)).trans hR3
      have HB4 : Hid (Below W3.heap.size W3 w4) := hb4
      have hs4 : W.heap.size + 1 ≤ w4.heap.size := Nat.le_trans hs3 hb4.size
      clear hb4 hR3
      gi_wp2_with fail
      obtain ⟨w5, hw5⟩ : ∃ w5, w5 = w4.setRow W.heap.size (words (sDel T x)) := ⟨_, rfl⟩
      rw [← hw5]
      have hR5 : row? w5 W.heap.size = some (words (sDel T x)) := by rw [hw5]; exact row?_setRow_same w4 _ _ (by rw [hR4]; rfl)
      have hs5 : w5.heap.size = w4.heap.size := by rw [hw5]; simp
      have hT5 : w5.heap[0]? = W.heap[0]? := by
        rw [hw5, setRow_other _ _ _ _ (by omega), HB4.out.block _ (by omega)]
        exact HT3.out
      have hS45 : Same (fun k => k < W.heap.size ∨ W.heap.size + 1 ≤ k) w4 w5 := by rw [hw5]; exact Same.setRow _ w4 _ _ (by omega)
      have hJ5 := HJ.out (W.heap.size + 1) _ _ w5 (by omega) hs3 HJ3.out (((Same.of_below HB4.out).mono fun k hk _ => hk).trans hS45)
      have hTs5 : IsSet (sDel T x) := isSet_del hTs
      clear hw5 hS45 hR4
      refine ⟨trivial, rfl, (callsIn_wide.2 (min_any (sDel T x) hTs5 w5 (HT.out.same hT5) (by omega))).mono ?_⟩
      rintro e w6 ⟨rfl, hb6⟩
      have hJ6 : Hid (J (W.heap.size + 1) (pre ++ [x]) w6) := HJ.out (W.heap.size + 1) _ _ w6 (by omega) (by omega) hJ5 ((Same.of_below hb6).mono fun k hk _ => hk)
      have hR6 : Hid (row? w6 W.heap.size = some (words (sDel T x))) := (row?_below hb6 (by omega)).trans hR5
      have hT6 : Hid (w6.heap[0]? = W.heap[0]?) := (hb6.block _ (by omega)).trans hT5
      have hs6 : W.heap.size + 1 ≤ w6.heap.size := by have := hb6.size; omega
      clear hJ5 hT5 hR5 hb6
      gi_wp2
      go_roundw
      case rel =>
        exact ⟨pre ++ [x], rest, sDel T x, by rw [Hx.out]; simp, elems_tail hTs HT0.out, hTs5, rfl, rfl, hR6.out, hs6, hT6.out, hJ6.out⟩
      case measure =>
        have ht := elems_tail hTs HT0.out
        have hlow := elems_sorted T
        rw [HT0.out, List.pairwise_cons] at hlow
        cases hr : rest with
        | nil =>
          rw [hr] at ht
          simp [minB_nil ht, allMeas]
          omega
        | cons y r =>
          rw [hr] at ht
          obtain ⟨q1, q2⟩ := minN_cons ht
          have h1 := hlow.1 y (by rw [hr]; simp)
          have h2 : y < 1024 := elems_lt (S := sDel T x) (by rw [ht]; simp)
          simp [q1, q2, allMeas]
          omega
end Go.Proofs.YtpflnkedolmamaaGreatDoor
