/-
  Walks of package treedecomp: depths, for a tree with one root.
-/
import Derived.Test.YtkoeeabeoefggaaDoorQTree4
namespace Go.Proofs.YtkoeeabeoefggaaDoor
open Go Go.RowKit Go.Pal

theorem intBeq (a b : Nat) : ((a : Int) == (b : Int)) = decide (a = b) := by rw [Bool.eq_iff_iff, beq_iff_eq, decide_eq_true_iff]; omega
@[go_sem] theorem run_storeFunc (P : Program) (w : World) (a : Addr) (m : Mode) (fn : Fn) (first captured : Array Value) : (store a (.func fn first captured) m).run P w = stored P w a (.func fn first captured) m := run_store P w a _ m rfl

set_option maxRecDepth 10000 in
set_option maxHeartbeats 1000000 in
theorem depths_any (T : List Bg) (v : Value) (w : World) (hv : Rd bagA 17 w.heap.size w v T) (hlen : T.length ≤ 65536) (hpar : ∀ (i : Nat) x, T[i]? = some x → x.1 = -1 ∨ ∃ p : Nat, x.1 = p ∧ p < T.length)
    (t : Tr) (hr : rootsTo T T.length = [(t.lab : Int)]) (hf : Fits T.length (kidsTo T T.length) t) (hsz : t.sz ≤ 65536) :
    Calls Tryd.prog 41 #[v] w fun e w' => e = .returned (.tuple #[.slice (some ⟨w.heap.size, 0, none⟩) T.length T.length, .bool (decide (t.sz = T.length))]) ∧
      row? w' w.heap.size = some ((t.ds 0 (List.replicate T.length 0)).map (Value.int .i64)).toArray ∧ Below w.heap.size w w' := by
  have HV := Lib.hid hv
  obtain ⟨a, c, rfl, -⟩ := hv
  have HP := Lib.hid hpar; clear hpar
  have HR := Lib.hid hr; clear hr
  have HF := Lib.hid hf; clear hf
  have hmk := run_make1 Tryd.underlying41 infoInt rfl T.length (by omega) (by omega)
  go_enter Tryd.func41, Tryd.ntmps41
  go_wp2_with fail
  obtain ⟨W1, hW1⟩ : ∃ W1, W1 = ((w.alloc (Obj.cells (Array.replicate T.length (.int .i64 0)) 3)).alloc (Obj.cells #[.slice (some ⟨w.heap.size, 0, none⟩) T.length T.length] 41)).alloc (Obj.cells #[.int .i64 0] 3) := ⟨_, rfl⟩
  have hs1 : W1.heap.size = w.heap.size + 3 := by rw [hW1]; simp
  have hb1 : Below w.heap.size w W1 := by
    rw [hW1]
    (repeat' (first | (with_reducible exact Below.refl _ _) | (with_reducible assumption) | (with_reducible refine Below.alloc ?_ ?_ _) | (with_reducible refine Below.drew ?_) | (with_reducible refine Below.setCell ?_ ?_ _) | (with_reducible refine below_setRow ?_ ?_ _) | (with_reducible exact Nat.le_refl _) | omega | (simp; done) | (simp; omega) | (simp at *; omega)))
  have r1 : row? W1 w.heap.size = some ((List.replicate T.length (0 : Int)).map (Value.int .i64)).toArray := by rw [hW1]; simp [go_sem]
  have r2 : row? W1 (w.heap.size + 1) = some #[.slice (some ⟨w.heap.size, 0, none⟩) T.length T.length] := by rw [hW1]; simp [go_sem]
  have r3 : row? W1 (w.heap.size + 1 + 1) = some #[.int .i64 0] := by rw [hW1]; simp [go_sem]
  rw [← hW1]
  clear hW1
  refine (below_any T (.slice a T.length c) W1 ((HV.out.below hb1 (Nat.le_refl _)).mono hb1.size) hlen HP.out).mono ?_
  rintro e w2 ⟨vs, rfl, hvs, hG, hb2⟩
  have hs2 := row?_lt hG.row
  have HG := Lib.hid hG
  have HB2 := Lib.hid hb2
  have HB1 := Lib.hid hb1
  have HR1 := Lib.hid (And.intro r1 (And.intro r2 r3))
  clear hG hb2 hb1 r1 r2 r3 hmk
  go_wp2_with fail
  obtain ⟨W3, hW3⟩ : ∃ W3, W3 = (w2.alloc (Obj.cells #[.slice (some ⟨w.heap.size + 3, 0, none⟩) T.length T.length] 57)).alloc (Obj.cells #[.func (.func 67) #[] #[.pointer (some ⟨w.heap.size + 1, 0, none⟩), .pointer (some ⟨w.heap.size + 1 + 1, 0, none⟩), .pointer (some ⟨w2.heap.size, 0, none⟩), .pointer (some ⟨w2.heap.size + 1, 0, none⟩)]] 97) := ⟨_, rfl⟩
  have hs3 : W3.heap.size = w2.heap.size + 2 := by rw [hW3]; simp
  have hk3 : ∀ k, k < w2.heap.size → W3.heap[k]? = w2.heap[k]? := fun k hk => by rw [hW3]; exact (Below.heap_alloc _ _ k (by simp; omega)).trans (Below.heap_alloc _ _ k hk)
  have hb3 : Below w.heap.size w W3 := by
    have hb0 := HB1.out.trans (HB2.out.mono (by omega))
    rw [hW3]
    (repeat' (first | (with_reducible exact Below.refl _ _) | (with_reducible assumption) | (with_reducible refine Below.alloc ?_ ?_ _) | (with_reducible refine Below.drew ?_) | (with_reducible refine Below.setCell ?_ ?_ _) | (with_reducible refine below_setRow ?_ ?_ _) | (with_reducible exact Nat.le_refl _) | omega | (simp; done) | (simp; omega) | (simp at *; omega)))
  have r4 : row? W3 w2.heap.size = some #[.slice (some ⟨w.heap.size + 3, 0, none⟩) T.length T.length] := by rw [hW3]; simp [go_sem]
  have r5 : row? W3 (w2.heap.size + 1) = some #[.func (.func 67) #[] #[.pointer (some ⟨w.heap.size + 1, 0, none⟩), .pointer (some ⟨w.heap.size + 1 + 1, 0, none⟩), .pointer (some ⟨w2.heap.size, 0, none⟩), .pointer (some ⟨w2.heap.size + 1, 0, none⟩)]] := by rw [hW3]; simp [go_sem]
  rw [← hW3]
  clear hW3
  have hkk : ∀ k, k < W1.heap.size → row? W3 k = row? W1 k := fun k hk => (row?_congr (hk3 k (by omega))).trans (row?_congr (HB2.out.block k hk))
  have hS3 : DSt T.length w.heap.size (w.heap.size + 1) (w.heap.size + 1 + 1) (w.heap.size + 3) w2.heap.size (w2.heap.size + 1) vs (kidsTo T T.length) (List.replicate T.length 0) 0 W3 := by
    refine ⟨(hkk _ (by omega)).trans HR1.out.1, (hkk _ (by omega)).trans HR1.out.2.1, (hkk _ (by omega)).trans HR1.out.2.2, r4, ?_, r5⟩
    have := HG.out.same fun k _ hk => hk3 k hk
    rwa [hs1] at this
  refine (roots_any T (.slice a T.length c) W3 ((HV.out.below hb3 (Nat.le_refl _)).mono hb3.size) hlen).mono ?_
  rintro e w4 ⟨v4, rfl, hO4, hb4⟩
  rw [HR.out] at hO4
  obtain ⟨q4, n4, c4, rfl⟩ := hO4.slice
  have hn4 := hO4.len
  simp at hn4
  subst hn4
  obtain ⟨g4, rfl, hg4, hg4s, hc4⟩ := hO4.cell (j := 0) rfl
  have hS4 := Lib.hid (hS3.of_same hb4.block)
  have hB4 := Lib.hid (hb3.trans (hb4.mono hb3.size))
  clear hS3 r4 r5 hO4 hb3 hk3 hkk
  go_wp2
  go_loopw [19] (fun i wr => (i = .int .i64 0 ∧ wr = w4) ∨ (i = .int .i64 1 ∧ DSt T.length w.heap.size (w.heap.size + 1) (w.heap.size + 1 + 1) (w.heap.size + 3) w2.heap.size (w2.heap.size + 1) vs (kidsTo T T.length) (t.ds 0 (List.replicate T.length 0)) t.sz wr ∧ Below w.heap.size w wr)) (fun i _ => 1 - (intOf i).toNat)
  case atStart => exact .inl ⟨rfl, rfl⟩
  case round =>
    rcases hrel with ⟨rfl, rfl⟩ | ⟨rfl, hS5, hb5⟩
    · have e7 : wr.cell? ⟨w2.heap.size + 1, 0, none⟩ = _ := cell?_row (i := 0) hS4.out.fn
      simp at e7
      go_wp2_with fail
      have hcall := depths1_any T.length w.heap.size (w.heap.size + 1) (w.heap.size + 1 + 1) (w.heap.size + 3) w2.heap.size (w2.heap.size + 1) vs (kidsTo T T.length) hvs hlen (by omega) t HF.out 0 0 (List.replicate T.length 0) wr (by simp) (by omega) (by omega) hS4.out
      push_cast at hcall
      refine hcall.mono ?_
      rintro e w5 ⟨⟨v5, rfl⟩, hS5, hs5⟩
      rw [Nat.zero_add] at hS5
      have HS5 := Lib.hid hS5
      have HB5 := Lib.hid (hB4.out.trans (hs5.below (B := w.heap.size) (by have := hB4.out.size; omega) fun k hk => ⟨by omega, by omega⟩))
      clear hcall hS5 hs5 e7 hc4
      go_wp2
      go_roundw
      case rel => exact .inr ⟨rfl, HS5.out, HB5.out⟩
      case measure => simp [intOf]
    · have HS5 := Lib.hid hS5
      have e8 : wr.cell? ⟨w.heap.size + 1, 0, none⟩ = _ := cell?_row (i := 0) hS5.out
      have e9 : wr.cell? ⟨w.heap.size + 1 + 1, 0, none⟩ = _ := cell?_row (i := 0) hS5.cnt
      simp at e8 e9
      have HB5 := Lib.hid hb5
      clear hS5 hb5 hc4
      go_wp2
      refine wp_region_free (fun w' => w' = wr.drew) (by kernel_rfl) (by kernel_rfl) rfl ?_
      repeat (apply wpFree_still; (intro w hw; subst hw; go_simp; (try go_ints); (first | with_reducible rfl | (go_simp; with_reducible rfl))); with_reducible rfl; (intro K hK; go_simp; (try go_ints); refine hK _ ?_; clear hK K))
      with_reducible refine wpFree_nil ?_
      rintro w' rfl
      go_wp2
      go_ret2
      exact ⟨congrArg (fun b => Ending.returned (.tuple #[.slice (some ⟨w.heap.size, 0, none⟩) T.length T.length, .bool b])) (intBeq _ _), HS5.out.data, HB5.out.drew⟩
end Go.Proofs.YtkoeeabeoefggaaDoor
