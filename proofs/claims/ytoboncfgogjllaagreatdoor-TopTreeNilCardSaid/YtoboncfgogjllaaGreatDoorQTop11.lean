/-
  Walks of package slices: Repeat of one integer.
-/
import Derived.Test.YtoboncfgogjllaaGreatDoorQTop10
import Derived.Shelf.Bits.Mul64
import Derived.Laws.CopyOwn
namespace Go.Pal
open Go
/-- The row while it is filled. -/
def repC (z : Int) (n k : Nat) : Array Value := (List.replicate k (Value.int .i64 z) ++ List.replicate (n - k) (Value.int .i64 0)).toArray
theorem repC_size (z : Int) {n k : Nat} (h : k ≤ n) : (repC z n k).size = n := by simp [repC]; omega
theorem repC_zero (z : Int) (n : Nat) : repC z n 0 = Array.replicate n (Value.int .i64 0) := by
  apply Array.ext'
  simp [repC]
theorem repC_full (z : Int) (n : Nat) : repC z n n = Array.replicate n (Value.int .i64 z) := by
  apply Array.ext'
  simp [repC]
theorem repC_get (z : Int) {n k j : Nat} (h : j < k) : (repC z n k)[j]? = some (.int .i64 z) := by
  simp [repC, List.getElem?_append, h]
theorem repC_step (z : Int) (n k m : Nat) : ((repC z n k).toList.take k ++ (List.replicate m (Value.int .i64 z) ++ (repC z n k).toList.drop (k + m))).toArray = repC z n (k + m) := by
  apply Array.ext'
  unfold repC
  rw [List.take_append_of_le_length (by simp), List.drop_append]
  simp only [List.take_replicate, List.drop_replicate, List.length_replicate]
  rw [show min k k = k by omega, show k - (k + m) = 0 by omega, ← List.append_assoc, show k + m - k = m by omega]
  simp only [List.replicate_append_replicate, List.replicate_zero, List.nil_append]
  rw [show n - k - m = n - (k + m) by omega]
end Go.Pal
namespace Go.Proofs.YtoboncfgogjllaaGreatDoor
open Go Go.RowKit Go.Pal Go.Shelf

theorem wp_copyI {o : Oper} {a : Act} {K : Act → World → Prop} {Q : Exit → Act → World → Prop} {w : World} (d s : Operand) (ho : o.op = .call { callee := .builtin .copy, args := #[d, s], argTypes := #[31, 31] })
    (g off dLen dCap : Nat) (ad : Addr) (sLen sCap : Nat) (hd : a.eval d = .slice (some ⟨g, off, none⟩) dLen dCap) (hs : a.eval s = .slice (some ad) sLen sCap)
    (cur : Array Value) (hg : row? w g = some cur) (cs : List Value) (hn : cs.length = Nat.min sLen dLen)
    (hsrc : ∀ j v, cs[j]? = some v → w.cell? (ad.add j) = some v) (hfit : off + cs.length ≤ cur.size) (h1 : ∀ v ∈ cs, v.oneCell' = true)
    (h : K (a.put o.dst (.int .i64 (cs.length : Int))) (w.setRow g (cur.toList.take off ++ (cs ++ cur.toList.drop (off + cs.length))).toArray)) : o.wp Tryz.prog a w K Q := by
  obtain ⟨t, hg⟩ := row?_some hg
  obtain ⟨i0, hi, -, hz1, -⟩ := info_parts infoInt
  have hrun := run_copy_row (P := Tryz.prog) w 31 31 o.type 3 g off dLen dCap ad sLen sCap cur t cs Tryz.underlying31 (by rw [hi]; simp [hz1]) hg hn hsrc hfit h1
  unfold Oper.wp
  simp [execOp, ho, resolve, invoke, builtin, hd, hs, hrun, Result.andThen]
  exact h

theorem wpList_copyI {ops : Array Oper} {rest : List Oper} {o : Oper} {a : Act} {Q : Exit → Act → World → Prop} {w : World} (hgd : o.guard = none) (d s : Operand) (ho : o.op = .call { callee := .builtin .copy, args := #[d, s], argTypes := #[31, 31] })
    (g off dLen dCap : Nat) (ad : Addr) (sLen sCap : Nat) (hd : a.eval d = .slice (some ⟨g, off, none⟩) dLen dCap) (hs : a.eval s = .slice (some ad) sLen sCap)
    (cur : Array Value) (hg : row? w g = some cur) (cs : List Value) (hn : cs.length = Nat.min sLen dLen)
    (hsrc : ∀ j v, cs[j]? = some v → w.cell? (ad.add j) = some v) (hfit : off + cs.length ≤ cur.size) (h1 : ∀ v ∈ cs, v.oneCell' = true)
    (h : wpList Tryz.prog ops Q rest (a.put o.dst (.int .i64 (cs.length : Int))) (w.setRow g (cur.toList.take off ++ (cs ++ cur.toList.drop (off + cs.length))).toArray)) : wpList Tryz.prog ops Q (o :: rest) a w :=
  wpList_plain hgd fun _ hK => wp_copyI d s ho g off dLen dCap ad sLen sCap hd hs cur hg cs hn hsrc hfit h1 (hK _ _ h)

set_option maxRecDepth 10000 in
set_option maxHeartbeats 400000 in
theorem repeat_any (z : Int) (b c n : Nat) (w : World) (hc : w.cell? ⟨b, 0, none⟩ = some (.int .i64 z)) (hb : b < w.heap.size) (hn0 : 1 ≤ n) (hn1 : n ≤ 100000) :
    Calls Tryz.prog 28 #[.slice (some ⟨b, 0, none⟩) 1 c, .int .i64 (n : Int)] w fun e w' => ∃ g, e = .returned (.slice (some ⟨g, 0, none⟩) n n) ∧ w.heap.size ≤ g ∧ row? w' g = some (Array.replicate n (.int .i64 z)) ∧ Below w.heap.size w w' := by
  have hmk := run_make1 (P := Tryz.prog) (t := 31) Tryz.underlying31 infoInt rfl n (by omega) (by omega)
  have hmul := Any.bits_Mul Tryz.laysMul 1 n (by omega) (by omega) w
  rw [Nat.one_mul, Nat.div_eq_of_lt (by omega), Nat.mod_eq_of_lt (by omega)] at hmul
  have HM := Lib.hid hmul
  clear hmul
  go_enter Tryz.func28, Tryz.ntmps28
  go_wp2_with fail
  refine HM.out.mono ?_
  rintro e w1 ⟨rfl, rfl⟩
  have hbig : ¬ ((9223372036854775807 : Int) < (n : Int)) := by omega
  go_wp2_with (refine wpList_copyI rfl _ _ rfl w1.heap.size 0 n n ⟨b, 0, none⟩ 1 c rfl rfl (repC z n 0) ?g1 (List.replicate 1 (.int .i64 z)) ?g2 ?g3 ?g4 ?g5 ?g6)
  case g1 => rw [row?_alloc_at _ _ _ _ rfl, repC_zero]
  case g2 => show (List.replicate 1 (Value.int .i64 z)).length = min 1 n; simp; omega
  case g3 =>
    intro j v hj
    cases j with
    | zero =>
      simp at hj
      subst hj
      exact ((Below.refl _ w1).alloc (Nat.le_refl _) _).cell (p := ⟨b, 0, none⟩) hb |>.trans hc
    | succ j => simp at hj
  case g4 => rw [repC_size z (by omega)]; simp; omega
  case g5 => intro v hv; simp at hv; subst hv; rfl
  have hst : (Value.int .i64 z :: (repC z n 0).toList.tail).toArray = repC z n 1 := by
    have := repC_step z n 0 1
    simpa using this
  rw [hst]
  obtain ⟨W, hW⟩ : ∃ W, W = w1.alloc (.cells (repC z n 1) 3) := ⟨_, rfl⟩
  have hrW : row? W w1.heap.size = some (repC z n 1) := by rw [hW, row?_alloc_at _ _ _ _ rfl]
  have hBW : Below w1.heap.size w1 W := by rw [hW]; exact (Below.refl _ _).alloc (Nat.le_refl _) _
  rw [← hW]
  have HBW := Lib.hid hBW
  clear hW hBW hst hmk
  go_loopw [8] (fun i wr => ∃ k : Nat, 1 ≤ k ∧ k ≤ n ∧ i = .int .i64 (k : Int) ∧ row? wr w1.heap.size = some (repC z n k) ∧ Below w1.heap.size w1 wr) (fun i _ => n - (intOf i).toNat)
  case atStart => exact ⟨1, by omega, hn0, rfl, hrW, HBW.out⟩
  case round =>
    obtain ⟨k, hk0, hk, rfl, hr, hb⟩ := hrel
    have HB := Lib.hid hb
    clear hb
    by_cases hlt : k < n
    · have hne : ¬ n = k := by omega
      go_wp2_with fail
      refine wp_region_mix (fun _ => True) 8 [(0, true), (1, true), (2, true), (3, true), (4, true), (5, true), (6, true), (7, false)] (by kernel_rfl) (by kernel_rfl) trivial ?_
      repeat (apply wpPlan_still rfl rfl; (intro w hw; skip; go_simp; (try go_ints); (first | with_reducible rfl | (go_simp; with_reducible rfl))); (intro K hK; go_simp; (try go_ints); refine hK _ _ ?_; clear hK K))
      apply wpPlan_act rfl rfl
      intro K hK
      refine wp_copyI _ _ rfl w1.heap.size k (n - k) (n - k) ⟨w1.heap.size, 0, none⟩ k n rfl rfl (repC z n k) hr (List.replicate (min k (n - k)) (.int .i64 z)) (by rw [List.length_replicate]) ?_ ?_ ?_ ?_
      · intro j v hj
        rw [List.getElem?_replicate] at hj
        split at hj
        · cases hj
          have : (⟨w1.heap.size, 0, none⟩ : Addr).add j = ⟨w1.heap.size, j, none⟩ := by unfold Addr.add; split <;> simp_all
          rw [this]
          exact (cell?_row (w := wr.drew) hr).trans (repC_get z (by omega))
        · cases hj
      · rw [repC_size z hk, List.length_replicate]; omega
      · intro v hv; rw [List.mem_replicate] at hv; rw [hv.2]; rfl
      have hst := repC_step z n k (min k (n - k))
      rw [List.length_replicate, hst]
      refine hK _ _ trivial ?_
      obtain ⟨W2, hW2⟩ : ∃ W2, W2 = wr.drew.setRow w1.heap.size (repC z n (k + min k (n - k))) := ⟨_, rfl⟩
      have hr2 : row? W2 w1.heap.size = some (repC z n (k + min k (n - k))) := by rw [hW2, row?_setRow_same _ _ _ (by show (row? wr _).isSome = true; rw [hr]; rfl)]
      have hB2 : Below w1.heap.size w1 W2 := by rw [hW2]; exact below_setRow HB.out.drew (Nat.le_refl _) _
      rw [← hW2]
      have HB2 := Lib.hid hB2
      clear hK K hW2 hB2 hst hr
      refine wpPlan_nil ?_
      simp only [List.drop_succ_cons, List.drop_zero]
      have hm : k + min k (n - k) ≤ n := by omega
      have hm1 : k < k + min k (n - k) := by omega
      go_wp2_with fail
      go_roundw
      case rel => exact ⟨k + min k (n - k), by omega, hm, by go_num, hr2, HB2.out⟩
      case measure => simp [intOf]; omega
    · have hkn : k = n := by omega
      subst hkn
      go_wp2_with fail
      go_ret
      rw [repC_full] at hr
      exact ⟨_, rfl, Nat.le_refl _, hr, HB.out⟩
end Go.Proofs.YtoboncfgogjllaaGreatDoor
