/-
  Walks of package treedecomp: Clone, Children, Root of a valid tree; slices.Clone at rows of integers.
-/
import Derived.Test.YtoboncfgogjllaaGreatDoorQShelf
namespace Go.Proofs.YtoboncfgogjllaaGreatDoor
open Go Go.RowKit Go.Pal Go.Shelf

/-- A row of integers copied. -/
theorem cloneI_any (B : Nat) (ns : List Int) (v : Value) (w : World) (hv : OwnI B w v ns) (hlen : ns.length ≤ 65536) :
    Calls Tryz.prog 40 #[v] w fun e w' => ∃ v', e = .returned v' ∧ OwnI w.heap.size w' v' ns ∧ Below w.heap.size w w' := by
  obtain ⟨i0, hi, hz0, hz1, hz2⟩ := info_parts infoInt
  rcases hv.2 with ⟨rfl, hn⟩ | ⟨g, cap, cur, rfl, hg, hh, h1, h2, h3, h4⟩
  · have : ns = [] := List.length_eq_zero_iff.1 hn
    subst this
    refine (AnyE.slices_Clone_nil Tryz.laysCloneI 0 0 w).mono ?_
    rintro e w' ⟨rfl, rfl⟩
    exact ⟨_, rfl, OwnI.nil _ _, Below.refl _ _⟩
  · refine (AnyE.slices_Clone Tryz.laysCloneI i0 (.int .i64 0) 1 8 hi hz0 hz1 hz2 rfl (by decide) Tryz.sizeOf3 g 0 ns.length cap (ns.map (Value.int .i64)) w (by simp) (by unfold maxLen; omega) (by omega) ?_ ?_).mono ?_
    · intro j u hu
      rw [Nat.zero_add, cell_of_row w g j cur _ (0, 0) hh]
      have hj := (List.getElem?_eq_some_iff.1 hu).1
      rw [← h4, List.getElem?_take, if_pos (by simpa using hj)] at hu
      simpa using hu
    · intro u hu
      obtain ⟨z, -, rfl⟩ := List.mem_map.1 hu
      rfl
    · rintro e w' ⟨v', rfl, hO, -, hb⟩
      exact ⟨v', rfl, hO, hb⟩

theorem tClone_any (T : List Bg) (v : Value) (w : World) (hv : Rd bagA 17 w.heap.size w v T) (hne : T ≠ []) (hlen : T.length ≤ 65536) :
    Calls Tryz.prog 22 #[v] w fun e w' => ∃ g c, e = .returned (.slice (some ⟨g, 0, none⟩) T.length c) ∧ w.heap.size ≤ g ∧ Rd bagA 17 w'.heap.size w' (.slice (some ⟨g, 0, none⟩) T.length c) T ∧ Below w.heap.size w w' := by
  have HC := Lib.hid (cloneT_any T v w hv hne hlen)
  clear hv hne
  go_enter Tryz.func22, Tryz.ntmps22
  go_wp2_with (go_at_call 53; refine HC.out.mono ?_; rintro e w' ⟨g, c, rfl, hg, hr, hb⟩)
  go_ret
  exact ⟨g, c, rfl, hg, hr, hb⟩

set_option maxHeartbeats 400000 in
theorem tChildren_any (T : List Bg) (t : Tr) (hV : Valid T t) (v : Value) (w : World) (hv : Rd bagA 17 w.heap.size w v T) :
    Calls Tryz.prog 88 #[v] w fun e w' => ∃ g vs, e = .returned (.slice (some ⟨g, 0, none⟩) T.length T.length) ∧ w.heap.size ≤ g ∧ vs.length = T.length ∧ Grid g w' vs (kidsTo T T.length) ∧ Below w.heap.size w w' := by
  have HC := Lib.hid (check_valid T t hV v w hv)
  have HV := Lib.hid hv
  have HVal := Lib.hid hV
  clear hv hV
  go_enter Tryz.func88, Tryz.ntmps88
  go_wp2_with fail
  refine HC.out.mono ?_
  rintro e w1 ⟨rfl, hb1⟩
  go_wp2_with fail
  refine (below_any T v w1 ((HV.out.below hb1 (Nat.le_refl _)).mono hb1.size) (by have := HVal.out.le; omega) HVal.out.par).mono ?_
  rintro e w2 ⟨vs, rfl, hvs, hG, hb2⟩
  go_wp2
  go_ret
  exact ⟨w1.heap.size, vs, rfl, hb1.size, hvs, hG, hb1.trans (hb2.mono hb1.size)⟩

set_option maxHeartbeats 400000 in
theorem tRoot_any (T : List Bg) (t : Tr) (hV : Valid T t) (v : Value) (w : World) (hv : Rd bagA 17 w.heap.size w v T) :
    Calls Tryz.prog 90 #[v] w fun e w' => e = .returned (.int .i64 (t.lab : Int)) ∧ Below w.heap.size w w' := by
  have HC := Lib.hid (check_valid T t hV v w hv)
  have HV := Lib.hid hv
  have HVal := Lib.hid hV
  clear hv hV
  go_enter Tryz.func90, Tryz.ntmps90
  go_wp2_with fail
  refine HC.out.mono ?_
  rintro e w1 ⟨rfl, hb1⟩
  go_wp2_with fail
  refine (roots_any T v w1 ((HV.out.below hb1 (Nat.le_refl _)).mono hb1.size) (by have := HVal.out.le; omega)).mono ?_
  rintro e w2 ⟨v2, rfl, hO, hb2⟩
  rw [HVal.out.root] at hO
  obtain ⟨q, n, c, rfl⟩ := hO.slice
  have hn := hO.len
  simp at hn
  subst hn
  obtain ⟨g, rfl, hg1, hg2, hc⟩ := hO.cell (j := 0) rfl
  have HB := Lib.hid (hb1.trans (hb2.mono hb1.size))
  clear hO hb2
  go_wp2
  go_ret
  exact ⟨rfl, HB.out⟩
end Go.Proofs.YtoboncfgogjllaaGreatDoor
