/-
  Walks of package treedecomp: drawn (a bag that can be merged into its parent), Width.
-/
import Derived.Test.YtmmhngjndnonhaaGreatDoorDTyB
set_option linter.unusedSimpArgs false
set_option linter.unusedVariables false
namespace Go.Pal
open Go
def mergeable (x y : Nat) : Bool := decide (sDiff x y = 0) || decide (sDiff y x = 0)
def drawnP (T : List Bg) (b : Bg) : Bool := if b.1 = -1 then false else match T[b.1.toNat]? with | none => false | some y => mergeable b.2 y.2
theorem drawnP_of {T : List Bg} {p : Nat} {S : Nat} {y : Bg} (h : T[p]? = some y) : drawnP T ((p : Int), S) = mergeable S y.2 := by
  unfold drawnP
  have : ¬ ((p : Int) = -1) := by omega
  simp [this, h]
/-- Each bag's parent is none or a bag. -/
def Parents (T : List Bg) : Prop := ∀ x ∈ T, x.1 = -1 ∨ ∃ p : Nat, x.1 = p ∧ p < T.length
end Go.Pal
namespace Go.Proofs.YtmmhngjndnonhaaGreatDoor
open Go Go.RowKit Go.Pal
attribute [local go_sem] Oper.semAt_some

set_option maxRecDepth 10000 in
set_option maxHeartbeats 1000000 in
theorem drawn1_root (S : Nat) (g : Nat) (w : World) : Calls Tryz.prog 138 #[.agg (bagA (-1, S)), .pointer (some ⟨g, 0, none⟩)] w fun e w' => e = .returned (.bool false) ∧ Below w.heap.size w w' := by
  go_enter Tryz.func138, Tryz.ntmps138
  go_wp2_with fail
  obtain ⟨bq, hbq⟩ : ∃ bq, bq = w.heap.size := ⟨_, rfl⟩
  generalize hW0 : World.alloc w _ = W0
  have hr0 : row? W0 bq = some (bagA (-1, S)) := by rw [← hW0, hbq]; exact row?_alloc_at _ _ _ _ rfl
  have hB0 : Below bq w W0 := by rw [← hW0, hbq]; exact (Below.refl _ w).alloc (Nat.le_refl _) _
  have HBW : Hid (Below w.heap.size w W0) := Lib.hid (by rw [← hbq]; exact hB0)
  rw [← hbq]
  have hl0 := row?_lt hr0
  have c0 : ∀ w', Below W0.heap.size W0 w' → w'.cell? ⟨bq, 0, none⟩ = some (.int .i64 (-1)) := fun w' hb => (cell?_row (i := 0) ((row?_below hb hl0).trans hr0)).trans (by rw [stepA_lit]; rfl)
  have C0 := Lib.hid c0
  clear hW0 hB0 hr0 hbq c0
  refine wp_region_free_tail (fun w' => w' = W0.drew) 25 (by kernel_rfl) (by kernel_rfl) rfl ?_
  simp only [List.take_succ_cons, List.take_zero, List.drop_succ_cons, List.drop_zero]
  repeat (first | (apply wpFree_still; (intro w hw; subst hw; have k0 := C0.out W0.drew (Below.refl _ _).drew; go_simp; (try go_ints); (first | with_reducible rfl | (go_simp; with_reducible rfl))); with_reducible rfl; (intro K hK; go_simp; (try go_ints); refine hK _ ?_; clear hK K)) | (apply wpFree_stillG rfl; (intro w hw; subst hw; have k0 := C0.out W0.drew (Below.refl _ _).drew; go_simp; (try go_ints); (first | with_reducible rfl | (go_simp; with_reducible rfl))); (intro K hK; go_simp; (try go_ints); refine hK _ ?_; clear hK K)))
  repeat (first | (apply wpFree_skip rfl; (intro K hK; go_simp; (try go_ints); refine hK _ ?_; clear hK K)) | (apply wpFree_still; (intro w hw; subst hw; go_simp; (try go_ints); (first | with_reducible rfl | (go_simp; with_reducible rfl))); with_reducible rfl; (intro K hK; go_simp; (try go_ints); refine hK _ ?_; clear hK K)))
  with_reducible refine wpFree_nil ?_
  rintro w' rfl
  go_wp2_with fail
  go_ret
  exact ⟨by simp, HBW.out.drew⟩
set_option maxRecDepth 10000 in
set_option maxHeartbeats 2000000 in
theorem drawn1_other (T : List Bg) (p S : Nat) (hS : IsSet S) (y : Bg) (hy : T[p]? = some y) (hyS : IsSet y.2) (g : Nat) (v : Value) (w : World) (hv : Rd bagA 17 w.heap.size w v T) (hg : row? w g = some #[v]) :
    Calls Tryz.prog 138 #[.agg (bagA ((p : Int), S)), .pointer (some ⟨g, 0, none⟩)] w fun e w' => e = .returned (.bool (mergeable S y.2)) ∧ Below w.heap.size w w' := by
  obtain ⟨a, c, rfl, hr⟩ := hv
  have hlt : p < T.length := (List.getElem?_eq_some_iff.1 hy).1
  rcases hr with h | ⟨b, off, rfl, hbB, hc⟩
  · rw [h] at hlt; simp at hlt
  have hgl := row?_lt hg
  obtain ⟨V, hV⟩ : ∃ V, V = y.2 := ⟨_, rfl⟩
  rw [← hV] at hyS
  have HCT := Lib.hid fun w' hb => (tree_load (w := w) (w' := w') (B := w.heap.size) hc hb hbB hy).2.1
  have HG := Lib.hid hg
  have HV := Lib.hid hV
  have hp1 : ((p : Int) != -1) = true := by simp
  clear hc hg hy hV
  have hsub1 := subsetOf_any S V hS
  have hsub2 := subsetOf_any V S hyS
  have HS1 := Lib.hid hsub1
  have HS2 := Lib.hid hsub2
  clear hsub1 hsub2
  rw [← HV.out]
  cases h1 : decide (sDiff S V = 0) with
  | true =>
    rw [h1] at HS1
    go_enter Tryz.func138, Tryz.ntmps138
    go_wp2_with fail
    obtain ⟨bq, hbq⟩ : ∃ bq, bq = w.heap.size := ⟨_, rfl⟩
    generalize hW0 : World.alloc w _ = W0
    have hr0 : row? W0 bq = some (bagA ((p : Int), S)) := by rw [← hW0, hbq]; exact row?_alloc_at _ _ _ _ rfl
    have hB0 : Below bq w W0 := by rw [← hW0, hbq]; exact (Below.refl _ w).alloc (Nat.le_refl _) _
    have HBW : Hid (Below w.heap.size w W0) := Lib.hid (by rw [← hbq]; exact hB0)
    have hl0 := row?_lt hr0
    have HF := Lib.hid fun w' (hb : Below W0.heap.size W0 w') => show row? w' bq = some (bagA ((p : Int), S)) ∧ w'.cell? ⟨bq, 0, none⟩ = some (.int .i64 (p : Int)) ∧ w'.cell? ⟨g, 0, none⟩ = some (.slice (some ⟨b, off, none⟩) T.length c) ∧ rowLoad Tryz.prog 57 ⟨b, off + p * 17 + 1, none⟩ w' = .ok (.agg (words V)) w' from
      ⟨(row?_below hb hl0).trans hr0, (cell?_row (i := 0) ((row?_below hb hl0).trans hr0)).trans (by rw [stepA_lit]; rfl), (cell?_row (i := 0) ((row?_below hb (by omega)).trans ((row?_below hB0 (by omega)).trans HG.out))).trans rfl, by rw [HV.out]; exact HCT.out w' (by rw [← hbq]; exact hB0.trans (hb.mono (by omega)))⟩
    rw [← hbq]
    clear hW0 hB0 hr0 hbq
    refine wp_region_free_tail (fun w' => Below W0.heap.size W0 w') 25 (by kernel_rfl) (by kernel_rfl) (Below.refl _ _).drew ?_
    simp only [List.take_succ_cons, List.take_zero, List.drop_succ_cons, List.drop_zero]
    repeat (first | (apply wpFree_still; (intro w hw; obtain ⟨k1, k2, k3, k4⟩ := HF.out w hw; clear hw; go_simp; (try go_ints); (first | with_reducible rfl | (go_simp; with_reducible rfl))); with_reducible rfl; (intro K hK; go_simp; (try go_ints); refine hK _ ?_; clear hK K)) | (apply wpFree_stillG rfl; (intro w hw; obtain ⟨k1, k2, k3, k4⟩ := HF.out w hw; clear hw; go_simp; (try go_ints); (first | with_reducible rfl | (go_simp; with_reducible rfl))); (intro K hK; go_simp; (try go_ints); refine hK _ ?_; clear hK K)))
    apply wpFree_callG rfl
    · intro w hw; go_simp; first | with_reducible rfl | with_reducible exact ⟨rfl, rfl⟩
    · intro w hw; refine (HS1.out w).mono ?_; rintro e w' ⟨h1, h2⟩; exact ⟨h1, hw.trans (h2.mono hw.size)⟩
    intro K hK; go_simp; (try go_ints); refine hK _ ?_; clear hK K
    repeat (first | (apply wpFree_still; (intro w hw; clear hw; go_simp; (try go_ints); (first | with_reducible rfl | (go_simp; with_reducible rfl))); with_reducible rfl; (intro K hK; go_simp; (try go_ints); refine hK _ ?_; clear hK K)) | (apply wpFree_stillG rfl; (intro w hw; clear hw; go_simp; (try go_ints); (first | with_reducible rfl | (go_simp; with_reducible rfl))); (intro K hK; go_simp; (try go_ints); refine hK _ ?_; clear hK K)))
    repeat (first | (apply wpFree_skip rfl; (intro K hK; go_simp; (try go_ints); refine hK _ ?_; clear hK K)) | (apply wpFree_still; (intro w hw; clear hw; go_simp; (try go_ints); (first | with_reducible rfl | (go_simp; with_reducible rfl))); with_reducible rfl; (intro K hK; go_simp; (try go_ints); refine hK _ ?_; clear hK K)))
    repeat (first | (apply wpFree_still; (intro w hw; clear hw; go_simp; (try go_ints); (first | with_reducible rfl | (go_simp; with_reducible rfl))); with_reducible rfl; (intro K hK; go_simp; (try go_ints); refine hK _ ?_; clear hK K)) | (apply wpFree_stillG rfl; (intro w hw; clear hw; go_simp; (try go_ints); (first | with_reducible rfl | (go_simp; with_reducible rfl))); (intro K hK; go_simp; (try go_ints); refine hK _ ?_; clear hK K)))
    with_reducible refine wpFree_nil ?_
    intro w' hb'
    go_wp2_with fail
    go_ret
    exact ⟨by simp [mergeable, h1], HBW.out.trans (hb'.mono HBW.out.size)⟩
  | false =>
    rw [h1] at HS1
    go_enter Tryz.func138, Tryz.ntmps138
    go_wp2_with fail
    obtain ⟨bq, hbq⟩ : ∃ bq, bq = w.heap.size := ⟨_, rfl⟩
    generalize hW0 : World.alloc w _ = W0
    have hr0 : row? W0 bq = some (bagA ((p : Int), S)) := by rw [← hW0, hbq]; exact row?_alloc_at _ _ _ _ rfl
    have hB0 : Below bq w W0 := by rw [← hW0, hbq]; exact (Below.refl _ w).alloc (Nat.le_refl _) _
    have HBW : Hid (Below w.heap.size w W0) := Lib.hid (by rw [← hbq]; exact hB0)
    have hl0 := row?_lt hr0
    have HF := Lib.hid fun w' (hb : Below W0.heap.size W0 w') => show row? w' bq = some (bagA ((p : Int), S)) ∧ w'.cell? ⟨bq, 0, none⟩ = some (.int .i64 (p : Int)) ∧ w'.cell? ⟨g, 0, none⟩ = some (.slice (some ⟨b, off, none⟩) T.length c) ∧ rowLoad Tryz.prog 57 ⟨b, off + p * 17 + 1, none⟩ w' = .ok (.agg (words V)) w' from
      ⟨(row?_below hb hl0).trans hr0, (cell?_row (i := 0) ((row?_below hb hl0).trans hr0)).trans (by rw [stepA_lit]; rfl), (cell?_row (i := 0) ((row?_below hb (by omega)).trans ((row?_below hB0 (by omega)).trans HG.out))).trans rfl, by rw [HV.out]; exact HCT.out w' (by rw [← hbq]; exact hB0.trans (hb.mono (by omega)))⟩
    rw [← hbq]
    clear hW0 hB0 hr0 hbq
    refine wp_region_free_tail (fun w' => Below W0.heap.size W0 w') 25 (by kernel_rfl) (by kernel_rfl) (Below.refl _ _).drew ?_
    simp only [List.take_succ_cons, List.take_zero, List.drop_succ_cons, List.drop_zero]
    repeat (first | (apply wpFree_still; (intro w hw; obtain ⟨k1, k2, k3, k4⟩ := HF.out w hw; clear hw; go_simp; (try go_ints); (first | with_reducible rfl | (go_simp; with_reducible rfl))); with_reducible rfl; (intro K hK; go_simp; (try go_ints); refine hK _ ?_; clear hK K)) | (apply wpFree_stillG rfl; (intro w hw; obtain ⟨k1, k2, k3, k4⟩ := HF.out w hw; clear hw; go_simp; (try go_ints); (first | with_reducible rfl | (go_simp; with_reducible rfl))); (intro K hK; go_simp; (try go_ints); refine hK _ ?_; clear hK K)))
    apply wpFree_callG rfl
    · intro w hw; go_simp; first | with_reducible rfl | with_reducible exact ⟨rfl, rfl⟩
    · intro w hw; refine (HS1.out w).mono ?_; rintro e w' ⟨h1, h2⟩; exact ⟨h1, hw.trans (h2.mono hw.size)⟩
    intro K hK; go_simp; (try go_ints); refine hK _ ?_; clear hK K
    repeat (first | (apply wpFree_still; (intro w hw; obtain ⟨k1, k2, k3, k4⟩ := HF.out w hw; clear hw; go_simp; (try go_ints); (first | with_reducible rfl | (go_simp; with_reducible rfl))); with_reducible rfl; (intro K hK; go_simp; (try go_ints); refine hK _ ?_; clear hK K)) | (apply wpFree_stillG rfl; (intro w hw; obtain ⟨k1, k2, k3, k4⟩ := HF.out w hw; clear hw; go_simp; (try go_ints); (first | with_reducible rfl | (go_simp; with_reducible rfl))); (intro K hK; go_simp; (try go_ints); refine hK _ ?_; clear hK K)))
    apply wpFree_callG rfl
    · intro w hw; go_simp; first | with_reducible rfl | with_reducible exact ⟨rfl, rfl⟩
    · intro w hw; refine (HS2.out w).mono ?_; rintro e w' ⟨h1, h2⟩; exact ⟨h1, hw.trans (h2.mono hw.size)⟩
    intro K hK; go_simp; (try go_ints); refine hK _ ?_; clear hK K
    repeat (first | (apply wpFree_still; (intro w hw; clear hw; go_simp; (try go_ints); (first | with_reducible rfl | (go_simp; with_reducible rfl))); with_reducible rfl; (intro K hK; go_simp; (try go_ints); refine hK _ ?_; clear hK K)) | (apply wpFree_stillG rfl; (intro w hw; clear hw; go_simp; (try go_ints); (first | with_reducible rfl | (go_simp; with_reducible rfl))); (intro K hK; go_simp; (try go_ints); refine hK _ ?_; clear hK K)))
    with_reducible refine wpFree_nil ?_
    intro w' hb'
    go_wp2_with fail
    go_ret
    exact ⟨by simp [mergeable, h1], HBW.out.trans (hb'.mono HBW.out.size)⟩

set_option maxHeartbeats 1000000 in
theorem drawn_any (T : List Bg) (hS : ∀ x ∈ T, IsSet x.2) (hP : Parents T) (v : Value) (w : World) (hv : Rd bagA 17 w.heap.size w v T) (hlen : T.length ≤ 65536) :
    Calls Tryz.prog 66 #[v] w fun e w' => e = .returned (.int .i64 (idx (drawnP T) T)) ∧ Below w.heap.size w w' := by
  have HV := Lib.hid hv
  have HS := Lib.hid hS
  have HP := Lib.hid hP
  obtain ⟨a, c, rfl, -⟩ := hv
  clear hS hP
  go_enter Tryz.func66, Tryz.ntmps66
  go_wp2_with fail
  generalize hW0 : World.alloc w _ = W0
  have hr0 : row? W0 w.heap.size = some #[.slice a T.length c] := by rw [← hW0]; exact row?_alloc_at _ _ _ _ rfl
  have hB0 : Below w.heap.size w W0 := by rw [← hW0]; exact (Below.refl _ w).alloc (Nat.le_refl _) _
  have hl0 := row?_lt hr0
  have HR0 := Lib.hid hr0
  have HB0 := Lib.hid hB0
  have hv0 : Rd bagA 17 W0.heap.size W0 (.slice a T.length c) T := (HV.out.below HB0.out (Nat.le_refl _)).mono hB0.size
  have HI := Lib.hid (indexFuncT (drawnP T) 138 #[.pointer (some ⟨w.heap.size, 0, none⟩)] (fun args w => by simp [go_sem]) T _ W0 hv0 (by omega) fun W hb x hx => by
    obtain ⟨q, S⟩ := x
    rcases HP.out _ hx with h1 | ⟨p, h1, h2⟩
    · simp only at h1
      subst h1
      have : drawnP T (-1, S) = false := by simp [drawnP]
      rw [this]
      exact drawn1_root S _ W
    · simp only at h1
      subst h1
      obtain ⟨y, hy⟩ : ∃ y, T[p]? = some y := ⟨_, List.getElem?_eq_getElem h2⟩
      rw [drawnP_of hy]
      exact drawn1_other T p S (HS.out _ hx) y hy (HS.out _ (List.mem_of_getElem? hy)) _ _ W ((hv0.below hb (Nat.le_refl _)).mono hb.size) ((row?_below hb hl0).trans HR0.out))
  clear hr0 hB0 hW0 hv0
  go_wp2_with (go_at_call 137; refine HI.out.mono ?_; rintro e w' ⟨rfl, hb⟩)
  go_ret
  exact ⟨by simp, HB0.out.trans (hb.mono HB0.out.size)⟩
end Go.Proofs.YtmmhngjndnonhaaGreatDoor
