/- Walks of package treedecomp: drawn (a bag that can be merged into its parent), Width. .. -/
import Derived.Test.YteiibpfabgfolaaGreatDoorVGrM
import Derived.Test.YteiibpfabgfolaaGreatDoorVGrJ
import Derived.Test.YteiibpfabgfolaaGreatDoorVPlain
import Derived.Test.YteiibpfabgfolaaGreatDoorVTre4
set_option maxHeartbeats 2000000
set_option maxRecDepth 10000
set_option linter.all false
namespace Go.Pal
open Go
def mergeable (x y : Nat) : Bool := decide (sDiff x y = 0) || decide (sDiff y x = 0)
def drawnP (T : List Bg) (b : Bg) : Bool := if b.1 = -1 then false else match T[b.1.toNat]? with | none => false | some y => mergeable b.2 y.2
theorem drawnP_of {T : List Bg} {p : Nat} {S : Nat} {y : Bg} (h : T[p]? = some y) : drawnP T ((p : Int), S) = mergeable S y.2 := by
 unfold drawnP
 have : ¬ ((p : Int) = -1) := by omega
 simp [this, h]
def Parents (T : List Bg) : Prop := ∀ x ∈ T, x.1 = -1 ∨ ∃ p : Nat, x.1 = p ∧ p < T.length
end Go.Pal
namespace Go.Proofs.YteiibpfabgfolaaGreatDoor
open Go Go.RowKit Go.Pal
attribute [local go_sem] Oper.semAt_some
theorem drawn1_root (S : Nat) (g : Nat) (w : World) : Calls Tryz.prog 98 #[.agg (bagA (-1, S)), .pointer (some ⟨g, 0, none⟩)] w fun e w' => e = .returned (.bool false) ∧ Below w.heap.size w w' := by
 go_enter Tryz.func98, Tryz.ntmps98
 go_wp2_with fail
 obtain ⟨bq, hbq⟩ : ∃ bq, bq = w.heap.size := ⟨_, rfl⟩
 generalize hW0 : World.alloc w _ = W0
 have hr0 : row? W0 bq = some (bagA (-1, S)) := by rw [← hW0, hbq]; exact row?_alloc_at _ _ _ _ rfl
 have hB0 : Below bq w W0 := by rw [← hW0, hbq]; exact (Below.refl _ w).alloc (Nat.le_refl _) _
 have HBW : Hid (Below w.heap.size w W0) := Lib.hid (by rw [← hbq]; exact hB0)
 rw [← hbq]
 have hl0 := row?_lt hr0
 have c0 : ∀ w', Below W0.heap.size W0 w' → w'.cell? ⟨bq, 0, none⟩ = some (.int .i64 (-1)) := fun w' hb => (cell?_row (i := 0) ((row?_below hb hl0).trans hr0)).trans (by rw [stepA_lit]; rfl)
 have C0 := Lib.hid c0
 clear hW0 hB0 hr0 hbq c0
 refine wp_region_free_tail (fun w' => w' = W0.drew) 25 (by kernel_rfl) (by kernel_rfl) rfl ?_
 simp only [List.take_succ_cons, List.take_zero, List.drop_succ_cons, List.drop_zero]
 repeat ((first | apply wpFree_still (hg := rfl) | apply wpFree_stillG rfl); (intro w hw; subst hw; have k0 := C0.out W0.drew (Below.refl _ _).drew; go_simp; (try go_ints); (first | with_reducible rfl | (go_simp; with_reducible rfl))); (intro K hK; go_simp; (try go_ints); refine hK _ ?_; clear hK K))
 repeat (first | (apply wpFree_skip rfl; (intro K hK; go_simp; (try go_ints); refine hK _ ?_; clear hK K)) | (apply wpFree_still; (intro w hw; subst hw; go_simp; (try go_ints); (first | with_reducible rfl | (go_simp; with_reducible rfl))); with_reducible rfl; (intro K hK; go_simp; (try go_ints); refine hK _ ?_; clear hK K)))
 with_reducible refine wpFree_nil ?_
 rintro w' rfl
 go_wp2_with fail
 go_ret
 exact ⟨by simp, HBW.out.drew⟩
theorem drawn1_other (T : List Bg) (p S : Nat) (hS : IsSet S) (y : Bg) (hy : T[p]? = some y) (hyS : IsSet y.2) (g : Nat) (v : Value) (w : World) (hv : Rd bagA 17 w.heap.size w v T) (hg : row? w g = some #[v]) :
   Calls Tryz.prog 98 #[.agg (bagA ((p : Int), S)), .pointer (some ⟨g, 0, none⟩)] w fun e w' => e = .returned (.bool (mergeable S y.2)) ∧ Below w.heap.size w w' := by
 obtain ⟨a, c, rfl, hr⟩ := hv
 have hlt : p < T.length := (List.getElem?_eq_some_iff.1 hy).1
 rcases hr with h | ⟨b, off, rfl, hbB, hc⟩
 · rw [h] at hlt; simp at hlt
 have hgl := row?_lt hg
 obtain ⟨V, hV⟩ : ∃ V, V = y.2 := ⟨_, rfl⟩
 rw [← hV] at hyS
 have HCT := Lib.hid fun w' hb => (tree_load (w := w) (w' := w') (B := w.heap.size) hc hb hbB hy).2.1
 have HG := Lib.hid hg
 have HV := Lib.hid hV
 have hp1 : ((p : Int) != -1) = true := by simp
 clear hc hg hy hV
 have hsub1 := subsetOf_any S V hS
 have hsub2 := subsetOf_any V S hyS
 have HS1 := Lib.hid hsub1
 have HS2 := Lib.hid hsub2
 clear hsub1 hsub2
 rw [← HV.out]
 cases h1 : decide (sDiff S V = 0) with
 | true =>
   rw [h1] at HS1
   go_enter Tryz.func98, Tryz.ntmps98
   go_wp2_with fail
   obtain ⟨bq, hbq⟩ : ∃ bq, bq = w.heap.size := ⟨_, rfl⟩
   generalize hW0 : World.alloc w _ = W0
   have hr0 : row? W0 bq = some (bagA ((p : Int), S)) := by rw [← hW0, hbq]; exact row?_alloc_at _ _ _ _ rfl
   have hB0 : Below bq w W0 := by rw [← hW0, hbq]; exact (Below.refl _ w).alloc (Nat.le_refl _) _
   have HBW : Hid (Below w.heap.size w W0) := Lib.hid (by rw [← hbq]; exact hB0)
   have hl0 := row?_lt hr0
   have HF := Lib.hid fun w' (hb : Below W0.heap.size W0 w') => show row? w' bq = some (bagA ((p : Int), S)) ∧ w'.cell? ⟨bq, 0, none⟩ = some (.int .i64 (p : Int)) ∧ w'.cell? ⟨g, 0, none⟩ = some (.slice (some ⟨b, off, none⟩) T.length c) ∧ rowLoad Tryz.prog 51 ⟨b, off + p * 17 + 1, none⟩ w' = .ok (.agg (words V)) w' from
     ⟨(row?_below hb hl0).trans hr0, (cell?_row (i := 0) ((row?_below hb hl0).trans hr0)).trans (by rw [stepA_lit]; rfl), (cell?_row (i := 0) ((row?_below hb (by omega)).trans ((row?_below hB0 (by omega)).trans HG.out))).trans rfl, by rw [HV.out]; exact HCT.out w' (by rw [← hbq]; exact hB0.trans (hb.mono (by omega)))⟩
   rw [← hbq]
   clear hW0 hB0 hr0 hbq
   refine wp_region_free_tail (fun w' => Below W0.heap.size W0 w') 25 (by kernel_rfl) (by kernel_rfl) (Below.refl _ _).drew ?_
   simp only [List.take_succ_cons, List.take_zero, List.drop_succ_cons, List.drop_zero]
   repeat ((first | apply wpFree_still (hg := rfl) | apply wpFree_stillG rfl); (intro w hw; obtain ⟨k1, k2, k3, k4⟩ := HF.out w hw; clear hw; go_simp; (try go_ints); (first | with_reducible rfl | (go_simp; with_reducible rfl))); (intro K hK; go_simp; (try go_ints); refine hK _ ?_; clear hK K))
   apply wpFree_callG rfl
   · intro w hw; go_simp; first | with_reducible rfl | with_reducible exact ⟨rfl, rfl⟩
   · intro w hw; refine (HS1.out w).mono ?_; rintro e w' ⟨h1, h2⟩; exact ⟨h1, hw.trans (h2.mono hw.size)⟩
   intro K hK; go_simp; (try go_ints); refine hK _ ?_; clear hK K
   repeat ((first | apply wpFree_still (hg := rfl) | apply wpFree_stillG rfl); (intro w hw; clear hw; go_simp; (try go_ints); (first | with_reducible rfl | (go_simp; with_reducible rfl))); (intro K hK; go_simp; (try go_ints); refine hK _ ?_; clear hK K))
   repeat (first | (apply wpFree_skip rfl; (intro K hK; go_simp; (try go_ints); refine hK _ ?_; clear hK K)) | (apply wpFree_still; (intro w hw; clear hw; go_simp; (try go_ints); (first | with_reducible rfl | (go_simp; with_reducible rfl))); with_reducible rfl; (intro K hK; go_simp; (try go_ints); refine hK _ ?_; clear hK K)))
   repeat ((first | apply wpFree_still (hg := rfl) | apply wpFree_stillG rfl); (intro w hw; clear hw; go_simp; (try go_ints); (first | with_reducible rfl | (go_simp; with_reducible rfl))); (intro K hK; go_simp; (try go_ints); refine hK _ ?_; clear hK K))
   with_reducible refine wpFree_nil ?_
   intro w' hb'
   go_wp2_with fail
   go_ret
   exact ⟨by simp [mergeable, h1], HBW.out.trans (hb'.mono HBW.out.size)⟩
 | false =>
   rw [h1] at HS1
   go_enter Tryz.func98, Tryz.ntmps98
   go_wp2_with fail
   obtain ⟨bq, hbq⟩ : ∃ bq, bq = w.heap.size := ⟨_, rfl⟩
   generalize hW0 : World.alloc w _ = W0
   have hr0 : row? W0 bq = some (bagA ((p : Int), S)) := by rw [← hW0, hbq]; exact row?_alloc_at _ _ _ _ rfl
   have hB0 : Below bq w W0 := by rw [← hW0, hbq]; exact (Below.refl _ w).alloc (Nat.le_refl _) _
   have HBW : Hid (Below w.heap.size w W0) := Lib.hid (by rw [← hbq]; exact hB0)
   have hl0 := row?_lt hr0
   have HF := Lib.hid fun w' (hb : Below W0.heap.size W0 w') => show row? w' bq = some (bagA ((p : Int), S)) ∧ w'.cell? ⟨bq, 0, none⟩ = some (.int .i64 (p : Int)) ∧ w'.cell? ⟨g, 0, none⟩ = some (.slice (some ⟨b, off, none⟩) T.length c) ∧ rowLoad Tryz.prog 51 ⟨b, off + p * 17 + 1, none⟩ w' = .ok (.agg (words V)) w' from
     ⟨(row?_below hb hl0).trans hr0, (cell?_row (i := 0) ((row?_below hb hl0).trans hr0)).trans (by rw [stepA_lit]; rfl), (cell?_row (i := 0) ((row?_below hb (by omega)).trans ((row?_below hB0 (by omega)).trans HG.out))).trans rfl, by rw [HV.out]; exact HCT.out w' (by rw [← hbq]; exact hB0.trans (hb.mono (by omega)))⟩
   rw [← hbq]
   clear hW0 hB0 hr0 hbq
   refine wp_region_free_tail (fun w' => Below W0.heap.size W0 w') 25 (by kernel_rfl) (by kernel_rfl) (Below.refl _ _).drew ?_
   simp only [List.take_succ_cons, List.take_zero, List.drop_succ_cons, List.drop_zero]
   repeat ((first | apply wpFree_still (hg := rfl) | apply wpFree_stillG rfl); (intro w hw; obtain ⟨k1, k2, k3, k4⟩ := HF.out w hw; clear hw; go_simp; (try go_ints); (first | with_reducible rfl | (go_simp; with_reducible rfl))); (intro K hK; go_simp; (try go_ints); refine hK _ ?_; clear hK K))
   apply wpFree_callG rfl
   · intro w hw; go_simp; first | with_reducible rfl | with_reducible exact ⟨rfl, rfl⟩
   · intro w hw; refine (HS1.out w).mono ?_; rintro e w' ⟨h1, h2⟩; exact ⟨h1, hw.trans (h2.mono hw.size)⟩
   intro K hK; go_simp; (try go_ints); refine hK _ ?_; clear hK K
   repeat ((first | apply wpFree_still (hg := rfl) | apply wpFree_stillG rfl); (intro w hw; obtain ⟨k1, k2, k3, k4⟩ := HF.out w hw; clear hw; go_simp; (try go_ints); (first | with_reducible rfl | (go_simp; with_reducible rfl))); (intro K hK; go_simp; (try go_ints); refine hK _ ?_; clear hK K))
   apply wpFree_callG rfl
   · intro w hw; go_simp; first | with_reducible rfl | with_reducible exact ⟨rfl, rfl⟩
   · intro w hw; refine (HS2.out w).mono ?_; rintro e w' ⟨h1, h2⟩; exact ⟨h1, hw.trans (h2.mono hw.size)⟩
   intro K hK; go_simp; (try go_ints); refine hK _ ?_; clear hK K
   repeat ((first | apply wpFree_still (hg := rfl) | apply wpFree_stillG rfl); (intro w hw; clear hw; go_simp; (try go_ints); (first | with_reducible rfl | (go_simp; with_reducible rfl))); (intro K hK; go_simp; (try go_ints); refine hK _ ?_; clear hK K))
   with_reducible refine wpFree_nil ?_
   intro w' hb'
   go_wp2_with fail
   go_ret
   exact ⟨by simp [mergeable, h1], HBW.out.trans (hb'.mono HBW.out.size)⟩
theorem drawn_any (T : List Bg) (hS : ∀ x ∈ T, IsSet x.2) (hP : Parents T) (v : Value) (w : World) (hv : Rd bagA 17 w.heap.size w v T) (hlen : T.length ≤ 65536) :
   Calls Tryz.prog 42 #[v] w fun e w' => e = .returned (.int .i64 (idx (drawnP T) T)) ∧ Below w.heap.size w w' := by
 have HV := Lib.hid hv
 have HS := Lib.hid hS
 have HP := Lib.hid hP
 obtain ⟨a, c, rfl, -⟩ := hv
 clear hS hP
 go_enter Tryz.func42, Tryz.ntmps42
 go_wp2_with fail
 generalize hW0 : World.alloc w _ = W0
 have hr0 : row? W0 w.heap.size = some #[.slice a T.length c] := by rw [← hW0]; exact row?_alloc_at _ _ _ _ rfl
 have hB0 : Below w.heap.size w W0 := by rw [← hW0]; exact (Below.refl _ w).alloc (Nat.le_refl _) _
 have hl0 := row?_lt hr0
 have HR0 := Lib.hid hr0
 have HB0 := Lib.hid hB0
 have hv0 : Rd bagA 17 W0.heap.size W0 (.slice a T.length c) T := (HV.out.below HB0.out (Nat.le_refl _)).mono hB0.size
 have HI := Lib.hid (indexFuncT (drawnP T) 98 #[.pointer (some ⟨w.heap.size, 0, none⟩)] (fun args w => by simp [go_sem]) T _ W0 hv0 (by omega) fun W hb x hx => by
   obtain ⟨q, S⟩ := x
   rcases HP.out _ hx with h1 | ⟨p, h1, h2⟩
   · simp only at h1
     subst h1
     have : drawnP T (-1, S) = false := by simp [drawnP]
     rw [this]
     exact drawn1_root S _ W
   · simp only at h1
     subst h1
     obtain ⟨y, hy⟩ : ∃ y, T[p]? = some y := ⟨_, List.getElem?_eq_getElem h2⟩
     rw [drawnP_of hy]
     exact drawn1_other T p S (HS.out _ hx) y hy (HS.out _ (List.mem_of_getElem? hy)) _ _ W ((hv0.below hb (Nat.le_refl _)).mono hb.size) ((row?_below hb hl0).trans HR0.out))
 clear hr0 hB0 hW0 hv0
 go_wp2_with (go_at_call 97; refine HI.out.mono ?_; rintro e w' ⟨rfl, hb⟩)
 go_ret
 exact ⟨by simp, HB0.out.trans (hb.mono HB0.out.size)⟩
end Go.Proofs.YteiibpfabgfolaaGreatDoor
namespace Go.Pal
open Go
def widTo (T : List Bg) (k : Nat) : Int := (T.take k).foldl (fun m x => max m ((lenS x.2 : Int) - 1)) (-1)
theorem widTo_succ {T : List Bg} {k : Nat} {x : Bg} (h : T[k]? = some x) : widTo T (k + 1) = max (widTo T k) ((lenS x.2 : Int) - 1) := by
 unfold widTo
 rw [List.take_add_one, h, List.foldl_append]
 rfl
end Go.Pal
namespace Go.Proofs.YteiibpfabgfolaaGreatDoor
open Go Go.RowKit Go.Pal
attribute [local go_sem] Oper.semAt_some
theorem width_any (T : List Bg) (v : Value) (w : World) (hv : Rd bagA 17 w.heap.size w v T) (hlen : T.length ≤ 65536) :
   Calls Tryz.prog 18 #[v] w fun e w' => e = .returned (.int .i64 (widTo T T.length)) ∧ Below w.heap.size w w' := by
 obtain ⟨a, c, rfl, hr⟩ := hv
 have HR := Lib.hid hr; clear hr
 go_enter Tryz.func18, Tryz.ntmps18
 go_wp2_with fail
 go_loopw [3, 8] (fun m i wr => ∃ k : Nat, k ≤ T.length ∧ i = .int .i64 k ∧ m = .int .i64 (widTo T k) ∧ Below w.heap.size w wr) (fun _ i _ => T.length - (intOf i).toNat)
 case atStart => exact ⟨0, by omega, rfl, rfl, Below.refl _ _⟩
 case round =>
   obtain ⟨k, hk, rfl, rfl, hb⟩ := hrel
   by_cases hlt : k < T.length
   · obtain ⟨x, hx⟩ : ∃ x, T[k]? = some x := ⟨_, List.getElem?_eq_getElem hlt⟩
     rcases HR.out with h | ⟨b, off, rfl, hbB, hc⟩
     · rw [h] at hlt; simp at hlt
     obtain ⟨hl, -, -⟩ := tree_load hc hb hbB hx
     have HX := Lib.hid hx
     have hle : lenS x.2 ≤ 2032 := by rw [lenS_lenTo x.2 16 rfl]; exact lenTo_le _ 16
     have HB := Lib.hid hb
     clear hx hc hb
     go_wp2_with fail
     refine (len_any x.2 _).mono ?_
     rintro e w1 ⟨rfl, hb1⟩
     have hB1 : Below w.heap.size w w1 := (HB.out.alloc HB.out.size _).trans (hb1.mono (by simp; have := HB.out.size; omega))
     have HB1 := Lib.hid hB1
     clear hb1 hB1
     go_wp2_with fail
     go_roundw
     case rel => exact ⟨k + 1, by omega, by go_num, by rw [widTo_succ HX.out], HB1.out⟩
     case measure => simp [intOf]; omega
   · have hk' : k = T.length := by omega
     subst hk'
     go_wp2_with fail
     go_ret
     exact ⟨by simp, hb⟩
end Go.Proofs.YteiibpfabgfolaaGreatDoor
namespace Go.Pal
open Go
def hasI (S : Nat) (n : Int) : Bool := decide (0 ≤ n ∧ n < 1024) && S.testBit n.toNat
def holdE (e : (Int × Int) × Th) (b : Bg) : Bool := hasI b.2 e.1.1 && hasI b.2 e.1.2
def allTo (T : List Bg) (k : Nat) : Nat := (T.take k).foldl (fun S x => S ||| x.2) 0
theorem allTo_succ {T : List Bg} {k : Nat} {x : Bg} (h : T[k]? = some x) : allTo T (k + 1) = allTo T k ||| x.2 := by
 unfold allTo
 rw [List.take_add_one, h, List.foldl_append]
 rfl
def Gr.fitT (G : Gr) (T : List Bg) : Nat := if sDiff G.vset (allTo T T.length) = 0 then (if ∀ e ∈ G.E, T.any (holdE e) = true then 0 else 23) else 9
end Go.Pal
namespace Go.Proofs.YteiibpfabgfolaaGreatDoor
open Go Go.RowKit Go.Pal
attribute [local go_sem] Oper.semAt_some
theorem cg1_any (b : Bg) (e : (Int × Int) × Th) (g : Nat) (w : World) (hg : row? w g = some (edgA e)) :
   Calls Tryz.prog 50 #[.agg (bagA b), .pointer (some ⟨g, 0, none⟩)] w fun r w' => r = .returned (.bool (holdE e b)) ∧ Below w.heap.size w w' := by
 obtain ⟨q, S⟩ := b
 have hgl := row?_lt hg
 have HG := Lib.hid hg
 clear hg
 have hh1 := has_any S e.1.1
 have hh2 := has_any S e.1.2
 have c0 := fun o : Obj => (cell?_row (i := 0) ((row?_alloc_past w o _ hgl).trans HG.out)).trans (show _ = some (Value.int .i64 e.1.1) from rfl)
 cases h1 : decide (0 ≤ e.1.1 ∧ e.1.1 < 1024) && S.testBit e.1.1.toNat with
 | true =>
   rw [h1] at hh1
   have HH1 := Lib.hid hh1
   have HH2 := Lib.hid hh2
   have HQ1 := Lib.hid h1
   clear hh1 hh2 h1
   go_enter Tryz.func50, Tryz.ntmps50
   go_wp2_with fail
   refine (HH1.out _).mono ?_
   rintro r w1 ⟨rfl, hb1⟩
   have hB1 : Below w.heap.size w w1 := ((Below.refl _ w).alloc (Nat.le_refl _) _).trans (hb1.mono (by simp))
   have k1 : row? w1 w.heap.size = some (bagA (q, S)) := (row?_below hb1 (by simp)).trans (row?_alloc_at _ _ _ _ rfl)
   have k2 : w1.cell? ⟨g, 1, none⟩ = some (.int .i64 e.1.2) := (cell?_row (i := 1) ((row?_below hB1 hgl).trans HG.out)).trans rfl
   have HB1 := Lib.hid hB1
   clear hb1 hB1 c0
   go_wp2_with fail
   refine (HH2.out w1).mono ?_
   rintro r w2 ⟨rfl, hb2⟩
   have HB2 := Lib.hid (HB1.out.trans (hb2.mono HB1.out.size))
   clear k1 k2 hb2
   go_wp2_with fail
   go_ret
   refine ⟨?_, HB2.out⟩
   show _ = Ending.returned (.bool (hasI S e.1.1 && hasI S e.1.2))
   have hq : hasI S e.1.1 = _ := HQ1.out
   rw [hq]
   simp [hasI]
 | false =>
   rw [h1] at hh1
   have HH1 := Lib.hid hh1
   have HH2 := Lib.hid hh2
   have HQ1 := Lib.hid h1
   clear hh1 hh2 h1
   go_enter Tryz.func50, Tryz.ntmps50
   go_wp2_with fail
   refine (HH1.out _).mono ?_
   rintro r w1 ⟨rfl, hb1⟩
   have hB1 : Below w.heap.size w w1 := ((Below.refl _ w).alloc (Nat.le_refl _) _).trans (hb1.mono (by simp))
   have k1 : row? w1 w.heap.size = some (bagA (q, S)) := (row?_below hb1 (by simp)).trans (row?_alloc_at _ _ _ _ rfl)
   have k2 : w1.cell? ⟨g, 1, none⟩ = some (.int .i64 e.1.2) := (cell?_row (i := 1) ((row?_below hB1 hgl).trans HG.out)).trans rfl
   have HB1 := Lib.hid hB1
   clear hb1 hB1 c0
   go_wp2_with fail
   go_ret
   refine ⟨?_, HB1.out⟩
   show _ = Ending.returned (.bool (hasI S e.1.1 && hasI S e.1.2))
   have hq : hasI S e.1.1 = _ := HQ1.out
   rw [hq]
   simp [hasI]
theorem checkGraph_any (T : List Bg) (hS : ∀ x ∈ T, IsSet x.2) (g bV bE : Nat) (G : Gr) (hG : G.Ok) (v : Value) (w : World) (hv : Rd bagA 17 w.heap.size w v T) (hlen : T.length ≤ 65536) (h : GOk w g bV bE G)
   (hck : ∀ W, Below w.heap.size w W → Calls Tryz.prog 21 #[v] W fun e w' => e = .returned (.int .i64 0) ∧ Below W.heap.size W w') :
   Calls Tryz.prog 19 #[v, .pointer (some ⟨g, 0, none⟩)] w fun e w' => e = .returned (.int .i64 (G.fitT T : Int)) ∧ Below w.heap.size w w' := by
 have HV := Lib.hid hv
 have HS := Lib.hid hS
 have HG := Lib.hid hG
 have H0 := Lib.hid h
 have HK := Lib.hid hck
 have hlE := hG.most
 obtain ⟨a, c, rfl, hr⟩ := hv
 have HR := Lib.hid hr
 clear hS hG h hck hr
 go_enter Tryz.func19, Tryz.ntmps19
 go_wp2_with fail
 refine (HK.out w (Below.refl _ _)).mono ?_
 rintro e w1 ⟨rfl, hb1⟩
 have hs1 := hb1.size
 have HB1 := Lib.hid hb1
 clear hb1
 go_wp2_with fail
 obtain ⟨bq, hbq⟩ : ∃ bq, bq = w1.heap.size := ⟨_, rfl⟩
 generalize hW2 : World.alloc w1 _ = W2
 have hr2 : row? W2 bq = some (words 0) := by rw [← hW2, hbq]; exact row?_alloc_at _ _ _ _ rfl
 have hs2 : W2.heap.size = bq + 1 := by rw [← hW2, hbq]; simp
 have hB2 : Below w.heap.size w W2 := by rw [← hW2]; exact HB1.out.alloc hs1 _
 rw [← hbq] at hs1 ⊢
 have HR2 := Lib.hid hr2
 have HB2 := Lib.hid hB2
 clear hW2 hr2 hB2 hbq
 go_loopw [20] (fun i wr => ∃ k : Nat, k ≤ T.length ∧ i = .int .i64 (k : Int) ∧ row? wr bq = some (words (allTo T k)) ∧ Same (fun j => j ≠ bq) W2 wr) (fun i _ => T.length - (intOf i).toNat)
 case atStart => exact ⟨0, by omega, rfl, HR2.out, Same.refl _ _⟩
 case round =>
   obtain ⟨k, hk, rfl, hrw, hSm⟩ := hrel
   have hsz := hSm.size
   have hbl := row?_lt hrw
   have hBr : Below w.heap.size w wr := HB2.out.trans (hSm.below (by omega) fun j hj => by omega)
   by_cases hlt : k < T.length
   · obtain ⟨x, hx⟩ : ∃ x, T[k]? = some x := ⟨_, List.getElem?_eq_getElem hlt⟩
     rcases HR.out with h | ⟨b, off, rfl, hbB, hc⟩
     · rw [h] at hlt; simp at hlt
     obtain ⟨hl, -, -⟩ := tree_load hc hBr hbB hx
     have hrx := fun o : Obj => (row?_alloc_past wr o _ hbl).trans hrw
     have hlo := fun o : Obj => row?_lt (hrx o)
     have HX := Lib.hid hx
     have HSm := Lib.hid hSm
     have HRW := Lib.hid hrw
     clear hx hSm hBr hc hrw
     go_wp2_with fail
     refine (union_any (allTo T k) x.2 _).mono ?_
     rintro e w3 ⟨rfl, hb3⟩
     have hS3 := HSm.out.trans ((Same.alloc (fun j => j ≠ bq) _ _).trans ((Same.of_below hb3).mono fun j hj _ => hj))
     have hr3 : row? w3 bq = some (words (allTo T k)) := (row?_below hb3 (by simp; omega)).trans ((row?_alloc_past _ _ _ hbl).trans HRW.out)
     have HS3 := Lib.hid hS3
     clear hrx hlo hb3 hS3
     go_wp2_with fail
     go_roundw
     case rel => exact ⟨k + 1, by omega, by go_num, by rw [allTo_succ HX.out]; exact row?_setRow_same _ _ _ (by rw [hr3]; rfl), HS3.out.trans (Same.setRow _ _ _ _ (by simp))⟩
     case measure => simp [intOf]; omega
   · have hkn : k = T.length := by omega
     subst hkn
     have HF := Lib.hid fun w' (hb : Below wr.heap.size wr w') => (row?_below hb hbl).trans hrw
     have HBr := Lib.hid hBr
     have HGV := Lib.hid fun W (hb : Below wr.heap.size wr W) => gvertexSet_any g bV bE G HG.out W (H0.out.below (HBr.out.trans (hb.mono HBr.out.size)))
     have HSUB := Lib.hid fun W => subsetOf_any G.vset (allTo T T.length) HG.out.isSet_vset W
     obtain ⟨VS, hVS⟩ : ∃ VS, VS = G.vset := ⟨_, rfl⟩
     obtain ⟨AT, hAT⟩ : ∃ AT, AT = allTo T T.length := ⟨_, rfl⟩
     rw [← hAT] at HF HSUB
     rw [← hVS] at HGV HSUB
     have hfit : G.fitT T = if sDiff VS AT = 0 then (if ∀ e ∈ G.E, T.any (holdE e) = true then 0 else 23) else 9 := by rw [hVS, hAT]; rfl
     obtain ⟨q, hq⟩ : ∃ q, q = decide (sDiff VS AT = 0) := ⟨_, rfl⟩
     rw [← hq] at HSUB
     have HQ := Lib.hid hq
     have HFIT := Lib.hid hfit
     clear hq hVS hAT hfit hSm hrw hBr hlt hk
     go_wp2_with fail
     refine wp_region_free (fun w' => Below wr.heap.size wr w') (by kernel_rfl) (by kernel_rfl) (Below.refl _ _).drew ?_
     repeat (apply wpFree_still; (intro w hw; have k1 := HF.out w hw; clear hw; go_simp; (try go_ints); (first | with_reducible rfl | (go_simp; with_reducible rfl))); with_reducible rfl; (intro K hK; go_simp; (try go_ints); refine hK _ ?_; clear hK K))
     apply wpFree_call
     · intro w hw; go_simp; first | with_reducible rfl | with_reducible exact ⟨rfl, rfl⟩
     · with_reducible rfl
     · intro w hw; refine (HGV.out w hw).mono ?_; rintro e w' ⟨h1, h2⟩; exact ⟨h1, hw.trans (h2.mono hw.size)⟩
     intro K hK; go_simp; (try go_ints); refine hK _ ?_; clear hK K
     repeat (apply wpFree_still; (intro w hw; have k1 := HF.out w hw; clear hw; go_simp; (try go_ints); (first | with_reducible rfl | (go_simp; with_reducible rfl))); with_reducible rfl; (intro K hK; go_simp; (try go_ints); refine hK _ ?_; clear hK K))
     apply wpFree_call
     · intro w hw; go_simp; first | with_reducible rfl | with_reducible exact ⟨rfl, rfl⟩
     · with_reducible rfl
     · intro w hw; refine (HSUB.out w).mono ?_; rintro e w' ⟨h1, h2⟩; exact ⟨h1, hw.trans (h2.mono hw.size)⟩
     intro K hK; go_simp; (try go_ints); refine hK _ ?_; clear hK K
     repeat (apply wpFree_still; (intro w hw; clear hw; go_simp; (try go_ints); (first | with_reducible rfl | (go_simp; with_reducible rfl))); with_reducible rfl; (intro K hK; go_simp; (try go_ints); refine hK _ ?_; clear hK K))
     with_reducible refine wpFree_nil ?_
     intro w' hb'
     have HBW := Lib.hid (HBr.out.trans (hb'.mono HBr.out.size))
     cases q with
     | true =>
       have HSUB0 : Hid (sDiff VS AT = 0) := Lib.hid (by have := HQ.out; simpa using this)
       clear hb'
       go_wp2_with fail
       refine (gedges_any g bV bE G HG.out w' (H0.out.below HBW.out)).mono ?_
       rintro e w4 ⟨ve, rfl, hO, hb4⟩
       have hs4 := hb4.size
       have hrd := hO.rd elE
       obtain ⟨qa, qc, rfl, hrd⟩ := hrd
       have HRD := Lib.hid hrd
       have HB4 := Lib.hid (HBW.out.trans (hb4.mono HBW.out.size))
       clear hO hb4 hrd
       go_wp2_with fail
       go_loopw [37] (fun i wr => ∃ k : Nat, k ≤ G.E.length ∧ i = .int .i64 (k : Int) ∧ (∀ j e, j < k → G.E[j]? = some e → T.any (holdE e) = true) ∧ Below w4.heap.size w4 wr) (fun i _ => G.E.length - (intOf i).toNat)
       case atStart => exact ⟨0, by omega, rfl, fun j e hj => by omega, Below.refl _ _⟩
       case round =>
         obtain ⟨k, hk, rfl, hall, hbq⟩ := hrel
         have HALL := Lib.hid hall
         clear hall
         by_cases hlt : k < G.E.length
         · obtain ⟨x, hx⟩ : ∃ x, G.E[k]? = some x := ⟨_, List.getElem?_eq_getElem hlt⟩
           rcases HRD.out with h | ⟨b, off, rfl, hbB, hc⟩
           · rw [h] at hlt; simp at hlt
           have hk' : ∀ j u, (edgA x)[j]? = some u → wr.cell? ⟨b, off + k * 4 + j, none⟩ = some u := fun j u hu => (World.cell?_of_block (hbq.block b hbB)).trans (hc k x hx j u hu)
           have HX := Lib.hid hx
           obtain ⟨⟨⟨eu, ev⟩, lab, wt⟩, rfl⟩ : ∃ y : (Int × Int) × Th, x = y := ⟨x, rfl⟩
           have hk' : ∀ j u, (edgA ((eu, ev), lab, wt))[j]? = some u → wr.cell? ⟨b, off + k * 4 + j, none⟩ = some u := hk'
           have c0 := hk' 0 (.int .i64 eu) rfl
           have c1 := hk' 1 (.int .i64 ev) rfl
           have c2 := hk' 2 (.int .u8 (lab : Int)) rfl
           have c3 := hk' 3 (.int .i64 wt) rfl
           simp only [Nat.add_zero] at c0
           have HBq := Lib.hid hbq
           clear hc hk' hx hbq
           go_wp2_with fail
           generalize hWb : World.alloc wr _ = Wb
           have hrb : row? Wb wr.heap.size = some (edgA ((eu, ev), lab, wt)) := by rw [← hWb]; exact row?_alloc_at _ _ _ _ rfl
           have hBb : Below w4.heap.size w4 Wb := by rw [← hWb]; exact HBq.out.alloc HBq.out.size _
           have hbl := row?_lt hrb
           have hBbw : Below w.heap.size w Wb := HB4.out.trans (hBb.mono HB4.out.size)
           have HCN := Lib.hid (containsFuncT (holdE ((eu, ev), lab, wt)) 50 #[.pointer (some ⟨wr.heap.size, 0, none⟩)] (fun args w => by simp [go_sem]) T _ Wb ((HV.out.below hBbw (Nat.le_refl _)).mono hBbw.size) (by omega) fun W hb y _ => cg1_any y _ _ W ((row?_below hb hbl).trans hrb))
           have HBb := Lib.hid hBb
           clear hWb hrb hBb hBbw c0 c1 c2 c3
           refine HCN.out.mono ?_
           rintro e w6 ⟨rfl, hb6⟩
           have HB6 := Lib.hid (HBb.out.trans (hb6.mono HBb.out.size))
           clear hb6
           cases hany : T.any (holdE ((eu, ev), lab, wt)) with
           | true =>
             have HANY := Lib.hid hany
             clear hany
             go_wp2_with fail
             go_roundw
             case rel => exact ⟨k + 1, by omega, by go_num, fun j e hj he => by
               by_cases h : j = k
               · subst h
                 have := HX.out
                 rw [he] at this
                 cases this
                 exact HANY.out
               · exact HALL.out j e (by omega) he, HB6.out⟩
             case measure => simp [intOf]; omega
           | false =>
             have HANY := Lib.hid hany
             clear hany
             go_wp2_with fail
             go_ret
             refine ⟨?_, HB4.out.trans (HB6.out.mono HB4.out.size)⟩
             rw [HFIT.out, if_pos HSUB0.out, if_neg fun h => by have := h _ (List.mem_of_getElem? HX.out); rw [HANY.out] at this; cases this]
             rfl
         · have hkn : k = G.E.length := by omega
           subst hkn
           have HBq := Lib.hid hbq
           clear hbq hlt hk
           go_wp2_with fail
           go_ret
           refine ⟨?_, HB4.out.trans (HBq.out.mono HB4.out.size)⟩
           rw [HFIT.out, if_pos HSUB0.out, if_pos fun e he => by
             obtain ⟨j, hj⟩ := List.mem_iff_getElem?.1 he
             exact HALL.out j e (List.getElem?_eq_some_iff.1 hj).1 hj]
           rfl
     | false =>
       have HSUB0 : Hid (¬ sDiff VS AT = 0) := Lib.hid (by have := HQ.out; simpa using this)
       clear hb'
       go_wp2_with fail
       go_ret
       refine ⟨?_, HBW.out⟩
       rw [HFIT.out, if_neg HSUB0.out]
       rfl
end Go.Proofs.YteiibpfabgfolaaGreatDoor
