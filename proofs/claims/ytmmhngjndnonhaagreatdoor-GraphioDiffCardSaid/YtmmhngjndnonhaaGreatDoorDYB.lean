/-
  Walks of package graph: part, mark, weigh, markEdge, weighEdge; Apply of any edit.
-/
import Derived.Test.YtmmhngjndnonhaaGreatDoorDVH
import Derived.Test.YtmmhngjndnonhaaGreatDoorDYA
set_option linter.unusedSimpArgs false
set_option linter.unusedVariables false
namespace Go.Proofs.YtmmhngjndnonhaaGreatDoor
open Go Go.RowKit Go.Pal
attribute [local go_sem] Oper.semAt_some

@[go_sem ↓ high] theorem storeEN (a : Addr) (v : Value) : storeVar 117 a v = storeLater 117 a v := rfl
@[go_sem] theorem storeEN_run (w : World) (a : Addr) (v : Value) : (storeLater 117 a v).run Tryz.prog w = rowStore Tryz.prog 117 a v w := rfl
@[go_sem] theorem storeEN_at (w : World) (g : Nat) (d : Array Value) : rowStore Tryz.prog 117 ⟨g, 0, none⟩ (.agg d) w = match row? w g with
      | some c => if c.size = 2 ∧ d.size = 2 ∧ allOne d = true then .ok () (w.setRow g d) else laterStore Tryz.prog 117 ⟨g, 0, none⟩ (.agg d) w
      | none => laterStore Tryz.prog 117 ⟨g, 0, none⟩ (.agg d) w := store_row Tryz.sizeOf117 w g d
@[go_sem ↓ high] theorem zeroEN (w : World) : (zeroValue 117).run Tryz.prog w = .ok (.agg #[.int .i64 0, .int .i64 0]) w := by kernel_rfl
set_option maxHeartbeats 1000000 in
theorem gpart_any (e : Ed) (he : e.Wf) (g bV bE : Nat) (G : Gr) (w : World) (h : GOk w g bV bE G) :
    Calls Tryz.prog 124 #[.pointer (some ⟨g, 0, none⟩), .agg (edC e)] w fun r w' => r = .returned (.tuple #[]) ∧ Did w w' g bV bE { G with E := Pal.del (btw e.u e.v) G.E } := by
  have H0 := Lib.hid h
  have HE := Lib.hid he
  have hgl := h.lt
  have hgn := h.gne
  have hbn := h.ne
  clear h he
  unfold edC
  go_enter Tryz.func124, Tryz.ntmps124
  go_wp2_with fail
  generalize hW0 : World.alloc w _ = W0
  obtain ⟨hre, hB0⟩ := alloc_row hW0
  have hs0 := row?_lt hre
  clear hW0
  have HR := Lib.hid fun W (hb : Below W0.heap.size W0 W) => show W.cell? ⟨g, 1, none⟩ = some (.map (some bE)) ∧ W.cell? ⟨w.heap.size, 1, none⟩ = some (.int .i64 e.u) ∧ W.cell? ⟨w.heap.size, 2, none⟩ = some (.int .i64 e.v) from
    ⟨(cell?_row (i := 1) ((row?_below hb (by have := hB0.size; omega)).trans (H0.out.below hB0).row)).trans rfl, (cell?_row (i := 1) ((row?_below hb (by omega)).trans hre)).trans rfl, (cell?_row (i := 2) ((row?_below hb (by omega)).trans hre)).trans rfl⟩
  have HB0 := Lib.hid hB0
  have HBT := Lib.hid fun W => gbetween_any e.u e.v W
  clear hre hB0
  refine wp_region_free_tail (fun W => Below W0.heap.size W0 W) 9 (by kernel_rfl) (by kernel_rfl) (Below.refl _ _).drew ?_
  simp only [List.take_succ_cons, List.take_zero, List.drop_succ_cons, List.drop_zero]
  repeat (apply wpFree_still; (intro w hw; obtain ⟨k1, k2, k3⟩ := HR.out w hw; clear hw; go_simp; (try go_ints); (first | with_reducible rfl | (go_simp; with_reducible rfl))); with_reducible rfl; (intro K hK; go_simp; (try go_ints); refine hK _ ?_; clear hK K))
  apply wpFree_call
  · intro w hw; go_simp; first | with_reducible rfl | with_reducible exact ⟨rfl, rfl⟩
  · with_reducible rfl
  · intro w hw; exact (HBT.out w).mono fun e w' ⟨h1, h2⟩ => ⟨h1, hw.trans (h2.mono hw.size)⟩
  intro K hK; go_simp; (try go_ints); refine hK _ ?_; clear hK K
  with_reducible refine wpFree_nil ?_
  intro w' hb'
  have hB := HB0.out.trans (hb'.mono HB0.out.size)
  refine wpList_delOwn rfl _ _ _ rfl goodE Tryz.underlying112 bE G.E rfl (H0.out.below hB).E (btw e.u e.v) rfl (Ed.pair HE.out) ?_
  intro w1 hown hgr hsz
  have hS : Same (fun k => k ≠ bE) w w1 := ((Same.of_below hB).mono fun k hk _ => hk).trans ((same_grown hgr).mono fun k _ hk => by simpa using hk)
  have hD : Did w w1 g bV bE { G with E := Pal.del (btw e.u e.v) G.E } := ⟨⟨(row?_congr (hS.block _ hgl.1 hgn.2)).trans H0.out.row, H0.out.V.congr (hS.block _ hgl.2.1 hbn), hown, hbn⟩, hS.mono fun k _ h => h.2⟩
  have HD := Lib.hid hD
  clear hS hown hgr hD hB hb'
  go_wp2_with fail
  go_end0
  exact ⟨rfl, HD.out⟩
@[go_sem ↓ high] theorem fieldTH0 (a b : Int) (w : World) : (Instr.field 111 (.agg #[.int .u8 a, .int .i64 b]) 0).run Tryz.prog w = .ok (.int .u8 a) w := by kernel_rfl
@[go_sem ↓ high] theorem fieldTH1 (a b : Int) (w : World) : (Instr.field 111 (.agg #[.int .u8 a, .int .i64 b]) 1).run Tryz.prog w = .ok (.int .i64 b) w := by kernel_rfl
set_option maxRecDepth 10000 in
set_option maxHeartbeats 1000000 in
theorem gmark_any (e : Ed) (he : e.Wf) (g bV bE : Nat) (G : Gr) (hG : G.Ok) (w : World) (h : GOk w g bV bE G) :
    Calls Tryz.prog 125 #[.pointer (some ⟨g, 0, none⟩), .agg (edC e)] w fun r w' => r = .returned (.tuple #[]) ∧ Did w w' g bV bE { G with V := putS ltV e.u (e.lab, ((Pal.look G.V e.u).getD (0, 0)).2) G.V } := by
  have H0 := Lib.hid h
  have HG := Lib.hid hG
  have HE := Lib.hid he
  have hgl := h.lt
  have hgn := h.gne
  have hbn := h.ne
  obtain ⟨t, ht⟩ : ∃ t, t = (Pal.look G.V e.u).getD (0, 0) := ⟨_, rfl⟩
  rw [← ht]
  have HT := Lib.hid ht
  clear h he hG ht
  unfold edC
  go_enter Tryz.func125, Tryz.ntmps125
  go_wp2_with fail
  generalize hW0 : World.alloc w _ = W0
  obtain ⟨hre, hB0⟩ := alloc_row hW0
  have hs0 := row?_lt hre
  clear hW0
  have k0 := cell?_row (i := 0) (H0.out.below hB0).row
  have k1 := cell?_row (i := 1) hre
  have k3 := cell?_row (i := 3) hre
  simp at k0 k1 k3
  have hlk : (Instr.lookup 108 (.map (some bV)) (.int .i64 e.u) false).run Tryz.prog W0.drew = .ok (.agg #[.int .u8 (((Pal.look G.V e.u).getD (0, 0)).1 : Int), .int .i64 ((Pal.look G.V e.u).getD (0, 0)).2]) W0.drew := (H0.out.below hB0).V.drew.look goodV Tryz.underlying108 (b0 := (0, 0)) zeroThing HE.out.u
  rw [← HT.out] at hlk
  have HB0 := Lib.hid hB0
  clear hre hB0
  refine wp_region_free_tail (fun w' => w' = W0.drew) 17 (by kernel_rfl) (by kernel_rfl) rfl ?_
  simp only [List.take_succ_cons, List.take_zero, List.drop_succ_cons, List.drop_zero]
  repeat (apply wpFree_still; (intro w hw; subst hw; go_simp; (try go_ints); (first | with_reducible rfl | (go_simp; with_reducible rfl))); with_reducible rfl; (intro K hK; go_simp; (try go_ints); refine hK _ ?_; clear hK K))
  with_reducible refine wpFree_nil ?_
  rintro w' rfl
  refine wpList_putOwn rfl _ _ _ _ rfl goodV Tryz.underlying108 bV G.V _ rfl (H0.out.below HB0.out).V.drew e.u (e.lab, t.2) rfl rfl HE.out.u (putS_perm ordV _ _ HG.out.sV) (by have := HG.out.len; omega) ?_
  intro w1 hown hgr hsz
  have hS : Same (fun k => k ≠ bV) w w1 := ((Same.of_below HB0.out).mono fun k hk _ => hk).trans ((Same.drew _ _).trans ((same_grown hgr).mono fun k _ hk => by simpa using hk))
  have hD := (⟨⟨(row?_congr (hS.block _ hgl.1 hgn.1)).trans H0.out.row, hown, H0.out.E.congr (hS.block _ hgl.2.2 (fun h => hbn h.symm)), hbn⟩, hS.mono fun k _ h => h.1⟩ : Did w w1 g bV bE { G with V := putS ltV e.u (e.lab, t.2) G.V })
  have HD := Lib.hid hD
  clear hS hown hgr hD
  go_wp2_with fail
  go_end0
  exact ⟨rfl, HD.out⟩
set_option maxRecDepth 10000 in
set_option maxHeartbeats 1000000 in
theorem gweigh_any (e : Ed) (he : e.Wf) (g bV bE : Nat) (G : Gr) (hG : G.Ok) (w : World) (h : GOk w g bV bE G) :
    Calls Tryz.prog 126 #[.pointer (some ⟨g, 0, none⟩), .agg (edC e)] w fun r w' => r = .returned (.tuple #[]) ∧ Did w w' g bV bE { G with V := putS ltV e.u (((Pal.look G.V e.u).getD (0, 0)).1, e.wt) G.V } := by
  have H0 := Lib.hid h
  have HG := Lib.hid hG
  have HE := Lib.hid he
  have hgl := h.lt
  have hgn := h.gne
  have hbn := h.ne
  obtain ⟨t, ht⟩ : ∃ t, t = (Pal.look G.V e.u).getD (0, 0) := ⟨_, rfl⟩
  rw [← ht]
  have HT := Lib.hid ht
  clear h he hG ht
  unfold edC
  go_enter Tryz.func126, Tryz.ntmps126
  go_wp2_with fail
  generalize hW0 : World.alloc w _ = W0
  obtain ⟨hre, hB0⟩ := alloc_row hW0
  have hs0 := row?_lt hre
  clear hW0
  have k0 := cell?_row (i := 0) (H0.out.below hB0).row
  have k1 := cell?_row (i := 1) hre
  have k3 := cell?_row (i := 4) hre
  simp at k0 k1 k3
  have hlk : (Instr.lookup 108 (.map (some bV)) (.int .i64 e.u) false).run Tryz.prog W0.drew = .ok (.agg #[.int .u8 (((Pal.look G.V e.u).getD (0, 0)).1 : Int), .int .i64 ((Pal.look G.V e.u).getD (0, 0)).2]) W0.drew := (H0.out.below hB0).V.drew.look goodV Tryz.underlying108 (b0 := (0, 0)) zeroThing HE.out.u
  rw [← HT.out] at hlk
  have HB0 := Lib.hid hB0
  clear hre hB0
  refine wp_region_free_tail (fun w' => w' = W0.drew) 17 (by kernel_rfl) (by kernel_rfl) rfl ?_
  simp only [List.take_succ_cons, List.take_zero, List.drop_succ_cons, List.drop_zero]
  repeat (apply wpFree_still; (intro w hw; subst hw; go_simp; (try go_ints); (first | with_reducible rfl | (go_simp; with_reducible rfl))); with_reducible rfl; (intro K hK; go_simp; (try go_ints); refine hK _ ?_; clear hK K))
  with_reducible refine wpFree_nil ?_
  rintro w' rfl
  refine wpList_putOwn rfl _ _ _ _ rfl goodV Tryz.underlying108 bV G.V _ rfl (H0.out.below HB0.out).V.drew e.u (t.1, e.wt) rfl rfl HE.out.u (putS_perm ordV _ _ HG.out.sV) (by have := HG.out.len; omega) ?_
  intro w1 hown hgr hsz
  have hS : Same (fun k => k ≠ bV) w w1 := ((Same.of_below HB0.out).mono fun k hk _ => hk).trans ((Same.drew _ _).trans ((same_grown hgr).mono fun k _ hk => by simpa using hk))
  have hD := (⟨⟨(row?_congr (hS.block _ hgl.1 hgn.1)).trans H0.out.row, hown, H0.out.E.congr (hS.block _ hgl.2.2 (fun h => hbn h.symm)), hbn⟩, hS.mono fun k _ h => h.1⟩ : Did w w1 g bV bE { G with V := putS ltV e.u (t.1, e.wt) G.V })
  have HD := Lib.hid hD
  clear hS hown hgr hD
  go_wp2_with fail
  go_end0
  exact ⟨rfl, HD.out⟩
set_option maxRecDepth 10000 in
set_option maxHeartbeats 1000000 in
theorem gmarkEdge_any (e : Ed) (he : e.Wf) (g bV bE : Nat) (G : Gr) (hG : G.Ok) (w : World) (h : GOk w g bV bE G) :
    Calls Tryz.prog 127 #[.pointer (some ⟨g, 0, none⟩), .agg (edC e)] w fun r w' => r = .returned (.tuple #[]) ∧ Did w w' g bV bE { G with E := putS ltE (btw e.u e.v) (e.lab, ((Pal.look G.E (btw e.u e.v)).getD (0, 0)).2) G.E } := by
  have H0 := Lib.hid h
  have HG := Lib.hid hG
  have HE := Lib.hid he
  have hgl := h.lt
  have hgn := h.gne
  have hbn := h.ne
  have HBT := Lib.hid fun W => gbetween_any e.u e.v W
  have HP := Lib.hid (Ed.pair he)
  obtain ⟨⟨x1, x2⟩, hx⟩ : ∃ x, x = btw e.u e.v := ⟨_, rfl⟩
  rw [← hx] at HP HBT ⊢
  obtain ⟨t, ht⟩ : ∃ t, t = (Pal.look G.E (x1, x2)).getD (0, 0) := ⟨_, rfl⟩
  rw [← ht]
  have HT := Lib.hid ht
  clear h he hG ht hx
  unfold edC
  go_enter Tryz.func127, Tryz.ntmps127
  go_wp2_with fail
  generalize hW0 : World.alloc w _ = W0
  obtain ⟨hre, hB0⟩ := alloc_row hW0
  have hs0 := row?_lt hre
  have HB0 := Lib.hid hB0
  have HRE := Lib.hid hre
  have k1 := cell?_row (i := 1) hre
  have k2 := cell?_row (i := 2) hre
  simp at k1 k2
  clear hW0 hre hB0
  go_wp2_with fail
  refine (HBT.out W0).mono ?_
  rintro r W1 ⟨rfl, hb1⟩
  have HB1 := Lib.hid (HB0.out.trans (hb1.mono HB0.out.size))
  have HRE1 := Lib.hid ((row?_below hb1 hs0).trans HRE.out)
  have hs1 := hb1.size
  have hev : endsV (x1, x2) = .agg #[.int .i64 x1, .int .i64 x2] := rfl
  rw [hev]
  clear hb1 HRE k1 k2 hev
  go_wp2_with fail
  generalize hW2 : World.alloc W1 _ = W2
  obtain ⟨hrx, hb12⟩ := alloc_row hW2
  have hB2 := HB1.out.trans (hb12.mono HB1.out.size)
  have hre := (row?_below hb12 (by omega)).trans HRE1.out
  have k0 := cell?_row (i := 1) (H0.out.below hB2).row
  have k3 := cell?_row (i := 3) hre
  simp at k0 k3
  have hlk : (Instr.lookup 112 (.map (some bE)) (.agg #[.int .i64 x1, .int .i64 x2]) false).run Tryz.prog W2.drew = .ok (.agg #[.int .u8 (((Pal.look G.E (x1, x2)).getD (0, 0)).1 : Int), .int .i64 ((Pal.look G.E (x1, x2)).getD (0, 0)).2]) W2.drew := (H0.out.below hB2).E.drew.look goodE Tryz.underlying112 (b0 := (0, 0)) (x := (x1, x2)) zeroThing HP.out
  rw [← HT.out] at hlk
  have HB2 := Lib.hid hB2
  have hrxd : row? W2.drew W1.heap.size = some #[.int .i64 x1, .int .i64 x2] := hrx
  clear hre hB2 hb12 hW2
  refine wp_region_free_tail (fun w' => w' = W2.drew) 15 (by kernel_rfl) (by kernel_rfl) rfl ?_
  simp only [List.take_succ_cons, List.take_zero, List.drop_succ_cons, List.drop_zero]
  repeat (apply wpFree_still; (intro w hw; subst hw; go_simp; (try go_ints); (first | with_reducible rfl | (go_simp; with_reducible rfl))); with_reducible rfl; (intro K hK; go_simp; (try go_ints); refine hK _ ?_; clear hK K))
  with_reducible refine wpFree_nil ?_
  rintro w' rfl
  refine wpList_putOwn rfl _ _ _ _ rfl goodE Tryz.underlying112 bE G.E _ rfl (H0.out.below HB2.out).E.drew (x1, x2) (e.lab, t.2) rfl rfl HP.out (putS_perm ordE _ _ HG.out.sE) (by have := HG.out.most; omega) ?_
  intro w1 hown hgr hsz
  have hS : Same (fun k => k ≠ bE) w w1 := ((Same.of_below HB2.out).mono fun k hk _ => hk).trans ((Same.drew _ _).trans ((same_grown hgr).mono fun k _ hk => by simpa using hk))
  have hD := (⟨⟨(row?_congr (hS.block _ hgl.1 hgn.2)).trans H0.out.row, H0.out.V.congr (hS.block _ hgl.2.1 hbn), hown, hbn⟩, hS.mono fun k _ h => h.2⟩ : Did w w1 g bV bE { G with E := putS ltE (x1, x2) (e.lab, t.2) G.E })
  have HD := Lib.hid hD
  clear hS hown hgr hD
  go_wp2_with fail
  go_end0
  exact ⟨rfl, HD.out⟩
set_option maxRecDepth 10000 in
set_option maxHeartbeats 1000000 in
theorem gweighEdge_any (e : Ed) (he : e.Wf) (g bV bE : Nat) (G : Gr) (hG : G.Ok) (w : World) (h : GOk w g bV bE G) :
    Calls Tryz.prog 128 #[.pointer (some ⟨g, 0, none⟩), .agg (edC e)] w fun r w' => r = .returned (.tuple #[]) ∧ Did w w' g bV bE { G with E := putS ltE (btw e.u e.v) (((Pal.look G.E (btw e.u e.v)).getD (0, 0)).1, e.wt) G.E } := by
  have H0 := Lib.hid h
  have HG := Lib.hid hG
  have HE := Lib.hid he
  have hgl := h.lt
  have hgn := h.gne
  have hbn := h.ne
  have HBT := Lib.hid fun W => gbetween_any e.u e.v W
  have HP := Lib.hid (Ed.pair he)
  obtain ⟨⟨x1, x2⟩, hx⟩ : ∃ x, x = btw e.u e.v := ⟨_, rfl⟩
  rw [← hx] at HP HBT ⊢
  obtain ⟨t, ht⟩ : ∃ t, t = (Pal.look G.E (x1, x2)).getD (0, 0) := ⟨_, rfl⟩
  rw [← ht]
  have HT := Lib.hid ht
  clear h he hG ht hx
  unfold edC
  go_enter Tryz.func128, Tryz.ntmps128
  go_wp2_with fail
  generalize hW0 : World.alloc w _ = W0
  obtain ⟨hre, hB0⟩ := alloc_row hW0
  have hs0 := row?_lt hre
  have HB0 := Lib.hid hB0
  have HRE := Lib.hid hre
  have k1 := cell?_row (i := 1) hre
  have k2 := cell?_row (i := 2) hre
  simp at k1 k2
  clear hW0 hre hB0
  go_wp2_with fail
  refine (HBT.out W0).mono ?_
  rintro r W1 ⟨rfl, hb1⟩
  have HB1 := Lib.hid (HB0.out.trans (hb1.mono HB0.out.size))
  have HRE1 := Lib.hid ((row?_below hb1 hs0).trans HRE.out)
  have hs1 := hb1.size
  have hev : endsV (x1, x2) = .agg #[.int .i64 x1, .int .i64 x2] := rfl
  rw [hev]
  clear hb1 HRE k1 k2 hev
  go_wp2_with fail
  generalize hW2 : World.alloc W1 _ = W2
  obtain ⟨hrx, hb12⟩ := alloc_row hW2
  have hB2 := HB1.out.trans (hb12.mono HB1.out.size)
  have hre := (row?_below hb12 (by omega)).trans HRE1.out
  have k0 := cell?_row (i := 1) (H0.out.below hB2).row
  have k3 := cell?_row (i := 4) hre
  simp at k0 k3
  have hlk : (Instr.lookup 112 (.map (some bE)) (.agg #[.int .i64 x1, .int .i64 x2]) false).run Tryz.prog W2.drew = .ok (.agg #[.int .u8 (((Pal.look G.E (x1, x2)).getD (0, 0)).1 : Int), .int .i64 ((Pal.look G.E (x1, x2)).getD (0, 0)).2]) W2.drew := (H0.out.below hB2).E.drew.look goodE Tryz.underlying112 (b0 := (0, 0)) (x := (x1, x2)) zeroThing HP.out
  rw [← HT.out] at hlk
  have HB2 := Lib.hid hB2
  have hrxd : row? W2.drew W1.heap.size = some #[.int .i64 x1, .int .i64 x2] := hrx
  clear hre hB2 hb12 hW2
  refine wp_region_free_tail (fun w' => w' = W2.drew) 15 (by kernel_rfl) (by kernel_rfl) rfl ?_
  simp only [List.take_succ_cons, List.take_zero, List.drop_succ_cons, List.drop_zero]
  repeat (apply wpFree_still; (intro w hw; subst hw; go_simp; (try go_ints); (first | with_reducible rfl | (go_simp; with_reducible rfl))); with_reducible rfl; (intro K hK; go_simp; (try go_ints); refine hK _ ?_; clear hK K))
  with_reducible refine wpFree_nil ?_
  rintro w' rfl
  refine wpList_putOwn rfl _ _ _ _ rfl goodE Tryz.underlying112 bE G.E _ rfl (H0.out.below HB2.out).E.drew (x1, x2) (t.1, e.wt) rfl rfl HP.out (putS_perm ordE _ _ HG.out.sE) (by have := HG.out.most; omega) ?_
  intro w1 hown hgr hsz
  have hS : Same (fun k => k ≠ bE) w w1 := ((Same.of_below HB2.out).mono fun k hk _ => hk).trans ((Same.drew _ _).trans ((same_grown hgr).mono fun k _ hk => by simpa using hk))
  have hD := (⟨⟨(row?_congr (hS.block _ hgl.1 hgn.2)).trans H0.out.row, H0.out.V.congr (hS.block _ hgl.2.1 hbn), hown, hbn⟩, hS.mono fun k _ h => h.2⟩ : Did w w1 g bV bE { G with E := putS ltE (x1, x2) (t.1, e.wt) G.E })
  have HD := Lib.hid hD
  clear hS hown hgr hD
  go_wp2_with fail
  go_end0
  exact ⟨rfl, HD.out⟩
/-- The deeds in their order. -/
def deedsC : Array Value := #[.func (.func 121) #[] #[], .func (.func 122) #[] #[], .func (.func 123) #[] #[], .func (.func 124) #[] #[], .func (.func 125) #[] #[], .func (.func 126) #[] #[], .func (.func 127) #[] #[], .func (.func 128) #[] #[]]
set_option maxRecDepth 10000 in
set_option maxHeartbeats 1000000 in
theorem gapply_of (e : Ed) (he : e.Wf) (i F : Nat) (hi : i < 8) (hop : e.op = (i : Int)) (hF : deedsC[i]? = some (.func (.func F) #[] #[])) (eF : ∀ args w, (callFunc F args).run Tryz.prog w = .ok (.enter F args) w) (g bV bE : Nat) (G : Gr) (w : World) (h : GOk w g bV bE G)
    (hdo : ∀ W, GOk W g bV bE G → Calls Tryz.prog F #[.pointer (some ⟨g, 0, none⟩), .agg (edC e)] W fun r w' => r = .returned (.tuple #[]) ∧ Did W w' g bV bE (G.doit e)) :
    Calls Tryz.prog 12 #[.pointer (some ⟨g, 0, none⟩), .agg (edC e)] w fun r w' => r = .returned (.int .i64 (G.wrong e : Int)) ∧ Did w w' g bV bE (G.app e) := by
  have H0 := Lib.hid h
  have HE := Lib.hid he
  have HWf := wrong_fits G e
  obtain ⟨n, hn⟩ : ∃ n, n = G.wrong e := ⟨_, rfl⟩
  have HN := Lib.hid hn
  have HDo := Lib.hid hdo
  have HW := Lib.hid fun W (hW : GOk W g bV bE G) => gwrong_any e he g bV bE G W hW
  have HD := Lib.hid fun W => gdeeds_any W
  have hix : ∀ w, (Instr.index 119 (.agg deedsC) (.int .i64 (i : Int))).run Tryz.prog w = .ok (.func (.func F) #[] #[]) w := fun w => gindex_any deedsC i _ w hi hF
  unfold deedsC at hix
  obtain ⟨op, u, v, lab, wt⟩ := e
  simp only at hop
  subst hop
  rw [← hn] at HW ⊢
  have hed : edC ⟨(i : Int), u, v, lab, wt⟩ = #[.int .i64 (i : Int), .int .i64 u, .int .i64 v, .int .u8 (lab : Int), .int .i64 wt] := rfl
  rw [hed] at HW HDo ⊢
  clear h he hed hn hdo
  go_enter Tryz.func12, Tryz.ntmps12
  go_wp2_with fail
  generalize hW0 : World.alloc w _ = W0
  obtain ⟨hre, hB0⟩ := alloc_row hW0
  have hs0 := row?_lt hre
  clear hW0
  have HB0 := Lib.hid hB0
  have HRE := Lib.hid fun W (hb : Below W0.heap.size W0 W) => show W.cell? ⟨w.heap.size, 0, none⟩ = some (.int .i64 (i : Int)) ∧ W.cell? ⟨w.heap.size, 1, none⟩ = some (.int .i64 u) ∧ W.cell? ⟨w.heap.size, 2, none⟩ = some (.int .i64 v) ∧ W.cell? ⟨w.heap.size, 3, none⟩ = some (.int .u8 (lab : Int)) ∧ W.cell? ⟨w.heap.size, 4, none⟩ = some (.int .i64 wt) from
    ⟨(cell?_row (i := 0) ((row?_below hb (by omega)).trans hre)).trans rfl, (cell?_row (i := 1) ((row?_below hb (by omega)).trans hre)).trans rfl, (cell?_row (i := 2) ((row?_below hb (by omega)).trans hre)).trans rfl, (cell?_row (i := 3) ((row?_below hb (by omega)).trans hre)).trans rfl, (cell?_row (i := 4) ((row?_below hb (by omega)).trans hre)).trans rfl⟩
  clear hre hB0
  refine (HW.out _ (H0.out.below HB0.out)).mono ?_
  rintro r W1 ⟨rfl, hb1⟩
  have hbw := HB0.out.trans (hb1.mono HB0.out.size)
  have HB1 := Lib.hid hb1
  have HBW := Lib.hid hbw
  clear HW hb1 hbw
  by_cases hn0 : n = 0
  · subst hn0
    have HApp : Hid (G.app ⟨(i : Int), u, v, lab, wt⟩ = G.doit ⟨(i : Int), u, v, lab, wt⟩) := Lib.hid (app_of HN.out.symm)
    go_wp2_with fail
    refine wp_region_free_tail (fun W => Below W1.heap.size W1 W) 6 (by kernel_rfl) (by kernel_rfl) (Below.refl _ _).drew ?_
    simp only [List.take_succ_cons, List.take_zero, List.drop_succ_cons, List.drop_zero]
    apply wpFree_call
    · intro w hw; go_simp; first | with_reducible rfl | with_reducible exact ⟨rfl, rfl⟩
    · with_reducible rfl
    · intro w hw; exact (HD.out w).mono fun e w' ⟨h1, h2⟩ => ⟨h1, hw.trans (h2.mono hw.size)⟩
    intro K hK; go_simp; (try go_ints); refine hK _ ?_; clear hK K
    repeat (apply wpFree_still; (intro w hw; obtain ⟨k1, k2, k3, k4, k5⟩ := HRE.out w (HB1.out.trans (hw.mono HB1.out.size)); clear hw; go_simp; (try go_ints); (first | with_reducible rfl | (go_simp; with_reducible rfl))); with_reducible rfl; (intro K hK; go_simp; (try go_ints); refine hK _ ?_; clear hK K))
    with_reducible refine wpFree_nil ?_
    intro w' hb'
    have HB' := Lib.hid hb'
    clear hb'
    go_wp2_with fail
    refine (HDo.out _ (H0.out.below (HBW.out.trans (HB'.out.mono HBW.out.size)))).mono ?_
    rintro r w5 ⟨rfl, hd⟩
    have HDid := Lib.hid (hd.after (HBW.out.trans (HB'.out.mono HBW.out.size)))
    clear hd
    go_wp2_with fail
    go_ret
    refine ⟨rfl, ?_⟩
    rw [HApp.out]
    exact HDid.out
  · have h1 : ((n : Int) == 0) = false := by simpa using hn0
    have h2 : ((n : Int) != 0) = true := by simpa using hn0
    have h3 : (n != 0) = true := by simpa using hn0
    go_wp2_with fail
    go_ret
    refine ⟨rfl, ?_⟩
    unfold Gr.app
    rw [← HN.out, if_neg hn0]
    exact Did.of_below H0.out HBW.out
theorem gapplyW_any (e : Ed) (he : e.Wf) (g bV bE : Nat) (G : Gr) (hG : G.Ok) (w : World) (h : GOk w g bV bE G) (hw : G.wrong e = 0) :
    Calls Tryz.prog 12 #[.pointer (some ⟨g, 0, none⟩), .agg (edC e)] w fun r w' => r = .returned (.int .i64 0) ∧ Did w w' g bV bE (G.app e) := by
  have hf := (Gr.fine_of hw).op
  have key : Calls Tryz.prog 12 #[.pointer (some ⟨g, 0, none⟩), .agg (edC e)] w fun r w' => r = .returned (.int .i64 (G.wrong e : Int)) ∧ Did w w' g bV bE (G.app e) := by
    have hc : e.op = 0 ∨ e.op = 1 ∨ e.op = 2 ∨ e.op = 3 ∨ e.op = 4 ∨ e.op = 5 ∨ e.op = 6 ∨ e.op = 7 := by omega
    rcases hc with h0 | h0 | h0 | h0 | h0 | h0 | h0 | h0
    · exact gapply_any e he (.inl h0) g bV bE G hG w h
    · exact gapply1_any e he h0 g bV bE G hG w h
    · exact gapply_any e he (.inr h0) g bV bE G hG w h
    · refine gapply_of e he 3 124 (by decide) h0 rfl (fun args w => by simp [go_sem]) g bV bE G w h fun W hW => ?_
      rw [show G.doit e = { G with E := Pal.del (btw e.u e.v) G.E } by unfold Gr.doit; simp [h0]]
      exact gpart_any e he g bV bE G W hW
    · refine gapply_of e he 4 125 (by decide) h0 rfl (fun args w => by simp [go_sem]) g bV bE G w h fun W hW => ?_
      rw [show G.doit e = { G with V := putS ltV e.u (e.lab, ((Pal.look G.V e.u).getD (0, 0)).2) G.V } by unfold Gr.doit; simp [h0]]
      exact gmark_any e he g bV bE G hG W hW
    · refine gapply_of e he 5 126 (by decide) h0 rfl (fun args w => by simp [go_sem]) g bV bE G w h fun W hW => ?_
      rw [show G.doit e = { G with V := putS ltV e.u (((Pal.look G.V e.u).getD (0, 0)).1, e.wt) G.V } by unfold Gr.doit; simp [h0]]
      exact gweigh_any e he g bV bE G hG W hW
    · refine gapply_of e he 6 127 (by decide) h0 rfl (fun args w => by simp [go_sem]) g bV bE G w h fun W hW => ?_
      rw [show G.doit e = { G with E := putS ltE (btw e.u e.v) (e.lab, ((Pal.look G.E (btw e.u e.v)).getD (0, 0)).2) G.E } by unfold Gr.doit; simp [h0]]
      exact gmarkEdge_any e he g bV bE G hG W hW
    · refine gapply_of e he 7 128 (by decide) h0 rfl (fun args w => by simp [go_sem]) g bV bE G w h fun W hW => ?_
      rw [show G.doit e = { G with E := putS ltE (btw e.u e.v) (((Pal.look G.E (btw e.u e.v)).getD (0, 0)).1, e.wt) G.E } by unfold Gr.doit; simp [h0]]
      exact gweighEdge_any e he g bV bE G hG W hW
  rw [hw] at key
  exact key
end Go.Proofs.YtmmhngjndnonhaaGreatDoor
