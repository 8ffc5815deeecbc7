/- Walks of package graph: the deeds of an edit on the maps: add, join, part, mark, weigh, .. -/
import Derived.Test.YteiibpfabgfolaaGreatDoorVGrf
import Derived.Test.YteiibpfabgfolaaGreatDoorVOwS
import Derived.Lib.Small
import Derived.Ground.SlsfProg
import Derived.Shelf.SlLaysF0
import Derived.Test.YteiibpfabgfolaaGreatDoorProg
set_option maxHeartbeats 1000000
set_option linter.all false
namespace Go.Pal
open Go Go.RowKit
theorem wpList_putOwn {α β : Type} [DecidableEq α] {C : Cod α β} {P : Program} {k : TypeId} {ops : Array Oper} {rest : List Oper} {o : Oper} {a : Act} {Q : Exit → Act → World → Prop} {w : World} (hg : o.guard = none) (m x v : Operand) (t : TypeId) (hop : o.op = Op.mapUpdate t m x v)
   (G : C.Good P k) {e : TypeId} (ht : P.underlying t = some (.map k e)) (b : Nat) (l l' : List (α × β)) (hm : a.eval m = .map (some b)) (h : Own C P k w b l) (x0 : α) (y : β) (hx : a.eval x = C.key x0) (hv : a.eval v = C.val y) (hok : C.ok x0) (hp : ((x0, y) :: Pal.del x0 l).Perm l') (hl : l.length < 1000000)
   (hK : ∀ w', Own C P k w' b l' → w.grownBy w' (some b) → w'.heap.size = w.heap.size → wpList P ops Q rest (a.put o.dst undef) w') : wpList P ops Q (o :: rest) a w := by
 refine wpList_plain hg fun K' hK' => ?_
 obtain ⟨w', hrun, r1, r2, r3⟩ := h.store G ht hok y hp hl
 unfold Oper.wp
 simp [execOp, hop, hm, hx, hv, hrun, Result.andThen]
 exact hK' _ _ (hK w' r1 r2 r3)
theorem same_grown {w w' : World} {row : Option Nat} (h : w.grownBy w' row) : Same (fun k => some k ≠ row) w w' := ⟨h.os, h.tape, h.output, h.size, fun k hk hr => h.block k hk hr⟩
end Go.Pal
namespace Go.Proofs.YteiibpfabgfolaaGreatDoor
open Go Go.RowKit Go.Pal
def Did (w w' : World) (g bV bE : Nat) (G : Gr) : Prop := GOk w' g bV bE G ∧ Same (fun k => k ≠ bV ∧ k ≠ bE) w w'
theorem gadd_any (e : Ed) (he : e.Wf) (g bV bE : Nat) (G : Gr) (hG : G.Ok) (w : World) (h : GOk w g bV bE G) :
   Calls Tryz.prog 81 #[.pointer (some ⟨g, 0, none⟩), .agg (edC e)] w fun r w' => r = .returned (.tuple #[]) ∧ Did w w' g bV bE { G with V := putS ltV e.u (e.lab, e.wt) G.V } := by
 have H0 := Lib.hid h
 have HG := Lib.hid hG
 have HE := Lib.hid he
 have hgl := h.lt
 have hgn := h.gne
 have hbn := h.ne
 clear h he hG
 unfold edC
 go_enter Tryz.func81, Tryz.ntmps81
 go_wp2_with fail
 generalize hW0 : World.alloc w _ = W0
 obtain ⟨hre, hB0⟩ := alloc_row hW0
 have hs0 := row?_lt hre
 clear hW0
 have k0 := cell?_row (i := 0) (H0.out.below hB0).row
 have k1 := cell?_row (i := 1) hre
 have k3 := cell?_row (i := 3) hre
 have k4 := cell?_row (i := 4) hre
 simp at k0 k1 k3 k4
 have HB0 := Lib.hid hB0
 clear hre hB0
 refine wp_region_free_tail (fun w' => w' = W0.drew) 11 (by kernel_rfl) (by kernel_rfl) rfl ?_
 simp only [List.take_succ_cons, List.take_zero, List.drop_succ_cons, List.drop_zero]
 repeat (apply wpFree_still; (intro w hw; subst hw; go_simp; (try go_ints); (first | with_reducible rfl | (go_simp; with_reducible rfl))); with_reducible rfl; (intro K hK; go_simp; (try go_ints); refine hK _ ?_; clear hK K))
 with_reducible refine wpFree_nil ?_
 rintro w' rfl
 refine wpList_putOwn rfl _ _ _ _ rfl goodV Tryz.underlying85 bV G.V _ rfl (H0.out.below HB0.out).V.drew e.u (e.lab, e.wt) rfl rfl HE.out.u (putS_perm ordV _ _ HG.out.sV) (by have := HG.out.len; omega) ?_
 intro w1 hown hgr hsz
 have hS : Same (fun k => k ≠ bV) w w1 := ((Same.of_below HB0.out).mono fun k hk _ => hk).trans ((Same.drew _ _).trans ((same_grown hgr).mono fun k _ hk => by simpa using hk))
 have hD : Did w w1 g bV bE { G with V := putS ltV e.u (e.lab, e.wt) G.V } := ⟨⟨(row?_congr (hS.block _ hgl.1 hgn.1)).trans H0.out.row, hown, H0.out.E.congr (hS.block _ hgl.2.2 (fun h => hbn h.symm)), hbn⟩, hS.mono fun k _ h => h.1⟩
 have HD := Lib.hid hD
 clear hS hown hgr hD
 go_wp2_with fail
 go_end0
 exact ⟨rfl, HD.out⟩
theorem gjoin_any (e : Ed) (he : e.Wf) (g bV bE : Nat) (G : Gr) (hG : G.Ok) (w : World) (h : GOk w g bV bE G) :
   Calls Tryz.prog 83 #[.pointer (some ⟨g, 0, none⟩), .agg (edC e)] w fun r w' => r = .returned (.tuple #[]) ∧ Did w w' g bV bE { G with E := putS ltE (btw e.u e.v) (e.lab, e.wt) G.E } := by
 have H0 := Lib.hid h
 have HG := Lib.hid hG
 have HE := Lib.hid he
 have hgl := h.lt
 have hgn := h.gne
 have hbn := h.ne
 clear h he hG
 unfold edC
 go_enter Tryz.func83, Tryz.ntmps83
 go_wp2_with fail
 generalize hW0 : World.alloc w _ = W0
 obtain ⟨hre, hB0⟩ := alloc_row hW0
 have hs0 := row?_lt hre
 clear hW0
 have HR := Lib.hid fun W (hb : Below W0.heap.size W0 W) => show W.cell? ⟨g, 1, none⟩ = some (.map (some bE)) ∧ W.cell? ⟨w.heap.size, 1, none⟩ = some (.int .i64 e.u) ∧ W.cell? ⟨w.heap.size, 2, none⟩ = some (.int .i64 e.v) ∧ W.cell? ⟨w.heap.size, 3, none⟩ = some (.int .u8 (e.lab : Int)) ∧ W.cell? ⟨w.heap.size, 4, none⟩ = some (.int .i64 e.wt) from
   ⟨(cell?_row (i := 1) ((row?_below hb (by have := hB0.size; omega)).trans (H0.out.below hB0).row)).trans rfl, (cell?_row (i := 1) ((row?_below hb (by omega)).trans hre)).trans rfl, (cell?_row (i := 2) ((row?_below hb (by omega)).trans hre)).trans rfl, (cell?_row (i := 3) ((row?_below hb (by omega)).trans hre)).trans rfl, (cell?_row (i := 4) ((row?_below hb (by omega)).trans hre)).trans rfl⟩
 have HB0 := Lib.hid hB0
 have HBT := Lib.hid fun W => gbetween_any e.u e.v W
 clear hre hB0
 refine wp_region_free_tail (fun W => Below W0.heap.size W0 W) 14 (by kernel_rfl) (by kernel_rfl) (Below.refl _ _).drew ?_
 simp only [List.take_succ_cons, List.take_zero, List.drop_succ_cons, List.drop_zero]
 repeat (apply wpFree_still; (intro w hw; obtain ⟨k1, k2, k3, k4, k5⟩ := HR.out w hw; clear hw; go_simp; (try go_ints); (first | with_reducible rfl | (go_simp; with_reducible rfl))); with_reducible rfl; (intro K hK; go_simp; (try go_ints); refine hK _ ?_; clear hK K))
 apply wpFree_call
 · intro w hw; go_simp; first | with_reducible rfl | with_reducible exact ⟨rfl, rfl⟩
 · with_reducible rfl
 · intro w hw; exact (HBT.out w).mono fun e w' ⟨h1, h2⟩ => ⟨h1, hw.trans (h2.mono hw.size)⟩
 intro K hK; go_simp; (try go_ints); refine hK _ ?_; clear hK K
 repeat (apply wpFree_still; (intro w hw; obtain ⟨k1, k2, k3, k4, k5⟩ := HR.out w hw; clear hw; go_simp; (try go_ints); (first | with_reducible rfl | (go_simp; with_reducible rfl))); with_reducible rfl; (intro K hK; go_simp; (try go_ints); refine hK _ ?_; clear hK K))
 with_reducible refine wpFree_nil ?_
 intro w' hb'
 have hB := HB0.out.trans (hb'.mono HB0.out.size)
 refine wpList_putOwn rfl _ _ _ _ rfl goodE Tryz.underlying86 bE G.E _ rfl (H0.out.below hB).E (btw e.u e.v) (e.lab, e.wt) rfl rfl (Ed.pair HE.out) (putS_perm ordE _ _ HG.out.sE) (by have := HG.out.most; omega) ?_
 intro w1 hown hgr hsz
 have hS : Same (fun k => k ≠ bE) w w1 := ((Same.of_below hB).mono fun k hk _ => hk).trans ((same_grown hgr).mono fun k _ hk => by simpa using hk)
 have hD : Did w w1 g bV bE { G with E := putS ltE (btw e.u e.v) (e.lab, e.wt) G.E } := ⟨⟨(row?_congr (hS.block _ hgl.1 hgn.2)).trans H0.out.row, H0.out.V.congr (hS.block _ hgl.2.1 hbn), hown, hbn⟩, hS.mono fun k _ h => h.2⟩
 have HD := Lib.hid hD
 clear hS hown hgr hD hB hb'
 go_wp2_with fail
 go_end0
 exact ⟨rfl, HD.out⟩
theorem gdeeds_any (w : World) : Calls Tryz.prog 37 #[] w fun r w' => r = .returned (.agg #[.func (.func 81) #[] #[], .func (.func 82) #[] #[], .func (.func 83) #[] #[], .func (.func 84) #[] #[], .func (.func 85) #[] #[], .func (.func 86) #[] #[], .func (.func 87) #[] #[], .func (.func 88) #[] #[]]) ∧ Below w.heap.size w w' := by
 go_enter Tryz.func37, Tryz.ntmps37
 go_wp2_with fail
 refine ret_row w.heap.size _ rfl Tryz.isAgg90 Tryz.sizeOf90 rfl rfl (row?_alloc_at _ _ _ _ rfl) rfl ⟨rfl, ?_⟩
 (repeat' (first | (with_reducible first | exact Below.refl _ _ | assumption | refine Below.alloc ?_ ?_ _ | refine Below.drew ?_ | refine Below.setCell ?_ ?_ _ | refine below_setRow ?_ ?_ _ | exact Nat.le_refl _) | omega | (simp; done) | (simp; omega) | (simp at *; omega)))
theorem Did.of_below {w w' : World} {g bV bE : Nat} {G : Gr} (h : GOk w g bV bE G) (hb : Below w.heap.size w w') : Did w w' g bV bE G := ⟨h.below hb, (Same.of_below hb).mono fun _ hk _ => hk⟩
theorem Did.after {w w0 w' : World} {g bV bE : Nat} {G : Gr} (hb : Below w.heap.size w w0) (h : Did w0 w' g bV bE G) : Did w w' g bV bE G := ⟨h.1, ((Same.of_below hb).mono fun _ hk _ => hk).trans h.2⟩
theorem wrong_fits (G : Gr) (e : Ed) : G.wrong e < 16 := by
 unfold Gr.wrong
 split; · omega
 split; · omega
 split; · omega
 split; · omega
 split; · omega
 split; · omega
 split; · omega
 split <;> omega
theorem gindex_any (cs : Array Value) (i : Nat) (v : Value) (w : World) (hi : i < 8) (hv : cs[i]? = some v) : (Instr.index 90 (.agg cs) (.int .i64 (i : Int))).run Tryz.prog w = .ok v w :=
 run_index_arr 90 89 8 cs .i64 i v w Tryz.underlying90 Tryz.sizeOf89 Tryz.isAgg89 hi hv
theorem gapply_any (e : Ed) (he : e.Wf) (hop : e.op = 0 ∨ e.op = 2) (g bV bE : Nat) (G : Gr) (hG : G.Ok) (w : World) (h : GOk w g bV bE G) :
   Calls Tryz.prog 14 #[.pointer (some ⟨g, 0, none⟩), .agg (edC e)] w fun r w' => r = .returned (.int .i64 (G.wrong e : Int)) ∧ Did w w' g bV bE (G.app e) := by
 have H0 := Lib.hid h
 have HG := Lib.hid hG
 have HE := Lib.hid he
 have HWf := wrong_fits G e
 obtain ⟨n, hn⟩ : ∃ n, n = G.wrong e := ⟨_, rfl⟩
 have hed : edC e = #[.int .i64 e.op, .int .i64 e.u, .int .i64 e.v, .int .u8 (e.lab : Int), .int .i64 e.wt] := rfl
 have HN := Lib.hid hn
 rw [hed, ← hn]
 clear h he hG hed hn
 go_enter Tryz.func14, Tryz.ntmps14
 go_wp2_with fail
 generalize hW0 : World.alloc w _ = W0
 obtain ⟨hre, hB0⟩ := alloc_row hW0
 have hs0 := row?_lt hre
 clear hW0
 have HW := Lib.hid (gwrong_any e HE.out g bV bE G W0 (H0.out.below hB0))
 have HB0 := Lib.hid hB0
 have HRE := Lib.hid fun W (hb : Below W0.heap.size W0 W) => show W.cell? ⟨w.heap.size, 0, none⟩ = some (.int .i64 e.op) ∧ W.cell? ⟨w.heap.size, 1, none⟩ = some (.int .i64 e.u) ∧ W.cell? ⟨w.heap.size, 2, none⟩ = some (.int .i64 e.v) ∧ W.cell? ⟨w.heap.size, 3, none⟩ = some (.int .u8 (e.lab : Int)) ∧ W.cell? ⟨w.heap.size, 4, none⟩ = some (.int .i64 e.wt) from
   ⟨(cell?_row (i := 0) ((row?_below hb (by omega)).trans hre)).trans rfl, (cell?_row (i := 1) ((row?_below hb (by omega)).trans hre)).trans rfl, (cell?_row (i := 2) ((row?_below hb (by omega)).trans hre)).trans rfl, (cell?_row (i := 3) ((row?_below hb (by omega)).trans hre)).trans rfl, (cell?_row (i := 4) ((row?_below hb (by omega)).trans hre)).trans rfl⟩
 clear hre hB0
 rw [← HN.out] at HW
 refine HW.out.mono ?_
 rintro r W1 ⟨rfl, hb1⟩
 have hbw := HB0.out.trans (hb1.mono HB0.out.size)
 have HB1 := Lib.hid hb1
 have HBW := Lib.hid hbw
 clear HW hb1 hbw
 by_cases hn0 : n = 0
 · subst hn0
   obtain ⟨op, u, v, lab, wt⟩ := e
   have happ := HN.out
   have HD := Lib.hid fun W => gdeeds_any W
   have HAdd := Lib.hid fun W (hb : Below W1.heap.size W1 W) => gadd_any ⟨op, u, v, lab, wt⟩ HE.out g bV bE G HG.out W (H0.out.below (HBW.out.trans (hb.mono HBW.out.size)))
   have HJoin := Lib.hid fun W (hb : Below W1.heap.size W1 W) => gjoin_any ⟨op, u, v, lab, wt⟩ HE.out g bV bE G HG.out W (H0.out.below (HBW.out.trans (hb.mono HBW.out.size)))
   have HApp : Hid (G.app ⟨op, u, v, lab, wt⟩ = G.doit ⟨op, u, v, lab, wt⟩) := Lib.hid (by unfold Gr.app; rw [if_pos happ.symm])
   clear happ
   simp only at hop
   unfold edC at HAdd HJoin
   obtain rfl | rfl := hop
   all_goals
     have hix := fun w => gindex_any #[.func (.func 81) #[] #[], .func (.func 82) #[] #[], .func (.func 83) #[] #[], .func (.func 84) #[] #[], .func (.func 85) #[] #[], .func (.func 86) #[] #[], .func (.func 87) #[] #[], .func (.func 88) #[] #[]] 0 _ w (by omega) rfl
     have hix2 := fun w => gindex_any #[.func (.func 81) #[] #[], .func (.func 82) #[] #[], .func (.func 83) #[] #[], .func (.func 84) #[] #[], .func (.func 85) #[] #[], .func (.func 86) #[] #[], .func (.func 87) #[] #[], .func (.func 88) #[] #[]] 2 _ w (by omega) rfl
     simp only [show ((0 : Nat) : Int) = 0 from rfl, show ((2 : Nat) : Int) = 2 from rfl] at hix hix2
     go_wp2_with fail
     refine wp_region_free_tail (fun W => Below W1.heap.size W1 W) 6 (by kernel_rfl) (by kernel_rfl) (Below.refl _ _).drew ?_
     simp only [List.take_succ_cons, List.take_zero, List.drop_succ_cons, List.drop_zero]
     apply wpFree_call
     · intro w hw; go_simp; first | with_reducible rfl | with_reducible exact ⟨rfl, rfl⟩
     · with_reducible rfl
     · intro w hw; exact (HD.out w).mono fun e w' ⟨h1, h2⟩ => ⟨h1, hw.trans (h2.mono hw.size)⟩
     intro K hK; go_simp; (try go_ints); refine hK _ ?_; clear hK K
     repeat (apply wpFree_still; (intro w hw; obtain ⟨k1, k2, k3, k4, k5⟩ := HRE.out w (HB1.out.trans (hw.mono HB1.out.size)); clear hw; go_simp; (try go_ints); (first | with_reducible rfl | (go_simp; with_reducible rfl))); with_reducible rfl; (intro K hK; go_simp; (try go_ints); refine hK _ ?_; clear hK K))
     with_reducible refine wpFree_nil ?_
     intro w' hb'
     have HB' := Lib.hid hb'
     clear hb'
     go_wp2_with fail
     first | refine (HAdd.out _ HB'.out).mono ?_ | refine (HJoin.out _ HB'.out).mono ?_
     rintro r w5 ⟨rfl, hd⟩
     have HDid := Lib.hid (hd.after (HBW.out.trans (HB'.out.mono HBW.out.size)))
     clear hd
     go_wp2_with fail
     go_ret
     refine ⟨rfl, ?_⟩
     rw [HApp.out]
     exact HDid.out
 · have h1 : ((n : Int) == 0) = false := by simpa using hn0
   have h2 : ((n : Int) != 0) = true := by simpa using hn0
   have h3 : (n != 0) = true := by simpa using hn0
   go_wp2_with fail
   go_ret
   refine ⟨rfl, ?_⟩
   unfold Gr.app
   rw [← HN.out, if_neg hn0]
   exact Did.of_below H0.out HBW.out
theorem isnan_any (n : Int) (w : World) : Calls Tryz.prog 126 #[.int .i64 n] w fun e w' => e = .returned (.bool false) ∧ w' = w := by
 go_enter Tryz.func126, Tryz.ntmps126
 go_wp2_with fail
 go_ret
 exact ⟨rfl, rfl⟩
theorem compare_any (x y : Int) (w : World) : Calls Tryz.prog 105 #[.int .i64 x, .int .i64 y] w fun e w' => e = .returned (.int .i64 (Lib.compareInt x y)) ∧ w' = w := by
 have H := Lib.hid fun n W => isnan_any n W
 unfold Lib.compareInt
 by_cases h1 : x < y
 · go_enter Tryz.func105, Tryz.ntmps105
   go_wp2_with fail
   refine (H.out _ _).mono ?_
   rintro e w1 ⟨rfl, rfl⟩
   go_wp2_with fail
   refine (H.out _ _).mono ?_
   rintro e w1 ⟨rfl, rfl⟩
   go_wp2_with fail
   go_ret
   exact ⟨by simp [h1], rfl⟩
 · by_cases h2 : y < x
   · go_enter Tryz.func105, Tryz.ntmps105
     go_wp2_with fail
     refine (H.out _ _).mono ?_
     rintro e w1 ⟨rfl, rfl⟩
     go_wp2_with fail
     refine (H.out _ _).mono ?_
     rintro e w1 ⟨rfl, rfl⟩
     go_wp2_with fail
     go_ret
     exact ⟨by simp [h1, h2], rfl⟩
   · go_enter Tryz.func105, Tryz.ntmps105
     go_wp2_with fail
     refine (H.out _ _).mono ?_
     rintro e w1 ⟨rfl, rfl⟩
     go_wp2_with fail
     refine (H.out _ _).mono ?_
     rintro e w1 ⟨rfl, rfl⟩
     go_wp2_with fail
     go_ret
     exact ⟨by simp [h1, h2], rfl⟩
theorem or2_any (a b : Int) (g : Nat) (w : World) (h : row? w g = some #[.int .i64 a, .int .i64 b]) : Calls Tryz.prog 104 #[.slice (some ⟨g, 0, none⟩) 2 2] w fun e w' => e = .returned (.int .i64 (if a = 0 then b else a)) ∧ w' = w := by
 have c0 := cell?_row (i := 0) h
 have c1 := cell?_row (i := 1) h
 simp at c0 c1
 clear h
 go_enter Tryz.func104, Tryz.ntmps104
 go_wp2_with fail
 go_loopw [8] (fun i wr => ∃ k : Nat, k ≤ 2 ∧ i = .int .i64 (k : Int) ∧ (0 < k → a = 0) ∧ (1 < k → b = 0) ∧ wr = w) (fun i _ => 2 - (intOf i).toNat)
 case atStart => exact ⟨0, by omega, rfl, by omega, by omega, rfl⟩
 case round =>
   obtain ⟨k, hk, rfl, ha, hb, rfl⟩ := hrel
   obtain rfl | rfl | rfl : k = 0 ∨ k = 1 ∨ k = 2 := by omega
   · by_cases hz : a = 0
     · subst hz
       go_wp2_with fail
       go_roundw
       case rel => exact ⟨1, by omega, by go_num, by simp, by omega, by simp⟩
       case measure => simp [intOf]
     · go_wp2_with fail
       go_ret
       exact ⟨by simp [hz], rfl⟩
   · have hz := ha (by omega)
     subst hz
     by_cases hz : b = 0
     · subst hz
       go_wp2_with fail
       go_roundw
       case rel => exact ⟨2, by omega, by go_num, by simp, by simp, by simp⟩
       case measure => simp [intOf]
     · go_wp2_with fail
       go_ret
       exact ⟨by simp, rfl⟩
   · have hz := ha (by omega)
     subst hz
     have hz := hb (by omega)
     subst hz
     go_wp2_with fail
     go_ret
     exact ⟨by simp, rfl⟩
def vtxA (x : Int × Th) : Array Value := #[.int .i64 x.1, .int .u8 (x.2.1 : Int), .int .i64 x.2.2]
def edgA (x : (Int × Int) × Th) : Array Value := #[.int .i64 x.1.1, .int .i64 x.1.2, .int .u8 (x.2.1 : Int), .int .i64 x.2.2]
def cmpV (x y : Int × Th) : Int := Lib.compareInt x.1 y.1
def cmpE (x y : (Int × Int) × Th) : Int := if Lib.compareInt x.1.1 y.1.1 = 0 then Lib.compareInt x.1.2 y.1.2 else Lib.compareInt x.1.1 y.1.1
theorem gvertices1_any (x y : Int × Th) (w : World) : Calls Tryz.prog 123 #[.agg (vtxA x), .agg (vtxA y)] w fun e w' => e = .returned (.int .i64 (cmpV x y)) ∧ Ext w w' := by
 have H := Lib.hid fun W => compare_any x.1 y.1 W
 obtain ⟨c, hc⟩ : ∃ c, c = cmpV x y := ⟨_, rfl⟩
 have hc2 : c = Lib.compareInt x.1 y.1 := hc
 rw [← hc]
 rw [← hc2] at H
 clear hc hc2
 unfold vtxA
 go_enter Tryz.func123, Tryz.ntmps123
 go_wp2_with fail
 refine (H.out _).mono ?_
 rintro e w1 ⟨rfl, rfl⟩
 go_wp2_with fail
 go_ret
 exact ⟨rfl, (Ext.alloc _ _).trans (Ext.alloc _ _)⟩
theorem gedges1_any (x y : (Int × Int) × Th) (w : World) : Calls Tryz.prog 103 #[.agg (edgA x), .agg (edgA y)] w fun e w' => e = .returned (.int .i64 (cmpE x y)) ∧ Ext w w' := by
 have H1 := Lib.hid fun W => compare_any x.1.1 y.1.1 W
 have H2 := Lib.hid fun W => compare_any x.1.2 y.1.2 W
 obtain ⟨c, hc⟩ : ∃ c, c = Lib.compareInt x.1.1 y.1.1 := ⟨_, rfl⟩
 obtain ⟨d, hd⟩ : ∃ d, d = Lib.compareInt x.1.2 y.1.2 := ⟨_, rfl⟩
 have hcd : cmpE x y = if c = 0 then d else c := by rw [hc, hd]; rfl
 rw [hcd]
 rw [← hc] at H1
 rw [← hd] at H2
 clear hc hd hcd
 obtain ⟨⟨xu, xv⟩, xl, xw⟩ := x
 obtain ⟨⟨yu, yv⟩, yl, yw⟩ := y
 unfold edgA
 simp only at H1 H2 ⊢
 go_enter Tryz.func103, Tryz.ntmps103
 go_wp2_with fail
 generalize hW1 : World.alloc (World.alloc w _) _ = W1
 have hx1 : Ext w W1 := by rw [← hW1]; exact (Ext.alloc _ _).trans (Ext.alloc _ _)
 have hy : row? W1 (w.heap.size + 1) = some #[.int .i64 yu, .int .i64 yv, .int .u8 (yl : Int), .int .i64 yw] := by rw [← hW1]; exact row?_alloc_at _ _ _ _ (by simp)
 have hx : row? W1 w.heap.size = some #[.int .i64 xu, .int .i64 xv, .int .u8 (xl : Int), .int .i64 xw] := by rw [← hW1]; exact (row?_alloc_past _ _ _ (by simp)).trans (row?_alloc_at _ _ _ _ rfl)
 have a0 := cell?_row (i := 0) hx
 have a1 := cell?_row (i := 1) hx
 have b0 := cell?_row (i := 0) hy
 have b1 := cell?_row (i := 1) hy
 simp at a0 a1 b0 b1
 clear hW1 hx hy
 refine wp_region_free_tail (fun w' => w' = W1.drew) 10 (by kernel_rfl) (by kernel_rfl) rfl ?_
 simp only [List.take_succ_cons, List.take_zero, List.drop_succ_cons, List.drop_zero]
 repeat (apply wpFree_still; (intro w hw; subst hw; go_simp; (try go_ints); (first | with_reducible rfl | (go_simp; with_reducible rfl))); with_reducible rfl; (intro K hK; go_simp; (try go_ints); refine hK _ ?_; clear hK K))
 apply wpFree_call
 · intro w hw; go_simp; first | with_reducible rfl | with_reducible exact ⟨rfl, rfl⟩
 · with_reducible rfl
 · intro w hw; subst hw; exact (H1.out _)
 intro K hK; go_simp; (try go_ints); refine hK _ ?_; clear hK K
 repeat (apply wpFree_still; (intro w hw; subst hw; go_simp; (try go_ints); (first | with_reducible rfl | (go_simp; with_reducible rfl))); with_reducible rfl; (intro K hK; go_simp; (try go_ints); refine hK _ ?_; clear hK K))
 apply wpFree_call
 · intro w hw; go_simp; first | with_reducible rfl | with_reducible exact ⟨rfl, rfl⟩
 · with_reducible rfl
 · intro w hw; subst hw; exact (H2.out _)
 intro K hK; go_simp; (try go_ints); refine hK _ ?_; clear hK K
 with_reducible refine wpFree_nil ?_
 rintro w' rfl
 go_wp2_with fail
 have hrw : row? ((W1.alloc (.cells #[.int .i64 c, .int .i64 d] 3)).drew) W1.heap.size = some #[.int .i64 c, .int .i64 d] := row?_alloc_at W1 _ _ _ rfl
 refine (or2_any c d _ _ hrw).mono ?_
 rintro e w2 ⟨rfl, rfl⟩
 go_wp2_with fail
 all_goals
   go_ret
   exact ⟨rfl, hx1.trans ((Ext.drew _).trans (Ext.alloc _ _))⟩
end Go.Proofs.YteiibpfabgfolaaGreatDoor
namespace Go.Proofs
open Go.Shelf
def Tryz.laysSortV_ren : Go.Shelf.Ren := ⟨fun | 6 => 122 | 15 => 125 | 14 => 147 | 28 => 156 | 29 => 157 | 20 => 171 | 21 => 172 | 22 => 173 | 23 => 174 | 24 => 175 | 25 => 176 | 26 => 177 | 27 => 178 | 46 => 189 | 47 => 180 | 48 => 181 | 49 => 190 | 50 => 191 | 57 => 195 | n => n, fun | 22 => 144 | 24 => 147 | 25 => 169 | 3 => 3 | 39 => 167 | 0 => 0 | 53 => 204 | 55 => 49 | 4 => 4 | 46 => 198 | 45 => 197 | 50 => 77 | 5 => 5 | 9 => 9 | 66 => 226 | 70 => 230 | 76 => 240 | 77 => 192 | n => n, fun | n => n⟩
theorem Tryz.laysSortV : Go.Proofs.SlLaysF0.n6 Tryz.prog Tryz.laysSortV_ren := {
 mixed := by kernel_rfl
 f6 := ⟨Tryz.f122.name, by decide, Tryz.func122.trans (congrArg some (by kernel_rfl))⟩
 f14 := ⟨Tryz.f147.name, by decide, Tryz.func147.trans (congrArg some (by kernel_rfl))⟩
 f15 := Tryz.func125.trans (congrArg some (by kernel_rfl))
 f20 := ⟨Tryz.f171.name, by decide, Tryz.func171.trans (congrArg some (by kernel_rfl))⟩
 f21 := ⟨Tryz.f172.name, by decide, Tryz.func172.trans (congrArg some (by kernel_rfl))⟩
 f22 := ⟨Tryz.f173.name, by decide, Tryz.func173.trans (congrArg some (by kernel_rfl))⟩
 f23 := ⟨Tryz.f174.name, by decide, Tryz.func174.trans (congrArg some (by kernel_rfl))⟩
 f24 := ⟨Tryz.f175.name, by decide, Tryz.func175.trans (congrArg some (by kernel_rfl))⟩
 f25 := ⟨Tryz.f176.name, by decide, Tryz.func176.trans (congrArg some (by kernel_rfl))⟩
 f26 := ⟨Tryz.f177.name, by decide, Tryz.func177.trans (congrArg some (by kernel_rfl))⟩
 f27 := ⟨Tryz.f178.name, by decide, Tryz.func178.trans (congrArg some (by kernel_rfl))⟩
 f28 := Tryz.func156.trans (congrArg some (by kernel_rfl))
 f29 := Tryz.func157.trans (congrArg some (by kernel_rfl))
 f46 := ⟨Tryz.f189.name, by decide, Tryz.func189.trans (congrArg some (by kernel_rfl))⟩
 f47 := Tryz.func180.trans (congrArg some (by kernel_rfl))
 f48 := Tryz.func181.trans (congrArg some (by kernel_rfl))
 f49 := ⟨Tryz.f190.name, by decide, Tryz.func190.trans (congrArg some (by kernel_rfl))⟩
 f50 := ⟨Tryz.f191.name, by decide, Tryz.func191.trans (congrArg some (by kernel_rfl))⟩
 f57 := ⟨Tryz.f195.name, by decide, Tryz.func195.trans (congrArg some (by kernel_rfl))⟩
 t0 := Tryz.underlying0
 a0 := Tryz.isAgg0
 z0 := Tryz.sizeOf0
 v0 := Tryz.zeroValue0
 t3 := Tryz.underlying3
 a3 := Tryz.isAgg3
 z3 := Tryz.sizeOf3
 v3 := Tryz.zeroValue3
 t4 := Tryz.underlying4
 a4 := Tryz.isAgg4
 z4 := Tryz.sizeOf4
 v4 := Tryz.zeroValue4
 t5 := Tryz.underlying5
 a5 := Tryz.isAgg5
 z5 := Tryz.sizeOf5
 v5 := Tryz.zeroValue5
 t9 := Tryz.underlying9
 a9 := Tryz.isAgg9
 z9 := Tryz.sizeOf9
 v9 := Tryz.zeroValue9
 t22 := Tryz.underlying144
 a22 := Tryz.isAgg144
 z22 := Tryz.sizeOf144
 v22 := Tryz.zeroValue144
 t25 := Tryz.underlying169
 a25 := Tryz.isAgg169
 z25 := Tryz.sizeOf169
 v25 := Tryz.zeroValue169
 t39 := Tryz.underlying167
 a39 := Tryz.isAgg167
 z39 := Tryz.sizeOf167
 v39 := Tryz.zeroValue167
 t45 := Tryz.underlying197
 a45 := Tryz.isAgg197
 z45 := Tryz.sizeOf197
 v45 := Tryz.zeroValue197
 t46 := Tryz.underlying198
 a46 := Tryz.isAgg198
 z46 := Tryz.sizeOf198
 v46 := Tryz.zeroValue198
 t50 := Tryz.underlying77
 a50 := Tryz.isAgg77
 z50 := Tryz.sizeOf77
 v50 := Tryz.zeroValue77
 t53 := Tryz.underlying204
 a53 := Tryz.isAgg204
 z53 := Tryz.sizeOf204
 v53 := Tryz.zeroValue204
 t55 := Tryz.underlying49
 a55 := Tryz.isAgg49
 z55 := Tryz.sizeOf49
 v55 := Tryz.zeroValue49
 t66 := Tryz.underlying226
 a66 := Tryz.isAgg226
 z66 := Tryz.sizeOf226
 v66 := Tryz.zeroValue226
 t70 := Tryz.underlying230
 a70 := Tryz.isAgg230
 z70 := Tryz.sizeOf230
 v70 := Tryz.zeroValue230
 t76 := Tryz.underlying240
 a76 := Tryz.isAgg240
 z76 := Tryz.sizeOf240
 v76 := Tryz.zeroValue240
 t77 := Tryz.underlying192
 a77 := Tryz.isAgg192
 z77 := Tryz.sizeOf192
 v77 := Tryz.zeroValue192 }
def Tryz.laysSortE_ren : Go.Shelf.Ren := ⟨fun | 6 => 102 | 15 => 125 | 14 => 124 | 28 => 156 | 29 => 157 | 20 => 148 | 21 => 149 | 22 => 150 | 23 => 151 | 24 => 152 | 25 => 153 | 26 => 154 | 27 => 155 | 46 => 179 | 47 => 180 | 48 => 181 | 49 => 182 | 50 => 183 | 57 => 192 | n => n, fun | 22 => 107 | 24 => 110 | 25 => 151 | 3 => 3 | 39 => 167 | 0 => 0 | 53 => 204 | 55 => 49 | 4 => 4 | 46 => 198 | 45 => 197 | 50 => 77 | 5 => 5 | 9 => 9 | 66 => 226 | 70 => 230 | 76 => 240 | 77 => 192 | n => n, fun | n => n⟩
theorem Tryz.laysSortE : Go.Proofs.SlLaysF0.n6 Tryz.prog Tryz.laysSortE_ren := {
 mixed := by kernel_rfl
 f6 := ⟨Tryz.f102.name, by decide, Tryz.func102.trans (congrArg some (by kernel_rfl))⟩
 f14 := ⟨Tryz.f124.name, by decide, Tryz.func124.trans (congrArg some (by kernel_rfl))⟩
 f15 := Tryz.func125.trans (congrArg some (by kernel_rfl))
 f20 := ⟨Tryz.f148.name, by decide, Tryz.func148.trans (congrArg some (by kernel_rfl))⟩
 f21 := ⟨Tryz.f149.name, by decide, Tryz.func149.trans (congrArg some (by kernel_rfl))⟩
 f22 := ⟨Tryz.f150.name, by decide, Tryz.func150.trans (congrArg some (by kernel_rfl))⟩
 f23 := ⟨Tryz.f151.name, by decide, Tryz.func151.trans (congrArg some (by kernel_rfl))⟩
 f24 := ⟨Tryz.f152.name, by decide, Tryz.func152.trans (congrArg some (by kernel_rfl))⟩
 f25 := ⟨Tryz.f153.name, by decide, Tryz.func153.trans (congrArg some (by kernel_rfl))⟩
 f26 := ⟨Tryz.f154.name, by decide, Tryz.func154.trans (congrArg some (by kernel_rfl))⟩
 f27 := ⟨Tryz.f155.name, by decide, Tryz.func155.trans (congrArg some (by kernel_rfl))⟩
 f28 := Tryz.func156.trans (congrArg some (by kernel_rfl))
 f29 := Tryz.func157.trans (congrArg some (by kernel_rfl))
 f46 := ⟨Tryz.f179.name, by decide, Tryz.func179.trans (congrArg some (by kernel_rfl))⟩
 f47 := Tryz.func180.trans (congrArg some (by kernel_rfl))
 f48 := Tryz.func181.trans (congrArg some (by kernel_rfl))
 f49 := ⟨Tryz.f182.name, by decide, Tryz.func182.trans (congrArg some (by kernel_rfl))⟩
 f50 := ⟨Tryz.f183.name, by decide, Tryz.func183.trans (congrArg some (by kernel_rfl))⟩
 f57 := ⟨Tryz.f192.name, by decide, Tryz.func192.trans (congrArg some (by kernel_rfl))⟩
 t0 := Tryz.underlying0
 a0 := Tryz.isAgg0
 z0 := Tryz.sizeOf0
 v0 := Tryz.zeroValue0
 t3 := Tryz.underlying3
 a3 := Tryz.isAgg3
 z3 := Tryz.sizeOf3
 v3 := Tryz.zeroValue3
 t4 := Tryz.underlying4
 a4 := Tryz.isAgg4
 z4 := Tryz.sizeOf4
 v4 := Tryz.zeroValue4
 t5 := Tryz.underlying5
 a5 := Tryz.isAgg5
 z5 := Tryz.sizeOf5
 v5 := Tryz.zeroValue5
 t9 := Tryz.underlying9
 a9 := Tryz.isAgg9
 z9 := Tryz.sizeOf9
 v9 := Tryz.zeroValue9
 t22 := Tryz.underlying107
 a22 := Tryz.isAgg107
 z22 := Tryz.sizeOf107
 v22 := Tryz.zeroValue107
 t25 := Tryz.underlying151
 a25 := Tryz.isAgg151
 z25 := Tryz.sizeOf151
 v25 := Tryz.zeroValue151
 t39 := Tryz.underlying167
 a39 := Tryz.isAgg167
 z39 := Tryz.sizeOf167
 v39 := Tryz.zeroValue167
 t45 := Tryz.underlying197
 a45 := Tryz.isAgg197
 z45 := Tryz.sizeOf197
 v45 := Tryz.zeroValue197
 t46 := Tryz.underlying198
 a46 := Tryz.isAgg198
 z46 := Tryz.sizeOf198
 v46 := Tryz.zeroValue198
 t50 := Tryz.underlying77
 a50 := Tryz.isAgg77
 z50 := Tryz.sizeOf77
 v50 := Tryz.zeroValue77
 t53 := Tryz.underlying204
 a53 := Tryz.isAgg204
 z53 := Tryz.sizeOf204
 v53 := Tryz.zeroValue204
 t55 := Tryz.underlying49
 a55 := Tryz.isAgg49
 z55 := Tryz.sizeOf49
 v55 := Tryz.zeroValue49
 t66 := Tryz.underlying226
 a66 := Tryz.isAgg226
 z66 := Tryz.sizeOf226
 v66 := Tryz.zeroValue226
 t70 := Tryz.underlying230
 a70 := Tryz.isAgg230
 z70 := Tryz.sizeOf230
 v70 := Tryz.zeroValue230
 t76 := Tryz.underlying240
 a76 := Tryz.isAgg240
 z76 := Tryz.sizeOf240
 v76 := Tryz.zeroValue240
 t77 := Tryz.underlying192
 a77 := Tryz.isAgg192
 z77 := Tryz.sizeOf192
 v77 := Tryz.zeroValue192 }
end Go.Proofs
