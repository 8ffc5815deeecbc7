/- Walks of package graph: the deeds of an edit on the maps: add, join, part, mark, weigh, .. -/
import Derived.Test.YtglnhnjmelilmaaGreatDoorRGrf
import Derived.Lib.Small
import Derived.Shelf.SlSortCmp.NoneTotal
import Derived.Ground.SlsfProg
import Derived.Shelf.SlLaysF0
import Derived.Test.YtglnhnjmelilmaaGreatDoorProg
set_option maxHeartbeats 1000000
set_option linter.all false
namespace Go.Pal
open Go Go.RowKit
theorem wpList_putOwn {α β : Type} [DecidableEq α] {C : Cod α β} {P : Program} {k : TypeId} {ops : Array Oper} {rest : List Oper} {o : Oper} {a : Act} {Q : Exit → Act → World → Prop} {w : World} (hg : o.guard = none) (m x v : Operand) (t : TypeId) (hop : o.op = Op.mapUpdate t m x v)
   (G : C.Good P k) {e : TypeId} (ht : P.underlying t = some (.map k e)) (b : Nat) (l l' : List (α × β)) (hm : a.eval m = .map (some b)) (h : Own C P k w b l) (x0 : α) (y : β) (hx : a.eval x = C.key x0) (hv : a.eval v = C.val y) (hok : C.ok x0) (hp : ((x0, y) :: Pal.del x0 l).Perm l') (hl : l.length < 1000000)
   (hK : ∀ w', Own C P k w' b l' → w.grownBy w' (some b) → w'.heap.size = w.heap.size → wpList P ops Q rest (a.put o.dst undef) w') : wpList P ops Q (o :: rest) a w := by
 refine wpList_plain hg fun K' hK' => ?_
 obtain ⟨w', hrun, r1, r2, r3⟩ := h.store G ht hok y hp hl
 unfold Oper.wp
 simp [execOp, hop, hm, hx, hv, hrun, Result.andThen]
 exact hK' _ _ (hK w' r1 r2 r3)
theorem wpList_delOwn {α β : Type} [DecidableEq α] {C : Cod α β} {P : Program} {k : TypeId} {ops : Array Oper} {rest : List Oper} {o : Oper} {a : Act} {Q : Exit → Act → World → Prop} {w : World} (hg : o.guard = none) (m x : Operand) (t : TypeId) (hop : o.op = Op.call { callee := Callee.builtin Builtin.delete, args := #[m, x], argTypes := #[t, k] })
   (G : C.Good P k) {e : TypeId} (ht : P.underlying t = some (.map k e)) (b : Nat) (l : List (α × β)) (hm : a.eval m = .map (some b)) (h : Own C P k w b l) (x0 : α) (hx : a.eval x = C.key x0) (hok : C.ok x0)
   (hK : ∀ w', Own C P k w' b (Pal.del x0 l) → w.grownBy w' (some b) → w'.heap.size = w.heap.size → wpList P ops Q rest (a.put o.dst (.tuple #[])) w') : wpList P ops Q (o :: rest) a w := by
 refine wpList_plain hg fun K' hK' => ?_
 obtain ⟨w', hrun, r1, r2, r3⟩ := h.drop G ht hok o.type
 unfold Oper.wp
 simp [execOp, hop, resolve, invoke, builtin, hm, hx, hrun, Result.andThen]
 exact hK' _ _ (hK w' r1 r2 r3)
theorem same_grown {w w' : World} {row : Option Nat} (h : w.grownBy w' row) : Same (fun k => some k ≠ row) w w' := ⟨h.os, h.tape, h.output, h.size, fun k hk hr => h.block k hk hr⟩
end Go.Pal
namespace Go.Proofs.YtglnhnjmelilmaaGreatDoor
open Go Go.RowKit Go.Pal
def Did (w w' : World) (g bV bE : Nat) (G : Gr) : Prop := GOk w' g bV bE G ∧ Same (fun k => k ≠ bV ∧ k ≠ bE) w w'
theorem gadd_any (e : Ed) (he : e.Wf) (g bV bE : Nat) (G : Gr) (hG : G.Ok) (w : World) (h : GOk w g bV bE G) :
   Calls Tryz.prog 148 #[.pointer (some ⟨g, 0, none⟩), .agg (edC e)] w fun r w' => r = .returned (.tuple #[]) ∧ Did w w' g bV bE { G with V := putS ltV e.u (e.lab, e.wt) G.V } := by
 have H0 := Lib.hid h
 have HG := Lib.hid hG
 have HE := Lib.hid he
 have hgl := h.lt
 have hgn := h.gne
 have hbn := h.ne
 clear h he hG
 unfold edC
 go_enter Tryz.func148, Tryz.ntmps148
 go_wp2_with fail
 generalize hW0 : World.alloc w _ = W0
 obtain ⟨hre, hB0⟩ := alloc_row hW0
 have hs0 := row?_lt hre
 clear hW0
 have k0 := cell?_row (i := 0) (H0.out.below hB0).row
 have k1 := cell?_row (i := 1) hre
 have k3 := cell?_row (i := 3) hre
 have k4 := cell?_row (i := 4) hre
 simp at k0 k1 k3 k4
 have HB0 := Lib.hid hB0
 clear hre hB0
 refine wp_region_free_tail (fun w' => w' = W0.drew) 11 (by kernel_rfl) (by kernel_rfl) rfl ?_
 simp only [List.take_succ_cons, List.take_zero, List.drop_succ_cons, List.drop_zero]
 repeat (apply wpFree_still; (intro w hw; subst hw; go_simp; (try go_ints); (first | with_reducible rfl | (go_simp; with_reducible rfl))); with_reducible rfl; (intro K hK; go_simp; (try go_ints); refine hK _ ?_; clear hK K))
 with_reducible refine wpFree_nil ?_
 rintro w' rfl
 refine wpList_putOwn rfl _ _ _ _ rfl goodV Tryz.underlying151 bV G.V _ rfl (H0.out.below HB0.out).V.drew e.u (e.lab, e.wt) rfl rfl HE.out.u (putS_perm ordV _ _ HG.out.sV) (by have := HG.out.len; omega) ?_
 intro w1 hown hgr hsz
 have hS : Same (fun k => k ≠ bV) w w1 := ((Same.of_below HB0.out).mono fun k hk _ => hk).trans ((Same.drew _ _).trans ((same_grown hgr).mono fun k _ hk => by simpa using hk))
 have hD : Did w w1 g bV bE { G with V := putS ltV e.u (e.lab, e.wt) G.V } := ⟨⟨(row?_congr (hS.block _ hgl.1 hgn.1)).trans H0.out.row, hown, H0.out.E.congr (hS.block _ hgl.2.2 (fun h => hbn h.symm)), hbn⟩, hS.mono fun k _ h => h.1⟩
 have HD := Lib.hid hD
 clear hS hown hgr hD
 go_wp2_with fail
 go_end0
 exact ⟨rfl, HD.out⟩
theorem gjoin_any (e : Ed) (he : e.Wf) (g bV bE : Nat) (G : Gr) (hG : G.Ok) (w : World) (h : GOk w g bV bE G) :
   Calls Tryz.prog 150 #[.pointer (some ⟨g, 0, none⟩), .agg (edC e)] w fun r w' => r = .returned (.tuple #[]) ∧ Did w w' g bV bE { G with E := putS ltE (btw e.u e.v) (e.lab, e.wt) G.E } := by
 have H0 := Lib.hid h
 have HG := Lib.hid hG
 have HE := Lib.hid he
 have hgl := h.lt
 have hgn := h.gne
 have hbn := h.ne
 clear h he hG
 unfold edC
 go_enter Tryz.func150, Tryz.ntmps150
 go_wp2_with fail
 generalize hW0 : World.alloc w _ = W0
 obtain ⟨hre, hB0⟩ := alloc_row hW0
 have hs0 := row?_lt hre
 clear hW0
 have HR := Lib.hid fun W (hb : Below W0.heap.size W0 W) => show W.cell? ⟨g, 1, none⟩ = some (.map (some bE)) ∧ W.cell? ⟨w.heap.size, 1, none⟩ = some (.int .i64 e.u) ∧ W.cell? ⟨w.heap.size, 2, none⟩ = some (.int .i64 e.v) ∧ W.cell? ⟨w.heap.size, 3, none⟩ = some (.int .u8 (e.lab : Int)) ∧ W.cell? ⟨w.heap.size, 4, none⟩ = some (.int .i64 e.wt) from
   ⟨(cell?_row (i := 1) ((row?_below hb (by have := hB0.size; omega)).trans (H0.out.below hB0).row)).trans rfl, (cell?_row (i := 1) ((row?_below hb (by omega)).trans hre)).trans rfl, (cell?_row (i := 2) ((row?_below hb (by omega)).trans hre)).trans rfl, (cell?_row (i := 3) ((row?_below hb (by omega)).trans hre)).trans rfl, (cell?_row (i := 4) ((row?_below hb (by omega)).trans hre)).trans rfl⟩
 have HB0 := Lib.hid hB0
 have HBT := Lib.hid fun W => gbetween_any e.u e.v W
 clear hre hB0
 refine wp_region_free_tail (fun W => Below W0.heap.size W0 W) 14 (by kernel_rfl) (by kernel_rfl) (Below.refl _ _).drew ?_
 simp only [List.take_succ_cons, List.take_zero, List.drop_succ_cons, List.drop_zero]
 repeat (apply wpFree_still; (intro w hw; obtain ⟨k1, k2, k3, k4, k5⟩ := HR.out w hw; clear hw; go_simp; (try go_ints); (first | with_reducible rfl | (go_simp; with_reducible rfl))); with_reducible rfl; (intro K hK; go_simp; (try go_ints); refine hK _ ?_; clear hK K))
 apply wpFree_call
 · intro w hw; go_simp; first | with_reducible rfl | with_reducible exact ⟨rfl, rfl⟩
 · with_reducible rfl
 · intro w hw; exact (HBT.out w).mono fun e w' ⟨h1, h2⟩ => ⟨h1, hw.trans (h2.mono hw.size)⟩
 intro K hK; go_simp; (try go_ints); refine hK _ ?_; clear hK K
 repeat (apply wpFree_still; (intro w hw; obtain ⟨k1, k2, k3, k4, k5⟩ := HR.out w hw; clear hw; go_simp; (try go_ints); (first | with_reducible rfl | (go_simp; with_reducible rfl))); with_reducible rfl; (intro K hK; go_simp; (try go_ints); refine hK _ ?_; clear hK K))
 with_reducible refine wpFree_nil ?_
 intro w' hb'
 have hB := HB0.out.trans (hb'.mono HB0.out.size)
 refine wpList_putOwn rfl _ _ _ _ rfl goodE Tryz.underlying154 bE G.E _ rfl (H0.out.below hB).E (btw e.u e.v) (e.lab, e.wt) rfl rfl (Ed.pair HE.out) (putS_perm ordE _ _ HG.out.sE) (by have := HG.out.most; omega) ?_
 intro w1 hown hgr hsz
 have hS : Same (fun k => k ≠ bE) w w1 := ((Same.of_below hB).mono fun k hk _ => hk).trans ((same_grown hgr).mono fun k _ hk => by simpa using hk)
 have hD : Did w w1 g bV bE { G with E := putS ltE (btw e.u e.v) (e.lab, e.wt) G.E } := ⟨⟨(row?_congr (hS.block _ hgl.1 hgn.2)).trans H0.out.row, H0.out.V.congr (hS.block _ hgl.2.1 hbn), hown, hbn⟩, hS.mono fun k _ h => h.2⟩
 have HD := Lib.hid hD
 clear hS hown hgr hD hB hb'
 go_wp2_with fail
 go_end0
 exact ⟨rfl, HD.out⟩
theorem gdeeds_any (w : World) : Calls Tryz.prog 89 #[] w fun r w' => r = .returned (.agg #[.func (.func 148) #[] #[], .func (.func 149) #[] #[], .func (.func 150) #[] #[], .func (.func 151) #[] #[], .func (.func 152) #[] #[], .func (.func 153) #[] #[], .func (.func 154) #[] #[], .func (.func 155) #[] #[]]) ∧ Below w.heap.size w w' := by
 go_enter Tryz.func89, Tryz.ntmps89
 go_wp2_with fail
 refine ret_row w.heap.size _ rfl Tryz.isAgg179 Tryz.sizeOf179 rfl rfl (row?_alloc_at _ _ _ _ rfl) rfl ⟨rfl, ?_⟩
 (repeat' (first | (with_reducible first | exact Below.refl _ _ | assumption | refine Below.alloc ?_ ?_ _ | refine Below.drew ?_ | refine Below.setCell ?_ ?_ _ | refine below_setRow ?_ ?_ _ | exact Nat.le_refl _) | omega | (simp; done) | (simp; omega) | (simp at *; omega)))
theorem Did.of_below {w w' : World} {g bV bE : Nat} {G : Gr} (h : GOk w g bV bE G) (hb : Below w.heap.size w w') : Did w w' g bV bE G := ⟨h.below hb, (Same.of_below hb).mono fun _ hk _ => hk⟩
theorem Did.after {w w0 w' : World} {g bV bE : Nat} {G : Gr} (hb : Below w.heap.size w w0) (h : Did w0 w' g bV bE G) : Did w w' g bV bE G := ⟨h.1, ((Same.of_below hb).mono fun _ hk _ => hk).trans h.2⟩
theorem wrong_fits (G : Gr) (e : Ed) : G.wrong e < 16 := by
 unfold Gr.wrong
 split; · omega
 split; · omega
 split; · omega
 split; · omega
 split; · omega
 split; · omega
 split; · omega
 split <;> omega
theorem gindex_any (cs : Array Value) (i : Nat) (v : Value) (w : World) (hi : i < 8) (hv : cs[i]? = some v) : (Instr.index 179 (.agg cs) (.int .i64 (i : Int))).run Tryz.prog w = .ok v w :=
 run_index_arr 179 178 8 cs .i64 i v w Tryz.underlying179 Tryz.sizeOf178 Tryz.isAgg178 hi hv
theorem gapply_any (e : Ed) (he : e.Wf) (hop : e.op = 0 ∨ e.op = 2) (g bV bE : Nat) (G : Gr) (hG : G.Ok) (w : World) (h : GOk w g bV bE G) :
   Calls Tryz.prog 36 #[.pointer (some ⟨g, 0, none⟩), .agg (edC e)] w fun r w' => r = .returned (.int .i64 (G.wrong e : Int)) ∧ Did w w' g bV bE (G.app e) := by
 have H0 := Lib.hid h
 have HG := Lib.hid hG
 have HE := Lib.hid he
 have HWf := wrong_fits G e
 obtain ⟨n, hn⟩ : ∃ n, n = G.wrong e := ⟨_, rfl⟩
 have hed : edC e = #[.int .i64 e.op, .int .i64 e.u, .int .i64 e.v, .int .u8 (e.lab : Int), .int .i64 e.wt] := rfl
 have HN := Lib.hid hn
 rw [hed, ← hn]
 clear h he hG hed hn
 go_enter Tryz.func36, Tryz.ntmps36
 go_wp2_with fail
 generalize hW0 : World.alloc w _ = W0
 obtain ⟨hre, hB0⟩ := alloc_row hW0
 have hs0 := row?_lt hre
 clear hW0
 have HW := Lib.hid (gwrong_any e HE.out g bV bE G W0 (H0.out.below hB0))
 have HB0 := Lib.hid hB0
 have HRE := Lib.hid fun W (hb : Below W0.heap.size W0 W) => show W.cell? ⟨w.heap.size, 0, none⟩ = some (.int .i64 e.op) ∧ W.cell? ⟨w.heap.size, 1, none⟩ = some (.int .i64 e.u) ∧ W.cell? ⟨w.heap.size, 2, none⟩ = some (.int .i64 e.v) ∧ W.cell? ⟨w.heap.size, 3, none⟩ = some (.int .u8 (e.lab : Int)) ∧ W.cell? ⟨w.heap.size, 4, none⟩ = some (.int .i64 e.wt) from
   ⟨(cell?_row (i := 0) ((row?_below hb (by omega)).trans hre)).trans rfl, (cell?_row (i := 1) ((row?_below hb (by omega)).trans hre)).trans rfl, (cell?_row (i := 2) ((row?_below hb (by omega)).trans hre)).trans rfl, (cell?_row (i := 3) ((row?_below hb (by omega)).trans hre)).trans rfl, (cell?_row (i := 4) ((row?_below hb (by omega)).trans hre)).trans rfl⟩
 clear hre hB0
 rw [← HN.out] at HW
 refine HW.out.mono ?_
 rintro r W1 ⟨rfl, hb1⟩
 have hbw := HB0.out.trans (hb1.mono HB0.out.size)
 have HB1 := Lib.hid hb1
 have HBW := Lib.hid hbw
 clear HW hb1 hbw
 by_cases hn0 : n = 0
 · subst hn0
   obtain ⟨op, u, v, lab, wt⟩ := e
   have happ := HN.out
   have HD := Lib.hid fun W => gdeeds_any W
   have HAdd := Lib.hid fun W (hb : Below W1.heap.size W1 W) => gadd_any ⟨op, u, v, lab, wt⟩ HE.out g bV bE G HG.out W (H0.out.below (HBW.out.trans (hb.mono HBW.out.size)))
   have HJoin := Lib.hid fun W (hb : Below W1.heap.size W1 W) => gjoin_any ⟨op, u, v, lab, wt⟩ HE.out g bV bE G HG.out W (H0.out.below (HBW.out.trans (hb.mono HBW.out.size)))
   have HApp : Hid (G.app ⟨op, u, v, lab, wt⟩ = G.doit ⟨op, u, v, lab, wt⟩) := Lib.hid (by unfold Gr.app; rw [if_pos happ.symm])
   clear happ
   simp only at hop
   unfold edC at HAdd HJoin
   obtain rfl | rfl := hop
   all_goals
     have hix := fun w => gindex_any #[.func (.func 148) #[] #[], .func (.func 149) #[] #[], .func (.func 150) #[] #[], .func (.func 151) #[] #[], .func (.func 152) #[] #[], .func (.func 153) #[] #[], .func (.func 154) #[] #[], .func (.func 155) #[] #[]] 0 _ w (by omega) rfl
     have hix2 := fun w => gindex_any #[.func (.func 148) #[] #[], .func (.func 149) #[] #[], .func (.func 150) #[] #[], .func (.func 151) #[] #[], .func (.func 152) #[] #[], .func (.func 153) #[] #[], .func (.func 154) #[] #[], .func (.func 155) #[] #[]] 2 _ w (by omega) rfl
     simp only [show ((0 : Nat) : Int) = 0 from rfl, show ((2 : Nat) : Int) = 2 from rfl] at hix hix2
     go_wp2_with fail
     refine wp_region_free_tail (fun W => Below W1.heap.size W1 W) 6 (by kernel_rfl) (by kernel_rfl) (Below.refl _ _).drew ?_
     simp only [List.take_succ_cons, List.take_zero, List.drop_succ_cons, List.drop_zero]
     apply wpFree_call
     · intro w hw; go_simp; first | with_reducible rfl | with_reducible exact ⟨rfl, rfl⟩
     · with_reducible rfl
     · intro w hw; exact (HD.out w).mono fun e w' ⟨h1, h2⟩ => ⟨h1, hw.trans (h2.mono hw.size)⟩
     intro K hK; go_simp; (try go_ints); refine hK _ ?_; clear hK K
     repeat (apply wpFree_still; (intro w hw; obtain ⟨k1, k2, k3, k4, k5⟩ := HRE.out w (HB1.out.trans (hw.mono HB1.out.size)); clear hw; go_simp; (try go_ints); (first | with_reducible rfl | (go_simp; with_reducible rfl))); with_reducible rfl; (intro K hK; go_simp; (try go_ints); refine hK _ ?_; clear hK K))
     with_reducible refine wpFree_nil ?_
     intro w' hb'
     have HB' := Lib.hid hb'
     clear hb'
     go_wp2_with fail
     first | refine (HAdd.out _ HB'.out).mono ?_ | refine (HJoin.out _ HB'.out).mono ?_
     rintro r w5 ⟨rfl, hd⟩
     have HDid := Lib.hid (hd.after (HBW.out.trans (HB'.out.mono HBW.out.size)))
     clear hd
     go_wp2_with fail
     go_ret
     refine ⟨rfl, ?_⟩
     rw [HApp.out]
     exact HDid.out
 · have h1 : ((n : Int) == 0) = false := by simpa using hn0
   have h2 : ((n : Int) != 0) = true := by simpa using hn0
   have h3 : (n != 0) = true := by simpa using hn0
   go_wp2_with fail
   go_ret
   refine ⟨rfl, ?_⟩
   unfold Gr.app
   rw [← HN.out, if_neg hn0]
   exact Did.of_below H0.out HBW.out
theorem isnan_any (n : Int) (w : World) : Calls Tryz.prog 174 #[.int .i64 n] w fun e w' => e = .returned (.bool false) ∧ w' = w := by
 go_enter Tryz.func174, Tryz.ntmps174
 go_wp2_with fail
 go_ret
 exact ⟨rfl, rfl⟩
theorem compare_any (x y : Int) (w : World) : Calls Tryz.prog 117 #[.int .i64 x, .int .i64 y] w fun e w' => e = .returned (.int .i64 (Lib.compareInt x y)) ∧ w' = w := by
 have H := Lib.hid fun n W => isnan_any n W
 unfold Lib.compareInt
 by_cases h1 : x < y
 · go_enter Tryz.func117, Tryz.ntmps117
   go_wp2_with fail
   refine (H.out _ _).mono ?_
   rintro e w1 ⟨rfl, rfl⟩
   go_wp2_with fail
   refine (H.out _ _).mono ?_
   rintro e w1 ⟨rfl, rfl⟩
   go_wp2_with fail
   go_ret
   exact ⟨by simp [h1], rfl⟩
 · by_cases h2 : y < x
   · go_enter Tryz.func117, Tryz.ntmps117
     go_wp2_with fail
     refine (H.out _ _).mono ?_
     rintro e w1 ⟨rfl, rfl⟩
     go_wp2_with fail
     refine (H.out _ _).mono ?_
     rintro e w1 ⟨rfl, rfl⟩
     go_wp2_with fail
     go_ret
     exact ⟨by simp [h1, h2], rfl⟩
   · go_enter Tryz.func117, Tryz.ntmps117
     go_wp2_with fail
     refine (H.out _ _).mono ?_
     rintro e w1 ⟨rfl, rfl⟩
     go_wp2_with fail
     refine (H.out _ _).mono ?_
     rintro e w1 ⟨rfl, rfl⟩
     go_wp2_with fail
     go_ret
     exact ⟨by simp [h1, h2], rfl⟩
theorem or2_any (a b : Int) (g : Nat) (w : World) (h : row? w g = some #[.int .i64 a, .int .i64 b]) : Calls Tryz.prog 121 #[.slice (some ⟨g, 0, none⟩) 2 2] w fun e w' => e = .returned (.int .i64 (if a = 0 then b else a)) ∧ w' = w := by
 have c0 := cell?_row (i := 0) h
 have c1 := cell?_row (i := 1) h
 simp at c0 c1
 clear h
 go_enter Tryz.func121, Tryz.ntmps121
 go_wp2_with fail
 go_loopw [8] (fun i wr => ∃ k : Nat, k ≤ 2 ∧ i = .int .i64 (k : Int) ∧ (0 < k → a = 0) ∧ (1 < k → b = 0) ∧ wr = w) (fun i _ => 2 - (intOf i).toNat)
 case atStart => exact ⟨0, by omega, rfl, by omega, by omega, rfl⟩
 case round =>
   obtain ⟨k, hk, rfl, ha, hb, rfl⟩ := hrel
   obtain rfl | rfl | rfl : k = 0 ∨ k = 1 ∨ k = 2 := by omega
   · by_cases hz : a = 0
     · subst hz
       go_wp2_with fail
       go_roundw
       case rel => exact ⟨1, by omega, by go_num, by simp, by omega, by simp⟩
       case measure => simp [intOf]
     · go_wp2_with fail
       go_ret
       exact ⟨by simp [hz], rfl⟩
   · have hz := ha (by omega)
     subst hz
     by_cases hz : b = 0
     · subst hz
       go_wp2_with fail
       go_roundw
       case rel => exact ⟨2, by omega, by go_num, by simp, by simp, by simp⟩
       case measure => simp [intOf]
     · go_wp2_with fail
       go_ret
       exact ⟨by simp, rfl⟩
   · have hz := ha (by omega)
     subst hz
     have hz := hb (by omega)
     subst hz
     go_wp2_with fail
     go_ret
     exact ⟨by simp, rfl⟩
def vtxA (x : Int × Th) : Array Value := #[.int .i64 x.1, .int .u8 (x.2.1 : Int), .int .i64 x.2.2]
def edgA (x : (Int × Int) × Th) : Array Value := #[.int .i64 x.1.1, .int .i64 x.1.2, .int .u8 (x.2.1 : Int), .int .i64 x.2.2]
def cmpV (x y : Int × Th) : Int := Lib.compareInt x.1 y.1
def cmpE (x y : (Int × Int) × Th) : Int := if Lib.compareInt x.1.1 y.1.1 = 0 then Lib.compareInt x.1.2 y.1.2 else Lib.compareInt x.1.1 y.1.1
theorem gvertices1_any (x y : Int × Th) (w : World) : Calls Tryz.prog 116 #[.agg (vtxA x), .agg (vtxA y)] w fun e w' => e = .returned (.int .i64 (cmpV x y)) ∧ Ext w w' := by
 have H := Lib.hid fun W => compare_any x.1 y.1 W
 obtain ⟨c, hc⟩ : ∃ c, c = cmpV x y := ⟨_, rfl⟩
 have hc2 : c = Lib.compareInt x.1 y.1 := hc
 rw [← hc]
 rw [← hc2] at H
 clear hc hc2
 unfold vtxA
 go_enter Tryz.func116, Tryz.ntmps116
 go_wp2_with fail
 refine (H.out _).mono ?_
 rintro e w1 ⟨rfl, rfl⟩
 go_wp2_with fail
 go_ret
 exact ⟨rfl, (Ext.alloc _ _).trans (Ext.alloc _ _)⟩
theorem gedges1_any (x y : (Int × Int) × Th) (w : World) : Calls Tryz.prog 120 #[.agg (edgA x), .agg (edgA y)] w fun e w' => e = .returned (.int .i64 (cmpE x y)) ∧ Ext w w' := by
 have H1 := Lib.hid fun W => compare_any x.1.1 y.1.1 W
 have H2 := Lib.hid fun W => compare_any x.1.2 y.1.2 W
 obtain ⟨c, hc⟩ : ∃ c, c = Lib.compareInt x.1.1 y.1.1 := ⟨_, rfl⟩
 obtain ⟨d, hd⟩ : ∃ d, d = Lib.compareInt x.1.2 y.1.2 := ⟨_, rfl⟩
 have hcd : cmpE x y = if c = 0 then d else c := by rw [hc, hd]; rfl
 rw [hcd]
 rw [← hc] at H1
 rw [← hd] at H2
 clear hc hd hcd
 obtain ⟨⟨xu, xv⟩, xl, xw⟩ := x
 obtain ⟨⟨yu, yv⟩, yl, yw⟩ := y
 unfold edgA
 simp only at H1 H2 ⊢
 go_enter Tryz.func120, Tryz.ntmps120
 go_wp2_with fail
 generalize hW1 : World.alloc (World.alloc w _) _ = W1
 have hx1 : Ext w W1 := by rw [← hW1]; exact (Ext.alloc _ _).trans (Ext.alloc _ _)
 have hy : row? W1 (w.heap.size + 1) = some #[.int .i64 yu, .int .i64 yv, .int .u8 (yl : Int), .int .i64 yw] := by rw [← hW1]; exact row?_alloc_at _ _ _ _ (by simp)
 have hx : row? W1 w.heap.size = some #[.int .i64 xu, .int .i64 xv, .int .u8 (xl : Int), .int .i64 xw] := by rw [← hW1]; exact (row?_alloc_past _ _ _ (by simp)).trans (row?_alloc_at _ _ _ _ rfl)
 have a0 := cell?_row (i := 0) hx
 have a1 := cell?_row (i := 1) hx
 have b0 := cell?_row (i := 0) hy
 have b1 := cell?_row (i := 1) hy
 simp at a0 a1 b0 b1
 clear hW1 hx hy
 refine wp_region_free_tail (fun w' => w' = W1.drew) 10 (by kernel_rfl) (by kernel_rfl) rfl ?_
 simp only [List.take_succ_cons, List.take_zero, List.drop_succ_cons, List.drop_zero]
 repeat (apply wpFree_still; (intro w hw; subst hw; go_simp; (try go_ints); (first | with_reducible rfl | (go_simp; with_reducible rfl))); with_reducible rfl; (intro K hK; go_simp; (try go_ints); refine hK _ ?_; clear hK K))
 apply wpFree_call
 · intro w hw; go_simp; first | with_reducible rfl | with_reducible exact ⟨rfl, rfl⟩
 · with_reducible rfl
 · intro w hw; subst hw; exact (H1.out _)
 intro K hK; go_simp; (try go_ints); refine hK _ ?_; clear hK K
 repeat (apply wpFree_still; (intro w hw; subst hw; go_simp; (try go_ints); (first | with_reducible rfl | (go_simp; with_reducible rfl))); with_reducible rfl; (intro K hK; go_simp; (try go_ints); refine hK _ ?_; clear hK K))
 apply wpFree_call
 · intro w hw; go_simp; first | with_reducible rfl | with_reducible exact ⟨rfl, rfl⟩
 · with_reducible rfl
 · intro w hw; subst hw; exact (H2.out _)
 intro K hK; go_simp; (try go_ints); refine hK _ ?_; clear hK K
 with_reducible refine wpFree_nil ?_
 rintro w' rfl
 go_wp2_with fail
 have hrw : row? ((W1.alloc (.cells #[.int .i64 c, .int .i64 d] 3)).drew) W1.heap.size = some #[.int .i64 c, .int .i64 d] := row?_alloc_at W1 _ _ _ rfl
 refine (or2_any c d _ _ hrw).mono ?_
 rintro e w2 ⟨rfl, rfl⟩
 go_wp2_with fail
 all_goals
   go_ret
   exact ⟨rfl, hx1.trans ((Ext.drew _).trans (Ext.alloc _ _))⟩
end Go.Proofs.YtglnhnjmelilmaaGreatDoor
namespace Go.Pal
open Go Go.RowKit Go.Sort Go.Shelf Go.Lib Go.Proofs
theorem Ext.grow {w w' : World} (h : Ext w w') : ∃ q os, w' = grow (w.drewN q) os := by
 refine ⟨w'.drawn - w.drawn, w'.heap.extract w.heap.size w'.heap.size, ?_⟩
 obtain ⟨⟨h1, h2, h3, h4, h5⟩, h6⟩ := h
 have hh : w'.heap = w.heap ++ w'.heap.extract w.heap.size w'.heap.size := by
   apply Array.ext_getElem?
   intro i
   by_cases hi : i < w.heap.size
   · rw [h5 i hi, Array.getElem?_append_left hi]
   · rw [Array.getElem?_append_right (by omega), Array.getElem?_extract]
     by_cases hi2 : i < w'.heap.size
     · rw [if_pos (by omega)]
       congr 1
       omega
     · rw [if_neg (by omega), Array.getElem?_eq_none (by omega)]
 have hd : w.drewN (w'.drawn - w.drawn) = { w with drawn := w'.drawn } := by
   show ({ w with drawn := w.drawn + (w'.drawn - w.drawn) } : World) = _
   rw [show w.drawn + (w'.drawn - w.drawn) = w'.drawn by omega]
 rw [hd]
 unfold Sort.grow
 cases w' with
 | mk heap' tape' drawn' os' output' =>
 simp only at h1 h2 h3 hh ⊢
 rw [h1, h2, h3, ← hh]
section
variable {α : Type} [Inhabited α] {P : Program} {e : TypeId} {k : Nat} {enc : α → Array Value}
theorem flatK_toList (E : ElT P e k enc) (d : Array α) : (flatK (fun x => (enc x).toList) k d).toList = encC enc d.toList := by
 have hk := E.pos
 apply List.ext_getElem?
 intro t
 by_cases ht : t < d.size * k
 · have hd : t / k < d.size := Nat.div_lt_of_lt_mul (by rwa [Nat.mul_comm] at ht)
   have hm : t % k < k := Nat.mod_lt _ hk
   have h1 : (flatK (fun x => (enc x).toList) k d)[t]? = some ((enc d[t / k]!).toList[t % k]!) := by
     have := get_flatK (fun x => (enc x).toList) k d t ht
     rw [getElem!_pos _ t (by simpa using ht)] at this
     rw [Array.getElem?_eq_getElem (by simpa using ht), this]
   rw [Array.getElem?_toList, h1]
   have hx : d.toList[t / k]? = some d[t / k]! := by
     rw [Array.getElem?_toList, Array.getElem?_eq_getElem hd, getElem!_pos d _ hd]
   have hu : (enc d[t / k]!)[t % k]? = some ((enc d[t / k]!).toList[t % k]!) := by
     have : t % k < (enc d[t / k]!).size := by rw [E.size]; exact hm
     have h3 : t % k < (enc d[t / k]!).toList.length := by simpa using this
     rw [← Array.getElem?_toList, List.getElem?_eq_getElem h3, getElem!_pos (enc d[t / k]!).toList _ h3]
   have := encC_get E hx hu
   rw [show t / k * k + t % k = t by rw [Nat.mul_comm]; exact Nat.div_add_mod t k] at this
   exact this.symm
 · rw [List.getElem?_eq_none (by simp; omega), List.getElem?_eq_none (by rw [encC_length E]; simp; omega)]
theorem putCells_take (F cur : Array Value) (hF : F.size ≤ cur.size) : (putCells id 0 F cur).toList.take F.size = F.toList := by
 apply List.ext_getElem?
 intro t
 rw [List.getElem?_take]
 by_cases ht : t < F.size
 · rw [if_pos ht]
   have h2 : t < cur.size := by omega
   unfold putCells
   simp [ht, h2]
 · rw [if_neg ht, List.getElem?_eq_none (by simp; omega)]
theorem sort_own {ρ : Ren} (L : SlLaysF0.n6 P ρ) (E : ElT P (ρ.t 24) k enc) (aE : ∀ w, (isAgg (ρ.t 24)).run P w = .ok true w) (zE : ∀ w, (Go.sizeOf (ρ.t 24)).run P w = .ok k w) (cf : α → α → Int) (hO : SWO (ltOf cf)) (g : Nat)
   (eg : ∀ args w, (callFunc g args).run P w = .ok (.enter g args) w) (hcmp : ∀ x y W, Calls P g #[.agg (enc x), .agg (enc y)] W fun e w' => e = .returned (.int .i64 (cf x y)) ∧ Ext W w')
   (B : Nat) (v : Value) (l : List α) (w : World) (h : OwnR (ρ.t 24) k enc B w v l) (hlen : l.length ≤ 1000000) :
   Calls P (ρ.f 6) #[v, .func (.func g) #[] #[]] w fun e w' => e = .returned (.tuple #[]) ∧ ∃ l', l.Perm l' ∧ l'.Pairwise (fun x y => ltOf cf y x = false) ∧ OwnR (ρ.t 24) k enc B w' v l' ∧ Same (fun j => v.ownBlock ≠ some j) w w' := by
 rcases h.2 with ⟨rfl, h2⟩ | ⟨b, cap, cur, rfl, hB, hg, hle, hcm, hcs, htake⟩
 · have hl : l = [] := List.length_eq_zero_iff.1 h2
   subst hl
   refine (Proofs.AnyF.slices_SortFunc_none L none 0 _ w).mono ?_
   rintro e w' ⟨rfl, rfl⟩
   exact ⟨rfl, [], List.Perm.refl _, List.Pairwise.nil, OwnR.nil _ _, Same.refl _ _⟩
 · have hblk := (Array.getElem?_eq_some_iff.1 hg).1
   have hFl : (flatK (fun x => (enc x).toList) k l.toArray).size = l.length * k := by simp
   have hH : HoldsK (fun x => (enc x).toList) k w b 0 l.toArray := by
     intro j hj
     have hj' : j < l.length * k := by simpa using hj
     have h3 : (encC enc l)[j]? = some ((flatK (fun x => (enc x).toList) k l.toArray)[j]!) := by
       rw [← flatK_toList E l.toArray, Array.getElem?_toList, Array.getElem?_eq_getElem hj, getElem!_pos _ j hj]
     have h4 := World.ownsRow.cells (base := B) h (g := b) rfl _ _ h3
     have e1 : (⟨b, 0, none⟩ : Addr).add j = ⟨b, 0 + j, none⟩ := by unfold Addr.add; split <;> simp_all
     rw [e1] at h4
     exact ⟨h4, frozen_of_row w b (0 + j) cur _ hg⟩
   have key := Proofs.AnyQ.slices_SortFunc L k aE zE (fun x => (enc x).toList) (fun x => by rw [Array.length_toList, E.size]) E.one cf hO g #[] b 0 cap l.toArray w eg
     (fun m os dk _ x y => (hcmp x y _).mono fun e w' ⟨he, hx⟩ => ⟨he, hx.grow⟩) hH hblk (by simp; omega)
   have hsz : l.toArray.size = l.length := by simp
   rw [hsz] at key
   refine key.mono ?_
   rintro e w' ⟨rfl, d', n, os, hp, hs, rfl⟩
   have hd' : d'.size = l.length := by have := hp.1; simpa using this
   have hperm : l.Perm d'.toList := by
     have h3 := hp.2.2
     have e1 : d'.extract 0 l.length = d' := by rw [← hd']; exact Array.extract_size
     have e2 : l.toArray.extract 0 l.length = l.toArray := by rw [← hsz]; exact Array.extract_size
     rw [e1, e2] at h3
     exact h3.symm
   have hlen' : d'.toList.length = l.length := by simpa using hd'
   have hF' : (flatK (fun x => (enc x).toList) k d').size = l.length * k := by rw [size_flatK, hd']
   have hheap : (sortWorldK (fun x => (enc x).toList) k w b 0 n d' os).heap[b]? = some (.cells (putCells id 0 (flatK (fun x => (enc x).toList) k d') cur) (ρ.t 24) (0, 0)) := by
     unfold sortWorldK putRowK
     rw [heap_grow_old _ _ (by rw [Go.Sort.size_putRow]; exact hblk)]
     unfold putRow mapBlock
     show (w.heap.modify b _)[b]? = _
     rw [Array.getElem?_modify, if_pos rfl, hg]
     rfl
   refine ⟨rfl, d'.toList, hperm, ?_, ?_, ?_⟩
   · rw [List.pairwise_iff_getElem]
     intro i j hi hj hij
     have := hs i j (Nat.zero_le _) hij (by simpa [hd'] using hj)
     simp only [Array.length_toList] at hi hj
     rw [getElem!_pos d' j hj, getElem!_pos d' i hi] at this
     simpa using this
   · refine ⟨encC_length E _, .inr ⟨b, cap, _, by rw [hlen'], hB, hheap, by rw [hlen']; exact hle, hcm, ?_, ?_⟩⟩
     · simp [putCells, hcs]
     · rw [hlen', ← flatK_toList E d', ← hF']
       exact putCells_take _ _ (by rw [hF', hcs]; exact Nat.mul_le_mul_right _ hle)
   · refine ⟨rfl, rfl, rfl, ?_, fun j hj hne => ?_⟩
     · unfold sortWorldK putRowK
       rw [size_grow, Go.Sort.size_putRow]
       exact Nat.le_add_right _ _
     · unfold sortWorldK putRowK
       rw [heap_grow_old _ _ (by rw [Go.Sort.size_putRow]; exact hj)]
       unfold putRow mapBlock
       show (w.heap.modify b _)[j]? = _
       rw [Array.getElem?_modify, if_neg fun e => hne (by rw [e]; rfl)]
end
end Go.Pal
namespace Go.Proofs
open Go.Shelf
def Tryz.laysSortV_ren : Go.Shelf.Ren := ⟨fun | 6 => 115 | 15 => 173 | 14 => 172 | 28 => 201 | 29 => 202 | 20 => 193 | 21 => 194 | 22 => 195 | 23 => 196 | 24 => 197 | 25 => 198 | 26 => 199 | 27 => 200 | 46 => 229 | 47 => 230 | 48 => 231 | 49 => 232 | 50 => 233 | 57 => 251 | n => n, fun | 22 => 123 | 24 => 126 | 25 => 200 | 3 => 3 | 39 => 234 | 0 => 0 | 53 => 256 | 55 => 77 | 4 => 4 | 46 => 250 | 45 => 249 | 50 => 192 | 5 => 5 | 9 => 9 | 66 => 285 | 70 => 289 | 76 => 305 | 77 => 222 | n => n, fun | n => n⟩
theorem Tryz.laysSortV : Go.Proofs.SlLaysF0.n6 Tryz.prog Tryz.laysSortV_ren := {
 mixed := by kernel_rfl
 f6 := ⟨Tryz.f115.name, by decide, Tryz.func115.trans (congrArg some (by kernel_rfl))⟩
 f14 := ⟨Tryz.f172.name, by decide, Tryz.func172.trans (congrArg some (by kernel_rfl))⟩
 f15 := Tryz.func173.trans (congrArg some (by kernel_rfl))
 f20 := ⟨Tryz.f193.name, by decide, Tryz.func193.trans (congrArg some (by kernel_rfl))⟩
 f21 := ⟨Tryz.f194.name, by decide, Tryz.func194.trans (congrArg some (by kernel_rfl))⟩
 f22 := ⟨Tryz.f195.name, by decide, Tryz.func195.trans (congrArg some (by kernel_rfl))⟩
 f23 := ⟨Tryz.f196.name, by decide, Tryz.func196.trans (congrArg some (by kernel_rfl))⟩
 f24 := ⟨Tryz.f197.name, by decide, Tryz.func197.trans (congrArg some (by kernel_rfl))⟩
 f25 := ⟨Tryz.f198.name, by decide, Tryz.func198.trans (congrArg some (by kernel_rfl))⟩
 f26 := ⟨Tryz.f199.name, by decide, Tryz.func199.trans (congrArg some (by kernel_rfl))⟩
 f27 := ⟨Tryz.f200.name, by decide, Tryz.func200.trans (congrArg some (by kernel_rfl))⟩
 f28 := Tryz.func201.trans (congrArg some (by kernel_rfl))
 f29 := Tryz.func202.trans (congrArg some (by kernel_rfl))
 f46 := ⟨Tryz.f229.name, by decide, Tryz.func229.trans (congrArg some (by kernel_rfl))⟩
 f47 := Tryz.func230.trans (congrArg some (by kernel_rfl))
 f48 := Tryz.func231.trans (congrArg some (by kernel_rfl))
 f49 := ⟨Tryz.f232.name, by decide, Tryz.func232.trans (congrArg some (by kernel_rfl))⟩
 f50 := ⟨Tryz.f233.name, by decide, Tryz.func233.trans (congrArg some (by kernel_rfl))⟩
 f57 := ⟨Tryz.f251.name, by decide, Tryz.func251.trans (congrArg some (by kernel_rfl))⟩
 t0 := Tryz.underlying0
 a0 := Tryz.isAgg0
 z0 := Tryz.sizeOf0
 v0 := Tryz.zeroValue0
 t3 := Tryz.underlying3
 a3 := Tryz.isAgg3
 z3 := Tryz.sizeOf3
 v3 := Tryz.zeroValue3
 t4 := Tryz.underlying4
 a4 := Tryz.isAgg4
 z4 := Tryz.sizeOf4
 v4 := Tryz.zeroValue4
 t5 := Tryz.underlying5
 a5 := Tryz.isAgg5
 z5 := Tryz.sizeOf5
 v5 := Tryz.zeroValue5
 t9 := Tryz.underlying9
 a9 := Tryz.isAgg9
 z9 := Tryz.sizeOf9
 v9 := Tryz.zeroValue9
 t22 := Tryz.underlying123
 a22 := Tryz.isAgg123
 z22 := Tryz.sizeOf123
 v22 := Tryz.zeroValue123
 t25 := Tryz.underlying200
 a25 := Tryz.isAgg200
 z25 := Tryz.sizeOf200
 v25 := Tryz.zeroValue200
 t39 := Tryz.underlying234
 a39 := Tryz.isAgg234
 z39 := Tryz.sizeOf234
 v39 := Tryz.zeroValue234
 t45 := Tryz.underlying249
 a45 := Tryz.isAgg249
 z45 := Tryz.sizeOf249
 v45 := Tryz.zeroValue249
 t46 := Tryz.underlying250
 a46 := Tryz.isAgg250
 z46 := Tryz.sizeOf250
 v46 := Tryz.zeroValue250
 t50 := Tryz.underlying192
 a50 := Tryz.isAgg192
 z50 := Tryz.sizeOf192
 v50 := Tryz.zeroValue192
 t53 := Tryz.underlying256
 a53 := Tryz.isAgg256
 z53 := Tryz.sizeOf256
 v53 := Tryz.zeroValue256
 t55 := Tryz.underlying77
 a55 := Tryz.isAgg77
 z55 := Tryz.sizeOf77
 v55 := Tryz.zeroValue77
 t66 := Tryz.underlying285
 a66 := Tryz.isAgg285
 z66 := Tryz.sizeOf285
 v66 := Tryz.zeroValue285
 t70 := Tryz.underlying289
 a70 := Tryz.isAgg289
 z70 := Tryz.sizeOf289
 v70 := Tryz.zeroValue289
 t76 := Tryz.underlying305
 a76 := Tryz.isAgg305
 z76 := Tryz.sizeOf305
 v76 := Tryz.zeroValue305
 t77 := Tryz.underlying222
 a77 := Tryz.isAgg222
 z77 := Tryz.sizeOf222
 v77 := Tryz.zeroValue222 }
def Tryz.laysSortE_ren : Go.Shelf.Ren := ⟨fun | 6 => 119 | 15 => 173 | 14 => 176 | 28 => 201 | 29 => 202 | 20 => 203 | 21 => 204 | 22 => 205 | 23 => 206 | 24 => 207 | 25 => 208 | 26 => 209 | 27 => 210 | 46 => 234 | 47 => 230 | 48 => 231 | 49 => 235 | 50 => 236 | 57 => 252 | n => n, fun | 22 => 131 | 24 => 134 | 25 => 203 | 3 => 3 | 39 => 234 | 0 => 0 | 53 => 256 | 55 => 77 | 4 => 4 | 46 => 250 | 45 => 249 | 50 => 192 | 5 => 5 | 9 => 9 | 66 => 285 | 70 => 289 | 76 => 305 | 77 => 222 | n => n, fun | n => n⟩
theorem Tryz.laysSortE : Go.Proofs.SlLaysF0.n6 Tryz.prog Tryz.laysSortE_ren := {
 mixed := by kernel_rfl
 f6 := ⟨Tryz.f119.name, by decide, Tryz.func119.trans (congrArg some (by kernel_rfl))⟩
 f14 := ⟨Tryz.f176.name, by decide, Tryz.func176.trans (congrArg some (by kernel_rfl))⟩
 f15 := Tryz.func173.trans (congrArg some (by kernel_rfl))
 f20 := ⟨Tryz.f203.name, by decide, Tryz.func203.trans (congrArg some (by kernel_rfl))⟩
 f21 := ⟨Tryz.f204.name, by decide, Tryz.func204.trans (congrArg some (by kernel_rfl))⟩
 f22 := ⟨Tryz.f205.name, by decide, Tryz.func205.trans (congrArg some (by kernel_rfl))⟩
 f23 := ⟨Tryz.f206.name, by decide, Tryz.func206.trans (congrArg some (by kernel_rfl))⟩
 f24 := ⟨Tryz.f207.name, by decide, Tryz.func207.trans (congrArg some (by kernel_rfl))⟩
 f25 := ⟨Tryz.f208.name, by decide, Tryz.func208.trans (congrArg some (by kernel_rfl))⟩
 f26 := ⟨Tryz.f209.name, by decide, Tryz.func209.trans (congrArg some (by kernel_rfl))⟩
 f27 := ⟨Tryz.f210.name, by decide, Tryz.func210.trans (congrArg some (by kernel_rfl))⟩
 f28 := Tryz.func201.trans (congrArg some (by kernel_rfl))
 f29 := Tryz.func202.trans (congrArg some (by kernel_rfl))
 f46 := ⟨Tryz.f234.name, by decide, Tryz.func234.trans (congrArg some (by kernel_rfl))⟩
 f47 := Tryz.func230.trans (congrArg some (by kernel_rfl))
 f48 := Tryz.func231.trans (congrArg some (by kernel_rfl))
 f49 := ⟨Tryz.f235.name, by decide, Tryz.func235.trans (congrArg some (by kernel_rfl))⟩
 f50 := ⟨Tryz.f236.name, by decide, Tryz.func236.trans (congrArg some (by kernel_rfl))⟩
 f57 := ⟨Tryz.f252.name, by decide, Tryz.func252.trans (congrArg some (by kernel_rfl))⟩
 t0 := Tryz.underlying0
 a0 := Tryz.isAgg0
 z0 := Tryz.sizeOf0
 v0 := Tryz.zeroValue0
 t3 := Tryz.underlying3
 a3 := Tryz.isAgg3
 z3 := Tryz.sizeOf3
 v3 := Tryz.zeroValue3
 t4 := Tryz.underlying4
 a4 := Tryz.isAgg4
 z4 := Tryz.sizeOf4
 v4 := Tryz.zeroValue4
 t5 := Tryz.underlying5
 a5 := Tryz.isAgg5
 z5 := Tryz.sizeOf5
 v5 := Tryz.zeroValue5
 t9 := Tryz.underlying9
 a9 := Tryz.isAgg9
 z9 := Tryz.sizeOf9
 v9 := Tryz.zeroValue9
 t22 := Tryz.underlying131
 a22 := Tryz.isAgg131
 z22 := Tryz.sizeOf131
 v22 := Tryz.zeroValue131
 t25 := Tryz.underlying203
 a25 := Tryz.isAgg203
 z25 := Tryz.sizeOf203
 v25 := Tryz.zeroValue203
 t39 := Tryz.underlying234
 a39 := Tryz.isAgg234
 z39 := Tryz.sizeOf234
 v39 := Tryz.zeroValue234
 t45 := Tryz.underlying249
 a45 := Tryz.isAgg249
 z45 := Tryz.sizeOf249
 v45 := Tryz.zeroValue249
 t46 := Tryz.underlying250
 a46 := Tryz.isAgg250
 z46 := Tryz.sizeOf250
 v46 := Tryz.zeroValue250
 t50 := Tryz.underlying192
 a50 := Tryz.isAgg192
 z50 := Tryz.sizeOf192
 v50 := Tryz.zeroValue192
 t53 := Tryz.underlying256
 a53 := Tryz.isAgg256
 z53 := Tryz.sizeOf256
 v53 := Tryz.zeroValue256
 t55 := Tryz.underlying77
 a55 := Tryz.isAgg77
 z55 := Tryz.sizeOf77
 v55 := Tryz.zeroValue77
 t66 := Tryz.underlying285
 a66 := Tryz.isAgg285
 z66 := Tryz.sizeOf285
 v66 := Tryz.zeroValue285
 t70 := Tryz.underlying289
 a70 := Tryz.isAgg289
 z70 := Tryz.sizeOf289
 v70 := Tryz.zeroValue289
 t76 := Tryz.underlying305
 a76 := Tryz.isAgg305
 z76 := Tryz.sizeOf305
 v76 := Tryz.zeroValue305
 t77 := Tryz.underlying222
 a77 := Tryz.isAgg222
 z77 := Tryz.sizeOf222
 v77 := Tryz.zeroValue222 }
end Go.Proofs
