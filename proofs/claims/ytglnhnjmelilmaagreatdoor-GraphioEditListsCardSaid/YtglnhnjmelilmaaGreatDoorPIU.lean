/- Walk: the reference's reading of an edit. -/
import Derived.Test.YtglnhnjmelilmaaGreatDoorPIt
set_option linter.all false
namespace Go.Pal
open Go Go.RowKit
theorem wrongF_lab {fv fw : Bool} {u v la wt : Int} (h : wrongF fv true fw u v la wt = 0) : labB la = true := by
 unfold wrongF at h
 split at h
 · rename_i h1
   simp only [Bool.and_eq_true, Bool.or_eq_true, Bool.not_eq_true'] at h1
   exact h1.1.2.resolve_left (by decide)
 · cases h
theorem edStep_eq (k : Nat) (l : List Int) : edStep k l = if wrongF (hasV k) (hasL k) (hasW k) (edOf k l).u (edOf k l).v (labOf k l) (edOf k l).wt = 0 then (edOf k l, 0) else (ed0, wrongF (hasV k) (hasL k) (hasW k) (edOf k l).u (edOf k l).v (labOf k l) (edOf k l).wt) := by
 have hs : stray (hasV k) (hasL k) (hasW k) (edOf k l).v (labOf k l) (edOf k l).wt = false := by
   unfold stray edOf labOf
   cases hasV k <;> cases hasL k <;> cases hasW k <;> simp
 rw [wrongF_eq hs]
 unfold edStep
 by_cases h1 : (idB (edOf k l).u && idB (edOf k l).v && labB (labOf k l) && wtB (edOf k l).wt) = true
 · rw [if_pos h1, if_pos h1]
   by_cases h2 : hasV k = true ∧ (edOf k l).u = (edOf k l).v
   · rw [if_pos h2, if_pos h2, if_neg (by decide)]
   · rw [if_neg h2, if_neg h2, if_pos rfl]
 · rw [if_neg h1, if_neg h1, if_neg (by decide)]
end Go.Pal
namespace Go.Proofs.YtglnhnjmelilmaaGreatDoor
open Go Go.RowKit Go.Pal Go.Shelf
attribute [local go_sem] Oper.semAt_some
@[go_sem] theorem storeRDu_at (w : World) (g : Nat) (d : Array Value) : rowStore Tryz.prog 30 ⟨g, 0, none⟩ (.agg d) w = match row? w g with
     | some c => if c.size = 5 ∧ d.size = 5 ∧ allOne d = true then .ok () (w.setRow g d) else laterStore Tryz.prog 30 ⟨g, 0, none⟩ (.agg d) w
     | none => laterStore Tryz.prog 30 ⟨g, 0, none⟩ (.agg d) w := store_row Tryz.sizeOf30 w g d
@[go_sem] theorem allOne_RDu (a b c d e : Int) : allOne #[.int .i64 a, .int .i64 b, .int .i64 c, .int .u8 d, .int .i64 e] = true := by unfold allOne; simp [Value.oneCell']
@[go_sem ↓ high] theorem build_DKUu (k a : Int) (w : World) : (Instr.build 30 #[(0, .int .i64 k), (1, .int .i64 a)]).run Tryz.prog w = .ok (.agg #[.int .i64 k, .int .i64 a, .int .i64 0, .int .u8 0, .int .i64 0]) w := by kernel_rfl
set_option maxRecDepth 10000 in
set_option maxHeartbeats 8000000 in
theorem rreadEd_any (s : List UInt8) (hs : s.length ≤ 100000) (w : World) :
   Calls Tryz.prog 15 #[.string ⟨s.toArray⟩] w fun e w' => e = .returned (.tuple #[.agg (edC (edRead s).1), .int .i64 ((edRead s).2 : Nat)]) ∧ Below w.heap.size w w' := by
 obtain ⟨X, hX⟩ : ∃ X, X = edRead s := ⟨_, rfl⟩
 rw [← hX]
 have HX := Lib.hid hX
 clear hX
 go_enter Tryz.func15, Tryz.ntmps15
 go_wp2_with fail
 generalize hW0 : World.alloc w _ = W0
 have q0 : row? W0 w.heap.size = some #[.int .i64 0, .int .i64 0, .int .i64 0, .int .u8 0, .int .i64 0] := by rw [← hW0]; simp [go_sem]
 have HB0 := Lib.hid (show Below w.heap.size w W0 from by rw [← hW0]; exact (Below.refl _ w).alloc (Nat.le_refl _) _)
 have HQ0 := Lib.hid q0
 have hsw := row?_lt q0
 clear hW0 q0
 go_loopw [4] (fun i wr => ∃ k : Nat, k ≤ 8 ∧ i = .int .i64 (k : Int) ∧ (∀ j, j < k → readW s (opW j) (manyOp j) = none) ∧ Below W0.heap.size W0 wr) (fun i _ => 8 - (intOf i).toNat)
 case atStart => exact ⟨0, by omega, rfl, by omega, Below.refl _ _⟩
 case round =>
   obtain ⟨k, hk, rfl, hno, hb⟩ := hrel
   have HB := Lib.hid hb
   have HN := Lib.hid hno
   clear hno hb
   by_cases hlt : k < 8
   · have hlt2 : (k : Int) < 8 := by omega
     have HHas := Lib.hid (rhasO_any k hlt wr)
     obtain ⟨fv, hfv⟩ : ∃ b, b = hasV k := ⟨_, rfl⟩
     obtain ⟨fl, hfl⟩ : ∃ b, b = hasL k := ⟨_, rfl⟩
     obtain ⟨fw, hfw⟩ : ∃ b, b = hasW k := ⟨_, rfl⟩
     rw [← hfv, ← hfl, ← hfw] at HHas
     have HFv := Lib.hid hfv
     have HFl := Lib.hid hfl
     have HFw := Lib.hid hfw
     clear hfv hfl hfw
     go_wp2_with fail
     refine HHas.out.mono ?_
     rintro r w1 ⟨rfl, hw1⟩
     rw [hw1]
     clear hw1 HHas
     cases fv with
     | true =>
       cases fl with
       | true =>
         cases fw with
         | true =>
           have HM := Lib.hid (show manyOp k = 4 from by unfold manyOp; rw [← HFv.out, ← HFl.out, ← HFw.out]; rfl)
           go_wp2_with fail
           refine (rword_any k hlt _).mono ?_
           rintro r w2 ⟨rfl, hb2⟩
           go_wp2_with fail
           refine (rreadw_any s (opW k) 4 (by decide) hs w2).mono ?_
           rintro r w3 ⟨hres, hb3⟩
           have HB3 := Lib.hid (HB.out.trans ((hb2.trans (hb3.mono hb2.size)).mono HB.out.size))
           rcases hres with ⟨l, v, hl, rfl, hO⟩ | ⟨hl, rfl⟩
           · obtain ⟨a, b, c, t, rfl⟩ : ∃ a b c t, l = [a, b, c, t] := by
               match l, (readW_some hl).2 with
               | [a, b, c, t], _ => exact ⟨a, b, c, t, rfl⟩
             have HX1 := Lib.hid (show X = _ from HX.out.trans ((edRead_hit hlt (by rw [HM.out]; exact hl)).trans (edStep_eq k [a, b, c, t])))
             have hx2 : X = if wrongF true true true a b c t = 0 then (⟨k, a, b, (c : Int).toNat, t⟩, 0) else (ed0, wrongF true true true a b c t) := by rw [HX1.out]; unfold edOf labOf; rw [← HFv.out, ← HFl.out, ← HFw.out]; rfl
             have HWr := Lib.hid fun W => rwrongO_any k hlt a b c t W
             rw [← HFv.out, ← HFl.out, ← HFw.out] at HWr
             obtain ⟨n, hn⟩ : ∃ n, n = wrongF true true true a b c t := ⟨_, rfl⟩
             rw [← hn] at HWr hx2
             obtain ⟨q, cap, rfl⟩ := hO.sl
             obtain ⟨g, rfl, hg1, hg2, hk0⟩ := hO.cell (j := 0) rfl
             obtain ⟨g', e1, -, -, hk1⟩ := hO.cell (j := 1) rfl
             cases e1
             obtain ⟨g', e1, -, -, hk2⟩ := hO.cell (j := 2) rfl
             cases e1
             obtain ⟨g', e1, -, -, hk3⟩ := hO.cell (j := 3) rfl
             cases e1
             have hr0 := (row?_below HB3.out hsw).trans HQ0.out
             have hs3 : w.heap.size < w3.heap.size := Nat.lt_of_lt_of_le hsw HB3.out.size
             have HB4 := Lib.hid (HB0.out.trans (HB3.out.mono HB0.out.size))
             have HX2 := Lib.hid hx2
             clear hx2 HX1 hl hO hb2 hb3 hg1
             by_cases hz : n = 0
             · obtain ⟨bn, hbn⟩ : ∃ bn : Nat, c = (bn : Int) := ⟨c.toNat, by have := wrongF_lab (hn.symm.trans hz); rw [labB_iff] at this; omega⟩
               have hb255 : bn ≤ 255 := by have := wrongF_lab (hn.symm.trans hz); rw [labB_iff] at this; omega
               subst hbn
               have HE := Lib.hid (show X = (⟨k, a, b, bn, t⟩, 0) from by rw [HX2.out, if_pos hz]; rfl)
               have e2 : ((n : Int) != 0) = false := by rw [hz]; rfl
               have e3 : (n : Int) = 0 := by omega
               subst hz
               clear hn
               go_wp2_with fail
               refine (HWr.out _).mono ?_
               rintro r w5 ⟨rfl, hw5⟩
               rw [hw5]
               clear hw5 HWr
               go_wp2_with fail
               have hq9 := row?_setRow_same w3 w.heap.size #[.int .i64 (k : Int), .int .i64 a, .int .i64 b, .int .u8 (bn : Int), .int .i64 t] (by rw [hr0]; rfl)
               have hb9 := below_setRow HB4.out (Nat.le_refl _) #[.int .i64 (k : Int), .int .i64 a, .int .i64 b, .int .u8 (bn : Int), .int .i64 t]
               refine ret_c2 w.heap.size #[.int .i64 (k : Int), .int .i64 a, .int .i64 b, .int .u8 (bn : Int), .int .i64 t] rfl Tryz.isAgg30 Tryz.sizeOf30 rfl rfl ((row?_alloc_past _ _ _ (row?_lt hq9)).trans hq9) rfl ?_
               exact ⟨by rw [HE.out]; rfl, hb9.alloc hb9.size _⟩
             · have HE := Lib.hid (show X = (ed0, n) from by rw [HX2.out, if_neg hz])
               have e2 : ((n : Int) != 0) = true := by rw [bne_iff_ne]; omega
               have e3 : ¬ (n : Int) = 0 := by omega
               clear hn
               go_wp2_with fail
               refine (HWr.out _).mono ?_
               rintro r w5 ⟨rfl, hw5⟩
               rw [hw5]
               clear hw5 HWr
               go_wp2_with fail
               have hq9 := row?_setRow_same w3 w.heap.size #[.int .i64 0, .int .i64 0, .int .i64 0, .int .u8 0, .int .i64 0] (by rw [hr0]; rfl)
               have hb9 := below_setRow HB4.out (Nat.le_refl _) #[.int .i64 0, .int .i64 0, .int .i64 0, .int .u8 0, .int .i64 0]
               refine ret_c2 w.heap.size #[.int .i64 0, .int .i64 0, .int .i64 0, .int .u8 0, .int .i64 0] rfl Tryz.isAgg30 Tryz.sizeOf30 rfl rfl ((row?_alloc_past _ _ _ (row?_lt hq9)).trans hq9) rfl ?_
               exact ⟨by rw [HE.out]; rfl, hb9.alloc hb9.size _⟩
           · have hl2 : readW s (opW k) (manyOp k) = none := by rw [HM.out]; exact hl
             have HN' := Lib.hid (show ∀ j, j < k + 1 → readW s (opW j) (manyOp j) = none from fun j hj => by
               by_cases e : j = k
               · rw [e]; exact hl2
               · exact HN.out j (by omega))
             clear hl hl2 hb2 hb3
             go_wp2_with fail
             go_roundw
             case rel => exact ⟨k + 1, by omega, by go_num, HN'.out, HB3.out⟩
             case measure => simp [intOf]; omega
         | false =>
           have HM := Lib.hid (show manyOp k = 3 from by unfold manyOp; rw [← HFv.out, ← HFl.out, ← HFw.out]; rfl)
           go_wp2_with fail
           refine (rword_any k hlt _).mono ?_
           rintro r w2 ⟨rfl, hb2⟩
           go_wp2_with fail
           refine (rreadw_any s (opW k) 3 (by decide) hs w2).mono ?_
           rintro r w3 ⟨hres, hb3⟩
           have HB3 := Lib.hid (HB.out.trans ((hb2.trans (hb3.mono hb2.size)).mono HB.out.size))
           rcases hres with ⟨l, v, hl, rfl, hO⟩ | ⟨hl, rfl⟩
           · obtain ⟨a, b, c, rfl⟩ : ∃ a b c, l = [a, b, c] := by
               match l, (readW_some hl).2 with
               | [a, b, c], _ => exact ⟨a, b, c, rfl⟩
             have HX1 := Lib.hid (show X = _ from HX.out.trans ((edRead_hit hlt (by rw [HM.out]; exact hl)).trans (edStep_eq k [a, b, c])))
             have hx2 : X = if wrongF true true false a b c 0 = 0 then (⟨k, a, b, (c : Int).toNat, 0⟩, 0) else (ed0, wrongF true true false a b c 0) := by rw [HX1.out]; unfold edOf labOf; rw [← HFv.out, ← HFl.out, ← HFw.out]; rfl
             have HWr := Lib.hid fun W => rwrongO_any k hlt a b c 0 W
             rw [← HFv.out, ← HFl.out, ← HFw.out] at HWr
             obtain ⟨n, hn⟩ : ∃ n, n = wrongF true true false a b c 0 := ⟨_, rfl⟩
             rw [← hn] at HWr hx2
             obtain ⟨q, cap, rfl⟩ := hO.sl
             obtain ⟨g, rfl, hg1, hg2, hk0⟩ := hO.cell (j := 0) rfl
             obtain ⟨g', e1, -, -, hk1⟩ := hO.cell (j := 1) rfl
             cases e1
             obtain ⟨g', e1, -, -, hk2⟩ := hO.cell (j := 2) rfl
             cases e1
             have hr0 := (row?_below HB3.out hsw).trans HQ0.out
             have hs3 : w.heap.size < w3.heap.size := Nat.lt_of_lt_of_le hsw HB3.out.size
             have HB4 := Lib.hid (HB0.out.trans (HB3.out.mono HB0.out.size))
             have HX2 := Lib.hid hx2
             clear hx2 HX1 hl hO hb2 hb3 hg1
             by_cases hz : n = 0
             · obtain ⟨bn, hbn⟩ : ∃ bn : Nat, c = (bn : Int) := ⟨c.toNat, by have := wrongF_lab (hn.symm.trans hz); rw [labB_iff] at this; omega⟩
               have hb255 : bn ≤ 255 := by have := wrongF_lab (hn.symm.trans hz); rw [labB_iff] at this; omega
               subst hbn
               have HE := Lib.hid (show X = (⟨k, a, b, bn, 0⟩, 0) from by rw [HX2.out, if_pos hz]; rfl)
               have e2 : ((n : Int) != 0) = false := by rw [hz]; rfl
               have e3 : (n : Int) = 0 := by omega
               subst hz
               clear hn
               go_wp2_with fail
               refine (HWr.out _).mono ?_
               rintro r w5 ⟨rfl, hw5⟩
               rw [hw5]
               clear hw5 HWr
               go_wp2_with fail
               have hq9 := row?_setRow_same w3 w.heap.size #[.int .i64 (k : Int), .int .i64 a, .int .i64 b, .int .u8 (bn : Int), .int .i64 0] (by rw [hr0]; rfl)
               have hb9 := below_setRow HB4.out (Nat.le_refl _) #[.int .i64 (k : Int), .int .i64 a, .int .i64 b, .int .u8 (bn : Int), .int .i64 0]
               refine ret_c2 w.heap.size #[.int .i64 (k : Int), .int .i64 a, .int .i64 b, .int .u8 (bn : Int), .int .i64 0] rfl Tryz.isAgg30 Tryz.sizeOf30 rfl rfl ((row?_alloc_past _ _ _ (row?_lt hq9)).trans hq9) rfl ?_
               exact ⟨by rw [HE.out]; rfl, hb9.alloc hb9.size _⟩
             · have HE := Lib.hid (show X = (ed0, n) from by rw [HX2.out, if_neg hz])
               have e2 : ((n : Int) != 0) = true := by rw [bne_iff_ne]; omega
               have e3 : ¬ (n : Int) = 0 := by omega
               clear hn
               go_wp2_with fail
               refine (HWr.out _).mono ?_
               rintro r w5 ⟨rfl, hw5⟩
               rw [hw5]
               clear hw5 HWr
               go_wp2_with fail
               have hq9 := row?_setRow_same w3 w.heap.size #[.int .i64 0, .int .i64 0, .int .i64 0, .int .u8 0, .int .i64 0] (by rw [hr0]; rfl)
               have hb9 := below_setRow HB4.out (Nat.le_refl _) #[.int .i64 0, .int .i64 0, .int .i64 0, .int .u8 0, .int .i64 0]
               refine ret_c2 w.heap.size #[.int .i64 0, .int .i64 0, .int .i64 0, .int .u8 0, .int .i64 0] rfl Tryz.isAgg30 Tryz.sizeOf30 rfl rfl ((row?_alloc_past _ _ _ (row?_lt hq9)).trans hq9) rfl ?_
               exact ⟨by rw [HE.out]; rfl, hb9.alloc hb9.size _⟩
           · have hl2 : readW s (opW k) (manyOp k) = none := by rw [HM.out]; exact hl
             have HN' := Lib.hid (show ∀ j, j < k + 1 → readW s (opW j) (manyOp j) = none from fun j hj => by
               by_cases e : j = k
               · rw [e]; exact hl2
               · exact HN.out j (by omega))
             clear hl hl2 hb2 hb3
             go_wp2_with fail
             go_roundw
             case rel => exact ⟨k + 1, by omega, by go_num, HN'.out, HB3.out⟩
             case measure => simp [intOf]; omega
       | false =>
         cases fw with
         | true =>
           have HM := Lib.hid (show manyOp k = 3 from by unfold manyOp; rw [← HFv.out, ← HFl.out, ← HFw.out]; rfl)
           go_wp2_with fail
           refine (rword_any k hlt _).mono ?_
           rintro r w2 ⟨rfl, hb2⟩
           go_wp2_with fail
           refine (rreadw_any s (opW k) 3 (by decide) hs w2).mono ?_
           rintro r w3 ⟨hres, hb3⟩
           have HB3 := Lib.hid (HB.out.trans ((hb2.trans (hb3.mono hb2.size)).mono HB.out.size))
           rcases hres with ⟨l, v, hl, rfl, hO⟩ | ⟨hl, rfl⟩
           · obtain ⟨a, b, t, rfl⟩ : ∃ a b t, l = [a, b, t] := by
               match l, (readW_some hl).2 with
               | [a, b, t], _ => exact ⟨a, b, t, rfl⟩
             have HX1 := Lib.hid (show X = _ from HX.out.trans ((edRead_hit hlt (by rw [HM.out]; exact hl)).trans (edStep_eq k [a, b, t])))
             have hx2 : X = if wrongF true false true a b 0 t = 0 then (⟨k, a, b, (0 : Int).toNat, t⟩, 0) else (ed0, wrongF true false true a b 0 t) := by rw [HX1.out]; unfold edOf labOf; rw [← HFv.out, ← HFl.out, ← HFw.out]; rfl
             have HWr := Lib.hid fun W => rwrongO_any k hlt a b 0 t W
             rw [← HFv.out, ← HFl.out, ← HFw.out] at HWr
             obtain ⟨n, hn⟩ : ∃ n, n = wrongF true false true a b 0 t := ⟨_, rfl⟩
             rw [← hn] at HWr hx2
             obtain ⟨q, cap, rfl⟩ := hO.sl
             obtain ⟨g, rfl, hg1, hg2, hk0⟩ := hO.cell (j := 0) rfl
             obtain ⟨g', e1, -, -, hk1⟩ := hO.cell (j := 1) rfl
             cases e1
             obtain ⟨g', e1, -, -, hk2⟩ := hO.cell (j := 2) rfl
             cases e1
             have hr0 := (row?_below HB3.out hsw).trans HQ0.out
             have hs3 : w.heap.size < w3.heap.size := Nat.lt_of_lt_of_le hsw HB3.out.size
             have HB4 := Lib.hid (HB0.out.trans (HB3.out.mono HB0.out.size))
             have HX2 := Lib.hid hx2
             clear hx2 HX1 hl hO hb2 hb3 hg1
             by_cases hz : n = 0
             · have HE := Lib.hid (show X = (⟨k, a, b, 0, t⟩, 0) from by rw [HX2.out, if_pos hz]; rfl)
               have e2 : ((n : Int) != 0) = false := by rw [hz]; rfl
               have e3 : (n : Int) = 0 := by omega
               subst hz
               clear hn
               go_wp2_with fail
               refine (HWr.out _).mono ?_
               rintro r w5 ⟨rfl, hw5⟩
               rw [hw5]
               clear hw5 HWr
               go_wp2_with fail
               have hq9 := row?_setRow_same w3 w.heap.size #[.int .i64 (k : Int), .int .i64 a, .int .i64 b, .int .u8 0, .int .i64 t] (by rw [hr0]; rfl)
               have hb9 := below_setRow HB4.out (Nat.le_refl _) #[.int .i64 (k : Int), .int .i64 a, .int .i64 b, .int .u8 0, .int .i64 t]
               refine ret_c2 w.heap.size #[.int .i64 (k : Int), .int .i64 a, .int .i64 b, .int .u8 0, .int .i64 t] rfl Tryz.isAgg30 Tryz.sizeOf30 rfl rfl ((row?_alloc_past _ _ _ (row?_lt hq9)).trans hq9) rfl ?_
               exact ⟨by rw [HE.out]; rfl, hb9.alloc hb9.size _⟩
             · have HE := Lib.hid (show X = (ed0, n) from by rw [HX2.out, if_neg hz])
               have e2 : ((n : Int) != 0) = true := by rw [bne_iff_ne]; omega
               have e3 : ¬ (n : Int) = 0 := by omega
               clear hn
               go_wp2_with fail
               refine (HWr.out _).mono ?_
               rintro r w5 ⟨rfl, hw5⟩
               rw [hw5]
               clear hw5 HWr
               go_wp2_with fail
               have hq9 := row?_setRow_same w3 w.heap.size #[.int .i64 0, .int .i64 0, .int .i64 0, .int .u8 0, .int .i64 0] (by rw [hr0]; rfl)
               have hb9 := below_setRow HB4.out (Nat.le_refl _) #[.int .i64 0, .int .i64 0, .int .i64 0, .int .u8 0, .int .i64 0]
               refine ret_c2 w.heap.size #[.int .i64 0, .int .i64 0, .int .i64 0, .int .u8 0, .int .i64 0] rfl Tryz.isAgg30 Tryz.sizeOf30 rfl rfl ((row?_alloc_past _ _ _ (row?_lt hq9)).trans hq9) rfl ?_
               exact ⟨by rw [HE.out]; rfl, hb9.alloc hb9.size _⟩
           · have hl2 : readW s (opW k) (manyOp k) = none := by rw [HM.out]; exact hl
             have HN' := Lib.hid (show ∀ j, j < k + 1 → readW s (opW j) (manyOp j) = none from fun j hj => by
               by_cases e : j = k
               · rw [e]; exact hl2
               · exact HN.out j (by omega))
             clear hl hl2 hb2 hb3
             go_wp2_with fail
             go_roundw
             case rel => exact ⟨k + 1, by omega, by go_num, HN'.out, HB3.out⟩
             case measure => simp [intOf]; omega
         | false =>
           have HM := Lib.hid (show manyOp k = 2 from by unfold manyOp; rw [← HFv.out, ← HFl.out, ← HFw.out]; rfl)
           go_wp2_with fail
           refine (rword_any k hlt _).mono ?_
           rintro r w2 ⟨rfl, hb2⟩
           go_wp2_with fail
           refine (rreadw_any s (opW k) 2 (by decide) hs w2).mono ?_
           rintro r w3 ⟨hres, hb3⟩
           have HB3 := Lib.hid (HB.out.trans ((hb2.trans (hb3.mono hb2.size)).mono HB.out.size))
           rcases hres with ⟨l, v, hl, rfl, hO⟩ | ⟨hl, rfl⟩
           · obtain ⟨a, b, rfl⟩ : ∃ a b, l = [a, b] := by
               match l, (readW_some hl).2 with
               | [a, b], _ => exact ⟨a, b, rfl⟩
             have HX1 := Lib.hid (show X = _ from HX.out.trans ((edRead_hit hlt (by rw [HM.out]; exact hl)).trans (edStep_eq k [a, b])))
             have hx2 : X = if wrongF true false false a b 0 0 = 0 then (⟨k, a, b, (0 : Int).toNat, 0⟩, 0) else (ed0, wrongF true false false a b 0 0) := by rw [HX1.out]; unfold edOf labOf; rw [← HFv.out, ← HFl.out, ← HFw.out]; rfl
             have HWr := Lib.hid fun W => rwrongO_any k hlt a b 0 0 W
             rw [← HFv.out, ← HFl.out, ← HFw.out] at HWr
             obtain ⟨n, hn⟩ : ∃ n, n = wrongF true false false a b 0 0 := ⟨_, rfl⟩
             rw [← hn] at HWr hx2
             obtain ⟨q, cap, rfl⟩ := hO.sl
             obtain ⟨g, rfl, hg1, hg2, hk0⟩ := hO.cell (j := 0) rfl
             obtain ⟨g', e1, -, -, hk1⟩ := hO.cell (j := 1) rfl
             cases e1
             have hr0 := (row?_below HB3.out hsw).trans HQ0.out
             have hs3 : w.heap.size < w3.heap.size := Nat.lt_of_lt_of_le hsw HB3.out.size
             have HB4 := Lib.hid (HB0.out.trans (HB3.out.mono HB0.out.size))
             have HX2 := Lib.hid hx2
             clear hx2 HX1 hl hO hb2 hb3 hg1
             by_cases hz : n = 0
             · have HE := Lib.hid (show X = (⟨k, a, b, 0, 0⟩, 0) from by rw [HX2.out, if_pos hz]; rfl)
               have e2 : ((n : Int) != 0) = false := by rw [hz]; rfl
               have e3 : (n : Int) = 0 := by omega
               subst hz
               clear hn
               go_wp2_with fail
               refine (HWr.out _).mono ?_
               rintro r w5 ⟨rfl, hw5⟩
               rw [hw5]
               clear hw5 HWr
               go_wp2_with fail
               have hq9 := row?_setRow_same w3 w.heap.size #[.int .i64 (k : Int), .int .i64 a, .int .i64 b, .int .u8 0, .int .i64 0] (by rw [hr0]; rfl)
               have hb9 := below_setRow HB4.out (Nat.le_refl _) #[.int .i64 (k : Int), .int .i64 a, .int .i64 b, .int .u8 0, .int .i64 0]
               refine ret_c2 w.heap.size #[.int .i64 (k : Int), .int .i64 a, .int .i64 b, .int .u8 0, .int .i64 0] rfl Tryz.isAgg30 Tryz.sizeOf30 rfl rfl ((row?_alloc_past _ _ _ (row?_lt hq9)).trans hq9) rfl ?_
               exact ⟨by rw [HE.out]; rfl, hb9.alloc hb9.size _⟩
             · have HE := Lib.hid (show X = (ed0, n) from by rw [HX2.out, if_neg hz])
               have e2 : ((n : Int) != 0) = true := by rw [bne_iff_ne]; omega
               have e3 : ¬ (n : Int) = 0 := by omega
               clear hn
               go_wp2_with fail
               refine (HWr.out _).mono ?_
               rintro r w5 ⟨rfl, hw5⟩
               rw [hw5]
               clear hw5 HWr
               go_wp2_with fail
               have hq9 := row?_setRow_same w3 w.heap.size #[.int .i64 0, .int .i64 0, .int .i64 0, .int .u8 0, .int .i64 0] (by rw [hr0]; rfl)
               have hb9 := below_setRow HB4.out (Nat.le_refl _) #[.int .i64 0, .int .i64 0, .int .i64 0, .int .u8 0, .int .i64 0]
               refine ret_c2 w.heap.size #[.int .i64 0, .int .i64 0, .int .i64 0, .int .u8 0, .int .i64 0] rfl Tryz.isAgg30 Tryz.sizeOf30 rfl rfl ((row?_alloc_past _ _ _ (row?_lt hq9)).trans hq9) rfl ?_
               exact ⟨by rw [HE.out]; rfl, hb9.alloc hb9.size _⟩
           · have hl2 : readW s (opW k) (manyOp k) = none := by rw [HM.out]; exact hl
             have HN' := Lib.hid (show ∀ j, j < k + 1 → readW s (opW j) (manyOp j) = none from fun j hj => by
               by_cases e : j = k
               · rw [e]; exact hl2
               · exact HN.out j (by omega))
             clear hl hl2 hb2 hb3
             go_wp2_with fail
             go_roundw
             case rel => exact ⟨k + 1, by omega, by go_num, HN'.out, HB3.out⟩
             case measure => simp [intOf]; omega
     | false =>
       cases fl with
       | true =>
         cases fw with
         | true =>
           have HM := Lib.hid (show manyOp k = 3 from by unfold manyOp; rw [← HFv.out, ← HFl.out, ← HFw.out]; rfl)
           go_wp2_with fail
           refine (rword_any k hlt _).mono ?_
           rintro r w2 ⟨rfl, hb2⟩
           go_wp2_with fail
           refine (rreadw_any s (opW k) 3 (by decide) hs w2).mono ?_
           rintro r w3 ⟨hres, hb3⟩
           have HB3 := Lib.hid (HB.out.trans ((hb2.trans (hb3.mono hb2.size)).mono HB.out.size))
           rcases hres with ⟨l, v, hl, rfl, hO⟩ | ⟨hl, rfl⟩
           · obtain ⟨a, c, t, rfl⟩ : ∃ a c t, l = [a, c, t] := by
               match l, (readW_some hl).2 with
               | [a, c, t], _ => exact ⟨a, c, t, rfl⟩
             have HX1 := Lib.hid (show X = _ from HX.out.trans ((edRead_hit hlt (by rw [HM.out]; exact hl)).trans (edStep_eq k [a, c, t])))
             have hx2 : X = if wrongF false true true a 0 c t = 0 then (⟨k, a, 0, (c : Int).toNat, t⟩, 0) else (ed0, wrongF false true true a 0 c t) := by rw [HX1.out]; unfold edOf labOf; rw [← HFv.out, ← HFl.out, ← HFw.out]; rfl
             have HWr := Lib.hid fun W => rwrongO_any k hlt a 0 c t W
             rw [← HFv.out, ← HFl.out, ← HFw.out] at HWr
             obtain ⟨n, hn⟩ : ∃ n, n = wrongF false true true a 0 c t := ⟨_, rfl⟩
             rw [← hn] at HWr hx2
             obtain ⟨q, cap, rfl⟩ := hO.sl
             obtain ⟨g, rfl, hg1, hg2, hk0⟩ := hO.cell (j := 0) rfl
             obtain ⟨g', e1, -, -, hk1⟩ := hO.cell (j := 1) rfl
             cases e1
             obtain ⟨g', e1, -, -, hk2⟩ := hO.cell (j := 2) rfl
             cases e1
             have hr0 := (row?_below HB3.out hsw).trans HQ0.out
             have hs3 : w.heap.size < w3.heap.size := Nat.lt_of_lt_of_le hsw HB3.out.size
             have HB4 := Lib.hid (HB0.out.trans (HB3.out.mono HB0.out.size))
             have HX2 := Lib.hid hx2
             clear hx2 HX1 hl hO hb2 hb3 hg1
             by_cases hz : n = 0
             · obtain ⟨bn, hbn⟩ : ∃ bn : Nat, c = (bn : Int) := ⟨c.toNat, by have := wrongF_lab (hn.symm.trans hz); rw [labB_iff] at this; omega⟩
               have hb255 : bn ≤ 255 := by have := wrongF_lab (hn.symm.trans hz); rw [labB_iff] at this; omega
               subst hbn
               have HE := Lib.hid (show X = (⟨k, a, 0, bn, t⟩, 0) from by rw [HX2.out, if_pos hz]; rfl)
               have e2 : ((n : Int) != 0) = false := by rw [hz]; rfl
               have e3 : (n : Int) = 0 := by omega
               subst hz
               clear hn
               go_wp2_with fail
               refine (HWr.out _).mono ?_
               rintro r w5 ⟨rfl, hw5⟩
               rw [hw5]
               clear hw5 HWr
               go_wp2_with fail
               have hq9 := row?_setRow_same w3 w.heap.size #[.int .i64 (k : Int), .int .i64 a, .int .i64 0, .int .u8 (bn : Int), .int .i64 t] (by rw [hr0]; rfl)
               have hb9 := below_setRow HB4.out (Nat.le_refl _) #[.int .i64 (k : Int), .int .i64 a, .int .i64 0, .int .u8 (bn : Int), .int .i64 t]
               refine ret_c2 w.heap.size #[.int .i64 (k : Int), .int .i64 a, .int .i64 0, .int .u8 (bn : Int), .int .i64 t] rfl Tryz.isAgg30 Tryz.sizeOf30 rfl rfl ((row?_alloc_past _ _ _ (row?_lt hq9)).trans hq9) rfl ?_
               exact ⟨by rw [HE.out]; rfl, hb9.alloc hb9.size _⟩
             · have HE := Lib.hid (show X = (ed0, n) from by rw [HX2.out, if_neg hz])
               have e2 : ((n : Int) != 0) = true := by rw [bne_iff_ne]; omega
               have e3 : ¬ (n : Int) = 0 := by omega
               clear hn
               go_wp2_with fail
               refine (HWr.out _).mono ?_
               rintro r w5 ⟨rfl, hw5⟩
               rw [hw5]
               clear hw5 HWr
               go_wp2_with fail
               have hq9 := row?_setRow_same w3 w.heap.size #[.int .i64 0, .int .i64 0, .int .i64 0, .int .u8 0, .int .i64 0] (by rw [hr0]; rfl)
               have hb9 := below_setRow HB4.out (Nat.le_refl _) #[.int .i64 0, .int .i64 0, .int .i64 0, .int .u8 0, .int .i64 0]
               refine ret_c2 w.heap.size #[.int .i64 0, .int .i64 0, .int .i64 0, .int .u8 0, .int .i64 0] rfl Tryz.isAgg30 Tryz.sizeOf30 rfl rfl ((row?_alloc_past _ _ _ (row?_lt hq9)).trans hq9) rfl ?_
               exact ⟨by rw [HE.out]; rfl, hb9.alloc hb9.size _⟩
           · have hl2 : readW s (opW k) (manyOp k) = none := by rw [HM.out]; exact hl
             have HN' := Lib.hid (show ∀ j, j < k + 1 → readW s (opW j) (manyOp j) = none from fun j hj => by
               by_cases e : j = k
               · rw [e]; exact hl2
               · exact HN.out j (by omega))
             clear hl hl2 hb2 hb3
             go_wp2_with fail
             go_roundw
             case rel => exact ⟨k + 1, by omega, by go_num, HN'.out, HB3.out⟩
             case measure => simp [intOf]; omega
         | false =>
           have HM := Lib.hid (show manyOp k = 2 from by unfold manyOp; rw [← HFv.out, ← HFl.out, ← HFw.out]; rfl)
           go_wp2_with fail
           refine (rword_any k hlt _).mono ?_
           rintro r w2 ⟨rfl, hb2⟩
           go_wp2_with fail
           refine (rreadw_any s (opW k) 2 (by decide) hs w2).mono ?_
           rintro r w3 ⟨hres, hb3⟩
           have HB3 := Lib.hid (HB.out.trans ((hb2.trans (hb3.mono hb2.size)).mono HB.out.size))
           rcases hres with ⟨l, v, hl, rfl, hO⟩ | ⟨hl, rfl⟩
           · obtain ⟨a, c, rfl⟩ : ∃ a c, l = [a, c] := by
               match l, (readW_some hl).2 with
               | [a, c], _ => exact ⟨a, c, rfl⟩
             have HX1 := Lib.hid (show X = _ from HX.out.trans ((edRead_hit hlt (by rw [HM.out]; exact hl)).trans (edStep_eq k [a, c])))
             have hx2 : X = if wrongF false true false a 0 c 0 = 0 then (⟨k, a, 0, (c : Int).toNat, 0⟩, 0) else (ed0, wrongF false true false a 0 c 0) := by rw [HX1.out]; unfold edOf labOf; rw [← HFv.out, ← HFl.out, ← HFw.out]; rfl
             have HWr := Lib.hid fun W => rwrongO_any k hlt a 0 c 0 W
             rw [← HFv.out, ← HFl.out, ← HFw.out] at HWr
             obtain ⟨n, hn⟩ : ∃ n, n = wrongF false true false a 0 c 0 := ⟨_, rfl⟩
             rw [← hn] at HWr hx2
             obtain ⟨q, cap, rfl⟩ := hO.sl
             obtain ⟨g, rfl, hg1, hg2, hk0⟩ := hO.cell (j := 0) rfl
             obtain ⟨g', e1, -, -, hk1⟩ := hO.cell (j := 1) rfl
             cases e1
             have hr0 := (row?_below HB3.out hsw).trans HQ0.out
             have hs3 : w.heap.size < w3.heap.size := Nat.lt_of_lt_of_le hsw HB3.out.size
             have HB4 := Lib.hid (HB0.out.trans (HB3.out.mono HB0.out.size))
             have HX2 := Lib.hid hx2
             clear hx2 HX1 hl hO hb2 hb3 hg1
             by_cases hz : n = 0
             · obtain ⟨bn, hbn⟩ : ∃ bn : Nat, c = (bn : Int) := ⟨c.toNat, by have := wrongF_lab (hn.symm.trans hz); rw [labB_iff] at this; omega⟩
               have hb255 : bn ≤ 255 := by have := wrongF_lab (hn.symm.trans hz); rw [labB_iff] at this; omega
               subst hbn
               have HE := Lib.hid (show X = (⟨k, a, 0, bn, 0⟩, 0) from by rw [HX2.out, if_pos hz]; rfl)
               have e2 : ((n : Int) != 0) = false := by rw [hz]; rfl
               have e3 : (n : Int) = 0 := by omega
               subst hz
               clear hn
               go_wp2_with fail
               refine (HWr.out _).mono ?_
               rintro r w5 ⟨rfl, hw5⟩
               rw [hw5]
               clear hw5 HWr
               go_wp2_with fail
               have hq9 := row?_setRow_same w3 w.heap.size #[.int .i64 (k : Int), .int .i64 a, .int .i64 0, .int .u8 (bn : Int), .int .i64 0] (by rw [hr0]; rfl)
               have hb9 := below_setRow HB4.out (Nat.le_refl _) #[.int .i64 (k : Int), .int .i64 a, .int .i64 0, .int .u8 (bn : Int), .int .i64 0]
               refine ret_c2 w.heap.size #[.int .i64 (k : Int), .int .i64 a, .int .i64 0, .int .u8 (bn : Int), .int .i64 0] rfl Tryz.isAgg30 Tryz.sizeOf30 rfl rfl ((row?_alloc_past _ _ _ (row?_lt hq9)).trans hq9) rfl ?_
               exact ⟨by rw [HE.out]; rfl, hb9.alloc hb9.size _⟩
             · have HE := Lib.hid (show X = (ed0, n) from by rw [HX2.out, if_neg hz])
               have e2 : ((n : Int) != 0) = true := by rw [bne_iff_ne]; omega
               have e3 : ¬ (n : Int) = 0 := by omega
               clear hn
               go_wp2_with fail
               refine (HWr.out _).mono ?_
               rintro r w5 ⟨rfl, hw5⟩
               rw [hw5]
               clear hw5 HWr
               go_wp2_with fail
               have hq9 := row?_setRow_same w3 w.heap.size #[.int .i64 0, .int .i64 0, .int .i64 0, .int .u8 0, .int .i64 0] (by rw [hr0]; rfl)
               have hb9 := below_setRow HB4.out (Nat.le_refl _) #[.int .i64 0, .int .i64 0, .int .i64 0, .int .u8 0, .int .i64 0]
               refine ret_c2 w.heap.size #[.int .i64 0, .int .i64 0, .int .i64 0, .int .u8 0, .int .i64 0] rfl Tryz.isAgg30 Tryz.sizeOf30 rfl rfl ((row?_alloc_past _ _ _ (row?_lt hq9)).trans hq9) rfl ?_
               exact ⟨by rw [HE.out]; rfl, hb9.alloc hb9.size _⟩
           · have hl2 : readW s (opW k) (manyOp k) = none := by rw [HM.out]; exact hl
             have HN' := Lib.hid (show ∀ j, j < k + 1 → readW s (opW j) (manyOp j) = none from fun j hj => by
               by_cases e : j = k
               · rw [e]; exact hl2
               · exact HN.out j (by omega))
             clear hl hl2 hb2 hb3
             go_wp2_with fail
             go_roundw
             case rel => exact ⟨k + 1, by omega, by go_num, HN'.out, HB3.out⟩
             case measure => simp [intOf]; omega
       | false =>
         cases fw with
         | true =>
           have HM := Lib.hid (show manyOp k = 2 from by unfold manyOp; rw [← HFv.out, ← HFl.out, ← HFw.out]; rfl)
           go_wp2_with fail
           refine (rword_any k hlt _).mono ?_
           rintro r w2 ⟨rfl, hb2⟩
           go_wp2_with fail
           refine (rreadw_any s (opW k) 2 (by decide) hs w2).mono ?_
           rintro r w3 ⟨hres, hb3⟩
           have HB3 := Lib.hid (HB.out.trans ((hb2.trans (hb3.mono hb2.size)).mono HB.out.size))
           rcases hres with ⟨l, v, hl, rfl, hO⟩ | ⟨hl, rfl⟩
           · obtain ⟨a, t, rfl⟩ : ∃ a t, l = [a, t] := by
               match l, (readW_some hl).2 with
               | [a, t], _ => exact ⟨a, t, rfl⟩
             have HX1 := Lib.hid (show X = _ from HX.out.trans ((edRead_hit hlt (by rw [HM.out]; exact hl)).trans (edStep_eq k [a, t])))
             have hx2 : X = if wrongF false false true a 0 0 t = 0 then (⟨k, a, 0, (0 : Int).toNat, t⟩, 0) else (ed0, wrongF false false true a 0 0 t) := by rw [HX1.out]; unfold edOf labOf; rw [← HFv.out, ← HFl.out, ← HFw.out]; rfl
             have HWr := Lib.hid fun W => rwrongO_any k hlt a 0 0 t W
             rw [← HFv.out, ← HFl.out, ← HFw.out] at HWr
             obtain ⟨n, hn⟩ : ∃ n, n = wrongF false false true a 0 0 t := ⟨_, rfl⟩
             rw [← hn] at HWr hx2
             obtain ⟨q, cap, rfl⟩ := hO.sl
             obtain ⟨g, rfl, hg1, hg2, hk0⟩ := hO.cell (j := 0) rfl
             obtain ⟨g', e1, -, -, hk1⟩ := hO.cell (j := 1) rfl
             cases e1
             have hr0 := (row?_below HB3.out hsw).trans HQ0.out
             have hs3 : w.heap.size < w3.heap.size := Nat.lt_of_lt_of_le hsw HB3.out.size
             have HB4 := Lib.hid (HB0.out.trans (HB3.out.mono HB0.out.size))
             have HX2 := Lib.hid hx2
             clear hx2 HX1 hl hO hb2 hb3 hg1
             by_cases hz : n = 0
             · have HE := Lib.hid (show X = (⟨k, a, 0, 0, t⟩, 0) from by rw [HX2.out, if_pos hz]; rfl)
               have e2 : ((n : Int) != 0) = false := by rw [hz]; rfl
               have e3 : (n : Int) = 0 := by omega
               subst hz
               clear hn
               go_wp2_with fail
               refine (HWr.out _).mono ?_
               rintro r w5 ⟨rfl, hw5⟩
               rw [hw5]
               clear hw5 HWr
               go_wp2_with fail
               have hq9 := row?_setRow_same w3 w.heap.size #[.int .i64 (k : Int), .int .i64 a, .int .i64 0, .int .u8 0, .int .i64 t] (by rw [hr0]; rfl)
               have hb9 := below_setRow HB4.out (Nat.le_refl _) #[.int .i64 (k : Int), .int .i64 a, .int .i64 0, .int .u8 0, .int .i64 t]
               refine ret_c2 w.heap.size #[.int .i64 (k : Int), .int .i64 a, .int .i64 0, .int .u8 0, .int .i64 t] rfl Tryz.isAgg30 Tryz.sizeOf30 rfl rfl ((row?_alloc_past _ _ _ (row?_lt hq9)).trans hq9) rfl ?_
               exact ⟨by rw [HE.out]; rfl, hb9.alloc hb9.size _⟩
             · have HE := Lib.hid (show X = (ed0, n) from by rw [HX2.out, if_neg hz])
               have e2 : ((n : Int) != 0) = true := by rw [bne_iff_ne]; omega
               have e3 : ¬ (n : Int) = 0 := by omega
               clear hn
               go_wp2_with fail
               refine (HWr.out _).mono ?_
               rintro r w5 ⟨rfl, hw5⟩
               rw [hw5]
               clear hw5 HWr
               go_wp2_with fail
               have hq9 := row?_setRow_same w3 w.heap.size #[.int .i64 0, .int .i64 0, .int .i64 0, .int .u8 0, .int .i64 0] (by rw [hr0]; rfl)
               have hb9 := below_setRow HB4.out (Nat.le_refl _) #[.int .i64 0, .int .i64 0, .int .i64 0, .int .u8 0, .int .i64 0]
               refine ret_c2 w.heap.size #[.int .i64 0, .int .i64 0, .int .i64 0, .int .u8 0, .int .i64 0] rfl Tryz.isAgg30 Tryz.sizeOf30 rfl rfl ((row?_alloc_past _ _ _ (row?_lt hq9)).trans hq9) rfl ?_
               exact ⟨by rw [HE.out]; rfl, hb9.alloc hb9.size _⟩
           · have hl2 : readW s (opW k) (manyOp k) = none := by rw [HM.out]; exact hl
             have HN' := Lib.hid (show ∀ j, j < k + 1 → readW s (opW j) (manyOp j) = none from fun j hj => by
               by_cases e : j = k
               · rw [e]; exact hl2
               · exact HN.out j (by omega))
             clear hl hl2 hb2 hb3
             go_wp2_with fail
             go_roundw
             case rel => exact ⟨k + 1, by omega, by go_num, HN'.out, HB3.out⟩
             case measure => simp [intOf]; omega
         | false =>
           have HM := Lib.hid (show manyOp k = 1 from by unfold manyOp; rw [← HFv.out, ← HFl.out, ← HFw.out]; rfl)
           go_wp2_with fail
           refine (rword_any k hlt _).mono ?_
           rintro r w2 ⟨rfl, hb2⟩
           go_wp2_with fail
           refine (rreadw_any s (opW k) 1 (by decide) hs w2).mono ?_
           rintro r w3 ⟨hres, hb3⟩
           have HB3 := Lib.hid (HB.out.trans ((hb2.trans (hb3.mono hb2.size)).mono HB.out.size))
           rcases hres with ⟨l, v, hl, rfl, hO⟩ | ⟨hl, rfl⟩
           · obtain ⟨a, rfl⟩ : ∃ a, l = [a] := by
               match l, (readW_some hl).2 with
               | [a], _ => exact ⟨a, rfl⟩
             have HX1 := Lib.hid (show X = _ from HX.out.trans ((edRead_hit hlt (by rw [HM.out]; exact hl)).trans (edStep_eq k [a])))
             have hx2 : X = if wrongF false false false a 0 0 0 = 0 then (⟨k, a, 0, (0 : Int).toNat, 0⟩, 0) else (ed0, wrongF false false false a 0 0 0) := by rw [HX1.out]; unfold edOf labOf; rw [← HFv.out, ← HFl.out, ← HFw.out]; rfl
             have HWr := Lib.hid fun W => rwrongO_any k hlt a 0 0 0 W
             rw [← HFv.out, ← HFl.out, ← HFw.out] at HWr
             obtain ⟨n, hn⟩ : ∃ n, n = wrongF false false false a 0 0 0 := ⟨_, rfl⟩
             rw [← hn] at HWr hx2
             obtain ⟨q, cap, rfl⟩ := hO.sl
             obtain ⟨g, rfl, hg1, hg2, hk0⟩ := hO.cell (j := 0) rfl
             have hr0 := (row?_below HB3.out hsw).trans HQ0.out
             have hs3 : w.heap.size < w3.heap.size := Nat.lt_of_lt_of_le hsw HB3.out.size
             have HB4 := Lib.hid (HB0.out.trans (HB3.out.mono HB0.out.size))
             have HX2 := Lib.hid hx2
             clear hx2 HX1 hl hO hb2 hb3 hg1
             by_cases hz : n = 0
             · have HE := Lib.hid (show X = (⟨k, a, 0, 0, 0⟩, 0) from by rw [HX2.out, if_pos hz]; rfl)
               have e2 : ((n : Int) != 0) = false := by rw [hz]; rfl
               have e3 : (n : Int) = 0 := by omega
               subst hz
               clear hn
               go_wp2_with fail
               refine (HWr.out _).mono ?_
               rintro r w5 ⟨rfl, hw5⟩
               rw [hw5]
               clear hw5 HWr
               go_wp2_with fail
               have hq9 := row?_setRow_same w3 w.heap.size #[.int .i64 (k : Int), .int .i64 a, .int .i64 0, .int .u8 0, .int .i64 0] (by rw [hr0]; rfl)
               have hb9 := below_setRow HB4.out (Nat.le_refl _) #[.int .i64 (k : Int), .int .i64 a, .int .i64 0, .int .u8 0, .int .i64 0]
               refine ret_c2 w.heap.size #[.int .i64 (k : Int), .int .i64 a, .int .i64 0, .int .u8 0, .int .i64 0] rfl Tryz.isAgg30 Tryz.sizeOf30 rfl rfl ((row?_alloc_past _ _ _ (row?_lt hq9)).trans hq9) rfl ?_
               exact ⟨by rw [HE.out]; rfl, hb9.alloc hb9.size _⟩
             · have HE := Lib.hid (show X = (ed0, n) from by rw [HX2.out, if_neg hz])
               have e2 : ((n : Int) != 0) = true := by rw [bne_iff_ne]; omega
               have e3 : ¬ (n : Int) = 0 := by omega
               clear hn
               go_wp2_with fail
               refine (HWr.out _).mono ?_
               rintro r w5 ⟨rfl, hw5⟩
               rw [hw5]
               clear hw5 HWr
               go_wp2_with fail
               have hq9 := row?_setRow_same w3 w.heap.size #[.int .i64 0, .int .i64 0, .int .i64 0, .int .u8 0, .int .i64 0] (by rw [hr0]; rfl)
               have hb9 := below_setRow HB4.out (Nat.le_refl _) #[.int .i64 0, .int .i64 0, .int .i64 0, .int .u8 0, .int .i64 0]
               refine ret_c2 w.heap.size #[.int .i64 0, .int .i64 0, .int .i64 0, .int .u8 0, .int .i64 0] rfl Tryz.isAgg30 Tryz.sizeOf30 rfl rfl ((row?_alloc_past _ _ _ (row?_lt hq9)).trans hq9) rfl ?_
               exact ⟨by rw [HE.out]; rfl, hb9.alloc hb9.size _⟩
           · have hl2 : readW s (opW k) (manyOp k) = none := by rw [HM.out]; exact hl
             have HN' := Lib.hid (show ∀ j, j < k + 1 → readW s (opW j) (manyOp j) = none from fun j hj => by
               by_cases e : j = k
               · rw [e]; exact hl2
               · exact HN.out j (by omega))
             clear hl hl2 hb2 hb3
             go_wp2_with fail
             go_roundw
             case rel => exact ⟨k + 1, by omega, by go_num, HN'.out, HB3.out⟩
             case measure => simp [intOf]; omega
   · have hk8 : k = 8 := by omega
     subst hk8
     have HE := Lib.hid (show X = (ed0, 3) from by rw [HX.out]; exact edRead_miss HN.out)
     have hr0 := (row?_below HB.out hsw).trans HQ0.out
     have HB4 := Lib.hid (HB0.out.trans (HB.out.mono HB0.out.size))
     go_wp2_with fail
     refine ret_c2 w.heap.size #[.int .i64 0, .int .i64 0, .int .i64 0, .int .u8 0, .int .i64 0] rfl Tryz.isAgg30 Tryz.sizeOf30 rfl rfl (row?_setRow_same _ _ _ (by rw [hr0]; rfl)) rfl ?_
     exact ⟨by rw [HE.out]; rfl, below_setRow HB4.out (Nat.le_refl _) _⟩
end Go.Proofs.YtglnhnjmelilmaaGreatDoor
