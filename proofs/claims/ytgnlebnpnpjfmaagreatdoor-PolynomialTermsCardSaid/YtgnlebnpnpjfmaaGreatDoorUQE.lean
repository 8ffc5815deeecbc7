/- Walks of package polynomial: the methods of Ring. -/
import Derived.Test.YtgnlebnpnpjfmaaGreatDoorUOu
set_option linter.all false
namespace Go.Proofs.YtgnlebnpnpjfmaaGreatDoor
open Go Go.RowKit Go.Pal Go.Shelf
attribute [local go_sem] Oper.semAt_some
@[go_sem ↓ high] theorem loadRG (a : Addr) : loadVar 76 a = loadLater 76 a := rfl
@[go_sem ↓ high] theorem storeRG (a : Addr) (v : Value) : storeVar 76 a v = storeLater 76 a v := rfl
@[go_sem] theorem loadRG_run (w : World) (a : Addr) : (loadLater 76 a).run Tryz.prog w = rowLoad Tryz.prog 76 a w := rfl
@[go_sem] theorem storeRG_run (w : World) (a : Addr) (v : Value) : (storeLater 76 a v).run Tryz.prog w = rowStore Tryz.prog 76 a v w := rfl
@[go_sem] theorem loadRG_at (w : World) (g : Nat) : rowLoad Tryz.prog 76 ⟨g, 0, none⟩ w = match row? w g with
     | some c => if c.size = 0 then .ok (.agg c) w else laterLoad Tryz.prog 76 ⟨g, 0, none⟩ w
     | none => laterLoad Tryz.prog 76 ⟨g, 0, none⟩ w := load_row Tryz.isAgg76 Tryz.sizeOf76 w g
@[go_sem] theorem storeRG_at (w : World) (g : Nat) (d : Array Value) : rowStore Tryz.prog 76 ⟨g, 0, none⟩ (.agg d) w = match row? w g with
     | some c => if c.size = 0 ∧ d.size = 0 ∧ allOne d = true then .ok () (w.setRow g d) else laterStore Tryz.prog 76 ⟨g, 0, none⟩ (.agg d) w
     | none => laterStore Tryz.prog 76 ⟨g, 0, none⟩ (.agg d) w := store_row Tryz.sizeOf76 w g d
@[go_sem ↓ high] theorem zeroRG (w : World) : (zeroValue 76).run Tryz.prog w = .ok (.agg #[]) w := by kernel_rfl
@[go_sem] theorem allOne_0 : allOne #[] = true := by unfold allOne; simp
@[go_sem ↓ high] theorem build_RG (w : World) : (Instr.build 76 #[]).run Tryz.prog w = .ok (.agg #[]) w := by kernel_rfl
theorem pzeroV_any (w : World) : Calls Tryz.prog 22 #[] w fun e w' => ∃ v', e = .returned v' ∧ PolV w' v' [] ∧ Below w.heap.size w w' :=
 (pzero_any w).mono (by rintro e w' ⟨rfl, b⟩; exact ⟨_, rfl, ⟨none, rfl, .inl ⟨rfl, rfl⟩⟩, b⟩)
theorem rgZero_any (w : World) : Calls Tryz.prog 42 #[.agg #[]] w fun e w' => ∃ v', e = .returned v' ∧ PolV w' v' [] ∧ Below w.heap.size w w' := by
 go_enter Tryz.func42, Tryz.ntmps42
 go_wp2_with fail
 refine (pzeroV_any _).mono ?_
 rintro e w1 ⟨v1, rfl, ⟨m, rfl, hm⟩, hb1⟩
 have r1 := (row?_below hb1 (by simp <;> omega)).trans (row?_alloc_at (w.alloc (.cells #[] 76)) #[Value.map none] 24 (w.heap.size + 1) (by simp <;> omega))
 have hbA : Below w.heap.size w ((w.alloc (.cells #[] 76)).alloc (.cells #[.map none] 24)) := by
   (repeat' (first | (with_reducible first | exact Below.refl _ _ | assumption | refine Below.alloc ?_ ?_ _ | refine Below.drew ?_ | refine Below.setCell ?_ ?_ _ | refine below_setRow ?_ ?_ _ | exact Nat.le_refl _) | omega | (simp; done) | (simp; omega) | (simp at *; omega)))
 have HB := Lib.hid (hbA.trans (hb1.mono hbA.size))
 have HP := Lib.hid hm
 have l1 := row?_lt r1
 clear hb1 hm hbA
 go_wp2_with fail
 refine ret_row (w.heap.size + 1) #[.map m] rfl Tryz.isAgg24 Tryz.sizeOf24 rfl rfl (row?_setRow_same _ _ _ (by rw [r1]; rfl)) rfl ?_
 refine ⟨_, rfl, ⟨m, rfl, ?_⟩, below_setRow HB.out (by omega) _⟩
 rcases HP.out with ⟨rfl, h0⟩ | ⟨mb, rfl, hp⟩
 · exact .inl ⟨rfl, h0⟩
 · refine .inr ⟨mb, rfl, ?_⟩
   have hne : mb ≠ w.heap.size + 1 := fun e => hp.noInt 0 (.map none) (by rw [e, cell?_row r1]; rfl)
   exact hp.same (g := some (w.heap.size + 1)) (same_some _ _ _) (by simpa using fun e => hne e.symm) (fun j hj x => by cases hj; rw [cell?_row r1]; simp)
theorem rgOne_any (w : World) : Calls Tryz.prog 43 #[.agg #[]] w fun e w' => ∃ v', e = .returned v' ∧ PolV w' v' oneP ∧ Below w.heap.size w w' := by
 go_enter Tryz.func43, Tryz.ntmps43
 go_wp2_with fail
 refine (pone_any _).mono ?_
 rintro e w1 ⟨v1, rfl, ⟨m, rfl, hm⟩, hb1⟩
 have r1 := (row?_below hb1 (by simp <;> omega)).trans (row?_alloc_at (w.alloc (.cells #[] 76)) #[Value.map none] 24 (w.heap.size + 1) (by simp <;> omega))
 have hbA : Below w.heap.size w ((w.alloc (.cells #[] 76)).alloc (.cells #[.map none] 24)) := by
   (repeat' (first | (with_reducible first | exact Below.refl _ _ | assumption | refine Below.alloc ?_ ?_ _ | refine Below.drew ?_ | refine Below.setCell ?_ ?_ _ | refine below_setRow ?_ ?_ _ | exact Nat.le_refl _) | omega | (simp; done) | (simp; omega) | (simp at *; omega)))
 have HB := Lib.hid (hbA.trans (hb1.mono hbA.size))
 have HP := Lib.hid hm
 have l1 := row?_lt r1
 clear hb1 hm hbA
 go_wp2_with fail
 refine ret_row (w.heap.size + 1) #[.map m] rfl Tryz.isAgg24 Tryz.sizeOf24 rfl rfl (row?_setRow_same _ _ _ (by rw [r1]; rfl)) rfl ?_
 refine ⟨_, rfl, ⟨m, rfl, ?_⟩, below_setRow HB.out (by omega) _⟩
 rcases HP.out with ⟨rfl, h0⟩ | ⟨mb, rfl, hp⟩
 · exact .inl ⟨rfl, h0⟩
 · refine .inr ⟨mb, rfl, ?_⟩
   have hne : mb ≠ w.heap.size + 1 := fun e => hp.noInt 0 (.map none) (by rw [e, cell?_row r1]; rfl)
   exact hp.same (g := some (w.heap.size + 1)) (same_some _ _ _) (by simpa using fun e => hne e.symm) (fun j hj x => by cases hj; rw [cell?_row r1]; simp)
theorem rgAdd_any (p q : Pol) (vp vq : Value) (w : World) (hp : PolV w vp p) (hq : PolV w vq q) (hf : Fit (wt p + wt q)) (hlen : p.length + q.length ≤ 100000) :
   Calls Tryz.prog 44 #[.agg #[], vp, vq] w fun e w' => ∃ v', e = .returned v' ∧ PolV w' v' (padd p q) ∧ Below w.heap.size w w' := by
 obtain ⟨m1, rfl, hm1⟩ := hp
 obtain ⟨m2, rfl, hm2⟩ := hq
 have HM := Lib.hid fun W (hb : Below w.heap.size w W) => padd_any p q (.agg #[.map m1]) (.agg #[.map m2]) W ⟨m1, rfl, hm1.below hb⟩ ⟨m2, rfl, hm2.below hb⟩ hf hlen
 clear hm1 hm2
 go_enter Tryz.func44, Tryz.ntmps44
 go_wp2_with fail
 refine (HM.out _ ?_).mono ?_
 · (repeat' (first | (with_reducible first | exact Below.refl _ _ | assumption | refine Below.alloc ?_ ?_ _ | refine Below.drew ?_ | refine Below.setCell ?_ ?_ _ | refine below_setRow ?_ ?_ _ | exact Nat.le_refl _) | omega | (simp; done) | (simp; omega) | (simp at *; omega)))
 rintro r w1 ⟨v1, rfl, ⟨m, rfl, hm⟩, hb1⟩
 have r1 := (row?_below hb1 (by simp <;> omega)).trans (row?_alloc_at (((w.alloc (.cells #[] 76)).alloc (.cells #[.map m1] 24)).alloc (.cells #[.map m2] 24)) #[Value.map none] 24 (w.heap.size + 1 + 1 + 1) (by simp <;> omega))
 have hbA : Below w.heap.size w ((((w.alloc (.cells #[] 76)).alloc (.cells #[.map m1] 24)).alloc (.cells #[.map m2] 24)).alloc (.cells #[.map none] 24)) := by
   (repeat' (first | (with_reducible first | exact Below.refl _ _ | assumption | refine Below.alloc ?_ ?_ _ | refine Below.drew ?_ | refine Below.setCell ?_ ?_ _ | refine below_setRow ?_ ?_ _ | exact Nat.le_refl _) | omega | (simp; done) | (simp; omega) | (simp at *; omega)))
 have HB := Lib.hid (hbA.trans (hb1.mono hbA.size))
 have HP := Lib.hid hm
 have l1 := row?_lt r1
 clear hb1 hm hbA
 go_wp2_with fail
 refine ret_row (w.heap.size + 1 + 1 + 1) #[.map m] rfl Tryz.isAgg24 Tryz.sizeOf24 rfl rfl (row?_setRow_same _ _ _ (by rw [r1]; rfl)) rfl ?_
 refine ⟨_, rfl, ⟨m, rfl, ?_⟩, below_setRow HB.out (by omega) _⟩
 rcases HP.out with ⟨rfl, h0⟩ | ⟨mb, rfl, hp⟩
 · exact .inl ⟨rfl, h0⟩
 · refine .inr ⟨mb, rfl, ?_⟩
   have hne : mb ≠ w.heap.size + 1 + 1 + 1 := fun e => hp.noInt 0 (.map none) (by rw [e, cell?_row r1]; rfl)
   exact hp.same (g := some (w.heap.size + 1 + 1 + 1)) (same_some _ _ _) (by simpa using fun e => hne e.symm) (fun j hj x => by cases hj; rw [cell?_row r1]; simp)
theorem rgMul_any (p q : Pol) (vp vq : Value) (w : World) (hp : PolV w vp p) (hq : PolV w vq q) (hf : Fit (wt p * wt q)) (hfp : Fit (wt p)) (hfq : Fit (wt q)) (hlp : p.length ≤ 600) (hlq : q.length ≤ 600) :
   Calls Tryz.prog 45 #[.agg #[], vp, vq] w fun e w' => ∃ v', e = .returned v' ∧ PolV w' v' (pmul p q) ∧ Below w.heap.size w w' := by
 obtain ⟨m1, rfl, hm1⟩ := hp
 obtain ⟨m2, rfl, hm2⟩ := hq
 have HM := Lib.hid fun W (hb : Below w.heap.size w W) => pmul_any p q (.agg #[.map m1]) (.agg #[.map m2]) W ⟨m1, rfl, hm1.below hb⟩ ⟨m2, rfl, hm2.below hb⟩ hf hfp hfq hlp hlq
 clear hm1 hm2
 go_enter Tryz.func45, Tryz.ntmps45
 go_wp2_with fail
 refine (HM.out _ ?_).mono ?_
 · (repeat' (first | (with_reducible first | exact Below.refl _ _ | assumption | refine Below.alloc ?_ ?_ _ | refine Below.drew ?_ | refine Below.setCell ?_ ?_ _ | refine below_setRow ?_ ?_ _ | exact Nat.le_refl _) | omega | (simp; done) | (simp; omega) | (simp at *; omega)))
 rintro r w1 ⟨v1, rfl, ⟨m, rfl, hm⟩, hb1⟩
 have r1 := (row?_below hb1 (by simp <;> omega)).trans (row?_alloc_at (((w.alloc (.cells #[] 76)).alloc (.cells #[.map m1] 24)).alloc (.cells #[.map m2] 24)) #[Value.map none] 24 (w.heap.size + 1 + 1 + 1) (by simp <;> omega))
 have hbA : Below w.heap.size w ((((w.alloc (.cells #[] 76)).alloc (.cells #[.map m1] 24)).alloc (.cells #[.map m2] 24)).alloc (.cells #[.map none] 24)) := by
   (repeat' (first | (with_reducible first | exact Below.refl _ _ | assumption | refine Below.alloc ?_ ?_ _ | refine Below.drew ?_ | refine Below.setCell ?_ ?_ _ | refine below_setRow ?_ ?_ _ | exact Nat.le_refl _) | omega | (simp; done) | (simp; omega) | (simp at *; omega)))
 have HB := Lib.hid (hbA.trans (hb1.mono hbA.size))
 have HP := Lib.hid hm
 have l1 := row?_lt r1
 clear hb1 hm hbA
 go_wp2_with fail
 refine ret_row (w.heap.size + 1 + 1 + 1) #[.map m] rfl Tryz.isAgg24 Tryz.sizeOf24 rfl rfl (row?_setRow_same _ _ _ (by rw [r1]; rfl)) rfl ?_
 refine ⟨_, rfl, ⟨m, rfl, ?_⟩, below_setRow HB.out (by omega) _⟩
 rcases HP.out with ⟨rfl, h0⟩ | ⟨mb, rfl, hp⟩
 · exact .inl ⟨rfl, h0⟩
 · refine .inr ⟨mb, rfl, ?_⟩
   have hne : mb ≠ w.heap.size + 1 + 1 + 1 := fun e => hp.noInt 0 (.map none) (by rw [e, cell?_row r1]; rfl)
   exact hp.same (g := some (w.heap.size + 1 + 1 + 1)) (same_some _ _ _) (by simpa using fun e => hne e.symm) (fun j hj x => by cases hj; rw [cell?_row r1]; simp)
theorem rgSame_any (p q : Pol) (vp vq : Value) (w : World) (hp : PolV w vp p) (hq : PolV w vq q) (hf : Fit (wt p)) :
   Calls Tryz.prog 46 #[.agg #[], vp, vq] w fun e w' => e = .returned (.bool (decide (p = q))) ∧ Below w.heap.size w w' := by
 obtain ⟨m1, rfl, hm1⟩ := hp
 obtain ⟨m2, rfl, hm2⟩ := hq
 have HM := Lib.hid fun W (hb : Below w.heap.size w W) => pequal_any p q (.agg #[.map m1]) (.agg #[.map m2]) W ⟨m1, rfl, hm1.below hb⟩ ⟨m2, rfl, hm2.below hb⟩ hf
 clear hm1 hm2
 obtain ⟨B, hB⟩ : ∃ B, B = decide (p = q) := ⟨_, rfl⟩
 rw [← hB] at HM ⊢
 go_enter Tryz.func46, Tryz.ntmps46
 go_wp2_with fail
 have hbA : Below w.heap.size w (((w.alloc (.cells #[] 76)).alloc (.cells #[.map m1] 24)).alloc (.cells #[.map m2] 24)) := by
   (repeat' (first | (with_reducible first | exact Below.refl _ _ | assumption | refine Below.alloc ?_ ?_ _ | refine Below.drew ?_ | refine Below.setCell ?_ ?_ _ | refine below_setRow ?_ ?_ _ | exact Nat.le_refl _) | omega | (simp; done) | (simp; omega) | (simp at *; omega)))
 refine (HM.out _ hbA).mono ?_
 rintro e w1 ⟨rfl, hb1⟩
 have HB := Lib.hid (hbA.trans (hb1.mono hbA.size))
 clear hb1 hbA hB
 go_wp2_with fail
 go_ret
 exact ⟨rfl, HB.out⟩
end Go.Proofs.YtgnlebnpnpjfmaaGreatDoor
