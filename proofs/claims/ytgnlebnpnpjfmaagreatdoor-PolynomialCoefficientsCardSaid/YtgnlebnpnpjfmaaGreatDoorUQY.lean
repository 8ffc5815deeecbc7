/- Walk of package polynomial: CoefficientsOfY. -/
import Derived.Test.YtgnlebnpnpjfmaaGreatDoorUQX
import Derived.Test.YtgnlebnpnpjfmaaGreatDoorUOu
set_option linter.all false
namespace Go.Proofs.YtgnlebnpnpjfmaaGreatDoor
open Go Go.RowKit Go.Pal Go.Shelf
attribute [local go_sem] Oper.semAt_some
set_option maxRecDepth 100000 in
set_option maxHeartbeats 8000000 in
theorem prow_any (p : Pol) (b : Int) (hb : InI b) (vp : Value) (w : World) (hp : PolV w vp p) :
   Calls Tryz.prog 49 #[vp, .int .i64 b] w fun e w' => ∃ v', e = .returned v' ∧ RowN w' v' (topP p b) (fun i => coefZ p (i : Int) b) ∧ Below w.heap.size w w' := by
 obtain ⟨m1, rfl, hm1⟩ := hp
 have HUP := Lib.hid hm1.upto
 have HPM0 := Lib.hid hm1
 have HIB := Lib.hid hb
 have htop := topP_le hm1.upto b
 obtain ⟨W0, hW0⟩ : ∃ W0, w.alloc (.cells #[.map m1] 24) = W0 := ⟨_, rfl⟩
 have hb0 : Below w.heap.size w W0 := by
   rw [← hW0]
   (repeat' (first | (with_reducible first | exact Below.refl _ _ | assumption | refine Below.alloc ?_ ?_ _ | refine Below.drew ?_ | refine Below.setCell ?_ ?_ _ | refine below_setRow ?_ ?_ _ | exact Nat.le_refl _) | omega | (simp; done) | (simp; omega) | (simp at *; omega)))
 have hs0 : W0.heap.size = w.heap.size + 1 := by rw [← hW0]; simp
 have hr0 : row? W0 w.heap.size = some #[.map m1] := by rw [← hW0]; exact row?_alloc_at _ _ _ _ rfl
 obtain ⟨W1, hr, hR, hb1, hs1⟩ := (hm1.below hb0).range
 rw [hs0] at hr hR hs1
 have hb01 := hb0.trans (hb1.mono hb0.size)
 have hr1 := (row?_below hb1 (row?_lt hr0)).trans hr0
 have hl1 := row?_lt hr1
 have HK := Lib.hid fun W (hs : Same (fun j => j ≠ w.heap.size + 1) W1 W) => show Below w.heap.size w W ∧ row? W w.heap.size = some #[.map m1] from ⟨hb01.trans (hs.below (by omega) fun j hj => by omega), (row?_congr (hs.block _ hl1 (by omega))).trans hr1⟩
 have HR := Lib.hid hR
 have HS1 := Lib.hid hs1
 rw [← hW0] at hr
 clear hm1 hb0 hb1 hb01 hs0 hs1 hR hW0 hr0 hr1 hl1
 go_enter Tryz.func49, Tryz.ntmps49
 go_wp2_with fail
 clear hr
 go_loopw [5] (fun a wi => ∃ rest : Pol, ∃ done : Pol, (done ++ rest).Perm p ∧ a = .int .i64 ((topP done b : Int) - 1) ∧ PRng wi m1 (w.heap.size + 1) p rest ∧ Same (fun j => j ≠ w.heap.size + 1) W1 wi) (fun a wi => minL (fun rest : Pol => ∃ done : Pol, (done ++ rest).Perm p ∧ a = .int .i64 ((topP done b : Int) - 1) ∧ PRng wi m1 (w.heap.size + 1) p rest ∧ Same (fun j => j ≠ w.heap.size + 1) W1 wi) List.length)
 case atStart => exact ⟨p, [], List.Perm.refl _, rfl, HR.out, Same.refl _ _⟩
 case round =>
   obtain ⟨rest, ⟨done, hpm, rfl, hrn, hsm⟩, hmin⟩ := minL_spec (len := List.length) hrel
   have HMIN := Lib.hid hmin
   clear hrel hmin HR
   rcases hrn.next 0 with ⟨rfl, hrun⟩ | ⟨ke, n, hd, r1, r2, wn, rfl, hrun, hrn2, hmem, hnv, hsn, hszn, hen⟩
   · have hpe : topP done b = topP p b := topP_perm (by simpa using hpm) b
     rw [hpe]
     have HP := Lib.hid hpe
     have HB := Lib.hid (HK.out wr hsm).1
     have hrr := (HK.out wr hsm).2
     obtain ⟨T, hTe⟩ : ∃ T, T = topP p b := ⟨_, rfl⟩
     have HT := Lib.hid hTe
     rw [← hTe] at htop ⊢
     clear hpm hrn hsm HMIN hpe hTe
     have HPV := Lib.hid (show PolV wr (.agg #[.map m1]) p from ⟨m1, rfl, HPM0.out.below HB.out⟩)
     have hlr := row?_lt hrr
     go_wp2_with fail
     have HRR := Lib.hid hrr
     clear hrr
     rename World => Wo
     go_loopw [7, 26] (fun x i wi => ∃ (a : Nat) (L : List Sl), a ≤ T ∧ i = .int .i64 (a : Int) ∧ OwnR 49 1 slC Wo.heap.size wi x L ∧ L.length = a ∧ (L = [] → x = .slice none 0 0) ∧ (∀ (q : Nat) s, L[q]? = some s → NatV wi (.agg #[slV s]) (coefZ p (q : Int) b)) ∧ Below Wo.heap.size Wo wi) (fun _ i _ => T - (intOf i).toNat)
     case atStart => exact ⟨0, [], by omega, rfl, OwnR.nil _ _, rfl, fun _ => rfl, by simp, Below.refl _ _⟩
     case round =>
       obtain ⟨a, L, ha, rfl, hO, hLl, hLn, hLs, hbl⟩ := hrel
       obtain ⟨oa, oc, rfl⟩ := hO.sl
       have HO := Lib.hid hO
       have HLS := Lib.hid hLs
       have HLN := Lib.hid hLn
       have HB2 := Lib.hid hbl
       have HLL := Lib.hid hLl
       rw [hLl] at HO HLN ⊢
       have hsz := hbl.size
       have hrw := (row?_below hbl hlr).trans HRR.out
       clear hO hLs hbl hLl hLn
       rcases Nat.lt_or_ge a T with ha2 | ha2
       · have hd1 : decide (a < T) = true := decide_eq_true ha2
         go_wp2_with fail
         refine (pcoef_any p (a : Int) b (by unfold InI; omega) HIB.out _ wr (HPV.out.below HB2.out)).mono ?_
         rintro e w1 ⟨v1, rfl, h1, b1⟩
         obtain ⟨na, nc, rfl, -⟩ := natV_sl h1
         obtain ⟨nl, hnl⟩ : ∃ l, l = (digB 4294967296 (coefZ p (a : Int) b)).length := ⟨_, rfl⟩
         rw [← hnl] at h1 ⊢
         have b1s := b1.size
         have hbA : Below w1.heap.size w1 (w1.alloc (.cells #[.slice na nl nc] 49)) := (Below.refl _ _).alloc (Nat.le_refl _) _
         have bb := b1.trans (hbA.mono b1.size)
         have HOA := Lib.hid (HO.out.below bb (Nat.le_refl _))
         have H1A := Lib.hid (h1.below hbA)
         have HSA := Lib.hid fun (q : Nat) s (hq : L[q]? = some s) => NatV.below (HLS.out q s hq) bb
         have B1 := Lib.hid (HB2.out.trans (bb.mono hsz))
         have HNI := Lib.hid (own_noint elN .u32 HOA.out HLN.out)
         clear h1 b1 hnl hbA bb HO HLS hrw
         go_wp2_with (at_builtin; refine wpList_appO elN 81 Tryz.underlying81 rfl _ _ rfl Wo.heap.size _ L rfl HOA.out _ (na, nl, nc) _ rfl (row?_alloc_at _ _ _ _ (by simp)) (by have := HLL.out; omega) (by simp; omega) ?_)
         intro v5 w5 hO5 hb5 hg5 hl5
         have hs5 := same_grown hg5
         have HF := Lib.hid (show ∀ (q : Nat) s, (L ++ [(na, nl, nc)])[q]? = some s → NatV w5 (.agg #[slV s]) (coefZ p (q : Int) b) from fun q s hq => by
           rcases snoc_at hq with hq | ⟨rfl, rfl⟩
           · exact NatV.same (HSA.out q s hq) hs5 HNI.out
           · rw [HLL.out]
             exact NatV.same H1A.out hs5 HNI.out)
         have HO5 := Lib.hid hO5
         have B5 := Lib.hid (B1.out.trans hb5)
         have HL5 := Lib.hid (show (L ++ [(na, nl, nc)]).length = a + 1 from by simp [HLL.out])
         obtain ⟨oa5, oc5, rfl⟩ := hO5.sl
         clear hO5 hb5 hg5 hl5 hs5 HOA H1A HSA B1 HNI
         go_wp2_with fail
         go_roundw
         case rel => exact ⟨a + 1, _, by omega, by go_num, HO5.out, HL5.out, fun e => by simp at e, HF.out, B5.out⟩
         case measure => simp [intOf]; omega
       · have hd1 : decide (a < T) = false := decide_eq_false (by omega)
         have HTA := Lib.hid (show a = T by omega)
         go_wp2_with fail
         go_ret
         refine ⟨_, rfl, ⟨L, ?_, by rw [HLL.out, ← HT.out, HTA.out], HLS.out⟩, HB.out.trans (HB2.out.mono HB.out.size)⟩
         have h := HO.out.rd elN
         exact h
   · have hrl := hrn.lt
     have hsn2 : Same (fun j => j ≠ w.heap.size + 1) W1 wn := hsm.trans_new hsn fun j hj h => by simp; omega
     obtain ⟨hk1, hk2⟩ := HUP.out _ hmem
     simp only at hk1 hk2
     have hbA : Below wn.heap.size wn (wn.alloc (.cells #[.int .i64 (ke.1 : Int), .int .i64 (ke.2 : Int)] 90)) := (Below.refl _ _).alloc (Nat.le_refl _) _
     obtain ⟨W3, hW3⟩ : ∃ W3, wn.alloc (.cells #[.int .i64 (ke.1 : Int), .int .i64 (ke.2 : Int)] 90) = W3 := ⟨_, rfl⟩
     have q8 : row? W3 wn.heap.size = some #[.int .i64 (ke.1 : Int), .int .i64 (ke.2 : Int)] := by rw [← hW3]; simp [go_sem]
     rw [hW3] at hbA
     have HN0 := Lib.hid (topP_snoc done (ke, n) b)
     have HTD := topP_le (p := done) (m := 2048) (fun x hx => HUP.out x (hpm.subset (by simp [hx]))) b
     have HR' := Lib.hid (show ∀ V : Value, V = .int .i64 ((topP (done ++ [(ke, n)]) b : Int) - 1) → ∃ done' : Pol, (done' ++ (r1 ++ r2)).Perm p ∧ V = .int .i64 ((topP done' b : Int) - 1) ∧ PRng W3 m1 (w.heap.size + 1) p (r1 ++ r2) ∧ Same (fun j => j ≠ w.heap.size + 1) W1 W3 from fun V hV =>
       ⟨done ++ [(ke, n)], (step_perm done r1 r2 (ke, n)).trans hpm, hV, hrn2.below hbA, hsn2.trans ((Same.of_below hbA).mono fun j hj _ => hj)⟩)
     have q0 : W3.cell? ⟨wn.heap.size, 0, none⟩ = some (.int .i64 (ke.1 : Int)) := (cell?_row (i := 0) q8).trans rfl
     have q1 : W3.cell? ⟨wn.heap.size, 1, none⟩ = some (.int .i64 (ke.2 : Int)) := (cell?_row (i := 1) q8).trans rfl
     obtain ⟨T, hTe⟩ : ∃ T, T = topP done b := ⟨_, rfl⟩
     rw [← hTe] at HN0 HTD HMIN ⊢
     clear hpm hrn hsm hsn2 hnv hsn hrn2 hmem hszn q8 hbA hTe htop
     by_cases h2 : (ke.2 : Int) = b
     · have e2 : ((ke.2 : Int) == b) = true := by rw [beq_iff_eq]; exact h2
       have HN := Lib.hid (show ((topP (done ++ [(ke, n)]) b : Nat) : Int) - 1 = max ((T : Int) - 1) (ke.1 : Int) from by rw [HN0.out, if_pos h2]; exact max_int T ke.1)
       clear h2
       go_wp2_with fail
       go_roundw
       case rel => exact ⟨r1 ++ r2, HR'.out _ (by rw [HN.out])⟩
       case measure =>
         refine Nat.lt_of_le_of_lt (minL_le (HR'.out _ (by rw [HN.out]))) ?_
         rw [← HMIN.out]
         simp
     · have e2 : ((ke.2 : Int) == b) = false := by rw [beq_eq_false_iff_ne]; exact h2
       have HN := Lib.hid (show topP (done ++ [(ke, n)]) b = T from by rw [HN0.out, if_neg h2])
       clear h2
       go_wp2_with fail
       go_roundw
       case rel => exact ⟨r1 ++ r2, HR'.out _ (by rw [HN.out])⟩
       case measure =>
         refine Nat.lt_of_le_of_lt (minL_le (HR'.out _ (by rw [HN.out]))) ?_
         rw [← HMIN.out]
         simp
end Go.Proofs.YtgnlebnpnpjfmaaGreatDoor
