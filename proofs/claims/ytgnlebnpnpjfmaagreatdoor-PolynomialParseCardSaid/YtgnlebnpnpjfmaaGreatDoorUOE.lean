/- Walk of package polynomial: DerivativeX. -/
import Derived.Test.YtgnlebnpnpjfmaaGreatDoorUOD
set_option linter.all false
namespace Go.Pal
theorem diffL_append (p q : Pol) : diffL (p ++ q) = diffL p ++ diffL q := List.flatMap_append
theorem diffL_one (k : Ex) (n : Nat) : diffL [(k, n)] = diffT (k, n) := by unfold diffL; simp
theorem diffL_perm {p q : Pol} (h : p.Perm q) : (diffL p).Perm (diffL q) := h.flatMap_right _
theorem diff_step {p done r1 r2 : Pol} {k : Ex} {n : Nat} (hp : Upto 2048 p) (h : (done ++ (r1 ++ (k, n) :: r2)).Perm p) : wt (diffL done) + wt (diffT (k, n)) ≤ wt p * 2048 := by
 have h1 := wt_diffL hp
 rw [← wt_perm (diffL_perm h), diffL_append, diffL_append] at h1
 have h2 : diffL ((k, n) :: r2) = diffT (k, n) ++ diffL r2 := rfl
 rw [h2, wt_append, wt_append, wt_append] at h1
 omega
end Go.Pal
namespace Go.Proofs.YtgnlebnpnpjfmaaGreatDoor
open Go Go.RowKit Go.Pal
set_option maxRecDepth 10000 in
set_option maxHeartbeats 2000000 in
theorem pdiff_any (p : Pol) (vp : Value) (w : World) (hp : PolV w vp p) (hf : Fit (wt p * 2048)) (hlen : p.length ≤ 100000) :
   Calls Tryz.prog 47 #[vp] w fun e w' => ∃ v', e = .returned v' ∧ PolV w' v' (diffP p) ∧ Below w.heap.size w w' := by
 obtain ⟨m1, rfl, hm1⟩ := hp
 have HM := Lib.hid fun W => pmade_any W
 have HF := Lib.hid hf
 have H1 := Lib.hid hm1
 have HL := Lib.hid hlen
 clear hm1 hf hlen
 go_enter Tryz.func47, Tryz.ntmps47
 go_wp2_with fail
 refine (HM.out _).mono ?_
 rintro r w1 ⟨mb, rfl, hp1, hmb, hb1⟩
 have e1 := (row?_below hb1 (by simp)).trans (row?_alloc_at (w.alloc (.cells #[.map m1] 24)) #[Value.map none] 24 (w.heap.size + 1) (by simp))
 have e0 := (row?_below hb1 (by simp <;> omega)).trans ((row?_alloc_past (w.alloc (.cells #[.map m1] 24)) (.cells #[.map none] 24) w.heap.size (by simp)).trans (row?_alloc_at w #[Value.map m1] 24 w.heap.size rfl))
 have hbA : Below w.heap.size w ((w.alloc (.cells #[.map m1] 24)).alloc (.cells #[.map none] 24)) := by
   (repeat' (first | (with_reducible first | exact Below.refl _ _ | assumption | refine Below.alloc ?_ ?_ _ | refine Below.drew ?_ | refine Below.setCell ?_ ?_ _ | refine below_setRow ?_ ?_ _ | exact Nat.le_refl _) | omega | (simp; done) | (simp; omega) | (simp at *; omega)))
 have hb0 := hbA.trans (hb1.mono hbA.size)
 have l0 := row?_lt e0
 have l1 := row?_lt e1
 have hmb2 : w.heap.size + 1 < mb := by simp at hmb; omega
 have hml := hp1.lt
 have c0 : w1.cell? ⟨w.heap.size, 0, none⟩ = some (.map m1) := cell?_row (i := 0) e0
 obtain ⟨g, hg⟩ : ∃ g, g = w1.heap.size := ⟨_, rfl⟩
 have hbG : Below w1.heap.size w1 (w1.alloc (.cells #[.map (some mb)] 24)) := (Below.refl _ _).alloc (Nat.le_refl _) _
 obtain ⟨W1, hr, hR, hb2, hs2⟩ := ((H1.out.below hb0).below hbG).range
 rw [World.size_alloc] at hr hs2 hR
 have hbW := hbG.trans (hb2.mono hbG.size)
 have f5 : row? W1 g = some #[.map (some mb)] := (row?_below hb2 (by rw [hg]; simp)).trans (row?_alloc_at _ _ _ _ hg)
 have f1 := (row?_below hbW l1).trans e1
 have hpW := hp1.below hbW
 have hbw1 := hb0.trans (hbW.mono hb0.size)
 have hlm1 := H1.out.lt
 have HLM := Lib.hid fun (b : Nat) (hb : m1 = some b) => show some mb ≠ some b from fun e => by cases e; have := hlm1 mb hb; omega
 have hgW : g + 1 < W1.heap.size := by omega
 have hmg : mb < g := by omega
 have hgs : w.heap.size + 1 < g := by omega
 have HR2 := Lib.hid hR
 have HP2 := Lib.hid hpW
 have HK1 := Lib.hid fun W (hs : Same (fun j => j ≠ mb ∧ j ≠ g + 1) W1 W) => show Below w.heap.size w W from hbw1.trans (hs.below hbw1.size fun j hj => by omega)
 have HC1 := Lib.hid fun W (hs : Same (fun j => j ≠ mb ∧ j ≠ g + 1) W1 W) => show row? W g = some #[.map (some mb)] ∧ row? W (w.heap.size + 1) = some #[.map none] from
   ⟨(row?_congr (hs.block _ (by omega) (by omega))).trans f5, (row?_congr (hs.block _ (by omega) (by omega))).trans f1⟩
 have HCN := Lib.hid H1.out.canon
 have HUP := Lib.hid H1.out.upto
 rw [← hg] at HR2 hr
 have HG := Lib.hid hg
 clear hb1 hb0 hbA e0 e1 hp1 hmb HM hbG hR hb2 hs2 hbW f5 f1 hpW hbw1 hlm1 hml hg
 go_wp2_with fail
 rw [← HG.out]
 clear hr c0
 go_loopw [10] (fun _ wi => ∃ rest : Pol, ∃ done : Pol, (done ++ rest).Perm p ∧ PMap wi mb (padd [] (diffL done)) ∧ PRng wi m1 (g + 1) p rest ∧ Same (fun j => j ≠ mb ∧ j ≠ g + 1) W1 wi) (fun _ wi => minL (fun rest : Pol => ∃ done : Pol, (done ++ rest).Perm p ∧ PMap wi mb (padd [] (diffL done)) ∧ PRng wi m1 (g + 1) p rest ∧ Same (fun j => j ≠ mb ∧ j ≠ g + 1) W1 wi) List.length)
 case atStart => exact ⟨p, [], List.Perm.refl _, HP2.out, HR2.out, Same.refl _ _⟩
 case round =>
   obtain ⟨rest, ⟨done, hpm, hpp, hrn, hsm⟩, hmin⟩ := minL_spec (len := List.length) hrel
   have HMIN := Lib.hid hmin
   clear hrel hmin HP2 HR2
   rcases hrn.next 0 with ⟨rfl, hrun⟩ | ⟨ke, n, hd, r1, r2, wn, rfl, hrun, hrn2, hmem, hnv, hsn, hszn, hen⟩
   · have hpe : padd [] (diffL done) = diffP p := padd_perm Canon.nil (diffL_perm (by simpa using hpm))
     rw [hpe] at hpp
     obtain ⟨g5, g1⟩ := HC1.out wr hsm
     have HPE := Lib.hid hpp
     have HB := Lib.hid (HK1.out wr hsm)
     have l5 := row?_lt g1
     clear hpm hpp hrn hsm HMIN hpe
     go_wp2_with fail
     refine ret_row (w.heap.size + 1) #[.map (some mb)] rfl Tryz.isAgg24 Tryz.sizeOf24 rfl rfl (row?_setRow_same _ _ _ (by rw [g1]; rfl)) rfl ?_
     refine ⟨_, rfl, ⟨some mb, rfl, .inr ⟨mb, rfl, ?_⟩⟩, below_setRow HB.out (by omega) _⟩
     exact HPE.out.same (g := some (w.heap.size + 1)) (same_some _ _ _) (by simp <;> omega) (fun j hj x => by cases hj; rw [cell?_row g1]; simp)
   · have hrl := hrn.lt
     have hsn2 : Same (fun j => j ≠ mb ∧ j ≠ g + 1) W1 wn := hsm.trans_new hsn fun j hj h => by simp; omega
     obtain ⟨g5, -⟩ := HC1.out wn hsn2
     have gl5 := row?_lt g5
     have hpn : PMap wn mb (padd [] (diffL done)) := hpp.same hsn (by simp; omega) (fun j hj x => by cases hj; exact hrn.noInt 0 _)
     have hwt := diff_step HUP.out hpm
     have hcl := coef_le (padd [] (diffL done)) (ke.1 - 1, ke.2)
     have hwp := wt_padd [] (diffL done)
     have hw0 : wt ([] : Pol) = 0 := rfl
     have hln := padd_len [] (diffL done)
     have hln2 := diffL_len done
     have hdl := hpm.length_eq
     have hnw := wt_mem hmem
     have hLD : (padd [] (diffL done)).length < 1000000 := by have := HL.out; simp at hdl hln; omega
     obtain ⟨hk1, hk2⟩ := HUP.out _ hmem
     simp only at hk1 hk2 hnw
     have hfn : Fit n := HF.out.mono (by omega)
     obtain ⟨qa, qn, qc, hq⟩ := hdr_sl hd
     unfold hdrV at hnv
     rw [hq] at hrun hen hnv
     have hbA : Below wn.heap.size wn ((wn.alloc (.cells #[.int .i64 (ke.1 : Int), .int .i64 (ke.2 : Int)] 90)).alloc (.cells #[.slice qa qn qc] 49)) := ((Below.refl _ _).alloc (Nat.le_refl _) _).alloc (by simp) _
     obtain ⟨W3, hW3⟩ : ∃ W3, (wn.alloc (.cells #[.int .i64 (ke.1 : Int), .int .i64 (ke.2 : Int)] 90)).alloc (.cells #[.slice qa qn qc] 49) = W3 := ⟨_, rfl⟩
     have q8 : row? W3 wn.heap.size = some #[.int .i64 (ke.1 : Int), .int .i64 (ke.2 : Int)] := by rw [← hW3]; simp [go_sem]
     have q9 : row? W3 (wn.heap.size + 1) = some #[.slice qa qn qc] := by rw [← hW3]; simp [go_sem]
     rw [hW3] at hbA
     have q5 := (row?_below hbA gl5).trans g5
     have HNV := Lib.hid (hnv.below hbA)
     have HPN := Lib.hid (hpn.below hbA)
     have HRN := Lib.hid (hrn2.below hbA)
     have HSN := Lib.hid (hsn2.trans ((Same.of_below hbA).mono fun j hj _ => hj))
     have HPM := Lib.hid hpm
     have HQ := Lib.hid fun W (hb : Below W3.heap.size W3 W) => show row? W g = some #[.map (some mb)] ∧ row? W (wn.heap.size + 1) = some #[.slice qa qn qc] ∧ W.cell? ⟨wn.heap.size, 0, none⟩ = some (.int .i64 (ke.1 : Int)) ∧ W.cell? ⟨wn.heap.size, 1, none⟩ = some (.int .i64 (ke.2 : Int)) from
       ⟨(row?_below hb (row?_lt q5)).trans q5, (row?_below hb (row?_lt q9)).trans q9, (cell?_row (i := 0) ((row?_below hb (row?_lt q8)).trans q8)).trans rfl, (cell?_row (i := 1) ((row?_below hb (row?_lt q8)).trans q8)).trans rfl⟩
     have HW3 := Lib.hid hW3
     have hdd : diffL (done ++ [(ke, n)]) = diffL done ++ diffT (ke, n) := by rw [diffL_append, diffL_one]
     by_cases hz : ke.1 = 0
     · have hdt : diffT (ke, n) = [] := by unfold diffT; rw [if_pos hz]
       rw [hdt, List.append_nil] at hdd
       have HDD := Lib.hid hdd
       have HZ := Lib.hid hz
       have hd0 : decide (0 < ke.1) = false := decide_eq_false (by omega)
       have HR' := Lib.hid (show ∃ done' : Pol, (done' ++ (r1 ++ r2)).Perm p ∧ PMap W3 mb (padd [] (diffL done')) ∧ PRng W3 m1 (g + 1) p (r1 ++ r2) ∧ Same (fun j => j ≠ mb ∧ j ≠ g + 1) W1 W3 from
         ⟨done ++ [(ke, n)], (step_perm done r1 r2 (ke, n)).trans HPM.out, by rw [HDD.out]; exact HPN.out, HRN.out, HSN.out⟩)
       clear hpm hpp hrn hsm hsn2 hpn hnv hsn hrn2 hq hwt hcl hwp hln hdl hmem hszn hW3 q8 q9 q5 hdd hdt hz hw0 hln2 hnw hfn
       go_wp2_with fail
       rw [HW3.out]
       go_roundw
       case rel => exact ⟨r1 ++ r2, HR'.out⟩
       case measure =>
         refine Nat.lt_of_le_of_lt (minL_le HR'.out) ?_
         rw [← HMIN.out]
         simp
     · have hdt : diffT (ke, n) = [((ke.1 - 1, ke.2), n * ke.1)] := by unfold diffT; rw [if_neg hz]
       rw [hdt] at hdd hwt
       have hw1 : wt [((ke.1 - 1, ke.2), n * ke.1)] = n * ke.1 := by unfold wt; simp [lin]
       rw [hw1] at hwt
       have HFT := Lib.hid (show Fit (coefP (padd [] (diffL done)) (ke.1 - 1, ke.2) + n * ke.1) from HF.out.mono (by omega))
       have HDD := Lib.hid hdd
       have HFN := Lib.hid hfn
       have hd0 : decide (0 < ke.1) = true := decide_eq_true (by omega)
       have hm1 : (ke.1 : Int) - 1 = ((ke.1 - 1 : Nat) : Int) := by omega
       have HM1 := Lib.hid hm1
       have HKK := Lib.hid (show (ke.1 - 1, ke.2).1 ≤ 2048 ∧ (ke.1 - 1, ke.2).2 ≤ 2048 from ⟨by show ke.1 - 1 ≤ 2048; omega, hk2⟩)
       clear hpm hpp hrn hsm hsn2 hpn hnv hsn hrn2 hq hwt hcl hwp hln hdl hmem hszn hW3 q8 q9 q5 hdd hdt hz hw0 hln2 hnw hfn hw1 hm1
       go_wp2_with fail
       rw [HW3.out]
       clear HW3 hen hrun
       refine wp_region_mix (fun W => Below W3.heap.size W3 W) 13 [(0, true), (1, true), (2, true), (3, true), (4, true), (5, true), (6, true), (7, true), (8, true), (9, true), (10, true), (11, false), (12, false)] (by kernel_rfl) (by kernel_rfl) (Below.refl _ _).drew ?_
       repeat (apply wpPlan_still rfl rfl; (intro w hw; obtain ⟨k1, k2, k3, k4⟩ := HQ.out w hw; clear hw; go_simp; (try go_ints); (first | with_reducible rfl | (go_simp; with_reducible rfl))); (intro K hK; go_simp; (try go_ints); refine hK _ _ ?_; clear hK K))
       apply wpPlan_act rfl rfl
       intro K hK
       unfold Oper.wp
       go_simp
       refine (nfrom_any ke.1 (by omega) _).mono ?_
       rintro e wa ⟨va, rfl, hva, hba⟩
       have hb3 : Below W3.heap.size W3 wa := (Below.refl _ _).drew.trans hba
       refine hK _ _ hb3 ?_
       clear hK K hba
       have HVA := Lib.hid hva
       have HBA := Lib.hid hb3
       clear hva hb3
       apply wpPlan_act rfl rfl
       intro K hK
       unfold Oper.wp
       go_simp
       refine (nmul_any _ _ _ _ _ (HNV.out.below HBA.out) HVA.out HFN.out (fit_small (by omega))).mono ?_
       rintro e wb ⟨vb, rfl, hvb, hbb⟩
       have hb4 : Below W3.heap.size W3 wb := HBA.out.trans (hbb.mono HBA.out.size)
       refine hK _ _ hb4 ?_
       clear hK K hbb
       have HVB := Lib.hid hvb
       have HBB := Lib.hid hb4
       clear hvb hb4
       refine wpPlan_nil ?_
       simp only [List.drop_succ_cons, List.drop_zero]
       go_wp2_with fail
       rw [HM1.out]
       have HPB := Lib.hid (HPN.out.below HBB.out)
       refine (pwith_any mb (padd [] (diffL done)) (ke.1 - 1, ke.2) HKK.out (n * ke.1) vb wb HPB.out HVB.out HFT.out hLD).mono ?_
       rintro e w4 ⟨rfl, hp4, hs4⟩
       have hs5 : Same (fun j => j ≠ mb ∧ j ≠ g + 1) W1 w4 := HSN.out.trans (((Same.of_below HBB.out).mono fun j hj _ => hj).trans (hs4.mono fun j _ h => h.1))
       have hR4 : PRng w4 m1 (g + 1) p (r1 ++ r2) := (HRN.out.below HBB.out).same (g := some mb) (hs4.mono fun j _ hj e => hj (by rw [e])) (by simp; omega) HLM.out (fun j hj x => by cases hj; exact HPB.out.noInt 0 _)
       have HR' := Lib.hid (show ∃ done' : Pol, (done' ++ (r1 ++ r2)).Perm p ∧ PMap w4 mb (padd [] (diffL done')) ∧ PRng w4 m1 (g + 1) p (r1 ++ r2) ∧ Same (fun j => j ≠ mb ∧ j ≠ g + 1) W1 w4 from
         ⟨done ++ [(ke, n)], (step_perm done r1 r2 (ke, n)).trans HPM.out, by rw [HDD.out, padd_append]; exact hp4, hR4, hs5⟩)
       clear hp4 hs4 hR4 hs5 HPB
       go_wp2_with fail
       go_roundw
       case rel => exact ⟨r1 ++ r2, HR'.out⟩
       case measure =>
         refine Nat.lt_of_le_of_lt (minL_le HR'.out) ?_
         rw [← HMIN.out]
         simp
end Go.Proofs.YtgnlebnpnpjfmaaGreatDoor
