/- Walk of package polynomial: Mul. -/
import Derived.Test.YtgnlebnpnpjfmaaGreatDoorUOE
set_option linter.all false
namespace Go.Pal
theorem prodL_append (p r q : Pol) : prodL (p ++ r) q = prodL p q ++ prodL r q := List.flatMap_append
theorem prodL_one (x : Ex × Nat) (q : Pol) : prodL [x] q = prodT x q := by unfold prodL; simp
theorem prodL_perm {p r : Pol} (h : p.Perm r) (q : Pol) : (prodL p q).Perm (prodL r q) := h.flatMap_right _
theorem prodT_append (x : Ex × Nat) (q r : Pol) : prodT x (q ++ r) = prodT x q ++ prodT x r := List.flatMap_append
theorem prodT_perm (x : Ex × Nat) {q r : Pol} (h : q.Perm r) : (prodT x q).Perm (prodT x r) := h.flatMap_right _
theorem prodT_one (x : Ex × Nat) (k : Ex) (n : Nat) : prodT x [(k, n)] = if okX (addX x.1 k) then [(addX x.1 k, x.2 * n)] else [] := by unfold prodT; simp
theorem wt_prodT (x : Ex × Nat) (q : Pol) : wt (prodT x q) ≤ x.2 * wt q := by
 have h := wt_prodL [x] q
 rw [prodL_one] at h
 have : wt [x] = x.2 := by unfold wt; simp [lin]
 rwa [this] at h
theorem mul_step {p q dp dq r1 r2 s1 s2 : Pol} {k l : Ex} {n m : Nat} (hp : (dp ++ (r1 ++ (k, n) :: r2)).Perm p) (hq : (dq ++ (s1 ++ (l, m) :: s2)).Perm q) : wt (prodL dp q) + wt (prodT (k, n) dq) + n * m ≤ wt p * wt q := by
 have h1 := wt_prodL dp q
 have h2 := wt_prodT (k, n) dq
 have h3 := wt_step hp
 have h4 := wt_step hq
 have h5 : n * (wt dq + m) ≤ n * wt q := Nat.mul_le_mul (Nat.le_refl _) h4
 have h6 : (wt dp + n) * wt q ≤ wt p * wt q := Nat.mul_le_mul h3 (Nat.le_refl _)
 rw [Nat.mul_add] at h5
 rw [Nat.add_mul] at h6
 simp only at h2
 omega
theorem mul_len {p q dp dq r1 r2 s1 s2 : Pol} {k l : Ex} {n m : Nat} (hp : (dp ++ (r1 ++ (k, n) :: r2)).Perm p) (hq : (dq ++ (s1 ++ (l, m) :: s2)).Perm q) (h1 : p.length ≤ 600) (h2 : q.length ≤ 600) : (padd [] (prodL dp q ++ prodT (k, n) dq)).length < 1000000 := by
 have a := padd_len [] (prodL dp q ++ prodT (k, n) dq)
 have b := prodL_len dp q
 have c := prodT_len (k, n) dq
 have d := hp.length_eq
 have e := hq.length_eq
 have f : dp.length * q.length ≤ 600 * 600 := Nat.mul_le_mul (by simp at d; omega) h2
 rw [List.length_append] at a
 simp at a d e
 omega
end Go.Pal
namespace Go.Proofs.YtgnlebnpnpjfmaaGreatDoor
open Go Go.RowKit Go.Pal
set_option maxRecDepth 10000 in
set_option maxHeartbeats 4000000 in
theorem pmul_any (p q : Pol) (vp vq : Value) (w : World) (hp : PolV w vp p) (hq : PolV w vq q) (hf : Fit (wt p * wt q)) (hfp : Fit (wt p)) (hfq : Fit (wt q)) (hlp : p.length ≤ 600) (hlq : q.length ≤ 600) :
   Calls Tryz.prog 20 #[vp, vq] w fun e w' => ∃ v', e = .returned v' ∧ PolV w' v' (pmul p q) ∧ Below w.heap.size w w' := by
 obtain ⟨m1, rfl, hm1⟩ := hp
 obtain ⟨m2, rfl, hm2⟩ := hq
 have HM := Lib.hid fun W => pmade_any W
 have HF := Lib.hid (And.intro hf (And.intro hfp hfq))
 have H1 := Lib.hid hm1
 have H2 := Lib.hid hm2
 have HL := Lib.hid (And.intro hlp hlq)
 clear hm1 hm2 hf hfp hfq hlp hlq
 go_enter Tryz.func20, Tryz.ntmps20
 go_wp2_with fail
 refine (HM.out _).mono ?_
 rintro r w1 ⟨mb, rfl, hp1, hmb, hb1⟩
 have e2 := (row?_below hb1 (by simp)).trans (row?_alloc_at ((w.alloc (.cells #[.map m1] 24)).alloc (.cells #[.map m2] 24)) #[Value.map none] 24 (w.heap.size + 1 + 1) (by simp))
 have e1 := (row?_below hb1 (by simp <;> omega)).trans ((row?_alloc_past ((w.alloc (.cells #[.map m1] 24)).alloc (.cells #[.map m2] 24)) (.cells #[.map none] 24) (w.heap.size + 1) (by simp)).trans (row?_alloc_at (w.alloc (.cells #[.map m1] 24)) #[Value.map m2] 24 (w.heap.size + 1) (by simp)))
 have e0 := (row?_below hb1 (by simp <;> omega)).trans ((row?_alloc_past ((w.alloc (.cells #[.map m1] 24)).alloc (.cells #[.map m2] 24)) (.cells #[.map none] 24) w.heap.size (by simp <;> omega)).trans ((row?_alloc_past _ _ w.heap.size (by simp)).trans (row?_alloc_at w #[Value.map m1] 24 w.heap.size rfl)))
 have hbA : Below w.heap.size w (((w.alloc (.cells #[.map m1] 24)).alloc (.cells #[.map m2] 24)).alloc (.cells #[.map none] 24)) := by
   (repeat' (first | (with_reducible first | exact Below.refl _ _ | assumption | refine Below.alloc ?_ ?_ _ | refine Below.drew ?_ | refine Below.setCell ?_ ?_ _ | refine below_setRow ?_ ?_ _ | exact Nat.le_refl _) | omega | (simp; done) | (simp; omega) | (simp at *; omega)))
 have hb0 := hbA.trans (hb1.mono hbA.size)
 have l0 := row?_lt e0
 have l1 := row?_lt e1
 have l2 := row?_lt e2
 have hmb2 : w.heap.size + 1 + 1 < mb := by simp at hmb; omega
 have hml := hp1.lt
 have c0 : w1.cell? ⟨w.heap.size, 0, none⟩ = some (.map m1) := cell?_row (i := 0) e0
 obtain ⟨g, hg⟩ : ∃ g, g = w1.heap.size := ⟨_, rfl⟩
 have hbG : Below w1.heap.size w1 (w1.alloc (.cells #[.map (some mb)] 24)) := (Below.refl _ _).alloc (Nat.le_refl _) _
 obtain ⟨W1, hr, hR, hb2, hs2⟩ := ((H1.out.below hb0).below hbG).range
 rw [World.size_alloc] at hr hs2 hR
 have hbW := hbG.trans (hb2.mono hbG.size)
 have f5 : row? W1 g = some #[.map (some mb)] := (row?_below hb2 (by rw [hg]; simp)).trans (row?_alloc_at _ _ _ _ hg)
 have f1 := (row?_below hbW l1).trans e1
 have f2 := (row?_below hbW l2).trans e2
 have hpW := hp1.below hbW
 have hbw1 := hb0.trans (hbW.mono hb0.size)
 have hlm1 := H1.out.lt
 have hlm2 := H2.out.lt
 have HLT1 := Lib.hid hlm1
 have HLM1 := Lib.hid fun (b : Nat) (hb : m1 = some b) => show some mb ≠ some b from fun e => by cases e; have := hlm1 mb hb; omega
 have HLM2 := Lib.hid fun (b : Nat) (hb : m2 = some b) => show some mb ≠ some b from fun e => by cases e; have := hlm2 mb hb; omega
 have hgW : g + 1 < W1.heap.size := by omega
 have hmg : mb < g := by omega
 have hgs : w.heap.size + 1 + 1 < g := by omega
 have HR2 := Lib.hid hR
 have HP2 := Lib.hid hpW
 have HK1 := Lib.hid fun W (hs : Same (fun j => j ≠ mb ∧ j ≠ g + 1) W1 W) => show Below w.heap.size w W from hbw1.trans (hs.below hbw1.size fun j hj => by omega)
 have HC1 := Lib.hid fun W (hs : Same (fun j => j ≠ mb ∧ j ≠ g + 1) W1 W) => show row? W g = some #[.map (some mb)] ∧ row? W (w.heap.size + 1 + 1) = some #[.map none] ∧ W.cell? ⟨w.heap.size + 1, 0, none⟩ = some (.map m2) from
   ⟨(row?_congr (hs.block _ (by omega) (by omega))).trans f5, (row?_congr (hs.block _ (by omega) (by omega))).trans f2, cell?_row (i := 0) ((row?_congr (hs.block _ (by omega) (by omega))).trans f1)⟩
 rw [← hg] at HR2 hr
 have HG := Lib.hid hg
 have HUP1 := Lib.hid H1.out.upto
 have HUP2 := Lib.hid H2.out.upto
 clear hb1 hb0 hbA e0 e1 e2 hp1 hmb HM hbG hR hb2 hs2 hbW f5 f1 f2 hpW hbw1 hlm1 hlm2 hml hg l1 l2
 go_wp2_with fail
 rw [← HG.out]
 clear hr c0 l0
 go_loopw [15] (fun _ wi => ∃ rest : Pol, ∃ done : Pol, (done ++ rest).Perm p ∧ PMap wi mb (padd [] (prodL done q)) ∧ PRng wi m1 (g + 1) p rest ∧ Same (fun j => j ≠ mb ∧ j ≠ g + 1) W1 wi) (fun _ wi => minL (fun rest : Pol => ∃ done : Pol, (done ++ rest).Perm p ∧ PMap wi mb (padd [] (prodL done q)) ∧ PRng wi m1 (g + 1) p rest ∧ Same (fun j => j ≠ mb ∧ j ≠ g + 1) W1 wi) List.length)
 case atStart => exact ⟨p, [], List.Perm.refl _, HP2.out, HR2.out, Same.refl _ _⟩
 case round =>
   obtain ⟨rest, ⟨done, hpm, hpp, hrn, hsm⟩, hmin⟩ := minL_spec (len := List.length) hrel
   have HMIN := Lib.hid hmin
   clear hrel hmin HP2 HR2
   rcases hrn.next 0 with ⟨rfl, hrun⟩ | ⟨ke, n, hd, r1, r2, wn, rfl, hrun, hrn2, hmem, hnv, hsn, hszn, hen⟩
   · have hpe : padd [] (prodL done q) = pmul p q := padd_perm Canon.nil (prodL_perm (by simpa using hpm) q)
     rw [hpe] at hpp
     obtain ⟨g5, g1, -⟩ := HC1.out wr hsm
     have HPE := Lib.hid hpp
     have HB := Lib.hid (HK1.out wr hsm)
     have l5 := row?_lt g1
     clear hpm hpp hrn hsm HMIN hpe
     go_wp2_with fail
     refine ret_row (w.heap.size + 1 + 1) #[.map (some mb)] rfl Tryz.isAgg24 Tryz.sizeOf24 rfl rfl (row?_setRow_same _ _ _ (by rw [g1]; rfl)) rfl ?_
     refine ⟨_, rfl, ⟨some mb, rfl, .inr ⟨mb, rfl, ?_⟩⟩, below_setRow HB.out (by omega) _⟩
     exact HPE.out.same (g := some (w.heap.size + 1 + 1)) (same_some _ _ _) (by simp <;> omega) (fun j hj x => by cases hj; rw [cell?_row g1]; simp)
   · have hrl := hrn.lt
     have hsn2 : Same (fun j => j ≠ mb ∧ j ≠ g + 1) W1 wn := hsm.trans_new hsn fun j hj h => by simp; omega
     have hpn : PMap wn mb (padd [] (prodL done q)) := hpp.same hsn (by simp; omega) (fun j hj x => by cases hj; exact hrn.noInt 0 _)
     obtain ⟨hk1, hk2⟩ := HUP1.out _ hmem
     have hnw := wt_mem hmem
     simp only at hk1 hk2 hnw
     obtain ⟨qa, qn, qc, hq⟩ := hdr_sl hd
     unfold hdrV at hnv
     rw [hq] at hrun hen hnv
     have hbA : Below wn.heap.size wn ((wn.alloc (.cells #[.int .i64 (ke.1 : Int), .int .i64 (ke.2 : Int)] 90)).alloc (.cells #[.slice qa qn qc] 49)) := ((Below.refl _ _).alloc (Nat.le_refl _) _).alloc (by simp) _
     have l3 : w.heap.size + 1 < wn.heap.size := by have := hsn2.size; omega
     obtain ⟨W3, hW3⟩ : ∃ W3, (wn.alloc (.cells #[.int .i64 (ke.1 : Int), .int .i64 (ke.2 : Int)] 90)).alloc (.cells #[.slice qa qn qc] 49) = W3 := ⟨_, rfl⟩
     have q8 : row? W3 wn.heap.size = some #[.int .i64 (ke.1 : Int), .int .i64 (ke.2 : Int)] := by rw [← hW3]; simp [go_sem]
     have q9 : row? W3 (wn.heap.size + 1) = some #[.slice qa qn qc] := by rw [← hW3]; simp [go_sem]
     have hs3 : W3.heap.size = wn.heap.size + 1 + 1 := by rw [← hW3]; simp
     rw [hW3] at hbA
     have hsn3 : Same (fun j => j ≠ mb ∧ j ≠ g + 1) W1 W3 := hsn2.trans ((Same.of_below hbA).mono fun j hj _ => hj)
     obtain ⟨W4, hr, hR, hb4, hs4⟩ := (H2.out.below (HK1.out W3 hsn3)).range
     have q3 := (HC1.out W3 hsn3).2.2
     rw [← hW3] at hr q3
     simp only [World.size_alloc] at hr
     rw [hs3] at hR hs4
     obtain ⟨b, hbb⟩ : ∃ b, b = wn.heap.size := ⟨_, rfl⟩
     rw [← hbb] at hr hR hs4 q8 q9
     have hb34 := hbA.trans (hb4.mono hbA.size)
     have hsn4 : Same (fun j => j ≠ mb ∧ j ≠ g + 1) W1 W4 := hsn2.trans ((Same.of_below hb34).mono fun j hj _ => hj)
     have hgb : g + 1 < b := by have := hsn2.size; omega
     have hW1b : W1.heap.size ≤ b := by have := hsn2.size; omega
     have q8' := (row?_below hb4 (row?_lt q8)).trans q8
     have q9' := (row?_below hb4 (row?_lt q9)).trans q9
     have q5' := (HC1.out W4 hsn4).1
     have hbw4 : b + 1 + 1 < W4.heap.size := by omega
     have HNV := Lib.hid (hnv.below hb34)
     have HPN := Lib.hid (hpn.below hb34)
     have HRN := Lib.hid (hrn2.below hb34)
     have HSN := Lib.hid hsn4
     have HR4 := Lib.hid hR
     have HPM := Lib.hid hpm
     have HC4 := Lib.hid fun W (hs : Same (fun j => j ≠ mb ∧ j ≠ b + 1 + 1) W4 W) => show row? W g = some #[.map (some mb)] ∧ row? W b = some #[.int .i64 (ke.1 : Int), .int .i64 (ke.2 : Int)] ∧ row? W (b + 1) = some #[.slice qa qn qc] from
       ⟨(row?_congr (hs.block _ (by omega) (by omega))).trans q5', (row?_congr (hs.block _ (by omega) (by omega))).trans q8', (row?_congr (hs.block _ (by omega) (by omega))).trans q9'⟩
     have HBB := Lib.hid hbb
     have HNW := Lib.hid hnw
     clear hpm hpp hrn hsm hsn2 hpn hnv hsn hrn2 hq hszn hW3 q8 q9 hs3 hsn3 hR hb4 hs4 hb34 hsn4 q8' q9' q5' hbA hnw hmem hbb
     go_wp2_with fail
     rw [← HBB.out]
     clear hr q3 hen hrun
     go_loopw [23] (fun _ wi => ∃ rest : Pol, ∃ dq : Pol, (dq ++ rest).Perm q ∧ PMap wi mb (padd [] (prodL done q ++ prodT (ke, n) dq)) ∧ PRng wi m2 (b + 1 + 1) q rest ∧ PRng wi m1 (g + 1) p (r1 ++ r2) ∧ NatV wi (.agg #[.slice qa qn qc]) n ∧ Same (fun j => j ≠ mb ∧ j ≠ b + 1 + 1) W4 wi) (fun _ wi => minL (fun rest : Pol => ∃ dq : Pol, (dq ++ rest).Perm q ∧ PMap wi mb (padd [] (prodL done q ++ prodT (ke, n) dq)) ∧ PRng wi m2 (b + 1 + 1) q rest ∧ PRng wi m1 (g + 1) p (r1 ++ r2) ∧ NatV wi (.agg #[.slice qa qn qc]) n ∧ Same (fun j => j ≠ mb ∧ j ≠ b + 1 + 1) W4 wi) List.length)
     case atStart => exact ⟨q, [], List.Perm.refl _, by rw [show prodT (ke, n) [] = [] from rfl, List.append_nil]; exact HPN.out, HR4.out, HRN.out, HNV.out, Same.refl _ _⟩
     case round =>
       obtain ⟨rest2, ⟨dq, hqm, hqp, hqn, hqo, hqv, hqs⟩, hmin2⟩ := minL_spec (len := List.length) hrel
       have HMIN2 := Lib.hid hmin2
       clear hrel hmin2 HPN HR4 HRN HNV
       rcases hqn.next 0 with ⟨rfl, hrun⟩ | ⟨le, m, hd2, s1, s2, wn2, rfl, hrun, hqn2, hmem2, hmv, hsq, hszq, hen⟩
       · have hqe : padd [] (prodL done q ++ prodT (ke, n) dq) = padd [] (prodL (done ++ [(ke, n)]) q) := by
           rw [prodL_append, prodL_one]
           exact padd_perm Canon.nil (List.Perm.append_left _ (prodT_perm _ (by simpa using hqm)))
         rw [hqe] at hqp
         have HR' := Lib.hid (show ∃ done' : Pol, (done' ++ (r1 ++ r2)).Perm p ∧ PMap wr mb (padd [] (prodL done' q)) ∧ PRng wr m1 (g + 1) p (r1 ++ r2) ∧ Same (fun j => j ≠ mb ∧ j ≠ g + 1) W1 wr from
           ⟨done ++ [(ke, n)], (step_perm done r1 r2 (ke, n)).trans HPM.out, hqp, hqo, HSN.out.trans_new hqs fun j hj h => by omega⟩)
         clear hqm hqp hqn hqo hqv hqs HMIN2 hqe
         go_wp2_with fail
         go_roundw
         case rel => exact ⟨r1 ++ r2, HR'.out⟩
         case measure =>
           refine Nat.lt_of_le_of_lt (minL_le HR'.out) ?_
           rw [← HMIN.out]
           simp
       · have hql := hqn.lt
         have hsq2 : Same (fun j => j ≠ mb ∧ j ≠ b + 1 + 1) W4 wn2 := hqs.trans_new hsq fun j hj h => by simp; omega
         obtain ⟨g5, gb, gn⟩ := HC4.out wn2 hsq2
         have hqpn : PMap wn2 mb (padd [] (prodL done q ++ prodT (ke, n) dq)) := hqp.same hsq (by simp; omega) (fun j hj x => by cases hj; exact hqn.noInt 0 _)
         have hqon : PRng wn2 m1 (g + 1) p (r1 ++ r2) := hqo.same hsq (by simp; omega) (fun mb' hm' e => by cases e; have := HLT1.out _ hm'; omega) (fun j hj x => by cases hj; exact hqn.noInt 0 _)
         have hwt := mul_step HPM.out hqm
         have hln := mul_len HPM.out hqm HL.out.1 HL.out.2
         obtain ⟨hl1, hl2⟩ := HUP2.out _ hmem2
         have hmw := wt_mem hmem2
         simp only at hl1 hl2 hmw
         obtain ⟨qa2, qn2, qc2, hq2⟩ := hdr_sl hd2
         unfold hdrV at hmv
         rw [hq2] at hrun hen hmv
         have hbn2 : b + 1 + 1 < wn2.heap.size := by have := hsq2.size; omega
         obtain ⟨W5, hW5⟩ : ∃ W5, ((wn2.alloc (.cells #[.int .i64 (le.1 : Int), .int .i64 (le.2 : Int)] 90)).alloc (.cells #[.slice qa2 qn2 qc2] 49)).alloc (.cells #[.int .i64 ((ke.1 : Int) + (le.1 : Int)), .int .i64 ((ke.2 : Int) + (le.2 : Int))] 90) = W5 := ⟨_, rfl⟩
         have hbA : Below wn2.heap.size wn2 W5 := by
           rw [← hW5]
           (repeat' (first | (with_reducible first | exact Below.refl _ _ | assumption | refine Below.alloc ?_ ?_ _ | refine Below.drew ?_ | refine Below.setCell ?_ ?_ _ | refine below_setRow ?_ ?_ _ | exact Nat.le_refl _) | omega | (simp; done) | (simp; omega) | (simp at *; omega)))
         have q9 : row? W5 (wn2.heap.size + 1) = some #[.slice qa2 qn2 qc2] := by rw [← hW5]; simp [go_sem]
         have q10 : row? W5 (wn2.heap.size + 1 + 1) = some #[.int .i64 ((ke.1 : Int) + (le.1 : Int)), .int .i64 ((ke.2 : Int) + (le.2 : Int))] := by rw [← hW5]; simp [go_sem]
         have q5 := (row?_below hbA (by omega)).trans g5
         have qn' := (row?_below hbA (by omega)).trans gn
         have hbX : Below wn2.heap.size wn2 ((wn2.alloc (.cells #[.int .i64 (le.1 : Int), .int .i64 (le.2 : Int)] 90)).alloc (.cells #[.slice qa2 qn2 qc2] 49)) := ((Below.refl _ _).alloc (Nat.le_refl _) _).alloc (by simp) _
         have kc0 : ((wn2.alloc (.cells #[.int .i64 (le.1 : Int), .int .i64 (le.2 : Int)] 90)).alloc (.cells #[.slice qa2 qn2 qc2] 49)).cell? ⟨b, 0, none⟩ = some (.int .i64 (ke.1 : Int)) := cell?_row (i := 0) ((row?_below hbX (by omega)).trans gb)
         have kc1 : ((wn2.alloc (.cells #[.int .i64 (le.1 : Int), .int .i64 (le.2 : Int)] 90)).alloc (.cells #[.slice qa2 qn2 qc2] 49)).cell? ⟨b, 1, none⟩ = some (.int .i64 (ke.2 : Int)) := cell?_row (i := 1) ((row?_below hbX (by omega)).trans gb)
         clear hbX
         have hs5 : Same (fun j => j ≠ mb ∧ j ≠ b + 1 + 1) W4 W5 := hsq2.trans ((Same.of_below hbA).mono fun j hj _ => hj)
         have hNV5 : NatV W5 (.agg #[.slice qa qn qc]) n := (hqv.same hsq (fun j hj x => by cases hj; exact hqn.noInt 0 _)).below hbA
         have HNV5 := Lib.hid hNV5
         have HMV := Lib.hid (hmv.below hbA)
         have HPN := Lib.hid (hqpn.below hbA)
         have HRN := Lib.hid (hqn2.below hbA)
         have HRO := Lib.hid (hqon.below hbA)
         have HS5 := Lib.hid hs5
         have HQM := Lib.hid hqm
         have HLN := Lib.hid hln
         have HW5 := Lib.hid hW5
         have hpt : prodT (ke, n) (dq ++ [(le, m)]) = prodT (ke, n) dq ++ if okX (addX ke le) then [(addX ke le, n * m)] else [] := by rw [prodT_append, prodT_one]
         have HPT := Lib.hid hpt
         have HQ := Lib.hid fun W (hb : Below W5.heap.size W5 W) => show row? W g = some #[.map (some mb)] ∧ row? W (b + 1) = some #[.slice qa qn qc] ∧ row? W (wn2.heap.size + 1) = some #[.slice qa2 qn2 qc2] ∧ row? W (wn2.heap.size + 1 + 1) = some #[.int .i64 ((ke.1 : Int) + (le.1 : Int)), .int .i64 ((ke.2 : Int) + (le.2 : Int))] from
           ⟨(row?_below hb (row?_lt q5)).trans q5, (row?_below hb (row?_lt qn')).trans qn', (row?_below hb (row?_lt q9)).trans q9, (row?_below hb (row?_lt q10)).trans q10⟩
         clear hqm hqp hqn hqo hqv hqs hsq hsq2 hmem2 hqn2 hmv hszq g5 gn gb hqpn hqon hln hq2 hW5 hbA q9 q10 q5 qn' hs5 hNV5 hpt
         by_cases ha : ke.1 + le.1 ≤ 2048
         · by_cases hbb : ke.2 + le.2 ≤ 2048
           · have hyes : okX (addX ke le) := ⟨ha, hbb⟩
             have hcl := coef_le (padd [] (prodL done q ++ prodT (ke, n) dq)) (addX ke le)
             have hwp := wt_padd [] (prodL done q ++ prodT (ke, n) dq)
             have hw0 : wt ([] : Pol) = 0 := rfl
             rw [wt_append] at hwp
             have HFT := Lib.hid (show Fit (coefP (padd [] (prodL done q ++ prodT (ke, n) dq)) (addX ke le) + n * m) from HF.out.1.mono (by omega))
             have HFN := Lib.hid (show Fit n ∧ Fit m from ⟨HF.out.2.1.mono HNW.out, HF.out.2.2.mono hmw⟩)
             have HKK := Lib.hid hyes
             have HM1 := Lib.hid (show (ke.1 : Int) + (le.1 : Int) = ((addX ke le).1 : Int) ∧ (ke.2 : Int) + (le.2 : Int) = ((addX ke le).2 : Int) from ⟨by unfold addX; simp, by unfold addX; simp⟩)
             clear hyes hcl hwp hw0 hwt hmw
             go_wp2_with fail
             rw [HW5.out]
             clear HW5 hen hrun kc0 kc1
             refine wp_region_mix (fun W => Below W5.heap.size W5 W) 5 [(0, true), (1, true), (2, true), (3, true), (4, false)] (by kernel_rfl) (by kernel_rfl) (Below.refl _ _).drew ?_
             repeat (apply wpPlan_still rfl rfl; (intro w hw; obtain ⟨k1, k2, k3, k4⟩ := HQ.out w hw; clear hw; go_simp; (try go_ints); (first | with_reducible rfl | (go_simp; with_reducible rfl))); (intro K hK; go_simp; (try go_ints); refine hK _ _ ?_; clear hK K))
             apply wpPlan_act rfl rfl
             intro K hK
             unfold Oper.wp
             go_simp
             refine (nmul_any _ _ _ _ _ (HNV5.out.below (Below.refl _ _).drew) (HMV.out.below (Below.refl _ _).drew) HFN.out.1 HFN.out.2).mono ?_
             rintro e wb ⟨vb, rfl, hvb, hbb2⟩
             have hb4 : Below W5.heap.size W5 wb := (Below.refl _ _).drew.trans hbb2
             refine hK _ _ hb4 ?_
             clear hK K hbb2
             have HVB := Lib.hid hvb
             have HBB2 := Lib.hid hb4
             clear hvb hb4
             refine wpPlan_nil ?_
             simp only [List.drop_succ_cons, List.drop_zero]
             go_wp2_with fail
             rw [HM1.out.1, HM1.out.2]
             have HPB := Lib.hid (HPN.out.below HBB2.out)
             refine (pwith_any mb (padd [] (prodL done q ++ prodT (ke, n) dq)) (addX ke le) HKK.out (n * m) vb wb HPB.out HVB.out HFT.out HLN.out).mono ?_
             rintro e w4 ⟨rfl, hp4, hs4⟩
             have hs4' : Same (fun j => some mb ≠ some j) wb w4 := hs4.mono fun j _ hj e => hj (by rw [e])
             have hs5 : Same (fun j => j ≠ mb ∧ j ≠ b + 1 + 1) W4 w4 := HS5.out.trans (((Same.of_below HBB2.out).mono fun j hj _ => hj).trans (hs4.mono fun j _ h => h.1))
             have hno : ∀ j, some mb = some j → ∀ x : Int, wb.cell? ⟨j, 0, none⟩ ≠ some (.int .u32 x) := fun j hj x => by cases hj; exact HPB.out.noInt 0 _
             have HR' := Lib.hid (show ∃ dq' : Pol, (dq' ++ (s1 ++ s2)).Perm q ∧ PMap w4 mb (padd [] (prodL done q ++ prodT (ke, n) dq')) ∧ PRng w4 m2 (b + 1 + 1) q (s1 ++ s2) ∧ PRng w4 m1 (g + 1) p (r1 ++ r2) ∧ NatV w4 (.agg #[.slice qa qn qc]) n ∧ Same (fun j => j ≠ mb ∧ j ≠ b + 1 + 1) W4 w4 from
               ⟨dq ++ [(le, m)], (step_perm dq s1 s2 (le, m)).trans HQM.out, by rw [HPT.out, if_pos HKK.out, ← List.append_assoc, padd_append]; exact hp4, (HRN.out.below HBB2.out).same (g := some mb) hs4' (by simp; omega) HLM2.out hno, (HRO.out.below HBB2.out).same (g := some mb) hs4' (by simp; omega) HLM1.out hno, (HNV5.out.below HBB2.out).same hs4' hno, hs5⟩)
             clear hp4 hs4 hs5 hs4' hno HPB
             go_wp2_with fail
             go_roundw
             case rel => exact ⟨s1 ++ s2, HR'.out⟩
             case measure =>
               refine Nat.lt_of_le_of_lt (minL_le HR'.out) ?_
               rw [← HMIN2.out]
               simp
           · have hno : ¬ okX (addX ke le) := fun h => by unfold okX addX at h; simp only at h; omega
             have HR' := Lib.hid (show ∃ dq' : Pol, (dq' ++ (s1 ++ s2)).Perm q ∧ PMap W5 mb (padd [] (prodL done q ++ prodT (ke, n) dq')) ∧ PRng W5 m2 (b + 1 + 1) q (s1 ++ s2) ∧ PRng W5 m1 (g + 1) p (r1 ++ r2) ∧ NatV W5 (.agg #[.slice qa qn qc]) n ∧ Same (fun j => j ≠ mb ∧ j ≠ b + 1 + 1) W4 W5 from
               ⟨dq ++ [(le, m)], (step_perm dq s1 s2 (le, m)).trans HQM.out, by rw [HPT.out, if_neg hno, List.append_nil]; exact HPN.out, HRN.out, HRO.out, HNV5.out, HS5.out⟩)
             clear hno hwt hmw
             go_wp2_with fail
             rw [HW5.out]
             go_roundw
             case rel => exact ⟨s1 ++ s2, HR'.out⟩
             case measure =>
               refine Nat.lt_of_le_of_lt (minL_le HR'.out) ?_
               rw [← HMIN2.out]
               simp
         · have hbb : True := trivial
           have hno : ¬ okX (addX ke le) := fun h => by unfold okX addX at h; simp only at h; omega
           have HR' := Lib.hid (show ∃ dq' : Pol, (dq' ++ (s1 ++ s2)).Perm q ∧ PMap W5 mb (padd [] (prodL done q ++ prodT (ke, n) dq')) ∧ PRng W5 m2 (b + 1 + 1) q (s1 ++ s2) ∧ PRng W5 m1 (g + 1) p (r1 ++ r2) ∧ NatV W5 (.agg #[.slice qa qn qc]) n ∧ Same (fun j => j ≠ mb ∧ j ≠ b + 1 + 1) W4 W5 from
             ⟨dq ++ [(le, m)], (step_perm dq s1 s2 (le, m)).trans HQM.out, by rw [HPT.out, if_neg hno, List.append_nil]; exact HPN.out, HRN.out, HRO.out, HNV5.out, HS5.out⟩)
           clear hno hwt hmw
           go_wp2_with fail
           rw [HW5.out]
           go_roundw
           case rel => exact ⟨s1 ++ s2, HR'.out⟩
           case measure =>
             refine Nat.lt_of_le_of_lt (minL_le HR'.out) ?_
             rw [← HMIN2.out]
             simp
end Go.Proofs.YtgnlebnpnpjfmaaGreatDoor
