/- Walks of package polynomial: One, X, Y, Add. -/
import Derived.Test.YtgnlebnpnpjfmaaGreatDoorUOb
set_option maxRecDepth 10000
set_option linter.all false
namespace Go.Pal
def accA (p q : Pol) (k : Nat) : Pol := if k = 0 then [] else if k = 1 then p else padd p q
theorem wt_append (p q : Pol) : wt (p ++ q) = wt p + wt q := lin_append _ p q
theorem wt_perm {p q : Pol} (h : p.Perm q) : wt p = wt q := lin_perm _ h
theorem wt_step {p done r1 r2 : Pol} {k : Ex} {n : Nat} (h : (done ++ (r1 ++ (k, n) :: r2)).Perm p) : wt done + n ≤ wt p := by
 rw [← wt_perm h, wt_append, wt_append]
 have : wt ((k, n) :: r2) = n + wt r2 := by unfold wt; rw [lin]; omega
 omega
end Go.Pal
namespace Go.Proofs.YtgnlebnpnpjfmaaGreatDoor
open Go Go.RowKit Go.Pal
theorem pone_any (w : World) : Calls Tryz.prog 23 #[] w fun e w' => ∃ v', e = .returned v' ∧ PolV w' v' oneP ∧ Below w.heap.size w w' := by
 have HT := Lib.hid fun W => pterm_any 0 0 (by omega) W
 go_enter Tryz.func23, Tryz.ntmps23
 go_wp2_with fail
 refine (HT.out _).mono ?_
 rintro r w1 ⟨v1, rfl, ⟨m, rfl, hm⟩, hb1⟩
 have r1 := (row?_below hb1 (by simp)).trans (row?_alloc_at w #[Value.map none] 24 w.heap.size rfl)
 have HB := Lib.hid (((Below.refl w.heap.size w).alloc (Nat.le_refl _) _).trans (hb1.mono (by simp)))
 have HP := Lib.hid hm
 have l1 := row?_lt r1
 clear hb1 hm
 go_wp2_with fail
 refine ret_row w.heap.size #[.map m] rfl Tryz.isAgg24 Tryz.sizeOf24 rfl rfl (row?_setRow_same _ _ _ (by rw [r1]; rfl)) rfl ?_
 refine ⟨_, rfl, ⟨m, rfl, ?_⟩, below_setRow HB.out (by omega) _⟩
 rcases HP.out with ⟨rfl, h0⟩ | ⟨mb, rfl, hp⟩
 · exact .inl ⟨rfl, h0⟩
 · refine .inr ⟨mb, rfl, ?_⟩
   have hne : mb ≠ w.heap.size := fun e => hp.noInt 0 (.map none) (by rw [e, cell?_row r1]; rfl)
   exact hp.same (g := some w.heap.size) (same_some _ _ _) (by simpa using fun e => hne e.symm) (fun j hj x => by cases hj; rw [cell?_row r1]; simp)
theorem pxx_any (w : World) : Calls Tryz.prog 63 #[] w fun e w' => ∃ v', e = .returned v' ∧ PolV w' v' [((1, 0), 1)] ∧ Below w.heap.size w w' := by
 have HT := Lib.hid fun W => pterm_any 1 0 (by omega) W
 go_enter Tryz.func63, Tryz.ntmps63
 go_wp2_with fail
 refine (HT.out _).mono ?_
 rintro r w1 ⟨v1, rfl, ⟨m, rfl, hm⟩, hb1⟩
 have r1 := (row?_below hb1 (by simp)).trans (row?_alloc_at w #[Value.map none] 24 w.heap.size rfl)
 have HB := Lib.hid (((Below.refl w.heap.size w).alloc (Nat.le_refl _) _).trans (hb1.mono (by simp)))
 have HP := Lib.hid hm
 have l1 := row?_lt r1
 clear hb1 hm
 go_wp2_with fail
 refine ret_row w.heap.size #[.map m] rfl Tryz.isAgg24 Tryz.sizeOf24 rfl rfl (row?_setRow_same _ _ _ (by rw [r1]; rfl)) rfl ?_
 refine ⟨_, rfl, ⟨m, rfl, ?_⟩, below_setRow HB.out (by omega) _⟩
 rcases HP.out with ⟨rfl, h0⟩ | ⟨mb, rfl, hp⟩
 · exact .inl ⟨rfl, h0⟩
 · refine .inr ⟨mb, rfl, ?_⟩
   have hne : mb ≠ w.heap.size := fun e => hp.noInt 0 (.map none) (by rw [e, cell?_row r1]; rfl)
   exact hp.same (g := some w.heap.size) (same_some _ _ _) (by simpa using fun e => hne e.symm) (fun j hj x => by cases hj; rw [cell?_row r1]; simp)
theorem pyy_any (w : World) : Calls Tryz.prog 64 #[] w fun e w' => ∃ v', e = .returned v' ∧ PolV w' v' [((0, 1), 1)] ∧ Below w.heap.size w w' := by
 have HT := Lib.hid fun W => pterm_any 0 1 (by omega) W
 go_enter Tryz.func64, Tryz.ntmps64
 go_wp2_with fail
 refine (HT.out _).mono ?_
 rintro r w1 ⟨v1, rfl, ⟨m, rfl, hm⟩, hb1⟩
 have r1 := (row?_below hb1 (by simp)).trans (row?_alloc_at w #[Value.map none] 24 w.heap.size rfl)
 have HB := Lib.hid (((Below.refl w.heap.size w).alloc (Nat.le_refl _) _).trans (hb1.mono (by simp)))
 have HP := Lib.hid hm
 have l1 := row?_lt r1
 clear hb1 hm
 go_wp2_with fail
 refine ret_row w.heap.size #[.map m] rfl Tryz.isAgg24 Tryz.sizeOf24 rfl rfl (row?_setRow_same _ _ _ (by rw [r1]; rfl)) rfl ?_
 refine ⟨_, rfl, ⟨m, rfl, ?_⟩, below_setRow HB.out (by omega) _⟩
 rcases HP.out with ⟨rfl, h0⟩ | ⟨mb, rfl, hp⟩
 · exact .inl ⟨rfl, h0⟩
 · refine .inr ⟨mb, rfl, ?_⟩
   have hne : mb ≠ w.heap.size := fun e => hp.noInt 0 (.map none) (by rw [e, cell?_row r1]; rfl)
   exact hp.same (g := some w.heap.size) (same_some _ _ _) (by simpa using fun e => hne e.symm) (fun j hj x => by cases hj; rw [cell?_row r1]; simp)
set_option maxHeartbeats 2000000 in
theorem padd_any (p q : Pol) (vp vq : Value) (w : World) (hp : PolV w vp p) (hq : PolV w vq q) (hf : Fit (wt p + wt q)) (hlen : p.length + q.length ≤ 100000) :
   Calls Tryz.prog 18 #[vp, vq] w fun e w' => ∃ v', e = .returned v' ∧ PolV w' v' (padd p q) ∧ Below w.heap.size w w' := by
 obtain ⟨m1, rfl, hm1⟩ := hp
 obtain ⟨m2, rfl, hm2⟩ := hq
 have HM := Lib.hid fun W => pmade_any W
 have HF := Lib.hid hf
 have H1 := Lib.hid hm1
 have H2 := Lib.hid hm2
 have HL := Lib.hid hlen
 clear hm1 hm2 hf hlen
 go_enter Tryz.func18, Tryz.ntmps18
 go_wp2_with fail
 refine (HM.out _).mono ?_
 rintro r w1 ⟨mb, rfl, hp1, hmb, hb1⟩
 have e2 := (row?_below hb1 (by simp)).trans (row?_alloc_at ((w.alloc (.cells #[.map m1] 24)).alloc (.cells #[.map m2] 24)) #[Value.map none] 24 (w.heap.size + 1 + 1) (by simp))
 have e1 := (row?_below hb1 (by simp <;> omega)).trans ((row?_alloc_past ((w.alloc (.cells #[.map m1] 24)).alloc (.cells #[.map m2] 24)) (.cells #[.map none] 24) (w.heap.size + 1) (by simp)).trans (row?_alloc_at (w.alloc (.cells #[.map m1] 24)) #[Value.map m2] 24 (w.heap.size + 1) (by simp)))
 have e0 := (row?_below hb1 (by simp <;> omega)).trans ((row?_alloc_past ((w.alloc (.cells #[.map m1] 24)).alloc (.cells #[.map m2] 24)) (.cells #[.map none] 24) w.heap.size (by simp <;> omega)).trans ((row?_alloc_past _ _ w.heap.size (by simp)).trans (row?_alloc_at w #[Value.map m1] 24 w.heap.size rfl)))
 have hbA : Below w.heap.size w (((w.alloc (.cells #[.map m1] 24)).alloc (.cells #[.map m2] 24)).alloc (.cells #[.map none] 24)) := by
   (repeat' (first | (with_reducible first | exact Below.refl _ _ | assumption | refine Below.alloc ?_ ?_ _ | refine Below.drew ?_ | refine Below.setCell ?_ ?_ _ | refine below_setRow ?_ ?_ _ | exact Nat.le_refl _) | omega | (simp; done) | (simp; omega) | (simp at *; omega)))
 have hb0 := hbA.trans (hb1.mono hbA.size)
 have l0 := row?_lt e0
 have l1 := row?_lt e1
 have l2 := row?_lt e2
 have hmb2 : w.heap.size + 1 + 1 < mb := by simp at hmb; omega
 have hml := hp1.lt
 have HE2 := Lib.hid e2
 have HP1 := Lib.hid hp1
 have HB0 := Lib.hid hb0
 clear hb1 hb0 hbA e2 hp1 hmb HM
 go_wp2_with fail
 obtain ⟨W1, hW1⟩ : ∃ W1, (w1.alloc (.cells #[.map (some mb)] 24)).alloc (.cells #[.map m1, .map m2] 24) = W1 := ⟨_, rfl⟩
 have hbW : Below w1.heap.size w1 W1 := by
   rw [← hW1]
   (repeat' (first | (with_reducible first | exact Below.refl _ _ | assumption | refine Below.alloc ?_ ?_ _ | refine Below.drew ?_ | refine Below.setCell ?_ ?_ _ | refine below_setRow ?_ ?_ _ | exact Nat.le_refl _) | omega | (simp; done) | (simp; omega) | (simp at *; omega)))
 have f5 : row? W1 w1.heap.size = some #[.map (some mb)] := by rw [← hW1]; simp [go_sem]
 have fS : row? W1 (w1.heap.size + 1) = some #[.map m1, .map m2] := by rw [← hW1]; simp [go_sem]
 have f2 := (row?_below hbW l2).trans HE2.out
 have hp1 := HP1.out.below hbW
 have hbw1 := HB0.out.trans (hbW.mono HB0.out.size)
 rw [hW1]
 clear hW1 hbW
 obtain ⟨g, hg⟩ : ∃ g, g = w1.heap.size := ⟨_, rfl⟩
 rw [← hg] at f5 fS hml ⊢
 have hgW : g + 1 < W1.heap.size := row?_lt fS
 have HF1 := Lib.hid (And.intro f5 (And.intro fS f2))
 have HK1 := Lib.hid fun W (hs : Same (fun j => j ≠ mb) W1 W) => show Below w.heap.size w W from hbw1.trans (hs.below hbw1.size fun j hj => by omega)
 have HC1 := Lib.hid fun W (hs : Same (fun j => j ≠ mb) W1 W) => show row? W g = some #[.map (some mb)] ∧ row? W (g + 1) = some #[.map m1, .map m2] ∧ row? W (w.heap.size + 1 + 1) = some #[.map none] from
   ⟨(row?_congr (hs.block _ (by omega) (by omega))).trans f5, (row?_congr (hs.block _ (by omega) (by omega))).trans fS, (row?_congr (hs.block _ (by omega) (by omega))).trans f2⟩
 have HPA := Lib.hid hp1
 have hlm1 := H1.out.lt
 have hlm2 := H2.out.lt
 have HLM1 := Lib.hid fun (b : Nat) (hb : m1 = some b) => show some mb ≠ some b from fun e => by cases e; have := hlm1 mb hb; omega
 have HLM2 := Lib.hid fun (b : Nat) (hb : m2 = some b) => show some mb ≠ some b from fun e => by cases e; have := hlm2 mb hb; omega
 have hgs : w.heap.size + 1 + 1 < g := by omega
 clear f5 fS f2 hp1 hbw1 hlm1 hlm2 hg e0 e1 HE2 HP1 HB0 l0 l1 l2
 go_loopw [15] (fun i wr => ∃ k : Nat, k ≤ 2 ∧ i = .int .i64 (k : Int) ∧ PMap wr mb (accA p q k) ∧ Same (fun j => j ≠ mb) W1 wr) (fun i _ => 2 - (intOf i).toNat)
 case atStart => exact ⟨0, by omega, rfl, HPA.out, Same.refl _ _⟩
 case round =>
   obtain ⟨k, hk, rfl, hpk, hsk⟩ := hrel
   obtain ⟨g5, gS, g2⟩ := HC1.out wr hsk
   rcases Nat.lt_or_ge k 2 with hk2 | hk2
   · obtain ⟨mx, x, acc, HX, HLM, hacc, hnx, hwt0, hln0, hcS⟩ : ∃ (mx : Option Nat) (x acc : Pol), Hid (PolM w mx x) ∧ Hid (∀ b, mx = some b → some mb ≠ some b) ∧ accA p q k = acc ∧ padd acc x = accA p q (k + 1) ∧ wt acc + wt x ≤ wt p + wt q ∧ acc.length + x.length ≤ 100000 ∧ rowLoad Tryz.prog 24 ⟨g + 1, k, none⟩ wr = .ok (.agg #[.map mx]) wr := by
       obtain rfl | rfl : k = 0 ∨ k = 1 := by omega
       · refine ⟨m1, p, [], H1, HLM1, rfl, padd_nil H1.out.canon, by have : wt ([] : Pol) = 0 := rfl; omega, by have := HL.out; simp; omega, ?_⟩
         exact load_cells Tryz.isAgg24 Tryz.sizeOf24 wr (g + 1) 0 _ rfl fun j u hj => by
           rcases j with _ | j
           · rw [cell?_row gS]; exact hj
           · simp at hj
       · refine ⟨m2, q, p, H2, HLM2, rfl, rfl, Nat.le_refl _, HL.out, ?_⟩
         exact load_cells Tryz.isAgg24 Tryz.sizeOf24 wr (g + 1) 1 _ rfl fun j u hj => by
           rcases j with _ | j
           · rw [cell?_row gS]; exact hj
           · simp at hj
     rw [hacc] at hpk
     have HNX := Lib.hid hnx
     have HWT := Lib.hid hwt0
     have HLN := Lib.hid hln0
     clear hacc hnx hwt0 hln0
     have hdk : decide ((k : Int) < 2) = true := decide_eq_true (by omega)
     have hPM : PolM (wr.alloc (.cells #[.map mx] 24)) mx x := (HX.out.below (HK1.out wr hsk)).below ((Below.refl _ _).alloc (Nat.le_refl _) _)
     obtain ⟨w2, hr, hR, hb2, hs2⟩ := hPM.range
     rw [World.size_alloc] at hr hs2 hR
     have hbA : Below wr.heap.size wr w2 := ((Below.refl wr.heap.size wr).alloc (Nat.le_refl _) _).trans (hb2.mono (by simp))
     have hpk2 := hpk.below hbA
     have hsk2 : Same (fun j => j ≠ mb) W1 w2 := hsk.trans ((Same.of_below hbA).mono fun j hj _ => hj)
     have HR2 := Lib.hid hR
     have HP2 := Lib.hid hpk2
     have HS2 := Lib.hid hsk2
     obtain ⟨r, hrr⟩ : ∃ r, r = wr.heap.size + 1 := ⟨_, rfl⟩
     rw [← hrr] at hr HR2
     have hrg : W1.heap.size ≤ r := by have := hsk.size; omega
     have HCN := Lib.hid HX.out.canon
     have HUP := Lib.hid HX.out.upto
     have HCA := Lib.hid hpk.1
     clear hPM hR hb2 hbA hpk2 hsk2 hrr hpk hsk g5 g2 gS hs2
     go_wp2_with fail
     clear hr hcS
     rename World => Wo
     go_loopw [22] (fun _ wi => ∃ rest : Pol, ∃ done : Pol, (done ++ rest).Perm x ∧ PMap wi mb (padd acc done) ∧ PRng wi mx r x rest ∧ Same (fun j => j ≠ mb) W1 wi) (fun _ wi => minL (fun rest : Pol => ∃ done : Pol, (done ++ rest).Perm x ∧ PMap wi mb (padd acc done) ∧ PRng wi mx r x rest ∧ Same (fun j => j ≠ mb) W1 wi) List.length)
     case atStart => exact ⟨x, [], List.Perm.refl _, HP2.out, HR2.out, HS2.out⟩
     case round =>
       obtain ⟨rest, ⟨done, hpm, hpp, hrn, hsm⟩, hmin⟩ := minL_spec (len := List.length) hrel
       have HMIN := Lib.hid hmin
       clear hrel hmin HP2 HR2 HS2
       rcases hrn.next 0 with ⟨rfl, hrun⟩ | ⟨ke, n, hd, r1, r2, wn, rfl, hrun, hrn2, hmem, hnv, hsn, hszn, hen⟩
       · have hpe : padd (acc) done = padd (acc) (x) := padd_perm HCA.out (by simpa using hpm)
         rw [hpe, HNX.out] at hpp
         have HPP := Lib.hid hpp
         have HSM := Lib.hid hsm
         clear hpm hpp hrn hsm HMIN hpe
         go_wp2_with fail
         go_roundw
         case rel => exact ⟨k + 1, by omega, by go_num, HPP.out, HSM.out⟩
         case measure => simp [intOf]; omega
       · have hrl := hrn.lt
         have hsn2 : Same (fun j => j ≠ mb) W1 wn := hsm.trans_new hsn fun j hj _ => by simp; omega
         obtain ⟨g5, -, -⟩ := HC1.out wn hsn2
         have gl5 := row?_lt g5
         have hpn : PMap wn mb (padd (acc) done) := hpp.same hsn (by simp; omega) (fun j hj x => by cases hj; exact hrn.noInt 0 _)
         have hwt := wt_step hpm
         have hcl := coef_le (padd (acc) done) ke
         have hwp := wt_padd (acc) done
         have hln := padd_len (acc) done
         have hdl := hpm.length_eq
         have HFT := Lib.hid (show Fit (coefP (padd (acc) done) ke + n) from HF.out.mono (by have := HWT.out; omega))
         have HLD := Lib.hid (show (padd (acc) done).length < 1000000 by have := HLN.out; simp at hdl; omega)
         have HKU := Lib.hid (HUP.out _ hmem)
         obtain ⟨qa, qn, qc, hq⟩ := hdr_sl hd
         unfold hdrV at hnv
         rw [hq] at hrun hen hnv
         have HNV := Lib.hid hnv
         have HPN := Lib.hid hpn
         have HRN := Lib.hid hrn2
         have HSN := Lib.hid hsn2
         have HPM := Lib.hid hpm
         clear hpm hpp hrn hsm hsn2 hpn hnv hsn hrn2 hq hwt hcl hwp hln hdl hmem hszn
         go_wp2_with fail
         have hbA : Below wn.heap.size wn ((wn.alloc (.cells #[.int .i64 (ke.1 : Int), .int .i64 (ke.2 : Int)] 90)).alloc (.cells #[.slice qa qn qc] 49)) := ((Below.refl _ _).alloc (Nat.le_refl _) _).alloc (by simp) _
         have HPA3 := Lib.hid (HPN.out.below hbA)
         refine (pwith_any mb (padd (acc) done) ke HKU.out n _ _ HPA3.out (HNV.out.below hbA) HFT.out HLD.out).mono ?_
         rintro e w4 ⟨rfl, hp4, hs4⟩
         have hR4 : PRng w4 (mx) r (x) (r1 ++ r2) := (HRN.out.below hbA).same (g := some mb) (hs4.mono fun j _ hj e => hj (by rw [e])) (by simp; omega) HLM.out (fun j hj x => by cases hj; exact HPA3.out.noInt 0 _)
         have HR' := Lib.hid (show ∃ done' : Pol, (done' ++ (r1 ++ r2)).Perm (x) ∧ PMap w4 mb (padd (acc) done') ∧ PRng w4 (mx) r (x) (r1 ++ r2) ∧ Same (fun j => j ≠ mb) W1 w4 from
           ⟨done ++ [(ke, n)], (step_perm done r1 r2 (ke, n)).trans HPM.out, by rw [padd_append]; exact hp4, hR4, HSN.out.trans (((Same.of_below hbA).mono fun j hj _ => hj).trans hs4)⟩)
         clear hp4 hs4 hR4 hbA HPA3 hrun hen
         go_wp2_with fail
         go_roundw
         case rel =>
           exact ⟨r1 ++ r2, HR'.out⟩
         case measure =>
           refine Nat.lt_of_le_of_lt (minL_le HR'.out) ?_
           rw [← HMIN.out]
           simp
   · obtain rfl : k = 2 := by omega
     have hpe : PMap wr mb (padd p q) := hpk
     have HPE := Lib.hid hpe
     have HB := Lib.hid (HK1.out wr hsk)
     have hsz := hsk.size
     clear hpk hsk hpe gS
     have c5 : wr.cell? ⟨g, 0, none⟩ = some (.map (some mb)) := cell?_row (i := 0) g5
     have l5 := row?_lt g2
     go_wp2_with fail
     refine ret_row (w.heap.size + 1 + 1) #[.map (some mb)] rfl Tryz.isAgg24 Tryz.sizeOf24 rfl rfl (row?_setRow_same _ _ _ (by rw [g2]; rfl)) rfl ?_
     refine ⟨_, rfl, ⟨some mb, rfl, .inr ⟨mb, rfl, ?_⟩⟩, below_setRow HB.out (by omega) _⟩
     exact HPE.out.same (g := some (w.heap.size + 1 + 1)) (same_some _ _ _) (by simp <;> omega) (fun j hj x => by cases hj; rw [cell?_row g2]; simp)
end Go.Proofs.YtgnlebnpnpjfmaaGreatDoor
