/- Walks of package polynomial: Equal, Degree. -/
import Derived.Test.YtgnlebnpnpjfmaaGreatDoorUOF
import Derived.Test.YtgnlebnpnpjfmaaGreatDoorUNo
set_option linter.all false
namespace Go.Pal
theorem canon_sub_len : ∀ {p q : Pol}, Canon p → Canon q → (∀ x ∈ p, x ∈ q) → p.length ≤ q.length
 | [], _, _, _, _ => Nat.zero_le _
 | x :: r, [], _, _, h => by have := h x (by simp); simp at this
 | x :: r, y :: s, hp, hq, h => by
   have hx := (List.pairwise_cons.1 hp.srt).1
   have hy := (List.pairwise_cons.1 hq.srt).1
   rcases List.mem_cons.1 (h x (by simp)) with e | hxs
   · have := canon_sub_len (p := r) (q := s) hp.tail hq.tail fun z hz => by
       rcases List.mem_cons.1 (h z (by simp [hz])) with e2 | h2
       · have := hx z hz
         rw [e2, ← e, ltX_irr] at this
         cases this
       · exact h2
     simp
     omega
   · have := canon_sub_len (p := x :: r) (q := s) hp hq.tail fun z hz => by
       rcases List.mem_cons.1 (h z hz) with e2 | h2
       · exfalso
         have h3 := hy x hxs
         rcases List.mem_cons.1 hz with e3 | h4
         · rw [← e3, e2, ltX_irr] at h3; cases h3
         · have := ltX_trans h3 (hx z h4)
           rw [e2, ltX_irr] at this
           cases this
       · exact h2
     simp at this ⊢
     omega
theorem canon_sub_eq : ∀ {p q : Pol}, Canon p → Canon q → (∀ x ∈ p, x ∈ q) → p.length = q.length → p = q
 | [], q, _, _, _, hl => by
   cases q with
   | nil => rfl
   | cons y s => simp at hl
 | x :: r, [], _, _, _, hl => by simp at hl
 | x :: r, y :: s, hp, hq, h, hl => by
   have hx := (List.pairwise_cons.1 hp.srt).1
   have hy := (List.pairwise_cons.1 hq.srt).1
   rcases List.mem_cons.1 (h x (by simp)) with e | hxs
   · have := canon_sub_eq (p := r) (q := s) hp.tail hq.tail (fun z hz => by
       rcases List.mem_cons.1 (h z (by simp [hz])) with e2 | h2
       · have := hx z hz
         rw [e2, ← e, ltX_irr] at this
         cases this
       · exact h2) (by simpa using hl)
     rw [e, this]
   · exfalso
     have := canon_sub_len (p := x :: r) (q := s) hp hq.tail fun z hz => by
       rcases List.mem_cons.1 (h z hz) with e2 | h2
       · exfalso
         have h3 := hy x hxs
         rcases List.mem_cons.1 hz with e3 | h4
         · rw [← e3, e2, ltX_irr] at h3; cases h3
         · have := ltX_trans h3 (hx z h4)
           rw [e2, ltX_irr] at this
           cases this
       · exact h2
     simp at this hl
     omega
theorem pol_eq {p q : Pol} (hp : Canon p) (hq : Canon q) (hl : p.length = q.length) (h : ∀ x ∈ p, x.2 = coefP q x.1) : p = q := by
 refine canon_sub_eq hp hq (fun x hx => ?_) hl
 have := coef_mem hq (k := x.1) (n := x.2) (h x hx).symm (hp.pos x hx)
 exact this
end Go.Pal
namespace Go.Proofs.YtgnlebnpnpjfmaaGreatDoor
open Go Go.RowKit Go.Pal
set_option maxRecDepth 10000 in
set_option maxHeartbeats 2000000 in
theorem pequal_any (p q : Pol) (vp vq : Value) (w : World) (hp : PolV w vp p) (hq : PolV w vq q) (hf : Fit (wt p)) :
   Calls Tryz.prog 24 #[vp, vq] w fun e w' => e = .returned (.bool (decide (p = q))) ∧ Below w.heap.size w w' := by
 obtain ⟨m1, rfl, hm1⟩ := hp
 obtain ⟨m2, rfl, hm2⟩ := hq
 have hC1 := hm1.canon
 have hC2 := hm2.canon
 have hU1 := hm1.upto
 obtain ⟨W0, hW0⟩ : ∃ W0, (w.alloc (.cells #[.map m1] 24)).alloc (.cells #[.map m2] 24) = W0 := ⟨_, rfl⟩
 have hb0 : Below w.heap.size w W0 := by
   rw [← hW0]
   (repeat' (first | (with_reducible first | exact Below.refl _ _ | assumption | refine Below.alloc ?_ ?_ _ | refine Below.drew ?_ | refine Below.setCell ?_ ?_ _ | refine below_setRow ?_ ?_ _ | exact Nat.le_refl _) | omega | (simp; done) | (simp; omega) | (simp at *; omega)))
 have e0 : row? W0 w.heap.size = some #[.map m1] := by rw [← hW0]; simp [go_sem]
 have e1 : row? W0 (w.heap.size + 1) = some #[.map m2] := by rw [← hW0]; simp [go_sem]
 have hs0 : W0.heap.size = w.heap.size + 1 + 1 := by rw [← hW0]; simp
 have hl1 := (hm1.below hb0).len
 have hl2 := (hm2.below hb0).len
 obtain ⟨W1, hr, hR, hb1, hs1⟩ := (hm1.below hb0).range
 rw [hs0] at hr hR hs1
 rw [← hW0] at hl1 hl2 hr
 have H2 := Lib.hid (hm2.below hb0)
 have hb01 := hb0.trans (hb1.mono hb0.size)
 have HB1 := Lib.hid hb01
 have HB0 := Lib.hid hb0
 have HR := Lib.hid hR
 have r1 := (row?_below hb1 (by omega)).trans e1
 have HC := Lib.hid fun W (hs : Same (fun j => j ≠ w.heap.size + 1 + 1) W1 W) => show row? W (w.heap.size + 1) = some #[.map m2] from (row?_congr (hs.block _ (by omega) (by omega))).trans r1
 have HK := Lib.hid fun W (hs : Same (fun j => j ≠ w.heap.size + 1 + 1) W1 W) => show Below w.heap.size w W from hb01.trans (hs.below (by omega) fun j hj => by omega)
 have HM := Lib.hid (hm2.below hb01)
 have HC1 := Lib.hid hC1
 have HC2 := Lib.hid hC2
 have HU1 := Lib.hid hU1
 have HF := Lib.hid hf
 have HW0 := Lib.hid hW0
 have hlt2 := hm2.lt
 have HLT := Lib.hid hlt2
 clear hm1 hm2 hC1 hC2 hU1 hb0 hb1 hR e0 e1 r1 hb01 hf hW0 hlt2
 by_cases hlen : p.length = q.length
 · have hlen2 : (p.length : Int) = (q.length : Int) := by omega
   have HLEN := Lib.hid hlen
   have hne : ((p.length : Int) != (q.length : Int)) = false := by rw [hlen2]; simp
   rw [← hlen2] at hl2
   clear hlen hlen2
   go_enter Tryz.func24, Tryz.ntmps24
   go_wp2_with fail
   obtain ⟨r, hrr⟩ : ∃ r, r = w.heap.size + 1 + 1 := ⟨_, rfl⟩
   rw [← hrr] at HR HC HK ⊢
   have hgs : w.heap.size + 1 < r := by omega
   have hW1 : W1.heap.size = r + 1 := by omega
   have HW1 := Lib.hid hW1
   clear hl1 hl2 hr hs0 hs1 hne hrr HW0 hW1
   go_loopw [17] (fun _ wi => ∃ rest : Pol, ∃ done : Pol, (done ++ rest).Perm p ∧ (∀ x ∈ done, x.2 = coefP q x.1) ∧ PolM wi m2 q ∧ PRng wi m1 r p rest ∧ Same (fun j => j ≠ r) W1 wi) (fun _ wi => minL (fun rest : Pol => ∃ done : Pol, (done ++ rest).Perm p ∧ (∀ x ∈ done, x.2 = coefP q x.1) ∧ PolM wi m2 q ∧ PRng wi m1 r p rest ∧ Same (fun j => j ≠ r) W1 wi) List.length)
   case atStart => exact ⟨p, [], List.Perm.refl _, by simp, HM.out, HR.out, Same.refl _ _⟩
   case round =>
     obtain ⟨rest, ⟨done, hpm, hdo, hmm, hrn, hsm⟩, hmin⟩ := minL_spec (len := List.length) hrel
     have HMIN := Lib.hid hmin
     clear hrel hmin HR HM
     rcases hrn.next 0 with ⟨rfl, hrun⟩ | ⟨ke, n, hd, r1, r2, wn, rfl, hrun, hrn2, hmem, hnv, hsn, hszn, hen⟩
     · have he : p = q := pol_eq HC1.out HC2.out HLEN.out fun x hx => hdo x (by
         have := hpm.mem_iff (a := x)
         rw [List.append_nil] at this
         exact this.2 hx)
       have HE := Lib.hid he
       have HB := Lib.hid (HK.out wr hsm)
       clear hpm hdo hmm hrn hsm HMIN he
       go_wp2_with fail
       go_ret
       exact ⟨by simp [HE.out], HB.out⟩
     · have hrl := hrn.lt
       have hsn2 : Same (fun j => j ≠ r) W1 wn := hsm.trans_new hsn fun j hj h => by simp; omega
       have g3 := HC.out wn hsn2
       have hmn : PolM wn m2 q := hmm.same hsn (fun mb' hm' e => by cases e; have := HLT.out _ hm'; omega) (fun j hj x => by cases hj; exact hrn.noInt 0 _)
       obtain ⟨hk1, hk2⟩ := HU1.out _ hmem
       have hnw := wt_mem hmem
       simp only at hk1 hk2 hnw
       have hfn : Fit n := HF.out.mono hnw
       obtain ⟨qa, qn, qc, hq⟩ := hdr_sl hd
       unfold hdrV at hnv
       rw [hq] at hrun hen hnv
       have hbA : Below wn.heap.size wn ((wn.alloc (.cells #[.int .i64 (ke.1 : Int), .int .i64 (ke.2 : Int)] 90)).alloc (.cells #[.slice qa qn qc] 49)) := ((Below.refl _ _).alloc (Nat.le_refl _) _).alloc (by simp) _
       have gl3 := row?_lt g3
       obtain ⟨W3, hW3⟩ : ∃ W3, (wn.alloc (.cells #[.int .i64 (ke.1 : Int), .int .i64 (ke.2 : Int)] 90)).alloc (.cells #[.slice qa qn qc] 49) = W3 := ⟨_, rfl⟩
       have q8 : row? W3 wn.heap.size = some #[.int .i64 (ke.1 : Int), .int .i64 (ke.2 : Int)] := by rw [← hW3]; simp [go_sem]
       have q9 : row? W3 (wn.heap.size + 1) = some #[.slice qa qn qc] := by rw [← hW3]; simp [go_sem]
       rw [hW3] at hbA
       have q5 := (row?_below hbA gl3).trans g3
       have hm3 := hmn.below hbA
       obtain ⟨hd', hlk, hcv⟩ := hm3.look (ke.1 : Int) (ke.2 : Int) (by unfold InI; omega) (by unfold InI; omega)
       replace hcv : NatV W3 (hdrV hd') (coefP q ke) := by rw [coefZ_nat] at hcv; exact hcv
       have HLK := Lib.hid hlk
       have HCV := Lib.hid hcv
       have HM3 := Lib.hid hm3
       have HNV := Lib.hid (hnv.below hbA)
       have HRN := Lib.hid (hrn2.below hbA)
       have HSN := Lib.hid (hsn2.trans ((Same.of_below hbA).mono fun j hj _ => hj))
       have HPM := Lib.hid hpm
       have HDO := Lib.hid hdo
       have HFN := Lib.hid hfn
       have HMEM := Lib.hid hmem
       have HQ := Lib.hid fun W (hb : Below W3.heap.size W3 W) => show W.cell? ⟨w.heap.size + 1, 0, none⟩ = some (.map m2) ∧ row? W (wn.heap.size + 1) = some #[.slice qa qn qc] ∧ row? W wn.heap.size = some #[.int .i64 (ke.1 : Int), .int .i64 (ke.2 : Int)] from
         ⟨cell?_row (i := 0) ((row?_below hb (row?_lt q5)).trans q5), (row?_below hb (row?_lt q9)).trans q9, (row?_below hb (row?_lt q8)).trans q8⟩
       have HW3 := Lib.hid hW3
       clear hpm hdo hmm hrn hsm hsn2 hmn hnv hsn hrn2 hq hnw hfn hmem hszn hW3 q8 q9 q5 hm3 hlk hcv hbA g3
       go_wp2_with fail
       rw [HW3.out]
       clear HW3 hen hrun
       refine wp_region_mix (fun W => Below W3.heap.size W3 W) 6 [(0, true), (1, true), (2, true), (3, true), (4, true), (5, false)] (by kernel_rfl) (by kernel_rfl) (Below.refl _ _).drew ?_
       repeat (apply wpPlan_still rfl rfl; (intro w hw; obtain ⟨k1, k2, k3⟩ := HQ.out w hw; have k4 := HLK.out w hw; clear hw; go_simp; (try go_ints); (first | with_reducible rfl | (go_simp; with_reducible rfl))); (intro K hK; go_simp; (try go_ints); refine hK _ _ ?_; clear hK K))
       apply wpPlan_act rfl rfl
       intro K hK
       unfold Oper.wp
       go_simp
       refine (nequal_any _ _ _ _ _ (HNV.out.below (Below.refl _ _).drew) (HCV.out.below (Below.refl _ _).drew) HFN.out).mono ?_
       rintro e wb ⟨rfl, hbb2⟩
       have hb4 : Below W3.heap.size W3 wb := (Below.refl _ _).drew.trans hbb2
       refine hK _ _ hb4 ?_
       clear hK K hbb2
       have HBB := Lib.hid hb4
       clear hb4
       refine wpPlan_nil ?_
       simp only [List.drop_succ_cons, List.drop_zero]
       have hs5 : Same (fun j => j ≠ r) W1 wb := HSN.out.trans ((Same.of_below HBB.out).mono fun j hj _ => hj)
       have HS5 := Lib.hid hs5
       clear hs5
       by_cases hc : n = coefP q ke
       · have hcd : decide (n = coefP q ke) = true := decide_eq_true hc
         have HR' := Lib.hid (show ∃ done' : Pol, (done' ++ (r1 ++ r2)).Perm p ∧ (∀ x ∈ done', x.2 = coefP q x.1) ∧ PolM wb m2 q ∧ PRng wb m1 r p (r1 ++ r2) ∧ Same (fun j => j ≠ r) W1 wb from
           ⟨done ++ [(ke, n)], (step_perm done r1 r2 (ke, n)).trans HPM.out, fun x hx => by
             rcases List.mem_append.1 hx with h | h
             · exact HDO.out x h
             · rw [List.mem_singleton.1 h]; exact hc, HM3.out.below HBB.out, HRN.out.below HBB.out, HS5.out⟩)
         clear hc
         rw [hcd]
         go_wp2_with fail
         go_roundw
         case rel => exact ⟨r1 ++ r2, HR'.out⟩
         case measure =>
           refine Nat.lt_of_le_of_lt (minL_le HR'.out) ?_
           rw [← HMIN.out]
           simp
       · have hcd : decide (n = coefP q ke) = false := decide_eq_false hc
         have hne2 : ¬ p = q := fun e => hc (by
           have := mem_coef HC1.out HMEM.out
           rw [← e]
           exact this.symm)
         have HNE := Lib.hid hne2
         have HB := Lib.hid (HK.out wb HS5.out)
         clear hc hne2
         rw [hcd]
         go_wp2_with fail
         go_ret
         exact ⟨by simp [HNE.out], HB.out⟩
 · have hne : ((p.length : Int) != (q.length : Int)) = true := by rw [bne_iff_ne]; omega
   have hne2 : ¬ p = q := fun e => hlen (by rw [e])
   go_enter Tryz.func24, Tryz.ntmps24
   go_wp2_with fail
   go_ret
   exact ⟨by simp [hne2], by rw [HW0.out]; exact HB0.out⟩
end Go.Proofs.YtgnlebnpnpjfmaaGreatDoor
