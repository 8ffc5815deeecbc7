/- Walks of the reference's polynomials: Diff. -/
import Derived.Test.YtgnlebnpnpjfmaaGreatDoorUQH
set_option linter.all false
namespace Go.Pal
theorem diffL_take {p : Pol} {j : Nat} {x : Ex × Nat} (h : p[j]? = some x) : diffL (p.take (j + 1)) = diffL (p.take j) ++ diffT x := by
 rw [take_snoc h]
 unfold diffL
 rw [List.flatMap_append]
 simp
theorem diffL_wt {m : Nat} {p : Pol} (hu : Upto m p) (j : Nat) : wt (diffL (p.take j)) ≤ wt p * m ∧ (diffL (p.take j)).length ≤ p.length := by
 have h1 : diffL p = diffL (p.take j) ++ diffL (p.drop j) := by
   unfold diffL
   rw [← List.flatMap_append, List.take_append_drop]
 have h2 := wt_diffL hu
 have h3 := diffL_len p
 rw [h1, wt_app] at h2
 rw [h1, List.length_append] at h3
 omega
end Go.Pal
namespace Go.Proofs.YtgnlebnpnpjfmaaGreatDoor
open Go Go.RowKit Go.Pal
attribute [local go_sem] Oper.semAt_some
set_option maxRecDepth 100000 in
set_option maxHeartbeats 8000000 in
theorem qdiff_any (p : Pol) (vp : Value) (w : World) (hp : RefP w vp p) (hpp : ∀ x ∈ p, 0 < x.2) (hup : Upto 4096 p) (hf : Fit (wt p * 4096)) (hlp : p.length ≤ 90000) :
   Calls Tryz.prog 48 #[vp] w fun e w' => ∃ v', e = .returned v' ∧ RefP w' v' (diffP p) ∧ Below w.heap.size w w' := by
 obtain ⟨pa, pc, rfl⟩ := refP_sl hp
 have HP := Lib.hid hp
 have HPP := Lib.hid hpp
 have HUP := Lib.hid hup
 have HF := Lib.hid hf
 have HDW := Lib.hid fun j => diffL_wt hup j
 clear hp hpp hup hf
 go_enter Tryz.func48, Tryz.ntmps48
 go_wp2_with fail
 go_loopw [3, 4] (fun v3 i wr => ∃ j : Nat, j ≤ p.length ∧ i = .int .i64 (j : Int) ∧ RefP wr v3 (padd [] (diffL (p.take j))) ∧ Below w.heap.size w wr) (fun _ i _ => p.length - (intOf i).toNat)
 case atStart => exact ⟨0, Nat.zero_le _, rfl, refP_nil w, Below.refl _ _⟩
 case round =>
   obtain ⟨j, hj, rfl, hA, hb⟩ := hrel
   obtain ⟨aa, ac, rfl⟩ := refP_sl hA
   have HB := Lib.hid hb
   have HA := Lib.hid hA
   obtain ⟨al, hal⟩ : ∃ n, n = (padd [] (diffL (p.take j))).length := ⟨_, rfl⟩
   rw [← hal] at HA ⊢
   clear hb hA hal
   rcases Nat.lt_or_ge j p.length with hj2 | hj2
   · obtain ⟨⟨ke, m⟩, hx⟩ : ∃ x, p[j]? = some x := ⟨_, List.getElem?_eq_getElem hj2⟩
     obtain ⟨b, off, s1, s2, s3, rfl, hrv, hcc⟩ := refP_at HP.out hx
     have hdj : decide (j < p.length) = true := decide_eq_true hj2
     have HC := Lib.hid hcc
     have HRV := Lib.hid hrv
     have hmem := List.mem_of_getElem? hx
     have hke := HUP.out _ hmem
     have hk1 : ke.1 ≤ 4096 := hke.1
     have hk2 : ke.2 ≤ 4096 := hke.2
     have HM := Lib.hid (show 0 < m ∧ Fit m from ⟨HPP.out _ hmem, HF.out.mono (by have h : m ≤ wt p := wt_mem hmem; omega)⟩)
     have HN := Lib.hid (diffL_take hx)
     obtain ⟨k0', k1, k2⟩ := hcc wr HB.out
     have k0 : wr.cell? ⟨b, off + j * 3, none⟩ = some (.slice s1 s2 s3) := k0'
     clear hcc hrv hx hmem hke k0'
     rcases Nat.eq_zero_or_pos ke.1 with h0 | h0
     · have hd0 : decide (0 < ke.1) = false := decide_eq_false (by omega)
       have HNX := Lib.hid (show diffL (p.take (j + 1)) = diffL (p.take j) from by rw [HN.out]; unfold diffT; rw [if_pos h0, List.append_nil])
       have HAX := Lib.hid HA.out
       rw [← HNX.out] at HAX
       clear h0
       go_wp2_with fail
       go_roundw
       case rel => exact ⟨j + 1, by omega, by go_num, HAX.out, HB.out⟩
       case measure => simp [intOf]; omega
     · have hd0 : decide (0 < ke.1) = true := decide_eq_true h0
       have hn0 : ¬ ke.1 = 0 := by omega
       have HNX := Lib.hid (show diffL (p.take (j + 1)) = diffL (p.take j) ++ [((ke.1 - 1, ke.2), m * ke.1)] from by rw [HN.out]; unfold diffT; rw [if_neg hn0])
       go_wp2_with fail
       refine wp_region_mix (fun W => Below w.heap.size w W) 28 [(0, true), (1, true), (2, true), (3, true), (4, true), (5, true), (6, true), (7, true), (8, true), (9, true), (10, true), (11, true), (14, true), (15, true), (16, true), (17, true), (18, true), (19, true), (20, true), (21, true), (22, true), (23, true), (24, true), (12, false), (13, false), (25, true), (26, false), (27, false)] (by kernel_rfl) (by kernel_rfl) HB.out.drew ?_
       have B0 := Lib.hid HB.out.drew
       have hbI0 : Below wr.heap.size wr wr.drew := (Below.refl _ _).drew
       repeat (apply wpPlan_still rfl rfl; (intro w hw; obtain ⟨l0', k1, k2⟩ := HC.out w hw; have l0 : w.cell? ⟨b, off + j * 3, none⟩ = some (.slice s1 s2 s3) := l0'; clear hw l0'; go_simp; (try go_ints); (first | with_reducible rfl | (go_simp; with_reducible rfl))); (intro K hK; go_simp; (try go_ints); refine hK _ _ ?_; clear hK K))
       apply wpPlan_act rfl rfl
       intro K' hK'
       unfold Oper.wp
       go_simp
       refine (dof_any ke.1 (by omega) _).mono ?_
       rintro e w1 ⟨v1, rfl, h1, b1⟩
       have bb1 : Below w.heap.size w w1 := B0.out.trans (b1.mono B0.out.size)
       refine hK' _ _ bb1 ?_
       clear hK' K'
       have B1 := Lib.hid bb1
       have H1 := Lib.hid h1
       clear bb1 h1
       apply wpPlan_act rfl rfl
       intro K' hK'
       unfold Oper.wp
       go_simp
       refine (dmul_any m ke.1 _ _ _ (HRV.out.below B1.out) H1.out HM.out.2 (fit_of (k := 64) (by omega) (by unfold fitK; decide))).mono ?_
       rintro e w2 ⟨v2, rfl, h2, b2⟩
       obtain ⟨na, nc, rfl, -, -⟩ := id h2
       obtain ⟨nl, hnl⟩ : ∃ l, l = (digB 10 (m * ke.1)).length := ⟨_, rfl⟩
       rw [← hnl] at h2 ⊢
       have bb2 : Below w.heap.size w w2 := B1.out.trans (b2.mono B1.out.size)
       refine hK' _ _ bb2 ?_
       clear hK' K' hnl
       have B2 := Lib.hid bb2
       have H2 := Lib.hid h2
       have HA2 := Lib.hid (((HA.out.below hbI0).below b1).below b2)
       clear bb2 h2 hbI0 b1 b2
       repeat (apply wpPlan_still rfl rfl; (intro w hw; clear hw; go_simp; (try go_ints); (first | with_reducible rfl | (go_simp; with_reducible rfl))); (intro K hK; go_simp; (try go_ints); refine hK _ _ ?_; clear hK K))
       apply wpPlan_act rfl rfl
       intro K' hK'
       unfold Oper.wp
       go_simp
       have e1 : (ke.1 : Int) - 1 = ((ke.1 - 1 : Nat) : Int) := by omega
       rw [e1]
       clear e1
       have hbl : Below w2.heap.size w2 (w2.alloc (.cells (tA ((na, nl, nc), (ke.1 - 1, ke.2))) 104)) := (Below.refl _ _).alloc (Nat.le_refl _) _
       have hone := own_ref (own_one w2 (na, nl, nc) (ke.1 - 1, ke.2)) (tells_one _ na nl nc (ke.1 - 1, ke.2) (m * ke.1) (H2.out.below hbl))
       have HA3 := Lib.hid (HA2.out.below hbl)
       have bb3 := B2.out.trans (hbl.mono B2.out.size)
       have H3 := Lib.hid hone
       have B3 := Lib.hid bb3
       obtain ⟨W3, hW3⟩ : ∃ W, w2.alloc (.cells (tA ((na, nl, nc), (ke.1 - 1, ke.2))) 104) = W := ⟨_, rfl⟩
       rw [hW3] at HA3 H3 B3 bb3
       obtain ⟨gq, hgq⟩ : ∃ g, g = w2.heap.size := ⟨_, rfl⟩
       rw [← hgq] at H3 ⊢
       rw [show w2.alloc (.cells #[.slice na nl nc, .int .i64 ((ke.1 - 1 : Nat) : Int), .int .i64 (ke.2 : Int)] 104) = W3 from hW3]
       refine hK' _ _ bb3 ?_
       clear hK' K' hW3 hgq hone hbl bb3 HA2 H2
       have hwt := HDW.out (j + 1)
       rw [HNX.out, wt_app, List.length_append] at hwt
       have hw1 : wt [((ke.1 - 1, ke.2), m * ke.1)] = m * ke.1 := by simp [wt, lin]
       rw [hw1] at hwt
       have HFF := Lib.hid (show Fit (wt (padd [] (diffL (p.take j))) + wt [((ke.1 - 1, ke.2), m * ke.1)]) ∧ (padd [] (diffL (p.take j))).length + [((ke.1 - 1, ke.2), m * ke.1)].length ≤ 100000 from by
         have h4 := len_nil0 (diffL (p.take j))
         simp only [List.length_cons, List.length_nil] at hwt ⊢
         exact ⟨HF.out.mono (by rw [wt_nil0, hw1]; omega), by omega⟩)
       have HPO := Lib.hid (show 0 < m * ke.1 from Nat.mul_pos HM.out.1 h0)
       clear hwt hw1
       apply wpPlan_act rfl rfl
       intro K' hK'
       unfold Oper.wp
       go_simp
       refine (qadd_any _ [((ke.1 - 1, ke.2), m * ke.1)] _ _ _ HA3.out H3.out (fun x hx => by rw [List.mem_singleton] at hx; rw [hx]; exact HPO.out) HFF.out.1 HFF.out.2).mono ?_
       rintro e w4 ⟨v4, rfl, h4, b4⟩
       rw [← padd_append, ← HNX.out] at h4
       have bb4 := B3.out.trans (b4.mono B3.out.size)
       refine hK' _ _ bb4 ?_
       clear hK' K'
       obtain ⟨a4, c4, rfl⟩ := refP_sl h4
       have H4 := Lib.hid h4
       have B4 := Lib.hid bb4
       clear h4 b4 bb4
       refine wpPlan_nil ?_
       simp only [List.drop_succ_cons, List.drop_zero]
       go_wp2_with fail
       go_roundw
       case rel => exact ⟨j + 1, by omega, by go_num, H4.out, B4.out⟩
       case measure => simp [intOf]; omega
   · have hkl : p.take j = p := List.take_of_length_le hj2
     have hdj : decide (j < p.length) = false := decide_eq_false (by omega)
     rw [hkl] at HA
     clear hkl
     go_wp2_with fail
     go_ret
     exact ⟨_, rfl, HA.out, HB.out⟩
end Go.Proofs.YtgnlebnpnpjfmaaGreatDoor
