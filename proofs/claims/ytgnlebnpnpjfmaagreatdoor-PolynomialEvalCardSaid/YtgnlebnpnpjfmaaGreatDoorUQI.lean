/- Walks of the reference's polynomials: Value. -/
import Derived.Test.YtgnlebnpnpjfmaaGreatDoorUQF
set_option linter.all false
namespace Go.Pal
theorem eval_snoc (p : Pol) (k : Ex) (m x y : Nat) : evalP (p ++ [(k, m)]) x y = evalP p x y + m * (x ^ k.1 * y ^ k.2) := by
 unfold evalP
 rw [lin_append]
 show _ + (x ^ k.1 * y ^ k.2 * m + 0) = _
 rw [Nat.add_zero, Nat.mul_comm m]
theorem eval_part (p : Pol) (i x y : Nat) : evalP (p.take i) x y ≤ evalP p x y := by
 have h : evalP p x y = evalP (p.take i) x y + evalP (p.drop i) x y := by
   unfold evalP
   rw [← lin_append, List.take_append_drop]
 omega
end Go.Pal
namespace Go.Proofs.YtgnlebnpnpjfmaaGreatDoor
open Go Go.RowKit Go.Pal
attribute [local go_sem] Oper.semAt_some
structure ValB (p : Pol) (x y : Nat) : Prop where
 val : Fit (evalP p x y)
 fx : Fit x
 fy : Fit y
 px : ∀ t ∈ p, Fit ((x + 1) ^ t.1.1)
 py : ∀ t ∈ p, Fit ((y + 1) ^ t.1.2)
 ml : ∀ t ∈ p, Fit (x ^ t.1.1 * y ^ t.1.2)
 num : Fit (wt p)
set_option maxRecDepth 100000 in
set_option maxHeartbeats 4000000 in
theorem qvalue_any (p : Pol) (x y : Nat) (hu : Upto 2048 p) (hB : ValB p x y) (hl : p.length ≤ 100000) (v vx vy : Value) (w : World) (hv : RefP w v p) (hx : RefV w vx x) (hy : RefV w vy y) :
   Calls Tryz.prog 29 #[v, vx, vy] w fun e w' => ∃ v', e = .returned v' ∧ RefV w' v' (evalP p x y) ∧ Below w.heap.size w w' := by
 obtain ⟨pa, c, rfl⟩ := refP_sl hv
 obtain ⟨xa, xc, rfl, -, -⟩ := id hx
 obtain ⟨xl, hxl⟩ : ∃ l, l = (digB 10 x).length := ⟨_, rfl⟩
 rw [← hxl] at hx ⊢
 obtain ⟨ya, yc, rfl, -, -⟩ := id hy
 obtain ⟨yl, hyl⟩ : ∃ l, l = (digB 10 y).length := ⟨_, rfl⟩
 rw [← hyl] at hy ⊢
 have HV := Lib.hid hv
 have HX := Lib.hid hx
 have HY := Lib.hid hy
 have HU := Lib.hid hu
 have HBD := Lib.hid hB
 clear hv hx hy hu hB hxl hyl
 go_enter Tryz.func29, Tryz.ntmps29
 go_wp2_with fail
 go_loopw [7, 8] (fun s i wr => ∃ j : Nat, j ≤ p.length ∧ i = .int .i64 (j : Int) ∧ RefV wr s (evalP (p.take j) x y) ∧ Below w.heap.size w wr) (fun _ i _ => p.length - (intOf i).toNat)
 case atStart => exact ⟨0, Nat.zero_le _, rfl, RdN.nil .i64 w, Below.refl _ _⟩
 case round =>
   obtain ⟨j, hj, rfl, hs, hb⟩ := hrel
   have HB := Lib.hid hb
   obtain ⟨sa, sc, rfl, -, -⟩ := id hs
   obtain ⟨sl, hsl⟩ : ∃ l, l = (digB 10 (evalP (p.take j) x y)).length := ⟨_, rfl⟩
   rw [← hsl] at hs ⊢
   have HS := Lib.hid hs
   clear hb hs hsl
   rcases Nat.lt_or_ge j p.length with hj2 | hj2
   · obtain ⟨⟨k, m⟩, hx⟩ : ∃ x, p[j]? = some x := ⟨_, List.getElem?_eq_getElem hj2⟩
     obtain ⟨b, off, s1, s2, s3, rfl, hrv, hcc⟩ := refP_at HV.out hx
     have hdj : decide (j < p.length) = true := decide_eq_true hj2
     have hmem := List.mem_of_getElem? hx
     have hk := HU.out _ hmem
     have hk1 : k.1 ≤ 2048 := hk.1
     have hk2 : k.2 ≤ 2048 := hk.2
     have HC := Lib.hid hcc
     have HRV := Lib.hid hrv
     have HN := Lib.hid (show evalP (p.take (j + 1)) x y = _ from by rw [take_snoc hx, eval_snoc])
     have HPX := Lib.hid (HBD.out.px _ hmem)
     have HPY := Lib.hid (HBD.out.py _ hmem)
     have HML := Lib.hid (HBD.out.ml _ hmem)
     have HM := Lib.hid (HBD.out.num.mono (wt_mem hmem))
     have HE := Lib.hid (show Fit (evalP (p.take j) x y) ∧ Fit (m * (x ^ k.1 * y ^ k.2)) from by
       have h1 := eval_part p (j + 1) x y
       rw [HN.out] at h1
       exact ⟨HBD.out.val.mono (by omega), HBD.out.val.mono (by omega)⟩)
     clear hcc hrv hx hmem hk
     go_wp2_with fail
     refine wp_region_mix (fun W => Below w.heap.size w W) 23 [(0, true), (1, true), (2, true), (3, true), (4, true), (5, true), (6, true), (7, true), (8, true), (9, true), (10, true), (11, true), (13, true), (14, true), (15, true), (16, true), (17, true), (18, true), (12, false), (19, false), (20, false), (21, false), (22, false)] (by kernel_rfl) (by kernel_rfl) HB.out.drew ?_
     repeat (apply wpPlan_still rfl rfl; (intro w hw; obtain ⟨k0', k1, k2⟩ := HC.out w hw; have k0 : w.cell? ⟨b, off + j * 3, none⟩ = some (.slice s1 s2 s3) := k0'; clear hw k0'; go_simp; (try go_ints); (first | with_reducible rfl | (go_simp; with_reducible rfl))); (intro K hK; go_simp; (try go_ints); refine hK _ _ ?_; clear hK K))
     have B0 := Lib.hid HB.out.drew
     apply wpPlan_act rfl rfl
     intro K' hK'
     unfold Oper.wp
     go_simp
     refine (dpower_any x k.1 _ _ (HX.out.below B0.out) HBD.out.fx HPX.out (by omega)).mono ?_
     rintro e w1 ⟨v1, rfl, h1, b1⟩
     have bb1 : Below w.heap.size w w1 := B0.out.trans (b1.mono B0.out.size)
     refine hK' _ _ bb1 ?_
     clear hK' K'
     have B1 := Lib.hid bb1
     have H1 := Lib.hid h1
     clear bb1 h1
     apply wpPlan_act rfl rfl
     intro K' hK'
     unfold Oper.wp
     go_simp
     refine (dpower_any y k.2 _ _ (HY.out.below B1.out) HBD.out.fy HPY.out (by omega)).mono ?_
     rintro e w2 ⟨v2, rfl, h2, b2⟩
     have bb2 : Below w.heap.size w w2 := B1.out.trans (b2.mono B1.out.size)
     refine hK' _ _ bb2 ?_
     clear hK' K'
     have B2 := Lib.hid bb2
     have H2 := Lib.hid h2
     have H12 := Lib.hid (H1.out.below b2)
     clear bb2 h2
     apply wpPlan_act rfl rfl
     intro K' hK'
     unfold Oper.wp
     go_simp
     refine (dmul_any _ _ _ _ _ H12.out H2.out (HPX.out.mono (Nat.pow_le_pow_left (Nat.le_succ x) _)) (HPY.out.mono (Nat.pow_le_pow_left (Nat.le_succ y) _))).mono ?_
     rintro e w3 ⟨v3, rfl, h3, b3⟩
     have bb3 : Below w.heap.size w w3 := B2.out.trans (b3.mono B2.out.size)
     refine hK' _ _ bb3 ?_
     clear hK' K'
     have B3 := Lib.hid bb3
     have H3 := Lib.hid h3
     clear bb3 h3
     apply wpPlan_act rfl rfl
     intro K' hK'
     unfold Oper.wp
     go_simp
     refine (dmul_any m _ _ _ _ (HRV.out.below B3.out) H3.out HM.out HML.out).mono ?_
     rintro e w4 ⟨v4, rfl, h4, b4⟩
     have bb4 : Below w.heap.size w w4 := B3.out.trans (b4.mono B3.out.size)
     refine hK' _ _ bb4 ?_
     clear hK' K'
     have B4 := Lib.hid bb4
     have H4 := Lib.hid h4
     have HS4 := Lib.hid (RefV.below (((((RefV.below HS.out (Below.refl _ _).drew).below b1).below b2).below b3)) b4)
     clear bb4 h4
     apply wpPlan_act rfl rfl
     intro K' hK'
     unfold Oper.wp
     go_simp
     refine (dadd_any _ _ _ _ _ HS4.out H4.out HE.out.1 HE.out.2).mono ?_
     rintro e w5 ⟨v5, rfl, h5, b5⟩
     have bb5 : Below w.heap.size w w5 := B4.out.trans (b5.mono B4.out.size)
     refine hK' _ _ bb5 ?_
     clear hK' K'
     have B5 := Lib.hid bb5
     have H5 := Lib.hid h5
     clear bb5 h5
     refine wpPlan_nil ?_
     simp only [List.drop_succ_cons, List.drop_zero]
     go_wp2_with fail
     go_roundw
     case rel => exact ⟨j + 1, by omega, by go_num, by rw [HN.out]; exact H5.out, B5.out⟩
     case measure => simp [intOf]; omega
   · have hkl : p.take j = p := List.take_of_length_le hj2
     have hdj : decide (j < p.length) = false := decide_eq_false (by omega)
     rw [hkl] at HS
     clear hkl
     go_wp2_with fail
     go_ret
     exact ⟨_, rfl, HS.out, HB.out⟩
end Go.Proofs.YtgnlebnpnpjfmaaGreatDoor
