/- Walks of the reference's polynomials: Degree, At, digits. -/
import Derived.Test.YtgnlebnpnpjfmaaGreatDoorUOo
set_option maxHeartbeats 2000000
set_option maxRecDepth 100000
set_option linter.all false
namespace Go.Pal
theorem degP_snoc (p : Pol) (x : Ex × Nat) : degP (p ++ [x]) = (max (degP p).1 (x.1.1 : Int), max (degP p).2 (x.1.2 : Int)) := by
 unfold degP
 rw [List.foldl_append]
 rfl
theorem take_snoc {α : Type} {l : List α} {i : Nat} {x : α} (h : l[i]? = some x) : l.take (i + 1) = l.take i ++ [x] := by
 rw [List.take_add_one, h]
 rfl
end Go.Pal
namespace Go.Proofs.YtgnlebnpnpjfmaaGreatDoor
open Go Go.RowKit Go.Pal
attribute [local go_sem] Oper.semAt_some
theorem qdegree_any (p : Pol) (hl : p.length ≤ 100000) (v : Value) (w : World) (hv : RefP w v p) :
   Calls Tryz.prog 38 #[v] w fun e w' => e = .returned (.tuple #[.int .i64 (degP p).1, .int .i64 (degP p).2]) ∧ Below w.heap.size w w' := by
 obtain ⟨a, c, rfl⟩ := refP_sl hv
 have HV := Lib.hid hv
 clear hv
 go_enter Tryz.func38, Tryz.ntmps38
 go_wp2_with fail
 go_loopw [4, 5, 6] (fun x y i wr => ∃ j : Nat, j ≤ p.length ∧ i = .int .i64 (j : Int) ∧ x = .int .i64 (degP (p.take j)).1 ∧ y = .int .i64 (degP (p.take j)).2 ∧ Below w.heap.size w wr) (fun _ _ i _ => p.length - (intOf i).toNat)
 case atStart => exact ⟨0, Nat.zero_le _, rfl, rfl, rfl, Below.refl _ _⟩
 case round =>
   obtain ⟨j, hj, rfl, rfl, rfl, hb⟩ := hrel
   have HB := Lib.hid hb
   clear hb
   rcases Nat.lt_or_ge j p.length with hj2 | hj2
   · obtain ⟨⟨k, m⟩, hx⟩ : ∃ x, p[j]? = some x := ⟨_, List.getElem?_eq_getElem hj2⟩
     obtain ⟨b, off, s1, s2, s3, rfl, -, hcc⟩ := refP_at HV.out hx
     have hdj : decide (j < p.length) = true := decide_eq_true hj2
     have HC := Lib.hid hcc
     have HN := Lib.hid (show degP (p.take (j + 1)) = _ from by rw [take_snoc hx, degP_snoc])
     obtain ⟨d1, hd1⟩ : ∃ d1, d1 = (degP (p.take j)).1 := ⟨_, rfl⟩
     obtain ⟨d2, hd2⟩ : ∃ d2, d2 = (degP (p.take j)).2 := ⟨_, rfl⟩
     rw [← hd1, ← hd2] at HN ⊢
     clear hcc hx hd1 hd2
     go_wp2_with fail
     refine wp_region_mix (fun W => Below w.heap.size w W) 15 [(0, true), (1, true), (2, true), (3, true), (4, true), (5, true), (6, true), (7, true), (8, true), (9, true), (10, true), (11, true), (12, true), (13, true), (14, true)] (by kernel_rfl) (by kernel_rfl) HB.out.drew ?_
     repeat (apply wpPlan_still rfl rfl; (intro w hw; obtain ⟨k0, k1, k2⟩ := HC.out w hw; clear hw; go_simp; (try go_ints); (first | with_reducible rfl | (go_simp; with_reducible rfl))); (intro K hK; go_simp; (try go_ints); refine hK _ _ ?_; clear hK K))
     refine wpPlan_nil ?_
     simp only [List.drop_succ_cons, List.drop_zero]
     go_wp2_with fail
     go_roundw
     case rel => exact ⟨j + 1, by omega, by go_num, by rw [HN.out], by rw [HN.out], HB.out.drew⟩
     case measure => simp [intOf]; omega
   · have hkl : p.take j = p := List.take_of_length_le hj2
     have hdj : decide (j < p.length) = false := decide_eq_false (by omega)
     rw [hkl]
     clear hkl
     go_wp2_with fail
     go_ret2
     exact ⟨by first | rfl | simp [go_sem], HB.out⟩
theorem qat_any (p : Pol) (hp : Canon p) (hl : p.length ≤ 100000) (a b : Int) (ha : InI a) (hb : InI b) (v : Value) (w : World) (hv : RefP w v p) :
   Calls Tryz.prog 40 #[v, .int .i64 a, .int .i64 b] w fun e w' => ∃ v', e = .returned v' ∧ RefV w' v' (coefZ p a b) ∧ Below w.heap.size w w' := by
 obtain ⟨pa, c, rfl⟩ := refP_sl hv
 have HV := Lib.hid hv
 have HP := Lib.hid hp
 clear hv hp
 go_enter Tryz.func40, Tryz.ntmps40
 go_wp2_with fail
 go_loopw [7] (fun i wr => ∃ j : Nat, j ≤ p.length ∧ i = .int .i64 (j : Int) ∧ (∀ x ∈ p.take j, ¬ ((x.1.1 : Int) = a ∧ (x.1.2 : Int) = b)) ∧ Below w.heap.size w wr) (fun i _ => p.length - (intOf i).toNat)
 case atStart => exact ⟨0, Nat.zero_le _, rfl, by simp, Below.refl _ _⟩
 case round =>
   obtain ⟨j, hj, rfl, hno, hb⟩ := hrel
   have HB := Lib.hid hb
   have HNO := Lib.hid hno
   clear hb hno
   rcases Nat.lt_or_ge j p.length with hj2 | hj2
   · obtain ⟨⟨k, m⟩, hx⟩ : ∃ x, p[j]? = some x := ⟨_, List.getElem?_eq_getElem hj2⟩
     obtain ⟨bq, off, s1, s2, s3, rfl, hrv, hcc⟩ := refP_at HV.out hx
     have hdj : decide (j < p.length) = true := decide_eq_true hj2
     have HRV := Lib.hid hrv
     have HX := Lib.hid hx
     obtain ⟨k0', k1, k2⟩ := hcc _ HB.out
     have k0 : wr.cell? ⟨bq, off + j * 3, none⟩ = some (.slice s1 s2 s3) := k0'
     clear hcc hx hrv k0'
     by_cases h1 : (k.1 : Int) = a
     · by_cases h2 : (k.2 : Int) = b
       · have e1 : ((k.1 : Int) == a) = true := by rw [beq_iff_eq]; exact h1
         have e2 : ((k.2 : Int) == b) = true := by rw [beq_iff_eq]; exact h2
         have HE := Lib.hid (show coefZ p a b = m by
           rw [← h1, ← h2, coefZ_nat]
           exact mem_coef HP.out (List.mem_of_getElem? HX.out))
         clear h1 h2
         go_wp2_with fail
         go_ret
         exact ⟨_, rfl, by rw [HE.out]; exact HRV.out.below HB.out, HB.out⟩
       · have e1 : ((k.1 : Int) == a) = true := by rw [beq_iff_eq]; exact h1
         have e2 : ((k.2 : Int) == b) = false := by rw [beq_eq_false_iff_ne]; exact h2
         have HN := Lib.hid (show ∀ x ∈ p.take (j + 1), ¬ ((x.1.1 : Int) = a ∧ (x.1.2 : Int) = b) from by
           rw [take_snoc HX.out]
           intro x hx
           rcases List.mem_append.1 hx with hx | hx
           · exact HNO.out x hx
           · rw [List.mem_singleton] at hx
             subst hx
             exact fun e => h2 e.2)
         clear h1 h2
         go_wp2_with fail
         go_roundw
         case rel => exact ⟨j + 1, by omega, by go_num, HN.out, HB.out⟩
         case measure => simp [intOf]; omega
     · have e1 : ((k.1 : Int) == a) = false := by rw [beq_eq_false_iff_ne]; exact h1
       have HN := Lib.hid (show ∀ x ∈ p.take (j + 1), ¬ ((x.1.1 : Int) = a ∧ (x.1.2 : Int) = b) from by
         rw [take_snoc HX.out]
         intro x hx
         rcases List.mem_append.1 hx with hx | hx
         · exact HNO.out x hx
         · rw [List.mem_singleton] at hx
           subst hx
           exact fun e => h1 e.1)
       clear h1
       go_wp2_with fail
       go_roundw
       case rel => exact ⟨j + 1, by omega, by go_num, HN.out, HB.out⟩
       case measure => simp [intOf]; omega
   · have hkl : p.take j = p := List.take_of_length_le hj2
     have hdj : decide (j < p.length) = false := decide_eq_false (by omega)
     have HE := Lib.hid (show coefZ p a b = 0 from by
       unfold coefZ
       split
       · refine coef_none fun x hx e => ?_
         have h := HNO.out x (by rw [hkl]; exact hx)
         rw [e] at h
         simp only at h
         omega
       · rfl)
     clear hkl
     go_wp2_with fail
     go_ret
     refine ⟨_, rfl, ?_, HB.out⟩
     rw [HE.out]
     exact RdN.nil .i64 wr
theorem qdigits_any (n : Nat) (hn : n < 4611686018427387904) (w : World) : Calls Tryz.prog 95 #[.int .i64 (n : Int)] w fun e w' => e = .returned (.string ⟨(Lib.decDigits n).toArray⟩) ∧ Below w.heap.size w w' := by
 go_enter Tryz.func95, Tryz.ntmps95
 go_wp2_with fail
 refine (dof_any n (by omega) w).mono ?_
 rintro e w1 ⟨v1, rfl, h1, b1⟩
 have H1 := Lib.hid h1
 have B1 := Lib.hid b1
 clear h1 b1
 go_wp2_with fail
 refine (dtext_any n v1 w1 H1.out (fit_of (k := 64) (by omega) (by unfold fitK; decide))).mono ?_
 rintro e w2 ⟨rfl, b2⟩
 have B2 := Lib.hid (B1.out.trans (b2.mono B1.out.size))
 clear b2
 go_wp2_with fail
 go_ret
 exact ⟨rfl, B2.out⟩
end Go.Proofs.YtgnlebnpnpjfmaaGreatDoor
