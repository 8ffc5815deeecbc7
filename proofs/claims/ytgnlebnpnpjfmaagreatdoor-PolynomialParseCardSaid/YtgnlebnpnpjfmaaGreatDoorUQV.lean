/- Walks of the reference's polynomials: number, cut. -/
import Derived.Test.YtgnlebnpnpjfmaaGreatDoorUQF
import Derived.Test.YtgnlebnpnpjfmaaGreatDoorUPl
import Derived.Deep.Cut
import Derived.Deep.CutRange
import Derived.Deep.DeepCutAuto
import Derived.Deep.CutBlock
import Derived.OwnWalk
set_option maxHeartbeats 4000000
set_option maxRecDepth 100000
set_option linter.all false
namespace Go.Pal
theorem digP_of {s : List UInt8} {k : Nat} (h : ∀ x ∈ s.take k, isDig x) (hst : ∀ x, s[k]? = some x → ¬ isDig x) : digP s = s.take k := by
 unfold digP
 have e : s = s.take k ++ s.drop k := (List.take_append_drop k s).symm
 have h2 : (s.drop k).takeWhile (fun c => decide (isDig c)) = [] := by
   cases hd : s.drop k with
   | nil => rfl
   | cons x t =>
     have : s[k]? = some x := by
       have h3 : (s.drop k)[0]? = some x := by rw [hd]; rfl
       rwa [List.getElem?_drop, Nat.add_zero] at h3
     rw [List.takeWhile_cons, if_neg (by simpa using hst x this)]
 calc s.takeWhile (fun c => decide (isDig c)) = (s.take k ++ s.drop k).takeWhile (fun c => decide (isDig c)) := by rw [← e]
   _ = s.take k ++ (s.drop k).takeWhile (fun c => decide (isDig c)) := List.takeWhile_append_of_pos fun a ha => by simpa using h a ha
   _ = s.take k := by rw [h2, List.append_nil]
theorem str_upto (l : List UInt8) (k : Nat) : (⟨l.toArray⟩ : ByteArray).extract 0 k = ⟨(l.take k).toArray⟩ := by rw [str_part]; simp
end Go.Pal
namespace Go.Proofs.YtgnlebnpnpjfmaaGreatDoor
open Go Go.RowKit Go.Pal
attribute [local go_sem] Oper.semAt_some str_get str_upto str_from
theorem qnumber_any (s : List UInt8) (most : Nat) (hl : s.length ≤ 70000) (hm : most ≤ 70000) (w : World) :
   Calls Tryz.prog 59 #[.string ⟨s.toArray⟩, .int .i64 (most : Int)] w fun e w' => e = .returned (.tuple #[.string ⟨(digP s).toArray⟩, .string ⟨(s.drop (digP s).length).toArray⟩, .bool (rnumP s most).2.2]) ∧ Below w.heap.size w w' := by
 go_enter Tryz.func59, Tryz.ntmps59
 go_upto_block 0 with fail
 go_cut [7] from 8 to 25 (fun i wx => ∃ k : Nat, k ≤ s.length ∧ i = .int .i64 (k : Int) ∧ digP s = s.take k ∧ Below w.heap.size w wx)
 case first =>
   go_wp2_with fail
   go_loopw [7] (fun i wr => ∃ k : Nat, k ≤ s.length ∧ i = .int .i64 (k : Int) ∧ (∀ x ∈ s.take k, isDig x) ∧ Below w.heap.size w wr) (fun i _ => s.length - (intOf i).toNat)
   case atStart => exact ⟨0, by omega, rfl, by simp, Below.refl _ _⟩
   case round =>
     obtain ⟨k, hk, rfl, hD, hb⟩ := hrel
     have HD := Lib.hid hD
     have HB := Lib.hid hb
     clear hD hb
     by_cases hlt : k < s.length
     · obtain ⟨x, hx⟩ : ∃ x, s[k]? = some x := ⟨_, List.getElem?_eq_getElem hlt⟩
       have HX := Lib.hid hx
       obtain ⟨hk2, hx2⟩ := List.getElem?_eq_some_iff.1 hx
       clear hx
       by_cases hd : isDig x
       · have d1 : decide ((48 : Int) ≤ (x.toNat : Int)) = true := decide_eq_true (by have := hd.1; omega)
         have d2 : decide ((x.toNat : Int) ≤ 57) = true := decide_eq_true (by have := hd.2; omega)
         have d3 : (48 : Int) ≤ (x.toNat : Int) := by have := hd.1; omega
         have d4 : (x.toNat : Int) ≤ 57 := by have := hd.2; omega
         go_wp2_with fail
         go_roundw
         case rel =>
           refine ⟨k + 1, by omega, by go_num, ?_, HB.out⟩
           intro y hy
           rw [List.take_add_one, HX.out, Option.toList_some, List.mem_append, List.mem_singleton] at hy
           rcases hy with hy | rfl
           · exact HD.out y hy
           · exact hd
         case measure => simp [intOf]; omega
       · have HST := Lib.hid (digP_of HD.out (fun y hy => by rw [HX.out] at hy; cases hy; exact hd))
         by_cases d0 : x.toNat < 48
         · have d1 : decide ((48 : Int) ≤ (x.toNat : Int)) = false := decide_eq_false (by omega)
           have d3 : ¬ (48 : Int) ≤ (x.toNat : Int) := by omega
           go_wp2_with fail
           go_meet
           case rel => exact ⟨k, hk, rfl, HST.out, HB.out⟩
         · have d1 : decide ((48 : Int) ≤ (x.toNat : Int)) = true := decide_eq_true (by omega)
           have d2 : decide ((x.toNat : Int) ≤ 57) = false := decide_eq_false (by unfold isDig at hd; omega)
           have d3 : (48 : Int) ≤ (x.toNat : Int) := by omega
           have d4 : ¬ (x.toNat : Int) ≤ 57 := by unfold isDig at hd; omega
           go_wp2_with fail
           go_meet
           case rel => exact ⟨k, hk, rfl, HST.out, HB.out⟩
     · have HST := Lib.hid (digP_of HD.out (fun y hy => by rw [List.getElem?_eq_none (by omega)] at hy; cases hy))
       have h2 : decide ((k : Int) < (s.length : Int)) = false := decide_eq_false (by omega)
       go_wp2_with fail
       go_meet
       case rel => exact ⟨k, hk, rfl, HST.out, HB.out⟩
 case rest =>
   obtain ⟨k, hk, rfl, hdg, hb⟩ := hcut
   have HB := Lib.hid hb
   have HDG := Lib.hid hdg
   have hkl : (s.take k).length = k := by rw [List.length_take]; omega
   have HKL := Lib.hid hkl
   clear hb hdg hkl
   rcases Nat.eq_zero_or_pos k with h0 | h0
   · have d1 : decide (0 < k) = false := decide_eq_false (by omega)
     have HZ := Lib.hid h0
     clear h0
     have HBV := Lib.hid (show (rnumP s most).2.2 = false from by unfold rnumP; simp only [HDG.out, HKL.out]; (rw [HZ.out]; rfl))
     go_wp2_with fail
     refine wp_region_mix (fun W => W = wc.drew) 24 [(0, true), (1, true), (2, true), (3, true), (4, true), (5, true), (6, true), (7, true), (8, true), (9, true), (10, true), (11, true), (12, true), (13, true), (14, true), (15, true), (16, true), (17, true), (18, true), (19, true), (20, true), (21, true), (22, true), (23, true)] (by kernel_rfl) (by kernel_rfl) rfl ?_
     repeat (first | (apply wpPlan_still rfl rfl; (intro w hw; subst hw; go_simp; (try go_ints); (first | with_reducible rfl | (go_simp; with_reducible rfl))); (intro K hK; go_simp; (try go_ints); refine hK _ _ ?_; clear hK K)) | (apply wpPlan_stillG rfl rfl; (intro w hw; subst hw; go_simp; (try go_ints); (first | with_reducible rfl | (go_simp; with_reducible rfl))); (intro K hK; go_simp; (try go_ints); refine hK _ _ ?_; clear hK K)) | (apply wpPlan_skip rfl rfl; (intro K hK; go_simp; (try go_ints); refine hK _ _ ?_; clear hK K)))
     refine wpPlan_nil ?_
     simp only [List.drop_succ_cons, List.drop_zero]
     go_wp2_with fail
     go_ret3
     exact ⟨by rw [HBV.out, HDG.out, HKL.out]; rfl, HB.out.drew⟩
   · have d1 : decide (0 < k) = true := decide_eq_true h0
     by_cases h1 : k ≤ most
     · have d2 : decide (k ≤ most) = true := decide_eq_true h1
       by_cases h2 : k = 1
       · have d3 : ((k : Int) == 1) = true := by rw [beq_iff_eq]; omega
         have H2 := Lib.hid h2
         have HD12 := Lib.hid (And.intro d1 d2)
         clear h2
         have HBV := Lib.hid (show (rnumP s most).2.2 = true from by unfold rnumP; simp only [HDG.out, HKL.out]; (rw [HD12.out.1, HD12.out.2, H2.out]; rfl))
         go_wp2_with fail
         refine wp_region_mix (fun W => W = wc.drew) 24 [(0, true), (1, true), (2, true), (3, true), (4, true), (5, true), (6, true), (7, true), (8, true), (9, true), (10, true), (11, true), (12, true), (13, true), (14, true), (15, true), (16, true), (17, true), (18, true), (19, true), (20, true), (21, true), (22, true), (23, true)] (by kernel_rfl) (by kernel_rfl) rfl ?_
         repeat (first | (apply wpPlan_still rfl rfl; (intro w hw; subst hw; go_simp; (try go_ints); (first | with_reducible rfl | (go_simp; with_reducible rfl))); (intro K hK; go_simp; (try go_ints); refine hK _ _ ?_; clear hK K)) | (apply wpPlan_stillG rfl rfl; (intro w hw; subst hw; go_simp; (try go_ints); (first | with_reducible rfl | (go_simp; with_reducible rfl))); (intro K hK; go_simp; (try go_ints); refine hK _ _ ?_; clear hK K)) | (apply wpPlan_skip rfl rfl; (intro K hK; go_simp; (try go_ints); refine hK _ _ ?_; clear hK K)))
         refine wpPlan_nil ?_
         simp only [List.drop_succ_cons, List.drop_zero]
         go_wp2_with fail
         go_ret3
         exact ⟨by rw [HBV.out, HDG.out, HKL.out]; rfl, HB.out.drew⟩
       · have d3 : ((k : Int) == 1) = false := by rw [beq_eq_false_iff_ne]; omega
         obtain ⟨x, hx⟩ : ∃ x, s[0]? = some x := ⟨_, List.getElem?_eq_getElem (by omega)⟩
         have HX := Lib.hid hx
         obtain ⟨hk0, hx0⟩ := List.getElem?_eq_some_iff.1 hx
         have HD12 := Lib.hid (And.intro (And.intro d1 d2) (show decide (k = 1) = false from decide_eq_false h2))
         have HHD := Lib.hid (show s.head? = some x from by rw [List.head?_eq_getElem?]; exact hx)
         clear hx
         by_cases h3 : x.toNat = 48
         · have d4 : ((x.toNat : Int) == 48) = true := by rw [beq_iff_eq]; omega
           have d5 : (x.toNat : Int) = 48 := by omega
           have HX48 := Lib.hid (show x = 48 from UInt8.toNat_inj.1 h3)
           have HBV := Lib.hid (show (rnumP s most).2.2 = false from by unfold rnumP; simp only [HDG.out, HKL.out]; (rw [HD12.out.1.1, HD12.out.1.2, HD12.out.2, HHD.out, HX48.out]; rfl))
           go_wp2_with fail
           refine wp_region_mix (fun W => W = wc.drew) 24 [(0, true), (1, true), (2, true), (3, true), (4, true), (5, true), (6, true), (7, true), (8, true), (9, true), (10, true), (11, true), (12, true), (13, true), (14, true), (15, true), (16, true), (17, true), (18, true), (19, true), (20, true), (21, true), (22, true), (23, true)] (by kernel_rfl) (by kernel_rfl) rfl ?_
           repeat (first | (apply wpPlan_still rfl rfl; (intro w hw; subst hw; go_simp; (try go_ints); (first | with_reducible rfl | (go_simp; with_reducible rfl))); (intro K hK; go_simp; (try go_ints); refine hK _ _ ?_; clear hK K)) | (apply wpPlan_stillG rfl rfl; (intro w hw; subst hw; go_simp; (try go_ints); (first | with_reducible rfl | (go_simp; with_reducible rfl))); (intro K hK; go_simp; (try go_ints); refine hK _ _ ?_; clear hK K)) | (apply wpPlan_skip rfl rfl; (intro K hK; go_simp; (try go_ints); refine hK _ _ ?_; clear hK K)))
           refine wpPlan_nil ?_
           simp only [List.drop_succ_cons, List.drop_zero]
           go_wp2_with fail
           go_ret3
           exact ⟨by rw [HBV.out, HDG.out, HKL.out]; rfl, HB.out.drew⟩
         · have d4 : ((x.toNat : Int) == 48) = false := by rw [beq_eq_false_iff_ne]; omega
           have d5 : ¬ (x.toNat : Int) = 48 := by omega
           have d6 : ((x.toNat : Int) != 48) = true := by rw [bne, d4]; rfl
           have HX48 := Lib.hid (show decide (some x ≠ some (48 : UInt8)) = true from decide_eq_true (fun e => h3 (by rw [Option.some.inj e]; rfl)))
           have HBV := Lib.hid (show (rnumP s most).2.2 = true from by unfold rnumP; simp only [HDG.out, HKL.out]; (rw [HD12.out.1.1, HD12.out.1.2, HD12.out.2, HHD.out, HX48.out]; rfl))
           go_wp2_with fail
           refine wp_region_mix (fun W => W = wc.drew) 24 [(0, true), (1, true), (2, true), (3, true), (4, true), (5, true), (6, true), (7, true), (8, true), (9, true), (10, true), (11, true), (12, true), (13, true), (14, true), (15, true), (16, true), (17, true), (18, true), (19, true), (20, true), (21, true), (22, true), (23, true)] (by kernel_rfl) (by kernel_rfl) rfl ?_
           repeat (first | (apply wpPlan_still rfl rfl; (intro w hw; subst hw; go_simp; (try go_ints); (first | with_reducible rfl | (go_simp; with_reducible rfl))); (intro K hK; go_simp; (try go_ints); refine hK _ _ ?_; clear hK K)) | (apply wpPlan_stillG rfl rfl; (intro w hw; subst hw; go_simp; (try go_ints); (first | with_reducible rfl | (go_simp; with_reducible rfl))); (intro K hK; go_simp; (try go_ints); refine hK _ _ ?_; clear hK K)) | (apply wpPlan_skip rfl rfl; (intro K hK; go_simp; (try go_ints); refine hK _ _ ?_; clear hK K)))
           refine wpPlan_nil ?_
           simp only [List.drop_succ_cons, List.drop_zero]
           go_wp2_with fail
           go_ret3
           exact ⟨by rw [HBV.out, HDG.out, HKL.out]; rfl, HB.out.drew⟩
     · have d2 : decide (k ≤ most) = false := decide_eq_false h1
       have HD12 := Lib.hid (And.intro d1 d2)
       have HBV := Lib.hid (show (rnumP s most).2.2 = false from by unfold rnumP; simp only [HDG.out, HKL.out]; (rw [HD12.out.1, HD12.out.2]; rfl))
       go_wp2_with fail
       refine wp_region_mix (fun W => W = wc.drew) 24 [(0, true), (1, true), (2, true), (3, true), (4, true), (5, true), (6, true), (7, true), (8, true), (9, true), (10, true), (11, true), (12, true), (13, true), (14, true), (15, true), (16, true), (17, true), (18, true), (19, true), (20, true), (21, true), (22, true), (23, true)] (by kernel_rfl) (by kernel_rfl) rfl ?_
       repeat (first | (apply wpPlan_still rfl rfl; (intro w hw; subst hw; go_simp; (try go_ints); (first | with_reducible rfl | (go_simp; with_reducible rfl))); (intro K hK; go_simp; (try go_ints); refine hK _ _ ?_; clear hK K)) | (apply wpPlan_stillG rfl rfl; (intro w hw; subst hw; go_simp; (try go_ints); (first | with_reducible rfl | (go_simp; with_reducible rfl))); (intro K hK; go_simp; (try go_ints); refine hK _ _ ?_; clear hK K)) | (apply wpPlan_skip rfl rfl; (intro K hK; go_simp; (try go_ints); refine hK _ _ ?_; clear hK K)))
       refine wpPlan_nil ?_
       simp only [List.drop_succ_cons, List.drop_zero]
       go_wp2_with fail
       go_ret3
       exact ⟨by rw [HBV.out, HDG.out, HKL.out]; rfl, HB.out.drew⟩
theorem qcut_any (s f : List UInt8) (hl : s.length ≤ 70000) (w : World) :
   Calls Tryz.prog 62 #[.string ⟨s.toArray⟩, .string ⟨f.toArray⟩] w fun e w' => e = .returned (.tuple #[.string ⟨(rcutP f s).1.toArray⟩, .bool (rcutP f s).2]) ∧ Below w.heap.size w w' := by
 by_cases h1 : f.length ≤ s.length
 · have d1 : decide (f.length ≤ s.length) = true := decide_eq_true h1
   by_cases h2 : s.take f.length = f
   · have d2 : (s.take f.length == f) = true := by rw [beq_iff_eq]; exact h2
     have HP := Lib.hid (show rcutP f s = (s.drop f.length, true) from by
       unfold rcutP
       rw [if_pos]
       rw [List.isPrefixOf_iff_prefix, List.prefix_iff_eq_take]
       exact h2.symm)
     clear h2
     go_enter Tryz.func62, Tryz.ntmps62
     go_wp2_with fail
     go_ret2
     exact ⟨by rw [HP.out]; first | rfl | simp [go_sem], Below.refl _ _⟩
   · have d2 : (s.take f.length == f) = false := by rw [beq_eq_false_iff_ne]; exact h2
     have HP := Lib.hid (show rcutP f s = (s, false) from by
       unfold rcutP
       rw [if_neg]
       rw [List.isPrefixOf_iff_prefix, List.prefix_iff_eq_take]
       exact fun e => h2 e.symm)
     clear h2
     go_enter Tryz.func62, Tryz.ntmps62
     go_wp2_with fail
     go_ret2
     exact ⟨by rw [HP.out]; first | rfl | simp [go_sem], Below.refl _ _⟩
 · have d1 : decide (f.length ≤ s.length) = false := decide_eq_false h1
   have HP := Lib.hid (show rcutP f s = (s, false) from by
     unfold rcutP
     rw [if_neg]
     rw [List.isPrefixOf_iff_prefix]
     exact fun e => h1 e.length_le)
   go_enter Tryz.func62, Tryz.ntmps62
   go_wp2_with fail
   go_ret2
   exact ⟨by rw [HP.out]; first | rfl | simp [go_sem], Below.refl _ _⟩
end Go.Proofs.YtgnlebnpnpjfmaaGreatDoor
