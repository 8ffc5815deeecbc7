/- Walks of package polynomial: with, made, Monomial, term, Zero, One, X, Y, Coefficient, .. -/
import Derived.Test.YtgnlebnpnpjfmaaGreatDoorUOA
set_option maxHeartbeats 1000000
set_option maxRecDepth 10000
set_option linter.all false
namespace Go.Pal
open Go Go.RowKit
theorem wpList_putP {P : Program} {ops : Array Oper} {rest : List Oper} {o : Oper} {a : Act} {Q : Exit → Act → World → Prop} {w w' : World} (hg : o.guard = none) (m x v : Operand) (t : TypeId) (hop : o.op = Op.mapUpdate t m x v)
   {mv xv vv : Value} (hm : a.eval m = mv) (hx : a.eval x = xv) (hv : a.eval v = vv) (hrun : (Instr.mapUpdate t mv xv vv).run P w = .ok () w')
   (hK : wpList P ops Q rest (a.put o.dst undef) w') : wpList P ops Q (o :: rest) a w := by
 refine wpList_plain hg fun K' hK' => ?_
 unfold Oper.wp
 simp [execOp, hop, hm, hx, hv, hrun, Result.andThen]
 exact hK' _ _ hK
theorem same_some (w : World) (g : Nat) (c : Array Value) : Same (fun j => some g ≠ some j) w (w.setRow g c) := Same.setRow _ _ _ _ (fun h => h rfl)
theorem hdr_sl (hd : Hdr) : ∃ a n c, hdrS hd = .slice a n c := ⟨_, _, _, rfl⟩
end Go.Pal
namespace Go.Proofs.YtgnlebnpnpjfmaaGreatDoor
open Go Go.RowKit Go.Pal
theorem natV_hd {w : World} {v : Value} {n : Nat} (h : NatV w v n) (hn : 0 < n) : ∃ hd : Hdr, v = .agg #[hdrS hd] ∧ NatV w (hdrV hd) n := by
 obtain ⟨hd, rfl⟩ := natV_hdr h hn
 exact ⟨hd, rfl, h⟩
theorem pwith_any (mb : Nat) (p : Pol) (k : Ex) (hk : k.1 ≤ 2048 ∧ k.2 ≤ 2048) (n : Nat) (vn : Value) (w : World) (hp : PMap w mb p) (hn : NatV w vn n) (hfit : Fit (coefP p k + n)) (hlen : p.length < 1000000) :
   Calls Tryz.prog 58 #[.agg #[.map (some mb)], .agg #[.int .i64 (k.1 : Int), .int .i64 (k.2 : Int)], vn] w fun e w' => e = .returned (.tuple #[]) ∧ PMap w' mb (addT p (k, n)) ∧ Same (fun j => j ≠ mb) w w' := by
 obtain ⟨sa, sc, rfl, hra⟩ := natV_sl hn
 obtain ⟨W0, hW0⟩ : ∃ W0, ((w.alloc (.cells #[.map (some mb)] 24)).alloc (.cells #[.int .i64 (k.1 : Int), .int .i64 (k.2 : Int)] 90)).alloc (.cells #[.slice sa (digB 4294967296 n).length sc] 49) = W0 := ⟨_, rfl⟩
 have hb0 : Below w.heap.size w W0 := by
   rw [← hW0]
   exact (((Below.refl _ _).alloc (Nat.le_refl _) _).alloc (by simp) _).alloc (by simp; omega) _
 have e0 : row? W0 w.heap.size = some #[.map (some mb)] := by rw [← hW0]; simp [go_sem]
 have e1 : row? W0 (w.heap.size + 1) = some #[.int .i64 (k.1 : Int), .int .i64 (k.2 : Int)] := by rw [← hW0]; simp [go_sem]
 have e2 : row? W0 (w.heap.size + 1 + 1) = some #[.slice sa (digB 4294967296 n).length sc] := by rw [← hW0]; simp [go_sem]
 obtain ⟨L, hL⟩ : ∃ L, L = (digB 4294967296 n).length := ⟨_, rfl⟩
 rw [← hL] at hW0 e2 hn ⊢
 have HP := Lib.hid (hp.below hb0)
 have HN := Lib.hid (hn.below hb0)
 have HF := Lib.hid hfit
 have HB0 := Lib.hid hb0
 have HR := Lib.hid fun W (hb : Below W0.heap.size W0 W) => And.intro ((row?_below hb (row?_lt e0)).trans e0) (And.intro ((row?_below hb (row?_lt e1)).trans e1) ((row?_below hb (row?_lt e2)).trans e2))
 have HZ := Lib.hid (nisZero_any n _ W0 (hn.below hb0))
 have HW := Lib.hid hW0
 clear hp hn hra hfit hL hb0 e0 e1 e2 hW0
 go_enter Tryz.func58, Tryz.ntmps58
 go_wp2_with fail
 rw [HW.out]
 refine HZ.out.mono ?_
 rintro r w1 ⟨rfl, hb1⟩
 have HB1 := Lib.hid hb1
 rcases Nat.eq_zero_or_pos n with h0 | h0
 · have hd0 : decide (n = 0) = true := by rw [h0]; rfl
   have H0 := Lib.hid h0
   clear h0 hb1 HZ
   go_wp2_with fail
   go_end0
   refine ⟨rfl, ?_, (Same.of_below (HB0.out.trans (HB1.out.mono HB0.out.size))).mono fun j hj _ => hj⟩
   have : addT p (k, n) = p := by unfold addT; rw [if_pos H0.out]
   rw [this]
   exact HP.out.below HB1.out
 · have hd0 : decide (n = 0) = false := decide_eq_false (by omega)
   obtain ⟨q1, q2, q3⟩ := HR.out w1 hb1
   have hPM : PolM w1 (some mb) p := .inr ⟨mb, rfl, HP.out.below hb1⟩
   obtain ⟨hd, hlk, hnv⟩ := hPM.look (k.1 : Int) (k.2 : Int) (by unfold InI; omega) (by unfold InI; omega)
   replace hnv : NatV w1 (hdrV hd) (coefP p k) := by rw [coefZ_nat] at hnv; exact hnv
   have HLK := Lib.hid hlk
   have HNV := Lib.hid hnv
   have HR1 := Lib.hid fun W (hb : Below w1.heap.size w1 W) => show W.cell? ⟨w.heap.size, 0, none⟩ = some (.map (some mb)) ∧ row? W (w.heap.size + 1) = some #[.int .i64 (k.1 : Int), .int .i64 (k.2 : Int)] ∧ row? W (w.heap.size + 1 + 1) = some #[.slice sa L sc] from
     ⟨cell?_row (i := 0) ((row?_below hb (row?_lt q1)).trans q1), (row?_below hb (row?_lt q2)).trans q2, (row?_below hb (row?_lt q3)).trans q3⟩
   have H0 := Lib.hid h0
   clear h0 hb1 HZ q1 q2 q3 hPM hlk hnv HW
   go_wp2_with fail
   refine wp_region_mix (fun W => Below w1.heap.size w1 W) 9 [(0, true), (1, true), (2, true), (3, true), (4, true), (5, true), (6, true), (7, true), (8, false)] (by kernel_rfl) (by kernel_rfl) (Below.refl _ _).drew ?_
   repeat (apply wpPlan_still rfl rfl; (intro w hw; obtain ⟨k1, k2, k3⟩ := HR1.out w hw; have k4 := HLK.out w hw; clear hw; go_simp; (try go_ints); (first | with_reducible rfl | (go_simp; with_reducible rfl))); (intro K hK; go_simp; (try go_ints); refine hK _ _ ?_; clear hK K))
   apply wpPlan_act rfl rfl
   intro K hK
   unfold Oper.wp
   go_simp
   refine (nadd_any _ _ _ _ _ (HNV.out.below (Below.refl _ _).drew) ((HN.out.below HB1.out).below (Below.refl _ _).drew) (HF.out.mono (by omega)) (HF.out.mono (by omega))).mono ?_
   rintro r w2 ⟨v2, rfl, hv2, hb2⟩
   have hb3 : Below w1.heap.size w1 w2 := (Below.refl _ _).drew.trans hb2
   refine hK _ _ hb3 ?_
   clear hK K hb2
   obtain ⟨h2, rfl, hv2⟩ := natV_hd hv2 (by have := H0.out; omega)
   obtain ⟨w3, hrun, hP3, hS3, hsz3⟩ := ((HP.out.below HB1.out).below hb3).put k hk n H0.out h2 hv2 hlen
   have HP3 := Lib.hid hP3
   have HS3 := Lib.hid hS3
   have HB3 := Lib.hid hb3
   clear hv2 hb3 hP3 hS3
   refine wpPlan_nil ?_
   simp only [List.drop_succ_cons, List.drop_zero]
   refine wpList_putP rfl _ _ _ _ rfl rfl rfl rfl hrun ?_
   go_wp2_with fail
   go_end0
   refine ⟨rfl, HP3.out, ?_⟩
   exact ((Same.of_below (HB0.out.trans ((HB1.out.trans (HB3.out.mono HB1.out.size)).mono HB0.out.size))).mono fun j hj _ => hj).trans HS3.out
theorem pmade_any (w : World) : Calls Tryz.prog 56 #[] w fun e w' => ∃ mb, e = .returned (.agg #[.map (some mb)]) ∧ PMap w' mb [] ∧ w.heap.size ≤ mb ∧ Below w.heap.size w w' := by
 have hmm := @run_makeMap Tryz.prog
 have HM := Lib.hid (PMap.made (w.alloc (.cells #[.map (some (w.heap.size + 1))] 24)))
 go_enter Tryz.func56, Tryz.ntmps56
 go_wp2_with fail
 refine ret_row w.heap.size #[.map (some (w.heap.size + 1))] rfl Tryz.isAgg24 Tryz.sizeOf24 rfl rfl (by simp [go_sem]) rfl ?_
 refine ⟨_, rfl, ?_, Nat.le_succ _, ?_⟩
 · have h := HM.out
   rw [World.size_alloc] at h
   exact h
 · (repeat' (first | (with_reducible first | exact Below.refl _ _ | assumption | refine Below.alloc ?_ ?_ _ | refine Below.drew ?_ | refine Below.setCell ?_ ?_ _ | refine below_setRow ?_ ?_ _ | exact Nat.le_refl _) | omega | (simp; done) | (simp; omega) | (simp at *; omega)))
theorem pzero_any (w : World) : Calls Tryz.prog 22 #[] w fun e w' => e = .returned (.agg #[.map none]) ∧ Below w.heap.size w w' := by
 go_enter Tryz.func22, Tryz.ntmps22
 go_wp2_with fail
 refine ret_row w.heap.size #[.map none] rfl Tryz.isAgg24 Tryz.sizeOf24 rfl rfl (by simp [go_sem]) rfl ?_
 refine ⟨rfl, ?_⟩
 (repeat' (first | (with_reducible first | exact Below.refl _ _ | assumption | refine Below.alloc ?_ ?_ _ | refine Below.drew ?_ | refine Below.setCell ?_ ?_ _ | refine below_setRow ?_ ?_ _ | exact Nat.le_refl _) | omega | (simp; done) | (simp; omega) | (simp at *; omega)))
theorem polV_zero (w : World) : PolV w (.agg #[.map none]) [] := ⟨none, rfl, .inl ⟨rfl, rfl⟩⟩
theorem pnum_any (p : Pol) (v : Value) (w : World) (h : PolV w v p) : Calls Tryz.prog 41 #[v] w fun e w' => e = .returned (.int .i64 (p.length : Int)) ∧ Below w.heap.size w w' := by
 obtain ⟨m, rfl, hm⟩ := h
 have hl := (hm.below ((Below.refl _ _).alloc (Nat.le_refl _) (.cells #[.map m] 24))).len
 clear hm
 go_enter Tryz.func41, Tryz.ntmps41
 go_wp2_with fail
 go_ret
 refine ⟨rfl, ?_⟩
 (repeat' (first | (with_reducible first | exact Below.refl _ _ | assumption | refine Below.alloc ?_ ?_ _ | refine Below.drew ?_ | refine Below.setCell ?_ ?_ _ | refine below_setRow ?_ ?_ _ | exact Nat.le_refl _) | omega | (simp; done) | (simp; omega) | (simp at *; omega)))
theorem pcoef_any (p : Pol) (a b : Int) (ha : InI a) (hb : InI b) (v : Value) (w : World) (h : PolV w v p) : Calls Tryz.prog 39 #[v, .int .i64 a, .int .i64 b] w fun e w' => ∃ v', e = .returned v' ∧ NatV w' v' (coefZ p a b) ∧ Below w.heap.size w w' := by
 obtain ⟨m, rfl, hm⟩ := h
 obtain ⟨hd, hlk, hnv⟩ := hm.look a b ha hb
 have hb2 : Below w.heap.size w ((w.alloc (.cells #[.map m] 24)).alloc (.cells #[.slice none 0 0] 49)) := by
   (repeat' (first | (with_reducible first | exact Below.refl _ _ | assumption | refine Below.alloc ?_ ?_ _ | refine Below.drew ?_ | refine Below.setCell ?_ ?_ _ | refine below_setRow ?_ ?_ _ | exact Nat.le_refl _) | omega | (simp; done) | (simp; omega) | (simp at *; omega)))
 have hlk2 := hlk _ hb2
 obtain ⟨qa, qn, qc, hq⟩ := hdr_sl hd
 unfold hdrV at hnv
 rw [hq] at hlk2 hnv
 have HN := Lib.hid hnv
 clear hm hlk hnv ha hb hb2 hq
 go_enter Tryz.func39, Tryz.ntmps39
 go_wp2_with fail
 refine ret_row (w.heap.size + 1) #[.slice qa qn qc] rfl Tryz.isAgg49 Tryz.sizeOf49 rfl rfl (by simp [go_sem]) rfl ?_
 have hbl : Below w.heap.size w ((w.alloc (.cells #[.map m] 24)).alloc (.cells #[.slice qa qn qc] 49)) := by
   (repeat' (first | (with_reducible first | exact Below.refl _ _ | assumption | refine Below.alloc ?_ ?_ _ | refine Below.drew ?_ | refine Below.setCell ?_ ?_ _ | refine below_setRow ?_ ?_ _ | exact Nat.le_refl _) | omega | (simp; done) | (simp; omega) | (simp at *; omega)))
 exact ⟨_, rfl, HN.out.below hbl, hbl⟩
theorem pmono_bad (a b : Int) (hab : ¬ (0 ≤ a ∧ a ≤ 2048 ∧ 0 ≤ b ∧ b ≤ 2048)) (n : Nat) (vn : Value) (w : World) (hn : NatV w vn n) :
   Calls Tryz.prog 35 #[vn, .int .i64 a, .int .i64 b] w fun e w' => e = .returned (.tuple #[.agg #[.map none], .int .i64 2]) ∧ Below w.heap.size w w' := by
 obtain ⟨sa, sc, rfl, hra⟩ := natV_sl hn
 obtain ⟨L, hL⟩ : ∃ L, L = (digB 4294967296 n).length := ⟨_, rfl⟩
 rw [← hL] at hn ⊢
 clear hra hL hn
 have hend : ∀ W : World, W = (w.alloc (.cells #[.slice sa L sc] 49)).alloc (.cells #[.map none] 24) → Below w.heap.size w W ∧ row? W (w.heap.size + 1) = some #[.map none] := by
   rintro W rfl
   refine ⟨?_, by simp [go_sem]⟩
   (repeat' (first | (with_reducible first | exact Below.refl _ _ | assumption | refine Below.alloc ?_ ?_ _ | refine Below.drew ?_ | refine Below.setCell ?_ ?_ _ | refine below_setRow ?_ ?_ _ | exact Nat.le_refl _) | omega | (simp; done) | (simp; omega) | (simp at *; omega)))
 have HE := Lib.hid (hend _ rfl)
 clear hend
 by_cases h1 : a < 0
 · clear hab
   go_enter Tryz.func35, Tryz.ntmps35
   go_wp2_with fail
   exact ret_row_tmp (w.heap.size + 1) #[.map none] rfl Tryz.isAgg24 Tryz.sizeOf24 rfl rfl HE.out.2 rfl ⟨rfl, HE.out.1⟩
 by_cases h2 : 2048 < a
 · clear hab
   go_enter Tryz.func35, Tryz.ntmps35
   go_wp2_with fail
   exact ret_row_tmp (w.heap.size + 1) #[.map none] rfl Tryz.isAgg24 Tryz.sizeOf24 rfl rfl HE.out.2 rfl ⟨rfl, HE.out.1⟩
 by_cases h3 : b < 0
 · clear hab
   go_enter Tryz.func35, Tryz.ntmps35
   go_wp2_with fail
   exact ret_row_tmp (w.heap.size + 1) #[.map none] rfl Tryz.isAgg24 Tryz.sizeOf24 rfl rfl HE.out.2 rfl ⟨rfl, HE.out.1⟩
 by_cases h4 : 2048 < b
 · clear hab
   go_enter Tryz.func35, Tryz.ntmps35
   go_wp2_with fail
   exact ret_row_tmp (w.heap.size + 1) #[.map none] rfl Tryz.isAgg24 Tryz.sizeOf24 rfl rfl HE.out.2 rfl ⟨rfl, HE.out.1⟩
 · omega
theorem fit_small {n : Nat} (h : n < 18446744073709551616) : Fit n := fit_of (k := 64) (by simpa using h) (by decide)
theorem len0 : ([] : Pol).length < 1000000 := by simp
theorem pwith0_any (mb a b : Nat) (hab : a ≤ 2048 ∧ b ≤ 2048) (n : Nat) (v : Value) (W : World) (hf : Fit n) (h1 : PMap W mb []) (h2 : NatV W v n) : Calls Tryz.prog 58 #[.agg #[.map (some mb)], .agg #[.int .i64 (a : Int), .int .i64 (b : Int)], v] W fun e w' => e = .returned (.tuple #[]) ∧ PMap w' mb (addT [] ((a, b), n)) ∧ Same (fun j => j ≠ mb) W w' := by
 exact pwith_any mb [] (a, b) hab n v W h1 h2 (by rw [show coefP [] (a, b) = 0 from rfl, Nat.zero_add]; exact hf) len0
theorem pmono_any (a b : Nat) (hab : a ≤ 2048 ∧ b ≤ 2048) (n : Nat) (vn : Value) (w : World) (hn : NatV w vn n) (hf : Fit n) :
   Calls Tryz.prog 35 #[vn, .int .i64 (a : Int), .int .i64 (b : Int)] w fun e w' => ∃ v', e = .returned (.tuple #[v', .int .i64 0]) ∧ PolV w' v' (addT [] ((a, b), n)) ∧ Below w.heap.size w w' := by
 have HM := Lib.hid fun W => pmade_any W
 have HW := Lib.hid fun mb v W => pwith0_any mb a b hab n v W hf
 have d1 : decide ((a : Int) < 0) = false := decide_eq_false (by omega)
 have d2 : decide ((2048 : Int) < (a : Int)) = false := decide_eq_false (by omega)
 have d3 : decide ((b : Int) < 0) = false := decide_eq_false (by omega)
 have d4 : decide ((2048 : Int) < (b : Int)) = false := decide_eq_false (by omega)
 obtain ⟨sa, sc, rfl, hra⟩ := natV_sl hn
 obtain ⟨L, hL⟩ : ∃ L, L = (digB 4294967296 n).length := ⟨_, rfl⟩
 rw [← hL] at hn ⊢
 have HN := Lib.hid hn
 clear hra hL hn hf hab
 go_enter Tryz.func35, Tryz.ntmps35
 go_wp2_with fail
 obtain ⟨W0, hW0⟩ : ∃ W0, (w.alloc (.cells #[.slice sa L sc] 49)).alloc (.cells #[.map none] 24) = W0 := ⟨_, rfl⟩
 have e0 : row? W0 w.heap.size = some #[.slice sa L sc] := by rw [← hW0]; simp [go_sem]
 have e1 : row? W0 (w.heap.size + 1) = some #[.map none] := by rw [← hW0]; simp [go_sem]
 have hb0 : Below w.heap.size w W0 := by
   rw [← hW0]
   (repeat' (first | (with_reducible first | exact Below.refl _ _ | assumption | refine Below.alloc ?_ ?_ _ | refine Below.drew ?_ | refine Below.setCell ?_ ?_ _ | refine below_setRow ?_ ?_ _ | exact Nat.le_refl _) | omega | (simp; done) | (simp; omega) | (simp at *; omega)))
 rw [hW0]
 clear hW0
 refine (HM.out W0).mono ?_
 rintro r w1 ⟨mb, rfl, hp1, hmb, hb1⟩
 have r0 := (row?_below hb1 (row?_lt e0)).trans e0
 have r1 := (row?_below hb1 (row?_lt e1)).trans e1
 have l1 := row?_lt r1
 have l0 := row?_lt r0
 have HR := Lib.hid r1
 have HP := Lib.hid hp1
 have HB := Lib.hid (hb0.trans (hb1.mono hb0.size))
 have HN1 := Lib.hid ((HN.out.below hb0).below hb1)
 have hms : w.heap.size + 1 < mb := by have := row?_lt e1; omega
 clear e0 e1 hb0 hp1 hb1 r1 HN hmb
 go_wp2_with fail
 have hbA : Below w1.heap.size w1 (w1.alloc (.cells #[.map (some mb)] 24)) := (Below.refl _ _).alloc (Nat.le_refl _) _
 refine (HW.out mb _ _ (HP.out.below hbA) (HN1.out.below hbA)).mono ?_
 rintro r w2 ⟨rfl, hp2, hs2⟩
 have r2 := (row?_congr (hs2.block (w.heap.size + 1) (by simp; omega) (by omega))).trans ((row?_below hbA (by omega)).trans HR.out)
 have r3 := (row?_congr (hs2.block w1.heap.size (by simp) (by have := HP.out.lt; omega))).trans (row?_alloc_at w1 #[Value.map (some mb)] 24 w1.heap.size rfl)
 have HP2 := Lib.hid hp2
 have HB2 := Lib.hid (HB.out.trans ((hbA.mono HB.out.size).trans (hs2.below (by simp; have := HB.out.size; omega) fun j hj => by omega)))
 have l2 := row?_lt r2
 clear hp2 hs2 hbA HR
 go_wp2_with fail
 refine ret_row_tmp (w.heap.size + 1) #[.map (some mb)] rfl Tryz.isAgg24 Tryz.sizeOf24 rfl rfl (by simp [go_sem, r2]) rfl ?_
 refine ⟨_, rfl, ⟨some mb, rfl, .inr ⟨mb, rfl, ?_⟩⟩, below_setRow HB2.out (by omega) _⟩
 exact HP2.out.same (g := some (w.heap.size + 1)) (same_some _ _ _) (by simp; omega) (fun j hj x => by cases hj; rw [cell?_row r2]; simp)
theorem pterm_any (a b : Nat) (hab : a ≤ 2048 ∧ b ≤ 2048) (w : World) :
   Calls Tryz.prog 71 #[.int .i64 (a : Int), .int .i64 (b : Int)] w fun e w' => ∃ v', e = .returned v' ∧ PolV w' v' [((a, b), 1)] ∧ Below w.heap.size w w' := by
 have HM := Lib.hid fun v W (hn : NatV W v 1) => pmono_any a b hab 1 v W hn (fit_small (by decide))
 clear hab
 have HF := Lib.hid fun W => nfrom_any 1 (by decide) W
 go_enter Tryz.func71, Tryz.ntmps71
 go_wp2_with fail
 refine (HF.out _).mono ?_
 rintro r w1 ⟨v1, rfl, hv1, hb1⟩
 have r1 := (row?_below hb1 (by simp)).trans (row?_alloc_at w #[Value.map none] 24 w.heap.size rfl)
 have HR := Lib.hid r1
 have HB := Lib.hid (((Below.refl w.heap.size w).alloc (Nat.le_refl _) _).trans (hb1.mono (by simp)))
 have HN := Lib.hid hv1
 clear hb1 hv1 r1 HF
 go_wp2_with fail
 refine (HM.out _ _ HN.out).mono ?_
 rintro r w2 ⟨v2, rfl, ⟨m, rfl, hm⟩, hb2⟩
 have r2 := (row?_below hb2 (row?_lt HR.out)).trans HR.out
 have HB2 := Lib.hid (HB.out.trans (hb2.mono HB.out.size))
 have HP := Lib.hid hm
 have l2 := row?_lt r2
 clear hb2 hm HR HM
 go_wp2_with fail
 refine ret_row w.heap.size #[.map m] rfl Tryz.isAgg24 Tryz.sizeOf24 rfl rfl ((row?_alloc_past _ _ _ (by simpa using l2)).trans (row?_setRow_same _ _ _ (by rw [r2]; rfl))) rfl ?_
 have hbA : Below (w2.setRow w.heap.size #[.map m]).heap.size (w2.setRow w.heap.size #[.map m]) ((w2.setRow w.heap.size #[.map m]).alloc (.cells #[.map m] 24)) := (Below.refl _ _).alloc (Nat.le_refl _) _
 have hbS : Below w.heap.size w (w2.setRow w.heap.size #[.map m]) := below_setRow HB2.out (Nat.le_refl _) _
 refine ⟨_, rfl, ⟨m, rfl, ?_⟩, hbS.trans (hbA.mono hbS.size)⟩
 rcases HP.out with ⟨rfl, h0⟩ | ⟨mb, rfl, hp⟩
 · cases h0
 · refine .inr ⟨mb, rfl, ?_⟩
   have hne : mb ≠ w.heap.size := fun e => hp.noInt 0 (.map none) (by rw [e, cell?_row r2]; rfl)
   exact (hp.same (g := some w.heap.size) (same_some _ _ _) (by simpa using fun e => hne e.symm) (fun j hj x => by cases hj; rw [cell?_row r2]; simp)).below hbA
end Go.Proofs.YtgnlebnpnpjfmaaGreatDoor
