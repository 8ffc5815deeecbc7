/- Walk of the laws of polynomials: PolynomialTerms. -/
import Derived.Test.YtgnlebnpnpjfmaaGreatDoorUQD
import Derived.Test.YtgnlebnpnpjfmaaGreatDoorUQE
import Derived.Test.YtgnlebnpnpjfmaaGreatDoorUQL
import Derived.Deep.Cut
import Derived.Deep.CutRange
import Derived.Deep.DeepCutAuto
set_option maxHeartbeats 16000000
set_option maxRecDepth 100000
set_option linter.all false
namespace Go.Proofs.YtgnlebnpnpjfmaaGreatDoor
open Go Go.RowKit Go.Pal Go.Shelf
attribute [local go_sem] Oper.semAt_some
theorem coefZ_le2 (p : Pol) (a b : Int) : coefZ p a b ≤ wt p := by
 unfold coefZ
 split
 · exact coef_le _ _
 · omega
theorem txTm {A B n : Nat} (hA : A ≤ 2048) (hB : B ≤ 2048) (hn : n < 18446744073709551616) : TxB (addT [] ((A, B), n)) := by
 have h1 := wt_addT [] ((A, B), n)
 have h2 := addT_len [] ((A, B), n)
 have h3 : wt ([] : Pol) = 0 := rfl
 simp only [List.length_nil] at h2
 refine txB (fun x hx => ?_) (by omega) (by omega)
 rcases mem_addT_key hx with e | ⟨y, hy, -⟩
 · rw [e]; exact ⟨hA, hB⟩
 · simp at hy
theorem plterms_ok (S : List Tm) (hS : ∀ t ∈ S, TmOk t) (n : Nat) (hn : n < 18446744073709551616) (A B : Nat) (hA : A ≤ 2048) (hB : B ≤ 2048) (va : Value) (w : World) (hva : Rd tmA 3 w.heap.size w va S) (hE : Env w) :
   Calls Tryz.prog 8 #[va, .int .u64 (n : Int), .agg #[.int .i64 (A : Int), .int .i64 (B : Int)]] w fun e w' => e = .returned (.bool true) ∧ Below w.heap.size w w' := by
 have hAI : InI (A : Int) := by unfold InI; omega
 have hBI : InI (B : Int) := by unfold InI; omega
 obtain ⟨P, hP⟩ : ∃ P, P = madeP 2048 (S.take 8) := ⟨_, rfl⟩
 have HM0 := Lib.hid fun W (hb : Below w.heap.size w W) => plmade_any 2048 (by decide) S hS va W ((hva.below hb (Nat.le_refl _)).mono hb.size)
 have HMDP := Lib.hid (show Made 2048 P from by rw [hP]; exact made_of 2048 hS)
 rw [← hP] at HM0
 have HE := Lib.hid hE
 have HS := Lib.hid hS
 have HVA := Lib.hid hva
 obtain ⟨sa, sc, rfl⟩ := hva.sl
 clear hva hE hP hS
 go_enter Tryz.func8, Tryz.ntmps8
 go_wp2_with fail
 have bA0 : Below w.heap.size w (w.alloc (.cells #[.int .i64 (A : Int), .int .i64 (B : Int)] 62)) := (Below.refl _ _).alloc (Nat.le_refl _) _
 have r0 : row? (w.alloc (.cells #[.int .i64 (A : Int), .int .i64 (B : Int)] 62)) w.heap.size = some #[.int .i64 (A : Int), .int .i64 (B : Int)] := row?_alloc_at _ _ _ _ rfl
 have c0 := (cell?_row (i := 0) r0).trans rfl
 have c1 := (cell?_row (i := 1) r0).trans rfl
 have BPre := Lib.hid bA0.drew
 refine wp_region_mix (fun W => W = World.drew (w.alloc (.cells #[.int .i64 (A : Int), .int .i64 (B : Int)] 62))) 5 [(0, true), (1, true), (2, true), (3, true), (4, true)] (by kernel_rfl) (by kernel_rfl) rfl ?_
 repeat (apply wpPlan_still rfl rfl; (intro w hw; subst hw; go_simp; (try go_ints); (first | with_reducible rfl | (go_simp; with_reducible rfl))); (intro K hK; go_simp; (try go_ints); refine hK _ _ ?_; clear hK K))
 refine wpPlan_nil ?_
 simp only [List.drop_succ_cons, List.drop_zero]
 clear bA0 r0
 go_wp2_with fail
 clear c0 c1
 refine (nfrom_any n hn _).mono ?_
 rintro e wa ⟨v7, rfl, h7, ba⟩
 obtain ⟨xa, xc, rfl, -⟩ := natV_sl h7
 obtain ⟨xl, hxl⟩ : ∃ l, l = (digB 4294967296 n).length := ⟨_, rfl⟩
 rw [← hxl] at h7 ⊢
 clear hxl
 have BA := Lib.hid (BPre.out.trans (ba.mono BPre.out.size))
 have H7 := Lib.hid h7
 clear ba h7
 go_wp2_with fail
 refine (pmono_any A B ⟨hA, hB⟩ n _ wa H7.out (fit_small hn)).mono ?_
 rintro e wb ⟨vt, rfl, h8, bb⟩
 obtain ⟨mt, rfl, h8⟩ := polV_map h8
 have mt0 := Lib.hid trivial
 obtain ⟨WX, hWX⟩ : ∃ W, wb.alloc (.cells #[.map mt] 24) = W := ⟨_, rfl⟩
 have bAl : Below wb.heap.size wb WX := by rw [← hWX]; exact (Below.refl _ _).alloc (Nat.le_refl _) _
 have r9 : row? WX wb.heap.size = some #[.map mt] := by rw [← hWX]; exact row?_alloc_at _ _ _ _ rfl
 have BX := Lib.hid ((BA.out.trans (bb.mono BA.out.size)).trans (bAl.mono (BA.out.trans (bb.mono BA.out.size)).size))
 have HTX := Lib.hid (h8.below bAl)
 have HEX := Lib.hid (HE.out.on BX.out)
 clear h8 bb bAl H7
 have hx1 : decide (A ≤ 2048) = true := decide_eq_true hA
 have hx2 : decide (B ≤ 2048) = true := decide_eq_true hB
 have hx3 : decide ((A : Int) ≤ 2048) = true := decide_eq_true (by omega)
 have hx4 : decide ((B : Int) ≤ 2048) = true := decide_eq_true (by omega)
 go_wp2_with fail
 obtain ⟨g9, hg9⟩ : ∃ g, g = wb.heap.size := ⟨_, rfl⟩
 rw [← hg9] at r9
 have HR := Lib.hid fun W (h : Below WX.heap.size WX W) => show row? W g9 = some #[.map mt] from (row?_below h (row?_lt r9)).trans r9
 rw [← hg9]
 clear hg9 r9 hWX
 refine wp_region_mix (fun W => Below WX.heap.size WX W) 34 [(0, false), (1, true), (2, true), (3, true), (4, true), (5, true), (6, true), (7, true), (8, true), (9, true), (10, true), (11, true), (12, true), (13, true), (14, true), (15, true), (16, false), (17, false), (18, true), (19, true), (20, true), (21, true), (22, true), (23, true), (24, true), (25, true), (26, true), (28, true), (29, true), (27, false), (30, false), (31, false), (32, true), (33, true)] (by kernel_rfl) (by kernel_rfl) (Below.refl _ _).drew ?_
 have bb0 : Below WX.heap.size WX WX.drew := (Below.refl _ _).drew
 obtain ⟨w0, hw0⟩ : ∃ W, WX.drew = W := ⟨_, rfl⟩
 rw [hw0] at bb0 ⊢
 have B0 := Lib.hid bb0
 clear hw0 bb0
 have HTB := Lib.hid (show TxB (addT [] ((A, B), n)) from txTm (by omega) (by omega) hn)
 (first | refine wpPlan_actG rfl rfl ?_ | apply wpPlan_act rfl rfl)
 intro K' hK'
 unfold Oper.wp
 go_simp
 refine (plknown_any _ (HEX.out.on B0.out)).mono ?_
 rintro e w1 ⟨rfl, b1⟩
 have bb1 : Below WX.heap.size WX w1 := B0.out.trans (b1.mono B0.out.size)
 refine hK' _ _ bb1 ?_
 clear hK' K'
 have B1 := Lib.hid bb1
 clear bb1
 clear b1 B0
 repeat (first | (apply wpPlan_still rfl rfl; (intro w hw; have k1 := HR.out w hw; clear hw; go_simp; (try go_ints); (first | with_reducible rfl | (go_simp; with_reducible rfl))); (intro K hK; go_simp; (try go_ints); refine hK _ _ ?_; clear hK K)) | (apply wpPlan_stillG rfl rfl; (intro w hw; have k1 := HR.out w hw; clear hw; go_simp; (try go_ints); (first | with_reducible rfl | (go_simp; with_reducible rfl))); (intro K hK; go_simp; (try go_ints); refine hK _ _ ?_; clear hK K)) | (apply wpPlan_skip rfl rfl; (intro K hK; go_simp; (try go_ints); refine hK _ _ ?_; clear hK K)))
 refine wpPlan_skipA (by exact B1.out) rfl rfl ?_
 intro K hK
 go_simp
 refine hK _ _ ?_
 clear hK K
 repeat (first | (apply wpPlan_still rfl rfl; (intro w hw; have k1 := HR.out w hw; clear hw; go_simp; (try go_ints); (first | with_reducible rfl | (go_simp; with_reducible rfl))); (intro K hK; go_simp; (try go_ints); refine hK _ _ ?_; clear hK K)) | (apply wpPlan_stillG rfl rfl; (intro w hw; have k1 := HR.out w hw; clear hw; go_simp; (try go_ints); (first | with_reducible rfl | (go_simp; with_reducible rfl))); (intro K hK; go_simp; (try go_ints); refine hK _ _ ?_; clear hK K)) | (apply wpPlan_skip rfl rfl; (intro K hK; go_simp; (try go_ints); refine hK _ _ ?_; clear hK K)))
 refine wpPlan_skipA (by exact B1.out) rfl rfl ?_
 intro K hK
 go_simp
 refine hK _ _ ?_
 clear hK K
 repeat (first | (apply wpPlan_still rfl rfl; (intro w hw; have k1 := HR.out w hw; clear hw; go_simp; (try go_ints); (first | with_reducible rfl | (go_simp; with_reducible rfl))); (intro K hK; go_simp; (try go_ints); refine hK _ _ ?_; clear hK K)) | (apply wpPlan_stillG rfl rfl; (intro w hw; have k1 := HR.out w hw; clear hw; go_simp; (try go_ints); (first | with_reducible rfl | (go_simp; with_reducible rfl))); (intro K hK; go_simp; (try go_ints); refine hK _ _ ?_; clear hK K)) | (apply wpPlan_skip rfl rfl; (intro K hK; go_simp; (try go_ints); refine hK _ _ ?_; clear hK K)))
 (first | refine wpPlan_actG rfl rfl ?_ | apply wpPlan_act rfl rfl)
 intro K' hK'
 unfold Oper.wp
 go_simp
 refine (dof_any n hn _).mono ?_
 rintro e w27 ⟨v27, rfl, h27, b27⟩
 obtain ⟨na27, nc27, rfl, -, -⟩ := id h27
 have bb27 : Below WX.heap.size WX w27 := B1.out.trans (b27.mono B1.out.size)
 refine hK' _ _ bb27 ?_
 clear hK' K'
 have B27 := Lib.hid bb27
 clear bb27
 have H27 := Lib.hid h27
 clear h27
 clear b27 B1
 repeat (first | (apply wpPlan_still rfl rfl; (intro w hw; have k1 := HR.out w hw; clear hw; go_simp; (try go_ints); (first | with_reducible rfl | (go_simp; with_reducible rfl))); (intro K hK; go_simp; (try go_ints); refine hK _ _ ?_; clear hK K)) | (apply wpPlan_stillG rfl rfl; (intro w hw; have k1 := HR.out w hw; clear hw; go_simp; (try go_ints); (first | with_reducible rfl | (go_simp; with_reducible rfl))); (intro K hK; go_simp; (try go_ints); refine hK _ _ ?_; clear hK K)) | (apply wpPlan_skip rfl rfl; (intro K hK; go_simp; (try go_ints); refine hK _ _ ?_; clear hK K)))
 (first | refine wpPlan_actG rfl rfl ?_ | apply wpPlan_act rfl rfl)
 intro K' hK'
 unfold Oper.wp
 go_simp
 refine (qof_any (A, B) n _ _ H27.out).mono ?_
 rintro e w30 ⟨v30, rfl, h30, b30⟩
 obtain ⟨ra30, rc30, rfl⟩ := refP_sl h30
 have bb30 : Below WX.heap.size WX w30 := B27.out.trans (b30.mono B27.out.size)
 refine hK' _ _ bb30 ?_
 clear hK' K'
 have B30 := Lib.hid bb30
 clear bb30
 have H30 := Lib.hid h30
 clear h30
 clear b30 B27 H27
 repeat (first | (apply wpPlan_still rfl rfl; (intro w hw; have k1 := HR.out w hw; clear hw; go_simp; (try go_ints); (first | with_reducible rfl | (go_simp; with_reducible rfl))); (intro K hK; go_simp; (try go_ints); refine hK _ _ ?_; clear hK K)) | (apply wpPlan_stillG rfl rfl; (intro w hw; have k1 := HR.out w hw; clear hw; go_simp; (try go_ints); (first | with_reducible rfl | (go_simp; with_reducible rfl))); (intro K hK; go_simp; (try go_ints); refine hK _ _ ?_; clear hK K)) | (apply wpPlan_skip rfl rfl; (intro K hK; go_simp; (try go_ints); refine hK _ _ ?_; clear hK K)))
 (first | refine wpPlan_actG rfl rfl ?_ | apply wpPlan_act rfl rfl)
 intro K' hK'
 unfold Oper.wp
 go_simp
 refine (plalike_any (addT [] ((A, B), n)) (addT [] ((A, B), n)) _ _ _ (HTX.out.below B30.out) H30.out HTB.out HTB.out (HEX.out.on B30.out)).mono ?_
 rintro e w31 ⟨rfl, b31⟩
 rw [decide_eq_true (show textP (addT [] ((A, B), n)) = textP (addT [] ((A, B), n)) from rfl)]
 have bb31 : Below WX.heap.size WX w31 := B30.out.trans (b31.mono B30.out.size)
 refine hK' _ _ bb31 ?_
 clear hK' K'
 have B31 := Lib.hid bb31
 clear bb31
 clear b31 B30 H30
 repeat (first | (apply wpPlan_still rfl rfl; (intro w hw; have k1 := HR.out w hw; clear hw; go_simp; (try go_ints); (first | with_reducible rfl | (go_simp; with_reducible rfl))); (intro K hK; go_simp; (try go_ints); refine hK _ _ ?_; clear hK K)) | (apply wpPlan_stillG rfl rfl; (intro w hw; have k1 := HR.out w hw; clear hw; go_simp; (try go_ints); (first | with_reducible rfl | (go_simp; with_reducible rfl))); (intro K hK; go_simp; (try go_ints); refine hK _ _ ?_; clear hK K)) | (apply wpPlan_skip rfl rfl; (intro K hK; go_simp; (try go_ints); refine hK _ _ ?_; clear hK K)))
 refine wpPlan_nil ?_
 simp only [List.append_eq, List.cons_append, List.nil_append, List.drop_succ_cons, List.drop_zero]
 go_wp2_with fail
 refine (HM0.out _ (BX.out.trans (B31.out.mono BX.out.size))).mono ?_
 rintro e w1 ⟨v1, u1, rfl, h1, ref1, b1⟩
 obtain ⟨m1, rfl, h1⟩ := polV_map h1
 obtain ⟨qa1, qc1, rfl⟩ := refP_sl ref1
 obtain ⟨WZ, hWZ⟩ : ∃ W, w1.alloc (.cells #[.map m1] 24) = W := ⟨_, rfl⟩
 have bAl : Below w1.heap.size w1 WZ := by rw [← hWZ]; exact (Below.refl _ _).alloc (Nat.le_refl _) _
 have r12 : row? WZ w1.heap.size = some #[.map m1] := by rw [← hWZ]; exact row?_alloc_at _ _ _ _ rfl
 have bw := ((BX.out.trans (B31.out.mono BX.out.size)).trans (b1.mono (BX.out.trans (B31.out.mono BX.out.size)).size))
 have BZ := Lib.hid (bw.trans (bAl.mono bw.size))
 have HPZ := Lib.hid (h1.below bAl)
 have VPZ := Lib.hid (ref1.below bAl)
 have HEZ := Lib.hid (HE.out.on BZ.out)
 clear h1 ref1 b1 bAl bw HTX HEX B31 BX HR
 go_wp2_with fail
 obtain ⟨g12, hg12⟩ : ∃ g, g = w1.heap.size := ⟨_, rfl⟩
 rw [← hg12] at r12 ⊢
 have HR := Lib.hid fun W (h : Below WZ.heap.size WZ W) => show row? W g12 = some #[.map m1] from (row?_below h (row?_lt r12)).trans r12
 have HPD := Lib.hid fun W (h : Below WZ.heap.size WZ W) => pdegree_any P (.agg #[.map m1]) W (HPZ.out.below h)
 have HQD := Lib.hid fun W (h : Below WZ.heap.size WZ W) => qdegree_any P (by have := HMDP.out.len; omega) _ W (VPZ.out.below h)
 obtain ⟨d1, hd1⟩ : ∃ d, d = (degP P).1 := ⟨_, rfl⟩
 obtain ⟨d2, hd2⟩ : ∃ d, d = (degP P).2 := ⟨_, rfl⟩
 rw [← hd1, ← hd2] at HPD HQD
 clear hd1 hd2 hg12 hWZ
 refine (HPD.out WZ (Below.refl _ _)).mono ?_
 rintro e w2 ⟨rfl, b2⟩
 have B2 := Lib.hid b2
 have k1 := HR.out w2 b2
 clear b2 r12
 go_wp2_with fail
 refine (HQD.out w2 B2.out).mono ?_
 rintro e w3 ⟨rfl, b3⟩
 have B3 := Lib.hid (B2.out.trans (b3.mono B2.out.size))
 clear b3 B2 k1
 go_wp2_with fail
 go_loopw [18] (fun i wr => ∃ j : Nat, j ≤ 8 ∧ j ≤ S.length ∧ i = .int .i64 (j : Int) ∧ Below WZ.heap.size WZ wr) (fun i _ => 8 - (intOf i).toNat)
 case atStart => exact ⟨0, by omega, Nat.zero_le _, rfl, B3.out⟩
 case round =>
   obtain ⟨j, hj8, hjl, rfl, hbj⟩ := hrel
   have HB := Lib.hid hbj
   clear hbj B3
   rcases Nat.lt_or_ge j S.length with hj | hj
   · have hdj : decide (j < S.length) = true := decide_eq_true hj
     rcases Nat.lt_or_ge j 8 with hj2 | hj2
     · have hd8 : decide (j < 8) = true := decide_eq_true hj2
       have hd8' : decide ((j : Int) < 8) = true := decide_eq_true (by omega)
       obtain ⟨bs, off, cs, x, hsl, hbB, hx, hcc⟩ := HVA.out.at hj
       simp only [Value.slice.injEq] at hsl
       obtain ⟨rfl, -, rfl⟩ := hsl
       obtain ⟨n0, A0, B0⟩ := x
       obtain ⟨-, hA0, hB0⟩ := HS.out _ (List.mem_of_getElem? hx)
       simp only at hA0 hB0
       obtain ⟨c, hc⟩ : ∃ c, c = A0 % 2049 := ⟨_, rfl⟩
       obtain ⟨d, hd⟩ : ∃ d, d = B0 % 2049 := ⟨_, rfl⟩
       have hc1 : c ≤ 2048 := by omega
       have hd1 : d ≤ 2048 := by omega
       have ec : (A0 : Int) % 2049 = (c : Int) := by omega
       have ed : (B0 : Int) % 2049 = (d : Int) := by omega
       have HC := Lib.hid fun W (hW : Below w.heap.size w W) => show W.cell? ⟨bs, off + j * 3 + 1, none⟩ = some (.int .u16 (A0 : Int)) ∧ W.cell? ⟨bs, off + j * 3 + 2, none⟩ = some (.int .u16 (B0 : Int)) from ⟨hcc W hW 1 (.int .u16 (A0 : Int)) rfl, hcc W hW 2 (.int .u16 (B0 : Int)) rfl⟩
       have HBZ := Lib.hid (BZ.out.trans (HB.out.mono BZ.out.size))
       have HFC := Lib.hid (show Fit (coefZ P (c : Int) (d : Int)) from fit_small (by have h1 := coefZ_le2 P c d; have h2 := HMDP.out.wt; omega))
       clear hcc hbB hx hc hd
       go_wp2_with fail
       refine wp_region_mix (fun W => Below w.heap.size w W) 15 [(0, true), (1, true), (2, true), (3, true), (4, true), (5, true), (6, true), (7, true), (8, true), (9, true), (10, true), (11, true), (12, true), (13, true), (14, true)] (by kernel_rfl) (by kernel_rfl) HBZ.out.drew ?_
       repeat (apply wpPlan_still rfl rfl; (intro w hw; obtain ⟨k1, k2⟩ := HC.out w hw; clear hw; go_simp; (try go_ints); (first | with_reducible rfl | (go_simp; with_reducible rfl))); (intro K hK; go_simp; (try go_ints); refine hK _ _ ?_; clear hK K))
       refine wpPlan_nil ?_
       simp only [List.drop_succ_cons, List.drop_zero]
       have hrw := HR.out wr HB.out
       have BD := Lib.hid HB.out.drew
       clear ec ed
       go_wp2_with fail
       refine (pcoef_any P (c : Int) (d : Int) (by unfold InI; omega) (by unfold InI; omega) _ _ (HPZ.out.below BD.out)).mono ?_
       rintro e w4 ⟨v4, rfl, h4, b4⟩
       have B4 := Lib.hid (BD.out.trans (b4.mono BD.out.size))
       have H4 := Lib.hid h4
       obtain ⟨s4, rfl, -⟩ := id h4
       obtain ⟨X, hX⟩ : ∃ X, Lib.decDigits (coefZ P (c : Int) (d : Int)) = X := ⟨_, rfl⟩
       have HX := Lib.hid hX
       clear h4 b4 hX
       go_wp2_with fail
       refine (nstring_any (coefZ P (c : Int) (d : Int)) _ w4 H4.out HFC.out (HEZ.out.on B4.out)).mono ?_
       rintro e w5 ⟨rfl, b5⟩
       rw [HX.out]
       have B5 := Lib.hid (B4.out.trans (b5.mono B4.out.size))
       clear b5
       go_wp2_with fail
       refine (qat_any P HMDP.out.canon (by have := HMDP.out.len; omega) (c : Int) (d : Int) (by unfold InI; omega) (by unfold InI; omega) _ w5 (VPZ.out.below B5.out)).mono ?_
       rintro e w6 ⟨v6, rfl, h6, b6⟩
       obtain ⟨na6, nc6, rfl, -, -⟩ := id h6
       have B6 := Lib.hid (B5.out.trans (b6.mono B5.out.size))
       have H6 := Lib.hid h6
       clear b6 h6
       go_wp2_with fail
       refine (dtext_any (coefZ P (c : Int) (d : Int)) _ w6 H6.out HFC.out).mono ?_
       rintro e w7 ⟨rfl, b7⟩
       rw [HX.out]
       have B7 := Lib.hid (B6.out.trans (b7.mono B6.out.size))
       clear b7
       go_wp2_with fail
       go_roundw
       case rel => exact ⟨j + 1, by omega, by omega, by go_num, B7.out⟩
       case measure => simp [intOf]; omega
     · have hd8 : decide (j < 8) = false := decide_eq_false (by omega)
       have hd8' : decide ((j : Int) < 8) = false := decide_eq_false (by omega)
       have k1 := HR.out wr HB.out
       have HTP := Lib.hid (show TxB P from txB HMDP.out.upto (by have := HMDP.out.wt; omega) (by have := HMDP.out.len; omega))
       have HFC := Lib.hid (show Fit (coefZ P (A : Int) (B : Int)) from fit_small (by have h1 := coefZ_le2 P A B; have h2 := HMDP.out.wt; omega))
       go_wp2_with fail
       refine (plalike_any P P _ _ wr (HPZ.out.below HB.out) (VPZ.out.below HB.out) HTP.out HTP.out (HEZ.out.on HB.out)).mono ?_
       rintro e w8 ⟨rfl, b8⟩
       rw [decide_eq_true (show textP P = textP P from rfl)]
       have B8 := Lib.hid (HB.out.trans (b8.mono HB.out.size))
       have k1 := HR.out w8 B8.out
       clear b8
       go_wp2_with fail
       refine (pnum_any P _ w8 (HPZ.out.below B8.out)).mono ?_
       rintro e w9 ⟨rfl, b9⟩
       have B9 := Lib.hid (B8.out.trans (b9.mono B8.out.size))
       have k1 := HR.out w9 B9.out
       clear b9
       go_wp2_with fail
       refine (pcoef_any P (A : Int) (B : Int) hAI hBI _ _ (HPZ.out.below B9.out)).mono ?_
       rintro e w4 ⟨v4, rfl, h4, b4⟩
       have B4 := Lib.hid (B9.out.trans (b4.mono B9.out.size))
       have H4 := Lib.hid h4
       obtain ⟨s4, rfl, -⟩ := id h4
       obtain ⟨X, hX⟩ : ∃ X, Lib.decDigits (coefZ P (A : Int) (B : Int)) = X := ⟨_, rfl⟩
       have HX := Lib.hid hX
       clear h4 b4 hX
       go_wp2_with fail
       refine (nstring_any (coefZ P (A : Int) (B : Int)) _ w4 H4.out HFC.out (HEZ.out.on B4.out)).mono ?_
       rintro e w5 ⟨rfl, b5⟩
       rw [HX.out]
       have B5 := Lib.hid (B4.out.trans (b5.mono B4.out.size))
       clear b5
       go_wp2_with fail
       refine (qat_any P HMDP.out.canon (by have := HMDP.out.len; omega) (A : Int) (B : Int) hAI hBI _ w5 (VPZ.out.below B5.out)).mono ?_
       rintro e w6 ⟨v6, rfl, h6, b6⟩
       obtain ⟨na6, nc6, rfl, -, -⟩ := id h6
       have B6 := Lib.hid (B5.out.trans (b6.mono B5.out.size))
       have H6 := Lib.hid h6
       clear b6 h6
       go_wp2_with fail
       refine (dtext_any (coefZ P (A : Int) (B : Int)) _ w6 H6.out HFC.out).mono ?_
       rintro e w7 ⟨rfl, b7⟩
       rw [HX.out]
       have B7 := Lib.hid (B6.out.trans (b7.mono B6.out.size))
       clear b7
       go_wp2_with fail
       go_ret
       exact ⟨rfl, BZ.out.trans (B7.out.mono BZ.out.size)⟩
   · have hdj : decide (j < S.length) = false := decide_eq_false (by omega)
     have k1 := HR.out wr HB.out
     have HTP := Lib.hid (show TxB P from txB HMDP.out.upto (by have := HMDP.out.wt; omega) (by have := HMDP.out.len; omega))
     have HFC := Lib.hid (show Fit (coefZ P (A : Int) (B : Int)) from fit_small (by have h1 := coefZ_le2 P A B; have h2 := HMDP.out.wt; omega))
     go_wp2_with fail
     refine (plalike_any P P _ _ wr (HPZ.out.below HB.out) (VPZ.out.below HB.out) HTP.out HTP.out (HEZ.out.on HB.out)).mono ?_
     rintro e w8 ⟨rfl, b8⟩
     rw [decide_eq_true (show textP P = textP P from rfl)]
     have B8 := Lib.hid (HB.out.trans (b8.mono HB.out.size))
     have k1 := HR.out w8 B8.out
     clear b8
     go_wp2_with fail
     refine (pnum_any P _ w8 (HPZ.out.below B8.out)).mono ?_
     rintro e w9 ⟨rfl, b9⟩
     have B9 := Lib.hid (B8.out.trans (b9.mono B8.out.size))
     have k1 := HR.out w9 B9.out
     clear b9
     go_wp2_with fail
     refine (pcoef_any P (A : Int) (B : Int) hAI hBI _ _ (HPZ.out.below B9.out)).mono ?_
     rintro e w4 ⟨v4, rfl, h4, b4⟩
     have B4 := Lib.hid (B9.out.trans (b4.mono B9.out.size))
     have H4 := Lib.hid h4
     obtain ⟨s4, rfl, -⟩ := id h4
     obtain ⟨X, hX⟩ : ∃ X, Lib.decDigits (coefZ P (A : Int) (B : Int)) = X := ⟨_, rfl⟩
     have HX := Lib.hid hX
     clear h4 b4 hX
     go_wp2_with fail
     refine (nstring_any (coefZ P (A : Int) (B : Int)) _ w4 H4.out HFC.out (HEZ.out.on B4.out)).mono ?_
     rintro e w5 ⟨rfl, b5⟩
     rw [HX.out]
     have B5 := Lib.hid (B4.out.trans (b5.mono B4.out.size))
     clear b5
     go_wp2_with fail
     refine (qat_any P HMDP.out.canon (by have := HMDP.out.len; omega) (A : Int) (B : Int) hAI hBI _ w5 (VPZ.out.below B5.out)).mono ?_
     rintro e w6 ⟨v6, rfl, h6, b6⟩
     obtain ⟨na6, nc6, rfl, -, -⟩ := id h6
     have B6 := Lib.hid (B5.out.trans (b6.mono B5.out.size))
     have H6 := Lib.hid h6
     clear b6 h6
     go_wp2_with fail
     refine (dtext_any (coefZ P (A : Int) (B : Int)) _ w6 H6.out HFC.out).mono ?_
     rintro e w7 ⟨rfl, b7⟩
     rw [HX.out]
     have B7 := Lib.hid (B6.out.trans (b7.mono B6.out.size))
     clear b7
     go_wp2_with fail
     go_ret
     exact ⟨rfl, BZ.out.trans (B7.out.mono BZ.out.size)⟩
theorem plterms_bad (S : List Tm) (hS : ∀ t ∈ S, TmOk t) (n : Nat) (hn : n < 18446744073709551616) (a b : Int) (ha : InI a) (hb : InI b) (hab : ¬ (0 ≤ a ∧ a ≤ 2048 ∧ 0 ≤ b ∧ b ≤ 2048)) (va : Value) (w : World) (hva : Rd tmA 3 w.heap.size w va S) (hE : Env w) :
   Calls Tryz.prog 8 #[va, .int .u64 (n : Int), .agg #[.int .i64 a, .int .i64 b]] w fun e w' => e = .returned (.bool true) ∧ Below w.heap.size w w' := by
 have hAI := ha
 have hBI := hb
 obtain ⟨P, hP⟩ : ∃ P, P = madeP 2048 (S.take 8) := ⟨_, rfl⟩
 have HM0 := Lib.hid fun W (hb : Below w.heap.size w W) => plmade_any 2048 (by decide) S hS va W ((hva.below hb (Nat.le_refl _)).mono hb.size)
 have HMDP := Lib.hid (show Made 2048 P from by rw [hP]; exact made_of 2048 hS)
 rw [← hP] at HM0
 have HE := Lib.hid hE
 have HS := Lib.hid hS
 have HVA := Lib.hid hva
 obtain ⟨sa, sc, rfl⟩ := hva.sl
 clear hva hE hP hS
 go_enter Tryz.func8, Tryz.ntmps8
 go_wp2_with fail
 have bA0 : Below w.heap.size w (w.alloc (.cells #[.int .i64 (a : Int), .int .i64 (b : Int)] 62)) := (Below.refl _ _).alloc (Nat.le_refl _) _
 have r0 : row? (w.alloc (.cells #[.int .i64 (a : Int), .int .i64 (b : Int)] 62)) w.heap.size = some #[.int .i64 (a : Int), .int .i64 (b : Int)] := row?_alloc_at _ _ _ _ rfl
 have c0 := (cell?_row (i := 0) r0).trans rfl
 have c1 := (cell?_row (i := 1) r0).trans rfl
 have BPre := Lib.hid bA0.drew
 refine wp_region_mix (fun W => W = World.drew (w.alloc (.cells #[.int .i64 (a : Int), .int .i64 (b : Int)] 62))) 5 [(0, true), (1, true), (2, true), (3, true), (4, true)] (by kernel_rfl) (by kernel_rfl) rfl ?_
 repeat (apply wpPlan_still rfl rfl; (intro w hw; subst hw; go_simp; (try go_ints); (first | with_reducible rfl | (go_simp; with_reducible rfl))); (intro K hK; go_simp; (try go_ints); refine hK _ _ ?_; clear hK K))
 refine wpPlan_nil ?_
 simp only [List.drop_succ_cons, List.drop_zero]
 clear bA0 r0
 go_wp2_with fail
 clear c0 c1
 refine (nfrom_any n hn _).mono ?_
 rintro e wa ⟨v7, rfl, h7, ba⟩
 obtain ⟨xa, xc, rfl, -⟩ := natV_sl h7
 obtain ⟨xl, hxl⟩ : ∃ l, l = (digB 4294967296 n).length := ⟨_, rfl⟩
 rw [← hxl] at h7 ⊢
 clear hxl
 have BA := Lib.hid (BPre.out.trans (ba.mono BPre.out.size))
 have H7 := Lib.hid h7
 clear ba h7
 go_wp2_with fail
 refine (pmono_bad a b hab n _ wa H7.out).mono ?_
 rintro e wb ⟨rfl, bb⟩
 have h8 : PolV wb (.agg #[.map none]) [] := polV_zero wb
 obtain ⟨WX, hWX⟩ : ∃ W, wb.alloc (.cells #[.map none] 24) = W := ⟨_, rfl⟩
 have bAl : Below wb.heap.size wb WX := by rw [← hWX]; exact (Below.refl _ _).alloc (Nat.le_refl _) _
 have r9 : row? WX wb.heap.size = some #[.map none] := by rw [← hWX]; exact row?_alloc_at _ _ _ _ rfl
 have BX := Lib.hid ((BA.out.trans (bb.mono BA.out.size)).trans (bAl.mono (BA.out.trans (bb.mono BA.out.size)).size))
 have HTX := Lib.hid (h8.below bAl)
 have HEX := Lib.hid (HE.out.on BX.out)
 clear h8 bb bAl H7
 have HWX := Lib.hid hWX
 clear hWX
 go_upto_region 3 with fail
 rw [HWX.out]
 have hWX := HWX.out
 go_cut [11] from 33 to 46 (fun c wx => c = .bool false ∧ wx = WX)
 case first =>
   by_cases h1 : 0 ≤ a
   · have e1 : decide (0 ≤ a) = true := decide_eq_true h1
     by_cases h2 : a ≤ 2048
     · have e2 : decide (a ≤ 2048) = true := decide_eq_true h2
       by_cases h3 : 0 ≤ b
       · have e3 : decide (0 ≤ b) = true := decide_eq_true h3
         have h4 : ¬ b ≤ 2048 := fun h4 => hab ⟨h1, h2, h3, h4⟩
         have e4 : decide (b ≤ 2048) = false := decide_eq_false h4
         clear hab
         go_wp2_with fail
         go_meet
         case rel => exact ⟨rfl, rfl⟩
       · have e3 : decide (0 ≤ b) = false := decide_eq_false h3
         clear hab
         go_wp2_with fail
         go_meet
         case rel => exact ⟨rfl, rfl⟩
     · have e2 : decide (a ≤ 2048) = false := decide_eq_false h2
       clear hab
       go_wp2_with fail
       go_meet
       case rel => exact ⟨rfl, rfl⟩
   · have e1 : decide (0 ≤ a) = false := decide_eq_false h1
     clear hab
     go_wp2_with fail
     go_meet
     case rel => exact ⟨rfl, rfl⟩
 case rest =>
   obtain ⟨rfl, hwc⟩ := hcut
   rw [hwc]
   clear hwc
   go_wp2_with fail
   obtain ⟨g9, hg9⟩ : ∃ g, g = wb.heap.size := ⟨_, rfl⟩
   rw [← hg9] at r9
   have HR := Lib.hid fun W (h : Below WX.heap.size WX W) => show row? W g9 = some #[.map none] from (row?_below h (row?_lt r9)).trans r9
   rw [← hg9]
   clear hg9 r9 hWX
   refine wp_region_mix (fun W => Below WX.heap.size WX W) 34 [(0, false), (1, true), (2, true), (3, true), (4, true), (5, true), (6, true), (7, true), (8, true), (9, true), (10, true), (11, true), (12, true), (13, true), (14, true), (15, true), (16, false), (17, false), (18, true), (19, true), (20, true), (21, true), (22, true), (23, true), (24, true), (25, true), (26, true), (28, true), (29, true), (27, false), (30, false), (31, false), (32, true), (33, true)] (by kernel_rfl) (by kernel_rfl) (Below.refl _ _).drew ?_
   have bb0 : Below WX.heap.size WX WX.drew := (Below.refl _ _).drew
   obtain ⟨w0, hw0⟩ : ∃ W, WX.drew = W := ⟨_, rfl⟩
   rw [hw0] at bb0 ⊢
   have B0 := Lib.hid bb0
   clear hw0 bb0
   (first | refine wpPlan_actG rfl rfl ?_ | apply wpPlan_act rfl rfl)
   intro K' hK'
   unfold Oper.wp
   go_simp
   refine (plknown_any _ (HEX.out.on B0.out)).mono ?_
   rintro e w1 ⟨rfl, b1⟩
   have bb1 : Below WX.heap.size WX w1 := B0.out.trans (b1.mono B0.out.size)
   refine hK' _ _ bb1 ?_
   clear hK' K'
   have B1 := Lib.hid bb1
   clear bb1
   clear b1 B0
   repeat (first | (apply wpPlan_still rfl rfl; (intro w hw; have k1 := HR.out w hw; clear hw; go_simp; (try go_ints); (first | with_reducible rfl | (go_simp; with_reducible rfl))); (intro K hK; go_simp; (try go_ints); refine hK _ _ ?_; clear hK K)) | (apply wpPlan_stillG rfl rfl; (intro w hw; have k1 := HR.out w hw; clear hw; go_simp; (try go_ints); (first | with_reducible rfl | (go_simp; with_reducible rfl))); (intro K hK; go_simp; (try go_ints); refine hK _ _ ?_; clear hK K)) | (apply wpPlan_skip rfl rfl; (intro K hK; go_simp; (try go_ints); refine hK _ _ ?_; clear hK K)))
   (first | refine wpPlan_actG rfl rfl ?_ | apply wpPlan_act rfl rfl)
   intro K' hK'
   unfold Oper.wp
   go_simp
   refine (pzeroV_any _).mono ?_
   rintro e w16 ⟨v16, rfl, h16, b16⟩
   obtain ⟨m16, rfl, h16⟩ := polV_map h16
   have bb16 : Below WX.heap.size WX w16 := B1.out.trans (b16.mono B1.out.size)
   refine hK' _ _ bb16 ?_
   clear hK' K'
   have B16 := Lib.hid bb16
   clear bb16
   have H16 := Lib.hid h16
   clear h16
   clear b16 B1
   repeat (first | (apply wpPlan_still rfl rfl; (intro w hw; have k1 := HR.out w hw; clear hw; go_simp; (try go_ints); (first | with_reducible rfl | (go_simp; with_reducible rfl))); (intro K hK; go_simp; (try go_ints); refine hK _ _ ?_; clear hK K)) | (apply wpPlan_stillG rfl rfl; (intro w hw; have k1 := HR.out w hw; clear hw; go_simp; (try go_ints); (first | with_reducible rfl | (go_simp; with_reducible rfl))); (intro K hK; go_simp; (try go_ints); refine hK _ _ ?_; clear hK K)) | (apply wpPlan_skip rfl rfl; (intro K hK; go_simp; (try go_ints); refine hK _ _ ?_; clear hK K)))
   (first | refine wpPlan_actG rfl rfl ?_ | apply wpPlan_act rfl rfl)
   intro K' hK'
   unfold Oper.wp
   go_simp
   refine (pequal_any [] [] _ _ _ (HTX.out.below B16.out) H16.out (fit_small (by decide))).mono ?_
   rintro e w17 ⟨rfl, b17⟩
   rw [decide_eq_true (show ([] : Pol) = [] from rfl)]
   have bb17 : Below WX.heap.size WX w17 := B16.out.trans (b17.mono B16.out.size)
   refine hK' _ _ bb17 ?_
   clear hK' K'
   have B17 := Lib.hid bb17
   clear bb17
   clear b17 B16 H16
   repeat (first | (apply wpPlan_still rfl rfl; (intro w hw; have k1 := HR.out w hw; clear hw; go_simp; (try go_ints); (first | with_reducible rfl | (go_simp; with_reducible rfl))); (intro K hK; go_simp; (try go_ints); refine hK _ _ ?_; clear hK K)) | (apply wpPlan_stillG rfl rfl; (intro w hw; have k1 := HR.out w hw; clear hw; go_simp; (try go_ints); (first | with_reducible rfl | (go_simp; with_reducible rfl))); (intro K hK; go_simp; (try go_ints); refine hK _ _ ?_; clear hK K)) | (apply wpPlan_skip rfl rfl; (intro K hK; go_simp; (try go_ints); refine hK _ _ ?_; clear hK K)))
   refine wpPlan_skipA (by exact B17.out) rfl rfl ?_
   intro K hK
   go_simp
   refine hK _ _ ?_
   clear hK K
   repeat (first | (apply wpPlan_still rfl rfl; (intro w hw; have k1 := HR.out w hw; clear hw; go_simp; (try go_ints); (first | with_reducible rfl | (go_simp; with_reducible rfl))); (intro K hK; go_simp; (try go_ints); refine hK _ _ ?_; clear hK K)) | (apply wpPlan_stillG rfl rfl; (intro w hw; have k1 := HR.out w hw; clear hw; go_simp; (try go_ints); (first | with_reducible rfl | (go_simp; with_reducible rfl))); (intro K hK; go_simp; (try go_ints); refine hK _ _ ?_; clear hK K)) | (apply wpPlan_skip rfl rfl; (intro K hK; go_simp; (try go_ints); refine hK _ _ ?_; clear hK K)))
   refine wpPlan_skipA (by exact B17.out) rfl rfl ?_
   intro K hK
   go_simp
   refine hK _ _ ?_
   clear hK K
   repeat (first | (apply wpPlan_still rfl rfl; (intro w hw; have k1 := HR.out w hw; clear hw; go_simp; (try go_ints); (first | with_reducible rfl | (go_simp; with_reducible rfl))); (intro K hK; go_simp; (try go_ints); refine hK _ _ ?_; clear hK K)) | (apply wpPlan_stillG rfl rfl; (intro w hw; have k1 := HR.out w hw; clear hw; go_simp; (try go_ints); (first | with_reducible rfl | (go_simp; with_reducible rfl))); (intro K hK; go_simp; (try go_ints); refine hK _ _ ?_; clear hK K)) | (apply wpPlan_skip rfl rfl; (intro K hK; go_simp; (try go_ints); refine hK _ _ ?_; clear hK K)))
   refine wpPlan_skipA (by exact B17.out) rfl rfl ?_
   intro K hK
   go_simp
   refine hK _ _ ?_
   clear hK K
   repeat (first | (apply wpPlan_still rfl rfl; (intro w hw; have k1 := HR.out w hw; clear hw; go_simp; (try go_ints); (first | with_reducible rfl | (go_simp; with_reducible rfl))); (intro K hK; go_simp; (try go_ints); refine hK _ _ ?_; clear hK K)) | (apply wpPlan_stillG rfl rfl; (intro w hw; have k1 := HR.out w hw; clear hw; go_simp; (try go_ints); (first | with_reducible rfl | (go_simp; with_reducible rfl))); (intro K hK; go_simp; (try go_ints); refine hK _ _ ?_; clear hK K)) | (apply wpPlan_skip rfl rfl; (intro K hK; go_simp; (try go_ints); refine hK _ _ ?_; clear hK K)))
   refine wpPlan_nil ?_
   simp only [List.append_eq, List.cons_append, List.nil_append, List.drop_succ_cons, List.drop_zero]
   go_wp2_with fail
   refine (HM0.out _ (BX.out.trans (B17.out.mono BX.out.size))).mono ?_
   rintro e w1 ⟨v1, u1, rfl, h1, ref1, b1⟩
   obtain ⟨m1, rfl, h1⟩ := polV_map h1
   obtain ⟨qa1, qc1, rfl⟩ := refP_sl ref1
   obtain ⟨WZ, hWZ⟩ : ∃ W, w1.alloc (.cells #[.map m1] 24) = W := ⟨_, rfl⟩
   have bAl : Below w1.heap.size w1 WZ := by rw [← hWZ]; exact (Below.refl _ _).alloc (Nat.le_refl _) _
   have r12 : row? WZ w1.heap.size = some #[.map m1] := by rw [← hWZ]; exact row?_alloc_at _ _ _ _ rfl
   have bw := ((BX.out.trans (B17.out.mono BX.out.size)).trans (b1.mono (BX.out.trans (B17.out.mono BX.out.size)).size))
   have BZ := Lib.hid (bw.trans (bAl.mono bw.size))
   have HPZ := Lib.hid (h1.below bAl)
   have VPZ := Lib.hid (ref1.below bAl)
   have HEZ := Lib.hid (HE.out.on BZ.out)
   clear h1 ref1 b1 bAl bw HTX HEX B17 BX HR
   go_wp2_with fail
   obtain ⟨g12, hg12⟩ : ∃ g, g = w1.heap.size := ⟨_, rfl⟩
   rw [← hg12] at r12 ⊢
   have HR := Lib.hid fun W (h : Below WZ.heap.size WZ W) => show row? W g12 = some #[.map m1] from (row?_below h (row?_lt r12)).trans r12
   have HPD := Lib.hid fun W (h : Below WZ.heap.size WZ W) => pdegree_any P (.agg #[.map m1]) W (HPZ.out.below h)
   have HQD := Lib.hid fun W (h : Below WZ.heap.size WZ W) => qdegree_any P (by have := HMDP.out.len; omega) _ W (VPZ.out.below h)
   obtain ⟨d1, hd1⟩ : ∃ d, d = (degP P).1 := ⟨_, rfl⟩
   obtain ⟨d2, hd2⟩ : ∃ d, d = (degP P).2 := ⟨_, rfl⟩
   rw [← hd1, ← hd2] at HPD HQD
   clear hd1 hd2 hg12 hWZ
   refine (HPD.out WZ (Below.refl _ _)).mono ?_
   rintro e w2 ⟨rfl, b2⟩
   have B2 := Lib.hid b2
   have k1 := HR.out w2 b2
   clear b2 r12
   go_wp2_with fail
   refine (HQD.out w2 B2.out).mono ?_
   rintro e w3 ⟨rfl, b3⟩
   have B3 := Lib.hid (B2.out.trans (b3.mono B2.out.size))
   clear b3 B2 k1
   go_wp2_with fail
   go_loopw [18] (fun i wr => ∃ j : Nat, j ≤ 8 ∧ j ≤ S.length ∧ i = .int .i64 (j : Int) ∧ Below WZ.heap.size WZ wr) (fun i _ => 8 - (intOf i).toNat)
   case atStart => exact ⟨0, by omega, Nat.zero_le _, rfl, B3.out⟩
   case round =>
     obtain ⟨j, hj8, hjl, rfl, hbj⟩ := hrel
     have HB := Lib.hid hbj
     clear hbj B3
     rcases Nat.lt_or_ge j S.length with hj | hj
     · have hdj : decide (j < S.length) = true := decide_eq_true hj
       rcases Nat.lt_or_ge j 8 with hj2 | hj2
       · have hd8 : decide (j < 8) = true := decide_eq_true hj2
         have hd8' : decide ((j : Int) < 8) = true := decide_eq_true (by omega)
         obtain ⟨bs, off, cs, x, hsl, hbB, hx, hcc⟩ := HVA.out.at hj
         simp only [Value.slice.injEq] at hsl
         obtain ⟨rfl, -, rfl⟩ := hsl
         obtain ⟨n0, A0, B0⟩ := x
         obtain ⟨-, hA0, hB0⟩ := HS.out _ (List.mem_of_getElem? hx)
         simp only at hA0 hB0
         obtain ⟨c, hc⟩ : ∃ c, c = A0 % 2049 := ⟨_, rfl⟩
         obtain ⟨d, hd⟩ : ∃ d, d = B0 % 2049 := ⟨_, rfl⟩
         have hc1 : c ≤ 2048 := by omega
         have hd1 : d ≤ 2048 := by omega
         have ec : (A0 : Int) % 2049 = (c : Int) := by omega
         have ed : (B0 : Int) % 2049 = (d : Int) := by omega
         have HC := Lib.hid fun W (hW : Below w.heap.size w W) => show W.cell? ⟨bs, off + j * 3 + 1, none⟩ = some (.int .u16 (A0 : Int)) ∧ W.cell? ⟨bs, off + j * 3 + 2, none⟩ = some (.int .u16 (B0 : Int)) from ⟨hcc W hW 1 (.int .u16 (A0 : Int)) rfl, hcc W hW 2 (.int .u16 (B0 : Int)) rfl⟩
         have HBZ := Lib.hid (BZ.out.trans (HB.out.mono BZ.out.size))
         have HFC := Lib.hid (show Fit (coefZ P (c : Int) (d : Int)) from fit_small (by have h1 := coefZ_le2 P c d; have h2 := HMDP.out.wt; omega))
         clear hcc hbB hx hc hd
         go_wp2_with fail
         refine wp_region_mix (fun W => Below w.heap.size w W) 15 [(0, true), (1, true), (2, true), (3, true), (4, true), (5, true), (6, true), (7, true), (8, true), (9, true), (10, true), (11, true), (12, true), (13, true), (14, true)] (by kernel_rfl) (by kernel_rfl) HBZ.out.drew ?_
         repeat (apply wpPlan_still rfl rfl; (intro w hw; obtain ⟨k1, k2⟩ := HC.out w hw; clear hw; go_simp; (try go_ints); (first | with_reducible rfl | (go_simp; with_reducible rfl))); (intro K hK; go_simp; (try go_ints); refine hK _ _ ?_; clear hK K))
         refine wpPlan_nil ?_
         simp only [List.drop_succ_cons, List.drop_zero]
         have hrw := HR.out wr HB.out
         have BD := Lib.hid HB.out.drew
         clear ec ed
         go_wp2_with fail
         refine (pcoef_any P (c : Int) (d : Int) (by unfold InI; omega) (by unfold InI; omega) _ _ (HPZ.out.below BD.out)).mono ?_
         rintro e w4 ⟨v4, rfl, h4, b4⟩
         have B4 := Lib.hid (BD.out.trans (b4.mono BD.out.size))
         have H4 := Lib.hid h4
         obtain ⟨s4, rfl, -⟩ := id h4
         obtain ⟨X, hX⟩ : ∃ X, Lib.decDigits (coefZ P (c : Int) (d : Int)) = X := ⟨_, rfl⟩
         have HX := Lib.hid hX
         clear h4 b4 hX
         go_wp2_with fail
         refine (nstring_any (coefZ P (c : Int) (d : Int)) _ w4 H4.out HFC.out (HEZ.out.on B4.out)).mono ?_
         rintro e w5 ⟨rfl, b5⟩
         rw [HX.out]
         have B5 := Lib.hid (B4.out.trans (b5.mono B4.out.size))
         clear b5
         go_wp2_with fail
         refine (qat_any P HMDP.out.canon (by have := HMDP.out.len; omega) (c : Int) (d : Int) (by unfold InI; omega) (by unfold InI; omega) _ w5 (VPZ.out.below B5.out)).mono ?_
         rintro e w6 ⟨v6, rfl, h6, b6⟩
         obtain ⟨na6, nc6, rfl, -, -⟩ := id h6
         have B6 := Lib.hid (B5.out.trans (b6.mono B5.out.size))
         have H6 := Lib.hid h6
         clear b6 h6
         go_wp2_with fail
         refine (dtext_any (coefZ P (c : Int) (d : Int)) _ w6 H6.out HFC.out).mono ?_
         rintro e w7 ⟨rfl, b7⟩
         rw [HX.out]
         have B7 := Lib.hid (B6.out.trans (b7.mono B6.out.size))
         clear b7
         go_wp2_with fail
         go_roundw
         case rel => exact ⟨j + 1, by omega, by omega, by go_num, B7.out⟩
         case measure => simp [intOf]; omega
       · have hd8 : decide (j < 8) = false := decide_eq_false (by omega)
         have hd8' : decide ((j : Int) < 8) = false := decide_eq_false (by omega)
         have k1 := HR.out wr HB.out
         have HTP := Lib.hid (show TxB P from txB HMDP.out.upto (by have := HMDP.out.wt; omega) (by have := HMDP.out.len; omega))
         have HFC := Lib.hid (show Fit (coefZ P (a : Int) (b : Int)) from fit_small (by have h1 := coefZ_le2 P a b; have h2 := HMDP.out.wt; omega))
         go_wp2_with fail
         refine (plalike_any P P _ _ wr (HPZ.out.below HB.out) (VPZ.out.below HB.out) HTP.out HTP.out (HEZ.out.on HB.out)).mono ?_
         rintro e w8 ⟨rfl, b8⟩
         rw [decide_eq_true (show textP P = textP P from rfl)]
         have B8 := Lib.hid (HB.out.trans (b8.mono HB.out.size))
         have k1 := HR.out w8 B8.out
         clear b8
         go_wp2_with fail
         refine (pnum_any P _ w8 (HPZ.out.below B8.out)).mono ?_
         rintro e w9 ⟨rfl, b9⟩
         have B9 := Lib.hid (B8.out.trans (b9.mono B8.out.size))
         have k1 := HR.out w9 B9.out
         clear b9
         go_wp2_with fail
         refine (pcoef_any P (a : Int) (b : Int) hAI hBI _ _ (HPZ.out.below B9.out)).mono ?_
         rintro e w4 ⟨v4, rfl, h4, b4⟩
         have B4 := Lib.hid (B9.out.trans (b4.mono B9.out.size))
         have H4 := Lib.hid h4
         obtain ⟨s4, rfl, -⟩ := id h4
         obtain ⟨X, hX⟩ : ∃ X, Lib.decDigits (coefZ P (a : Int) (b : Int)) = X := ⟨_, rfl⟩
         have HX := Lib.hid hX
         clear h4 b4 hX
         go_wp2_with fail
         refine (nstring_any (coefZ P (a : Int) (b : Int)) _ w4 H4.out HFC.out (HEZ.out.on B4.out)).mono ?_
         rintro e w5 ⟨rfl, b5⟩
         rw [HX.out]
         have B5 := Lib.hid (B4.out.trans (b5.mono B4.out.size))
         clear b5
         go_wp2_with fail
         refine (qat_any P HMDP.out.canon (by have := HMDP.out.len; omega) (a : Int) (b : Int) hAI hBI _ w5 (VPZ.out.below B5.out)).mono ?_
         rintro e w6 ⟨v6, rfl, h6, b6⟩
         obtain ⟨na6, nc6, rfl, -, -⟩ := id h6
         have B6 := Lib.hid (B5.out.trans (b6.mono B5.out.size))
         have H6 := Lib.hid h6
         clear b6 h6
         go_wp2_with fail
         refine (dtext_any (coefZ P (a : Int) (b : Int)) _ w6 H6.out HFC.out).mono ?_
         rintro e w7 ⟨rfl, b7⟩
         rw [HX.out]
         have B7 := Lib.hid (B6.out.trans (b7.mono B6.out.size))
         clear b7
         go_wp2_with fail
         go_ret
         exact ⟨rfl, BZ.out.trans (B7.out.mono BZ.out.size)⟩
     · have hdj : decide (j < S.length) = false := decide_eq_false (by omega)
       have k1 := HR.out wr HB.out
       have HTP := Lib.hid (show TxB P from txB HMDP.out.upto (by have := HMDP.out.wt; omega) (by have := HMDP.out.len; omega))
       have HFC := Lib.hid (show Fit (coefZ P (a : Int) (b : Int)) from fit_small (by have h1 := coefZ_le2 P a b; have h2 := HMDP.out.wt; omega))
       go_wp2_with fail
       refine (plalike_any P P _ _ wr (HPZ.out.below HB.out) (VPZ.out.below HB.out) HTP.out HTP.out (HEZ.out.on HB.out)).mono ?_
       rintro e w8 ⟨rfl, b8⟩
       rw [decide_eq_true (show textP P = textP P from rfl)]
       have B8 := Lib.hid (HB.out.trans (b8.mono HB.out.size))
       have k1 := HR.out w8 B8.out
       clear b8
       go_wp2_with fail
       refine (pnum_any P _ w8 (HPZ.out.below B8.out)).mono ?_
       rintro e w9 ⟨rfl, b9⟩
       have B9 := Lib.hid (B8.out.trans (b9.mono B8.out.size))
       have k1 := HR.out w9 B9.out
       clear b9
       go_wp2_with fail
       refine (pcoef_any P (a : Int) (b : Int) hAI hBI _ _ (HPZ.out.below B9.out)).mono ?_
       rintro e w4 ⟨v4, rfl, h4, b4⟩
       have B4 := Lib.hid (B9.out.trans (b4.mono B9.out.size))
       have H4 := Lib.hid h4
       obtain ⟨s4, rfl, -⟩ := id h4
       obtain ⟨X, hX⟩ : ∃ X, Lib.decDigits (coefZ P (a : Int) (b : Int)) = X := ⟨_, rfl⟩
       have HX := Lib.hid hX
       clear h4 b4 hX
       go_wp2_with fail
       refine (nstring_any (coefZ P (a : Int) (b : Int)) _ w4 H4.out HFC.out (HEZ.out.on B4.out)).mono ?_
       rintro e w5 ⟨rfl, b5⟩
       rw [HX.out]
       have B5 := Lib.hid (B4.out.trans (b5.mono B4.out.size))
       clear b5
       go_wp2_with fail
       refine (qat_any P HMDP.out.canon (by have := HMDP.out.len; omega) (a : Int) (b : Int) hAI hBI _ w5 (VPZ.out.below B5.out)).mono ?_
       rintro e w6 ⟨v6, rfl, h6, b6⟩
       obtain ⟨na6, nc6, rfl, -, -⟩ := id h6
       have B6 := Lib.hid (B5.out.trans (b6.mono B5.out.size))
       have H6 := Lib.hid h6
       clear b6 h6
       go_wp2_with fail
       refine (dtext_any (coefZ P (a : Int) (b : Int)) _ w6 H6.out HFC.out).mono ?_
       rintro e w7 ⟨rfl, b7⟩
       rw [HX.out]
       have B7 := Lib.hid (B6.out.trans (b7.mono B6.out.size))
       clear b7
       go_wp2_with fail
       go_ret
       exact ⟨rfl, BZ.out.trans (B7.out.mono BZ.out.size)⟩
theorem plterms_any (S : List Tm) (hS : ∀ t ∈ S, TmOk t) (n : Nat) (hn : n < 18446744073709551616) (a b : Int) (ha : InI a) (hb : InI b) (va : Value) (w : World) (hva : Rd tmA 3 w.heap.size w va S) (hE : Env w) :
   Calls Tryz.prog 8 #[va, .int .u64 (n : Int), .agg #[.int .i64 a, .int .i64 b]] w fun e w' => e = .returned (.bool true) ∧ Below w.heap.size w w' := by
 by_cases h : 0 ≤ a ∧ a ≤ 2048 ∧ 0 ≤ b ∧ b ≤ 2048
 · obtain ⟨A, rfl⟩ : ∃ A : Nat, a = (A : Int) := ⟨a.toNat, by omega⟩
   obtain ⟨B, rfl⟩ : ∃ B : Nat, b = (B : Int) := ⟨b.toNat, by omega⟩
   exact plterms_ok S hS n hn A B (by omega) (by omega) va w hva hE
 · exact plterms_bad S hS n hn a b ha hb h va w hva hE
end Go.Proofs.YtgnlebnpnpjfmaaGreatDoor
