/- The walk of the statement GraphioEdits. -/
import Derived.Test.YtglnhnjmelilmaaGreatDoorPIZ
import Derived.Test.YtglnhnjmelilmaaGreatDoorPCb
import Derived.Test.YtglnhnjmelilmaaGreatDoorPIU
import Derived.Test.YtglnhnjmelilmaaGreatDoorPVd
import Derived.Test.YtglnhnjmelilmaaGreatDoorPYf
import Derived.Test.YtglnhnjmelilmaaGreatDoorPJm
set_option maxRecDepth 10000
set_option linter.all false
namespace Go.Pal
open Go Go.RowKit
theorem Ed.text_bad (e : Ed) : e.text.2 = e.bad := by
 unfold Ed.text
 split
 · rename_i h; exact h.symm
 · rfl
theorem Ed.wf_good {e : Ed} (h : e.bad = 0) : e.Wf := by
 have h1 := e.bad_op h
 obtain ⟨r1, r2, r3, r4⟩ := e.bad_range h
 rw [idB_iff] at r1 r2
 rw [labB_iff] at r3
 rw [wtB_iff] at r4
 exact ⟨inI_of (by omega) (by omega), inI_of (by omega) (by omega), inI_of (by omega) (by omega), by omega, inI_of (by omega) (by omega)⟩
end Go.Pal
namespace Go.Proofs.YtglnhnjmelilmaaGreatDoor
open Go Go.RowKit Go.Pal
attribute [local go_sem] Oper.semAt_some
theorem eqED (a b c d e : Int) (w : World) : (Op.equalIn 10000 23 (.agg #[.int .i64 a, .int .i64 b, .int .i64 c, .int .u8 d, .int .i64 e]) (.agg #[.int .i64 a, .int .i64 b, .int .i64 c, .int .u8 d, .int .i64 e])).run Tryz.prog w = .ok true w := by
 have hst : Tryz.prog.stoodInHeld 23 = false := by kernel_rfl
 have h1 : ∀ (p : Int) w, (Op.equalIn 9999 3 (.int .i64 p) (.int .i64 p)).run Tryz.prog w = .ok true w := fun p w => by rw [run_equalIn_int (P := Tryz.prog) w 9998 3 .i64 .i64 p p Tryz.underlying3]; simp
 have h2 : ∀ (p : Int) w, (Op.equalIn 9999 5 (.int .u8 p) (.int .u8 p)).run Tryz.prog w = .ok true w := fun p w => by rw [run_equalIn_int (P := Tryz.prog) w 9998 5 .u8 .u8 p p Tryz.underlying5]; simp
 have hpr : ∀ w, (program).run Tryz.prog w = .ok Tryz.prog w := fun _ => rfl
 rw [show (10000 : Nat) = 9999 + 1 from rfl, Op.equalIn]
 simp only [Sem.run_bind, run_underlying Tryz.underlying23, Result.andThen_ok, hpr, hst, Bool.false_eq_true, if_false, List.forIn_toArray, List.forIn_cons, List.forIn_nil]
 simp [Sem.run_bind, part, Tryz.isAgg3, Tryz.isAgg5, h1, h2]
theorem guardED : Tryz.prog.eqGuardType Tryz.prog.depth 23 = false := by kernel_rfl
set_option maxHeartbeats 4000000 in
theorem edLaw_any (e : Ed) (he : e.Wf) (t : List UInt8) (w : World) (hT : Tab3 w) (hE : Errs w) (hM : Mxl w) (hF : FormsOk w) :
   Calls Tryz.prog 3 #[.agg (edC e), .string ⟨t.toArray⟩] w fun r w' => r = .returned (.bool true) ∧ Below w.heap.size w w' := by
 have HT := Lib.hid fun W (h : Below w.heap.size w W) => hT.on h
 have HPe := Lib.hid fun (s : List UInt8) (hs : s.length ≤ 100000) W (h : Below w.heap.size w W) => pedit_any s (by omega) W (hT.on h).2 (hE.on h) (hM.on h) (hF.on h)
 have HFg := Lib.hid fun (x : Ed) (hx : x.Wf) W (h : Below w.heap.size w W) => fedit_any x hx W (hT.on h).2 (hF.on h)
 have HFe := Lib.hid fun W (h : Below w.heap.size w W) => fedit_any e he W (hT.on h).2 (hF.on h)
 have HRe := Lib.hid fun W => redit_any e he W
 have HDe := Lib.hid fun W => d06_any e W
 have HBk := Lib.hid fun (h : e.text.2 = 0) => edRead_text (e := e) ((Ed.text_bad e).symm.trans h)
 have hTl : e.text.1.length ≤ 100000 := by have := Ed.text_len e; omega
 obtain ⟨X, hX⟩ : ∃ X, X = e.text := ⟨_, rfl⟩
 rw [← hX] at HFe HRe HBk hTl
 obtain ⟨T, n⟩ := X
 simp only at HFe HRe HBk hTl
 have HRd := Lib.hid fun (hs : t.length ≤ 300) W => rreadEd_any t (by omega) W
 have HPt := Lib.hid fun (hs : t.length ≤ 300) W h => HPe.out t (by omega) W h
 have HTx := Lib.hid (@text_edRead t)
 obtain ⟨Z, hZ⟩ : ∃ Z, Z = edRead t := ⟨_, rfl⟩
 rw [← hZ] at HRd HPt HTx
 obtain ⟨op, u, v, lab, wt⟩ := e
 rw [show edC ⟨op, u, v, lab, wt⟩ = #[.int .i64 op, .int .i64 u, .int .i64 v, .int .u8 (lab : Int), .int .i64 wt] from rfl] at HFe HRe HDe
 rw [show edC ⟨op, u, v, lab, wt⟩ = #[.int .i64 op, .int .i64 u, .int .i64 v, .int .u8 (lab : Int), .int .i64 wt] from rfl]
 clear he hT hE hM hF hX hZ
 go_enter Tryz.func3, Tryz.ntmps3
 go_wp2_with fail
 generalize hW0 : World.alloc w _ = W0
 obtain ⟨hr0, hb0⟩ := alloc_row hW0
 have hs0 := row?_lt hr0
 clear hW0
 refine (known06_any W0 (HT.out W0 hb0)).mono ?_
 rintro r w1 ⟨rfl, hb1⟩
 have HB1 := Lib.hid (hb0.trans (hb1.mono hb0.size))
 have hr1 := (row?_below hb1 hs0).trans hr0
 have hs1 := row?_lt hr1
 clear hb0 hb1 hr0 hs0
 by_cases hlen : 300 < t.length
 · have d1 : decide ((300 : Int) < (t.length : Int)) = true := decide_eq_true (by omega)
   go_wp2_with fail
   refine (known06_any _ (HT.out _ HB1.out)).mono ?_
   rintro r w4 ⟨rfl, hb4⟩
   have HB4 := Lib.hid (HB1.out.trans (hb4.mono HB1.out.size))
   clear hb4
   go_wp2_with fail
   go_ret
   exact ⟨rfl, HB4.out⟩
 have d1 : decide ((300 : Int) < (t.length : Int)) = false := decide_eq_false (by omega)
 have d2 : t.length ≤ 300 := by omega
 clear hlen
 go_wp2_with fail
 refine (HFe.out w1 HB1.out).mono ?_
 rintro r w2 ⟨rfl, hb2⟩
 have HB2 := Lib.hid (HB1.out.trans (hb2.mono HB1.out.size))
 have hr2 := (row?_below hb2 hs1).trans hr1
 have hs2 := row?_lt hr2
 clear hb2 hr1 hs1 HFe
 go_wp2_with fail
 refine (HDe.out w2).mono ?_
 rintro r w3 ⟨rfl, hb3⟩
 have HB3 := Lib.hid (HB2.out.trans (hb3.mono HB2.out.size))
 have hr3 := (row?_below hb3 hs2).trans hr2
 have hs3 := row?_lt hr3
 clear hb3 hr2 hs2 HDe
 go_wp2_with fail
 refine (HRe.out w3).mono ?_
 rintro r w4 ⟨rfl, hb4⟩
 have HB4 := Lib.hid (HB3.out.trans (hb4.mono HB3.out.size))
 have hr4 := (row?_below hb4 hs3).trans hr3
 have hs4 := row?_lt hr4
 clear hb4 hr3 hs3 HRe
 by_cases hn : n = 0
 · subst hn
   have HBe := Lib.hid (HBk.out rfl)
   have HP := Lib.hid (HPe.out T hTl w4 HB4.out)
   rw [HBe.out] at HP
   simp only at HP
   rw [show edC ⟨op, u, v, lab, wt⟩ = #[.int .i64 op, .int .i64 u, .int .i64 v, .int .u8 (lab : Int), .int .i64 wt] from rfl] at HP
   go_wp2_with fail
   refine HP.out.mono ?_
   rintro r w5 ⟨rfl, hb5⟩
   have HB5 := Lib.hid (HB4.out.trans (hb5.mono HB4.out.size))
   have hr5 := (row?_below hb5 hs4).trans hr4
   have hs5 := row?_lt hr5
   have hgE := guardED
   have heE := eqED
   clear hb5 hr4 hs4 HP
   go_wp2_with fail
   generalize hW6 : World.alloc w5 _ = W6
   obtain ⟨-, hb6⟩ := alloc_row hW6
   have HB6 := Lib.hid (HB5.out.trans (hb6.mono HB5.out.size))
   clear hgE heE hb6 hW6
   refine (HPt.out d2 W6 HB6.out).mono ?_
   rintro r w7 ⟨rfl, hb7⟩
   have HB7 := Lib.hid (HB6.out.trans (hb7.mono HB6.out.size))
   obtain ⟨⟨zo, zu, zv, zl, zt⟩, zh⟩ := Z
   simp only at HRd HTx ⊢
   have HDz := Lib.hid fun W => d06_any ⟨zo, zu, zv, zl, zt⟩ W
   rw [show edC ⟨zo, zu, zv, zl, zt⟩ = #[.int .i64 zo, .int .i64 zu, .int .i64 zv, .int .u8 (zl : Int), .int .i64 zt] from rfl] at HRd HDz ⊢
   clear hb7 HPt
   go_wp2_with fail
   generalize hW8 : World.alloc w7 _ = W8
   obtain ⟨hr8, hb8⟩ := alloc_row hW8
   have hs8 := row?_lt hr8
   have HB8 := Lib.hid (HB7.out.trans (hb8.mono HB7.out.size))
   clear hW8 hb8
   refine (HRd.out d2 W8).mono ?_
   rintro r w9 ⟨rfl, hb9⟩
   have HB9 := Lib.hid (HB8.out.trans (hb9.mono HB8.out.size))
   have hr9 := (row?_below hb9 hs8).trans hr8
   have hs9 := row?_lt hr9
   clear hb9 hr8 hs8 HRd
   go_wp2_with fail
   generalize hWa : World.alloc w9 _ = Wa
   obtain ⟨hra, hba⟩ := alloc_row hWa
   have hsa := row?_lt hra
   have HBa := Lib.hid (HB9.out.trans (hba.mono HB9.out.size))
   have hr9a := (row?_below hba hs9).trans hr9
   have HL := Lib.hid fun W (hW : Below Wa.heap.size Wa W) => show row? W w7.heap.size = some #[.int .i64 zo, .int .i64 zu, .int .i64 zv, .int .u8 (zl : Int), .int .i64 zt] ∧ row? W w9.heap.size = some #[.int .i64 zo, .int .i64 zu, .int .i64 zv, .int .u8 (zl : Int), .int .i64 zt] from
     ⟨(row?_below hW (Nat.lt_of_lt_of_le hs9 hba.size)).trans hr9a, (row?_below hW hsa).trans hra⟩
   have hgR := guardRD
   have heR := eqRD
   clear hWa hba hra hsa hr9 hs9 hr9a
   refine wp_region_mix (fun W => Below Wa.heap.size Wa W) 8 [(0, true), (2, true), (1, false), (3, true), (4, true), (5, true), (6, true), (7, true)] (by kernel_rfl) (by kernel_rfl) (Below.refl _ _).drew ?_
   repeat (apply wpPlan_still rfl rfl; (intro w hw; obtain ⟨k1, k2⟩ := HL.out _ hw; clear hw; go_simp; (try go_ints); (first | with_reducible rfl | (go_simp; with_reducible rfl))); (intro K hK; go_simp; (try go_ints); refine hK _ _ ?_; clear hK K))
   apply wpPlan_act rfl rfl
   intro K hK
   unfold Oper.wp
   go_simp
   refine (HDz.out _).mono ?_
   rintro r wb ⟨rfl, hbb⟩
   have hbb' : Below Wa.heap.size Wa wb := (Below.refl _ Wa).drew.trans hbb
   have HBb := Lib.hid (HBa.out.trans (hbb'.mono HBa.out.size))
   have HLb := Lib.hid (HL.out _ hbb')
   refine hK _ _ hbb' ?_
   clear hK K hbb hbb' HL HDz
   repeat ((first | apply wpPlan_still rfl rfl | apply wpPlan_stillG rfl rfl); (intro w hw; clear hw; go_simp; (try go_ints); (first | with_reducible rfl | (go_simp; with_reducible rfl))); (intro K hK; go_simp; (try go_ints); refine hK _ _ ?_; clear hK K))
   refine wpPlan_nil ?_
   simp only [List.drop_succ_cons, List.drop_zero]
   by_cases hz : zh = 0
   · subst hz
     have HTz := Lib.hid (HTx.out rfl)
     have HFz := Lib.hid (HFg.out ⟨zo, zu, zv, zl, zt⟩ (Ed.wf_good ((Ed.text_bad _).symm.trans (congrArg Prod.snd HTz.out))) wb HBb.out)
     rw [HTz.out] at HFz
     simp only at HFz
     rw [show edC ⟨zo, zu, zv, zl, zt⟩ = #[.int .i64 zo, .int .i64 zu, .int .i64 zv, .int .u8 (zl : Int), .int .i64 zt] from rfl] at HFz
     obtain ⟨k1, k2⟩ := HLb.out
     clear HTx hgR heR
     go_wp2_with fail
     refine HFz.out.mono ?_
     rintro r wc ⟨rfl, hbc⟩
     have HBc := Lib.hid (HBb.out.trans (hbc.mono HBb.out.size))
     clear hbc HFz k1 k2
     go_wp2_with fail
     go_ret
     exact ⟨rfl, HBc.out⟩
   · have e4 : ((zh : Int) != 0) = true := by rw [bne_iff_ne]; omega
     have e5 : ¬ (zh : Int) = 0 := by omega
     clear hz hgR heR
     go_wp2_with fail
     go_ret
     exact ⟨rfl, HBb.out⟩
 · have e2 : ((n : Int) == 0) = false := beq_false_of_ne (by omega)
   have e3 : ¬ (n : Int) = 0 := by omega
   have HN := Lib.hid hn
   clear hn
   go_wp2_with fail
   have HB6 := Lib.hid HB4.out
   refine (HPt.out d2 w4 HB6.out).mono ?_
   rintro r w7 ⟨rfl, hb7⟩
   have HB7 := Lib.hid (HB6.out.trans (hb7.mono HB6.out.size))
   obtain ⟨⟨zo, zu, zv, zl, zt⟩, zh⟩ := Z
   simp only at HRd HTx ⊢
   have HDz := Lib.hid fun W => d06_any ⟨zo, zu, zv, zl, zt⟩ W
   rw [show edC ⟨zo, zu, zv, zl, zt⟩ = #[.int .i64 zo, .int .i64 zu, .int .i64 zv, .int .u8 (zl : Int), .int .i64 zt] from rfl] at HRd HDz ⊢
   clear hb7 HPt
   go_wp2_with fail
   generalize hW8 : World.alloc w7 _ = W8
   obtain ⟨hr8, hb8⟩ := alloc_row hW8
   have hs8 := row?_lt hr8
   have HB8 := Lib.hid (HB7.out.trans (hb8.mono HB7.out.size))
   clear hW8 hb8
   refine (HRd.out d2 W8).mono ?_
   rintro r w9 ⟨rfl, hb9⟩
   have HB9 := Lib.hid (HB8.out.trans (hb9.mono HB8.out.size))
   have hr9 := (row?_below hb9 hs8).trans hr8
   have hs9 := row?_lt hr9
   clear hb9 hr8 hs8 HRd
   go_wp2_with fail
   generalize hWa : World.alloc w9 _ = Wa
   obtain ⟨hra, hba⟩ := alloc_row hWa
   have hsa := row?_lt hra
   have HBa := Lib.hid (HB9.out.trans (hba.mono HB9.out.size))
   have hr9a := (row?_below hba hs9).trans hr9
   have HL := Lib.hid fun W (hW : Below Wa.heap.size Wa W) => show row? W w7.heap.size = some #[.int .i64 zo, .int .i64 zu, .int .i64 zv, .int .u8 (zl : Int), .int .i64 zt] ∧ row? W w9.heap.size = some #[.int .i64 zo, .int .i64 zu, .int .i64 zv, .int .u8 (zl : Int), .int .i64 zt] from
     ⟨(row?_below hW (Nat.lt_of_lt_of_le hs9 hba.size)).trans hr9a, (row?_below hW hsa).trans hra⟩
   have hgR := guardRD
   have heR := eqRD
   clear hWa hba hra hsa hr9 hs9 hr9a
   refine wp_region_mix (fun W => Below Wa.heap.size Wa W) 8 [(0, true), (2, true), (1, false), (3, true), (4, true), (5, true), (6, true), (7, true)] (by kernel_rfl) (by kernel_rfl) (Below.refl _ _).drew ?_
   repeat (apply wpPlan_still rfl rfl; (intro w hw; obtain ⟨k1, k2⟩ := HL.out _ hw; clear hw; go_simp; (try go_ints); (first | with_reducible rfl | (go_simp; with_reducible rfl))); (intro K hK; go_simp; (try go_ints); refine hK _ _ ?_; clear hK K))
   apply wpPlan_act rfl rfl
   intro K hK
   unfold Oper.wp
   go_simp
   refine (HDz.out _).mono ?_
   rintro r wb ⟨rfl, hbb⟩
   have hbb' : Below Wa.heap.size Wa wb := (Below.refl _ Wa).drew.trans hbb
   have HBb := Lib.hid (HBa.out.trans (hbb'.mono HBa.out.size))
   have HLb := Lib.hid (HL.out _ hbb')
   refine hK _ _ hbb' ?_
   clear hK K hbb hbb' HL HDz
   repeat ((first | apply wpPlan_still rfl rfl | apply wpPlan_stillG rfl rfl); (intro w hw; clear hw; go_simp; (try go_ints); (first | with_reducible rfl | (go_simp; with_reducible rfl))); (intro K hK; go_simp; (try go_ints); refine hK _ _ ?_; clear hK K))
   refine wpPlan_nil ?_
   simp only [List.drop_succ_cons, List.drop_zero]
   by_cases hz : zh = 0
   · subst hz
     have HTz := Lib.hid (HTx.out rfl)
     have HFz := Lib.hid (HFg.out ⟨zo, zu, zv, zl, zt⟩ (Ed.wf_good ((Ed.text_bad _).symm.trans (congrArg Prod.snd HTz.out))) wb HBb.out)
     rw [HTz.out] at HFz
     simp only at HFz
     rw [show edC ⟨zo, zu, zv, zl, zt⟩ = #[.int .i64 zo, .int .i64 zu, .int .i64 zv, .int .u8 (zl : Int), .int .i64 zt] from rfl] at HFz
     obtain ⟨k1, k2⟩ := HLb.out
     clear HTx hgR heR
     go_wp2_with fail
     refine HFz.out.mono ?_
     rintro r wc ⟨rfl, hbc⟩
     have HBc := Lib.hid (HBb.out.trans (hbc.mono HBb.out.size))
     clear hbc HFz k1 k2
     go_wp2_with fail
     go_ret
     exact ⟨rfl, HBc.out⟩
   · have e4 : ((zh : Int) != 0) = true := by rw [bne_iff_ne]; omega
     have e5 : ¬ (zh : Int) = 0 := by omega
     clear hz hgR heR
     go_wp2_with fail
     go_ret
     exact ⟨rfl, HBb.out⟩
end Go.Proofs.YtglnhnjmelilmaaGreatDoor
