/- Walk of the laws of polynomials: PolynomialParse. -/
import Derived.Test.YtgnlebnpnpjfmaaGreatDoorUQW3
import Derived.Test.YtgnlebnpnpjfmaaGreatDoorUQL
import Derived.Test.YtgnlebnpnpjfmaaGreatDoorUQW4
set_option linter.all false
namespace Go.Proofs.YtgnlebnpnpjfmaaGreatDoor
open Go Go.RowKit Go.Pal Go.Shelf
attribute [local go_sem] Oper.semAt_some str_get str_upto str_from
theorem txParse {s : List UInt8} (hl : s.length ≤ 300) : TxB (parseP s).1 := by
 obtain ⟨-, hu, h0⟩ := parse_ok s
 by_cases hp : (parseP s).1 = []
 · rw [hp]
   exact ⟨upto_nil _, fit_small (by decide), by simp, by unfold textP; rw [if_pos rfl]; simp⟩
 · have he : (parseP s).2 = 0 := Decidable.byContradiction fun h => hp (h0 h)
   have ht := text_parse he
   rw [textP_U hp] at ht
   obtain ⟨h1, h2⟩ := text_wt hp
   rw [ht] at h1 h2
   refine ⟨hu, fit_of (k := 4 * s.length) (Nat.lt_of_lt_of_le h1 (pow10_16 _)) (by unfold fitK; omega), by omega, ?_⟩
   rw [textP_U hp, ht]
   omega
set_option maxRecDepth 100000 in
set_option maxHeartbeats 4000000 in
theorem plparse_any (z : List UInt8) (hzl : (⟨z.toArray⟩ : ByteArray).size ≤ maxLen) (w : World) (hE : Env w) :
   Calls Tryz.prog 3 #[.string ⟨z.toArray⟩] w fun e w' => e = .returned (.bool true) ∧ Below w.heap.size w w' := by
 obtain ⟨k, hk⟩ : ∃ k, k = min z.length 300 := ⟨_, rfl⟩
 obtain ⟨s, hs⟩ : ∃ s, s = z.take k := ⟨_, rfl⟩
 have hl : s.length ≤ 300 := by rw [hs, List.length_take]; omega
 have hzs : (⟨z.toArray⟩ : ByteArray).size = z.length := by simp [ByteArray.size]
 have hlz : z.length ≤ 9223372036854775807 := by
   rw [hzs] at hzl
   unfold maxLen at hzl
   omega
 have hmin : min (z.length : Int) 300 = (k : Int) := by omega
 have hkz : k ≤ z.length := by omega
 have HS := Lib.hid hs
 have HE := Lib.hid hE
 have HTB := Lib.hid (txParse hl)
 have HTP := Lib.hid (text_parse (s := s))
 have HPA := Lib.hid fun W (h : Below w.heap.size w W) => pparse_any s (by omega) W (hE.on h)
 have HQA := Lib.hid fun W => qparse_any s (by omega) W
 obtain ⟨P, hP⟩ : ∃ P, P = (parseP s).1 := ⟨_, rfl⟩
 obtain ⟨E, hE2⟩ : ∃ E, E = (parseP s).2 := ⟨_, rfl⟩
 rw [← hP] at HTB HTP
 rw [← hE2] at HTP
 rw [← hP, ← hE2] at HPA HQA
 clear hs hE hzl hzs hk hP hE2
 go_enter Tryz.func3, Tryz.ntmps3
 go_wp2_with fail
 rw [← HS.out]
 refine (HPA.out w (Below.refl _ _)).mono ?_
 rintro e w1 ⟨v1, rfl, h1, b1⟩
 obtain ⟨m1, rfl, h1⟩ := polV_map h1
 obtain ⟨WX, hWX⟩ : ∃ W, w1.alloc (.cells #[.map m1] 24) = W := ⟨_, rfl⟩
 have bAl : Below w1.heap.size w1 WX := by rw [← hWX]; exact (Below.refl _ _).alloc (Nat.le_refl _) _
 have r1 : row? WX w1.heap.size = some #[.map m1] := by rw [← hWX]; exact row?_alloc_at _ _ _ _ rfl
 have BX := Lib.hid (b1.trans (bAl.mono b1.size))
 have HPX := Lib.hid (h1.below bAl)
 have HEX := Lib.hid (HE.out.on BX.out)
 clear h1 b1 bAl
 go_wp2_with fail
 obtain ⟨g1, hg1⟩ : ∃ g, g = w1.heap.size := ⟨_, rfl⟩
 rw [← hg1] at r1 ⊢
 have HR := Lib.hid fun W (h : Below WX.heap.size WX W) => show row? W g1 = some #[.map m1] from (row?_below h (row?_lt r1)).trans r1
 clear hg1 r1 hWX
 try rw [← HS.out]
 refine (HQA.out WX).mono ?_
 rintro e w2 ⟨v2, rfl, h2, b2⟩
 obtain ⟨ra, rc, rfl⟩ := refP_sl h2
 have B2 := Lib.hid b2
 have H2 := Lib.hid h2
 have k1 := HR.out w2 b2
 clear b2 h2
 go_wp2_with fail
 refine (plknown_any w2 (HEX.out.on B2.out)).mono ?_
 rintro e w3 ⟨rfl, b3⟩
 have B3 := Lib.hid (B2.out.trans (b3.mono B2.out.size))
 have H3 := Lib.hid (H2.out.below b3)
 have k1 := HR.out w3 B3.out
 clear b3 H2 B2
 go_wp2_with fail
 refine (plalike_any P P _ _ w3 (HPX.out.below B3.out) H3.out HTB.out HTB.out (HEX.out.on B3.out)).mono ?_
 rintro e w4 ⟨rfl, b4⟩
 rw [decide_eq_true (show textP P = textP P from rfl)]
 have B4 := Lib.hid (B3.out.trans (b4.mono B3.out.size))
 have k1 := HR.out w4 B4.out
 clear b4 B3 H3
 by_cases hE0 : E = 0
 · have HTT := Lib.hid (HTP.out hE0)
   subst hE0
   go_wp2_with fail
   refine (ptext_any P _ w4 (HPX.out.below B4.out) HTB.out.fit HTB.out.len HTB.out.txt (HEX.out.on B4.out)).mono ?_
   rintro e w5 ⟨rfl, b5⟩
   rw [HTT.out]
   have B5 := Lib.hid (B4.out.trans (b5.mono B4.out.size))
   clear b5
   go_wp2_with fail
   go_ret
   exact ⟨by first | rfl | simp [go_sem], BX.out.trans (B5.out.mono BX.out.size)⟩
 · have e1 : ((E : Int) != 0) = true := by simp [bne]; omega
   have e2 : ((E : Int) == 0) = false := by rw [beq_eq_false_iff_ne]; omega
   have e3 : ¬ (E : Int) = 0 := by omega
   go_wp2_with fail
   go_ret
   exact ⟨by first | rfl | simp [go_sem], BX.out.trans (B4.out.mono BX.out.size)⟩
end Go.Proofs.YtgnlebnpnpjfmaaGreatDoor
