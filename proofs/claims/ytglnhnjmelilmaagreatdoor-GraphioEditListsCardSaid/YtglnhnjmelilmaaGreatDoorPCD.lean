/- Walk: the reference's ReadEdits. -/
import Derived.Test.YtglnhnjmelilmaaGreatDoorPIU
import Derived.Test.YtglnhnjmelilmaaGreatDoorPIe
set_option linter.all false
namespace Go.Proofs.YtglnhnjmelilmaaGreatDoor
open Go Go.RowKit Go.Pal Go.Shelf
attribute [local go_sem] Oper.semAt_some
def elRD2 : ElT Tryz.prog 30 5 edC where
 bytes := 40
 zero := .agg #[.int .i64 0, .int .i64 0, .int .i64 0, .int .u8 0, .int .i64 0]
 info := by kernel_rfl
 zc := rfl
 pos := by decide
 small := by decide
 size _ := rfl
 one x u hu := by simp [edC] at hu; rcases hu with rfl | rfl | rfl | rfl | rfl <;> rfl
abbrev OwnRD2 := OwnR 30 5 edC
@[go_sem ↓ high] theorem bs_RD2 (a b c d e : Int) (w : World) : (Instr.buildSlice 58 1 #[(0, .agg #[.int .i64 a, .int .i64 b, .int .i64 c, .int .u8 d, .int .i64 e])]).run Tryz.prog w = .ok (.slice (some ⟨w.heap.size, 0, none⟩) 1 1) (w.alloc (.cells #[.int .i64 a, .int .i64 b, .int .i64 c, .int .u8 d, .int .i64 e] 30)) := by kernel_rfl
def REdsRes (X : List Ed × Nat × Nat) (e : Ending) (w' : World) : Prop := ∃ v, e = .returned (.tuple #[v, .int .i64 (X.2.1 : Nat), .int .i64 (X.2.2 : Nat)]) ∧ Rd edC 5 w'.heap.size w' v (if X.2.2 = 0 then X.1 else [])
set_option maxRecDepth 10000 in
set_option maxHeartbeats 2000000 in
theorem rreadEds_any (s : List UInt8) (hs : s.length ≤ 100000) (w : World) :
   Calls Tryz.prog 26 #[.string ⟨s.toArray⟩] w fun e w' => REdsRes (readEds s) e w' ∧ Below w.heap.size w w' := by
 obtain ⟨X, hX⟩ : ∃ X, X = readEds s := ⟨_, rfl⟩
 rw [← hX]
 have HSp := Lib.hid fun W => rparts_any 10 s hs W
 obtain ⟨P, hP⟩ : ∃ P, P = partsA 10 [] s := ⟨_, rfl⟩
 have hne : P ≠ [] := by rw [hP]; exact partsA_ne 10 s []
 have HPl := Lib.hid (show ∀ p ∈ P, p.length ≤ 100000 from fun p hp => by rw [hP] at hp; have := partsA_len p hp; simp at this; omega)
 have hct : P.length ≤ 100001 := by rw [hP]; have := partsA_count 10 s []; omega
 have HX := Lib.hid (show X = linesP edLine [] 1 P from by rw [hX, hP]; rfl)
 rw [← hP] at HSp
 have hP1 : 1 ≤ P.length := by
   cases P with
   | nil => exact absurd rfl hne
   | cons p r => simp
 clear hX hP hne
 obtain ⟨NP, hNP⟩ : ∃ NP, NP = P.length := ⟨_, rfl⟩
 rw [← hNP] at hct hP1
 have HNP := Lib.hid hNP
 clear hNP
 go_enter Tryz.func26, Tryz.ntmps26
 go_wp2_with fail
 refine (HSp.out w).mono ?_
 rintro e w1 ⟨vl, rfl, hl, hb1⟩
 obtain ⟨al, cl, rfl⟩ := hl.sl
 have HL := Lib.hid (hl.rd elStr)
 rw [← HNP.out] at HL ⊢
 have HB1 := Lib.hid hb1
 clear hl hb1 HSp
 go_wp2_with fail
 go_loopw [5, 7] (fun out i wr => ∃ (k : Nat) (l : List Ed), i = .int .i64 (k : Int) ∧ k + 1 ≤ NP ∧ OwnRD2 w1.heap.size wr out l ∧ l.length ≤ k ∧ X = linesP edLine l (k + 1) (P.drop k) ∧ Below w1.heap.size w1 wr) (fun _ i _ => NP - (intOf i).toNat)
 case atStart => exact ⟨0, [], rfl, by omega, OwnR.nil _ _, by simp, by rw [HX.out]; rfl, Below.refl _ _⟩
 case round =>
   obtain ⟨k, l, rfl, hk, hO, hlk, hx, hbr⟩ := hrel
   have HXk := Lib.hid hx
   have HO := Lib.hid hO
   have HB := Lib.hid hbr
   have hsz := hbr.size
   obtain ⟨qo, co, hsl⟩ := hO.sl
   subst hsl
   obtain ⟨b, off, c', p, h1, hbb, hp, hc⟩ := HL.out.at (i := k) (by rw [← HNP.out]; omega)
   simp only [Value.slice.injEq] at h1
   obtain ⟨e1, -, e2⟩ := h1
   subst e2
   subst e1
   have c1 : wr.cell? ⟨b, off + k, none⟩ = some (.string ⟨p.toArray⟩) := by have := hc wr HB.out 0 _ rfl; rwa [Nat.mul_one, Nat.add_zero] at this
   have hpl := HPl.out p (List.mem_of_getElem? hp)
   have HD := Lib.hid (show P.drop k = p :: P.drop (k + 1) from by
     obtain ⟨h1, h2⟩ := List.getElem?_eq_some_iff.1 hp
     rw [← h2]
     exact List.drop_eq_getElem_cons h1)
   have HBw := Lib.hid (HB1.out.trans (hbr.mono HB1.out.size))
   clear hx hO hbr hp hc
   by_cases hlast : k + 1 = NP
   · have d1 : ((k : Int) == (NP : Int) - 1) = true := by rw [beq_iff_eq]; omega
     have HDn := Lib.hid (show P.drop (k + 1) = [] from List.drop_eq_nil_of_le (by rw [← HNP.out]; omega))
     have HXl := Lib.hid (show X = if p = [] then (l, 0, 0) else (l, k + 1, 4) from by rw [HXk.out, HD.out, HDn.out, linesP_last])
     have hlt : (k : Int) < (NP : Int) := by omega
     by_cases hp0 : p = []
     · subst hp0
       have HE := Lib.hid (HXl.out.trans (if_pos rfl))
       go_wp2_with fail
       go_ret3
       exact ⟨⟨_, by rw [HE.out]; rfl, by rw [HE.out]; exact HO.out.rd elRD2⟩, HBw.out⟩
     · have HE := Lib.hid (HXl.out.trans (if_neg hp0))
       have d2 : (p != []) = true := by simpa using hp0
       have d3 : (p == []) = false := by simpa using hp0
       clear hp0
       go_wp2_with fail
       go_ret3
       exact ⟨⟨_, by rw [HE.out]; rfl, by rw [HE.out]; exact Rd.nil⟩, HBw.out⟩
   · have d1 : ((k : Int) == (NP : Int) - 1) = false := by rw [beq_eq_false_iff_ne]; omega
     have d2 : ¬ (k : Int) = (NP : Int) - 1 := by omega
     have hlt : (k : Int) < (NP : Int) := by omega
     have HXn := Lib.hid (show X = if (edLine l p).2 = 0 then linesP edLine (edLine l p).1 (k + 1 + 1) (P.drop (k + 1)) else ((edLine l p).1, k + 1, (edLine l p).2) from by
       rw [HXk.out, HD.out]
       refine linesP_cons edLine l (k + 1) p fun h => ?_
       have := congrArg List.length h
       rw [List.length_drop, ← HNP.out] at this
       simp at this
       omega)
     have HLn := Lib.hid (rreadEd_any p hpl wr)
     unfold edLine at HXn
     simp only at HXn
     obtain ⟨Z, hZ⟩ : ∃ Z, Z = edRead p := ⟨_, rfl⟩
     rw [← hZ] at HXn HLn
     obtain ⟨⟨zo, zu, zv, zl, zt⟩, c⟩ := Z
     simp only at HXn HLn
     rw [show edC ⟨zo, zu, zv, zl, zt⟩ = #[.int .i64 zo, .int .i64 zu, .int .i64 zv, .int .u8 (zl : Int), .int .i64 zt] from rfl] at HLn
     have HZc := Lib.hid (show edC ⟨zo, zu, zv, zl, zt⟩ = #[.int .i64 zo, .int .i64 zu, .int .i64 zv, .int .u8 (zl : Int), .int .i64 zt] from rfl)
     clear hZ
     go_wp2_with fail
     refine HLn.out.mono ?_
     rintro e w2 ⟨rfl, hb2⟩
     have HB2 := Lib.hid (HB.out.trans (hb2.mono hsz))
     have HO2 := Lib.hid (HO.out.below hb2 (Nat.le_refl _))
     have HBw2 := Lib.hid (HBw.out.trans (hb2.mono HBw.out.size))
     have hs2 := HB2.out.size
     clear hb2 c1 HLn
     by_cases hc0 : c = 0
     · subst hc0
       have HE := Lib.hid (HXn.out.trans (if_pos rfl))
       go_wp2_with (at_builtin; refine wpList_appO elRD2 58 Tryz.underlying58 rfl _ _ rfl w1.heap.size _ l rfl ((HO2.out.alloc _).alloc _) _ ⟨zo, zu, zv, zl, zt⟩ _ rfl (by rw [HZc.out]; exact row?_alloc_at _ _ _ _ (by simp)) (by omega) (by simp; omega) ?_)
       intro v' w6 hO6 hb6 _ _
       have HO6 := Lib.hid hO6
       have HB6 := Lib.hid (((HB2.out.alloc hs2 _).alloc (by simp; omega) _).trans hb6)
       obtain ⟨q6, c6, hs6⟩ := hO6.sl
       subst hs6
       clear hO6 hb6
       go_wp2_with fail
       go_roundw
       case rel => exact ⟨k + 1, _, by go_num, by omega, HO6.out, by simp; omega, HE.out, HB6.out⟩
       case measure => simp [intOf]; omega
     · have HE := Lib.hid (HXn.out.trans (if_neg hc0))
       have e1 : ((c : Int) != 0) = true := by rw [bne_iff_ne]; omega
       have e2 : ¬ (c : Int) = 0 := by omega
       have HC := Lib.hid hc0
       clear hc0
       go_wp2_with fail
       go_ret3
       refine ⟨⟨_, by rw [HE.out]; rfl, ?_⟩, ?_⟩
       · rw [HE.out]
         show Rd edC 5 _ _ _ (if c = 0 then _ else [])
         rw [if_neg HC.out]
         exact Rd.nil
       · first | exact HBw2.out | exact HBw2.out.alloc HBw2.out.size _
end Go.Proofs.YtglnhnjmelilmaaGreatDoor
