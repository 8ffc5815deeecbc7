/- Walks: a draft's line; graphio's ParseGraph. -/
import Derived.Test.YtlmccbepllgbfaaGreatDoorDIH
import Derived.Test.YtlmccbepllgbfaaGreatDoorDVe
import Derived.Test.YtlmccbepllgbfaaGreatDoorDJm
set_option maxHeartbeats 1000000
set_option maxRecDepth 10000
set_option linter.all false
namespace Go.Proofs.YtlmccbepllgbfaaGreatDoor
open Go Go.RowKit Go.Pal Go.Shelf
attribute [local go_sem] Oper.semAt_some
theorem DfSt.trans {w0 w w' : World} {d : Nat} {G : Gr} (hb : Below d w0 w) (h : DfSt w d G w') : DfSt w0 d G w' := ⟨h.1, hb.trans h.2⟩
theorem dread_any (d : Nat) (G : Gr) (s : List UInt8) (hs : s.length ≤ 8388608) (w : World) (h : ∃ vs es S, DOk w d G vs es S) (hP : Pow w) (hE : Errs w) (hM : Mxl w) :
   Calls Tryz.prog 58 #[.pointer (some ⟨d, 0, none⟩), .string ⟨s.toArray⟩] w fun e w' => e = .returned (.int .i64 ((lineG G s).2 : Nat)) ∧ DfSt w d (lineG G s).1 w' := by
 obtain ⟨vs, es, S, h⟩ := h
 have H0 := Lib.hid h
 have hdl := h.lt
 have HW := Lib.hid (words_any s hs w hP hE hM)
 obtain ⟨X, hX⟩ : ∃ X, X = lineG G s := ⟨_, rfl⟩
 rw [← hX]
 have HX := Lib.hid hX
 clear h hP hE hM hX
 go_enter Tryz.func58, Tryz.ntmps58
 go_wp2_with fail
 refine HW.out.mono ?_
 rintro e w1 ⟨hres, hb1⟩
 have HB1 := Lib.hid (hb1.mono (Nat.le_of_lt hdl))
 have H1 := Lib.hid (H0.out.below hb1)
 have hdl1 := H1.out.lt
 have hs1 := hb1.size
 have HST := Lib.hid (show DfSt w d G w1 from ⟨⟨_, _, _, H1.out⟩, hb1.mono (Nat.le_of_lt hdl)⟩)
 clear hb1 HW
 rcases hres with ⟨wd, l, v, hw, rfl, hO⟩ | ⟨hw, rfl⟩
 · have HWd := Lib.hid hw
   have HO := Lib.hid hO
   obtain ⟨q, cap, rfl⟩ := hO.sl
   clear hw hO
   by_cases hv : wd = vertexW ∧ l.length = 3
   · obtain ⟨rfl, hl⟩ := hv
     obtain ⟨a, b, c, rfl⟩ : ∃ a b c, l = [a, b, c] := by
       match l, hl with
       | [a, b, c], _ => exact ⟨a, b, c, rfl⟩
     obtain ⟨g, rfl, hg1, hg2, hg3⟩ := HO.out.cell (j := 0) rfl
     have HE := Lib.hid (show X = vStep G a b c from by rw [HX.out]; exact lineG_v (readW_of HWd.out))
     have HC := Lib.hid (dvertex_any d G vs es S a b c g cap w1 H1.out (fun i z hz => by
       obtain ⟨g', e1, -, -, e2⟩ := HO.out.cell hz
       cases e1
       exact e2) hg2 (by omega) (fun e => by have := H0.out.V.lt g e; omega) (fun e => by have := H0.out.E.lt g e; omega))
     rw [← HE.out] at HC
     have e1 : (vertexW == [118, 101, 114, 116, 101, 120]) = true := rfl
     clear hl hg3
     go_wp2_with fail
     refine HC.out.mono ?_
     rintro e w2 ⟨rfl, h2⟩
     have HD := Lib.hid (h2.trans HB1.out)
     clear h2
     go_wp2_with fail
     go_ret
     exact ⟨rfl, HD.out⟩
   · by_cases hv2 : wd = edgeW ∧ l.length = 4
     · obtain ⟨rfl, hl⟩ := hv2
       obtain ⟨a, b, c, t, rfl⟩ : ∃ a b c t, l = [a, b, c, t] := by
         match l, hl with
         | [a, b, c, t], _ => exact ⟨a, b, c, t, rfl⟩
       obtain ⟨g, rfl, hg1, hg2, hg3⟩ := HO.out.cell (j := 0) rfl
       have HE := Lib.hid (show X = eStep G a b c t from by rw [HX.out]; exact lineG_e (readW_ne HWd.out (fun h => absurd h.1 (by decide))) (readW_of HWd.out))
       have HC := Lib.hid (dedge_any d G vs es S a b c t g cap w1 H1.out (fun i z hz => by
         obtain ⟨g', e1, -, -, e2⟩ := HO.out.cell hz
         cases e1
         exact e2) hg2 (by omega) (fun e => by have := H0.out.V.lt g e; omega) (fun e => by have := H0.out.E.lt g e; omega))
       rw [← HE.out] at HC
       have e1 : (edgeW == [118, 101, 114, 116, 101, 120]) = false := rfl
       have e2 : (edgeW == [101, 100, 103, 101]) = true := rfl
       clear hl hg3 hv
       go_wp2_with fail
       refine HC.out.mono ?_
       rintro e w2 ⟨rfl, h2⟩
       have HD := Lib.hid (h2.trans HB1.out)
       clear h2
       go_wp2_with fail
       go_ret
       exact ⟨rfl, HD.out⟩
     · have HE := Lib.hid (show X = (G, 3) from by rw [HX.out]; exact lineG_none (readW_ne HWd.out hv) (readW_ne HWd.out hv2))
       have HST2 := Lib.hid (show DfSt w d X.1 w1 from by rw [HE.out]; exact HST.out)
       by_cases h1 : wd = vertexW
       · subst h1
         have e1 : (vertexW == [118, 101, 114, 116, 101, 120]) = true := rfl
         have e2 : (vertexW == [101, 100, 103, 101]) = false := rfl
         have hl : ¬ l.length = 3 := fun h => hv ⟨rfl, h⟩
         have e3 : ((l.length : Int) == 3) = false := beq_false_of_ne (by omega)
         have e4 : ¬ (l.length : Int) = 3 := by omega
         clear hv hv2
         go_wp2_with fail
         go_ret
         exact ⟨by rw [HE.out]; rfl, HST2.out⟩
       · have e1 : (wd == [118, 101, 114, 116, 101, 120]) = false := beq_false_of_ne h1
         by_cases h2 : wd = edgeW
         · subst h2
           have e2 : (edgeW == [101, 100, 103, 101]) = true := rfl
           have hl : ¬ l.length = 4 := fun h => hv2 ⟨rfl, h⟩
           have e3 : ((l.length : Int) == 4) = false := beq_false_of_ne (by omega)
           have e4 : ¬ (l.length : Int) = 4 := by omega
           clear hv hv2
           go_wp2_with fail
           go_ret
           exact ⟨by rw [HE.out]; rfl, HST2.out⟩
         · have e2 : (wd == [101, 100, 103, 101]) = false := beq_false_of_ne h2
           clear hv hv2
           go_wp2_with fail
           go_ret
           exact ⟨by rw [HE.out]; rfl, HST2.out⟩
 · have HE := Lib.hid (show X = (G, 3) from by rw [HX.out]; exact lineG_none (readW_none hw _ _) (readW_none hw _ _))
   have HST2 := Lib.hid (show DfSt w d X.1 w1 from by rw [HE.out]; exact HST.out)
   clear hw
   go_wp2_with fail
   go_ret
   exact ⟨by rw [HE.out]; rfl, HST2.out⟩
theorem dRow_fresh : (#[.slice none 0 0, .slice none 0 0, .int .u64 0, .int .u64 0, .int .u64 0, .int .u64 0, .int .u64 0, .int .u64 0, .int .u64 0, .int .u64 0, .int .u64 0, .int .u64 0, .int .u64 0, .int .u64 0, .int .u64 0, .int .u64 0, .int .u64 0, .int .u64 0] : Array Value) = dRow (.slice none 0 0) (.slice none 0 0) 0 := by kernel_rfl
def PGRes (B : Nat) (X : Gr × Nat × Nat) (e : Ending) (w' : World) : Prop :=
 (X.2.2 = 0 ∧ ∃ g bV bE, e = .returned (.tuple #[.pointer (some ⟨g, 0, none⟩), .int .i64 0, .int .i64 0]) ∧ GOk w' g bV bE X.1 ∧ B ≤ g ∧ B ≤ bV ∧ B ≤ bE) ∨
 (X.2.2 ≠ 0 ∧ e = .returned (.tuple #[.pointer none, .int .i64 (X.2.1 : Nat), .int .i64 (X.2.2 : Nat)]))
theorem gparse_any (s : List UInt8) (hs : s.length ≤ 1048576) (w : World) (hP : Pow w) (hE : Errs w) (hM : Mxl w) :
   Calls Tryz.prog 18 #[.string ⟨s.toArray⟩] w fun e w' => PGRes w.heap.size (readG s) e w' ∧ Below w.heap.size w w' := by
 have HP := Lib.hid hP
 have HE := Lib.hid hE
 have HM := Lib.hid hM
 have hok := readG_ok s
 obtain ⟨X, hX⟩ : ∃ X, X = readG s := ⟨_, rfl⟩
 rw [← hX] at hok ⊢
 have HX := Lib.hid hX
 have HOk := Lib.hid hok
 clear hP hE hM hX hok
 go_enter Tryz.func18, Tryz.ntmps18
 go_wp2_with fail
 rw [dRow_fresh]
 generalize hW0 : World.alloc w _ = W0
 have hd0 : DfSt w w.heap.size Gr.none W0 := by
   rw [← hW0]
   exact ⟨⟨.slice none 0 0, .slice none 0 0, 0, ⟨row?_alloc_at _ _ _ _ rfl, OwnR.nil _ _, OwnR.nil _ _, fun g hg => (by cases hg), isSet_zero, fun n _ => (by rw [Nat.zero_testBit]; rfl), gr_none_ok⟩⟩, (Below.refl _ w).alloc (Nat.le_refl _) _⟩
 clear hW0
 have HEach := Lib.hid (each_any lineG (fun G W => DfSt w w.heap.size G W) 1048576 (Nat.le_refl _) 58 #[.pointer (some ⟨w.heap.size, 0, none⟩)] #[] (fun args w => by simp [go_sem])
   (fun G W W' h hb => h.below hb) (fun G W h => HM.out.on h.2) (fun G p W h hp => (dread_any w.heap.size G p (by omega) W h.1 (HP.out.on h.2) (HE.out.on h.2) (HM.out.on h.2)).mono fun e w' h2 => ⟨h2.1, h2.2.trans h.2⟩) s hs Gr.none W0 hd0)
 clear hd0
 have hrd : linesP lineG Gr.none 1 (partsA 10 [] s) = X := HX.out.symm
 rw [hrd] at HEach
 clear hrd
 refine HEach.out.mono ?_
 rintro e w1 ⟨rfl, h1⟩
 obtain ⟨G, n, c⟩ := X
 simp only at h1 ⊢
 have HD := Lib.hid h1
 clear HEach h1
 by_cases hc : c = 0
 · subst hc
   obtain ⟨⟨vs, es, S, h⟩, hb⟩ := HD.out
   have hrow := h.row
   have hdl := h.lt
   have HFF := Lib.hid fun W (hW : Below w1.heap.size w1 W) => show W.cell? ⟨w.heap.size, 0, none⟩ = some vs ∧ W.cell? ⟨w.heap.size, 1, none⟩ = some es from
     have hr := (row?_below hW hdl).trans hrow
     ⟨(cell?_row (i := 0) hr).trans (dRow_0 _ _ _), (cell?_row (i := 1) hr).trans (dRow_1 _ _ _)⟩
   have HB1 := Lib.hid hb
   have HV := Lib.hid (h.V.rd elV)
   have HEd := Lib.hid (h.E.rd elE)
   obtain ⟨qv, cv, rfl⟩ := h.V.sl
   obtain ⟨qe, ce, rfl⟩ := h.E.sl
   clear h hb hrow
   go_wp2_with fail
   refine wp_region_mix (fun W => Below w1.heap.size w1 W) 13 [(0, true), (1, true), (2, true), (3, true), (4, true), (5, true), (6, true), (7, true), (8, false), (9, true), (10, true), (11, true), (12, true)] (by kernel_rfl) (by kernel_rfl) (Below.refl _ _).drew ?_
   repeat (apply wpPlan_still rfl rfl; (intro w hw; obtain ⟨f0, f1⟩ := HFF.out _ hw; clear hw; go_simp; (try go_ints); (first | with_reducible rfl | (go_simp; with_reducible rfl))); (intro K hK; go_simp; (try go_ints); refine hK _ _ ?_; clear hK K))
   apply wpPlan_act rfl rfl
   intro K hK
   unfold Oper.wp
   go_simp
   refine (gbuild_any G HOk.out _ _ w1.drew (HV.out.below (Below.refl _ _).drew (Nat.le_refl _)) (HEd.out.below (Below.refl _ _).drew (Nat.le_refl _))).mono ?_
   rintro r w2 ⟨g, bV, bE, rfl, hG2, ⟨hg0, hV0, hE0⟩, hb2⟩
   have hs1 := HB1.out.size
   have hb2' : Below w1.heap.size w1 w2 := (Below.refl _ w1).drew.trans hb2
   have hgB : w.heap.size ≤ g ∧ w.heap.size ≤ bV ∧ w.heap.size ≤ bE := by simp only [World.size_drew] at hg0 hV0 hE0; omega
   have HG2 := Lib.hid hG2
   have HB2 := Lib.hid (HB1.out.trans (hb2'.mono hs1))
   refine hK _ _ hb2' ?_
   clear hK K hG2 hb2 hb2' hg0 hV0 hE0
   repeat (apply wpPlan_still rfl rfl; (intro w hw; clear hw; go_simp; (try go_ints); (first | with_reducible rfl | (go_simp; with_reducible rfl))); (intro K hK; go_simp; (try go_ints); refine hK _ _ ?_; clear hK K))
   refine wpPlan_nil ?_
   simp only [List.drop_succ_cons, List.drop_zero]
   go_wp2_with fail
   go_ret3
   exact ⟨.inl ⟨rfl, g, bV, bE, rfl, HG2.out, hgB⟩, HB2.out⟩
 · have e1 : ((c : Int) != 0) = true := by rw [bne_iff_ne]; omega
   have e2 : ¬ (c : Int) = 0 := by omega
   have HC := Lib.hid hc
   clear hc
   go_wp2_with fail
   go_ret3
   exact ⟨.inr ⟨HC.out, rfl⟩, HD.out.2⟩
end Go.Proofs.YtlmccbepllgbfaaGreatDoor
