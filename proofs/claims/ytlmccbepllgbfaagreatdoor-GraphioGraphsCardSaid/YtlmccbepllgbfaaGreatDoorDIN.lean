/- Walk: the reference's ReadGraph. -/
import Derived.Test.YtlmccbepllgbfaaGreatDoorDIK
set_option linter.all false
namespace Go.Pal
open Go
section
variable {P : Program} {ops : Array Oper} {md : Region.Mode} {S1 S2 : World → Prop} {z : Nat} {Q : Exit → Act → World → Prop}
theorem wpPlanZ_actB {K : Act → World → Prop} {a : Act} {w : World} {k : Nat} {r : List (Nat × Bool)} {o : Oper} (ho : ops[k]? = some o) (hg : o.guard = none) (hk : ¬ k = z)
   (h : ∀ K' : Act → World → Prop, (∀ a w, S1 w → wpPlanZ P md ops S1 S2 z Q K r false a w → K' a w) → o.wp P a w K' Q) : wpPlanZ P md ops S1 S2 z Q K ((k, false) :: r) false a w := by
 show wpOp P ops Q k _ a w
 unfold wpOp
 have h1 : ¬ (k = z ∨ false = true) := by simpa using hk
 have hb : (decide (k = z) || false) = false := by simpa using hk
 simp only [ho, wanted_none hg, if_true, if_neg h1]
 rw [hb]
 exact .inl (h _ fun a w hs hp => ⟨hs, hp⟩)
end
end Go.Pal
namespace Go.Proofs.YtlmccbepllgbfaaGreatDoor
open Go Go.RowKit Go.Pal Go.Shelf
attribute [local go_sem] Oper.semAt_some
set_option maxRecDepth 10000 in
set_option maxHeartbeats 2000000 in
theorem rreadG_any (s : List UInt8) (hs : s.length ≤ 100000) (w : World) :
   Calls Tryz.prog 19 #[.string ⟨s.toArray⟩] w fun e w' => ∃ aV nV cV aE nE cE, e = .returned (.tuple #[.agg #[.slice aV nV cV, .slice aE nE cE], .int .i64 ((readG s).2.1 : Nat), .int .i64 ((readG s).2.2 : Nat)]) ∧ ((readG s).2.2 = 0 → RefG w' (.slice aV nV cV) (.slice aE nE cE) (readG s).1) ∧ Below w.heap.size w w' := by
 obtain ⟨X, hX⟩ : ∃ X, X = readG s := ⟨_, rfl⟩
 rw [← hX]
 have HSp := Lib.hid fun W => rparts_any 10 s hs W
 obtain ⟨P, hP⟩ : ∃ P, P = partsA 10 [] s := ⟨_, rfl⟩
 have hne : P ≠ [] := by rw [hP]; exact partsA_ne 10 s []
 have HPl := Lib.hid (show ∀ p ∈ P, p.length ≤ 100000 from fun p hp => by rw [hP] at hp; have := partsA_len p hp; simp at this; omega)
 have hct : P.length ≤ 100001 := by rw [hP]; have := partsA_count 10 s []; omega
 have HX := Lib.hid (show X = linesP lineG Gr.none 1 P from by rw [hX, hP]; rfl)
 rw [← hP] at HSp
 have hP1 : 1 ≤ P.length := by
   cases P with
   | nil => exact absurd rfl hne
   | cons p r => simp
 clear hX hP hne
 obtain ⟨NP, hNP⟩ : ∃ NP, NP = P.length := ⟨_, rfl⟩
 rw [← hNP] at hct hP1
 have HNP := Lib.hid hNP
 clear hNP
 go_enter Tryz.func19, Tryz.ntmps19
 go_wp2_with fail
 generalize hW0 : World.alloc (World.alloc w _) _ = W0
 have q0 : row? W0 w.heap.size = some #[.slice none 0 0, .slice none 0 0] := by rw [← hW0]; simp [go_sem]
 have q1 : row? W0 (w.heap.size + 1) = some #[.slice none 0 0, .slice none 0 0] := by rw [← hW0]; simp [go_sem]
 have HB0 := Lib.hid (show Below w.heap.size w W0 from by rw [← hW0]; exact ((Below.refl _ w).alloc (Nat.le_refl _) _).alloc (by simp) _)
 have hsz : W0.heap.size = w.heap.size + 2 := by rw [← hW0]; simp
 have HSZ := Lib.hid hsz
 clear hW0
 refine (HSp.out W0).mono ?_
 rintro e w1 ⟨vl, rfl, hl, hb1⟩
 obtain ⟨al, cl, rfl⟩ := hl.sl
 have hb := hl.block
 have HL := Lib.hid (hl.rd elStr)
 rw [← HNP.out] at HL ⊢
 have HBl := Lib.hid (show ∀ j, (Value.slice al NP cl).ownBlock = some j → W0.heap.size ≤ j from fun j hj => hb j (by rw [← HNP.out]; exact hj))
 have HB1 := Lib.hid (HB0.out.trans (hb1.mono HB0.out.size))
 have r0 := (row?_below hb1 (by omega)).trans q0
 have r1 := (row?_below hb1 (by omega)).trans q1
 have hs1 := hb1.size
 clear hl hb1 hb HSp q0 q1
 go_wp2_with fail
 go_loopw [7] (fun i wr => ∃ (k : Nat) (G : Gr) (aV : Option Addr) (cV : Nat) (aE : Option Addr) (cE : Nat), i = .int .i64 (k : Int) ∧ k + 1 ≤ NP ∧ row? wr w.heap.size = some #[.slice none 0 0, .slice none 0 0] ∧ row? wr (w.heap.size + 1) = some #[.slice aV G.V.length cV, .slice aE G.E.length cE] ∧ RefG wr (.slice aV G.V.length cV) (.slice aE G.E.length cE) G ∧ G.Ok ∧ X = linesP lineG G (k + 1) (P.drop k) ∧ Below w.heap.size w wr ∧ w1.heap.size ≤ wr.heap.size ∧ ∀ j, w.heap.size + 2 ≤ j → j < w1.heap.size → wr.heap[j]? = w1.heap[j]?) (fun i _ => NP - (intOf i).toNat)
 case atStart => exact ⟨0, Gr.none, none, 0, none, 0, rfl, by omega, r0, r1, ⟨Rd.nil, Rd.nil⟩, gr_none_ok, by rw [HX.out]; rfl, HB1.out, Nat.le_refl _, fun _ _ _ => rfl⟩
 case round =>
   clear r0 r1
   obtain ⟨k, G, aV, cV, aE, cE, rfl, hk, r0, r1, hRG, hG, hx, hbr, hsr, hkeep⟩ := hrel
   have HRG := Lib.hid hRG
   have HG := Lib.hid hG
   have HXk := Lib.hid hx
   have HB := Lib.hid hbr
   have HKp := Lib.hid hkeep
   obtain ⟨LV, hLV⟩ : ∃ n, n = G.V.length := ⟨_, rfl⟩
   obtain ⟨LE, hLE⟩ : ∃ n, n = G.E.length := ⟨_, rfl⟩
   rw [← hLV, ← hLE] at HRG r1
   clear hRG hG hx hbr hkeep hLV hLE
   obtain ⟨b, off, c', p, h1, hbb, hp, hc⟩ := HL.out.at (i := k) (by rw [← HNP.out]; omega)
   simp only [Value.slice.injEq] at h1
   obtain ⟨e1, -, e2⟩ := h1
   subst e2
   subst e1
   have hbl := HBl.out b rfl
   have c1w : w1.cell? ⟨b, off + k, none⟩ = some (.string ⟨p.toArray⟩) := by have := hc w1 (Below.refl _ _) 0 _ rfl; rwa [Nat.mul_one, Nat.add_zero] at this
   have c1 : wr.cell? ⟨b, off + k, none⟩ = some (.string ⟨p.toArray⟩) := (World.cell?_of_block (HKp.out b (by rw [← HSZ.out]; exact hbl) hbb)).trans c1w
   have hbr : b < wr.heap.size := Nat.lt_of_lt_of_le hbb hsr
   have hpl := HPl.out p (List.mem_of_getElem? hp)
   have HD := Lib.hid (show P.drop k = p :: P.drop (k + 1) from by
     obtain ⟨h1, h2⟩ := List.getElem?_eq_some_iff.1 hp
     rw [← h2]
     exact List.drop_eq_getElem_cons h1)
   have hs0 : w.heap.size + 1 < wr.heap.size := by have := HSZ.out; omega
   clear hp hc c1w
   by_cases hlast : k + 1 = NP
   · have d1 : ((k : Int) == (NP : Int) - 1) = true := by rw [beq_iff_eq]; omega
     have HDn := Lib.hid (show P.drop (k + 1) = [] from List.drop_eq_nil_of_le (by rw [← HNP.out]; omega))
     have HXl := Lib.hid (show X = if p = [] then (G, 0, 0) else (G, k + 1, 4) from by rw [HXk.out, HD.out, HDn.out, linesP_last])
     have hlt : (k : Int) < (NP : Int) := by omega
     have HLa := Lib.hid hlast
     clear hlast
     by_cases hp0 : p = []
     · subst hp0
       have HE := Lib.hid (HXl.out.trans (if_pos rfl))
       go_wp2_with fail
       refine ret_c3 w.heap.size #[.slice aV LV cV, .slice aE LE cE] rfl Tryz.isAgg42 Tryz.sizeOf42 rfl rfl (row?_setRow_same _ _ _ (by rw [r0]; rfl)) rfl ⟨aV, LV, cV, aE, LE, cE, by rw [HE.out]; rfl, fun _ => ?_, below_setRow HB.out (Nat.le_refl _) _⟩
       rw [HE.out]
       exact ⟨rd_setRow (fun x => ⟨_, rfl⟩) HRG.out.1 r0 _, rd_setRow (fun x => ⟨_, rfl⟩) HRG.out.2 r0 _⟩
     · have HE := Lib.hid (HXl.out.trans (if_neg hp0))
       have d2 : (p != []) = true := by simpa using hp0
       have d3 : (p == []) = false := by simpa using hp0
       clear hp0
       go_wp2_with fail
       refine ret_c3 w.heap.size #[.slice none 0 0, .slice none 0 0] rfl Tryz.isAgg42 Tryz.sizeOf42 rfl rfl (row?_setRow_same _ _ _ (by rw [r0]; rfl)) rfl ⟨none, 0, 0, none, 0, 0, by rw [HE.out]; rfl, fun h => ?_, below_setRow HB.out (Nat.le_refl _) _⟩
       rw [HE.out] at h
       cases h
   · have d1 : ((k : Int) == (NP : Int) - 1) = false := by rw [beq_eq_false_iff_ne]; omega
     have d2 : ¬ (k : Int) = (NP : Int) - 1 := by omega
     have hlt : (k : Int) < (NP : Int) := by omega
     have HXn := Lib.hid (show X = if (lineG G p).2 = 0 then linesP lineG (lineG G p).1 (k + 1 + 1) (P.drop (k + 1)) else ((lineG G p).1, k + 1, (lineG G p).2) from by
       rw [HXk.out, HD.out]
       refine linesP_cons lineG G (k + 1) p fun h => ?_
       have := congrArg List.length h
       rw [List.length_drop, ← HNP.out] at this
       simp at this
       omega)
     have hok := lineG_ok HG.out p
     have HLn := Lib.hid fun W (hW : Below wr.heap.size wr W) => rline_any G HG.out p hpl _ _ W (RefG.below HRG.out hW)
     obtain ⟨Y, hY⟩ : ∃ Y, Y = lineG G p := ⟨_, rfl⟩
     rw [← hY] at HXn hok HLn
     obtain ⟨H, c⟩ := Y
     have HOk := Lib.hid hok
     have HFF := Lib.hid fun W (hW : Below wr.heap.size wr W) => show row? W w.heap.size = some #[.slice none 0 0, .slice none 0 0] ∧ row? W (w.heap.size + 1) = some #[.slice aV LV cV, .slice aE LE cE] ∧ W.cell? ⟨b, off + k, none⟩ = some (.string ⟨p.toArray⟩) from
       ⟨(row?_below hW (by omega)).trans r0, (row?_below hW hs0).trans r1, (hW.cell (p := ⟨b, off + k, none⟩) hbr).trans c1⟩
     clear hok hY r0 r1 c1
     go_wp2_with fail
     refine wp_region_mixZ (fun W => Below wr.heap.size wr W) (fun _ => True) 9 [(0, true), (1, true), (2, true), (3, true), (4, true), (5, false), (6, true), (7, true), (8, true), (9, false), (10, true)] (by kernel_rfl) (by kernel_rfl) (Below.refl _ _).drew ?_
     apply wpPlanZ_old rfl rfl (by kernel_rfl)
     · intro w hw
       obtain ⟨r0, r1, c1⟩ := HFF.out _ hw; clear hw
       go_simp
       (try go_ints)
       first | with_reducible rfl | (go_simp; with_reducible rfl)
     intro K hK
     go_simp
     (try go_ints)
     refine hK _ _ ?_
     clear hK K
     repeat ((first | apply wpPlanZ_free rfl rfl | apply wpPlanZ_freeG rfl rfl); (intro w; go_simp; (try go_ints); (first | with_reducible rfl | (go_simp; with_reducible rfl))); (intro K hK; go_simp; (try go_ints); refine hK _ _ ?_; clear hK K))
     apply wpPlanZ_old rfl rfl (by kernel_rfl)
     · intro w hw
       obtain ⟨r0, r1, c1⟩ := HFF.out _ hw; clear hw
       go_simp
       (try go_ints)
       first | with_reducible rfl | (go_simp; with_reducible rfl)
     intro K hK
     go_simp
     (try go_ints)
     refine hK _ _ ?_
     clear hK K
     apply wpPlanZ_actB rfl rfl (by decide)
     intro K hK
     unfold Oper.wp
     go_simp
     refine (HLn.out _ (Below.refl _ _).drew).mono ?_
     rintro r w5 ⟨vV', vE', rfl, hR5, hb5⟩
     have hb5' := (Below.refl wr.heap.size wr).drew.trans hb5
     obtain ⟨aV', cV', hvV⟩ := hR5.1.sl
     obtain ⟨aE', cE', hvE⟩ := hR5.2.sl
     subst hvV hvE
     have HR5 := Lib.hid hR5
     have HB5 := Lib.hid (HB.out.trans (hb5'.mono HB.out.size))
     have HB5r := Lib.hid hb5'
     obtain ⟨r0, r1, -⟩ := HFF.out w5 hb5'
     have HR05 := Lib.hid r0
     have HR15 := Lib.hid r1
     obtain ⟨nV, hnV⟩ : ∃ n, n = H.V.length := ⟨_, rfl⟩
     obtain ⟨nE, hnE⟩ : ∃ n, n = H.E.length := ⟨_, rfl⟩
     have HnV := Lib.hid hnV
     have HnE := Lib.hid hnE
     simp only at HR5 ⊢
     rw [← hnV, ← hnE] at HR5 ⊢
     refine hK _ _ hb5' ?_
     clear hK K hR5 hb5 hb5' hnV hnE r0 r1
     repeat ((first | apply wpPlanZ_free rfl rfl | apply wpPlanZ_freeG rfl rfl); (intro w; go_simp; (try go_ints); (first | with_reducible rfl | (go_simp; with_reducible rfl))); (intro K hK; go_simp; (try go_ints); refine hK _ _ ?_; clear hK K))
     apply wpPlanZ_act rfl rfl (by decide)
     intro K hK
     unfold Oper.wp
     have r1 := HR15.out
     go_simp
     refine hK _ _ trivial ?_
     clear hK K r1
     repeat ((first | apply wpPlanZ_free rfl rfl | apply wpPlanZ_freeG rfl rfl); (intro w; go_simp; (try go_ints); (first | with_reducible rfl | (go_simp; with_reducible rfl))); (intro K hK; go_simp; (try go_ints); refine hK _ _ ?_; clear hK K))
     refine wpPlanZ_nil ?_
     obtain ⟨w6, hw6⟩ : ∃ w6, w6 = w5.setRow (w.heap.size + 1) #[.slice aV' nV cV', .slice aE' nE cE'] := ⟨_, rfl⟩
     rw [← hw6]
     have r06 : row? w6 w.heap.size = some #[.slice none 0 0, .slice none 0 0] := by rw [hw6, row?_setRow_other _ _ _ _ (by omega)]; exact HR05.out
     have r16 : row? w6 (w.heap.size + 1) = some #[.slice aV' nV cV', .slice aE' nE cE'] := by rw [hw6]; exact row?_setRow_same _ _ _ (by rw [HR15.out]; rfl)
     have HR6 := Lib.hid (show RefG w6 (.slice aV' nV cV') (.slice aE' nE cE') H from by rw [hw6]; exact ⟨rd_setRow (fun x => ⟨_, rfl⟩) HR5.out.1 HR15.out _, rd_setRow (fun x => ⟨_, rfl⟩) HR5.out.2 HR15.out _⟩)
     have HB6 := Lib.hid (show Below w.heap.size w w6 from by rw [hw6]; exact below_setRow HB5.out (by omega) _)
     have hs6 : wr.heap.size ≤ w6.heap.size := by rw [hw6]; simpa using HB5r.out.size
     have HK6 := Lib.hid (show ∀ j, w.heap.size + 2 ≤ j → j < w1.heap.size → w6.heap[j]? = w1.heap[j]? from fun j h1 h2 => by
       rw [hw6]
       exact (setRow_other _ _ _ _ (by omega)).trans ((HB5r.out.block j (by omega)).trans (HKp.out j h1 h2)))
     clear hw6
     by_cases hc0 : c = 0
     · subst hc0
       have HE := Lib.hid (HXn.out.trans (if_pos rfl))
       go_wp2_with fail
       go_roundw
       case rel => exact ⟨k + 1, H, aV', cV', aE', cE', by go_num, by omega, r06, by rw [← HnV.out, ← HnE.out]; exact r16, by rw [← HnV.out, ← HnE.out]; exact HR6.out, HOk.out, HE.out, HB6.out, by omega, HK6.out⟩
       case measure => simp [intOf]; omega
     · have HE := Lib.hid (HXn.out.trans (if_neg hc0))
       have e1 : ((c : Int) != 0) = true := by rw [bne_iff_ne]; omega
       have e2 : ¬ (c : Int) = 0 := by omega
       have HC := Lib.hid hc0
       clear hc0
       go_wp2_with fail
       refine ret_c3 w.heap.size #[.slice none 0 0, .slice none 0 0] rfl Tryz.isAgg42 Tryz.sizeOf42 rfl rfl (row?_setRow_same _ _ _ (by rw [r06]; rfl)) rfl ⟨none, 0, 0, none, 0, 0, by rw [HE.out]; rfl, fun h => ?_, below_setRow HB6.out (Nat.le_refl _) _⟩
       rw [HE.out] at h
       exact absurd h HC.out
end Go.Proofs.YtlmccbepllgbfaaGreatDoor
