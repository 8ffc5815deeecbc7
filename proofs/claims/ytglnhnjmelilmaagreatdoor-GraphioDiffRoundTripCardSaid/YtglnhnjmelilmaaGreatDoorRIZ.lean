/- Walk: graphio's ParseEdit (its first half: the word and the form; under way). -/
import Derived.Test.YtglnhnjmelilmaaGreatDoorRIy
import Derived.Test.YtglnhnjmelilmaaGreatDoorRIe
import Derived.Test.YtglnhnjmelilmaaGreatDoorRHE
set_option linter.all false
namespace Go.Proofs.YtglnhnjmelilmaaGreatDoor
open Go Go.RowKit Go.Pal Go.Shelf
attribute [local go_sem] Oper.semAt_some str_get str_part
@[go_sem ↓ high] theorem storeEP (a : Addr) (v : Value) : storeVar 23 a v = storeLater 23 a v := rfl
@[go_sem] theorem storeEP_run (w : World) (a : Addr) (v : Value) : (storeLater 23 a v).run Tryz.prog w = rowStore Tryz.prog 23 a v w := rfl
@[go_sem] theorem storeEP_at (w : World) (g : Nat) (d : Array Value) : rowStore Tryz.prog 23 ⟨g, 0, none⟩ (.agg d) w = match row? w g with
     | some c => if c.size = 5 ∧ d.size = 5 ∧ allOne d = true then .ok () (w.setRow g d) else laterStore Tryz.prog 23 ⟨g, 0, none⟩ (.agg d) w
     | none => laterStore Tryz.prog 23 ⟨g, 0, none⟩ (.agg d) w := store_row Tryz.sizeOf23 w g d
@[go_sem] theorem loadFX_at (w : World) (g : Nat) : rowLoad Tryz.prog 102 ⟨g, 0, none⟩ w = match row? w g with
     | some c => if c.size = 4 then .ok (.agg c) w else laterLoad Tryz.prog 102 ⟨g, 0, none⟩ w
     | none => laterLoad Tryz.prog 102 ⟨g, 0, none⟩ w := load_row Tryz.isAgg102 Tryz.sizeOf102 w g
@[go_sem] theorem allOne_EP (a b c d e : Int) : allOne #[.int .i64 a, .int .i64 b, .int .i64 c, .int .u8 d, .int .i64 e] = true := by unfold allOne; simp [Value.oneCell']
@[go_sem ↓ high] theorem build_EK (k : Int) (w : World) : (Instr.build 23 #[(0, .int .i64 k)]).run Tryz.prog w = .ok (.agg #[.int .i64 k, .int .i64 0, .int .i64 0, .int .u8 0, .int .i64 0]) w := by kernel_rfl
theorem cell_same {w W : World} {g i : Nat} (h : W.heap[g]? = w.heap[g]?) : W.cell? ⟨g, i, none⟩ = w.cell? ⟨g, i, none⟩ := by unfold World.cell?; simp only [h]
theorem rdl_cells {w : World} {v : Value} {l : List Int} (h : RdL w v l) (hne : l ≠ []) :
   ∃ g off c, v = .slice (some ⟨g, off, none⟩) l.length c ∧ g < w.heap.size ∧ ∀ W : World, W.heap[g]? = w.heap[g]? → ∀ (i : Nat) (z : Int), l[i]? = some z → W.cell? ⟨g, off + i, none⟩ = some (.int .i64 z) := by
 obtain ⟨a, c, rfl, hr⟩ := h
 rcases hr with hr | ⟨b, off, rfl, hb, hc⟩
 · exact absurd hr hne
 · exact ⟨b, off, c, rfl, hb, fun W hW i z hz => (cell_same hW).trans (hc i z hz)⟩
theorem own_load {pb B : Nat} {fv fl fw : Bool} {w : World} {v : Value} {L : List Nat} (h : OwnR 102 4 (fCells pb fv fl fw 0 0 0 0) B w v L) (hne : L ≠ []) :
   ∃ g c, v = .slice (some ⟨g, 0, none⟩) L.length c ∧ B ≤ g ∧ g < w.heap.size ∧ ∀ W : World, W.heap[g]? = w.heap[g]? → ∀ (i f : Nat), L[i]? = some f → rowLoad Tryz.prog 102 ⟨g, i * 4, none⟩ W = .ok (.agg (fCells pb fv fl fw 0 0 0 0 f)) W := by
 obtain ⟨a, c, rfl, hr⟩ := h.rd (elFX pb fv fl fw 0 0 0 0)
 rcases hr with hr | ⟨b, off, rfl, hb, hc⟩
 · exact absurd hr hne
 · rcases h.2 with ⟨_, h2⟩ | ⟨g, cap, cur, h1, hB, hg, _⟩
   · exact absurd (List.length_eq_zero_iff.1 h2) hne
   · simp only [Value.slice.injEq, Option.some.injEq, Addr.mk.injEq] at h1
     obtain ⟨⟨rfl, rfl, -⟩, -, rfl⟩ := h1
     refine ⟨b, c, rfl, hB, hb, fun W hW i f hf => load_cells Tryz.isAgg102 Tryz.sizeOf102 W b _ _ rfl fun j u hu => ?_⟩
     have := hc i f hf j u hu
     rw [Nat.zero_add] at this
     exact (cell_same hW).trans this
theorem fset3z_any (z : Int) (h : labB z = true) (pb ge : Nat) (w : World) (a b c d e : Int) (h1 : row? w pb = some #[.pointer (some ⟨ge, 0, none⟩)]) (h2 : row? w ge = some #[.int .i64 a, .int .i64 b, .int .i64 c, .int .u8 d, .int .i64 e]) :
   Calls Tryz.prog 105 #[.int .i64 z, .pointer (some ⟨pb, 0, none⟩)] w fun r w' => r = .returned (.tuple #[]) ∧ w' = w.setCell ⟨ge, 3, none⟩ (.int .u8 (z.toNat : Nat)) := by
 rw [labB_iff] at h
 obtain ⟨bn, rfl⟩ : ∃ bn : Nat, z = (bn : Int) := ⟨z.toNat, by omega⟩
 exact fset3_any bn (by omega) pb ge w a b c d e h1 h2
set_option maxRecDepth 10000 in
set_option maxHeartbeats 8000000 in
theorem pedit_any (s : List UInt8) (hs : s.length ≤ 1048576) (w : World) (hP : Pow w) (hE : Errs w) (hM : Mxl w) (hF : FormsOk w) :
   Calls Tryz.prog 14 #[.string ⟨s.toArray⟩] w fun e w' => e = .returned (.tuple #[.agg (edC (edRead s).1), .int .i64 ((edRead s).2 : Nat)]) ∧ Below w.heap.size w w' := by
 have HF := Lib.hid hF
 obtain ⟨X, hX⟩ : ∃ X, X = edRead s := ⟨_, rfl⟩
 rw [← hX]
 have HX := Lib.hid hX
 have HWd := Lib.hid fun W (hW : Below w.heap.size w W) => words_any s (by omega) W (hP.on hW) (hE.on hW) (hM.on hW)
 clear hX hP hE hM hF
 go_enter Tryz.func14, Tryz.ntmps14
 go_wp2_with fail
 generalize hW0 : World.alloc w _ = W0
 have q0 : row? W0 w.heap.size = some #[.int .i64 0, .int .i64 0, .int .i64 0, .int .u8 0, .int .i64 0] := by rw [← hW0]; simp [go_sem]
 have HB0 := Lib.hid (show Below w.heap.size w W0 from by rw [← hW0]; exact (Below.refl _ w).alloc (Nat.le_refl _) _)
 have HQ0 := Lib.hid q0
 have hsw := row?_lt q0
 clear hW0 q0
 refine (HWd.out W0 HB0.out).mono ?_
 rintro r w1 ⟨hres, hb1⟩
 have HB1 := Lib.hid (HB0.out.trans (hb1.mono HB0.out.size))
 have HR1 := Lib.hid ((row?_below hb1 hsw).trans HQ0.out)
 have hs1 : w.heap.size < w1.heap.size := Nat.lt_of_lt_of_le hsw hb1.size
 clear HWd
 rcases hres with ⟨wd, l, v, hw, rfl, hO⟩ | ⟨hw, rfl⟩
 · have HW := Lib.hid hw
   have HO := Lib.hid hO
   clear hw hO hb1
   go_wp2_with fail
   refine (indexO_any wd w1.heap.size _ (HF.out.on (HB1.out.alloc HB1.out.size _)) (row?_alloc_at _ _ _ _ rfl)).mono ?_
   rintro r w2 ⟨hix, hb2⟩
   have HB2 := Lib.hid ((HB1.out.alloc HB1.out.size _).trans (hb2.mono (by have := HB1.out.size; simp; omega)))
   have hr0 := (row?_below hb2 (show w.heap.size < (w1.alloc _).heap.size by simp; omega)).trans ((row?_alloc_past _ _ _ hs1).trans HR1.out)
   have hs2 := row?_lt hr0
   rcases hix with ⟨k, hk, ho, rfl⟩ | ⟨ho, rfl⟩
   · have HK := Lib.hid (show X = if l.length = manyOp k then edStep k l else (ed0, 3) from by rw [HX.out]; exact edRead_some HW.out ho)
     have hki : (k : Int) < 8 := by omega
     have hk0 : ¬ (k : Int) < 0 := by omega
     obtain ⟨fv, hfv⟩ : ∃ b, b = hasV k := ⟨_, rfl⟩
     obtain ⟨fl, hfl⟩ : ∃ b, b = hasL k := ⟨_, rfl⟩
     obtain ⟨fw, hfw⟩ : ∃ b, b = hasW k := ⟨_, rfl⟩
     obtain ⟨W3, hW3⟩ : ∃ W3, W3 = w2.alloc (.cells #[.int .i64 (k : Int), .int .i64 0, .int .i64 0, .int .u8 0, .int .i64 0] 23) := ⟨_, rfl⟩
     have hB3 : Below w.heap.size w W3 := by rw [hW3]; exact HB2.out.alloc HB2.out.size _
     have jl := HF.out.load hB3 hk
     rw [hW3] at jl
     rw [← hfv, ← hfl, ← hfw] at jl
     have HFv := Lib.hid hfv
     have HFl := Lib.hid hfl
     have HFw := Lib.hid hfw
     have HOl := Lib.hid (HO.out.below ((Below.refl w1.heap.size w1).alloc (Nat.le_refl _) (.cells #[.string ⟨wd.toArray⟩] 9)) (Nat.le_refl _))
     have HOk := Lib.hid (HOl.out.below hb2 (Nat.le_refl _))
     clear ho hb2 hfv hfl hfw
     go_wp2_with fail
     clear jl hB3 hW3
     clear W3
     generalize hW3 : World.alloc w2 _ = W3
     have q3 : row? W3 w2.heap.size = some #[.int .i64 (k : Int), .int .i64 0, .int .i64 0, .int .u8 0, .int .i64 0] := by rw [← hW3]; simp [go_sem]
     have hbw : Below w2.heap.size w2 W3 := by rw [← hW3]; exact (Below.refl _ w2).alloc (Nat.le_refl _) _
     have HB3 := Lib.hid (HB2.out.trans (hbw.mono HB2.out.size))
     have HR3 := Lib.hid ((row?_below hbw hs2).trans hr0)
     have HO3 := Lib.hid (HOk.out.below hbw (Nat.le_refl _))
     have HBW := Lib.hid hbw
     clear hW3 hbw HOl
     refine (fields_any (opW k) fv fl fw w2.heap.size (k : Int) 0 0 0 0 (by decide) W3 q3).mono ?_
     rintro r w4 ⟨rfl, hr4, hpb4, hb4⟩
     obtain ⟨b, hb⟩ : ∃ b, b = W3.heap.size + 2 := ⟨_, rfl⟩
     obtain ⟨pb, hpb⟩ : ∃ b, b = W3.heap.size + 1 := ⟨_, rfl⟩
     rw [← hb, ← hpb] at hr4
     rw [← hpb] at hpb4
     rw [← hb]
     have HR4 := Lib.hid hr4
     have HPB := Lib.hid hpb4
     have hbl := row?_lt hr4
     have HE4 := Lib.hid ((row?_below hb4 (row?_lt q3)).trans q3)
     have HB4 := Lib.hid (HB3.out.trans (hb4.mono HB3.out.size))
     have HB24 := Lib.hid (HBW.out.trans (hb4.mono HBW.out.size))
     have HZ4 := Lib.hid ((row?_below hb4 (row?_lt HR3.out)).trans HR3.out)
     have HO4 := Lib.hid (HO3.out.below hb4 (Nat.le_refl _))
     clear hr4 hpb4 hb4 q3 HR3 HO3 hb hpb hr0
     go_wp2_with fail
     go_loopw [9, 37] (fun own i wr => ∃ j : Nat, i = .int .i64 (j : Int) ∧ j ≤ 4 ∧ OwnR 102 4 (fCells pb fv fl fw 0 0 0 0) w4.heap.size wr own (ownTo fv fl fw j) ∧ Below w4.heap.size w4 wr) (fun _ i _ => 4 - (intOf i).toNat)
     case atStart => exact ⟨0, rfl, by omega, OwnR.nil _ _, Below.refl _ _⟩
     case round =>
       obtain ⟨j, rfl, hj, hO5, hb5⟩ := hrel
       have HO5 := Lib.hid hO5
       have HB5 := Lib.hid hb5
       have hsz := hb5.size
       have HR5 := Lib.hid ((row?_below hb5 hbl).trans HR4.out)
       obtain ⟨qo, co, hsl⟩ := hO5.sl
       subst hsl
       clear hO5 hb5
       by_cases h4 : j = 4
       · subst h4
         rw [show ((4 : Nat) : Int) = 4 from rfl]
         have hlen : (ownTo fv fl fw 4).length = manyOp k := by rw [ownTo_full, HFv.out, HFl.out, HFw.out, ownIdx_len]
         have HBw := Lib.hid (HB4.out.trans (HB5.out.mono HB4.out.size))
         have hr0 := (row?_below HB5.out (row?_lt HZ4.out)).trans HZ4.out
         have HO6 := Lib.hid (HO4.out.below HB5.out (Nat.le_refl _))
         obtain ⟨ql, cl, hlv⟩ := HO4.out.sl
         subst hlv
         obtain ⟨M, hM⟩ : ∃ M, M = (ownTo fv fl fw 4).length := ⟨_, rfl⟩
         rw [← hM]
         rw [← hM] at hlen
         have HM := Lib.hid hM
         clear hM
         by_cases hm : l.length = manyOp k
         · obtain ⟨L, hL⟩ : ∃ L, L = ownIdx (hasV k) (hasL k) (hasW k) := ⟨_, rfl⟩
           have hown : ownTo fv fl fw 4 = L := by rw [hL, ownTo_full, HFv.out, HFl.out, HFw.out]
           have hne : L ≠ [] := by rw [hL]; exact fun h => by cases h
           have hML : M = L.length := by rw [HM.out, hown]
           have hO := HO5.out
           rw [hown] at hO
           obtain ⟨go, co', e1, hgo1, hgo2, hld⟩ := own_load hO hne
           cases e1
           have hlne : l ≠ [] := by
             intro h
             rw [h] at hm
             unfold manyOp at hm
             simp at hm
             omega
           obtain ⟨gl, ol, cl', e2, hgl, hlc⟩ := rdl_cells HOk.out.rdl hlne
           cases e2
           have hpe : pb ≠ w2.heap.size := by
             intro h
             have h1 := HPB.out
             rw [h, HE4.out] at h1
             cases h1
           have hge4 := row?_lt HE4.out
           have hpb4 := row?_lt HPB.out
           have hge5 := (row?_below HB5.out hge4).trans HE4.out
           have hgl4 : gl < w4.heap.size := by omega
           rename World => W5
           have HC := Lib.hid fun W (hW : Same (fun b => b ≠ w2.heap.size) W5 W) => show (∀ (i f : Nat), L[i]? = some f → rowLoad Tryz.prog 102 ⟨go, i * 4, none⟩ W = .ok (.agg (fCells pb fv fl fw 0 0 0 0 f)) W) ∧ (∀ (i : Nat) (z : Int), l[i]? = some z → W.cell? ⟨gl, ol + i, none⟩ = some (.int .i64 z)) ∧ row? W pb = some #[.pointer (some ⟨w2.heap.size, 0, none⟩)] from
             ⟨hld W (hW.block go hgo2 (by omega)), hlc W ((hW.block gl (by omega) (by omega)).trans ((HB5.out.block gl hgl4).trans (HB24.out.block gl hgl))), (row?_congr (hW.block pb (by omega) hpe)).trans ((row?_below HB5.out hpb4).trans HPB.out)⟩
           have hMl : M = l.length := hlen.trans hm.symm
           have HR5w := Lib.hid hr0
           have hw5 := row?_lt hr0
           have hwge : w.heap.size ≠ w2.heap.size := Nat.ne_of_lt hs2
           have HLl := Lib.hid (show L.length = l.length from hML.symm.trans hMl)
           have HL := Lib.hid hL
           have HK2 := Lib.hid (show X = edStep k l from by rw [HK.out, if_pos hm])
           have Hm := Lib.hid hm
           have HG5 := Lib.hid hge5
           have hl4 : l.length ≤ 4 := by rw [hm]; exact manyOp_le k
           clear hlen HM hML hO hld hlc hown hm hL hge5
           subst hMl
           go_wp2_with fail
           go_loopw [56] (fun i wr => ∃ n : Nat, i = .int .i64 (n : Int) ∧ n ≤ l.length ∧ goodTo L l n ∧ row? wr w2.heap.size = some (edC (setTo k L l n)) ∧ Same (fun b => b ≠ w2.heap.size) W5 wr) (fun i _ => l.length - (intOf i).toNat)
           case atStart => exact ⟨0, rfl, by omega, goodTo_zero _ _, by rw [setTo_zero]; exact HG5.out, Same.refl _ _⟩
           case round =>
             obtain ⟨n, rfl, hn, hg, hrg, hS⟩ := hrel
             by_cases hlt : n < l.length
             · obtain ⟨f, hf⟩ : ∃ f, L[n]? = some f := ⟨_, List.getElem?_eq_getElem (by rw [HLl.out]; exact hlt)⟩
               obtain ⟨z, hz⟩ : ∃ z, l[n]? = some z := ⟨_, List.getElem?_eq_getElem hlt⟩
               obtain ⟨c1, c2, c3⟩ := HC.out wr hS
               have jl := c1 n f hf
               have jc := c2 n z hz
               unfold fCells at jl
               have HGd := Lib.hid hg
               have HSs := Lib.hid hS
               have HRg := Lib.hid hrg
               have HFn := Lib.hid hf
               have HZn := Lib.hid hz
               clear c1 c2 c3 hg hS hrg hf hz
               have hf4 : f < 4 := ownIdx_lt _ _ _ f (by rw [← HL.out]; exact List.mem_of_getElem? HFn.out)
               rcases (show f = 0 ∨ f = 1 ∨ f = 2 ∨ f = 3 by omega) with rfl | rfl | rfl | rfl
               · go_wp2_with fail
                 generalize hWv : World.alloc wr _ = Wv
                 obtain ⟨rv, hbv⟩ := alloc_row hWv
                 have HSv := Lib.hid (HSs.out.trans ((Same.of_below hbv).mono fun _ hk _ => hk))
                 have HV := Lib.hid fun W (hW : Below Wv.heap.size Wv W) => show W.cell? ⟨wr.heap.size, 3, none⟩ = some (.func (.func 103) #[] #[]) ∧ W.cell? ⟨wr.heap.size, 2, none⟩ = some (.func (.func 102) #[] #[.pointer (some ⟨pb, 0, none⟩)]) ∧ W.cell? ⟨gl, ol + n, none⟩ = some (.int .i64 z) ∧ row? W w2.heap.size = some (edC (setTo k L l n)) ∧ row? W pb = some #[.pointer (some ⟨w2.heap.size, 0, none⟩)] from by
                   have q := (row?_below hW (row?_lt rv)).trans rv
                   have hS2 := HSv.out.trans ((Same.of_below hW).mono fun _ hk _ => hk)
                   obtain ⟨c1, c2, c3⟩ := HC.out W hS2
                   exact ⟨(cell?_row (i := 3) q).trans rfl, (cell?_row (i := 2) q).trans rfl, c2 n z HZn.out, (row?_below hW (Nat.lt_of_lt_of_le (row?_lt HRg.out) hbv.size)).trans ((row?_below hbv (row?_lt HRg.out)).trans HRg.out), c3⟩
                 have hzi : (n : Int) < (l.length : Int) := by omega
                 clear hWv rv hbv jl jc
                 refine wp_region_free_tail (fun W => W = Wv.drew) 6 (by kernel_rfl) (by kernel_rfl) rfl ?_
                 simp only [List.take_succ_cons, List.take_zero, List.drop_succ_cons, List.drop_zero]
                 repeat (first | ((first | apply wpFree_still (hg := rfl) | apply wpFree_stillG rfl); (intro w hw; subst hw; obtain ⟨k0, k1, k2, -, -⟩ := HV.out _ (Below.refl _ _).drew; go_simp; (try go_ints); (first | with_reducible rfl | (go_simp; with_reducible rfl))); (intro K hK; go_simp; (try go_ints); refine hK _ ?_; clear hK K)) | (apply wpFree_skip rfl; (intro K hK; go_simp; (try go_ints); refine hK _ ?_; clear hK K)))
                 with_reducible refine wpFree_nil ?_
                 rintro w' rfl
                 go_wp2_with fail
                 refine (fid_any z _).mono ?_
                 rintro r w0 ⟨rfl, hw0⟩
                 rw [hw0]
                 clear hw0
                 cases hm2 : idB z with
                 | false =>
                   have HE := Lib.hid (show X = (ed0, 2) from by rw [HK2.out]; exact edStep_bad (f := 0) Hm.out (by rw [← HL.out]; exact HFn.out) HZn.out hm2)
                   have hr0 := (row?_congr (HSv.out.block w.heap.size hw5 hwge)).trans HR5w.out
                   have hr1 := (row?_congr ((HSv.out.trans (Same.drew _ _)).block w.heap.size hw5 hwge)).trans HR5w.out
                   have HBg := Lib.hid (HBw.out.trans (HSv.out.below (B := w.heap.size) (Nat.le_of_lt hw5) (fun b hb => Nat.ne_of_lt (Nat.lt_trans hb hs2))))
                   have HBf := Lib.hid (HBg.out.drew)
                   go_wp2_with fail
                   refine ret_c2 w.heap.size #[.int .i64 0, .int .i64 0, .int .i64 0, .int .u8 0, .int .i64 0] rfl Tryz.isAgg23 Tryz.sizeOf23 rfl rfl (row?_setRow_same _ _ _ (by first | (rw [hr0]; rfl) | (rw [hr1]; rfl))) rfl ?_
                   exact ⟨by rw [HE.out]; rfl, by first | exact below_setRow HBf.out (Nat.le_refl _) _ | exact below_setRow HBg.out (Nat.le_refl _) _ | exact (below_setRow HBg.out (Nat.le_refl _) _).drew⟩
                 | true =>
                   obtain ⟨-, -, -, hq, hp⟩ := HV.out Wv.drew.drew (Below.refl _ _).drew.drew
                   have HQs := Lib.hid (show row? Wv w2.heap.size = some (edC (setTo k L l n)) from hq)
                   have HSet := Lib.hid (fset1_any z pb w2.heap.size Wv.drew.drew (setTo k L l n).op (setTo k L l n).u (setTo k L l n).v ((setTo k L l n).lab : Int) (setTo k L l n).wt hp hq)
                   have HGn := Lib.hid (goodTo_succ HGd.out HFn.out HZn.out (show mayF 0 z = true from hm2))
                   have HSn := Lib.hid (HSv.out.trans ((Same.drew _ _).trans (Same.drew _ _)))
                   clear hp hq
                   go_wp2_with fail
                   refine wp_region_free_tail (fun W => W = Wv.drew.drew) 6 (by kernel_rfl) (by kernel_rfl) rfl ?_
                   simp only [List.take_succ_cons, List.take_zero, List.drop_succ_cons, List.drop_zero]
                   repeat (first | ((first | apply wpFree_still (hg := rfl) | apply wpFree_stillG rfl); (intro w hw; subst hw; obtain ⟨k0, k1, k2, -, -⟩ := HV.out _ (Below.refl _ _).drew.drew; go_simp; (try go_ints); (first | with_reducible rfl | (go_simp; with_reducible rfl))); (intro K hK; go_simp; (try go_ints); refine hK _ ?_; clear hK K)) | (apply wpFree_skip rfl; (intro K hK; go_simp; (try go_ints); refine hK _ ?_; clear hK K)))
                   with_reducible refine wpFree_nil ?_
                   rintro w' rfl
                   go_wp2_with fail
                   refine HSet.out.mono ?_
                   rintro r w0 ⟨rfl, hw0⟩
                   rw [hw0]
                   clear hw0 HSet
                   go_wp2_with fail
                   go_roundw
                   case rel => exact ⟨n + 1, by go_num, by omega, HGn.out, by rw [setTo_succ HFn.out HZn.out]; exact (row?_setCell_same _ _ _ _).trans (by first | (rw [HQs.out]; rfl) | (simp only [row?_drew]; rw [HQs.out]; rfl) | (rw [HQs.out, show max z 0 = ((z.toNat : Nat) : Int) by omega]; rfl)), HSn.out.trans (Same.setCell _ _ _ _ (fun h => h rfl))⟩
                   case measure => simp [intOf]; omega
               · go_wp2_with fail
                 generalize hWv : World.alloc wr _ = Wv
                 obtain ⟨rv, hbv⟩ := alloc_row hWv
                 have HSv := Lib.hid (HSs.out.trans ((Same.of_below hbv).mono fun _ hk _ => hk))
                 have HV := Lib.hid fun W (hW : Below Wv.heap.size Wv W) => show W.cell? ⟨wr.heap.size, 3, none⟩ = some (.func (.func 103) #[] #[]) ∧ W.cell? ⟨wr.heap.size, 2, none⟩ = some (.func (.func 104) #[] #[.pointer (some ⟨pb, 0, none⟩)]) ∧ W.cell? ⟨gl, ol + n, none⟩ = some (.int .i64 z) ∧ row? W w2.heap.size = some (edC (setTo k L l n)) ∧ row? W pb = some #[.pointer (some ⟨w2.heap.size, 0, none⟩)] from by
                   have q := (row?_below hW (row?_lt rv)).trans rv
                   have hS2 := HSv.out.trans ((Same.of_below hW).mono fun _ hk _ => hk)
                   obtain ⟨c1, c2, c3⟩ := HC.out W hS2
                   exact ⟨(cell?_row (i := 3) q).trans rfl, (cell?_row (i := 2) q).trans rfl, c2 n z HZn.out, (row?_below hW (Nat.lt_of_lt_of_le (row?_lt HRg.out) hbv.size)).trans ((row?_below hbv (row?_lt HRg.out)).trans HRg.out), c3⟩
                 have hzi : (n : Int) < (l.length : Int) := by omega
                 clear hWv rv hbv jl jc
                 refine wp_region_free_tail (fun W => W = Wv.drew) 6 (by kernel_rfl) (by kernel_rfl) rfl ?_
                 simp only [List.take_succ_cons, List.take_zero, List.drop_succ_cons, List.drop_zero]
                 repeat (first | ((first | apply wpFree_still (hg := rfl) | apply wpFree_stillG rfl); (intro w hw; subst hw; obtain ⟨k0, k1, k2, -, -⟩ := HV.out _ (Below.refl _ _).drew; go_simp; (try go_ints); (first | with_reducible rfl | (go_simp; with_reducible rfl))); (intro K hK; go_simp; (try go_ints); refine hK _ ?_; clear hK K)) | (apply wpFree_skip rfl; (intro K hK; go_simp; (try go_ints); refine hK _ ?_; clear hK K)))
                 with_reducible refine wpFree_nil ?_
                 rintro w' rfl
                 go_wp2_with fail
                 refine (fid_any z _).mono ?_
                 rintro r w0 ⟨rfl, hw0⟩
                 rw [hw0]
                 clear hw0
                 cases hm2 : idB z with
                 | false =>
                   have HE := Lib.hid (show X = (ed0, 2) from by rw [HK2.out]; exact edStep_bad (f := 1) Hm.out (by rw [← HL.out]; exact HFn.out) HZn.out hm2)
                   have hr0 := (row?_congr (HSv.out.block w.heap.size hw5 hwge)).trans HR5w.out
                   have hr1 := (row?_congr ((HSv.out.trans (Same.drew _ _)).block w.heap.size hw5 hwge)).trans HR5w.out
                   have HBg := Lib.hid (HBw.out.trans (HSv.out.below (B := w.heap.size) (Nat.le_of_lt hw5) (fun b hb => Nat.ne_of_lt (Nat.lt_trans hb hs2))))
                   have HBf := Lib.hid (HBg.out.drew)
                   go_wp2_with fail
                   refine ret_c2 w.heap.size #[.int .i64 0, .int .i64 0, .int .i64 0, .int .u8 0, .int .i64 0] rfl Tryz.isAgg23 Tryz.sizeOf23 rfl rfl (row?_setRow_same _ _ _ (by first | (rw [hr0]; rfl) | (rw [hr1]; rfl))) rfl ?_
                   exact ⟨by rw [HE.out]; rfl, by first | exact below_setRow HBf.out (Nat.le_refl _) _ | exact below_setRow HBg.out (Nat.le_refl _) _ | exact (below_setRow HBg.out (Nat.le_refl _) _).drew⟩
                 | true =>
                   obtain ⟨-, -, -, hq, hp⟩ := HV.out Wv.drew.drew (Below.refl _ _).drew.drew
                   have HQs := Lib.hid (show row? Wv w2.heap.size = some (edC (setTo k L l n)) from hq)
                   have HSet := Lib.hid (fset2_any z pb w2.heap.size Wv.drew.drew (setTo k L l n).op (setTo k L l n).u (setTo k L l n).v ((setTo k L l n).lab : Int) (setTo k L l n).wt hp hq)
                   have HGn := Lib.hid (goodTo_succ HGd.out HFn.out HZn.out (show mayF 1 z = true from hm2))
                   have HSn := Lib.hid (HSv.out.trans ((Same.drew _ _).trans (Same.drew _ _)))
                   clear hp hq
                   go_wp2_with fail
                   refine wp_region_free_tail (fun W => W = Wv.drew.drew) 6 (by kernel_rfl) (by kernel_rfl) rfl ?_
                   simp only [List.take_succ_cons, List.take_zero, List.drop_succ_cons, List.drop_zero]
                   repeat (first | ((first | apply wpFree_still (hg := rfl) | apply wpFree_stillG rfl); (intro w hw; subst hw; obtain ⟨k0, k1, k2, -, -⟩ := HV.out _ (Below.refl _ _).drew.drew; go_simp; (try go_ints); (first | with_reducible rfl | (go_simp; with_reducible rfl))); (intro K hK; go_simp; (try go_ints); refine hK _ ?_; clear hK K)) | (apply wpFree_skip rfl; (intro K hK; go_simp; (try go_ints); refine hK _ ?_; clear hK K)))
                   with_reducible refine wpFree_nil ?_
                   rintro w' rfl
                   go_wp2_with fail
                   refine HSet.out.mono ?_
                   rintro r w0 ⟨rfl, hw0⟩
                   rw [hw0]
                   clear hw0 HSet
                   go_wp2_with fail
                   go_roundw
                   case rel => exact ⟨n + 1, by go_num, by omega, HGn.out, by rw [setTo_succ HFn.out HZn.out]; exact (row?_setCell_same _ _ _ _).trans (by first | (rw [HQs.out]; rfl) | (simp only [row?_drew]; rw [HQs.out]; rfl) | (rw [HQs.out, show max z 0 = ((z.toNat : Nat) : Int) by omega]; rfl)), HSn.out.trans (Same.setCell _ _ _ _ (fun h => h rfl))⟩
                   case measure => simp [intOf]; omega
               · go_wp2_with fail
                 generalize hWv : World.alloc wr _ = Wv
                 obtain ⟨rv, hbv⟩ := alloc_row hWv
                 have HSv := Lib.hid (HSs.out.trans ((Same.of_below hbv).mono fun _ hk _ => hk))
                 have HV := Lib.hid fun W (hW : Below Wv.heap.size Wv W) => show W.cell? ⟨wr.heap.size, 3, none⟩ = some (.func (.func 106) #[] #[]) ∧ W.cell? ⟨wr.heap.size, 2, none⟩ = some (.func (.func 105) #[] #[.pointer (some ⟨pb, 0, none⟩)]) ∧ W.cell? ⟨gl, ol + n, none⟩ = some (.int .i64 z) ∧ row? W w2.heap.size = some (edC (setTo k L l n)) ∧ row? W pb = some #[.pointer (some ⟨w2.heap.size, 0, none⟩)] from by
                   have q := (row?_below hW (row?_lt rv)).trans rv
                   have hS2 := HSv.out.trans ((Same.of_below hW).mono fun _ hk _ => hk)
                   obtain ⟨c1, c2, c3⟩ := HC.out W hS2
                   exact ⟨(cell?_row (i := 3) q).trans rfl, (cell?_row (i := 2) q).trans rfl, c2 n z HZn.out, (row?_below hW (Nat.lt_of_lt_of_le (row?_lt HRg.out) hbv.size)).trans ((row?_below hbv (row?_lt HRg.out)).trans HRg.out), c3⟩
                 have hzi : (n : Int) < (l.length : Int) := by omega
                 clear hWv rv hbv jl jc
                 refine wp_region_free_tail (fun W => W = Wv.drew) 6 (by kernel_rfl) (by kernel_rfl) rfl ?_
                 simp only [List.take_succ_cons, List.take_zero, List.drop_succ_cons, List.drop_zero]
                 repeat (first | ((first | apply wpFree_still (hg := rfl) | apply wpFree_stillG rfl); (intro w hw; subst hw; obtain ⟨k0, k1, k2, -, -⟩ := HV.out _ (Below.refl _ _).drew; go_simp; (try go_ints); (first | with_reducible rfl | (go_simp; with_reducible rfl))); (intro K hK; go_simp; (try go_ints); refine hK _ ?_; clear hK K)) | (apply wpFree_skip rfl; (intro K hK; go_simp; (try go_ints); refine hK _ ?_; clear hK K)))
                 with_reducible refine wpFree_nil ?_
                 rintro w' rfl
                 go_wp2_with fail
                 refine (flab_any z _).mono ?_
                 rintro r w0 ⟨rfl, hw0⟩
                 rw [hw0]
                 clear hw0
                 cases hm2 : labB z with
                 | false =>
                   have HE := Lib.hid (show X = (ed0, 2) from by rw [HK2.out]; exact edStep_bad (f := 2) Hm.out (by rw [← HL.out]; exact HFn.out) HZn.out hm2)
                   have hr0 := (row?_congr (HSv.out.block w.heap.size hw5 hwge)).trans HR5w.out
                   have hr1 := (row?_congr ((HSv.out.trans (Same.drew _ _)).block w.heap.size hw5 hwge)).trans HR5w.out
                   have HBg := Lib.hid (HBw.out.trans (HSv.out.below (B := w.heap.size) (Nat.le_of_lt hw5) (fun b hb => Nat.ne_of_lt (Nat.lt_trans hb hs2))))
                   have HBf := Lib.hid (HBg.out.drew)
                   go_wp2_with fail
                   refine ret_c2 w.heap.size #[.int .i64 0, .int .i64 0, .int .i64 0, .int .u8 0, .int .i64 0] rfl Tryz.isAgg23 Tryz.sizeOf23 rfl rfl (row?_setRow_same _ _ _ (by first | (rw [hr0]; rfl) | (rw [hr1]; rfl))) rfl ?_
                   exact ⟨by rw [HE.out]; rfl, by first | exact below_setRow HBf.out (Nat.le_refl _) _ | exact below_setRow HBg.out (Nat.le_refl _) _ | exact (below_setRow HBg.out (Nat.le_refl _) _).drew⟩
                 | true =>
                   obtain ⟨-, -, -, hq, hp⟩ := HV.out Wv.drew.drew (Below.refl _ _).drew.drew
                   have HQs := Lib.hid (show row? Wv w2.heap.size = some (edC (setTo k L l n)) from hq)
                   have HSet := Lib.hid (fset3z_any z hm2 pb w2.heap.size Wv.drew.drew (setTo k L l n).op (setTo k L l n).u (setTo k L l n).v ((setTo k L l n).lab : Int) (setTo k L l n).wt hp hq)
                   have HGn := Lib.hid (goodTo_succ HGd.out HFn.out HZn.out (show mayF 2 z = true from hm2))
                   have HSn := Lib.hid (HSv.out.trans ((Same.drew _ _).trans (Same.drew _ _)))
                   clear hp hq
                   go_wp2_with fail
                   refine wp_region_free_tail (fun W => W = Wv.drew.drew) 6 (by kernel_rfl) (by kernel_rfl) rfl ?_
                   simp only [List.take_succ_cons, List.take_zero, List.drop_succ_cons, List.drop_zero]
                   repeat (first | ((first | apply wpFree_still (hg := rfl) | apply wpFree_stillG rfl); (intro w hw; subst hw; obtain ⟨k0, k1, k2, -, -⟩ := HV.out _ (Below.refl _ _).drew.drew; go_simp; (try go_ints); (first | with_reducible rfl | (go_simp; with_reducible rfl))); (intro K hK; go_simp; (try go_ints); refine hK _ ?_; clear hK K)) | (apply wpFree_skip rfl; (intro K hK; go_simp; (try go_ints); refine hK _ ?_; clear hK K)))
                   with_reducible refine wpFree_nil ?_
                   rintro w' rfl
                   go_wp2_with fail
                   refine HSet.out.mono ?_
                   rintro r w0 ⟨rfl, hw0⟩
                   rw [hw0]
                   clear hw0 HSet
                   go_wp2_with fail
                   go_roundw
                   case rel => exact ⟨n + 1, by go_num, by omega, HGn.out, by rw [setTo_succ HFn.out HZn.out]; exact (row?_setCell_same _ _ _ _).trans (by first | (rw [HQs.out]; rfl) | (simp only [row?_drew]; rw [HQs.out]; rfl) | (rw [HQs.out, show max z 0 = ((z.toNat : Nat) : Int) by omega]; rfl)), HSn.out.trans (Same.setCell _ _ _ _ (fun h => h rfl))⟩
                   case measure => simp [intOf]; omega
               · go_wp2_with fail
                 generalize hWv : World.alloc wr _ = Wv
                 obtain ⟨rv, hbv⟩ := alloc_row hWv
                 have HSv := Lib.hid (HSs.out.trans ((Same.of_below hbv).mono fun _ hk _ => hk))
                 have HV := Lib.hid fun W (hW : Below Wv.heap.size Wv W) => show W.cell? ⟨wr.heap.size, 3, none⟩ = some (.func (.func 108) #[] #[]) ∧ W.cell? ⟨wr.heap.size, 2, none⟩ = some (.func (.func 107) #[] #[.pointer (some ⟨pb, 0, none⟩)]) ∧ W.cell? ⟨gl, ol + n, none⟩ = some (.int .i64 z) ∧ row? W w2.heap.size = some (edC (setTo k L l n)) ∧ row? W pb = some #[.pointer (some ⟨w2.heap.size, 0, none⟩)] from by
                   have q := (row?_below hW (row?_lt rv)).trans rv
                   have hS2 := HSv.out.trans ((Same.of_below hW).mono fun _ hk _ => hk)
                   obtain ⟨c1, c2, c3⟩ := HC.out W hS2
                   exact ⟨(cell?_row (i := 3) q).trans rfl, (cell?_row (i := 2) q).trans rfl, c2 n z HZn.out, (row?_below hW (Nat.lt_of_lt_of_le (row?_lt HRg.out) hbv.size)).trans ((row?_below hbv (row?_lt HRg.out)).trans HRg.out), c3⟩
                 have hzi : (n : Int) < (l.length : Int) := by omega
                 clear hWv rv hbv jl jc
                 refine wp_region_free_tail (fun W => W = Wv.drew) 6 (by kernel_rfl) (by kernel_rfl) rfl ?_
                 simp only [List.take_succ_cons, List.take_zero, List.drop_succ_cons, List.drop_zero]
                 repeat (first | ((first | apply wpFree_still (hg := rfl) | apply wpFree_stillG rfl); (intro w hw; subst hw; obtain ⟨k0, k1, k2, -, -⟩ := HV.out _ (Below.refl _ _).drew; go_simp; (try go_ints); (first | with_reducible rfl | (go_simp; with_reducible rfl))); (intro K hK; go_simp; (try go_ints); refine hK _ ?_; clear hK K)) | (apply wpFree_skip rfl; (intro K hK; go_simp; (try go_ints); refine hK _ ?_; clear hK K)))
                 with_reducible refine wpFree_nil ?_
                 rintro w' rfl
                 go_wp2_with fail
                 refine (fwt_any z _).mono ?_
                 rintro r w0 ⟨rfl, hw0⟩
                 rw [hw0]
                 clear hw0
                 cases hm2 : wtB z with
                 | false =>
                   have HE := Lib.hid (show X = (ed0, 2) from by rw [HK2.out]; exact edStep_bad (f := 3) Hm.out (by rw [← HL.out]; exact HFn.out) HZn.out hm2)
                   have hr0 := (row?_congr (HSv.out.block w.heap.size hw5 hwge)).trans HR5w.out
                   have hr1 := (row?_congr ((HSv.out.trans (Same.drew _ _)).block w.heap.size hw5 hwge)).trans HR5w.out
                   have HBg := Lib.hid (HBw.out.trans (HSv.out.below (B := w.heap.size) (Nat.le_of_lt hw5) (fun b hb => Nat.ne_of_lt (Nat.lt_trans hb hs2))))
                   have HBf := Lib.hid (HBg.out.drew)
                   go_wp2_with fail
                   refine ret_c2 w.heap.size #[.int .i64 0, .int .i64 0, .int .i64 0, .int .u8 0, .int .i64 0] rfl Tryz.isAgg23 Tryz.sizeOf23 rfl rfl (row?_setRow_same _ _ _ (by first | (rw [hr0]; rfl) | (rw [hr1]; rfl))) rfl ?_
                   exact ⟨by rw [HE.out]; rfl, by first | exact below_setRow HBf.out (Nat.le_refl _) _ | exact below_setRow HBg.out (Nat.le_refl _) _ | exact (below_setRow HBg.out (Nat.le_refl _) _).drew⟩
                 | true =>
                   obtain ⟨-, -, -, hq, hp⟩ := HV.out Wv.drew.drew (Below.refl _ _).drew.drew
                   have HQs := Lib.hid (show row? Wv w2.heap.size = some (edC (setTo k L l n)) from hq)
                   have HSet := Lib.hid (fset4_any z pb w2.heap.size Wv.drew.drew (setTo k L l n).op (setTo k L l n).u (setTo k L l n).v ((setTo k L l n).lab : Int) (setTo k L l n).wt hp hq)
                   have HGn := Lib.hid (goodTo_succ HGd.out HFn.out HZn.out (show mayF 3 z = true from hm2))
                   have HSn := Lib.hid (HSv.out.trans ((Same.drew _ _).trans (Same.drew _ _)))
                   clear hp hq
                   go_wp2_with fail
                   refine wp_region_free_tail (fun W => W = Wv.drew.drew) 6 (by kernel_rfl) (by kernel_rfl) rfl ?_
                   simp only [List.take_succ_cons, List.take_zero, List.drop_succ_cons, List.drop_zero]
                   repeat (first | ((first | apply wpFree_still (hg := rfl) | apply wpFree_stillG rfl); (intro w hw; subst hw; obtain ⟨k0, k1, k2, -, -⟩ := HV.out _ (Below.refl _ _).drew.drew; go_simp; (try go_ints); (first | with_reducible rfl | (go_simp; with_reducible rfl))); (intro K hK; go_simp; (try go_ints); refine hK _ ?_; clear hK K)) | (apply wpFree_skip rfl; (intro K hK; go_simp; (try go_ints); refine hK _ ?_; clear hK K)))
                   with_reducible refine wpFree_nil ?_
                   rintro w' rfl
                   go_wp2_with fail
                   refine HSet.out.mono ?_
                   rintro r w0 ⟨rfl, hw0⟩
                   rw [hw0]
                   clear hw0 HSet
                   go_wp2_with fail
                   go_roundw
                   case rel => exact ⟨n + 1, by go_num, by omega, HGn.out, by rw [setTo_succ HFn.out HZn.out]; exact (row?_setCell_same _ _ _ _).trans (by first | (rw [HQs.out]; rfl) | (simp only [row?_drew]; rw [HQs.out]; rfl) | (rw [HQs.out, show max z 0 = ((z.toNat : Nat) : Int) by omega]; rfl)), HSn.out.trans (Same.setCell _ _ _ _ (fun h => h rfl))⟩
                   case measure => simp [intOf]; omega
             · have hnl : n = l.length := by omega
               subst hnl
               have hE1 := edStep_good Hm.out (by rw [← HL.out]; exact hg)
               have hfull := setTo_full (k := k) Hm.out
               rw [← HL.out] at hfull
               rw [hfull] at hrg
               have hXf := HK2.out.trans hE1
               obtain ⟨E, hE⟩ : ∃ E, E = edOf k l := ⟨_, rfl⟩
               rw [← hE] at hrg hXf
               obtain ⟨eo, eu, ev, el, ew⟩ := E
               rw [show edC ⟨eo, eu, ev, el, ew⟩ = #[.int .i64 eo, .int .i64 eu, .int .i64 ev, .int .u8 (el : Int), .int .i64 ew] from rfl] at hrg
               simp only at hXf
               have HXf := Lib.hid hXf
               have hr0 := (row?_congr (hS.block w.heap.size hw5 hwge)).trans HR5w.out
               have HBg := Lib.hid (HBw.out.trans (hS.below (B := w.heap.size) (Nat.le_of_lt hw5) (fun b hb => Nat.ne_of_lt (Nat.lt_trans hb hs2))))
               have jf := HF.out wr HBg.out k hk 1 (.bool (hasV k)) rfl
               rw [← HFv.out] at jf
               have ku := (cell?_row (i := 1) hrg).trans rfl
               have kv := (cell?_row (i := 2) hrg).trans rfl
               clear hE1 hfull hXf hE hg hS
               cases fv with
               | true =>
                 by_cases huv : eu = ev
                 · have HE := Lib.hid (show X = (ed0, 15) from HXf.out.trans (if_pos ⟨HFv.out.symm, huv⟩))
                   have e1 : (eu == ev) = true := by rw [huv]; exact beq_self_eq_true _
                   clear HXf
                   subst huv
                   go_wp2_with fail
                   refine ret_c2 w.heap.size #[.int .i64 0, .int .i64 0, .int .i64 0, .int .u8 0, .int .i64 0] rfl Tryz.isAgg23 Tryz.sizeOf23 rfl rfl (row?_setRow_same _ _ _ (by rw [hr0]; rfl)) rfl ?_
                   exact ⟨by rw [HE.out]; rfl, below_setRow HBg.out (Nat.le_refl _) _⟩
                 · have HE := Lib.hid (show X = (⟨eo, eu, ev, el, ew⟩, 0) from HXf.out.trans (if_neg (fun h => huv h.2)))
                   have e1 : (eu == ev) = false := beq_false_of_ne huv
                   go_wp2_with fail
                   refine ret_c2 w.heap.size #[.int .i64 eo, .int .i64 eu, .int .i64 ev, .int .u8 (el : Int), .int .i64 ew] rfl Tryz.isAgg23 Tryz.sizeOf23 rfl rfl (row?_setRow_same _ _ _ (by rw [hr0]; rfl)) rfl ?_
                   exact ⟨by rw [HE.out]; rfl, below_setRow HBg.out (Nat.le_refl _) _⟩
               | false =>
                 have HE := Lib.hid (show X = (⟨eo, eu, ev, el, ew⟩, 0) from HXf.out.trans (if_neg (fun h => by have := HFv.out; rw [h.1] at this; cases this)))
                 go_wp2_with fail
                 refine ret_c2 w.heap.size #[.int .i64 eo, .int .i64 eu, .int .i64 ev, .int .u8 (el : Int), .int .i64 ew] rfl Tryz.isAgg23 Tryz.sizeOf23 rfl rfl (row?_setRow_same _ _ _ (by rw [hr0]; rfl)) rfl ?_
                 exact ⟨by rw [HE.out]; rfl, below_setRow HBg.out (Nat.le_refl _) _⟩
         · have HE := Lib.hid (show X = (ed0, 3) from by rw [HK.out, if_neg hm])
           have e1 : ((M : Int) != (l.length : Int)) = true := by rw [bne_iff_ne]; omega
           have e2 : ¬ (M : Int) = (l.length : Int) := by omega
           have e3 : ¬ M = l.length := by omega
           clear hm hlen
           go_wp2_with fail
           refine ret_c2 w.heap.size #[.int .i64 0, .int .i64 0, .int .i64 0, .int .u8 0, .int .i64 0] rfl Tryz.isAgg23 Tryz.sizeOf23 rfl rfl (row?_setRow_same _ _ _ (by rw [hr0]; rfl)) rfl ?_
           exact ⟨by rw [HE.out]; rfl, below_setRow (HBw).out (Nat.le_refl _) _⟩
       · have hj4 : j < 4 := by omega
         have hj4i : (j : Int) < 4 := by omega
         have jl := field_load HR5.out hj4
         have HLn := Lib.hid (ownTo_len fv fl fw j (by omega))
         unfold fCells at jl
         cases hh : fHas fv fl fw j with
         | false =>
           rw [hh] at jl
           have HN := Lib.hid (show ownTo fv fl fw (j + 1) = ownTo fv fl fw j from by rw [ownTo_step _ _ _ _ hj4, hh]; rfl)
           have HB6 := Lib.hid (HB5.out.alloc hsz (.cells #[.bool false, .int .i64 (fVal 0 0 0 0 j), .func (.func (fSet j)) #[] #[.pointer (some ⟨pb, 0, none⟩)], .func (.func (fMay j)) #[] #[]] 102))
           go_wp2_with fail
           go_roundw
           case rel => exact ⟨j + 1, by go_num, by omega, by rw [HN.out]; exact HO5.out.alloc _, HB6.out⟩
           case measure => simp [intOf]; omega
         | true =>
           rw [hh] at jl
           have HN := Lib.hid (show ownTo fv fl fw (j + 1) = ownTo fv fl fw j ++ [j] from by rw [ownTo_step _ _ _ _ hj4, hh]; rfl)
           go_wp2_with (at_builtin; (refine wpList_appO (elFX pb fv fl fw 0 0 0 0) 95 Tryz.underlying95 rfl _ _ rfl w4.heap.size _ (ownTo fv fl fw j) rfl ((HO5.out.alloc _).alloc _) _ j _ rfl (by unfold fCells; rw [hh]; exact row?_alloc_at _ _ _ _ (by simp)) (by have := HLn.out; omega) (by first | (simp; done) | (simp; omega)) ?_))
           intro v' w6 hO6 hb6 _ _
           have HO6 := Lib.hid hO6
           have HB6 := Lib.hid (((HB5.out.alloc hsz _).alloc (by simp; omega) _).trans hb6)
           obtain ⟨q6, c6, hs6⟩ := hO6.sl
           subst hs6
           clear hO6 hb6
           go_wp2_with fail
           go_roundw
           case rel => exact ⟨j + 1, by go_num, by omega, by rw [HN.out]; exact HO6.out, HB6.out⟩
           case measure => simp [intOf]; omega
   · have HE := Lib.hid (show X = (ed0, 3) from by rw [HX.out]; exact edRead_noop HW.out ho)
     clear ho hb2
     go_wp2_with fail
     refine ret_c2 w.heap.size #[.int .i64 0, .int .i64 0, .int .i64 0, .int .u8 0, .int .i64 0] rfl Tryz.isAgg23 Tryz.sizeOf23 rfl rfl (row?_setRow_same _ _ _ (by rw [hr0]; rfl)) rfl ?_
     exact ⟨by rw [HE.out]; rfl, below_setRow (HB2).out (Nat.le_refl _) _⟩
 · have HE := Lib.hid (show X = (ed0, 3) from by rw [HX.out]; exact edRead_none hw)
   clear hw hb1
   go_wp2_with fail
   refine (indexO_any [] w1.heap.size _ (HF.out.on (HB1.out.alloc HB1.out.size _)) (row?_alloc_at _ _ _ _ rfl)).mono ?_
   rintro r w2 ⟨hix, hb2⟩
   have HB2 := Lib.hid ((HB1.out.alloc HB1.out.size _).trans (hb2.mono (by have := HB1.out.size; simp; omega)))
   have hr0 := (row?_below hb2 (show w.heap.size < (w1.alloc _).heap.size by simp; omega)).trans ((row?_alloc_past _ _ _ hs1).trans HR1.out)
   rcases hix with ⟨k, hk, ho, rfl⟩ | ⟨ho, rfl⟩
   · clear ho hb2
     go_wp2_with fail
     refine ret_c2 w.heap.size #[.int .i64 0, .int .i64 0, .int .i64 0, .int .u8 0, .int .i64 0] rfl Tryz.isAgg23 Tryz.sizeOf23 rfl rfl (row?_setRow_same _ _ _ (by rw [hr0]; rfl)) rfl ?_
     exact ⟨by rw [HE.out]; rfl, below_setRow (HB2).out (Nat.le_refl _) _⟩
   · clear ho hb2
     go_wp2_with fail
     refine ret_c2 w.heap.size #[.int .i64 0, .int .i64 0, .int .i64 0, .int .u8 0, .int .i64 0] rfl Tryz.isAgg23 Tryz.sizeOf23 rfl rfl (row?_setRow_same _ _ _ (by rw [hr0]; rfl)) rfl ?_
     exact ⟨by rw [HE.out]; rfl, below_setRow (HB2).out (Nat.le_refl _) _⟩
end Go.Proofs.YtglnhnjmelilmaaGreatDoor
