/- Walks of the reference's graph: Do, an edit carried out. -/
import Derived.Test.YtglnhnjmelilmaaGreatDoorRHD
import Derived.Test.YtglnhnjmelilmaaGreatDoorRGrH
set_option linter.all false
namespace Go.Pal
open Go Go.RowKit
theorem results_c2 {P : Program} {fn : Func} {p q : Tmp} {ty n : Nat} (h : fn.results = #[.cell p ty, .tmp q]) (hagg : ∀ w, (isAgg ty).run P w = .ok true w) (hn : ∀ w, (sizeOf ty).run P w = .ok n w)
   (tmps : Array Value) (w : World) (g : Nat) (c : Array Value) (hp : tmps.getD p undef = .pointer (some ⟨g, 0, none⟩)) (hg : row? w g = some c) (hc : c.size = n) :
   (results fn tmps).run P w = .ok (.tuple #[.agg c, tmps.getD q undef]) w := by
 have hp' : tmps[p]?.getD undef = .pointer (some ⟨g, 0, none⟩) := by simpa using hp
 have hl := load_row (P := P) hagg hn w g
 rw [hg] at hl
 simp only [hc, if_true] at hl
 unfold rowLoad at hl
 simp [results, h, hp', asAddr, hl]
theorem ret_c2 {P : Program} {fn : Func} {R : Ending → World → Prop} {a : Act} {w : World} {p q : Tmp} {ty n : Nat} (g : Nat) (c : Array Value) (h : fn.results = #[.cell p ty, .tmp q]) (hagg : ∀ w, (isAgg ty).run P w = .ok true w) (hn : ∀ w, (sizeOf ty).run P w = .ok n w)
   (hp : a.tmps.getD p undef = .pointer (some ⟨g, 0, none⟩)) (hd : a.defers = []) (hg : row? w g = some c) (hc : c.size = n) (hR : R (.returned (.tuple #[.agg c, a.tmps.getD q undef])) w) : bodyPost P fn R .ret a w :=
 bodyPost_ret (results_c2 h hagg hn a.tmps w g c hp hg hc) hd hR
end Go.Pal
namespace Go.Proofs.YtglnhnjmelilmaaGreatDoor
open Go Go.RowKit Go.Pal
attribute [local go_sem] Oper.semAt_some
def RefG (w : World) (vV vE : Value) (G : Gr) : Prop := Rd vtxA 3 w.heap.size w vV G.V ∧ Rd edgA 4 w.heap.size w vE G.E
theorem RefG.below {w w' : World} {vV vE : Value} {G : Gr} (h : RefG w vV vE G) (hb : Below w.heap.size w w') : RefG w' vV vE G :=
 ⟨(h.1.below hb (Nat.le_refl _)).mono hb.size, (h.2.below hb (Nat.le_refl _)).mono hb.size⟩
set_option maxRecDepth 10000 in
set_option maxHeartbeats 20000000 in
theorem rdo_any (e : Ed) (he : e.Wf) (G : Gr) (hG : G.Ok) (vV vE : Value) (w : World) (h : RefG w vV vE G) :
   Calls Tryz.prog 114 #[.agg #[vV, vE], .agg (edC e)] w fun r w' => ∃ vV' vE', r = .returned (.tuple #[.agg #[vV', vE'], .int .i64 (G.wrong e : Int)]) ∧ RefG w' vV' vE' (G.app e) ∧ Below w.heap.size w w' := by
 obtain ⟨hV, hE⟩ := h
 have HV := Lib.hid hV
 have HE := Lib.hid hE
 have HG := Lib.hid hG
 have hlV := hG.len
 have hlE := hG.most
 have HWr := Lib.hid fun W (hb : Below w.heap.size w W) => rwrong_any e G vV vE W ((hV.below hb (Nat.le_refl _)).mono hb.size) ((hE.below hb (Nat.le_refl _)).mono hb.size) (by omega) (by omega)
 rw [Gr.rWrong_eq hG] at HWr
 obtain ⟨aV, cV, rfl⟩ := hV.sl
 obtain ⟨aE, cE, rfl⟩ := hE.sl
 obtain ⟨n, hn⟩ : ∃ n, n = G.wrong e := ⟨_, rfl⟩
 have happ : G.app e = if n = 0 then G.doit e else G := by rw [hn]; rfl
 rw [← hn] at HWr ⊢
 have HN := Lib.hid hn
 have HApp := Lib.hid happ
 clear hn happ hV hE hG
 obtain ⟨LV, hLV⟩ : ∃ LV, LV = G.V.length := ⟨_, rfl⟩
 obtain ⟨LE, hLE⟩ : ∃ LV, LV = G.E.length := ⟨_, rfl⟩
 have HLV := Lib.hid hLV
 have HLE := Lib.hid hLE
 rw [← hLV, ← hLE] at HWr ⊢
 rw [← hLV] at HV
 rw [← hLE] at HE
 rw [← hLV] at hlV
 rw [← hLE] at hlE
 clear hLV hLE
 obtain ⟨op, u, v, lab, wt⟩ := e
 rw [edC_lit] at HWr ⊢
 simp only at HWr ⊢
 go_enter Tryz.func114, Tryz.ntmps114
 go_wp2_with fail
 generalize hW0 : World.alloc (World.alloc (World.alloc w _) _) _ = W0
 have r2 : row? W0 w.heap.size = some #[.slice aV LV cV, .slice aE LE cE] := by rw [← hW0]; simp [go_sem]
 have r3 : row? W0 (w.heap.size + 1) = some #[.int .i64 op, .int .i64 u, .int .i64 v, .int .u8 (lab : Int), .int .i64 wt] := by rw [← hW0]; simp [go_sem]
 have r4 : row? W0 (w.heap.size + 1 + 1) = some #[.slice none 0 0, .slice none 0 0] := by rw [← hW0]; simp [go_sem]
 have hB0 : Below w.heap.size w W0 := by
   rw [← hW0]
   (repeat' (first | (with_reducible first | exact Below.refl _ _ | assumption | refine Below.alloc ?_ ?_ _ | refine Below.drew ?_ | refine Below.setCell ?_ ?_ _ | refine below_setRow ?_ ?_ _ | exact Nat.le_refl _) | omega | (simp; done) | (simp; omega) | (simp at *; omega)))
 have hs0 : w.heap.size + 3 ≤ W0.heap.size := by rw [← hW0]; simp
 have HB0 := Lib.hid hB0
 have HR2 := Lib.hid r2
 have HR3 := Lib.hid r3
 have HR4 := Lib.hid r4
 clear hW0 hB0 r2 r3 r4
 refine (HWr.out W0 HB0.out).mono ?_
 rintro r w1 ⟨rfl, hb1⟩
 have hs1 := hb1.size
 have HB1 := Lib.hid hb1
 have r2 := (row?_below hb1 (by omega)).trans HR2.out
 have r3 := (row?_below hb1 (by omega)).trans HR3.out
 have r4 := (row?_below hb1 (by omega)).trans HR4.out
 have HBw := Lib.hid (HB0.out.trans (hb1.mono HB0.out.size))
 clear hb1
 by_cases hn0 : n = 0
 · have HGa : Hid (G.app ⟨op, u, v, lab, wt⟩ = G.doit ⟨op, u, v, lab, wt⟩) := Lib.hid (by rw [HApp.out, if_pos hn0])
   have HF : Hid (G.Fine ⟨op, u, v, lab, wt⟩) := Lib.hid (Gr.fine_of (by rw [← HN.out]; exact hn0))
   have hop := HF.out.op
   simp only at hop
   obtain ⟨hop0, hop8⟩ := hop
   have hnz : ((n : Int) != 0) = false := by simp [hn0]
   have k0 := cell?_row (i := 0) r3
   have k1 := cell?_row (i := 1) r3
   have k2 := cell?_row (i := 2) r3
   have k3 := cell?_row (i := 3) r3
   have k4 := cell?_row (i := 4) r3
   simp at k0 k1 k2 k3 k4
   have HN0 := Lib.hid hn0
   clear hn0 HApp HN
   by_cases o0 : op = 0
   · have b0 : (op == 0) = true := by simpa using o0
     have HPl := Lib.hid (rplus_any G.V (u, lab, wt) (.slice aV LV cV) (.slice aE LE cE) w1 ((HV.out.below HBw.out (Nat.le_refl _)).mono HBw.out.size) ⟨_, _, _, rfl⟩ (by rw [← HLV.out]; omega))
     rw [show vtxA (u, lab, wt) = #[.int .i64 u, .int .u8 (lab : Int), .int .i64 wt] from rfl] at HPl
     have HO0 := Lib.hid o0
     clear o0
     go_wp2_with fail
     refine HPl.out.mono ?_
     rintro r w2 ⟨v2, rfl, hO2, hb2⟩
     obtain ⟨q2, c2, rfl⟩ := hO2.sl
     have HB2 := Lib.hid (HBw.out.trans (hb2.mono HBw.out.size))
     have HO2 := Lib.hid hO2
     have r42 := (row?_below hb2 (by omega)).trans r4
     clear hb2 hO2 HPl
     go_wp2_with fail
     refine ret_c2 (w.heap.size + 1 + 1) #[.slice q2 _ c2, .slice aE LE cE] rfl Tryz.isAgg42 Tryz.sizeOf42 rfl rfl (row?_setRow_same _ _ _ (by rw [r42]; rfl)) rfl ⟨.slice q2 _ c2, .slice aE LE cE, by rw [HN0.out]; rfl, ?_, below_setRow HB2.out (by omega) _⟩
     rw [HGa.out, plus_doit HF.out HO0.out]
     refine ⟨?_, ?_⟩
     · exact (OwnR.same HO2.out fun g hg => setRow_other _ _ g _ (by have := HO2.out.block g hg; omega)).rd elRV
     · exact (RefG.below ⟨HV.out, HE.out⟩ (below_setRow HB2.out (by omega) _)).2
   · have b0 : (op == 0) = false := by simpa using o0
     by_cases o2 : op = 2
     · have b2 : (op == 2) = true := by simpa using o2
       have HJo := Lib.hid (rjoined_any G.E ((min u v, max u v), lab, wt) (.slice aV LV cV) (.slice aE LE cE) w1 ((HE.out.below HBw.out (Nat.le_refl _)).mono HBw.out.size) ⟨_, _, _, rfl⟩ (by rw [← HLE.out]; omega))
       rw [show edgA ((min u v, max u v), lab, wt) = #[.int .i64 (min u v), .int .i64 (max u v), .int .u8 (lab : Int), .int .i64 wt] from rfl] at HJo
       have HO0 := Lib.hid o2
       clear o2 o0
       go_wp2_with fail
       refine HJo.out.mono ?_
       rintro r w2 ⟨v2, rfl, hO2, hb2⟩
       obtain ⟨q2, c2, rfl⟩ := hO2.sl
       have HB2 := Lib.hid (HBw.out.trans (hb2.mono HBw.out.size))
       have HO2 := Lib.hid hO2
       have r42 := (row?_below hb2 (by omega)).trans r4
       clear hb2 hO2 HJo
       go_wp2_with fail
       refine ret_c2 (w.heap.size + 1 + 1) #[.slice aV LV cV, .slice q2 _ c2] rfl Tryz.isAgg42 Tryz.sizeOf42 rfl rfl (row?_setRow_same _ _ _ (by rw [r42]; rfl)) rfl ⟨.slice aV LV cV, .slice q2 _ c2, by rw [HN0.out]; rfl, ?_, below_setRow HB2.out (by omega) _⟩
       rw [HGa.out, joined_doit HF.out HO0.out]
       refine ⟨?_, ?_⟩
       · exact (RefG.below ⟨HV.out, HE.out⟩ (below_setRow HB2.out (by omega) _)).1
       · exact (OwnR.same HO2.out fun g hg => setRow_other _ _ g _ (by have := HO2.out.block g hg; omega)).rd elRE
     · have b2 : (op == 2) = false := by simpa using o2
       have HO0 := Lib.hid o0
       have HO2 := Lib.hid o2
       have HVT := Lib.hid (vTo_doit HG.out HF.out o0 o2)
       have HET := Lib.hid (eTo_doit HG.out HF.out o0 o2)
       clear o0 o2
       go_wp2_with fail
       obtain ⟨W1, hW1⟩ : ∃ W1, W1 = w1.alloc (.cells #[.slice none 0 0, .slice none 0 0] 42) := ⟨_, rfl⟩
       have hrO : row? W1 w1.heap.size = some #[.slice none 0 0, .slice none 0 0] := by rw [hW1]; exact row?_alloc_at _ _ _ _ rfl
       have hbW : Below w1.heap.size w1 W1 := by rw [hW1]; exact (Below.refl _ _).alloc (Nat.le_refl _) _
       have hsW : w1.heap.size < W1.heap.size := by rw [hW1]; simp
       have HRO := Lib.hid hrO
       have HR2 := Lib.hid ((row?_below hbW (by omega)).trans r2)
       have HR3 := Lib.hid ((row?_below hbW (by omega)).trans r3)
       have HR4 := Lib.hid ((row?_below hbW (by omega)).trans r4)
       have HBW := Lib.hid (HBw.out.trans (hbW.mono HBw.out.size))
       rw [← hW1]
       clear hW1 hrO hbW r2 r3 r4 k0 k1 k2 k3 k4
       go_loopw [8] (fun i wr => ∃ k : Nat, k ≤ LV ∧ i = .int .i64 (k : Int) ∧ (∃ va, row? wr w1.heap.size = some #[va, .slice none 0 0] ∧ OwnRV W1.heap.size wr va (vTo ⟨op, u, v, lab, wt⟩ G.V k)) ∧ Same (fun j => j < W1.heap.size ∧ j ≠ w1.heap.size) W1 wr) (fun i _ => LV - (intOf i).toNat)
       case atStart => exact ⟨0, by omega, rfl, ⟨_, HRO.out, OwnR.nil _ _⟩, Same.refl _ _⟩
       case round =>
         obtain ⟨k, hk, rfl, ⟨va, hr, hO⟩, hS⟩ := hrel
         have hsz := hS.size
         have hbw : Below w.heap.size w wr := HBW.out.trans (hS.below (by omega) fun j hj => ⟨by omega, by omega⟩)
         have hll := vTo_length ⟨op, u, v, lab, wt⟩ G.V k
         obtain ⟨acc, hst⟩ : ∃ acc, acc = vTo ⟨op, u, v, lab, wt⟩ G.V k := ⟨_, rfl⟩
         rw [← hst] at hO hll
         have HST := Lib.hid hst
         have HO := Lib.hid hO
         have HS := Lib.hid hS
         have HR := Lib.hid hr
         have HBR := Lib.hid hbw
         have hown := hO.block
         have hol := hO.lt
         obtain ⟨qa, cqa, rfl⟩ := hO.sl
         have k2 := cell?_row (i := 0) ((row?_congr (hS.block _ (by omega) ⟨by omega, by omega⟩)).trans HR2.out)
         simp at k2
         clear hst hO hS hbw hr
         by_cases hlt : k < LV
         · obtain ⟨b, off, c', y, h1, hb, hy, hc⟩ := HV.out.at (by rw [← HLV.out]; exact hlt)
           simp only [Value.slice.injEq] at h1
           obtain ⟨rfl, -, rfl⟩ := h1
           obtain ⟨yi, yl, yw⟩ := y
           have jl : rowLoad Tryz.prog 136 ⟨b, off + k * 3, none⟩ wr = .ok (.agg #[.int .i64 yi, .int .u8 (yl : Int), .int .i64 yw]) wr := load_cells Tryz.isAgg136 Tryz.sizeOf136 wr b _ _ rfl fun j u hu => hc wr HBR.out j u hu
           have HY := Lib.hid hy
           clear hc hy
           go_upto_region 13 with fail
           obtain ⟨WA, hWA⟩ : ∃ WA, WA = wr.alloc (.cells #[.int .i64 yi, .int .u8 (yl : Int), .int .i64 yw] 136) := ⟨_, rfl⟩
           have hrt : row? WA wr.heap.size = some #[.int .i64 yi, .int .u8 (yl : Int), .int .i64 yw] := by rw [hWA]; exact row?_alloc_at _ _ _ _ rfl
           have hsA : wr.heap.size < WA.heap.size := by rw [hWA]; simp
           have hkA : ∀ j, j < wr.heap.size → WA.heap[j]? = wr.heap[j]? := fun j hj => by rw [hWA]; exact Below.heap_alloc _ _ j hj
           have HOA := Lib.hid (HO.out.same fun g hg => hkA g (hol g hg))
           have HSA := Lib.hid (HS.out.trans (by rw [hWA]; exact Same.alloc _ _ _) : Same (fun j => j < W1.heap.size ∧ j ≠ w1.heap.size) W1 WA)
           have HRA := Lib.hid ((row?_congr (hkA _ (by omega))).trans HR.out)
           have HRT := Lib.hid hrt
           have hr3 := (row?_congr (HSA.out.block (w.heap.size + 1) (by omega) ⟨by omega, by omega⟩)).trans HR3.out
           have x0 := cell?_row (i := 0) hr3
           have x1 := cell?_row (i := 1) hr3
           have x3 := cell?_row (i := 3) hr3
           have x4 := cell?_row (i := 4) hr3
           have y0 := cell?_row (i := 0) hrt
           have k5 := cell?_row (i := 0) HRA.out
           simp at x0 x1 x3 x4 y0 k5
           have hfz := frozen?_row (i := 0) HRA.out
           have hl5 := row?_lt HRA.out
           rw [← hWA]
           clear hWA hkA k2 jl HO HS HR
           have HO := HOA
           have HS := HSA
           have HR := HRA
           clear HOA HSA HRA
           by_cases q1 : yi = u
           · have b1 : (yi == u) = true := by simpa using q1
             by_cases q2 : op = 1
             · have c1 : (op == 1) = true := by simpa using q2
               have HST1 := Lib.hid (show vTo ⟨op, u, v, lab, wt⟩ G.V (k + 1) = acc by rw [vTo_succ HY.out, ← HST.out]; simp [vOut, q1, q2])
               clear q1 q2
               go_wp2_with fail
               go_roundw
               case rel => exact ⟨k + 1, by omega, by go_num, ⟨_, HR.out, by rw [HST1.out]; exact HO.out⟩, HS.out⟩
               case measure => simp [intOf]; omega
             · have c1 : (op == 1) = false := by simpa using q2
               by_cases q4 : op = 4
               · have c4 : (op == 4) = true := by simpa using q4
                 have c5 : (op == 5) = false := by simp [q4]
                 have HS4 := Lib.hid (show vTo ⟨op, u, v, lab, wt⟩ G.V (k + 1) = acc ++ [(yi, lab, yw)] by rw [vTo_succ HY.out, ← HST.out]; simp [vOut, q1, q4])
                 clear q1 q2 q4
                 have y9 := cell?_row (i := 1) hrt
                 simp at y9
                 have fz9 := frozen?_row (i := 1) hrt
                 have hl9 := row?_lt hrt
                 go_upto_region 16 with fail
                 obtain ⟨WB, hWB⟩ : ∃ WB, WB = WA.setCell ⟨wr.heap.size, 1, none⟩ (.int .u8 (lab : Int)) := ⟨_, rfl⟩
                 have hsB : WB.heap.size = WA.heap.size := by rw [hWB]; simp
                 have hkB : ∀ j, j ≠ wr.heap.size → WB.heap[j]? = WA.heap[j]? := fun j hj => by rw [hWB]; exact heap_setCell_other _ _ j _ hj
                 have hrtB : row? WB wr.heap.size = some #[.int .i64 yi, .int .u8 (lab : Int), .int .i64 yw] := by rw [hWB, row?_setCell_same, HRT.out]; rfl
                 have HOB := Lib.hid (HO.out.same fun g hg => hkB g (by have := hol g hg; omega))
                 have HSB : Hid (Same (fun j => j < W1.heap.size ∧ j ≠ w1.heap.size) W1 WB) := Lib.hid (HS.out.trans (by rw [hWB]; exact Same.setCell _ _ _ _ (by show ¬ (wr.heap.size < W1.heap.size ∧ wr.heap.size ≠ w1.heap.size); omega)))
                 have HRB := Lib.hid ((row?_congr (hkB w1.heap.size (by omega))).trans HR.out)
                 have hsA2 : wr.heap.size < WB.heap.size := by omega
                 rw [← hWB]
                 clear k5 hfz hl5 y9 fz9 hl9 y0 x0 x1 x3 x4
                 have k5 := cell?_row (i := 0) HRB.out
                 simp at k5
                 have hfz := frozen?_row (i := 0) HRB.out
                 have hl5 := row?_lt HRB.out
                 have hr3 := (row?_congr (HSB.out.block (w.heap.size + 1) (by omega) ⟨by omega, by omega⟩)).trans HR3.out
                 have x0 := cell?_row (i := 0) hr3
                 have x1 := cell?_row (i := 1) hr3
                 have x3 := cell?_row (i := 3) hr3
                 have x4 := cell?_row (i := 4) hr3
                 have y0 := cell?_row (i := 0) hrtB
                 simp at x0 x1 x3 x4 y0
                 clear hWB hkB hsB HO HS HR HRT hsA hrt
                 have hrt := hrtB
                 have HO := HOB
                 have HS := HSB
                 have HR := HRB
                 clear hrtB HOB HSB HRB
                 have HST1 := Lib.hid HS4.out
                 clear HST
                 skip
                 go_wp2_with (at_builtin; refine wpList_appO elRV 39 Tryz.underlying39 rfl _ _ rfl W1.heap.size _ acc rfl (HO.out.below (C := WB.heap.size) ((Below.refl _ WB).alloc (Nat.le_refl _) _) (Nat.le_refl _)) WB.heap.size (yi, lab, yw) _ rfl (row?_alloc_at _ _ _ _ rfl) (by omega) (by simp; omega) ?_)
                 intro v5 w5 hO5 hb5 hg5 hl5
                 have hs5 : WB.heap.size ≤ w5.heap.size := by have := hb5.size; simp at this; omega
                 have hne5 : some w1.heap.size ≠ (Value.slice qa acc.length cqa).ownBlock := fun e => by have := hown _ e.symm; omega
                 have hr5 : row? w5 w1.heap.size = some #[.slice qa acc.length cqa, .slice none 0 0] := (row?_congr ((hg5.block w1.heap.size (by simp; omega) hne5).trans (Below.heap_alloc _ _ _ (by first | omega | (show _ < WB.heap.size; omega))))).trans HR.out
                 have hk5 : ∀ j, j < W1.heap.size → w5.heap[j]? = WB.heap[j]? := fun j hj => (hb5.block j hj).trans (Below.heap_alloc _ _ _ (by first | omega | (show _ < WB.heap.size; omega)))
                 have hS5 := HS.out.trans ⟨hb5.os, hb5.tape, hb5.output, hs5, fun k hk h => hk5 k h.1⟩
                 have hfz5 := frozen?_row (i := 0) hr5
                 have hlt5 := row?_lt hr5
                 have k5 := cell?_row (i := 0) hr5
                 simp at k5
                 obtain ⟨q5, c5, rfl⟩ := hO5.sl
                 have HO5 := Lib.hid hO5
                 have HS5 := Lib.hid hS5
                 have HR5 := Lib.hid hr5
                 clear hO5 hb5 hg5 hl5 hk5 hS5 hne5
                 rw [List.length_append] at HO5 ⊢
                 clear hr5
                 go_wp2_with fail
                 go_roundw
                 case rel =>
                   refine ⟨k + 1, by omega, by go_num, ⟨_, by rw [row?_setCell_same, HR5.out]; rfl, ?_⟩, ?_⟩
                   · rw [HST1.out]
                     exact HO5.out.same fun j hj => heap_setCell_other _ _ j _ (by have := HO5.out.block j hj; show j ≠ w1.heap.size; omega)
                   · exact HS5.out.trans (Same.setCell _ _ _ _ (by simp))
                 case measure => simp [intOf]; omega
               · have c4 : (op == 4) = false := by simpa using q4
                 by_cases q5 : op = 5
                 · have c5 : (op == 5) = true := by simpa using q5
                   have HS4 := Lib.hid (show vTo ⟨op, u, v, lab, wt⟩ G.V (k + 1) = acc ++ [(yi, yl, wt)] by rw [vTo_succ HY.out, ← HST.out]; simp [vOut, q1, q5])
                   clear q1 q2 q4 q5
                   have y9 := cell?_row (i := 2) hrt
                   simp at y9
                   have fz9 := frozen?_row (i := 2) hrt
                   have hl9 := row?_lt hrt
                   go_upto_region 18 with fail
                   obtain ⟨WB, hWB⟩ : ∃ WB, WB = WA.setCell ⟨wr.heap.size, 2, none⟩ (.int .i64 wt) := ⟨_, rfl⟩
                   have hsB : WB.heap.size = WA.heap.size := by rw [hWB]; simp
                   have hkB : ∀ j, j ≠ wr.heap.size → WB.heap[j]? = WA.heap[j]? := fun j hj => by rw [hWB]; exact heap_setCell_other _ _ j _ hj
                   have hrtB : row? WB wr.heap.size = some #[.int .i64 yi, .int .u8 (yl : Int), .int .i64 wt] := by rw [hWB, row?_setCell_same, HRT.out]; rfl
                   have HOB := Lib.hid (HO.out.same fun g hg => hkB g (by have := hol g hg; omega))
                   have HSB : Hid (Same (fun j => j < W1.heap.size ∧ j ≠ w1.heap.size) W1 WB) := Lib.hid (HS.out.trans (by rw [hWB]; exact Same.setCell _ _ _ _ (by show ¬ (wr.heap.size < W1.heap.size ∧ wr.heap.size ≠ w1.heap.size); omega)))
                   have HRB := Lib.hid ((row?_congr (hkB w1.heap.size (by omega))).trans HR.out)
                   have hsA2 : wr.heap.size < WB.heap.size := by omega
                   rw [← hWB]
                   clear k5 hfz hl5 y9 fz9 hl9 y0 x0 x1 x3 x4
                   have k5 := cell?_row (i := 0) HRB.out
                   simp at k5
                   have hfz := frozen?_row (i := 0) HRB.out
                   have hl5 := row?_lt HRB.out
                   have hr3 := (row?_congr (HSB.out.block (w.heap.size + 1) (by omega) ⟨by omega, by omega⟩)).trans HR3.out
                   have x0 := cell?_row (i := 0) hr3
                   have x1 := cell?_row (i := 1) hr3
                   have x3 := cell?_row (i := 3) hr3
                   have x4 := cell?_row (i := 4) hr3
                   have y0 := cell?_row (i := 0) hrtB
                   simp at x0 x1 x3 x4 y0
                   clear hWB hkB hsB HO HS HR HRT hsA hrt
                   have hrt := hrtB
                   have HO := HOB
                   have HS := HSB
                   have HR := HRB
                   clear hrtB HOB HSB HRB
                   have HST1 := Lib.hid HS4.out
                   clear HST
                   skip
                   go_wp2_with (at_builtin; refine wpList_appO elRV 39 Tryz.underlying39 rfl _ _ rfl W1.heap.size _ acc rfl (HO.out.below (C := WB.heap.size) ((Below.refl _ WB).alloc (Nat.le_refl _) _) (Nat.le_refl _)) WB.heap.size (yi, yl, wt) _ rfl (row?_alloc_at _ _ _ _ rfl) (by omega) (by simp; omega) ?_)
                   intro v5 w5 hO5 hb5 hg5 hl5
                   have hs5 : WB.heap.size ≤ w5.heap.size := by have := hb5.size; simp at this; omega
                   have hne5 : some w1.heap.size ≠ (Value.slice qa acc.length cqa).ownBlock := fun e => by have := hown _ e.symm; omega
                   have hr5 : row? w5 w1.heap.size = some #[.slice qa acc.length cqa, .slice none 0 0] := (row?_congr ((hg5.block w1.heap.size (by simp; omega) hne5).trans (Below.heap_alloc _ _ _ (by first | omega | (show _ < WB.heap.size; omega))))).trans HR.out
                   have hk5 : ∀ j, j < W1.heap.size → w5.heap[j]? = WB.heap[j]? := fun j hj => (hb5.block j hj).trans (Below.heap_alloc _ _ _ (by first | omega | (show _ < WB.heap.size; omega)))
                   have hS5 := HS.out.trans ⟨hb5.os, hb5.tape, hb5.output, hs5, fun k hk h => hk5 k h.1⟩
                   have hfz5 := frozen?_row (i := 0) hr5
                   have hlt5 := row?_lt hr5
                   have k5 := cell?_row (i := 0) hr5
                   simp at k5
                   obtain ⟨q5, c5, rfl⟩ := hO5.sl
                   have HO5 := Lib.hid hO5
                   have HS5 := Lib.hid hS5
                   have HR5 := Lib.hid hr5
                   clear hO5 hb5 hg5 hl5 hk5 hS5 hne5
                   rw [List.length_append] at HO5 ⊢
                   clear hr5
                   go_wp2_with fail
                   go_roundw
                   case rel =>
                     refine ⟨k + 1, by omega, by go_num, ⟨_, by rw [row?_setCell_same, HR5.out]; rfl, ?_⟩, ?_⟩
                     · rw [HST1.out]
                       exact HO5.out.same fun j hj => heap_setCell_other _ _ j _ (by have := HO5.out.block j hj; show j ≠ w1.heap.size; omega)
                     · exact HS5.out.trans (Same.setCell _ _ _ _ (by simp))
                   case measure => simp [intOf]; omega
                 · have c5 : (op == 5) = false := by simpa using q5
                   have HS4 := Lib.hid (show vTo ⟨op, u, v, lab, wt⟩ G.V (k + 1) = acc ++ [(yi, yl, yw)] by rw [vTo_succ HY.out, ← HST.out]; simp [vOut, q1, q2, q4, q5])
                   clear q1 q2 q4 q5
                   have HST1 := Lib.hid HS4.out
                   clear HST
                   skip
                   go_wp2_with (at_builtin; refine wpList_appO elRV 39 Tryz.underlying39 rfl _ _ rfl W1.heap.size _ acc rfl (HO.out.below (C := WA.heap.size) ((Below.refl _ WA).alloc (Nat.le_refl _) _) (Nat.le_refl _)) WA.heap.size (yi, yl, yw) _ rfl (row?_alloc_at _ _ _ _ rfl) (by omega) (by simp; omega) ?_)
                   intro v5 w5 hO5 hb5 hg5 hl5
                   have hs5 : WA.heap.size ≤ w5.heap.size := by have := hb5.size; simp at this; omega
                   have hne5 : some w1.heap.size ≠ (Value.slice qa acc.length cqa).ownBlock := fun e => by have := hown _ e.symm; omega
                   have hr5 : row? w5 w1.heap.size = some #[.slice qa acc.length cqa, .slice none 0 0] := (row?_congr ((hg5.block w1.heap.size (by simp; omega) hne5).trans (Below.heap_alloc _ _ _ (by first | omega | (show _ < WA.heap.size; omega))))).trans HR.out
                   have hk5 : ∀ j, j < W1.heap.size → w5.heap[j]? = WA.heap[j]? := fun j hj => (hb5.block j hj).trans (Below.heap_alloc _ _ _ (by first | omega | (show _ < WA.heap.size; omega)))
                   have hS5 := HS.out.trans ⟨hb5.os, hb5.tape, hb5.output, hs5, fun k hk h => hk5 k h.1⟩
                   have hfz5 := frozen?_row (i := 0) hr5
                   have hlt5 := row?_lt hr5
                   have k5 := cell?_row (i := 0) hr5
                   simp at k5
                   obtain ⟨q5, c5, rfl⟩ := hO5.sl
                   have HO5 := Lib.hid hO5
                   have HS5 := Lib.hid hS5
                   have HR5 := Lib.hid hr5
                   clear hO5 hb5 hg5 hl5 hk5 hS5 hne5
                   rw [List.length_append] at HO5 ⊢
                   clear hr5
                   go_wp2_with fail
                   go_roundw
                   case rel =>
                     refine ⟨k + 1, by omega, by go_num, ⟨_, by rw [row?_setCell_same, HR5.out]; rfl, ?_⟩, ?_⟩
                     · rw [HST1.out]
                       exact HO5.out.same fun j hj => heap_setCell_other _ _ j _ (by have := HO5.out.block j hj; show j ≠ w1.heap.size; omega)
                     · exact HS5.out.trans (Same.setCell _ _ _ _ (by simp))
                   case measure => simp [intOf]; omega
           · have b1 : (yi == u) = false := by simpa using q1
             have HS4 := Lib.hid (show vTo ⟨op, u, v, lab, wt⟩ G.V (k + 1) = acc ++ [(yi, yl, yw)] by rw [vTo_succ HY.out, ← HST.out]; simp [vOut, q1])
             clear q1
             have HST1 := Lib.hid HS4.out
             clear HST
             skip
             go_wp2_with (at_builtin; refine wpList_appO elRV 39 Tryz.underlying39 rfl _ _ rfl W1.heap.size _ acc rfl (HO.out.below (C := WA.heap.size) ((Below.refl _ WA).alloc (Nat.le_refl _) _) (Nat.le_refl _)) WA.heap.size (yi, yl, yw) _ rfl (row?_alloc_at _ _ _ _ rfl) (by omega) (by simp; omega) ?_)
             intro v5 w5 hO5 hb5 hg5 hl5
             have hs5 : WA.heap.size ≤ w5.heap.size := by have := hb5.size; simp at this; omega
             have hne5 : some w1.heap.size ≠ (Value.slice qa acc.length cqa).ownBlock := fun e => by have := hown _ e.symm; omega
             have hr5 : row? w5 w1.heap.size = some #[.slice qa acc.length cqa, .slice none 0 0] := (row?_congr ((hg5.block w1.heap.size (by simp; omega) hne5).trans (Below.heap_alloc _ _ _ (by first | omega | (show _ < WA.heap.size; omega))))).trans HR.out
             have hk5 : ∀ j, j < W1.heap.size → w5.heap[j]? = WA.heap[j]? := fun j hj => (hb5.block j hj).trans (Below.heap_alloc _ _ _ (by first | omega | (show _ < WA.heap.size; omega)))
             have hS5 := HS.out.trans ⟨hb5.os, hb5.tape, hb5.output, hs5, fun k hk h => hk5 k h.1⟩
             have hfz5 := frozen?_row (i := 0) hr5
             have hlt5 := row?_lt hr5
             have k5 := cell?_row (i := 0) hr5
             simp at k5
             obtain ⟨q5, c5, rfl⟩ := hO5.sl
             have HO5 := Lib.hid hO5
             have HS5 := Lib.hid hS5
             have HR5 := Lib.hid hr5
             clear hO5 hb5 hg5 hl5 hk5 hS5 hne5
             rw [List.length_append] at HO5 ⊢
             clear hr5
             go_wp2_with fail
             go_roundw
             case rel =>
               refine ⟨k + 1, by omega, by go_num, ⟨_, by rw [row?_setCell_same, HR5.out]; rfl, ?_⟩, ?_⟩
               · rw [HST1.out]
                 exact HO5.out.same fun j hj => heap_setCell_other _ _ j _ (by have := HO5.out.block j hj; show j ≠ w1.heap.size; omega)
               · exact HS5.out.trans (Same.setCell _ _ _ _ (by simp))
             case measure => simp [intOf]; omega
         · have hkn : LV = k := by omega
           subst hkn
           have HAcc := Lib.hid (show acc = (G.doit ⟨op, u, v, lab, wt⟩).V by rw [HST.out, HLV.out]; exact HVT.out)
           have HPr := Lib.hid (rpair_any ⟨op, u, v, lab, wt⟩ wr)
           rw [edC_lit] at HPr
           simp only at HPr
           have hr3 := (row?_congr (HS.out.block (w.heap.size + 1) (by omega) ⟨by omega, by omega⟩)).trans HR3.out
           have x1 := cell?_row (i := 1) hr3
           have x2 := cell?_row (i := 2) hr3
           simp at x1 x2
           obtain ⟨bp, hbp⟩ : ∃ bp, bp = Ed.pairs ⟨op, u, v, lab, wt⟩ := ⟨_, rfl⟩
           rw [← hbp] at HPr
           have HP0 := Lib.hid hbp
           clear hbp HST
           go_wp2_with fail
           clear k2
           refine HPr.out.mono ?_
           rintro r w3 ⟨rfl, hb3⟩
           have hs3 := hb3.size
           have HS3 : Hid (Same (fun j => j < W1.heap.size ∧ j ≠ w1.heap.size) W1 w3) := Lib.hid (HS.out.trans ⟨hb3.os, hb3.tape, hb3.output, hs3, fun k hk h => hb3.block k hk⟩)
           have HO3 := Lib.hid (HO.out.below hb3 (Nat.le_refl _))
           have HRX := Lib.hid ((row?_congr (hb3.block w1.heap.size (by omega))).trans HR.out)
           have hr33 := (row?_congr (HS3.out.block (w.heap.size + 1) (by omega) ⟨by omega, by omega⟩)).trans HR3.out
           have hr23 := (row?_congr (HS3.out.block w.heap.size (by omega) ⟨by omega, by omega⟩)).trans HR2.out
           have x1 := cell?_row (i := 1) hr33
           have x2 := cell?_row (i := 2) hr33
           simp at x1 x2
           have HB3 := Lib.hid (HBR.out.trans (hb3.mono HBR.out.size))
           clear hb3 HPr hr3
           cases bp with
           | true =>
             have HP := Lib.hid (show Ed.pairs ⟨op, u, v, lab, wt⟩ = true from HP0.out.symm)
             have HEd := Lib.hid (redge_any G.E u v (.slice aV LV cV) (.slice aE LE cE) w3 ((HE.out.below HB3.out (Nat.le_refl _)).mono HB3.out.size) ⟨_, _, _, rfl⟩ (by rw [← HLE.out]; omega))
             obtain ⟨at', hat⟩ : ∃ at', at' = idx (edgB u v) G.E := ⟨_, rfl⟩
             rw [← hat] at HEd
             have HAT := Lib.hid (show at' = G.atE ⟨op, u, v, lab, wt⟩ by rw [hat]; unfold Gr.atE; rw [if_pos HP.out]; rfl)
             clear hat
             go_wp2_with fail
             refine HEd.out.mono ?_
             rintro r W3 ⟨rfl, hb4⟩
             have hs4 := hb4.size
             have HS4 : Hid (Same (fun j => j < W1.heap.size ∧ j ≠ w1.heap.size) W1 W3) := Lib.hid (HS3.out.trans ⟨hb4.os, hb4.tape, hb4.output, hs4, fun k hk h => hb4.block k hk⟩)
             have HOV3 := Lib.hid (HO3.out.below hb4 (Nat.le_refl _))
             have HRO3 := Lib.hid ((row?_congr (hb4.block w1.heap.size (by omega))).trans HRX.out)
             have HR23 := Lib.hid ((row?_congr (HS4.out.block w.heap.size (by omega) ⟨by omega, by omega⟩)).trans HR2.out)
             have HR33 := Lib.hid ((row?_congr (HS4.out.block (w.heap.size + 1) (by omega) ⟨by omega, by omega⟩)).trans HR3.out)
             have HR43 := Lib.hid ((row?_congr (HS4.out.block (w.heap.size + 1 + 1) (by omega) ⟨by omega, by omega⟩)).trans HR4.out)
             have HBW3 := Lib.hid (HB3.out.trans (hb4.mono HB3.out.size))
             obtain ⟨qv, nv, cv, hqv⟩ : ∃ qv nv cv, qv = qa ∧ nv = acc.length ∧ cv = cqa := ⟨_, _, _, rfl, rfl, rfl⟩
             obtain ⟨z1, z2, z3⟩ := hqv
             rw [← z1, ← z2, ← z3] at HRO3 HOV3
             obtain ⟨accV, hav⟩ : ∃ accV, accV = acc := ⟨_, rfl⟩
             rw [← hav] at HAcc HOV3
             clear z1 z2 z3 hav HS3 HO3 HRX HB3 HS4 HO HS HR HBR hown hol hll hr33 hr23
             clear HEd
             go_wp2_with fail
             go_loopw [11] (fun i wr => ∃ k : Nat, k ≤ LE ∧ i = .int .i64 (k : Int) ∧ (∃ va, row? wr w1.heap.size = some #[.slice qv nv cv, va] ∧ OwnRE W3.heap.size wr va (eTo ⟨op, u, v, lab, wt⟩ at' G.E k)) ∧ Same (fun j => j < W3.heap.size ∧ j ≠ w1.heap.size) W3 wr) (fun i _ => LE - (intOf i).toNat)
             case atStart => exact ⟨0, by omega, rfl, ⟨_, HRO3.out, OwnR.nil _ _⟩, Same.refl _ _⟩
             case round =>
               obtain ⟨k, hk, rfl, ⟨va, hr, hO⟩, hS⟩ := hrel
               have hsz := hS.size
               have hbw : Below w.heap.size w wr := HBW3.out.trans (hS.below (by omega) fun j hj => ⟨by omega, by omega⟩)
               have hll := eTo_length ⟨op, u, v, lab, wt⟩ at' G.E k
               obtain ⟨acc, hst⟩ : ∃ acc, acc = eTo ⟨op, u, v, lab, wt⟩ at' G.E k := ⟨_, rfl⟩
               rw [← hst] at hO hll
               have HST := Lib.hid hst
               have HO := Lib.hid hO
               have HS := Lib.hid hS
               have HR := Lib.hid hr
               have HBR := Lib.hid hbw
               have hown := hO.block
               have hol := hO.lt
               obtain ⟨qa, cqa, rfl⟩ := hO.sl
               have k2 := cell?_row (i := 1) ((row?_congr (hS.block _ (by omega) ⟨by omega, by omega⟩)).trans HR23.out)
               simp at k2
               clear hst hO hS hbw hr
               by_cases hlt : k < LE
               · obtain ⟨b, off, c', y, h1, hb, hy, hc⟩ := HE.out.at (by rw [← HLE.out]; exact hlt)
                 simp only [Value.slice.injEq] at h1
                 obtain ⟨rfl, -, rfl⟩ := h1
                 obtain ⟨⟨yu, yv⟩, yl, yw⟩ := y
                 have jl : rowLoad Tryz.prog 137 ⟨b, off + k * 4, none⟩ wr = .ok (.agg #[.int .i64 yu, .int .i64 yv, .int .u8 (yl : Int), .int .i64 yw]) wr := load_cells Tryz.isAgg137 Tryz.sizeOf137 wr b _ _ rfl fun j u hu => hc wr HBR.out j u hu
                 have HY := Lib.hid hy
                 clear hc hy
                 go_upto_region 26 with fail
                 obtain ⟨WA, hWA⟩ : ∃ WA, WA = wr.alloc (.cells #[.int .i64 yu, .int .i64 yv, .int .u8 (yl : Int), .int .i64 yw] 137) := ⟨_, rfl⟩
                 have hrt : row? WA wr.heap.size = some #[.int .i64 yu, .int .i64 yv, .int .u8 (yl : Int), .int .i64 yw] := by rw [hWA]; exact row?_alloc_at _ _ _ _ rfl
                 have hsA : wr.heap.size < WA.heap.size := by rw [hWA]; simp
                 have hkA : ∀ j, j < wr.heap.size → WA.heap[j]? = wr.heap[j]? := fun j hj => by rw [hWA]; exact Below.heap_alloc _ _ j hj
                 have HOA := Lib.hid (HO.out.same fun g hg => hkA g (hol g hg))
                 have HSA := Lib.hid (HS.out.trans (by rw [hWA]; exact Same.alloc _ _ _) : Same (fun j => j < W3.heap.size ∧ j ≠ w1.heap.size) W3 WA)
                 have HRA := Lib.hid ((row?_congr (hkA _ (by omega))).trans HR.out)
                 have HRT := Lib.hid hrt
                 have hr3 := (row?_congr (HSA.out.block (w.heap.size + 1) (by omega) ⟨by omega, by omega⟩)).trans HR33.out
                 have x0 := cell?_row (i := 0) hr3
                 have x1 := cell?_row (i := 1) hr3
                 have x3 := cell?_row (i := 3) hr3
                 have x4 := cell?_row (i := 4) hr3
                 have y0 := cell?_row (i := 0) hrt
                 have y1 := cell?_row (i := 1) hrt
                 have k5 := cell?_row (i := 1) HRA.out
                 simp at x0 x1 x3 x4 y0 y1 k5
                 have hfz := frozen?_row (i := 1) HRA.out
                 have hl5 := row?_lt HRA.out
                 rw [← hWA]
                 clear hWA hkA k2 jl HO HS HR
                 have HO := HOA
                 have HS := HSA
                 have HR := HRA
                 clear HOA HSA HRA
                 have q1 : ¬ op = 1 := fun e => by have := HP.out; simp [Ed.pairs, e] at this
                 have c1 : (op == 1) = false := by simpa using q1
                 by_cases hP : (k : Int) = at'
                 · have bP : ((k : Int) == at') = true := by simpa using hP
                   by_cases q3 : op = 3
                   · have c3 : (op == 3) = true := by simpa using q3
                     have HS4 := Lib.hid (show eTo ⟨op, u, v, lab, wt⟩ at' G.E (k + 1) = acc by rw [eTo_succ HY.out, ← HST.out]; simp [eOut, q3, hP])
                     clear q1 q3 hP
                     have HST1 := Lib.hid HS4.out
                     go_wp2_with fail
                     go_roundw
                     case rel => exact ⟨k + 1, by omega, by go_num, ⟨_, HR.out, by rw [HST1.out]; exact HO.out⟩, HS.out⟩
                     case measure => simp [intOf]; omega
                   · have c3 : (op == 3) = false := by simpa using q3
                     by_cases q6 : op = 6
                     · have c6 : (op == 6) = true := by simpa using q6
                       have c7 : (op == 7) = false := by simp [q6]
                       have HS4 := Lib.hid (show eTo ⟨op, u, v, lab, wt⟩ at' G.E (k + 1) = acc ++ [((yu, yv), lab, yw)] by rw [eTo_succ HY.out, ← HST.out]; simp [eOut, q6, hP])
                       clear q1 q3 q6 hP
                       have y9 := cell?_row (i := 2) hrt
                       simp at y9
                       have fz9 := frozen?_row (i := 2) hrt
                       have hl9 := row?_lt hrt
                       go_upto_region 29 with fail
                       obtain ⟨WB, hWB⟩ : ∃ WB, WB = WA.setCell ⟨wr.heap.size, 2, none⟩ (.int .u8 (lab : Int)) := ⟨_, rfl⟩
                       have hsB : WB.heap.size = WA.heap.size := by rw [hWB]; simp
                       have hkB : ∀ j, j ≠ wr.heap.size → WB.heap[j]? = WA.heap[j]? := fun j hj => by rw [hWB]; exact heap_setCell_other _ _ j _ hj
                       have hrtB : row? WB wr.heap.size = some #[.int .i64 yu, .int .i64 yv, .int .u8 (lab : Int), .int .i64 yw] := by rw [hWB, row?_setCell_same, HRT.out]; rfl
                       have HOB := Lib.hid (HO.out.same fun g hg => hkB g (by have := hol g hg; omega))
                       have HSB : Hid (Same (fun j => j < W3.heap.size ∧ j ≠ w1.heap.size) W3 WB) := Lib.hid (HS.out.trans (by rw [hWB]; exact Same.setCell _ _ _ _ (by show ¬ (wr.heap.size < W3.heap.size ∧ wr.heap.size ≠ w1.heap.size); omega)))
                       have HRB := Lib.hid ((row?_congr (hkB w1.heap.size (by omega))).trans HR.out)
                       have hsA2 : wr.heap.size < WB.heap.size := by omega
                       rw [← hWB]
                       clear k5 hfz hl5 y9 fz9 hl9 y0 y1 x0 x1 x3 x4
                       have k5 := cell?_row (i := 1) HRB.out
                       simp at k5
                       have hfz := frozen?_row (i := 1) HRB.out
                       have hl5 := row?_lt HRB.out
                       have hr3 := (row?_congr (HSB.out.block (w.heap.size + 1) (by omega) ⟨by omega, by omega⟩)).trans HR33.out
                       have x0 := cell?_row (i := 0) hr3
                       have x1 := cell?_row (i := 1) hr3
                       have x3 := cell?_row (i := 3) hr3
                       have x4 := cell?_row (i := 4) hr3
                       simp at x0 x1 x3 x4
                       clear hWB hkB hsB HO HS HR HRT hsA hrt
                       have hrt := hrtB
                       have HO := HOB
                       have HS := HSB
                       have HR := HRB
                       clear hrtB HOB HSB HRB
                       have HST1 := Lib.hid HS4.out
                       clear HST
                       go_wp2_with (at_builtin; refine wpList_appO elRE 40 Tryz.underlying40 rfl _ _ rfl W3.heap.size _ acc rfl (HO.out.below (C := WB.heap.size) ((Below.refl _ WB).alloc (Nat.le_refl _) _) (Nat.le_refl _)) WB.heap.size ((yu, yv), lab, yw) _ rfl (row?_alloc_at _ _ _ _ rfl) (by omega) (by simp; omega) ?_)
                       intro v5 w5 hO5 hb5 hg5 hl5
                       have hs5 : WB.heap.size ≤ w5.heap.size := by have := hb5.size; simp at this; omega
                       have hne5 : some w1.heap.size ≠ (Value.slice qa acc.length cqa).ownBlock := fun e => by have := hown _ e.symm; omega
                       have hr5 : row? w5 w1.heap.size = some #[.slice qv nv cv, .slice qa acc.length cqa] := (row?_congr ((hg5.block w1.heap.size (by simp; omega) hne5).trans (Below.heap_alloc _ _ _ (by first | omega | (show _ < WB.heap.size; omega))))).trans HR.out
                       have hk5 : ∀ j, j < W3.heap.size → w5.heap[j]? = WB.heap[j]? := fun j hj => (hb5.block j hj).trans (Below.heap_alloc _ _ _ (by first | omega | (show _ < WB.heap.size; omega)))
                       have hS5 := HS.out.trans ⟨hb5.os, hb5.tape, hb5.output, hs5, fun k hk h => hk5 k h.1⟩
                       have hfz5 := frozen?_row (i := 1) hr5
                       have hlt5 := row?_lt hr5
                       have k5 := cell?_row (i := 1) hr5
                       simp at k5
                       obtain ⟨q5, c5, rfl⟩ := hO5.sl
                       have HO5 := Lib.hid hO5
                       have HS5 := Lib.hid hS5
                       have HR5 := Lib.hid hr5
                       clear hO5 hb5 hg5 hl5 hk5 hS5 hne5
                       rw [List.length_append] at HO5 ⊢
                       clear hr5
                       go_wp2_with fail
                       go_roundw
                       case rel =>
                         refine ⟨k + 1, by omega, by go_num, ⟨_, by rw [row?_setCell_same, HR5.out]; rfl, ?_⟩, ?_⟩
                         · rw [HST1.out]
                           exact HO5.out.same fun j hj => heap_setCell_other _ _ j _ (by have := HO5.out.block j hj; show j ≠ w1.heap.size; omega)
                         · exact HS5.out.trans (Same.setCell _ _ _ _ (by simp))
                       case measure => simp [intOf]; omega
                     · have c6 : (op == 6) = false := by simpa using q6
                       have q7 : op = 7 := by have := HP.out; have := HO2.out; simp [Ed.pairs] at *; omega
                       have c7 : (op == 7) = true := by simpa using q7
                       have HS4 := Lib.hid (show eTo ⟨op, u, v, lab, wt⟩ at' G.E (k + 1) = acc ++ [((yu, yv), yl, wt)] by rw [eTo_succ HY.out, ← HST.out]; simp [eOut, q7, hP])
                       clear q1 q3 q6 q7 hP
                       have y9 := cell?_row (i := 3) hrt
                       simp at y9
                       have fz9 := frozen?_row (i := 3) hrt
                       have hl9 := row?_lt hrt
                       go_upto_region 31 with fail
                       obtain ⟨WB, hWB⟩ : ∃ WB, WB = WA.setCell ⟨wr.heap.size, 3, none⟩ (.int .i64 wt) := ⟨_, rfl⟩
                       have hsB : WB.heap.size = WA.heap.size := by rw [hWB]; simp
                       have hkB : ∀ j, j ≠ wr.heap.size → WB.heap[j]? = WA.heap[j]? := fun j hj => by rw [hWB]; exact heap_setCell_other _ _ j _ hj
                       have hrtB : row? WB wr.heap.size = some #[.int .i64 yu, .int .i64 yv, .int .u8 (yl : Int), .int .i64 wt] := by rw [hWB, row?_setCell_same, HRT.out]; rfl
                       have HOB := Lib.hid (HO.out.same fun g hg => hkB g (by have := hol g hg; omega))
                       have HSB : Hid (Same (fun j => j < W3.heap.size ∧ j ≠ w1.heap.size) W3 WB) := Lib.hid (HS.out.trans (by rw [hWB]; exact Same.setCell _ _ _ _ (by show ¬ (wr.heap.size < W3.heap.size ∧ wr.heap.size ≠ w1.heap.size); omega)))
                       have HRB := Lib.hid ((row?_congr (hkB w1.heap.size (by omega))).trans HR.out)
                       have hsA2 : wr.heap.size < WB.heap.size := by omega
                       rw [← hWB]
                       clear k5 hfz hl5 y9 fz9 hl9 y0 y1 x0 x1 x3 x4
                       have k5 := cell?_row (i := 1) HRB.out
                       simp at k5
                       have hfz := frozen?_row (i := 1) HRB.out
                       have hl5 := row?_lt HRB.out
                       have hr3 := (row?_congr (HSB.out.block (w.heap.size + 1) (by omega) ⟨by omega, by omega⟩)).trans HR33.out
                       have x0 := cell?_row (i := 0) hr3
                       have x1 := cell?_row (i := 1) hr3
                       have x3 := cell?_row (i := 3) hr3
                       have x4 := cell?_row (i := 4) hr3
                       simp at x0 x1 x3 x4
                       clear hWB hkB hsB HO HS HR HRT hsA hrt
                       have hrt := hrtB
                       have HO := HOB
                       have HS := HSB
                       have HR := HRB
                       clear hrtB HOB HSB HRB
                       have HST1 := Lib.hid HS4.out
                       clear HST
                       go_wp2_with (at_builtin; refine wpList_appO elRE 40 Tryz.underlying40 rfl _ _ rfl W3.heap.size _ acc rfl (HO.out.below (C := WB.heap.size) ((Below.refl _ WB).alloc (Nat.le_refl _) _) (Nat.le_refl _)) WB.heap.size ((yu, yv), yl, wt) _ rfl (row?_alloc_at _ _ _ _ rfl) (by omega) (by simp; omega) ?_)
                       intro v5 w5 hO5 hb5 hg5 hl5
                       have hs5 : WB.heap.size ≤ w5.heap.size := by have := hb5.size; simp at this; omega
                       have hne5 : some w1.heap.size ≠ (Value.slice qa acc.length cqa).ownBlock := fun e => by have := hown _ e.symm; omega
                       have hr5 : row? w5 w1.heap.size = some #[.slice qv nv cv, .slice qa acc.length cqa] := (row?_congr ((hg5.block w1.heap.size (by simp; omega) hne5).trans (Below.heap_alloc _ _ _ (by first | omega | (show _ < WB.heap.size; omega))))).trans HR.out
                       have hk5 : ∀ j, j < W3.heap.size → w5.heap[j]? = WB.heap[j]? := fun j hj => (hb5.block j hj).trans (Below.heap_alloc _ _ _ (by first | omega | (show _ < WB.heap.size; omega)))
                       have hS5 := HS.out.trans ⟨hb5.os, hb5.tape, hb5.output, hs5, fun k hk h => hk5 k h.1⟩
                       have hfz5 := frozen?_row (i := 1) hr5
                       have hlt5 := row?_lt hr5
                       have k5 := cell?_row (i := 1) hr5
                       simp at k5
                       obtain ⟨q5, c5, rfl⟩ := hO5.sl
                       have HO5 := Lib.hid hO5
                       have HS5 := Lib.hid hS5
                       have HR5 := Lib.hid hr5
                       clear hO5 hb5 hg5 hl5 hk5 hS5 hne5
                       rw [List.length_append] at HO5 ⊢
                       clear hr5
                       go_wp2_with fail
                       go_roundw
                       case rel =>
                         refine ⟨k + 1, by omega, by go_num, ⟨_, by rw [row?_setCell_same, HR5.out]; rfl, ?_⟩, ?_⟩
                         · rw [HST1.out]
                           exact HO5.out.same fun j hj => heap_setCell_other _ _ j _ (by have := HO5.out.block j hj; show j ≠ w1.heap.size; omega)
                         · exact HS5.out.trans (Same.setCell _ _ _ _ (by simp))
                       case measure => simp [intOf]; omega
                 · have bP : ((k : Int) == at') = false := by simpa using hP
                   have HS4 := Lib.hid (show eTo ⟨op, u, v, lab, wt⟩ at' G.E (k + 1) = acc ++ [((yu, yv), yl, yw)] by rw [eTo_succ HY.out, ← HST.out]; simp [eOut, q1, hP])
                   by_cases q3 : op = 3
                   · have c3 : (op == 3) = true := by simpa using q3
                     clear q1 q3 hP
                     have HST1 := Lib.hid HS4.out
                     clear HST
                     go_wp2_with (at_builtin; refine wpList_appO elRE 40 Tryz.underlying40 rfl _ _ rfl W3.heap.size _ acc rfl (HO.out.below (C := WA.heap.size) ((Below.refl _ WA).alloc (Nat.le_refl _) _) (Nat.le_refl _)) WA.heap.size ((yu, yv), yl, yw) _ rfl (row?_alloc_at _ _ _ _ rfl) (by omega) (by simp; omega) ?_)
                     intro v5 w5 hO5 hb5 hg5 hl5
                     have hs5 : WA.heap.size ≤ w5.heap.size := by have := hb5.size; simp at this; omega
                     have hne5 : some w1.heap.size ≠ (Value.slice qa acc.length cqa).ownBlock := fun e => by have := hown _ e.symm; omega
                     have hr5 : row? w5 w1.heap.size = some #[.slice qv nv cv, .slice qa acc.length cqa] := (row?_congr ((hg5.block w1.heap.size (by simp; omega) hne5).trans (Below.heap_alloc _ _ _ (by first | omega | (show _ < WA.heap.size; omega))))).trans HR.out
                     have hk5 : ∀ j, j < W3.heap.size → w5.heap[j]? = WA.heap[j]? := fun j hj => (hb5.block j hj).trans (Below.heap_alloc _ _ _ (by first | omega | (show _ < WA.heap.size; omega)))
                     have hS5 := HS.out.trans ⟨hb5.os, hb5.tape, hb5.output, hs5, fun k hk h => hk5 k h.1⟩
                     have hfz5 := frozen?_row (i := 1) hr5
                     have hlt5 := row?_lt hr5
                     have k5 := cell?_row (i := 1) hr5
                     simp at k5
                     obtain ⟨q5, c5, rfl⟩ := hO5.sl
                     have HO5 := Lib.hid hO5
                     have HS5 := Lib.hid hS5
                     have HR5 := Lib.hid hr5
                     clear hO5 hb5 hg5 hl5 hk5 hS5 hne5
                     rw [List.length_append] at HO5 ⊢
                     clear hr5
                     go_wp2_with fail
                     go_roundw
                     case rel =>
                       refine ⟨k + 1, by omega, by go_num, ⟨_, by rw [row?_setCell_same, HR5.out]; rfl, ?_⟩, ?_⟩
                       · rw [HST1.out]
                         exact HO5.out.same fun j hj => heap_setCell_other _ _ j _ (by have := HO5.out.block j hj; show j ≠ w1.heap.size; omega)
                       · exact HS5.out.trans (Same.setCell _ _ _ _ (by simp))
                     case measure => simp [intOf]; omega
                   · have c3 : (op == 3) = false := by simpa using q3
                     clear q1 q3 hP
                     have HST1 := Lib.hid HS4.out
                     clear HST
                     go_wp2_with (at_builtin; refine wpList_appO elRE 40 Tryz.underlying40 rfl _ _ rfl W3.heap.size _ acc rfl (HO.out.below (C := WA.heap.size) ((Below.refl _ WA).alloc (Nat.le_refl _) _) (Nat.le_refl _)) WA.heap.size ((yu, yv), yl, yw) _ rfl (row?_alloc_at _ _ _ _ rfl) (by omega) (by simp; omega) ?_)
                     intro v5 w5 hO5 hb5 hg5 hl5
                     have hs5 : WA.heap.size ≤ w5.heap.size := by have := hb5.size; simp at this; omega
                     have hne5 : some w1.heap.size ≠ (Value.slice qa acc.length cqa).ownBlock := fun e => by have := hown _ e.symm; omega
                     have hr5 : row? w5 w1.heap.size = some #[.slice qv nv cv, .slice qa acc.length cqa] := (row?_congr ((hg5.block w1.heap.size (by simp; omega) hne5).trans (Below.heap_alloc _ _ _ (by first | omega | (show _ < WA.heap.size; omega))))).trans HR.out
                     have hk5 : ∀ j, j < W3.heap.size → w5.heap[j]? = WA.heap[j]? := fun j hj => (hb5.block j hj).trans (Below.heap_alloc _ _ _ (by first | omega | (show _ < WA.heap.size; omega)))
                     have hS5 := HS.out.trans ⟨hb5.os, hb5.tape, hb5.output, hs5, fun k hk h => hk5 k h.1⟩
                     have hfz5 := frozen?_row (i := 1) hr5
                     have hlt5 := row?_lt hr5
                     have k5 := cell?_row (i := 1) hr5
                     simp at k5
                     obtain ⟨q5, c5, rfl⟩ := hO5.sl
                     have HO5 := Lib.hid hO5
                     have HS5 := Lib.hid hS5
                     have HR5 := Lib.hid hr5
                     clear hO5 hb5 hg5 hl5 hk5 hS5 hne5
                     rw [List.length_append] at HO5 ⊢
                     clear hr5
                     go_wp2_with fail
                     go_roundw
                     case rel =>
                       refine ⟨k + 1, by omega, by go_num, ⟨_, by rw [row?_setCell_same, HR5.out]; rfl, ?_⟩, ?_⟩
                       · rw [HST1.out]
                         exact HO5.out.same fun j hj => heap_setCell_other _ _ j _ (by have := HO5.out.block j hj; show j ≠ w1.heap.size; omega)
                       · exact HS5.out.trans (Same.setCell _ _ _ _ (by simp))
                     case measure => simp [intOf]; omega
               · have hkn : LE = k := by omega
                 subst hkn
                 have HFin := Lib.hid (show acc = (G.doit ⟨op, u, v, lab, wt⟩).E by rw [HST.out, HLE.out, HAT.out]; exact HET.out)
                 have r4' := (row?_congr (HS.out.block (w.heap.size + 1 + 1) (by omega) ⟨by omega, by omega⟩)).trans HR43.out
                 have hr := HR.out
                 go_wp2_with fail
                 refine ret_c2 (w.heap.size + 1 + 1) #[.slice qv nv cv, .slice qa acc.length cqa] rfl Tryz.isAgg42 Tryz.sizeOf42 rfl rfl (row?_setRow_same _ _ _ (by rw [r4']; rfl)) rfl ⟨.slice qv nv cv, .slice qa acc.length cqa, by rw [HN0.out]; rfl, ?_, below_setRow HBR.out (by omega) _⟩
                 rw [HGa.out]
                 have hsz3 := HS.out.size
                 refine ⟨?_, ?_⟩
                 · rw [← HAcc.out]
                   exact (OwnR.same HOV3.out fun g hg => (setRow_other _ _ g _ (by have := HOV3.out.block g hg; omega)).trans (HS.out.block g (HOV3.out.lt g hg) ⟨HOV3.out.lt g hg, by have := HOV3.out.block g hg; omega⟩)).rd elRV
                 · rw [← HFin.out]
                   exact (HO.out.same fun g hg => setRow_other _ _ g _ (by have := hown g hg; omega)).rd elRE
           | false =>
             have HP := Lib.hid (show Ed.pairs ⟨op, u, v, lab, wt⟩ = false from HP0.out.symm)
             obtain ⟨W3, hW3⟩ : ∃ W3, W3 = w3 := ⟨_, rfl⟩
             have hb4 : Below w3.heap.size w3 W3 := by rw [hW3]; exact Below.refl _ _
             rw [← hW3]
             have hs4 := hb4.size
             have HS4 : Hid (Same (fun j => j < W1.heap.size ∧ j ≠ w1.heap.size) W1 W3) := Lib.hid (HS3.out.trans ⟨hb4.os, hb4.tape, hb4.output, hs4, fun k hk h => hb4.block k hk⟩)
             have HOV3 := Lib.hid (HO3.out.below hb4 (Nat.le_refl _))
             have HRO3 := Lib.hid ((row?_congr (hb4.block w1.heap.size (by omega))).trans HRX.out)
             have HR23 := Lib.hid ((row?_congr (HS4.out.block w.heap.size (by omega) ⟨by omega, by omega⟩)).trans HR2.out)
             have HR33 := Lib.hid ((row?_congr (HS4.out.block (w.heap.size + 1) (by omega) ⟨by omega, by omega⟩)).trans HR3.out)
             have HR43 := Lib.hid ((row?_congr (HS4.out.block (w.heap.size + 1 + 1) (by omega) ⟨by omega, by omega⟩)).trans HR4.out)
             have HBW3 := Lib.hid (HB3.out.trans (hb4.mono HB3.out.size))
             obtain ⟨qv, nv, cv, hqv⟩ : ∃ qv nv cv, qv = qa ∧ nv = acc.length ∧ cv = cqa := ⟨_, _, _, rfl, rfl, rfl⟩
             obtain ⟨z1, z2, z3⟩ := hqv
             rw [← z1, ← z2, ← z3] at HRO3 HOV3
             obtain ⟨accV, hav⟩ : ∃ accV, accV = acc := ⟨_, rfl⟩
             rw [← hav] at HAcc HOV3
             clear z1 z2 z3 hav HS3 HO3 HRX HB3 HS4 HO HS HR HBR hown hol hll hr33 hr23
             clear hW3
             go_wp2_with fail
             obtain ⟨at', hat⟩ : ∃ at' : Int, at' = -1 := ⟨_, rfl⟩
             rw [← hat]
             have HAT1 := Lib.hid hat
             have HAT := Lib.hid (show at' = G.atE ⟨op, u, v, lab, wt⟩ by rw [hat]; unfold Gr.atE; rw [if_neg (by rw [HP.out]; decide)])
             clear hat
             go_loopw [11] (fun i wr => ∃ k : Nat, k ≤ LE ∧ i = .int .i64 (k : Int) ∧ (∃ va, row? wr w1.heap.size = some #[.slice qv nv cv, va] ∧ OwnRE W3.heap.size wr va (eTo ⟨op, u, v, lab, wt⟩ at' G.E k)) ∧ Same (fun j => j < W3.heap.size ∧ j ≠ w1.heap.size) W3 wr) (fun i _ => LE - (intOf i).toNat)
             case atStart => exact ⟨0, by omega, rfl, ⟨_, HRO3.out, OwnR.nil _ _⟩, Same.refl _ _⟩
             case round =>
               obtain ⟨k, hk, rfl, ⟨va, hr, hO⟩, hS⟩ := hrel
               have hsz := hS.size
               have hbw : Below w.heap.size w wr := HBW3.out.trans (hS.below (by omega) fun j hj => ⟨by omega, by omega⟩)
               have hll := eTo_length ⟨op, u, v, lab, wt⟩ at' G.E k
               obtain ⟨acc, hst⟩ : ∃ acc, acc = eTo ⟨op, u, v, lab, wt⟩ at' G.E k := ⟨_, rfl⟩
               rw [← hst] at hO hll
               have HST := Lib.hid hst
               have HO := Lib.hid hO
               have HS := Lib.hid hS
               have HR := Lib.hid hr
               have HBR := Lib.hid hbw
               have hown := hO.block
               have hol := hO.lt
               obtain ⟨qa, cqa, rfl⟩ := hO.sl
               have k2 := cell?_row (i := 1) ((row?_congr (hS.block _ (by omega) ⟨by omega, by omega⟩)).trans HR23.out)
               simp at k2
               clear hst hO hS hbw hr
               by_cases hlt : k < LE
               · obtain ⟨b, off, c', y, h1, hb, hy, hc⟩ := HE.out.at (by rw [← HLE.out]; exact hlt)
                 simp only [Value.slice.injEq] at h1
                 obtain ⟨rfl, -, rfl⟩ := h1
                 obtain ⟨⟨yu, yv⟩, yl, yw⟩ := y
                 have jl : rowLoad Tryz.prog 137 ⟨b, off + k * 4, none⟩ wr = .ok (.agg #[.int .i64 yu, .int .i64 yv, .int .u8 (yl : Int), .int .i64 yw]) wr := load_cells Tryz.isAgg137 Tryz.sizeOf137 wr b _ _ rfl fun j u hu => hc wr HBR.out j u hu
                 have HY := Lib.hid hy
                 clear hc hy
                 go_upto_region 26 with fail
                 obtain ⟨WA, hWA⟩ : ∃ WA, WA = wr.alloc (.cells #[.int .i64 yu, .int .i64 yv, .int .u8 (yl : Int), .int .i64 yw] 137) := ⟨_, rfl⟩
                 have hrt : row? WA wr.heap.size = some #[.int .i64 yu, .int .i64 yv, .int .u8 (yl : Int), .int .i64 yw] := by rw [hWA]; exact row?_alloc_at _ _ _ _ rfl
                 have hsA : wr.heap.size < WA.heap.size := by rw [hWA]; simp
                 have hkA : ∀ j, j < wr.heap.size → WA.heap[j]? = wr.heap[j]? := fun j hj => by rw [hWA]; exact Below.heap_alloc _ _ j hj
                 have HOA := Lib.hid (HO.out.same fun g hg => hkA g (hol g hg))
                 have HSA := Lib.hid (HS.out.trans (by rw [hWA]; exact Same.alloc _ _ _) : Same (fun j => j < W3.heap.size ∧ j ≠ w1.heap.size) W3 WA)
                 have HRA := Lib.hid ((row?_congr (hkA _ (by omega))).trans HR.out)
                 have HRT := Lib.hid hrt
                 have hr3 := (row?_congr (HSA.out.block (w.heap.size + 1) (by omega) ⟨by omega, by omega⟩)).trans HR33.out
                 have x0 := cell?_row (i := 0) hr3
                 have x1 := cell?_row (i := 1) hr3
                 have x3 := cell?_row (i := 3) hr3
                 have x4 := cell?_row (i := 4) hr3
                 have y0 := cell?_row (i := 0) hrt
                 have y1 := cell?_row (i := 1) hrt
                 have k5 := cell?_row (i := 1) HRA.out
                 simp at x0 x1 x3 x4 y0 y1 k5
                 have hfz := frozen?_row (i := 1) HRA.out
                 have hl5 := row?_lt HRA.out
                 rw [← hWA]
                 clear hWA hkA k2 jl HO HS HR
                 have HO := HOA
                 have HS := HSA
                 have HR := HRA
                 clear HOA HSA HRA
                 have bP : ((k : Int) == at') = false := by simp [HAT1.out]
                 have hP : ¬ (k : Int) = at' := by rw [HAT1.out]; omega
                 by_cases q1 : op = 1
                 · have c1 : (op == 1) = true := by simpa using q1
                   have c3 : (op == 3) = false := by simp [q1]
                   by_cases q2 : yu = u
                   · have b1 : (yu == u) = true := by simpa using q2
                     have HS4 := Lib.hid (show eTo ⟨op, u, v, lab, wt⟩ at' G.E (k + 1) = acc by rw [eTo_succ HY.out, ← HST.out]; simp [eOut, q1, q2])
                     clear q1 q2 hP
                     have HST1 := Lib.hid HS4.out
                     go_wp2_with fail
                     go_roundw
                     case rel => exact ⟨k + 1, by omega, by go_num, ⟨_, HR.out, by rw [HST1.out]; exact HO.out⟩, HS.out⟩
                     case measure => simp [intOf]; omega
                   · have b1 : (yu == u) = false := by simpa using q2
                     by_cases q3 : yv = u
                     · have b2 : (yv == u) = true := by simpa using q3
                       have HS4 := Lib.hid (show eTo ⟨op, u, v, lab, wt⟩ at' G.E (k + 1) = acc by rw [eTo_succ HY.out, ← HST.out]; simp [eOut, q1, q3])
                       clear q1 q2 q3 hP
                       have HST1 := Lib.hid HS4.out
                       go_wp2_with fail
                       go_roundw
                       case rel => exact ⟨k + 1, by omega, by go_num, ⟨_, HR.out, by rw [HST1.out]; exact HO.out⟩, HS.out⟩
                       case measure => simp [intOf]; omega
                     · have b2 : (yv == u) = false := by simpa using q3
                       have HS4 := Lib.hid (show eTo ⟨op, u, v, lab, wt⟩ at' G.E (k + 1) = acc ++ [((yu, yv), yl, yw)] by rw [eTo_succ HY.out, ← HST.out]; simp [eOut, q1, q2, q3])
                       clear q1 q2 q3 hP
                       have HST1 := Lib.hid HS4.out
                       clear HST
                       go_wp2_with (at_builtin; refine wpList_appO elRE 40 Tryz.underlying40 rfl _ _ rfl W3.heap.size _ acc rfl (HO.out.below (C := WA.heap.size) ((Below.refl _ WA).alloc (Nat.le_refl _) _) (Nat.le_refl _)) WA.heap.size ((yu, yv), yl, yw) _ rfl (row?_alloc_at _ _ _ _ rfl) (by omega) (by simp; omega) ?_)
                       intro v5 w5 hO5 hb5 hg5 hl5
                       have hs5 : WA.heap.size ≤ w5.heap.size := by have := hb5.size; simp at this; omega
                       have hne5 : some w1.heap.size ≠ (Value.slice qa acc.length cqa).ownBlock := fun e => by have := hown _ e.symm; omega
                       have hr5 : row? w5 w1.heap.size = some #[.slice qv nv cv, .slice qa acc.length cqa] := (row?_congr ((hg5.block w1.heap.size (by simp; omega) hne5).trans (Below.heap_alloc _ _ _ (by first | omega | (show _ < WA.heap.size; omega))))).trans HR.out
                       have hk5 : ∀ j, j < W3.heap.size → w5.heap[j]? = WA.heap[j]? := fun j hj => (hb5.block j hj).trans (Below.heap_alloc _ _ _ (by first | omega | (show _ < WA.heap.size; omega)))
                       have hS5 := HS.out.trans ⟨hb5.os, hb5.tape, hb5.output, hs5, fun k hk h => hk5 k h.1⟩
                       have hfz5 := frozen?_row (i := 1) hr5
                       have hlt5 := row?_lt hr5
                       have k5 := cell?_row (i := 1) hr5
                       simp at k5
                       obtain ⟨q5, c5, rfl⟩ := hO5.sl
                       have HO5 := Lib.hid hO5
                       have HS5 := Lib.hid hS5
                       have HR5 := Lib.hid hr5
                       clear hO5 hb5 hg5 hl5 hk5 hS5 hne5
                       rw [List.length_append] at HO5 ⊢
                       clear hr5
                       go_wp2_with fail
                       go_roundw
                       case rel =>
                         refine ⟨k + 1, by omega, by go_num, ⟨_, by rw [row?_setCell_same, HR5.out]; rfl, ?_⟩, ?_⟩
                         · rw [HST1.out]
                           exact HO5.out.same fun j hj => heap_setCell_other _ _ j _ (by have := HO5.out.block j hj; show j ≠ w1.heap.size; omega)
                         · exact HS5.out.trans (Same.setCell _ _ _ _ (by simp))
                       case measure => simp [intOf]; omega
                 · have c1 : (op == 1) = false := by simpa using q1
                   have q3 : ¬ op = 3 := fun e => by have := HP.out; simp [Ed.pairs, e] at this
                   have c3 : (op == 3) = false := by simpa using q3
                   have HS4 := Lib.hid (show eTo ⟨op, u, v, lab, wt⟩ at' G.E (k + 1) = acc ++ [((yu, yv), yl, yw)] by rw [eTo_succ HY.out, ← HST.out]; simp [eOut, q1, q3, hP])
                   clear q1 q3 hP
                   have HST1 := Lib.hid HS4.out
                   clear HST
                   go_wp2_with (at_builtin; refine wpList_appO elRE 40 Tryz.underlying40 rfl _ _ rfl W3.heap.size _ acc rfl (HO.out.below (C := WA.heap.size) ((Below.refl _ WA).alloc (Nat.le_refl _) _) (Nat.le_refl _)) WA.heap.size ((yu, yv), yl, yw) _ rfl (row?_alloc_at _ _ _ _ rfl) (by omega) (by simp; omega) ?_)
                   intro v5 w5 hO5 hb5 hg5 hl5
                   have hs5 : WA.heap.size ≤ w5.heap.size := by have := hb5.size; simp at this; omega
                   have hne5 : some w1.heap.size ≠ (Value.slice qa acc.length cqa).ownBlock := fun e => by have := hown _ e.symm; omega
                   have hr5 : row? w5 w1.heap.size = some #[.slice qv nv cv, .slice qa acc.length cqa] := (row?_congr ((hg5.block w1.heap.size (by simp; omega) hne5).trans (Below.heap_alloc _ _ _ (by first | omega | (show _ < WA.heap.size; omega))))).trans HR.out
                   have hk5 : ∀ j, j < W3.heap.size → w5.heap[j]? = WA.heap[j]? := fun j hj => (hb5.block j hj).trans (Below.heap_alloc _ _ _ (by first | omega | (show _ < WA.heap.size; omega)))
                   have hS5 := HS.out.trans ⟨hb5.os, hb5.tape, hb5.output, hs5, fun k hk h => hk5 k h.1⟩
                   have hfz5 := frozen?_row (i := 1) hr5
                   have hlt5 := row?_lt hr5
                   have k5 := cell?_row (i := 1) hr5
                   simp at k5
                   obtain ⟨q5, c5, rfl⟩ := hO5.sl
                   have HO5 := Lib.hid hO5
                   have HS5 := Lib.hid hS5
                   have HR5 := Lib.hid hr5
                   clear hO5 hb5 hg5 hl5 hk5 hS5 hne5
                   rw [List.length_append] at HO5 ⊢
                   clear hr5
                   go_wp2_with fail
                   go_roundw
                   case rel =>
                     refine ⟨k + 1, by omega, by go_num, ⟨_, by rw [row?_setCell_same, HR5.out]; rfl, ?_⟩, ?_⟩
                     · rw [HST1.out]
                       exact HO5.out.same fun j hj => heap_setCell_other _ _ j _ (by have := HO5.out.block j hj; show j ≠ w1.heap.size; omega)
                     · exact HS5.out.trans (Same.setCell _ _ _ _ (by simp))
                   case measure => simp [intOf]; omega
               · have hkn : LE = k := by omega
                 subst hkn
                 have HFin := Lib.hid (show acc = (G.doit ⟨op, u, v, lab, wt⟩).E by rw [HST.out, HLE.out, HAT.out]; exact HET.out)
                 have r4' := (row?_congr (HS.out.block (w.heap.size + 1 + 1) (by omega) ⟨by omega, by omega⟩)).trans HR43.out
                 have hr := HR.out
                 go_wp2_with fail
                 refine ret_c2 (w.heap.size + 1 + 1) #[.slice qv nv cv, .slice qa acc.length cqa] rfl Tryz.isAgg42 Tryz.sizeOf42 rfl rfl (row?_setRow_same _ _ _ (by rw [r4']; rfl)) rfl ⟨.slice qv nv cv, .slice qa acc.length cqa, by rw [HN0.out]; rfl, ?_, below_setRow HBR.out (by omega) _⟩
                 rw [HGa.out]
                 have hsz3 := HS.out.size
                 refine ⟨?_, ?_⟩
                 · rw [← HAcc.out]
                   exact (OwnR.same HOV3.out fun g hg => (setRow_other _ _ g _ (by have := HOV3.out.block g hg; omega)).trans (HS.out.block g (HOV3.out.lt g hg) ⟨HOV3.out.lt g hg, by have := HOV3.out.block g hg; omega⟩)).rd elRV
                 · rw [← HFin.out]
                   exact (HO.out.same fun g hg => setRow_other _ _ g _ (by have := hown g hg; omega)).rd elRE
 · have hnz : ((n : Int) != 0) = true := by simp; omega
   have HGa : Hid (G.app ⟨op, u, v, lab, wt⟩ = G) := Lib.hid (by rw [HApp.out, if_neg hn0])
   clear hn0
   go_wp2_with fail
   refine ret_c2 (w.heap.size + 1 + 1) #[.slice aV LV cV, .slice aE LE cE] rfl Tryz.isAgg42 Tryz.sizeOf42 rfl rfl (row?_setRow_same _ _ _ (by rw [r4]; rfl)) rfl ⟨_, _, rfl, ?_, below_setRow HBw.out (by omega) _⟩
   rw [HGa.out]
   have hb := below_setRow HBw.out (show w.heap.size ≤ w.heap.size + 1 + 1 by omega) #[.slice aV LV cV, .slice aE LE cE]
   exact RefG.below ⟨HV.out, HE.out⟩ hb
end Go.Proofs.YtglnhnjmelilmaaGreatDoor
