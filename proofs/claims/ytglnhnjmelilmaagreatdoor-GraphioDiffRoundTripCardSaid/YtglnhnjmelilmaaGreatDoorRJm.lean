/- Walks of the law's own graphs: Made (edits carried out), From with graph.Build (never .. -/
import Derived.Test.YtglnhnjmelilmaaGreatDoorRHE
import Derived.Test.YtglnhnjmelilmaaGreatDoorRJpl
import Derived.Test.YtglnhnjmelilmaaGreatDoorRGrH
import Derived.Test.YtglnhnjmelilmaaGreatDoorRMx
set_option maxHeartbeats 4000000
set_option maxRecDepth 10000
set_option linter.all false
namespace Go.Proofs.YtglnhnjmelilmaaGreatDoor
open Go Go.RowKit Go.Pal
attribute [local go_sem] Oper.semAt_some
@[go_sem ↓ high] theorem loadED (a : Addr) : loadVar 23 a = loadLater 23 a := rfl
@[go_sem] theorem loadED_run (w : World) (a : Addr) : (loadLater 23 a).run Tryz.prog w = rowLoad Tryz.prog 23 a w := rfl
theorem rd_setRow {α : Type} {enc : α → Array Value} {k : Nat} (h0 : ∀ x, ∃ n, (enc x)[0]? = some (.int .i64 n)) {w : World} {v : Value} {xs : List α} (h : Rd enc k w.heap.size w v xs) {g : Nat} {a a' : Option Addr} {n c n' c' : Nat} (hg : row? w g = some #[.slice a n c, .slice a' n' c']) (d : Array Value) : Rd enc k (w.setRow g d).heap.size (w.setRow g d) v xs := by
 obtain ⟨q, cq, hv, h⟩ := h
 refine ⟨q, cq, hv, h.imp id ?_⟩
 rintro ⟨b, off, ha, hb, hc⟩
 by_cases hx : xs = []
 · subst hx
   exact ⟨b, off, ha, by simpa using hb, fun i x hi => by simp at hi⟩
 have hbg : b ≠ g := fun e => by
   subst e
   obtain ⟨x, r, rfl⟩ : ∃ x r, xs = x :: r := by
     cases xs with
     | nil => exact absurd rfl hx
     | cons x r => exact ⟨x, r, rfl⟩
   obtain ⟨n0, hn0⟩ := h0 x
   have h1 := hc 0 x rfl 0 _ hn0
   rw [show off + 0 * k + 0 = off by omega] at h1
   have h2 := cell?_row (i := off) hg
   rw [h1] at h2
   match off, h2 with
   | 0, h2 => simp at h2
   | 1, h2 => simp at h2
   | m + 2, h2 => simp at h2
 refine ⟨b, off, ha, by simpa using hb, fun i x hi j u hu => ?_⟩
 rw [← hc i x hi j u hu]
 have := setRow_other w g b d hbg
 unfold World.cell?
 rw [this]
theorem made_any (es : List Ed) (hes : ∀ e ∈ es, e.Wf) (v : Value) (w : World) (hv : Rd edC 5 w.heap.size w v es) (hlen : es.length ≤ 60) :
   Calls Tryz.prog 57 #[v] w fun r w' => ∃ vV vE, r = .returned (.agg #[vV, vE]) ∧ RefG w' vV vE (madeTo es es.length) ∧ Below w.heap.size w w' := by
 have HV := Lib.hid hv
 have HW := Lib.hid hes
 obtain ⟨a, c, rfl⟩ := hv.sl
 clear hv hes
 go_enter Tryz.func57, Tryz.ntmps57
 go_wp2_with fail
 generalize hW0 : World.alloc (World.alloc w _) _ = W0
 have r2 : row? W0 w.heap.size = some #[.slice none 0 0, .slice none 0 0] := by rw [← hW0]; simp [go_sem]
 have r3 : row? W0 (w.heap.size + 1) = some #[.slice none 0 0, .slice none 0 0] := by rw [← hW0]; simp [go_sem]
 have hB0 : Below w.heap.size w W0 := by
   rw [← hW0]
   (repeat' (first | (with_reducible first | exact Below.refl _ _ | assumption | refine Below.alloc ?_ ?_ _ | refine Below.drew ?_ | refine Below.setCell ?_ ?_ _ | refine below_setRow ?_ ?_ _ | exact Nat.le_refl _) | omega | (simp; done) | (simp; omega) | (simp at *; omega)))
 have hs0 : w.heap.size + 2 ≤ W0.heap.size := by rw [← hW0]; simp
 have HR2 := Lib.hid r2
 have HR3 := Lib.hid r3
 have HB0 := Lib.hid hB0
 clear hW0 r2 r3 hB0
 go_loopw [4] (fun i wr => ∃ k : Nat, k ≤ es.length ∧ i = .int .i64 (k : Int) ∧ (∃ vV vE, row? wr (w.heap.size + 1) = some #[vV, vE] ∧ RefG wr vV vE (madeTo es k)) ∧ Same (fun j => j < W0.heap.size ∧ j ≠ w.heap.size + 1) W0 wr) (fun i _ => es.length - (intOf i).toNat)
 case atStart => exact ⟨0, by omega, rfl, ⟨_, _, HR3.out, ⟨none, 0, rfl, .inl rfl⟩, ⟨none, 0, rfl, .inl rfl⟩⟩, Same.refl _ _⟩
 case round =>
   obtain ⟨k, hk, rfl, ⟨vV, vE, hr, hRG⟩, hS⟩ := hrel
   have hs := hS.size
   have HBR := Lib.hid (HB0.out.trans (hS.below (by omega) fun j hj => ⟨by omega, by omega⟩))
   have HR := Lib.hid hr
   have HRG := Lib.hid hRG
   have HS := Lib.hid hS
   clear hr hRG hS
   by_cases hlt : k < es.length
   · obtain ⟨b, off, c', e, h1, hb, hx, hc⟩ := HV.out.at hlt
     simp only [Value.slice.injEq] at h1
     obtain ⟨rfl, -, rfl⟩ := h1
     have hlt60 : (k : Int) < 60 := by omega
     have hG := madeTo_ok HW.out k
     have HL := Lib.hid fun W (hw : Below wr.heap.size wr W) => (⟨load_cells Tryz.isAgg23 Tryz.sizeOf23 W b _ (edC e) rfl fun j u hu => hc W (HBR.out.trans (hw.mono HBR.out.size)) j u hu, (row?_below hw (by omega)).trans HR.out⟩ : rowLoad Tryz.prog 23 ⟨b, off + k * 5, none⟩ W = .ok (.agg (edC e)) W ∧ row? W (w.heap.size + 1) = some #[vV, vE])
     have HDo := Lib.hid fun W (hw : Below wr.heap.size wr W) => rdo_any e (HW.out e (List.mem_of_getElem? hx)) (madeTo es k) hG vV vE W (RefG.below HRG.out hw)
     have HX := Lib.hid hx
     clear hc hx hG hb
     go_wp2_with fail
     refine wp_region_mix1 (fun W => Below wr.heap.size wr W) 7 [(0, true), (1, true), (2, true), (3, true), (4, true), (5, false), (6, true)] (.two 7 8 (.two 8 9 (.one 9 .done) (.one 8 .done)) (.one 7 (.one 9 .done))) (by kernel_rfl) (by kernel_rfl) (Below.refl _ _).drew ?_
     repeat (apply wpPlan_still rfl rfl; (intro w hw; obtain ⟨k1, k2⟩ := HL.out _ hw; clear hw; go_simp; (try go_ints); (first | with_reducible rfl | (go_simp; with_reducible rfl))); (intro K hK; go_simp; (try go_ints); refine hK _ _ ?_; clear hK K))
     apply wpPlan_act rfl rfl
     intro K hK
     unfold Oper.wp
     go_simp
     refine (HDo.out _ (Below.refl _ _).drew).mono ?_
     rintro r w2 ⟨vV', vE', rfl, hRG2, hb2⟩
     have hb2' : Below wr.heap.size wr w2 := (Below.refl _ wr).drew.trans hb2
     refine hK _ _ hb2' ?_
     clear hK K
     have HB2 := Lib.hid hb2'
     have HRG2 := Lib.hid hRG2
     have hr2 := (HL.out _ hb2').2
     clear hb2 hb2' hRG2
     repeat (apply wpPlan_still rfl rfl; (intro w hw; clear hw; go_simp; (try go_ints); (first | with_reducible rfl | (go_simp; with_reducible rfl))); (intro K hK; go_simp; (try go_ints); refine hK _ _ ?_; clear hK K))
     refine wpPlan_nil ?_
     obtain ⟨aV, cV, hvV⟩ := HRG.out.1.sl
     obtain ⟨aE, cE, hvE⟩ := HRG.out.2.sl
     obtain ⟨aV2, cV2, hvV2⟩ := HRG2.out.1.sl
     obtain ⟨aE2, cE2, hvE2⟩ := HRG2.out.2.sl
     subst hvV hvE hvV2 hvE2
     have hrg := HRG2.out
     rw [← madeTo_succ HX.out] at hrg ⊢
     obtain ⟨GN, hGN⟩ : ∃ GN, GN = madeTo es (k + 1) := ⟨_, rfl⟩
     rw [← hGN] at hrg ⊢
     obtain ⟨nV, hnV⟩ : ∃ nV, nV = GN.V.length := ⟨_, rfl⟩
     obtain ⟨nE, hnE⟩ : ∃ nE, nE = GN.E.length := ⟨_, rfl⟩
     rw [← hnV, ← hnE] at hrg ⊢
     have HRow := Lib.hid (row?_setRow_same w2 (w.heap.size + 1) #[.slice aV2 nV cV2, .slice aE2 nE cE2] (by rw [hr2]; rfl))
     have HRGn : Hid (RefG (w2.setRow (w.heap.size + 1) #[.slice aV2 nV cV2, .slice aE2 nE cE2]) (.slice aV2 nV cV2) (.slice aE2 nE cE2) (madeTo es (k + 1))) := Lib.hid (by rw [← hGN]; exact ⟨rd_setRow (fun x => ⟨_, rfl⟩) hrg.1 hr2 _, rd_setRow (fun x => ⟨_, rfl⟩) hrg.2 hr2 _⟩)
     have HSn : Hid (Same (fun j => j < W0.heap.size ∧ j ≠ w.heap.size + 1) W0 (w2.setRow (w.heap.size + 1) #[.slice aV2 nV cV2, .slice aE2 nE cE2])) := Lib.hid (HS.out.trans (((Same.of_below HB2.out).mono fun j hj _ => hj).trans (Same.setRow _ _ _ _ (by simp))))
     clear hrg hGN hnV hnE HRG2 HRG HDo HL
     refine wpTail_two ?_ ?_
     · apply wpTail_one rfl rfl
       intro K hK
       unfold Oper.wp
       go_simp
       refine hK _ _ ?_
       clear hK K
       refine wpTail_two ?_ ?_
       · apply wpTail_one rfl rfl
         intro K hK
         unfold Oper.wp
         go_simp
         refine hK _ _ ?_
         clear hK K
         apply wpTail_one rfl rfl
         intro K hK
         unfold Oper.wp
         go_simp
         refine hK _ _ ?_
         clear hK K
         refine wpTail_done ?_
         go_wp2_with fail
         go_roundw
         case rel => exact ⟨k + 1, by omega, by go_num, ⟨_, _, HRow.out, HRGn.out⟩, HSn.out⟩
         case measure => simp [intOf]; omega
       · apply wpTail_one rfl rfl
         intro K hK
         unfold Oper.wp
         go_simp
         refine hK _ _ ?_
         clear hK K
         apply wpTail_one rfl rfl
         intro K hK
         unfold Oper.wp
         go_simp
         refine hK _ _ ?_
         clear hK K
         refine wpTail_done ?_
         go_wp2_with fail
         go_roundw
         case rel => exact ⟨k + 1, by omega, by go_num, ⟨_, _, HRow.out, HRGn.out⟩, HSn.out⟩
         case measure => simp [intOf]; omega
     · apply wpTail_one rfl rfl
       intro K hK
       unfold Oper.wp
       go_simp
       refine hK _ _ ?_
       clear hK K
       apply wpTail_one rfl rfl
       intro K hK
       unfold Oper.wp
       go_simp
       refine hK _ _ ?_
       clear hK K
       apply wpTail_one rfl rfl
       intro K hK
       unfold Oper.wp
       go_simp
       refine hK _ _ ?_
       clear hK K
       refine wpTail_done ?_
       go_wp2_with fail
       go_roundw
       case rel => exact ⟨k + 1, by omega, by go_num, ⟨_, _, HRow.out, HRGn.out⟩, HSn.out⟩
       case measure => simp [intOf]; omega
   · have hkn : es.length = k := by omega
     subst hkn
     obtain ⟨aV, cV, hvV⟩ := HRG.out.1.sl
     obtain ⟨aE, cE, hvE⟩ := HRG.out.2.sl
     subst hvV
     subst hvE
     have r4 := (row?_congr (HS.out.block w.heap.size (by omega) ⟨by omega, by omega⟩)).trans HR2.out
     have hr := HR.out
     go_wp2_with fail
     refine ret_row w.heap.size #[.slice aV _ cV, .slice aE _ cE] rfl Tryz.isAgg42 Tryz.sizeOf42 rfl rfl (row?_setRow_same _ _ _ (by rw [r4]; rfl)) rfl ⟨_, _, rfl, ?_, below_setRow HBR.out (by omega) _⟩
     exact ⟨rd_setRow (fun x => ⟨_, rfl⟩) HRG.out.1 r4 _, rd_setRow (fun x => ⟨_, rfl⟩) HRG.out.2 r4 _⟩
@[go_sem ↓ high] theorem loadVX (a : Addr) : loadVar 126 a = loadLater 126 a := rfl
@[go_sem ↓ high] theorem storeVX (a : Addr) (v : Value) : storeVar 126 a v = storeLater 126 a v := rfl
@[go_sem] theorem loadVX_run (w : World) (a : Addr) : (loadLater 126 a).run Tryz.prog w = rowLoad Tryz.prog 126 a w := rfl
@[go_sem] theorem storeVX_run (w : World) (a : Addr) (v : Value) : (storeLater 126 a v).run Tryz.prog w = rowStore Tryz.prog 126 a v w := rfl
@[go_sem] theorem loadVX_at (w : World) (g : Nat) : rowLoad Tryz.prog 126 ⟨g, 0, none⟩ w = match row? w g with
     | some c => if c.size = 3 then .ok (.agg c) w else laterLoad Tryz.prog 126 ⟨g, 0, none⟩ w
     | none => laterLoad Tryz.prog 126 ⟨g, 0, none⟩ w := load_row Tryz.isAgg126 Tryz.sizeOf126 w g
@[go_sem] theorem storeVX_at (w : World) (g : Nat) (d : Array Value) : rowStore Tryz.prog 126 ⟨g, 0, none⟩ (.agg d) w = match row? w g with
     | some c => if c.size = 3 ∧ d.size = 3 ∧ allOne d = true then .ok () (w.setRow g d) else laterStore Tryz.prog 126 ⟨g, 0, none⟩ (.agg d) w
     | none => laterStore Tryz.prog 126 ⟨g, 0, none⟩ (.agg d) w := store_row Tryz.sizeOf126 w g d
@[go_sem ↓ high] theorem zeroVX (w : World) : (zeroValue 126).run Tryz.prog w = .ok (.agg #[.int .i64 0, .int .u8 0, .int .i64 0]) w := by kernel_rfl
@[go_sem ↓ high] theorem loadEX (a : Addr) : loadVar 134 a = loadLater 134 a := rfl
@[go_sem ↓ high] theorem storeEX (a : Addr) (v : Value) : storeVar 134 a v = storeLater 134 a v := rfl
@[go_sem] theorem loadEX_run (w : World) (a : Addr) : (loadLater 134 a).run Tryz.prog w = rowLoad Tryz.prog 134 a w := rfl
@[go_sem] theorem storeEX_run (w : World) (a : Addr) (v : Value) : (storeLater 134 a v).run Tryz.prog w = rowStore Tryz.prog 134 a v w := rfl
@[go_sem] theorem loadEX_at (w : World) (g : Nat) : rowLoad Tryz.prog 134 ⟨g, 0, none⟩ w = match row? w g with
     | some c => if c.size = 4 then .ok (.agg c) w else laterLoad Tryz.prog 134 ⟨g, 0, none⟩ w
     | none => laterLoad Tryz.prog 134 ⟨g, 0, none⟩ w := load_row Tryz.isAgg134 Tryz.sizeOf134 w g
@[go_sem] theorem storeEX_at (w : World) (g : Nat) (d : Array Value) : rowStore Tryz.prog 134 ⟨g, 0, none⟩ (.agg d) w = match row? w g with
     | some c => if c.size = 4 ∧ d.size = 4 ∧ allOne d = true then .ok () (w.setRow g d) else laterStore Tryz.prog 134 ⟨g, 0, none⟩ (.agg d) w
     | none => laterStore Tryz.prog 134 ⟨g, 0, none⟩ (.agg d) w := store_row Tryz.sizeOf134 w g d
@[go_sem ↓ high] theorem zeroEX (w : World) : (zeroValue 134).run Tryz.prog w = .ok (.agg #[.int .i64 0, .int .i64 0, .int .u8 0, .int .i64 0]) w := by kernel_rfl
@[go_sem ↓ high] theorem b_EdV (u l t : Int) (w : World) : (Instr.build 23 #[(0, .int .i64 0), (1, .int .i64 u), (3, .int .u8 l), (4, .int .i64 t)]).run Tryz.prog w = .ok (.agg #[.int .i64 0, .int .i64 u, .int .i64 0, .int .u8 l, .int .i64 t]) w := by kernel_rfl
@[go_sem ↓ high] theorem b_EdE (u v l t : Int) (w : World) : (Instr.build 23 #[(0, .int .i64 2), (1, .int .i64 u), (2, .int .i64 v), (3, .int .u8 l), (4, .int .i64 t)]).run Tryz.prog w = .ok (.agg #[.int .i64 2, .int .i64 u, .int .i64 v, .int .u8 l, .int .i64 t]) w := by kernel_rfl
theorem gbuild_any (G : Gr) (hG : G.Ok) (va ve : Value) (w : World) (hv : Rd vtxA 3 w.heap.size w va G.V) (he : Rd edgA 4 w.heap.size w ve G.E) :
   Calls Tryz.prog 65 #[va, ve] w fun r w' => ∃ g bV bE, r = .returned (.tuple #[.pointer (some ⟨g, 0, none⟩), .int .i64 0]) ∧ GOk w' g bV bE G ∧ (w.heap.size ≤ g ∧ w.heap.size ≤ bV ∧ w.heap.size ≤ bE) ∧ Below w.heap.size w w' := by
 have HV := Lib.hid hv
 have HE := Lib.hid he
 have HG := Lib.hid hG
 have hlV := hG.len
 have hlE := hG.most
 obtain ⟨aV, cV, rfl⟩ := hv.sl
 obtain ⟨aE, cE, rfl⟩ := he.sl
 clear hv he hG
 obtain ⟨LV, hLV⟩ : ∃ LV, LV = G.V.length := ⟨_, rfl⟩
 obtain ⟨LE, hLE⟩ : ∃ LV, LV = G.E.length := ⟨_, rfl⟩
 have HLV := Lib.hid hLV
 have HLE := Lib.hid hLE
 rw [← hLV] at HV hlV ⊢
 rw [← hLE] at HE hlE ⊢
 clear hLV hLE
 go_enter Tryz.func65, Tryz.ntmps65
 go_wp2_with fail
 refine (gnew_ok w).mono ?_
 rintro e w1 ⟨g, bV, bE, rfl, hG1, hg0, hV0, hE0, hb1⟩
 have HG1 := Lib.hid hG1
 have HB1 := Lib.hid hb1
 clear hG1 hb1
 go_wp2_with fail
 go_loopw [16] (fun i wr => ∃ k : Nat, k ≤ LV ∧ i = .int .i64 (k : Int) ∧ GOk wr g bV bE (G.vPart k) ∧ Below w.heap.size w wr) (fun i _ => LV - (intOf i).toNat)
 case atStart => exact ⟨0, by omega, rfl, HG1.out, HB1.out⟩
 case round =>
   obtain ⟨k, hk, rfl, hGk, hb⟩ := hrel
   have HGk := Lib.hid hGk
   have HB := Lib.hid hb
   have hs := hb.size
   clear hGk hb
   by_cases hlt : k < LV
   · obtain ⟨b, off, c', y, h1, hb, hy, hc⟩ := HV.out.at (by rw [← HLV.out]; exact hlt)
     simp only [Value.slice.injEq] at h1
     obtain ⟨rfl, -, rfl⟩ := h1
     have hwf := vEd_wf HG.out (List.mem_of_getElem? hy)
     have hwr := Gr.v_wrong HG.out hy
     have hap := Gr.v_app HG.out hy
     obtain ⟨yi, yl, yw⟩ := y
     have HAp := Lib.hid fun W (hW : GOk W g bV bE (G.vPart k)) => gapply_any (vEd (yi, yl, yw)) hwf (.inl rfl) g bV bE (G.vPart k) (Gr.vPart_ok HG.out k) W hW
     rw [hwr, hap, show edC (vEd (yi, yl, yw)) = #[.int .i64 0, .int .i64 yi, .int .i64 0, .int .u8 (yl : Int), .int .i64 yw] from rfl] at HAp
     have jl : rowLoad Tryz.prog 126 ⟨b, off + k * 3, none⟩ wr = .ok (.agg #[.int .i64 yi, .int .u8 (yl : Int), .int .i64 yw]) wr := load_cells Tryz.isAgg126 Tryz.sizeOf126 wr b _ _ rfl fun j u hu => hc wr HB.out j u hu
     have hrt : row? (wr.alloc (.cells #[.int .i64 yi, .int .u8 (yl : Int), .int .i64 yw] 126)) wr.heap.size = some #[.int .i64 yi, .int .u8 (yl : Int), .int .i64 yw] := row?_alloc_at _ _ _ _ rfl
     clear hwf hwr hap hy hc
     go_wp2_with fail
     refine (HAp.out _ (HGk.out.below ((Below.refl _ wr).alloc (Nat.le_refl _) _))).mono ?_
     rintro r w2 ⟨rfl, hG2, hS2⟩
     have HB2 := Lib.hid ((HB.out.alloc hs _).trans (hS2.below (by simp; omega) fun j hj => by omega))
     have HG2 := Lib.hid hG2
     clear hG2 hS2 HAp jl hrt
     go_wp2_with fail
     go_roundw
     case rel => exact ⟨k + 1, by omega, by go_num, HG2.out, HB2.out⟩
     case measure => simp [intOf]; omega
   · have hkn : LV = k := by omega
     subst hkn
     have he0 : G.vPart LV = G.ePart 0 := by simp [Gr.vPart, Gr.ePart, HLV.out]
     rw [he0] at HGk
     clear he0
     go_wp2_with fail
     go_loopw [35] (fun i wr => ∃ k : Nat, k ≤ LE ∧ i = .int .i64 (k : Int) ∧ GOk wr g bV bE (G.ePart k) ∧ Below w.heap.size w wr) (fun i _ => LE - (intOf i).toNat)
     case atStart => exact ⟨0, by omega, rfl, HGk.out, HB.out⟩
     case round =>
       obtain ⟨k, hk, rfl, hGk, hb⟩ := hrel
       have HGk := Lib.hid hGk
       have HB := Lib.hid hb
       have hs := hb.size
       clear hGk hb
       by_cases hlt : k < LE
       · obtain ⟨b, off, c', y, h1, hb, hy, hc⟩ := HE.out.at (by rw [← HLE.out]; exact hlt)
         simp only [Value.slice.injEq] at h1
         obtain ⟨rfl, -, rfl⟩ := h1
         have hwf := eEd_wf HG.out (List.mem_of_getElem? hy)
         have hwr := Gr.e_wrong HG.out hy
         have hap := Gr.e_app HG.out hy
         obtain ⟨⟨yu, yv⟩, yl, yw⟩ := y
         have HAp := Lib.hid fun W (hW : GOk W g bV bE (G.ePart k)) => gapply_any (eEd ((yu, yv), yl, yw)) hwf (.inr rfl) g bV bE (G.ePart k) (Gr.ePart_ok HG.out k) W hW
         rw [hwr, hap, show edC (eEd ((yu, yv), yl, yw)) = #[.int .i64 2, .int .i64 yu, .int .i64 yv, .int .u8 (yl : Int), .int .i64 yw] from rfl] at HAp
         have jl : rowLoad Tryz.prog 134 ⟨b, off + k * 4, none⟩ wr = .ok (.agg #[.int .i64 yu, .int .i64 yv, .int .u8 (yl : Int), .int .i64 yw]) wr := load_cells Tryz.isAgg134 Tryz.sizeOf134 wr b _ _ rfl fun j u hu => hc wr HB.out j u hu
         have hrt : row? (wr.alloc (.cells #[.int .i64 yu, .int .i64 yv, .int .u8 (yl : Int), .int .i64 yw] 134)) wr.heap.size = some #[.int .i64 yu, .int .i64 yv, .int .u8 (yl : Int), .int .i64 yw] := row?_alloc_at _ _ _ _ rfl
         clear hwf hwr hap hy hc
         go_wp2_with fail
         refine (HAp.out _ (HGk.out.below ((Below.refl _ wr).alloc (Nat.le_refl _) _))).mono ?_
         rintro r w2 ⟨rfl, hG2, hS2⟩
         have HB2 := Lib.hid ((HB.out.alloc hs _).trans (hS2.below (by simp; omega) fun j hj => by omega))
         have HG2 := Lib.hid hG2
         clear hG2 hS2 HAp jl hrt
         go_wp2_with fail
         go_roundw
         case rel => exact ⟨k + 1, by omega, by go_num, HG2.out, HB2.out⟩
         case measure => simp [intOf]; omega
       · have hkn : LE = k := by omega
         subst hkn
         have he0 : G.ePart LE = G := by simp [Gr.ePart, HLE.out]
         rw [he0] at HGk
         clear he0
         go_wp2_with fail
         go_ret2
         exact ⟨g, bV, bE, rfl, HGk.out, ⟨hg0, hV0, hE0⟩, HB.out⟩
@[go_sem ↓ high] theorem buildSlice_vX (a b c : Int) (w : World) : (Instr.buildSlice 123 1 #[(0, .agg #[.int .i64 a, .int .u8 b, .int .i64 c])]).run Tryz.prog w = .ok (.slice (some ⟨w.heap.size, 0, none⟩) 1 1) (w.alloc (.cells #[.int .i64 a, .int .u8 b, .int .i64 c] 126)) := by kernel_rfl
@[go_sem ↓ high] theorem buildSlice_eX (a b c d : Int) (w : World) : (Instr.buildSlice 131 1 #[(0, .agg #[.int .i64 a, .int .i64 b, .int .u8 c, .int .i64 d])]).run Tryz.prog w = .ok (.slice (some ⟨w.heap.size, 0, none⟩) 1 1) (w.alloc (.cells #[.int .i64 a, .int .i64 b, .int .u8 c, .int .i64 d] 134)) := by kernel_rfl
theorem from_any (G : Gr) (hG : G.Ok) (vV vE : Value) (w : World) (h : RefG w vV vE G) :
   Calls Tryz.prog 58 #[.agg #[vV, vE]] w fun r w' => ∃ g bV bE, r = .returned (.pointer (some ⟨g, 0, none⟩)) ∧ GOk w' g bV bE G ∧ (w.heap.size ≤ g ∧ w.heap.size ≤ bV ∧ w.heap.size ≤ bE) ∧ Below w.heap.size w w' := by
 obtain ⟨hv, he⟩ := h
 have HV := Lib.hid hv
 have HE := Lib.hid he
 have HG := Lib.hid hG
 have hlV := hG.len
 have hlE := hG.most
 obtain ⟨aV, cV, rfl⟩ := hv.sl
 obtain ⟨aE, cE, rfl⟩ := he.sl
 clear hv he hG
 obtain ⟨LV, hLV⟩ : ∃ LV, LV = G.V.length := ⟨_, rfl⟩
 obtain ⟨LE, hLE⟩ : ∃ LV, LV = G.E.length := ⟨_, rfl⟩
 have HLV := Lib.hid hLV
 have HLE := Lib.hid hLE
 rw [← hLV] at HV hlV ⊢
 rw [← hLE] at HE hlE ⊢
 clear hLV hLE
 go_enter Tryz.func58, Tryz.ntmps58
 go_wp2_with fail
 obtain ⟨W0, hW0⟩ : ∃ W0, W0 = w.alloc (.cells #[.slice aV LV cV, .slice aE LE cE] 42) := ⟨_, rfl⟩
 have r2 : row? W0 w.heap.size = some #[.slice aV LV cV, .slice aE LE cE] := by rw [hW0]; exact row?_alloc_at _ _ _ _ rfl
 have hB0 : Below w.heap.size w W0 := by rw [hW0]; exact (Below.refl _ w).alloc (Nat.le_refl _) _
 have hs0 : w.heap.size < W0.heap.size := by rw [hW0]; simp
 have HR2 := Lib.hid r2
 have HB0 := Lib.hid hB0
 rw [← hW0]
 clear hW0 r2 hB0
 go_loopw [3, 5] (fun vv i wr => ∃ k : Nat, k ≤ LV ∧ i = .int .i64 (k : Int) ∧ OwnV W0.heap.size wr vv (G.V.take k) ∧ Below W0.heap.size W0 wr) (fun _ i _ => LV - (intOf i).toNat)
 case atStart => exact ⟨0, by omega, rfl, OwnR.nil _ _, Below.refl _ _⟩
 case round =>
   obtain ⟨k, hk, rfl, hO, hb⟩ := hrel
   have HO := Lib.hid hO
   have HB := Lib.hid hb
   have HBw := Lib.hid (HB0.out.trans (hb.mono HB0.out.size))
   have hs := hb.size
   have hr2 := (row?_below hb hs0).trans HR2.out
   have k20 := cell?_row (i := 0) hr2
   have k21 := cell?_row (i := 1) hr2
   simp at k20 k21
   obtain ⟨qa, ca, rfl⟩ := hO.sl
   clear hO hb
   by_cases hlt : k < LV
   · obtain ⟨b, off, c', y, h1, hb, hy, hc⟩ := HV.out.at (by rw [← HLV.out]; exact hlt)
     simp only [Value.slice.injEq] at h1
     obtain ⟨rfl, -, rfl⟩ := h1
     obtain ⟨yi, yl, yw⟩ := y
     have hll : (G.V.take k).length = k := by rw [List.length_take, ← HLV.out]; omega
     have hac := take_snoc hy
     obtain ⟨acc, ha⟩ : ∃ acc, acc = G.V.take k := ⟨_, rfl⟩
     rw [← ha] at HO hll hac ⊢
     have HAC := Lib.hid hac
     have jl : rowLoad Tryz.prog 136 ⟨b, off + k * 3, none⟩ wr = .ok (.agg #[.int .i64 yi, .int .u8 (yl : Int), .int .i64 yw]) wr := load_cells Tryz.isAgg136 Tryz.sizeOf136 wr b _ _ rfl fun j u hu => hc wr HBw.out j u hu
     clear ha hac hy hc
     go_wp2_with (at_builtin; refine wpList_appO elV 123 Tryz.underlying123 rfl _ _ rfl W0.heap.size _ acc rfl (HO.out.below (C := wr.heap.size) ((Below.refl _ wr).alloc (Nat.le_refl _) _) (Nat.le_refl _)) wr.heap.size (yi, yl, yw) _ rfl (row?_alloc_at _ _ _ _ rfl) (by omega) (by simp; omega) ?_)
     intro v5 w5 hO5 hb5 hg5 hl5
     obtain ⟨q5, c5, rfl⟩ := hO5.sl
     have HO5 := Lib.hid hO5
     have HB5 := Lib.hid ((HB.out.alloc hs _).trans hb5)
     clear hO5 hb5 hg5 hl5 jl hr2
     go_wp2_with fail
     go_roundw
     case rel => exact ⟨k + 1, by omega, by go_num, by rw [HAC.out]; exact HO5.out, HB5.out⟩
     case measure => simp [intOf]; omega
   · have hkn : LV = k := by omega
     subst hkn
     rw [show G.V.take LV = G.V by rw [HLV.out, List.take_length]] at HO ⊢
     rw [← HLV.out]
     go_wp2_with fail
     obtain ⟨W1, hW1⟩ : ∃ W1, W1 = wr := ⟨_, rfl⟩
     rw [← hW1] at HO HB HBw hr2 hs ⊢
     clear hW1 k20 k21
     have HR2 := Lib.hid hr2
     clear hr2
     go_loopw [4, 6] (fun vv i wr => ∃ k : Nat, k ≤ LE ∧ i = .int .i64 (k : Int) ∧ OwnE W1.heap.size wr vv (G.E.take k) ∧ Below W1.heap.size W1 wr) (fun _ i _ => LE - (intOf i).toNat)
     case atStart => exact ⟨0, by omega, rfl, OwnR.nil _ _, Below.refl _ _⟩
     case round =>
       obtain ⟨k, hk, rfl, hO2, hb⟩ := hrel
       have HO2 := Lib.hid hO2
       have HB2 := Lib.hid hb
       have HBw2 := Lib.hid (HBw.out.trans (hb.mono HBw.out.size))
       have hs2 := hb.size
       have hr2 := (row?_below hb (by omega)).trans HR2.out
       have k21 := cell?_row (i := 1) hr2
       simp at k21
       obtain ⟨qb, cb, rfl⟩ := hO2.sl
       clear hO2 hb
       by_cases hlt : k < LE
       · obtain ⟨b, off, c', y, h1, hb, hy, hc⟩ := HE.out.at (by rw [← HLE.out]; exact hlt)
         simp only [Value.slice.injEq] at h1
         obtain ⟨rfl, -, rfl⟩ := h1
         obtain ⟨⟨yu, yv⟩, yl, yw⟩ := y
         have hll : (G.E.take k).length = k := by rw [List.length_take, ← HLE.out]; omega
         have hac := take_snoc hy
         obtain ⟨acc, ha⟩ : ∃ acc, acc = G.E.take k := ⟨_, rfl⟩
         rw [← ha] at HO2 hll hac ⊢
         have HAC := Lib.hid hac
         have jl : rowLoad Tryz.prog 137 ⟨b, off + k * 4, none⟩ wr = .ok (.agg #[.int .i64 yu, .int .i64 yv, .int .u8 (yl : Int), .int .i64 yw]) wr := load_cells Tryz.isAgg137 Tryz.sizeOf137 wr b _ _ rfl fun j u hu => hc wr HBw2.out j u hu
         clear ha hac hy hc
         go_wp2_with (at_builtin; refine wpList_appO elE 131 Tryz.underlying131 rfl _ _ rfl W1.heap.size _ acc rfl (HO2.out.below (C := wr.heap.size) ((Below.refl _ wr).alloc (Nat.le_refl _) _) (Nat.le_refl _)) wr.heap.size ((yu, yv), yl, yw) _ rfl (row?_alloc_at _ _ _ _ rfl) (by omega) (by simp; omega) ?_)
         intro v5 w5 hO5 hb5 hg5 hl5
         obtain ⟨q5, c5, rfl⟩ := hO5.sl
         have HO5 := Lib.hid hO5
         have HB5 := Lib.hid ((HB2.out.alloc hs2 _).trans hb5)
         clear hO5 hb5 hg5 hl5 jl hr2
         go_wp2_with fail
         go_roundw
         case rel => exact ⟨k + 1, by omega, by go_num, by rw [HAC.out]; exact HO5.out, HB5.out⟩
         case measure => simp [intOf]; omega
       · have hkn : LE = k := by omega
         subst hkn
         rw [show G.E.take LE = G.E by rw [HLE.out, List.take_length]] at HO2 ⊢
         have HBu := Lib.hid (gbuild_any G HG.out _ _ wr ((HO.out.below HB2.out (Nat.le_refl _)).rd elV) (HO2.out.rd elE))
         rw [← HLV.out] at HBu
         clear hr2
         go_wp2_with fail
         refine HBu.out.mono ?_
         rintro r w7 ⟨g, bV, bE, rfl, hG7, ⟨hg0, hV0, hE0⟩, hb7⟩
         have HG7 := Lib.hid hG7
         have HB7 := Lib.hid (HBw2.out.trans (hb7.mono HBw2.out.size))
         clear hG7 hb7 HBu
         go_wp2_with fail
         go_ret
         exact ⟨g, bV, bE, rfl, HG7.out, ⟨by omega, by omega, by omega⟩, HB7.out⟩
end Go.Proofs.YtglnhnjmelilmaaGreatDoor
