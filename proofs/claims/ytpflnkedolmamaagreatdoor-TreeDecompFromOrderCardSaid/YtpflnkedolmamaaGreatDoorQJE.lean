/-
  Walks of the law's own graphs: Made (edits carried out), From with graph.Build (never nil).
-/
import Derived.Test.YtpflnkedolmamaaGreatDoorQHE
import Derived.Test.YtpflnkedolmamaaGreatDoorQJA
import Derived.Test.YtpflnkedolmamaaGreatDoorQGrH
import Derived.Test.YtpflnkedolmamaaGreatDoorQMix3
namespace Go.Proofs.YtpflnkedolmamaaGreatDoor
open Go Go.RowKit Go.Pal
attribute [local go_sem] Oper.semAt_some

@[go_sem ↓ high] theorem loadED (a : Addr) : loadVar 95 a = loadLater 95 a := rfl
@[go_sem] theorem loadED_run (w : World) (a : Addr) : (loadLater 95 a).run Tryz.prog w = rowLoad Tryz.prog 95 a w := rfl
theorem rd_setRow {α : Type} {enc : α → Array Value} {k : Nat} (h0 : ∀ x, ∃ n, (enc x)[0]? = some (.int .i64 n)) {w : World} {v : Value} {xs : List α} (h : Rd enc k w.heap.size w v xs) {g : Nat} {a a' : Option Addr} {n c n' c' : Nat} (hg : row? w g = some #[.slice a n c, .slice a' n' c']) (d : Array Value) : Rd enc k (w.setRow g d).heap.size (w.setRow g d) v xs := by
  obtain ⟨q, cq, hv, h⟩ := h
  refine ⟨q, cq, hv, h.imp id ?_⟩
  rintro ⟨b, off, ha, hb, hc⟩
  by_cases hx : xs = []
  · subst hx
    exact ⟨b, off, ha, by simpa using hb, fun i x hi => by simp at hi⟩
  have hbg : b ≠ g := fun e => by
    subst e
    obtain ⟨x, r, rfl⟩ : ∃ x r, xs = x :: r := by
      cases xs with
      | nil => exact absurd rfl hx
      | cons x r => exact ⟨x, r, rfl⟩
    obtain ⟨n0, hn0⟩ := h0 x
    have h1 := hc 0 x rfl 0 _ hn0
    rw [show off + 0 * k + 0 = off by omega] at h1
    have h2 := cell?_row (i := off) hg
    rw [h1] at h2
    match off, h2 with
    | 0, h2 => simp at h2
    | 1, h2 => simp at h2
    | m + 2, h2 => simp at h2
  refine ⟨b, off, ha, by simpa using hb, fun i x hi j u hu => ?_⟩
  rw [← hc i x hi j u hu]
  have := setRow_other w g b d hbg
  unfold World.cell?
  rw [this]

set_option maxRecDepth 10000 in
set_option maxHeartbeats 4000000 in
theorem made_any (es : List Ed) (hes : ∀ e ∈ es, e.Wf) (v : Value) (w : World) (hv : Rd edC 5 w.heap.size w v es) (hlen : es.length ≤ 60) :
    Calls Tryz.prog 61 #[v] w fun r w' => ∃ vV vE, r = .returned (.agg #[vV, vE]) ∧ RefG w' vV vE (madeTo es es.length) ∧ Below w.heap.size w w' := by
  have HV := Lib.hid hv
  have HW := Lib.hid hes
  obtain ⟨a, c, rfl⟩ := hv.sl
  clear hv hes
  go_enter Tryz.func61, Tryz.ntmps61
  go_wp2_with fail
  generalize hW0 : World.alloc (World.alloc w _) _ = W0
  have r2 : row? W0 w.heap.size = some #[.slice none 0 0, .slice none 0 0] := by rw [← hW0]; simp [go_sem]
  have r3 : row? W0 (w.heap.size + 1) = some #[.slice none 0 0, .slice none 0 0] := by rw [← hW0]; simp [go_sem]
  have hB0 : Below w.heap.size w W0 := by
    rw [← hW0]
    (repeat' (first | (with_reducible exact Below.refl _ _) | (with_reducible assumption) | (with_reducible refine Below.alloc ?_ ?_ _) | (with_reducible refine Below.drew ?_) | (with_reducible refine Below.setCell ?_ ?_ _) | (with_reducible refine below_setRow ?_ ?_ _) | (with_reducible exact Nat.le_refl _) | omega | (simp; done) | (simp; omega) | (simp at *; omega)))
  have hs0 : w.heap.size + 2 ≤ W0.heap.size := by rw [← hW0]; simp
  have HR2 := Lib.hid r2
  have HR3 := Lib.hid r3
  have HB0 := Lib.hid hB0
  clear hW0 r2 r3 hB0
  go_loopw [4] (fun i wr => ∃ k : Nat, k ≤ es.length ∧ i = .int .i64 (k : Int) ∧ (∃ vV vE, row? wr (w.heap.size + 1) = some #[vV, vE] ∧ RefG wr vV vE (madeTo es k)) ∧ Same (fun j => j < W0.heap.size ∧ j ≠ w.heap.size + 1) W0 wr) (fun i _ => es.length - (intOf i).toNat)
  case atStart => exact ⟨0, by omega, rfl, ⟨_, _, HR3.out, ⟨none, 0, rfl, .inl rfl⟩, ⟨none, 0, rfl, .inl rfl⟩⟩, Same.refl _ _⟩
  case round =>
    obtain ⟨k, hk, rfl, ⟨vV, vE, hr, hRG⟩, hS⟩ := hrel
    have hs := hS.size
    have HBR := Lib.hid (HB0.out.trans (hS.below (by omega) fun j hj => ⟨by omega, by omega⟩))
    have HR := Lib.hid hr
    have HRG := Lib.hid hRG
    have HS := Lib.hid hS
    clear hr hRG hS
    by_cases hlt : k < es.length
    · obtain ⟨b, off, c', e, h1, hb, hx, hc⟩ := HV.out.at hlt
      simp only [Value.slice.injEq] at h1
      obtain ⟨rfl, -, rfl⟩ := h1
      have hlt60 : (k : Int) < 60 := by omega
      have hG := madeTo_ok HW.out k
      have HL := Lib.hid fun W (hw : Below wr.heap.size wr W) => (⟨load_cells Tryz.isAgg95 Tryz.sizeOf95 W b _ (edC e) rfl fun j u hu => hc W (HBR.out.trans (hw.mono HBR.out.size)) j u hu, (row?_below hw (by omega)).trans HR.out⟩ : rowLoad Tryz.prog 95 ⟨b, off + k * 5, none⟩ W = .ok (.agg (edC e)) W ∧ row? W (w.heap.size + 1) = some #[vV, vE])
      have HDo := Lib.hid fun W (hw : Below wr.heap.size wr W) => rdo_any e (HW.out e (List.mem_of_getElem? hx)) (madeTo es k) hG vV vE W (RefG.below HRG.out hw)
      have HX := Lib.hid hx
      clear hc hx hG hb
      go_wp2_with fail
      refine wp_region_mix1 (fun W => Below wr.heap.size wr W) 7 [(0, true), (1, true), (2, true), (3, true), (4, true), (5, false), (6, true)] (.two 7 8 (.two 8 9 (.one 9 .done) (.one 8 .done)) (.one 7 (.one 9 .done))) (by kernel_rfl) (by kernel_rfl) (Below.refl _ _).drew ?_
      repeat (apply wpPlan_still rfl rfl; (intro w hw; obtain ⟨k1, k2⟩ := HL.out _ hw; clear hw; go_simp; (try go_ints); (first | with_reducible rfl | (go_simp; with_reducible rfl))); (intro K hK; go_simp; (try go_ints); refine hK _ _ ?_; clear hK K))
      apply wpPlan_act rfl rfl
      intro K hK
      unfold Oper.wp
      go_simp
      refine (HDo.out _ (Below.refl _ _).drew).mono ?_
      rintro r w2 ⟨vV', vE', rfl, hRG2, hb2⟩
      have hb2' : Below wr.heap.size wr w2 := (Below.refl _ wr).drew.trans hb2
      refine hK _ _ hb2' ?_
      clear hK K
      have HB2 := Lib.hid hb2'
      have HRG2 := Lib.hid hRG2
      have hr2 := (HL.out _ hb2').2
      clear hb2 hb2' hRG2
      repeat (apply wpPlan_still rfl rfl; (intro w hw; clear hw; go_simp; (try go_ints); (first | with_reducible rfl | (go_simp; with_reducible rfl))); (intro K hK; go_simp; (try go_ints); refine hK _ _ ?_; clear hK K))
      refine wpPlan_nil ?_
      obtain ⟨aV, cV, hvV⟩ := HRG.out.1.sl
      obtain ⟨aE, cE, hvE⟩ := HRG.out.2.sl
      obtain ⟨aV2, cV2, hvV2⟩ := HRG2.out.1.sl
      obtain ⟨aE2, cE2, hvE2⟩ := HRG2.out.2.sl
      subst hvV hvE hvV2 hvE2
      have hrg := HRG2.out
      rw [← madeTo_succ HX.out] at hrg ⊢
      obtain ⟨GN, hGN⟩ : ∃ GN, GN = madeTo es (k + 1) := ⟨_, rfl⟩
      rw [← hGN] at hrg ⊢
      obtain ⟨nV, hnV⟩ : ∃ nV, nV = GN.V.length := ⟨_, rfl⟩
      obtain ⟨nE, hnE⟩ : ∃ nE, nE = GN.E.length := ⟨_, rfl⟩
      rw [← hnV, ← hnE] at hrg ⊢
      have HRow := Lib.hid (row?_setRow_same w2 (w.heap.size + 1) #[.slice aV2 nV cV2, .slice aE2 nE cE2] (by rw [hr2]; rfl))
      have HRGn : Hid (RefG (w2.setRow (w.heap.size + 1) #[.slice aV2 nV cV2, .slice aE2 nE cE2]) (.slice aV2 nV cV2) (.slice aE2 nE cE2) (madeTo es (k + 1))) := Lib.hid (by rw [← hGN]; exact ⟨rd_setRow (fun x => ⟨_, rfl⟩) hrg.1 hr2 _, rd_setRow (fun x => ⟨_, rfl⟩) hrg.2 hr2 _⟩)
      have HSn : Hid (Same (fun j => j < W0.heap.size ∧ j ≠ w.heap.size + 1) W0 (w2.setRow (w.heap.size + 1) #[.slice aV2 nV cV2, .slice aE2 nE cE2])) := Lib.hid (HS.out.trans (((Same.of_below HB2.out).mono fun j hj _ => hj).trans (Same.setRow _ _ _ _ (by simp))))
      clear hrg hGN hnV hnE HRG2 HRG HDo HL
      refine wpTail_two ?_ ?_
      · apply wpTail_one rfl rfl
        intro K hK
        unfold Oper.wp
        go_simp
        refine hK _ _ ?_
        clear hK K
        refine wpTail_two ?_ ?_
        · apply wpTail_one rfl rfl
          intro K hK
          unfold Oper.wp
          go_simp
          refine hK _ _ ?_
          clear hK K
          apply wpTail_one rfl rfl
          intro K hK
          unfold Oper.wp
          go_simp
          refine hK _ _ ?_
          clear hK K
          refine wpTail_done ?_
          go_wp2_with fail
          go_roundw
          case rel => exact ⟨k + 1, by omega, by go_num, ⟨_, _, HRow.out, HRGn.out⟩, HSn.out⟩
          case measure => simp [intOf]; omega
        · apply wpTail_one rfl rfl
          intro K hK
          unfold Oper.wp
          go_simp
          refine hK _ _ ?_
          clear hK K
          apply wpTail_one rfl rfl
          intro K hK
          unfold Oper.wp
          go_simp
          refine hK _ _ ?_
          clear hK K
          refine wpTail_done ?_
          go_wp2_with fail
          go_roundw
          case rel => exact ⟨k + 1, by omega, by go_num, ⟨_, _, HRow.out, HRGn.out⟩, HSn.out⟩
          case measure => simp [intOf]; omega
      · apply wpTail_one rfl rfl
        intro K hK
        unfold Oper.wp
        go_simp
        refine hK _ _ ?_
        clear hK K
        apply wpTail_one rfl rfl
        intro K hK
        unfold Oper.wp
        go_simp
        refine hK _ _ ?_
        clear hK K
        apply wpTail_one rfl rfl
        intro K hK
        unfold Oper.wp
        go_simp
        refine hK _ _ ?_
        clear hK K
        refine wpTail_done ?_
        go_wp2_with fail
        go_roundw
        case rel => exact ⟨k + 1, by omega, by go_num, ⟨_, _, HRow.out, HRGn.out⟩, HSn.out⟩
        case measure => simp [intOf]; omega
    · have hkn : es.length = k := by omega
      subst hkn
      obtain ⟨aV, cV, hvV⟩ := HRG.out.1.sl
      obtain ⟨aE, cE, hvE⟩ := HRG.out.2.sl
      subst hvV
      subst hvE
      have r4 := (row?_congr (HS.out.block w.heap.size (by omega) ⟨by omega, by omega⟩)).trans HR2.out
      have hr := HR.out
      go_wp2_with fail
      refine ret_row w.heap.size #[.slice aV _ cV, .slice aE _ cE] rfl Tryz.isAgg44 Tryz.sizeOf44 rfl rfl (row?_setRow_same _ _ _ (by rw [r4]; rfl)) rfl ⟨_, _, rfl, ?_, below_setRow HBR.out (by omega) _⟩
      exact ⟨rd_setRow (fun x => ⟨_, rfl⟩) HRG.out.1 r4 _, rd_setRow (fun x => ⟨_, rfl⟩) HRG.out.2 r4 _⟩
end Go.Proofs.YtpflnkedolmamaaGreatDoor
