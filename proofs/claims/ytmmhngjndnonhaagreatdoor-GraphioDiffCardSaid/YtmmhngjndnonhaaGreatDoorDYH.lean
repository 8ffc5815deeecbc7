/-
  Walk: the reference's graph of a graph (To).
-/
import Derived.Test.YtmmhngjndnonhaaGreatDoorDYF
set_option linter.unusedSimpArgs false
set_option linter.unusedVariables false
namespace Go.Proofs.YtmmhngjndnonhaaGreatDoor
open Go Go.RowKit Go.Pal
attribute [local go_sem] Oper.semAt_some

theorem own_ne2 {α β : Type} {e e' : TypeId} {k k' : Nat} {enc : α → Array Value} {enc' : β → Array Value} {B B' : Nat} {w : World} {v v' : Value} {l : List α} {l' : List β} (h : OwnR e k enc B w v l) (h' : OwnR e' k' enc' B' w v' l') (he : e ≠ e') : ∀ j, v.ownBlock = some j → v'.ownBlock ≠ some j := by
  intro j hj hj'
  rcases h.2 with ⟨rfl, -⟩ | ⟨a, b, d, rfl, -, h2, -⟩
  · cases hj
  · rcases h'.2 with ⟨rfl, -⟩ | ⟨a', b', d', rfl, -, h4, -⟩
    · cases hj'
    · have e1 : a = j := Option.some.inj hj
      have e2 : a' = j := Option.some.inj hj'
      rw [e1] at h2
      rw [e2, h2] at h4
      simp only [Option.some.injEq, Obj.cells.injEq] at h4
      exact he h4.2.1
set_option maxRecDepth 10000 in
set_option maxHeartbeats 4000000 in
theorem to_any (g bV bE : Nat) (G : Gr) (hG : G.Ok) (w : World) (h : GOk w g bV bE G) :
    Calls Tryz.prog 16 #[.pointer (some ⟨g, 0, none⟩)] w fun r w' => ∃ vV vE, r = .returned (.agg #[vV, vE]) ∧ RefG w' vV vE G ∧ Below w.heap.size w w' := by
  have H0 := Lib.hid h
  have HG := Lib.hid hG
  have hl := hG.len
  have hm := hG.most
  obtain ⟨LV, hLV⟩ : ∃ n, n = G.V.length := ⟨_, rfl⟩
  obtain ⟨LE, hLE⟩ : ∃ n, n = G.E.length := ⟨_, rfl⟩
  have HLV := Lib.hid hLV
  have HLE := Lib.hid hLE
  rw [← hLV] at hl
  rw [← hLE] at hm
  clear h hG hLV hLE
  go_enter Tryz.func16, Tryz.ntmps16
  go_wp2_with fail
  generalize hW0 : World.alloc (World.alloc w _) _ = W0
  have r2 : row? W0 w.heap.size = some #[.slice none 0 0, .slice none 0 0] := by rw [← hW0]; simp [go_sem]
  have r3 : row? W0 (w.heap.size + 1) = some #[.slice none 0 0, .slice none 0 0] := by rw [← hW0]; simp [go_sem]
  have hB0 : Below w.heap.size w W0 := by
    rw [← hW0]
    (repeat' (first | (with_reducible exact Below.refl _ _) | (with_reducible assumption) | (with_reducible refine Below.alloc ?_ ?_ _) | (with_reducible refine Below.drew ?_) | (with_reducible refine Below.setCell ?_ ?_ _) | (with_reducible refine below_setRow ?_ ?_ _) | (with_reducible exact Nat.le_refl _) | omega | (simp; done) | (simp; omega) | (simp at *; omega)))
  have hs0 : w.heap.size + 2 ≤ W0.heap.size := by rw [← hW0]; simp
  have HB0 := Lib.hid hB0
  have HR2 := Lib.hid r2
  have HR3 := Lib.hid r3
  clear hW0 r2 r3 hB0
  refine (gvertices_any g bV bE G HG.out W0 (H0.out.below HB0.out)).mono ?_
  rintro r w1 ⟨vv, rfl, hOV, hb1⟩
  have HB1 := Lib.hid hb1
  have hs1 := hb1.size
  obtain ⟨qa, ca, rfl⟩ := hOV.sl
  have HV1 := Lib.hid hOV
  clear hOV hb1
  go_wp2_with fail
  refine (gedges_any g bV bE G HG.out w1 (H0.out.below (HB0.out.trans (HB1.out.mono (by omega))))).mono ?_
  rintro r w2 ⟨ve, rfl, hOE, hb2⟩
  have hs2 := hb2.size
  obtain ⟨qe, ce, rfl⟩ := hOE.sl
  have HB2 := Lib.hid (HB1.out.trans (hb2.mono hs1))
  have HVr := Lib.hid ((HV1.out.below hb2 (Nat.le_refl _)).rd elV)
  have HEr := Lib.hid (hOE.rd elE)
  have hqa : ∀ a, qa = some a → w.heap.size + 2 ≤ a.block := fun a ha => by have := HV1.out.block a.block (by rw [ha]; rfl); omega
  have hqe : ∀ a, qe = some a → w.heap.size + 2 ≤ a.block := fun a ha => by have := hOE.block a.block (by rw [ha]; rfl); omega
  have r2 := (row?_below HB2.out (by omega)).trans HR2.out
  have r3 := (row?_below HB2.out (by omega)).trans HR3.out
  have HQa := Lib.hid hqa
  have HQe := Lib.hid hqe
  have HR22 := Lib.hid r2
  have HR32 := Lib.hid r3
  have HBw := Lib.hid (HB0.out.trans (HB2.out.mono (by omega)))
  rw [← HLV.out] at HVr ⊢
  rw [← HLE.out] at HEr ⊢
  clear hOE hb2 hqa hqe r2 r3 HV1 HB1 HB2 HR2 HR3
  go_wp2_with fail
  go_loopw [6] (fun i wr => ∃ k : Nat, k ≤ LV ∧ i = .int .i64 (k : Int) ∧ (∃ vo, row? wr (w.heap.size + 1) = some #[vo, .slice none 0 0] ∧ OwnR 105 3 vtxA w2.heap.size wr vo (G.V.take k)) ∧ Same (fun j => j < w2.heap.size ∧ j ≠ w.heap.size + 1) w2 wr) (fun i _ => LV - (intOf i).toNat)
  case atStart => exact ⟨0, by omega, rfl, ⟨_, HR32.out, OwnR.nil _ _⟩, Same.refl _ _⟩
  case round =>
    obtain ⟨k, hk, rfl, ⟨vo, hr, hO⟩, hS⟩ := hrel
    obtain ⟨acc, hacc⟩ : ∃ acc, acc = G.V.take k := ⟨_, rfl⟩
    rw [← hacc] at hO
    have HACC := Lib.hid hacc
    have hal : acc.length ≤ 1024 := by rw [hacc, List.length_take]; omega
    obtain ⟨qo, co, rfl⟩ := hO.sl
    have hsz := hS.size
    have HO := Lib.hid hO
    have HR := Lib.hid hr
    have HS := Lib.hid hS
    have k0 := cell?_row (i := 0) hr
    simp at k0
    clear hacc hr hS hO
    by_cases hlt : k < LV
    · obtain ⟨b, off, c', x, h1, hbb, hx, hc⟩ := (HVr).out.at (by rw [← (HLV).out]; exact hlt)
      simp only [Value.slice.injEq] at h1
      obtain ⟨rfl, -, rfl⟩ := h1
      obtain ⟨xi, xl, xw⟩ := x
      have HST : Hid (G.V.take (k + 1) = acc ++ [(xi, xl, xw)]) := Lib.hid (by rw [take_snoc hx, ← HACC.out])
      have hbg : b ≠ w.heap.size + 1 := by have := (HQa).out ⟨b, off, none⟩ rfl; simp only at this; omega
      have HJ := Lib.hid fun W (hW : W.heap[b]? = w2.heap[b]?) => show rowLoad Tryz.prog 92 ⟨b, off + k * 3, none⟩ W = .ok (.agg #[.int .i64 xi, .int .u8 (xl : Int), .int .i64 xw]) W from load_cells Tryz.isAgg92 Tryz.sizeOf92 W b _ _ rfl fun j u hu => (World.cell?_of_block hW).trans (hc w2 (Below.refl _ _) j u hu)
      have hbr := HS.out.block b hbb ⟨hbb, hbg⟩
      clear hx hc
      go_wp2_with fail
      refine wp_region_mix (fun W => W.cell? ⟨w.heap.size + 1, 0, none⟩ = some (.slice qo acc.length co) ∧ rowLoad Tryz.prog 92 ⟨b, off + k * 3, none⟩ W = .ok (.agg #[.int .i64 xi, .int .u8 (xl : Int), .int .i64 xw]) W) 9 [(0, true), (1, true), (2, true), (3, true), (4, true), (5, true), (6, false), (7, false), (8, true)] (by kernel_rfl) (by kernel_rfl) ⟨k0, HJ.out _ hbr⟩ ?_
      repeat (apply wpPlan_still rfl rfl; (intro w hw; obtain ⟨k1, k2⟩ := hw; go_simp; (try go_ints); (first | with_reducible rfl | (go_simp; with_reducible rfl))); (intro K hK; go_simp; (try go_ints); refine hK _ _ ?_; clear hK K))
      apply wpPlan_act rfl rfl
      intro K hK
      unfold Oper.wp
      go_simp
      have hsR := row?_lt HR.out
      have hbw : b < wr.heap.size := Nat.lt_of_lt_of_le hbb hsz
      refine hK _ _ ⟨(((Below.refl _ wr).drew.alloc (Nat.le_refl _) _).cell (p := ⟨w.heap.size + 1, 0, none⟩) hsR).trans k0, HJ.out _ ((Below.heap_alloc _ _ _ hbw).trans hbr)⟩ ?_
      clear hK K
      apply wpPlan_act rfl rfl
      intro K hK
      refine wp_appO elRV 24 Tryz.underlying24 _ _ rfl w2.heap.size _ acc rfl (HO.out.below (C := wr.heap.size) ((Below.refl _ wr).drew.alloc (Nat.le_refl _) _) (Nat.le_refl _)) _ (xi, xl, xw) _ rfl (row?_alloc_at _ _ _ _ (by simp)) (by omega) (by simp; omega) ?_
      intro v4 w4 hO4 hb4 hg4 hl4
      have hne9 : some (w.heap.size + 1) ≠ (Value.slice qo acc.length co).ownBlock := fun e => by have := HO.out.block _ e.symm; omega
      have hr4 : row? w4 (w.heap.size + 1) = some #[.slice qo acc.length co, .slice none 0 0] := (row?_congr ((hg4.block (w.heap.size + 1) (by simp; omega) hne9).trans (Below.heap_alloc _ _ _ (by show w.heap.size + 1 < wr.heap.size; omega)))).trans HR.out
      have hs4 : wr.heap.size ≤ w4.heap.size := by have := hb4.size; simp at this; omega
      have hS4 : Same (fun j => j < w2.heap.size ∧ j ≠ w.heap.size + 1) w2 w4 := HS.out.trans ⟨hb4.os, hb4.tape, hb4.output, hs4, fun j hj h => (hb4.block j h.1).trans (Below.heap_alloc _ _ _ (by show j < wr.heap.size; omega))⟩
      refine hK _ _ ⟨(cell?_row (i := 0) hr4).trans rfl, HJ.out _ (hS4.block b hbb ⟨hbb, hbg⟩)⟩ ?_
      clear hK K
      repeat (apply wpPlan_still rfl rfl; (intro w hw; clear hw; go_simp; (try go_ints); (first | with_reducible rfl | (go_simp; with_reducible rfl))); (intro K hK; go_simp; (try go_ints); refine hK _ _ ?_; clear hK K))
      have hfz4 := frozen?_row (i := 0) hr4
      have hlt4 := row?_lt hr4
      have k4 := cell?_row (i := 0) hr4
      simp at k4
      obtain ⟨q4, c4, rfl⟩ := hO4.sl
      simp only [List.length_append, List.length_cons, List.length_nil, Nat.zero_add] at hO4 ⊢
      have HO4 := Lib.hid hO4
      have HR4 := Lib.hid hr4
      have HS4 := Lib.hid hS4
      clear hO4 hb4 hg4 hl4 hr4 hS4 hne9 k0 hbr
      refine wpPlan_nil ?_
      simp only [List.drop_succ_cons, List.drop_zero]
      go_wp2_with fail
      go_roundw
      case rel =>
        refine ⟨k + 1, by omega, by go_num, ⟨_, by rw [row?_setCell_same, HR4.out]; rfl, ?_⟩, ?_⟩
        · rw [HST.out]
          exact HO4.out.same fun j hj => heap_setCell_other _ _ j _ (by have := HO4.out.block j hj; show j ≠ w.heap.size + 1; omega)
        · exact HS4.out.trans (Same.setCell _ _ _ _ (by show ¬ (w.heap.size + 1 < w2.heap.size ∧ w.heap.size + 1 ≠ w.heap.size + 1); omega))
      case measure => simp [intOf]; omega
    · have hkn : LV = k := by omega
      subst hkn
      have hacc2 : acc = G.V := by rw [HACC.out, HLV.out, List.take_length]
      subst hacc2
      obtain ⟨wo, rfl⟩ : ∃ W : World, W = wr := ⟨_, rfl⟩
      have HOV := HO
      have HRo := HR
      have HSo := HS
      go_wp2_with fail
      clear k0
      go_loopw [7] (fun i wr => ∃ k : Nat, k ≤ LE ∧ i = .int .i64 (k : Int) ∧ (∃ vo, row? wr (w.heap.size + 1) = some #[.slice qo G.V.length co, vo] ∧ OwnR 106 4 edgA w2.heap.size wr vo (G.E.take k) ∧ OwnR 105 3 vtxA w2.heap.size wr (.slice qo G.V.length co) G.V) ∧ Same (fun j => j < w2.heap.size ∧ j ≠ w.heap.size + 1) w2 wr) (fun i _ => LE - (intOf i).toNat)
      case atStart => exact ⟨0, by omega, rfl, ⟨_, HRo.out, OwnR.nil _ _, HOV.out⟩, HSo.out⟩
      case round =>
        clear HO HR HS HOV HRo HSo hsz HACC
        obtain ⟨k, hk, rfl, ⟨vo, hr, hO, hOV⟩, hS⟩ := hrel
        have HOV := Lib.hid hOV
        clear hOV
        obtain ⟨acc, hacc⟩ : ∃ acc, acc = G.E.take k := ⟨_, rfl⟩
        rw [← hacc] at hO
        have HACC := Lib.hid hacc
        have hal : acc.length ≤ 1024 := by rw [hacc, List.length_take]; omega
        obtain ⟨qf, cf, rfl⟩ := hO.sl
        have hsz := hS.size
        have HO := Lib.hid hO
        have HR := Lib.hid hr
        have HS := Lib.hid hS
        have k0 := cell?_row (i := 1) hr
        simp at k0
        clear hacc hr hS hO
        by_cases hlt : k < LE
        · obtain ⟨b, off, c', x, h1, hbb, hx, hc⟩ := (HEr).out.at (by rw [← (HLE).out]; exact hlt)
          simp only [Value.slice.injEq] at h1
          obtain ⟨rfl, -, rfl⟩ := h1
          obtain ⟨⟨xu, xv⟩, xl, xw⟩ := x
          have HST : Hid (G.E.take (k + 1) = acc ++ [((xu, xv), xl, xw)]) := Lib.hid (by rw [take_snoc hx, ← HACC.out])
          have hbg : b ≠ w.heap.size + 1 := by have := (HQe).out ⟨b, off, none⟩ rfl; simp only at this; omega
          have HJ := Lib.hid fun W (hW : W.heap[b]? = w2.heap[b]?) => show rowLoad Tryz.prog 98 ⟨b, off + k * 4, none⟩ W = .ok (.agg #[.int .i64 xu, .int .i64 xv, .int .u8 (xl : Int), .int .i64 xw]) W from load_cells Tryz.isAgg98 Tryz.sizeOf98 W b _ _ rfl fun j u hu => (World.cell?_of_block hW).trans (hc w2 (Below.refl _ _) j u hu)
          have hbr := HS.out.block b hbb ⟨hbb, hbg⟩
          clear hx hc
          go_wp2_with fail
          refine wp_region_mix (fun W => W.cell? ⟨w.heap.size + 1, 1, none⟩ = some (.slice qf acc.length cf) ∧ rowLoad Tryz.prog 98 ⟨b, off + k * 4, none⟩ W = .ok (.agg #[.int .i64 xu, .int .i64 xv, .int .u8 (xl : Int), .int .i64 xw]) W) 9 [(0, true), (1, true), (2, true), (3, true), (4, true), (5, true), (6, false), (7, false), (8, true)] (by kernel_rfl) (by kernel_rfl) ⟨k0, HJ.out _ hbr⟩ ?_
          repeat (apply wpPlan_still rfl rfl; (intro w hw; obtain ⟨k1, k2⟩ := hw; go_simp; (try go_ints); (first | with_reducible rfl | (go_simp; with_reducible rfl))); (intro K hK; go_simp; (try go_ints); refine hK _ _ ?_; clear hK K))
          apply wpPlan_act rfl rfl
          intro K hK
          unfold Oper.wp
          go_simp
          have hsR := row?_lt HR.out
          have hbw : b < wr.heap.size := Nat.lt_of_lt_of_le hbb hsz
          refine hK _ _ ⟨(((Below.refl _ wr).drew.alloc (Nat.le_refl _) _).cell (p := ⟨w.heap.size + 1, 1, none⟩) hsR).trans k0, HJ.out _ ((Below.heap_alloc _ _ _ hbw).trans hbr)⟩ ?_
          clear hK K
          apply wpPlan_act rfl rfl
          intro K hK
          refine wp_appO elRE 25 Tryz.underlying25 _ _ rfl w2.heap.size _ acc rfl (HO.out.below (C := wr.heap.size) ((Below.refl _ wr).drew.alloc (Nat.le_refl _) _) (Nat.le_refl _)) _ ((xu, xv), xl, xw) _ rfl (row?_alloc_at _ _ _ _ (by simp)) (by omega) (by simp; omega) ?_
          intro v4 w4 hO4 hb4 hg4 hl4
          have hne9 : some (w.heap.size + 1) ≠ (Value.slice qf acc.length cf).ownBlock := fun e => by have := HO.out.block _ e.symm; omega
          have hr4 : row? w4 (w.heap.size + 1) = some #[.slice qo G.V.length co, .slice qf acc.length cf] := (row?_congr ((hg4.block (w.heap.size + 1) (by simp; omega) hne9).trans (Below.heap_alloc _ _ _ (by show w.heap.size + 1 < wr.heap.size; omega)))).trans HR.out
          have hs4 : wr.heap.size ≤ w4.heap.size := by have := hb4.size; simp at this; omega
          have hS4 : Same (fun j => j < w2.heap.size ∧ j ≠ w.heap.size + 1) w2 w4 := HS.out.trans ⟨hb4.os, hb4.tape, hb4.output, hs4, fun j hj h => (hb4.block j h.1).trans (Below.heap_alloc _ _ _ (by show j < wr.heap.size; omega))⟩
          have HOV4 := Lib.hid (HOV.out.same (w' := w4) fun j hj => (hg4.block j (by have := HOV.out.lt j hj; simp; omega) (fun e => own_ne2 HOV.out HO.out (by decide) j hj e.symm)).trans (Below.heap_alloc _ _ _ (HOV.out.lt j hj)))
          refine hK _ _ ⟨(cell?_row (i := 1) hr4).trans rfl, HJ.out _ (hS4.block b hbb ⟨hbb, hbg⟩)⟩ ?_
          clear hK K
          repeat (apply wpPlan_still rfl rfl; (intro w hw; clear hw; go_simp; (try go_ints); (first | with_reducible rfl | (go_simp; with_reducible rfl))); (intro K hK; go_simp; (try go_ints); refine hK _ _ ?_; clear hK K))
          have hfz4 := frozen?_row (i := 1) hr4
          have hlt4 := row?_lt hr4
          have k4 := cell?_row (i := 1) hr4
          simp at k4
          obtain ⟨q4, c4, rfl⟩ := hO4.sl
          simp only [List.length_append, List.length_cons, List.length_nil, Nat.zero_add] at hO4 ⊢
          have HO4 := Lib.hid hO4
          have HR4 := Lib.hid hr4
          have HS4 := Lib.hid hS4
          clear hO4 hb4 hg4 hl4 hr4 hS4 hne9 k0 hbr
          refine wpPlan_nil ?_
          simp only [List.drop_succ_cons, List.drop_zero]
          go_wp2_with fail
          go_roundw
          case rel =>
            refine ⟨k + 1, by omega, by go_num, ⟨_, by rw [row?_setCell_same, HR4.out]; rfl, ?_, ?_⟩, ?_⟩
            · rw [HST.out]
              exact HO4.out.same fun j hj => heap_setCell_other _ _ j _ (by have := HO4.out.block j hj; show j ≠ w.heap.size + 1; omega)
            · exact HOV4.out.same fun j hj => heap_setCell_other _ _ j _ (by have := HOV4.out.block j hj; show j ≠ w.heap.size + 1; omega)
            · exact HS4.out.trans (Same.setCell _ _ _ _ (by show ¬ (w.heap.size + 1 < w2.heap.size ∧ w.heap.size + 1 ≠ w.heap.size + 1); omega))
          case measure => simp [intOf]; omega
        · have hkn : LE = k := by omega
          subst hkn
          have hacc2 : acc = G.E := by rw [HACC.out, HLE.out, List.take_length]
          subst hacc2
          have r4 := (row?_congr (HS.out.block w.heap.size (by omega) ⟨by omega, by omega⟩)).trans HR22.out
          have hr := HR.out
          have hsz := HS.out.size
          go_wp2_with fail
          refine ret_row w.heap.size #[.slice qo G.V.length co, .slice qf G.E.length cf] rfl Tryz.isAgg27 Tryz.sizeOf27 rfl rfl (row?_setRow_same _ _ _ (by rw [r4]; rfl)) rfl ⟨_, _, rfl, ⟨?_, ?_⟩, ?_⟩
          · exact (HOV.out.same fun j hj => setRow_other _ _ j _ (by have := HOV.out.block j hj; omega)).rd elRV
          · exact (HO.out.same fun j hj => setRow_other _ _ j _ (by have := HO.out.block j hj; omega)).rd elRE
          · exact below_setRow ((HBw.out).trans (HS.out.below (B := w.heap.size) (by omega) fun j hj => ⟨by omega, by omega⟩)) (Nat.le_refl _) _
end Go.Proofs.YtmmhngjndnonhaaGreatDoor
