/-
  Walks of package frame: New's second callback.
-/
import Derived.Test.YtkoeeabeoefggaaGreatDoorQFrame2
namespace Go.Proofs.YtkoeeabeoefggaaGreatDoor
open Go Go.RowKit Go.Pal Go.Shelf

theorem FSt.put {gf gT cT gN gM n m : Nat} {N : Nat → Nd} {w : World} (h : FSt gf gT cT gN gM n N m w) (b j : Nat) (v : Value) (x : Nd) (hb : b < n) (hj : j < 5) (hx : (N b).cells.setIfInBounds j v = x.cells) (hord : gN ≠ gf ∧ gN ≠ gM) :
    FSt gf gT cT gN gM n (upd N b x) m (w.setCell ⟨gN, b * 5 + j, none⟩ v) := by
  obtain ⟨h1, h2⟩ := hord
  refine ⟨?_, ?_, ?_⟩
  · rw [row?_setCell_other _ _ _ _ _ (by omega)]
    exact h.frame
  · rw [row?_setCell_same, h.nodes, ← nodeC_set N hb hj hx]
    rfl
  · obtain ⟨D, es, clock, h1, h2⟩ := h.map
    exact ⟨D, es, clock, (heap_setCell_other _ _ _ _ (by show gM ≠ gN; omega)).trans h1, h2⟩
theorem FSt.drew {gf gT cT gN gM n m : Nat} {N : Nat → Nd} {w : World} (h : FSt gf gT cT gN gM n N m w) : FSt gf gT cT gN gM n N m w.drew := h.of_same fun _ _ => rfl

theorem OwnI.mono {B B' : Nat} {w : World} {v : Value} {ns : List Int} (h : OwnI B w v ns) (hB : B' ≤ B) : OwnI B' w v ns := by
  obtain ⟨h1, h2⟩ := h
  refine ⟨h1, h2.imp id ?_⟩
  rintro ⟨g, cap, cur, hv, hb, r⟩
  exact ⟨g, cap, cur, hv, by omega, r⟩

set_option maxRecDepth 20000 in
set_option maxHeartbeats 2000000 in
theorem leave_any (gf gT cT gN gM n gb B : Nat) (hord : gN ≠ gf ∧ gN ≠ gM ∧ gN ≠ gb ∧ gN < B) (_hn : n ≤ 1024)
    (N : Nat → Nd) (m : Nat) (w : World) (hBs : B ≤ w.heap.size) (hS : FSt gf gT cT gN gM n N m w) (hb : row? w gb = some #[.pointer (some ⟨gf, 0, none⟩)])
    (b : Nat) (ks : List Tr) (hbn : b < n) (hk : OwnI B w (N b).kids (ks.map fun t => (t.lab : Int))) (hks : ∀ k ∈ ks, k.lab < n ∧ k.lab ≠ b ∧ (N k.lab).size = k.sz) (hsz : Tr.szs ks ≤ 60000) :
    Calls Tryz.prog 48 #[.int .i64 (b : Int), .pointer (some ⟨gb, 0, none⟩)] w
      fun e w' => (∃ v, e = .returned v) ∧ ∃ lv, FSt gf gT cT gN gM n (upd N b { N b with light := lv, size := 1 + Tr.szs ks, heavy := Tr.hLab (Tr.hvL ks) }) m w' ∧
        OwnI B w' lv ((ks.map fun t => (t.lab : Int)).filter fun k => !(k == Tr.hLab (Tr.hvL ks))) ∧ Same (fun k => k ≠ gN) w w' := by
  obtain ⟨o1, o2, o3, o4⟩ := hord
  have s1 := row?_lt hb
  have s3 := row?_lt hS.frame
  have s4 := row?_lt hS.nodes
  have e2 : w.cell? ⟨gb, 0, none⟩ = _ := cell?_row (i := 0) hb
  have e3 : w.cell? ⟨gf, 1, none⟩ = _ := cell?_row (i := 1) hS.frame
  simp at e2 e3
  have HS := Lib.hid hS
  have HB := Lib.hid hb
  have HK := Lib.hid hk
  have HKS := Lib.hid hks
  clear hS hb hk hks
  go_enter Tryz.func48, Tryz.ntmps48
  go_wp2_with fail
  obtain ⟨W, hW⟩ : ∃ W, W = w.alloc (Obj.cells #[.pointer (some ⟨gN, b * 5, none⟩)] 96) := ⟨_, rfl⟩
  have hWs : W.heap.size = w.heap.size + 1 := by rw [hW]; simp
  have hWk : ∀ k, k < w.heap.size → W.heap[k]? = w.heap[k]? := fun k hk => by rw [hW]; exact Below.heap_alloc _ _ k hk
  have hsm : Same (fun k => k ≠ gN) w W := by rw [hW]; exact Same.alloc _ _ _
  have hSW := HS.out.of_same hWk
  have h1W : row? W w.heap.size = some #[.pointer (some ⟨gN, b * 5, none⟩)] := by rw [hW]; simp [go_sem]
  have hbW : row? W gb = _ := (row?_congr (hWk gb s1)).trans HB.out
  have c5 : W.cell? ⟨gN, b * 5 + 2, none⟩ = _ := cell?_row (i := b * 5 + 2) hSW.nodes
  rw [nodeC_get _ (by omega) (by omega)] at c5
  have c6 : W.cell? ⟨gN, b * 5 + 3, none⟩ = _ := cell?_row (i := b * 5 + 3) hSW.nodes
  rw [nodeC_get _ (by omega) (by omega)] at c6
  have g5 := frozen?_row (i := b * 5 + 2) hSW.nodes
  have g6 := frozen?_row (i := b * 5 + 3) hSW.nodes
  simp [Nd.cells] at c5 c6
  rw [← hW]
  have HSW := Lib.hid hSW
  clear hW e2 e3 hSW
  refine wp_region_mix (fun w' => row? w' w.heap.size = some #[.pointer (some ⟨gN, b * 5, none⟩)]) 7 [(0, true), (1, true), (2, true), (3, true), (4, false), (5, true), (6, true)] (by kernel_rfl) (by kernel_rfl) h1W ?_
  repeat (apply wpPlan_still rfl rfl; (intro w hw; (have k1 := (cell?_row (i := 0) hw)); simp at k1; clear hw; go_simp; (try go_ints); (first | with_reducible rfl | (go_simp; with_reducible rfl))); (intro K hK; go_simp; (try go_ints); refine hK _ _ ?_; clear hK K))
  apply wpPlan_act rfl rfl
  intro K hK
  unfold Oper.wp
  go_simp
  refine hK _ _ (by rw [row?_drew, row?_setCell_other _ _ _ _ _ (by omega)]; exact h1W) ?_
  clear hK K
  repeat (apply wpPlan_still rfl rfl; (intro w hw; (have k1 := (cell?_row (i := 0) hw)); simp at k1; clear hw; go_simp; (try go_ints); (first | with_reducible rfl | (go_simp; with_reducible rfl))); (intro K hK; go_simp; (try go_ints); refine hK _ _ ?_; clear hK K))
  refine wpPlan_nil ?_
  simp only [List.drop_succ_cons, List.drop_zero]
  have k1 : W.cell? ⟨w.heap.size, 0, none⟩ = _ := cell?_row (i := 0) h1W
  have c7 : W.cell? ⟨gN, b * 5, none⟩ = _ := cell?_row (i := b * 5) HSW.out.nodes
  rw [show b * 5 = b * 5 + 0 by omega, nodeC_get _ (by omega) (by omega)] at c7
  simp [Nd.cells] at c7 k1
  obtain ⟨q0, n0, c0, hkv⟩ := HK.out.slice
  have hn0 : n0 = ks.length := by have := HK.out; rw [hkv] at this; simpa using this.len
  subst hn0
  rw [hkv] at c7
  go_wp2_with fail
  obtain ⟨W2, hW2⟩ : ∃ W2, W2 = ((W.setCell ⟨gN, b * 5 + 2, none⟩ (.int .i64 1)).setCell ⟨gN, b * 5 + 3, none⟩ (.int .i64 (-1))).drew := ⟨_, rfl⟩
  have hF2 : FSt gf gT cT gN gM n (upd N b { N b with size := 1, heavy := -1 }) m W2 := by
    have h := (HSW.out.put b 2 (.int .i64 1) { N b with size := 1 } hbn (by omega) rfl ⟨o1, o2⟩).put b 3 (.int .i64 (-1)) { N b with size := 1, heavy := -1 } hbn (by omega) (by rw [upd_same]; rfl) ⟨o1, o2⟩
    rw [upd_upd] at h
    rw [hW2]
    exact h.drew
  have hsm2 : Same (fun k => k ≠ gN) w W2 := by rw [hW2]; exact ((hsm.trans (Same.setCell _ _ _ _ (by simp))).trans (Same.setCell _ _ _ _ (by simp))).trans (Same.drew _ _)
  have h12 : row? W2 w.heap.size = some #[.pointer (some ⟨gN, b * 5, none⟩)] := by rw [hW2, row?_drew, row?_setCell_other _ _ _ _ _ (by omega), row?_setCell_other _ _ _ _ _ (by omega)]; exact h1W
  rw [← hW2]
  have HF2 := Lib.hid hF2
  have Hsm2 := Lib.hid hsm2
  have H12 := Lib.hid h12
  have HKV := Lib.hid hkv
  rw [hkv] at HK
  clear hW2 hF2 hsm2 h12 c5 c6 c7 g5 g6 k1 h1W hbW hsm hWk hkv HSW
  have hszl := Tr.length_le_szs ks
  go_loopw [23] (fun i wr => ∃ pre rest, ks = pre ++ rest ∧ i = .int .i64 (pre.length : Int) ∧ FSt gf gT cT gN gM n (upd N b { N b with size := 1 + Tr.szs pre, heavy := Tr.hLab (Tr.hvL pre) }) m wr ∧ row? wr w.heap.size = some #[.pointer (some ⟨gN, b * 5, none⟩)] ∧ Same (fun k => k ≠ gN) w wr) (fun i _ => ks.length - (intOf i).toNat)
  case atStart => exact ⟨[], ks, rfl, rfl, by simpa [Tr.szs, Tr.hvL, Tr.hLab] using HF2.out, H12.out, Hsm2.out⟩
  case round =>
    obtain ⟨pre, rest, hpre, rfl, hFr, h1r, hsr⟩ := hrel
    have HFr := Lib.hid hFr
    have Hsr := Lib.hid hsr
    have H1r := Lib.hid h1r
    have e2 : wr.cell? ⟨gb, 0, none⟩ = _ := (cell?_row (i := 0) ((row?_congr (hsr.block gb s1 (by omega))).trans HB.out))
    have e3 : wr.cell? ⟨gf, 1, none⟩ = _ := cell?_row (i := 1) hFr.frame
    have e4 : wr.cell? ⟨w.heap.size, 0, none⟩ = _ := cell?_row (i := 0) h1r
    simp at e2 e3 e4
    cases rest with
    | nil =>
      have hpk : pre = ks := by rw [hpre]; simp
      subst hpk
      clear hFr hsr h1r hpre
      go_wp2_with fail
      have hwr : w.heap.size < wr.heap.size := row?_lt H1r.out
      have hgr : gN < wr.heap.size := row?_lt HFr.out.nodes
      have hgM := HFr.out.gM_lt
      have hS0 : row? wr.drew w.heap.size = some #[.pointer (some ⟨gN, b * 5, none⟩)] ∧ row? wr.drew gN = some (nodeC (upd N b { N b with size := 1 + Tr.szs pre, heavy := Tr.hLab (Tr.hvL pre) }) n) := ⟨H1r.out, HFr.out.nodes⟩
      refine wp_region_mix (fun w' => row? w' w.heap.size = some #[.pointer (some ⟨gN, b * 5, none⟩)] ∧ row? w' gN = some (nodeC (upd N b { N b with size := 1 + Tr.szs pre, heavy := Tr.hLab (Tr.hvL pre) }) n)) 8 [(0, true), (1, true), (2, true), (3, true), (4, true), (6, true), (5, false), (7, false)] (by kernel_rfl) (by kernel_rfl) hS0 ?_
      repeat (apply wpPlan_still rfl rfl; (intro w hw; (have k1 := (cell?_row (i := 0) hw.1)); (have k2 := (cell?_row (i := b * 5) hw.2)); rw [show b * 5 = b * 5 + 0 by omega, nodeC_get _ (by omega) (by omega), upd_same] at k2; simp [Nd.cells, HKV.out] at k1 k2; clear hw; go_simp; (try go_ints); (first | with_reducible rfl | (go_simp; with_reducible rfl))); (intro K hK; go_simp; (try go_ints); refine hK _ _ ?_; clear hK K))
      apply wpPlan_act rfl rfl
      intro K hK
      unfold Oper.wp
      go_simp
      refine (cloneI_any B (pre.map fun t => (t.lab : Int)) _ wr.drew (OwnI.same (w' := wr.drew) HK.out fun g hg => Hsr.out.block g (HK.out.lt g hg) (by have := HK.out.block g hg; omega)) (by simp; omega)).mono ?_
      rintro e w6 ⟨v6, rfl, hO6, hb6⟩
      have hO6' : OwnI wr.heap.size w6 v6 _ := hO6
      have hr6 : row? w6 w.heap.size = _ := (row?_below hb6 hwr).trans hS0.1
      have hn6 : row? w6 gN = _ := (row?_below hb6 hgr).trans hS0.2
      refine hK _ _ ⟨hr6, hn6⟩ ?_
      clear hK K
      apply wpPlan_act rfl rfl
      intro K hK
      unfold Oper.wp
      go_simp
      have hc6 : w6.cell? ⟨gN, b * 5 + 3, none⟩ = _ := cell?_row (i := b * 5 + 3) hn6
      rw [nodeC_get _ (by omega) (by omega), upd_same] at hc6
      simp [Nd.cells] at hc6
      refine (filter_any wr.heap.size _ v6 w6 hO6' w.heap.size gN (b * 5) _ hwr hgr hr6 hc6 (by simp; omega)).mono ?_
      rintro e w7 ⟨v7, rfl, hO7, hl7, hs7⟩
      have hv6 : ∀ k, k < wr.heap.size → some k ≠ v6.ownBlock := fun k hk e => by have := hO6'.block k e.symm; omega
      have hsm6 : Same (fun k => k < wr.heap.size) wr.drew w7 := (Same.of_below hb6).trans (hs7.mono fun k _ hk => hv6 k hk)
      have hr7 : row? w7 w.heap.size = _ := (row?_congr (hs7.block _ (row?_lt hr6) (hv6 _ hwr))).trans hr6
      have hn7 : row? w7 gN = _ := (row?_congr (hs7.block _ (row?_lt hn6) (hv6 _ hgr))).trans hn6
      refine hK _ _ ⟨hr7, hn7⟩ ?_
      clear hK K
      refine wpPlan_nil ?_
      simp only [List.drop_succ_cons, List.drop_zero]
      have hF7 : FSt gf gT cT gN gM n _ m w7 := HFr.out.of_three (hsm6.block _ (row?_lt HFr.out.frame) (row?_lt HFr.out.frame)) (hsm6.block _ hgr hgr) (hsm6.block _ hgM hgM)
      have hc7 : w7.cell? ⟨gN, b * 5 + 1, none⟩ = _ := cell?_row (i := b * 5 + 1) hn7
      rw [nodeC_get _ (by omega) (by omega), upd_same] at hc7
      simp [Nd.cells] at hc7
      have hf7 := frozen?_row (i := b * 5 + 1) hn7
      obtain ⟨q7, n7, c7, rfl⟩ := hO7.slice
      have HF7 := Lib.hid hF7
      have HO7 := Lib.hid hO7
      have Hsm7 : Hid (Same (fun k => k ≠ gN) w w7) := Hsr.out.trans (Same.trans (Same.drew _ _) (hsm6.mono fun k hk _ => hk))
      clear hF7 hO7 hsm6 hs7 hO6 hO6' hb6 hr6 hn6 hc6 hl7 hv6
      go_wp2
      go_end0
      refine ⟨⟨_, rfl⟩, .slice q7 n7 c7, ?_, ?_, ?_⟩
      · have h := HF7.out.put b 1 (.slice q7 n7 c7) { N b with light := .slice q7 n7 c7, size := 1 + Tr.szs pre, heavy := Tr.hLab (Tr.hvL pre) } hbn (by omega) (by rw [upd_same]; rfl) ⟨o1, o2⟩
        rw [upd_upd] at h
        exact h
      · have h : OwnI B w7 (.slice q7 n7 c7) _ := HO7.out.mono (by omega)
        exact h.same fun g hg => by rw [heap_setCell_other _ _ _ _ (fun e => by have := h.block g hg; simp at e; omega)]
      · exact Hsm7.out.trans (Same.setCell _ _ _ _ (by simp))
    | cons t rest =>
      have hlt : pre.length < ks.length := by rw [hpre]; simp
      have htm : t ∈ ks := by rw [hpre]; simp
      obtain ⟨htn, htb, hts⟩ := HKS.out t htm
      have hz : (ks.map fun t => (t.lab : Int))[pre.length]? = some (t.lab : Int) := by rw [hpre]; simp
      obtain ⟨g, rfl, hg1, hg2, hc⟩ := (HK.out.same fun g hg => hsr.block g (HK.out.lt g hg) (by have := HK.out.block g hg; omega)).cell hz
      have c2 : wr.cell? ⟨gN, b * 5 + 2, none⟩ = _ := cell?_row (i := b * 5 + 2) hFr.nodes
      rw [nodeC_get _ (by omega) (by omega), upd_same] at c2
      have c3 : wr.cell? ⟨gN, t.lab * 5 + 2, none⟩ = _ := cell?_row (i := t.lab * 5 + 2) hFr.nodes
      rw [nodeC_get _ (by omega) (by omega), upd_other _ _ htb] at c3
      simp [Nd.cells, hts] at c2 c3
      have f2 := frozen?_row (i := b * 5 + 2) hFr.nodes
      have hszp : Tr.szs ks = Tr.szs pre + (t.sz + Tr.szs rest) := by rw [hpre, Tr.szs_append]; rfl
      have Hpre := Lib.hid hpre
      clear hFr hsr h1r hpre
      go_wp2_with fail
      refine wp_region_free_tail (fun w' => w' = wr.drew) 15 (by kernel_rfl) (by kernel_rfl) rfl ?_
      simp only [List.take_succ_cons, List.take_zero, List.drop_succ_cons, List.drop_zero]
      repeat (apply wpFree_still; (intro w hw; subst hw; go_simp; (try go_ints); (first | with_reducible rfl | (go_simp; with_reducible rfl))); with_reducible rfl; (intro K hK; go_simp; (try go_ints); refine hK _ ?_; clear hK K))
      with_reducible refine wpFree_nil ?_
      rintro w' rfl
      go_wp2_with fail
      obtain ⟨W5, hW5⟩ : ∃ W5, W5 = (wr.setCell ⟨gN, b * 5 + 2, none⟩ (.int .i64 (1 + (Tr.szs pre : Int) + (t.sz : Int)))).drew := ⟨_, rfl⟩
      have hF5 : FSt gf gT cT gN gM n (upd N b { N b with size := 1 + (Tr.szs pre : Int) + t.sz, heavy := Tr.hLab (Tr.hvL pre) }) m W5 := by
        have h := HFr.out.put b 2 (.int .i64 (1 + (Tr.szs pre : Int) + t.sz)) { N b with size := 1 + (Tr.szs pre : Int) + t.sz, heavy := Tr.hLab (Tr.hvL pre) } hbn (by omega) (by rw [upd_same]; rfl) ⟨o1, o2⟩
        rw [upd_upd] at h
        rw [hW5]
        exact h.drew
      have hs5 : Same (fun k => k ≠ gN) w W5 := by rw [hW5]; exact (Hsr.out.trans (Same.setCell _ _ _ _ (by simp))).trans (Same.drew _ _)
      have h15 : row? W5 w.heap.size = some #[.pointer (some ⟨gN, b * 5, none⟩)] := by rw [hW5, row?_drew, row?_setCell_other _ _ _ _ _ (by omega)]; exact H1r.out
      rw [← hW5]
      clear hW5 c2 c3 f2 e2 e3 e4 hc
      have e2 : W5.cell? ⟨gb, 0, none⟩ = _ := (cell?_row (i := 0) ((row?_congr (hs5.block gb s1 (by omega))).trans HB.out))
      have e3 : W5.cell? ⟨gf, 1, none⟩ = _ := cell?_row (i := 1) hF5.frame
      have e4 : W5.cell? ⟨w.heap.size, 0, none⟩ = _ := cell?_row (i := 0) h15
      have c2 : W5.cell? ⟨gN, b * 5 + 3, none⟩ = _ := cell?_row (i := b * 5 + 3) hF5.nodes
      rw [nodeC_get _ (by omega) (by omega), upd_same] at c2
      have c3 : W5.cell? ⟨gN, t.lab * 5 + 2, none⟩ = _ := cell?_row (i := t.lab * 5 + 2) hF5.nodes
      rw [nodeC_get _ (by omega) (by omega), upd_other _ _ htb] at c3
      simp [Nd.cells, hts] at e2 e3 e4 c2 c3
      have f3 := frozen?_row (i := b * 5 + 3) hF5.nodes
      have hsn := Tr.hvL_snoc pre t
      cases hh : Tr.hvL pre with
      | none =>
        rw [hh] at c2 hF5 hsn
        simp only [Tr.hLab] at c2
        have HF5 := Lib.hid hF5
        have Hs5 := Lib.hid hs5
        have H15 := Lib.hid h15
        have HSN := Lib.hid hsn
        clear hF5 hs5 h15 hsn hh
        go_wp2_with go_quiet (fail)
        have e0 : (1 : Int) + (Tr.szs (pre ++ [t]) : Int) = 1 + (Tr.szs pre : Int) + (t.sz : Int) := by rw [Tr.szs_append]; simp [Tr.szs]; omega
        have hdr : Same (fun k => k ≠ gN) W5 (W5.drewN nq) := ⟨rfl, rfl, rfl, Nat.le_refl _, fun _ _ _ => rfl⟩
        refine ⟨⟨pre ++ [t], rest, by rw [Hpre.out]; simp, by simp, ?_, ?_, ?_⟩, by simp [intOf]; omega⟩
        · rw [e0, HSN.out]
          have h := (HF5.out.of_same (w' := W5.drewN nq) fun _ _ => rfl).put b 3 (.int .i64 (t.lab : Int)) { N b with size := 1 + (Tr.szs pre : Int) + t.sz, heavy := (t.lab : Int) } hbn (by omega) (by rw [upd_same]; rfl) ⟨o1, o2⟩
          rw [upd_upd] at h
          exact h
        · rw [row?_setCell_other _ _ _ _ _ (by omega), row?_drewN]; exact H15.out
        · exact (Hs5.out.trans hdr).trans (Same.setCell _ _ _ _ (by simp))
      | some h =>
        obtain ⟨hhn, hhb, hhs⟩ := HKS.out h (by rw [Hpre.out]; exact List.mem_append_left _ (Tr.hvL_mem hh))
        have c4 : W5.cell? ⟨gN, h.lab * 5 + 2, none⟩ = _ := cell?_row (i := h.lab * 5 + 2) hF5.nodes
        rw [nodeC_get _ (by omega) (by omega), upd_other _ _ hhb] at c4
        simp [Nd.cells, hhs] at c4
        rw [hh] at c2 hF5 hsn
        simp only [Tr.hLab] at c2
        have hneg : decide ((h.lab : Int) < 0) = false := decide_eq_false (by omega)
        have HF5 := Lib.hid hF5
        have Hs5 := Lib.hid hs5
        have H15 := Lib.hid h15
        have HSN := Lib.hid hsn
        clear hF5 hs5 h15 hsn hh
        by_cases hgt : h.sz < t.sz
        · have hdg : decide ((h.sz : Int) < (t.sz : Int)) = true := decide_eq_true (by omega)
          have HGT := Lib.hid hgt; clear hgt
          go_wp2_with go_quiet (fail)
          have e0 : (1 : Int) + (Tr.szs (pre ++ [t]) : Int) = 1 + (Tr.szs pre : Int) + (t.sz : Int) := by rw [Tr.szs_append]; simp [Tr.szs]; omega
          have hdr : Same (fun k => k ≠ gN) W5 (W5.drewN nq) := ⟨rfl, rfl, rfl, Nat.le_refl _, fun _ _ _ => rfl⟩
          refine ⟨⟨pre ++ [t], rest, by rw [Hpre.out]; simp, by simp, ?_, ?_, ?_⟩, by simp [intOf]; omega⟩
          · rw [e0, HSN.out]
            have h := (HF5.out.of_same (w' := W5.drewN nq) fun _ _ => rfl).put b 3 (.int .i64 (t.lab : Int)) { N b with size := 1 + (Tr.szs pre : Int) + t.sz, heavy := (t.lab : Int) } hbn (by omega) (by rw [upd_same]; rfl) ⟨o1, o2⟩
            rw [upd_upd] at h
            simp only [Tr.hS, if_pos HGT.out]
            exact h
          · rw [row?_setCell_other _ _ _ _ _ (by omega), row?_drewN]; exact H15.out
          · exact (Hs5.out.trans hdr).trans (Same.setCell _ _ _ _ (by simp))
        · have hdg : decide ((h.sz : Int) < (t.sz : Int)) = false := decide_eq_false (by omega)
          have HGT := Lib.hid hgt; clear hgt
          go_wp2_with go_quiet (fail)
          have e0 : (1 : Int) + (Tr.szs (pre ++ [t]) : Int) = 1 + (Tr.szs pre : Int) + (t.sz : Int) := by rw [Tr.szs_append]; simp [Tr.szs]; omega
          have hdr : Same (fun k => k ≠ gN) W5 (W5.drewN nq) := ⟨rfl, rfl, rfl, Nat.le_refl _, fun _ _ _ => rfl⟩
          refine ⟨⟨pre ++ [t], rest, by rw [Hpre.out]; simp, by simp, ?_, ?_, ?_⟩, by simp [intOf]; omega⟩
          · rw [e0, HSN.out]
            simp only [Tr.hS, if_neg HGT.out]
            exact HF5.out.of_same (w' := W5.drewN nq) fun _ _ => rfl
          · rw [row?_drewN]; exact H15.out
          · exact Hs5.out.trans hdr
end Go.Proofs.YtkoeeabeoefggaaGreatDoor
