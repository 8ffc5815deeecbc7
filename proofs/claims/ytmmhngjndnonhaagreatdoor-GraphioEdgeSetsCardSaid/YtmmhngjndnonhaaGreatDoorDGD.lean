/-
  Walk of package graph: the error of an edit.
-/
import Derived.Test.YtmmhngjndnonhaaGreatDoorDGrf
set_option linter.unusedSimpArgs false
set_option linter.unusedVariables false
namespace Go.Proofs.YtmmhngjndnonhaaGreatDoor
open Go Go.RowKit Go.Pal

theorem alloc_row {w w' : World} {c : Array Value} {t : TypeId} (h : w.alloc (.cells c t) = w') : row? w' w.heap.size = some c ∧ Below w.heap.size w w' := by
  rw [← h]
  exact ⟨row?_alloc_at _ _ _ _ rfl, (Below.refl _ w).alloc (Nat.le_refl _) _⟩
set_option maxHeartbeats 4000000 in
set_option maxRecDepth 20000 in
theorem gwrong_any (e : Ed) (he : e.Wf) (g bV bE : Nat) (G : Gr) (w : World) (h : GOk w g bV bE G) : Calls Tryz.prog 54 #[.pointer (some ⟨g, 0, none⟩), .agg (edC e)] w fun r w' => r = .returned (.int .i64 (G.wrong e : Int)) ∧ Below w.heap.size w w' := by
  have H0 := Lib.hid h
  have HE := Lib.hid he
  obtain ⟨U, hU⟩ : ∃ U, U = e.u := ⟨_, rfl⟩
  obtain ⟨V, hV⟩ : ∃ V, V = e.v := ⟨_, rfl⟩
  have hed : edC e = #[.int .i64 e.op, .int .i64 U, .int .i64 V, .int .u8 (e.lab : Int), .int .i64 e.wt] := by rw [hU, hV]; rfl
  have hLU : ∀ W, Below w.heap.size w W → (Instr.lookup 108 (.map (some bV)) (.int .i64 U) true).run Tryz.prog W = .ok (.tuple #[thV ((Pal.look G.V U).getD (0, 0)), .bool (Pal.look G.V U).isSome]) W :=
    fun W hb => by rw [hU]; exact (H0.out.below hb).V.look_ok goodV Tryz.underlying108 zeroThing HE.out.u
  have hLV : ∀ W, Below w.heap.size w W → (Instr.lookup 108 (.map (some bV)) (.int .i64 V) true).run Tryz.prog W = .ok (.tuple #[thV ((Pal.look G.V V).getD (0, 0)), .bool (Pal.look G.V V).isSome]) W :=
    fun W hb => by rw [hV]; exact (H0.out.below hb).V.look_ok goodV Tryz.underlying108 zeroThing HE.out.v
  have hLE : ∀ W, Below w.heap.size w W → (Instr.lookup 112 (.map (some bE)) (endsV (btw U V)) true).run Tryz.prog W = .ok (.tuple #[thV ((Pal.look G.E (btw U V)).getD (0, 0)), .bool (Pal.look G.E (btw U V)).isSome]) W :=
    fun W hb => by rw [hU, hV]; exact (H0.out.below hb).E.look_ok goodE Tryz.underlying112 zeroThing (Ed.pair HE.out)
  obtain ⟨tu, htu⟩ : ∃ tu, tu = (Pal.look G.V U).getD (0, 0) := ⟨_, rfl⟩
  obtain ⟨tv, htv⟩ : ∃ tv, tv = (Pal.look G.V V).getD (0, 0) := ⟨_, rfl⟩
  obtain ⟨te, hte⟩ : ∃ te, te = (Pal.look G.E (btw U V)).getD (0, 0) := ⟨_, rfl⟩
  obtain ⟨bu, hbu⟩ : ∃ b, b = (Pal.look G.V U).isSome := ⟨_, rfl⟩
  obtain ⟨bv, hbv⟩ : ∃ b, b = (Pal.look G.V V).isSome := ⟨_, rfl⟩
  obtain ⟨be, hbe⟩ : ∃ b, b = (Pal.look G.E (btw U V)).isSome := ⟨_, rfl⟩
  rw [← htu, ← hbu] at hLU
  rw [← htv, ← hbv] at hLV
  rw [← hte, ← hbe] at hLE
  unfold thV at hLU hLV hLE
  have HLU := Lib.hid hLU
  have HLV := Lib.hid hLV
  have HLE := Lib.hid hLE
  have HB := Lib.hid (And.intro hbu (And.intro hbv hbe))
  have HUV := Lib.hid (And.intro hU hV)
  have hgl := h.lt
  rw [hed]
  clear hLU hLV hLE htu htv hte hbu hbv hbe hU hV hed he h
  go_enter Tryz.func54, Tryz.ntmps54
  go_wp2_with fail
  obtain ⟨W0, hW0⟩ : ∃ W0, W0 = (w.alloc (Obj.cells #[.pointer (some ⟨g, 0, none⟩)] 23)).alloc (Obj.cells #[.int .i64 e.op, .int .i64 U, .int .i64 V, .int .u8 (e.lab : Int), .int .i64 e.wt] 38) := ⟨_, rfl⟩
  have hB0 : Below w.heap.size w W0 := by
    rw [hW0]
    (repeat' (first | (with_reducible exact Below.refl _ _) | (with_reducible assumption) | (with_reducible refine Below.alloc ?_ ?_ _) | (with_reducible refine Below.drew ?_) | (with_reducible refine Below.setCell ?_ ?_ _) | (with_reducible refine below_setRow ?_ ?_ _) | (with_reducible exact Nat.le_refl _) | omega | (simp; done) | (simp; omega) | (simp at *; omega)))
  have hrb : row? W0 w.heap.size = some #[.pointer (some ⟨g, 0, none⟩)] := by
    rw [hW0, row?_alloc_past _ _ _ (by simp)]
    exact row?_alloc_at _ _ _ _ rfl
  have hre : row? W0 (w.heap.size + 1) = some (edC e) := by
    rw [hW0, show edC e = #[.int .i64 e.op, .int .i64 U, .int .i64 V, .int .u8 (e.lab : Int), .int .i64 e.wt] by rw [HUV.out.1, HUV.out.2]; rfl]
    exact row?_alloc_at _ _ _ _ (by simp)
  have hs0 : w.heap.size + 1 < W0.heap.size := by rw [hW0]; simp
  rw [← hW0]
  have HR := Lib.hid fun W (hb : Below W0.heap.size W0 W) => show W.cell? ⟨w.heap.size, 0, none⟩ = some (.pointer (some ⟨g, 0, none⟩)) ∧ W.cell? ⟨g, 0, none⟩ = some (.map (some bV)) ∧ W.cell? ⟨g, 1, none⟩ = some (.map (some bE)) ∧ W.cell? ⟨w.heap.size + 1, 1, none⟩ = some (.int .i64 U) ∧ W.cell? ⟨w.heap.size + 1, 2, none⟩ = some (.int .i64 V) from
    ⟨(cell?_row (i := 0) ((row?_below hb (by omega)).trans hrb)).trans rfl, (cell?_row (i := 0) ((row?_below hb (by omega)).trans (H0.out.below hB0).row)).trans rfl, (cell?_row (i := 1) ((row?_below hb (by omega)).trans (H0.out.below hB0).row)).trans rfl,
      (cell?_row (i := 1) ((row?_below hb (by omega)).trans hre)).trans (by rw [HUV.out.1]; rfl), (cell?_row (i := 2) ((row?_below hb (by omega)).trans hre)).trans (by rw [HUV.out.2]; rfl)⟩
  have HB0 := Lib.hid hB0
  have HRE := Lib.hid hre
  have HRB := Lib.hid hrb
  clear hW0 hB0 hre hrb
  refine wp_region_cut2 (fun W => Below W0.heap.size W0 W) 13 (.read 0 (.read 1 (.read 2 (.read 3 (.read 4 (.read 5 (.read 6 (.read 7 (.read 8 (.read 9 (.fork 10 11 (.act 11 (.act 12 .done)) (.act 10 (.act 12 .done)))))))))))))
    (fun _ b W => row? W b = some #[.bool bu] ∧ W0.heap.size ≤ b ∧ Below W0.heap.size W0 W) (by kernel_rfl) (by kernel_rfl) (Below.refl _ _).drew ?_
  apply Exists.intro
  constructor
  · (repeat (apply wpPlanT_still rfl rfl; (intro w hw; obtain ⟨k1, k2, -, k3, -⟩ := HR.out w hw; have kl := HLU.out w (HB0.out.trans (hw.mono HB0.out.size)); clear hw; go_simp; (try go_ints); (first | with_reducible rfl | (go_simp; with_reducible rfl))); (intro K hK; go_simp; (try go_ints); refine hK _ _ ?_; clear hK K)))
    have hbc : Below W0.heap.size W0 W0.drew := (Below.refl _ W0).drew
    refine wpPlanT_fork ?_ ?_
    · refine wpPlanT_alloc #[.int .u8 0, .int .i64 0] 111 rfl rfl (by intro W; go_simp) ?_
      intro p wn hp hpl hpu hbn
      have hpB : W0.heap.size ≤ p := Nat.le_trans hbc.size hpl
      have hbc := hbc.trans (hbn.mono hbc.size)
      refine ⟨hbc, ?_⟩
      intro K hK; go_simp; refine hK _ _ ?_; clear hK K
      refine wpPlanT_alloc #[.bool false] 4 rfl rfl (by intro W; go_simp) ?_
      intro q wm hq hql hqu hbm
      have hqB : W0.heap.size ≤ q := Nat.le_trans hbc.size hql
      have hbc := hbc.trans (hbm.mono hbc.size)
      refine ⟨hbc, ?_⟩
      intro K hK; go_simp; refine hK _ _ ?_; clear hK K
      have hp := (row?_below hbm hpu).trans hp
      have hpq : ¬ q = p := by omega
      apply wpPlanT_act rfl rfl
      intro K hK
      unfold Oper.wp
      go_simp
      obtain ⟨w4, hw4⟩ : ∃ w4, w4 = World.setRow wm p #[.int .u8 (tu.1 : Int), .int .i64 tu.2] := ⟨_, rfl⟩
      rw [← hw4]
      have hb4 : Below W0.heap.size W0 w4 := by rw [hw4]; exact below_setRow hbc hpB _
      have hq4 : row? w4 q = some #[.bool false] := by rw [hw4, row?_setRow_other _ _ _ _ hpq]; exact hq
      refine hK _ _ hb4 ?_
      have k := cell?_row (i := 0) hq4
      simp at k
      have hf := frozen?_row (i := 0) hq4
      have HQ4 := Lib.hid hq4
      clear hK K hw4 hp hq hpq hq4
      refine wpPlanT_done ?_
      simp only [List.drop_succ_cons, List.drop_zero]
      go_wp2_with fail
      refine ⟨p, q, ?_, ?_, hqB, ?_⟩
      · first | with_reducible rfl | exact ⟨rfl, rfl⟩
      · rw [row?_setCell_same, HQ4.out]; rfl
      · (repeat' (first | (with_reducible exact Below.refl _ _) | (with_reducible assumption) | (with_reducible refine Below.alloc ?_ ?_ _) | (with_reducible refine Below.drew ?_) | (with_reducible refine Below.setCell ?_ ?_ _) | (with_reducible refine below_setRow ?_ ?_ _) | (with_reducible exact Nat.le_refl _) | omega | (simp; done) | (simp; omega) | (simp at *; omega)))
    · refine wpPlanT_alloc #[.bool false] 4 rfl rfl (by intro W; go_simp) ?_
      intro q wm hq hql hqu hbm
      have hqB : W0.heap.size ≤ q := Nat.le_trans hbc.size hql
      have hbc := hbc.trans (hbm.mono hbc.size)
      refine ⟨hbc, ?_⟩
      intro K hK; go_simp; refine hK _ _ ?_; clear hK K
      refine wpPlanT_alloc #[.int .u8 0, .int .i64 0] 111 rfl rfl (by intro W; go_simp) ?_
      intro p wn hp hpl hpu hbn
      have hpB : W0.heap.size ≤ p := Nat.le_trans hbc.size hpl
      have hbc := hbc.trans (hbn.mono hbc.size)
      refine ⟨hbc, ?_⟩
      intro K hK; go_simp; refine hK _ _ ?_; clear hK K
      have hq := (row?_below hbn hqu).trans hq
      have hpq : ¬ q = p := by omega
      apply wpPlanT_act rfl rfl
      intro K hK
      unfold Oper.wp
      go_simp
      obtain ⟨w4, hw4⟩ : ∃ w4, w4 = World.setRow wn p #[.int .u8 (tu.1 : Int), .int .i64 tu.2] := ⟨_, rfl⟩
      rw [← hw4]
      have hb4 : Below W0.heap.size W0 w4 := by rw [hw4]; exact below_setRow hbc hpB _
      have hq4 : row? w4 q = some #[.bool false] := by rw [hw4, row?_setRow_other _ _ _ _ hpq]; exact hq
      refine hK _ _ hb4 ?_
      have k := cell?_row (i := 0) hq4
      simp at k
      have hf := frozen?_row (i := 0) hq4
      have HQ4 := Lib.hid hq4
      clear hK K hw4 hp hq hpq hq4
      refine wpPlanT_done ?_
      simp only [List.drop_succ_cons, List.drop_zero]
      go_wp2_with fail
      refine ⟨p, q, ?_, ?_, hqB, ?_⟩
      · first | with_reducible rfl | exact ⟨rfl, rfl⟩
      · rw [row?_setCell_same, HQ4.out]; rfl
      · (repeat' (first | (with_reducible exact Below.refl _ _) | (with_reducible assumption) | (with_reducible refine Below.alloc ?_ ?_ _) | (with_reducible refine Below.drew ?_) | (with_reducible refine Below.setCell ?_ ?_ _) | (with_reducible refine below_setRow ?_ ?_ _) | (with_reducible exact Nat.le_refl _) | omega | (simp; done) | (simp; omega) | (simp at *; omega)))
  intro p5 b6 W1 ⟨hr6, hb6, hb1⟩
  have HB1 := Lib.hid hb1
  have hr6l := row?_lt hr6
  have HR6 := Lib.hid hr6
  have hs1 := hb1.size
  clear HLU hr6 hb1
  go_wp2_with fail
  refine wp_region_cut2 (fun W => Below W1.heap.size W1 W) 13 (.read 0 (.read 1 (.read 2 (.read 3 (.read 4 (.read 5 (.read 6 (.read 7 (.read 8 (.read 9 (.fork 10 11 (.act 11 (.act 12 .done)) (.act 10 (.act 12 .done)))))))))))))
    (fun _ b W => row? W b = some #[.bool bv] ∧ W1.heap.size ≤ b ∧ Below W1.heap.size W1 W) (by kernel_rfl) (by kernel_rfl) (Below.refl _ _).drew ?_
  apply Exists.intro
  constructor
  · (repeat (apply wpPlanT_still rfl rfl; (intro w hw; have hw0 := HB1.out.trans (hw.mono HB1.out.size); obtain ⟨k1, k2, -, -, k3⟩ := HR.out w hw0; have kl := HLV.out w (HB0.out.trans (hw0.mono HB0.out.size)); clear hw hw0; go_simp; (try go_ints); (first | with_reducible rfl | (go_simp; with_reducible rfl))); (intro K hK; go_simp; (try go_ints); refine hK _ _ ?_; clear hK K)))
    have hbc : Below W1.heap.size W1 W1.drew := (Below.refl _ W1).drew
    refine wpPlanT_fork ?_ ?_
    · refine wpPlanT_alloc #[.int .u8 0, .int .i64 0] 111 rfl rfl (by intro W; go_simp) ?_
      intro p wn hp hpl hpu hbn
      have hpB : W1.heap.size ≤ p := Nat.le_trans hbc.size hpl
      have hbc := hbc.trans (hbn.mono hbc.size)
      refine ⟨hbc, ?_⟩
      intro K hK; go_simp; refine hK _ _ ?_; clear hK K
      refine wpPlanT_alloc #[.bool false] 4 rfl rfl (by intro W; go_simp) ?_
      intro q wm hq hql hqu hbm
      have hqB : W1.heap.size ≤ q := Nat.le_trans hbc.size hql
      have hbc := hbc.trans (hbm.mono hbc.size)
      refine ⟨hbc, ?_⟩
      intro K hK; go_simp; refine hK _ _ ?_; clear hK K
      have hp := (row?_below hbm hpu).trans hp
      have hpq : ¬ q = p := by omega
      apply wpPlanT_act rfl rfl
      intro K hK
      unfold Oper.wp
      go_simp
      obtain ⟨w4, hw4⟩ : ∃ w4, w4 = World.setRow wm p #[.int .u8 (tv.1 : Int), .int .i64 tv.2] := ⟨_, rfl⟩
      rw [← hw4]
      have hb4 : Below W1.heap.size W1 w4 := by rw [hw4]; exact below_setRow hbc hpB _
      have hq4 : row? w4 q = some #[.bool false] := by rw [hw4, row?_setRow_other _ _ _ _ hpq]; exact hq
      refine hK _ _ hb4 ?_
      have k := cell?_row (i := 0) hq4
      simp at k
      have hf := frozen?_row (i := 0) hq4
      have HQ4 := Lib.hid hq4
      clear hK K hw4 hp hq hpq hq4
      refine wpPlanT_done ?_
      simp only [List.drop_succ_cons, List.drop_zero]
      go_wp2_with fail
      refine ⟨p, q, ?_, ?_, hqB, ?_⟩
      · first | with_reducible rfl | exact ⟨rfl, rfl⟩
      · rw [row?_setCell_same, HQ4.out]; rfl
      · (repeat' (first | (with_reducible exact Below.refl _ _) | (with_reducible assumption) | (with_reducible refine Below.alloc ?_ ?_ _) | (with_reducible refine Below.drew ?_) | (with_reducible refine Below.setCell ?_ ?_ _) | (with_reducible refine below_setRow ?_ ?_ _) | (with_reducible exact Nat.le_refl _) | omega | (simp; done) | (simp; omega) | (simp at *; omega)))
    · refine wpPlanT_alloc #[.bool false] 4 rfl rfl (by intro W; go_simp) ?_
      intro q wm hq hql hqu hbm
      have hqB : W1.heap.size ≤ q := Nat.le_trans hbc.size hql
      have hbc := hbc.trans (hbm.mono hbc.size)
      refine ⟨hbc, ?_⟩
      intro K hK; go_simp; refine hK _ _ ?_; clear hK K
      refine wpPlanT_alloc #[.int .u8 0, .int .i64 0] 111 rfl rfl (by intro W; go_simp) ?_
      intro p wn hp hpl hpu hbn
      have hpB : W1.heap.size ≤ p := Nat.le_trans hbc.size hpl
      have hbc := hbc.trans (hbn.mono hbc.size)
      refine ⟨hbc, ?_⟩
      intro K hK; go_simp; refine hK _ _ ?_; clear hK K
      have hq := (row?_below hbn hqu).trans hq
      have hpq : ¬ q = p := by omega
      apply wpPlanT_act rfl rfl
      intro K hK
      unfold Oper.wp
      go_simp
      obtain ⟨w4, hw4⟩ : ∃ w4, w4 = World.setRow wn p #[.int .u8 (tv.1 : Int), .int .i64 tv.2] := ⟨_, rfl⟩
      rw [← hw4]
      have hb4 : Below W1.heap.size W1 w4 := by rw [hw4]; exact below_setRow hbc hpB _
      have hq4 : row? w4 q = some #[.bool false] := by rw [hw4, row?_setRow_other _ _ _ _ hpq]; exact hq
      refine hK _ _ hb4 ?_
      have k := cell?_row (i := 0) hq4
      simp at k
      have hf := frozen?_row (i := 0) hq4
      have HQ4 := Lib.hid hq4
      clear hK K hw4 hp hq hpq hq4
      refine wpPlanT_done ?_
      simp only [List.drop_succ_cons, List.drop_zero]
      go_wp2_with fail
      refine ⟨p, q, ?_, ?_, hqB, ?_⟩
      · first | with_reducible rfl | exact ⟨rfl, rfl⟩
      · rw [row?_setCell_same, HQ4.out]; rfl
      · (repeat' (first | (with_reducible exact Below.refl _ _) | (with_reducible assumption) | (with_reducible refine Below.alloc ?_ ?_ _) | (with_reducible refine Below.drew ?_) | (with_reducible refine Below.setCell ?_ ?_ _) | (with_reducible refine below_setRow ?_ ?_ _) | (with_reducible exact Nat.le_refl _) | omega | (simp; done) | (simp; omega) | (simp at *; omega)))
  intro p7 b8 W2 ⟨hr8, hb8, hb2⟩
  have HB2 := Lib.hid hb2
  have hr8l := row?_lt hr8
  have HR8 := Lib.hid hr8
  have hs2 := hb2.size
  clear HLV hr8 hb2
  go_wp2_with fail
  have HBT := Lib.hid fun W => gbetween_any U V W
  refine wp_region_cut2 (fun W => Below W2.heap.size W2 W) 16 (.read 0 (.read 1 (.read 2 (.read 3 (.read 4 (.read 5 (.read 6 (.read 7 (.fork3 8 13 14 (.read 9 (.read 10 (.read 11 (.read 12 (.fork 13 14 (.act 14 (.act 15 .done)) (.act 13 (.act 15 .done))))))) (.fork 8 14 (.read 9 (.read 10 (.read 11 (.read 12 (.act 14 (.act 15 .done)))))) (.act 8 (.read 9 (.read 10 (.read 11 (.read 12 (.act 15 .done))))))) (.fork 8 13 (.read 9 (.read 10 (.read 11 (.read 12 (.act 13 (.act 15 .done)))))) (.act 8 (.read 9 (.read 10 (.read 11 (.read 12 (.act 15 .done))))))))))))))))
    (fun _ b W => row? W b = some #[.bool be] ∧ W2.heap.size ≤ b ∧ Below W2.heap.size W2 W) (by kernel_rfl) (by kernel_rfl) (Below.refl _ _).drew ?_
  apply Exists.intro
  constructor
  · (repeat (apply wpPlanT_still rfl rfl; (intro w hw; obtain ⟨k1, -, k2, k3, k4⟩ := HR.out w (HB1.out.trans ((HB2.out.trans (hw.mono HB2.out.size)).mono HB1.out.size)); clear hw; go_simp; (try go_ints); (first | with_reducible rfl | (go_simp; with_reducible rfl))); (intro K hK; go_simp; (try go_ints); refine hK _ _ ?_; clear hK K)))
    have hbc : Below W2.heap.size W2 W2.drew := (Below.refl _ W2).drew
    refine wpPlanT_fork3 ?_ ?_ ?_
    · apply wpPlanT_act rfl rfl
      intro K hK
      unfold Oper.wp
      go_simp
      refine (HBT.out _).mono ?_
      rintro e w' ⟨rfl, hbw⟩
      have hbc := hbc.trans (hbw.mono hbc.size)
      refine hK _ _ hbc ?_
      clear hK K
      (repeat (apply wpPlanT_still rfl rfl; (intro w hw; have kl := HLE.out w (HB0.out.trans ((HB1.out.trans ((HB2.out.trans (hw.mono HB2.out.size)).mono HB1.out.size)).mono HB0.out.size)); clear hw; go_simp; (try go_ints); (first | with_reducible rfl | (go_simp; with_reducible rfl))); (intro K hK; go_simp; (try go_ints); refine hK _ _ ?_; clear hK K)))
      refine wpPlanT_fork ?_ ?_
      · refine wpPlanT_alloc #[.int .u8 0, .int .i64 0] 111 rfl rfl (by intro W; go_simp) ?_
        intro p wn hp hpl hpu hbn
        have hpB : W2.heap.size ≤ p := Nat.le_trans hbc.size hpl
        have hbc := hbc.trans (hbn.mono hbc.size)
        refine ⟨hbc, ?_⟩
        intro K hK; go_simp; refine hK _ _ ?_; clear hK K
        refine wpPlanT_alloc #[.bool false] 4 rfl rfl (by intro W; go_simp) ?_
        intro q wm hq hql hqu hbm
        have hqB : W2.heap.size ≤ q := Nat.le_trans hbc.size hql
        have hbc := hbc.trans (hbm.mono hbc.size)
        refine ⟨hbc, ?_⟩
        intro K hK; go_simp; refine hK _ _ ?_; clear hK K
        have hp := (row?_below hbm hpu).trans hp
        have hpu := Nat.lt_of_lt_of_le hpu hbm.size
        have hpq : ¬ q = p := by omega
        apply wpPlanT_act rfl rfl
        intro K hK
        unfold Oper.wp
        go_simp
        obtain ⟨w4, hw4⟩ : ∃ w4, w4 = World.setRow wm p #[.int .u8 (te.1 : Int), .int .i64 te.2] := ⟨_, rfl⟩
        rw [← hw4]
        have hb4 : Below W2.heap.size W2 w4 := by rw [hw4]; exact below_setRow hbc hpB _
        have hq4 : row? w4 q = some #[.bool false] := by rw [hw4, row?_setRow_other _ _ _ _ hpq]; exact hq
        refine hK _ _ hb4 ?_
        have k := cell?_row (i := 0) hq4
        simp at k
        have hf := frozen?_row (i := 0) hq4
        have HQ4 := Lib.hid hq4
        clear hK K hw4 hp hq hpq hq4
        refine wpPlanT_done ?_
        simp only [List.drop_succ_cons, List.drop_zero]
        go_wp2_with fail
        refine ⟨p, q, ?_, ?_, hqB, ?_⟩
        · first | with_reducible rfl | exact ⟨rfl, rfl⟩
        · rw [row?_setCell_same, HQ4.out]; rfl
        · (repeat' (first | (with_reducible exact Below.refl _ _) | (with_reducible assumption) | (with_reducible refine Below.alloc ?_ ?_ _) | (with_reducible refine Below.drew ?_) | (with_reducible refine Below.setCell ?_ ?_ _) | (with_reducible refine below_setRow ?_ ?_ _) | (with_reducible exact Nat.le_refl _) | omega | (simp; done) | (simp; omega) | (simp at *; omega)))
      · refine wpPlanT_alloc #[.bool false] 4 rfl rfl (by intro W; go_simp) ?_
        intro q wm hq hql hqu hbm
        have hqB : W2.heap.size ≤ q := Nat.le_trans hbc.size hql
        have hbc := hbc.trans (hbm.mono hbc.size)
        refine ⟨hbc, ?_⟩
        intro K hK; go_simp; refine hK _ _ ?_; clear hK K
        refine wpPlanT_alloc #[.int .u8 0, .int .i64 0] 111 rfl rfl (by intro W; go_simp) ?_
        intro p wn hp hpl hpu hbn
        have hpB : W2.heap.size ≤ p := Nat.le_trans hbc.size hpl
        have hbc := hbc.trans (hbn.mono hbc.size)
        refine ⟨hbc, ?_⟩
        intro K hK; go_simp; refine hK _ _ ?_; clear hK K
        have hq := (row?_below hbn hqu).trans hq
        have hqu := Nat.lt_of_lt_of_le hqu hbn.size
        have hpq : ¬ q = p := by omega
        apply wpPlanT_act rfl rfl
        intro K hK
        unfold Oper.wp
        go_simp
        obtain ⟨w4, hw4⟩ : ∃ w4, w4 = World.setRow wn p #[.int .u8 (te.1 : Int), .int .i64 te.2] := ⟨_, rfl⟩
        rw [← hw4]
        have hb4 : Below W2.heap.size W2 w4 := by rw [hw4]; exact below_setRow hbc hpB _
        have hq4 : row? w4 q = some #[.bool false] := by rw [hw4, row?_setRow_other _ _ _ _ hpq]; exact hq
        refine hK _ _ hb4 ?_
        have k := cell?_row (i := 0) hq4
        simp at k
        have hf := frozen?_row (i := 0) hq4
        have HQ4 := Lib.hid hq4
        clear hK K hw4 hp hq hpq hq4
        refine wpPlanT_done ?_
        simp only [List.drop_succ_cons, List.drop_zero]
        go_wp2_with fail
        refine ⟨p, q, ?_, ?_, hqB, ?_⟩
        · first | with_reducible rfl | exact ⟨rfl, rfl⟩
        · rw [row?_setCell_same, HQ4.out]; rfl
        · (repeat' (first | (with_reducible exact Below.refl _ _) | (with_reducible assumption) | (with_reducible refine Below.alloc ?_ ?_ _) | (with_reducible refine Below.drew ?_) | (with_reducible refine Below.setCell ?_ ?_ _) | (with_reducible refine below_setRow ?_ ?_ _) | (with_reducible exact Nat.le_refl _) | omega | (simp; done) | (simp; omega) | (simp at *; omega)))
    · refine wpPlanT_alloc #[.int .u8 0, .int .i64 0] 111 rfl rfl (by intro W; go_simp) ?_
      intro p wn hp hpl hpu hbn
      have hpB : W2.heap.size ≤ p := Nat.le_trans hbc.size hpl
      have hbc := hbc.trans (hbn.mono hbc.size)
      refine ⟨hbc, ?_⟩
      intro K hK; go_simp; refine hK _ _ ?_; clear hK K
      refine wpPlanT_fork ?_ ?_
      · apply wpPlanT_act rfl rfl
        intro K hK
        unfold Oper.wp
        go_simp
        refine (HBT.out _).mono ?_
        rintro e w' ⟨rfl, hbw⟩
        have hbc := hbc.trans (hbw.mono hbc.size)
        refine hK _ _ hbc ?_
        clear hK K
        have hp := (row?_below hbw hpu).trans hp
        have hpu := Nat.lt_of_lt_of_le hpu hbw.size
        (repeat (apply wpPlanT_still rfl rfl; (intro w hw; have kl := HLE.out w (HB0.out.trans ((HB1.out.trans ((HB2.out.trans (hw.mono HB2.out.size)).mono HB1.out.size)).mono HB0.out.size)); clear hw; go_simp; (try go_ints); (first | with_reducible rfl | (go_simp; with_reducible rfl))); (intro K hK; go_simp; (try go_ints); refine hK _ _ ?_; clear hK K)))
        refine wpPlanT_alloc #[.bool false] 4 rfl rfl (by intro W; go_simp) ?_
        intro q wm hq hql hqu hbm
        have hqB : W2.heap.size ≤ q := Nat.le_trans hbc.size hql
        have hbc := hbc.trans (hbm.mono hbc.size)
        refine ⟨hbc, ?_⟩
        intro K hK; go_simp; refine hK _ _ ?_; clear hK K
        have hp := (row?_below hbm hpu).trans hp
        have hpu := Nat.lt_of_lt_of_le hpu hbm.size
        have hpq : ¬ q = p := by omega
        apply wpPlanT_act rfl rfl
        intro K hK
        unfold Oper.wp
        go_simp
        obtain ⟨w4, hw4⟩ : ∃ w4, w4 = World.setRow wm p #[.int .u8 (te.1 : Int), .int .i64 te.2] := ⟨_, rfl⟩
        rw [← hw4]
        have hb4 : Below W2.heap.size W2 w4 := by rw [hw4]; exact below_setRow hbc hpB _
        have hq4 : row? w4 q = some #[.bool false] := by rw [hw4, row?_setRow_other _ _ _ _ hpq]; exact hq
        refine hK _ _ hb4 ?_
        have k := cell?_row (i := 0) hq4
        simp at k
        have hf := frozen?_row (i := 0) hq4
        have HQ4 := Lib.hid hq4
        clear hK K hw4 hp hq hpq hq4
        refine wpPlanT_done ?_
        simp only [List.drop_succ_cons, List.drop_zero]
        go_wp2_with fail
        refine ⟨p, q, ?_, ?_, hqB, ?_⟩
        · first | with_reducible rfl | exact ⟨rfl, rfl⟩
        · rw [row?_setCell_same, HQ4.out]; rfl
        · (repeat' (first | (with_reducible exact Below.refl _ _) | (with_reducible assumption) | (with_reducible refine Below.alloc ?_ ?_ _) | (with_reducible refine Below.drew ?_) | (with_reducible refine Below.setCell ?_ ?_ _) | (with_reducible refine below_setRow ?_ ?_ _) | (with_reducible exact Nat.le_refl _) | omega | (simp; done) | (simp; omega) | (simp at *; omega)))
      · refine wpPlanT_alloc #[.bool false] 4 rfl rfl (by intro W; go_simp) ?_
        intro q wm hq hql hqu hbm
        have hqB : W2.heap.size ≤ q := Nat.le_trans hbc.size hql
        have hbc := hbc.trans (hbm.mono hbc.size)
        refine ⟨hbc, ?_⟩
        intro K hK; go_simp; refine hK _ _ ?_; clear hK K
        have hp := (row?_below hbm hpu).trans hp
        have hpu := Nat.lt_of_lt_of_le hpu hbm.size
        have hpq : ¬ q = p := by omega
        apply wpPlanT_act rfl rfl
        intro K hK
        unfold Oper.wp
        go_simp
        refine (HBT.out _).mono ?_
        rintro e w' ⟨rfl, hbw⟩
        have hbc := hbc.trans (hbw.mono hbc.size)
        refine hK _ _ hbc ?_
        clear hK K
        have hp := (row?_below hbw hpu).trans hp
        have hpu := Nat.lt_of_lt_of_le hpu hbw.size
        have hq := (row?_below hbw hqu).trans hq
        have hqu := Nat.lt_of_lt_of_le hqu hbw.size
        (repeat (apply wpPlanT_still rfl rfl; (intro w hw; have kl := HLE.out w (HB0.out.trans ((HB1.out.trans ((HB2.out.trans (hw.mono HB2.out.size)).mono HB1.out.size)).mono HB0.out.size)); clear hw; go_simp; (try go_ints); (first | with_reducible rfl | (go_simp; with_reducible rfl))); (intro K hK; go_simp; (try go_ints); refine hK _ _ ?_; clear hK K)))
        apply wpPlanT_act rfl rfl
        intro K hK
        unfold Oper.wp
        go_simp
        obtain ⟨w4, hw4⟩ : ∃ w4, w4 = World.setRow w' p #[.int .u8 (te.1 : Int), .int .i64 te.2] := ⟨_, rfl⟩
        rw [← hw4]
        have hb4 : Below W2.heap.size W2 w4 := by rw [hw4]; exact below_setRow hbc hpB _
        have hq4 : row? w4 q = some #[.bool false] := by rw [hw4, row?_setRow_other _ _ _ _ hpq]; exact hq
        refine hK _ _ hb4 ?_
        have k := cell?_row (i := 0) hq4
        simp at k
        have hf := frozen?_row (i := 0) hq4
        have HQ4 := Lib.hid hq4
        clear hK K hw4 hp hq hpq hq4
        refine wpPlanT_done ?_
        simp only [List.drop_succ_cons, List.drop_zero]
        go_wp2_with fail
        refine ⟨p, q, ?_, ?_, hqB, ?_⟩
        · first | with_reducible rfl | exact ⟨rfl, rfl⟩
        · rw [row?_setCell_same, HQ4.out]; rfl
        · (repeat' (first | (with_reducible exact Below.refl _ _) | (with_reducible assumption) | (with_reducible refine Below.alloc ?_ ?_ _) | (with_reducible refine Below.drew ?_) | (with_reducible refine Below.setCell ?_ ?_ _) | (with_reducible refine below_setRow ?_ ?_ _) | (with_reducible exact Nat.le_refl _) | omega | (simp; done) | (simp; omega) | (simp at *; omega)))
    · refine wpPlanT_alloc #[.bool false] 4 rfl rfl (by intro W; go_simp) ?_
      intro q wm hq hql hqu hbm
      have hqB : W2.heap.size ≤ q := Nat.le_trans hbc.size hql
      have hbc := hbc.trans (hbm.mono hbc.size)
      refine ⟨hbc, ?_⟩
      intro K hK; go_simp; refine hK _ _ ?_; clear hK K
      refine wpPlanT_fork ?_ ?_
      · apply wpPlanT_act rfl rfl
        intro K hK
        unfold Oper.wp
        go_simp
        refine (HBT.out _).mono ?_
        rintro e w' ⟨rfl, hbw⟩
        have hbc := hbc.trans (hbw.mono hbc.size)
        refine hK _ _ hbc ?_
        clear hK K
        have hq := (row?_below hbw hqu).trans hq
        have hqu := Nat.lt_of_lt_of_le hqu hbw.size
        (repeat (apply wpPlanT_still rfl rfl; (intro w hw; have kl := HLE.out w (HB0.out.trans ((HB1.out.trans ((HB2.out.trans (hw.mono HB2.out.size)).mono HB1.out.size)).mono HB0.out.size)); clear hw; go_simp; (try go_ints); (first | with_reducible rfl | (go_simp; with_reducible rfl))); (intro K hK; go_simp; (try go_ints); refine hK _ _ ?_; clear hK K)))
        refine wpPlanT_alloc #[.int .u8 0, .int .i64 0] 111 rfl rfl (by intro W; go_simp) ?_
        intro p wn hp hpl hpu hbn
        have hpB : W2.heap.size ≤ p := Nat.le_trans hbc.size hpl
        have hbc := hbc.trans (hbn.mono hbc.size)
        refine ⟨hbc, ?_⟩
        intro K hK; go_simp; refine hK _ _ ?_; clear hK K
        have hq := (row?_below hbn hqu).trans hq
        have hqu := Nat.lt_of_lt_of_le hqu hbn.size
        have hpq : ¬ q = p := by omega
        apply wpPlanT_act rfl rfl
        intro K hK
        unfold Oper.wp
        go_simp
        obtain ⟨w4, hw4⟩ : ∃ w4, w4 = World.setRow wn p #[.int .u8 (te.1 : Int), .int .i64 te.2] := ⟨_, rfl⟩
        rw [← hw4]
        have hb4 : Below W2.heap.size W2 w4 := by rw [hw4]; exact below_setRow hbc hpB _
        have hq4 : row? w4 q = some #[.bool false] := by rw [hw4, row?_setRow_other _ _ _ _ hpq]; exact hq
        refine hK _ _ hb4 ?_
        have k := cell?_row (i := 0) hq4
        simp at k
        have hf := frozen?_row (i := 0) hq4
        have HQ4 := Lib.hid hq4
        clear hK K hw4 hp hq hpq hq4
        refine wpPlanT_done ?_
        simp only [List.drop_succ_cons, List.drop_zero]
        go_wp2_with fail
        refine ⟨p, q, ?_, ?_, hqB, ?_⟩
        · first | with_reducible rfl | exact ⟨rfl, rfl⟩
        · rw [row?_setCell_same, HQ4.out]; rfl
        · (repeat' (first | (with_reducible exact Below.refl _ _) | (with_reducible assumption) | (with_reducible refine Below.alloc ?_ ?_ _) | (with_reducible refine Below.drew ?_) | (with_reducible refine Below.setCell ?_ ?_ _) | (with_reducible refine below_setRow ?_ ?_ _) | (with_reducible exact Nat.le_refl _) | omega | (simp; done) | (simp; omega) | (simp at *; omega)))
      · refine wpPlanT_alloc #[.int .u8 0, .int .i64 0] 111 rfl rfl (by intro W; go_simp) ?_
        intro p wn hp hpl hpu hbn
        have hpB : W2.heap.size ≤ p := Nat.le_trans hbc.size hpl
        have hbc := hbc.trans (hbn.mono hbc.size)
        refine ⟨hbc, ?_⟩
        intro K hK; go_simp; refine hK _ _ ?_; clear hK K
        have hq := (row?_below hbn hqu).trans hq
        have hqu := Nat.lt_of_lt_of_le hqu hbn.size
        have hpq : ¬ q = p := by omega
        apply wpPlanT_act rfl rfl
        intro K hK
        unfold Oper.wp
        go_simp
        refine (HBT.out _).mono ?_
        rintro e w' ⟨rfl, hbw⟩
        have hbc := hbc.trans (hbw.mono hbc.size)
        refine hK _ _ hbc ?_
        clear hK K
        have hp := (row?_below hbw hpu).trans hp
        have hpu := Nat.lt_of_lt_of_le hpu hbw.size
        have hq := (row?_below hbw hqu).trans hq
        have hqu := Nat.lt_of_lt_of_le hqu hbw.size
        (repeat (apply wpPlanT_still rfl rfl; (intro w hw; have kl := HLE.out w (HB0.out.trans ((HB1.out.trans ((HB2.out.trans (hw.mono HB2.out.size)).mono HB1.out.size)).mono HB0.out.size)); clear hw; go_simp; (try go_ints); (first | with_reducible rfl | (go_simp; with_reducible rfl))); (intro K hK; go_simp; (try go_ints); refine hK _ _ ?_; clear hK K)))
        apply wpPlanT_act rfl rfl
        intro K hK
        unfold Oper.wp
        go_simp
        obtain ⟨w4, hw4⟩ : ∃ w4, w4 = World.setRow w' p #[.int .u8 (te.1 : Int), .int .i64 te.2] := ⟨_, rfl⟩
        rw [← hw4]
        have hb4 : Below W2.heap.size W2 w4 := by rw [hw4]; exact below_setRow hbc hpB _
        have hq4 : row? w4 q = some #[.bool false] := by rw [hw4, row?_setRow_other _ _ _ _ hpq]; exact hq
        refine hK _ _ hb4 ?_
        have k := cell?_row (i := 0) hq4
        simp at k
        have hf := frozen?_row (i := 0) hq4
        have HQ4 := Lib.hid hq4
        clear hK K hw4 hp hq hpq hq4
        refine wpPlanT_done ?_
        simp only [List.drop_succ_cons, List.drop_zero]
        go_wp2_with fail
        refine ⟨p, q, ?_, ?_, hqB, ?_⟩
        · first | with_reducible rfl | exact ⟨rfl, rfl⟩
        · rw [row?_setCell_same, HQ4.out]; rfl
        · (repeat' (first | (with_reducible exact Below.refl _ _) | (with_reducible assumption) | (with_reducible refine Below.alloc ?_ ?_ _) | (with_reducible refine Below.drew ?_) | (with_reducible refine Below.setCell ?_ ?_ _) | (with_reducible refine below_setRow ?_ ?_ _) | (with_reducible exact Nat.le_refl _) | omega | (simp; done) | (simp; omega) | (simp at *; omega)))
  intro p9 b10 W3 ⟨hr10, hb10, hb3⟩
  have HB3 := Lib.hid hb3
  have hr10l := row?_lt hr10
  have HR10 := Lib.hid hr10
  have hs3 := hb3.size
  clear HLE hr10 hb3 HBT
  go_wp2_with fail
  generalize hW4 : World.alloc W3 _ = W4
  obtain ⟨hrT, hB4⟩ := alloc_row hW4
  have hs4 := row?_lt hrT
  clear hW4
  obtain ⟨t1, ht1⟩ : ∃ t, t = decide (e.op < 0 ∨ 8 ≤ e.op) := ⟨_, rfl⟩
  obtain ⟨t2, ht2⟩ : ∃ t, t = (!idB e.u || (e.pairs && !idB e.v) || (e.weighs && heavyB e.wt)) := ⟨_, rfl⟩
  obtain ⟨t3, ht3⟩ : ∃ t, t = (e.pairs && decide (e.u = e.v)) := ⟨_, rfl⟩
  obtain ⟨t4, ht4⟩ : ∃ t, t = (decide (e.op = 0) && bu) := ⟨_, rfl⟩
  obtain ⟨t5, ht5⟩ : ∃ t, t = ((decide (e.op ≠ 0) && !e.pairs && !bu) || (decide (e.op = 2) && !(bu && bv))) := ⟨_, rfl⟩
  obtain ⟨t6, ht6⟩ : ∃ t, t = (e.pairs && decide (e.op ≠ 2) && !be) := ⟨_, rfl⟩
  obtain ⟨t7, ht7⟩ : ∃ t, t = (decide (e.op = 2) && be) := ⟨_, rfl⟩
  obtain ⟨t8, ht8⟩ : ∃ t, t = (decide (e.op = 2) && decide (1024 ≤ G.E.length)) := ⟨_, rfl⟩
  have hre4 := (row?_below hB4 (by omega)).trans ((row?_below HB3.out (by omega)).trans ((row?_below HB2.out (by omega)).trans ((row?_below HB1.out (by omega)).trans HRE.out)))
  have hrb4 := (row?_below hB4 (by omega)).trans ((row?_below HB3.out (by omega)).trans ((row?_below HB2.out (by omega)).trans ((row?_below HB1.out (by omega)).trans HRB.out)))
  have hr64 := (row?_below hB4 (by omega)).trans ((row?_below HB3.out (by omega)).trans ((row?_below HB2.out (by omega)).trans HR6.out))
  have hr84 := (row?_below hB4 (by omega)).trans ((row?_below HB3.out (by omega)).trans HR8.out)
  have hr104 := (row?_below hB4 (by omega)).trans HR10.out
  have hbe : Below w.heap.size w W4 := HB0.out.trans ((HB1.out.trans ((HB2.out.trans ((HB3.out.trans (hB4.mono hs3)).mono hs2)).mono hs1)).mono HB0.out.size)
  have hse := hbe.size
  have hse1 : w.heap.size + 1 < W4.heap.size := by omega
  have hG4 := H0.out.below hbe
  have HBE := Lib.hid hbe
  have HC1 := Lib.hid fun W (hb : Below W4.heap.size W4 W) => wrong1_any e (w.heap.size + 1) W ((row?_below hb hse1).trans hre4)
  have HC2 := Lib.hid fun W (hb : Below W4.heap.size W4 W) => wrong2_any e (w.heap.size + 1) W ((row?_below hb hse1).trans hre4)
  have HC3 := Lib.hid fun W (hb : Below W4.heap.size W4 W) => wrong3_any e (w.heap.size + 1) W ((row?_below hb hse1).trans hre4)
  have HC4 := Lib.hid fun W (hb : Below W4.heap.size W4 W) => wrong4_any e (w.heap.size + 1) b6 bu W ((row?_below hb hse1).trans hre4) ((row?_below hb (row?_lt hr64)).trans hr64)
  have HC5 := Lib.hid fun W (hb : Below W4.heap.size W4 W) => wrong5_any e (w.heap.size + 1) b6 b8 bu bv W ((row?_below hb hse1).trans hre4) ((row?_below hb (row?_lt hr64)).trans hr64) ((row?_below hb (row?_lt hr84)).trans hr84)
  have HC6 := Lib.hid fun W (hb : Below W4.heap.size W4 W) => wrong6_any e (w.heap.size + 1) b10 be W ((row?_below hb hse1).trans hre4) ((row?_below hb (row?_lt hr104)).trans hr104)
  have HC7 := Lib.hid fun W (hb : Below W4.heap.size W4 W) => wrong7_any e (w.heap.size + 1) b10 be W ((row?_below hb hse1).trans hre4) ((row?_below hb (row?_lt hr104)).trans hr104)
  have HC8 := Lib.hid fun W (hb : Below W4.heap.size W4 W) => wrong8_any e (w.heap.size + 1) w.heap.size g bV bE G W ((row?_below hb hse1).trans hre4) ((row?_below hb (by omega)).trans hrb4) (hG4.below hb)
  have HW : Hid (G.wrong e = if t1 then 11 else if t2 then 2 else if t3 then 15 else if t4 then 7 else if t5 then 9 else if t6 then 9 else if t7 then 7 else if t8 then 8 else 0) := by
    refine Lib.hid ?_
    obtain ⟨h1, h2, h3⟩ := HB.out
    rw [HUV.out.1] at h1 h3
    rw [HUV.out.2] at h2 h3
    unfold Gr.wrong
    rw [← h1, ← h2, ← h3, ← ht2, ← ht3, ← ht4, ← ht5, ← ht6, ← ht7, ← ht8, ht1]
    simp only [decide_eq_true_eq]
  rw [← ht1] at HC1
  rw [← ht2] at HC2
  rw [← ht3] at HC3
  rw [← ht4] at HC4
  rw [← ht5] at HC5
  rw [← ht6] at HC6
  rw [← ht7] at HC7
  rw [← ht8] at HC8
  clear ht1 ht2 ht3 ht4 ht5 ht6 ht7 ht8 hre4 hrb4 hr64 hr84 hr104 hbe hG4 HRE HRB HR6 HR8 HR10 HR HB HUV HB0 HB1 HB2 HB3 H0 HE hB4
  go_loopw [64] (fun i wr => ∃ k : Nat, k ≤ 8 ∧ i = .int .i64 (k : Int) ∧ (∀ x ∈ [t1, t2, t3, t4, t5, t6, t7, t8].take k, x = false) ∧ Below W4.heap.size W4 wr) (fun i _ => 8 - (intOf i).toNat)
  case atStart => exact ⟨0, by omega, rfl, by simp, Below.refl _ _⟩
  case round =>
    obtain ⟨k, hk, rfl, hno, hb⟩ := hrel
    have hrr := (row?_below hb (by omega)).trans hrT
    have hszb := hb.size
    have HB := Lib.hid hb
    have HNO := Lib.hid hno
    clear hb hno
    obtain rfl | rfl | rfl | rfl | rfl | rfl | rfl | rfl | rfl : k = 0 ∨ k = 1 ∨ k = 2 ∨ k = 3 ∨ k = 4 ∨ k = 5 ∨ k = 6 ∨ k = 7 ∨ k = 8 := by omega
    · have c0 := cell?_row (i := 2 * 0) hrr
      have c1 := cell?_row (i := 2 * 0 + 1) hrr
      simp at c0 c1
      clear hrr
      go_wp2_with fail
      refine Calls.mono (HC1.out _ (HB.out.alloc HB.out.size _)) ?_
      rintro r w5 ⟨rfl, rfl⟩
      cases htt : t1
      · go_wp2_with fail
        go_roundw
        case rel => exact ⟨0 + 1, by omega, by go_num, by have h := HNO.out; simp at h ⊢; first | (simp [htt]; done) | simp [h, htt], HB.out.alloc HB.out.size _⟩
        case measure => simp [intOf]
      · go_wp2_with fail
        go_ret
        refine ⟨?_, HBE.out.trans ((HB.out.alloc HB.out.size _).mono hse)⟩
        rw [HW.out]
        have h := HNO.out
        simp at h
        first | (simp [htt]; done) | simp [h, htt]
    · have c0 := cell?_row (i := 2 * 1) hrr
      have c1 := cell?_row (i := 2 * 1 + 1) hrr
      simp at c0 c1
      clear hrr
      go_wp2_with fail
      refine Calls.mono (HC2.out _ (HB.out.alloc HB.out.size _)) ?_
      rintro r w5 ⟨rfl, rfl⟩
      cases htt : t2
      · go_wp2_with fail
        go_roundw
        case rel => exact ⟨1 + 1, by omega, by go_num, by have h := HNO.out; simp at h ⊢; first | (simp [htt]; done) | simp [h, htt], HB.out.alloc HB.out.size _⟩
        case measure => simp [intOf]
      · go_wp2_with fail
        go_ret
        refine ⟨?_, HBE.out.trans ((HB.out.alloc HB.out.size _).mono hse)⟩
        rw [HW.out]
        have h := HNO.out
        simp at h
        first | (simp [htt]; done) | simp [h, htt]
    · have c0 := cell?_row (i := 2 * 2) hrr
      have c1 := cell?_row (i := 2 * 2 + 1) hrr
      simp at c0 c1
      clear hrr
      go_wp2_with fail
      refine Calls.mono (HC3.out _ (HB.out.alloc HB.out.size _)) ?_
      rintro r w5 ⟨rfl, rfl⟩
      cases htt : t3
      · go_wp2_with fail
        go_roundw
        case rel => exact ⟨2 + 1, by omega, by go_num, by have h := HNO.out; simp at h ⊢; first | (simp [htt]; done) | simp [h, htt], HB.out.alloc HB.out.size _⟩
        case measure => simp [intOf]
      · go_wp2_with fail
        go_ret
        refine ⟨?_, HBE.out.trans ((HB.out.alloc HB.out.size _).mono hse)⟩
        rw [HW.out]
        have h := HNO.out
        simp at h
        first | (simp [htt]; done) | simp [h, htt]
    · have c0 := cell?_row (i := 2 * 3) hrr
      have c1 := cell?_row (i := 2 * 3 + 1) hrr
      simp at c0 c1
      clear hrr
      go_wp2_with fail
      refine Calls.mono (HC4.out _ (HB.out.alloc HB.out.size _)) ?_
      rintro r w5 ⟨rfl, rfl⟩
      cases htt : t4
      · go_wp2_with fail
        go_roundw
        case rel => exact ⟨3 + 1, by omega, by go_num, by have h := HNO.out; simp at h ⊢; first | (simp [htt]; done) | simp [h, htt], HB.out.alloc HB.out.size _⟩
        case measure => simp [intOf]
      · go_wp2_with fail
        go_ret
        refine ⟨?_, HBE.out.trans ((HB.out.alloc HB.out.size _).mono hse)⟩
        rw [HW.out]
        have h := HNO.out
        simp at h
        first | (simp [htt]; done) | simp [h, htt]
    · have c0 := cell?_row (i := 2 * 4) hrr
      have c1 := cell?_row (i := 2 * 4 + 1) hrr
      simp at c0 c1
      clear hrr
      go_wp2_with fail
      refine Calls.mono (HC5.out _ (HB.out.alloc HB.out.size _)) ?_
      rintro r w5 ⟨rfl, rfl⟩
      cases htt : t5
      · go_wp2_with fail
        go_roundw
        case rel => exact ⟨4 + 1, by omega, by go_num, by have h := HNO.out; simp at h ⊢; first | (simp [htt]; done) | simp [h, htt], HB.out.alloc HB.out.size _⟩
        case measure => simp [intOf]
      · go_wp2_with fail
        go_ret
        refine ⟨?_, HBE.out.trans ((HB.out.alloc HB.out.size _).mono hse)⟩
        rw [HW.out]
        have h := HNO.out
        simp at h
        first | (simp [htt]; done) | simp [h, htt]
    · have c0 := cell?_row (i := 2 * 5) hrr
      have c1 := cell?_row (i := 2 * 5 + 1) hrr
      simp at c0 c1
      clear hrr
      go_wp2_with fail
      refine Calls.mono (HC6.out _ (HB.out.alloc HB.out.size _)) ?_
      rintro r w5 ⟨rfl, rfl⟩
      cases htt : t6
      · go_wp2_with fail
        go_roundw
        case rel => exact ⟨5 + 1, by omega, by go_num, by have h := HNO.out; simp at h ⊢; first | (simp [htt]; done) | simp [h, htt], HB.out.alloc HB.out.size _⟩
        case measure => simp [intOf]
      · go_wp2_with fail
        go_ret
        refine ⟨?_, HBE.out.trans ((HB.out.alloc HB.out.size _).mono hse)⟩
        rw [HW.out]
        have h := HNO.out
        simp at h
        first | (simp [htt]; done) | simp [h, htt]
    · have c0 := cell?_row (i := 2 * 6) hrr
      have c1 := cell?_row (i := 2 * 6 + 1) hrr
      simp at c0 c1
      clear hrr
      go_wp2_with fail
      refine Calls.mono (HC7.out _ (HB.out.alloc HB.out.size _)) ?_
      rintro r w5 ⟨rfl, rfl⟩
      cases htt : t7
      · go_wp2_with fail
        go_roundw
        case rel => exact ⟨6 + 1, by omega, by go_num, by have h := HNO.out; simp at h ⊢; first | (simp [htt]; done) | simp [h, htt], HB.out.alloc HB.out.size _⟩
        case measure => simp [intOf]
      · go_wp2_with fail
        go_ret
        refine ⟨?_, HBE.out.trans ((HB.out.alloc HB.out.size _).mono hse)⟩
        rw [HW.out]
        have h := HNO.out
        simp at h
        first | (simp [htt]; done) | simp [h, htt]
    · have c0 := cell?_row (i := 2 * 7) hrr
      have c1 := cell?_row (i := 2 * 7 + 1) hrr
      simp at c0 c1
      clear hrr
      go_wp2_with fail
      refine Calls.mono (HC8.out _ (HB.out.alloc HB.out.size _)) ?_
      rintro r w5 ⟨rfl, rfl⟩
      cases htt : t8
      · go_wp2_with fail
        go_roundw
        case rel => exact ⟨7 + 1, by omega, by go_num, by have h := HNO.out; simp at h ⊢; first | (simp [htt]; done) | simp [h, htt], HB.out.alloc HB.out.size _⟩
        case measure => simp [intOf]
      · go_wp2_with fail
        go_ret
        refine ⟨?_, HBE.out.trans ((HB.out.alloc HB.out.size _).mono hse)⟩
        rw [HW.out]
        have h := HNO.out
        simp at h
        first | (simp [htt]; done) | simp [h, htt]
    · clear hrr
      go_wp2_with fail
      go_ret
      refine ⟨?_, HBE.out.trans (HB.out.mono hse)⟩
      rw [HW.out]
      have h := HNO.out
      simp at h
      simp [h]
end Go.Proofs.YtmmhngjndnonhaaGreatDoor
