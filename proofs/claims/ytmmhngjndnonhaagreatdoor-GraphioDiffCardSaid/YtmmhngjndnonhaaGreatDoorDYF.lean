/-
  Walks: a graph copied, graphs compared; the reference's graph of a graph, reference graphs compared; an edit as the reference has it.
-/
import Derived.Test.YtmmhngjndnonhaaGreatDoorDYD
import Derived.Test.YtmmhngjndnonhaaGreatDoorDYB
import Derived.Test.YtmmhngjndnonhaaGreatDoorDHE
import Derived.Test.YtmmhngjndnonhaaGreatDoorDShelfV
set_option linter.unusedSimpArgs false
set_option linter.unusedVariables false
namespace Go.Proofs.YtmmhngjndnonhaaGreatDoor
open Go Go.RowKit Go.Pal Go.Shelf
attribute [local go_sem] Oper.semAt_some

theorem cloneMV_any (b : Nat) (l : List (Int × Th)) (w : World) (h : Pal.Own CV Tryz.prog 3 w b l) : Calls Tryz.prog 52 #[.map (some b)] w fun e w' => e = .returned (.map (some w.heap.size)) ∧ Pal.Own CV Tryz.prog 3 w' w.heap.size l ∧ Below w.heap.size w w' := by
  obtain ⟨D, ho, hM⟩ := h
  exact (AnyW.maps_Clone_owns Tryz.laysCloneMV 3 CV.R b l.length D w ho).mono fun e w' ⟨h1, h2, _, h4⟩ => ⟨h1, ⟨D, h2, hM⟩, h4⟩
theorem cloneME_any (b : Nat) (l : List ((Int × Int) × Th)) (w : World) (h : Pal.Own CE Tryz.prog 117 w b l) : Calls Tryz.prog 53 #[.map (some b)] w fun e w' => e = .returned (.map (some w.heap.size)) ∧ Pal.Own CE Tryz.prog 117 w' w.heap.size l ∧ Below w.heap.size w w' := by
  obtain ⟨D, ho, hM⟩ := h
  exact (AnyW.maps_Clone_owns Tryz.laysCloneME 117 CE.R b l.length D w ho).mono fun e w' ⟨h1, h2, _, h4⟩ => ⟨h1, ⟨D, h2, hM⟩, h4⟩
set_option maxHeartbeats 1000000 in
theorem gclone_any (g bV bE : Nat) (G : Gr) (w : World) (h : GOk w g bV bE G) :
    Calls Tryz.prog 10 #[.pointer (some ⟨g, 0, none⟩)] w fun r w' => ∃ g' bV' bE', r = .returned (.pointer (some ⟨g', 0, none⟩)) ∧ GOk w' g' bV' bE' G ∧ (w.heap.size ≤ g' ∧ w.heap.size ≤ bV' ∧ w.heap.size ≤ bE') ∧ Below w.heap.size w w' := by
  have H0 := Lib.hid h
  have hgl := h.lt
  have HC := Lib.hid fun W (hW : Below w.heap.size w W) => show W.cell? ⟨g, 0, none⟩ = some (.map (some bV)) ∧ W.cell? ⟨g, 1, none⟩ = some (.map (some bE)) from ⟨(cell?_row (i := 0) (h.below hW).row).trans rfl, (cell?_row (i := 1) (h.below hW).row).trans rfl⟩
  clear h
  go_enter Tryz.func10, Tryz.ntmps10
  go_wp2_with fail
  refine wp_region_mix (fun W => Below w.heap.size w W) 12 [(0, true), (1, true), (2, true), (3, true), (5, true), (6, true), (7, true), (8, true), (4, false), (9, false), (10, true), (11, false)] (by kernel_rfl) (by kernel_rfl) (Below.refl _ _).drew ?_
  repeat (apply wpPlan_still rfl rfl; (intro w hw; obtain ⟨k1, k2⟩ := HC.out _ hw; clear hw; go_simp; (try go_ints); (first | with_reducible rfl | (go_simp; with_reducible rfl))); (intro K hK; go_simp; (try go_ints); refine hK _ _ ?_; clear hK K))
  apply wpPlan_act rfl rfl
  intro K hK
  unfold Oper.wp
  go_simp
  refine (cloneMV_any bV G.V w.drew (H0.out.below (Below.refl _ _).drew).V).mono ?_
  rintro r w1 ⟨rfl, hV1, hb1⟩
  have hb1' : Below w.heap.size w w1 := (Below.refl _ w).drew.trans hb1
  have HV1 := Lib.hid hV1
  have HB1 := Lib.hid hb1'
  refine hK _ _ hb1' ?_
  clear hK K hV1 hb1 hb1'
  apply wpPlan_act rfl rfl
  intro K hK
  unfold Oper.wp
  go_simp
  refine (cloneME_any bE G.E w1 (H0.out.below HB1.out).E).mono ?_
  rintro r w2 ⟨rfl, hE2, hb2⟩
  have hs1 := HB1.out.size
  have HE2 := Lib.hid hE2
  have HV2 := Lib.hid (HV1.out.below hb2 HV1.out.lt)
  have HB2 := Lib.hid (HB1.out.trans (hb2.mono hs1))
  have hne : w.drew.heap.size ≠ w1.heap.size := by have := HV1.out.lt; omega
  refine hK _ _ HB2.out ?_
  clear hK K hE2 hb2
  repeat (apply wpPlan_still rfl rfl; (intro w hw; clear hw; go_simp; (try go_ints); (first | with_reducible rfl | (go_simp; with_reducible rfl))); (intro K hK; go_simp; (try go_ints); refine hK _ _ ?_; clear hK K))
  apply wpPlan_act rfl rfl
  intro K hK
  unfold Oper.wp
  go_simp
  have hs2 := HB2.out.size
  refine hK _ _ (HB2.out.alloc hs2 _) ?_
  clear hK K
  refine wpPlan_nil ?_
  simp only [List.drop_succ_cons, List.drop_zero]
  go_wp2_with fail
  go_ret
  have hl2 := HE2.out.lt
  have hl1 := HV2.out.lt
  refine ⟨w2.heap.size, w.heap.size, w1.heap.size, rfl, ⟨row?_alloc_at _ _ _ _ rfl, HV2.out.congr (Below.heap_alloc _ _ _ hl1), HE2.out.congr (Below.heap_alloc _ _ _ hl2), hne⟩, ⟨by omega, Nat.le_refl _, by omega⟩, HB2.out.alloc hs2 _⟩
set_option maxRecDepth 10000 in
theorem eqTH (a b : Int) (w : World) : (Op.equalIn 10000 111 (.agg #[.int .u8 a, .int .i64 b]) (.agg #[.int .u8 a, .int .i64 b])).run Tryz.prog w = .ok true w := by
  have hst : Tryz.prog.stoodInHeld 111 = false := by kernel_rfl
  have h1 : ∀ (p : Int) w, (Op.equalIn 9999 3 (.int .i64 p) (.int .i64 p)).run Tryz.prog w = .ok true w := fun p w => by rw [run_equalIn_int (P := Tryz.prog) w 9998 3 .i64 .i64 p p Tryz.underlying3]; simp
  have h2 : ∀ (p : Int) w, (Op.equalIn 9999 5 (.int .u8 p) (.int .u8 p)).run Tryz.prog w = .ok true w := fun p w => by rw [run_equalIn_int (P := Tryz.prog) w 9998 5 .u8 .u8 p p Tryz.underlying5]; simp
  have hpr : ∀ w, (program).run Tryz.prog w = .ok Tryz.prog w := fun _ => rfl
  rw [show (10000 : Nat) = 9999 + 1 from rfl, Op.equalIn]
  simp only [Sem.run_bind, run_underlying Tryz.underlying111, Result.andThen_ok, hpr, hst, Bool.false_eq_true, if_false, List.forIn_toArray, List.forIn_cons, List.forIn_nil]
  simp [Sem.run_bind, part, Tryz.isAgg3, Tryz.isAgg5, h1, h2]
theorem guardTH : Tryz.prog.eqGuardType Tryz.prog.depth 111 = false := by kernel_rfl
set_option maxRecDepth 10000 in
set_option maxHeartbeats 2000000 in
theorem mequalV_any (b1 b2 : Nat) (l : List (Int × Th)) (w : World) (h1 : Pal.Own CV Tryz.prog 3 w b1 l) (h2 : Pal.Own CV Tryz.prog 3 w b2 l) :
    Calls Tryz.prog 56 #[.map (some b1), .map (some b2)] w fun r w' => r = .returned (.bool true) ∧ Below w.heap.size w w' := by
  have hl1 := fun ty => h1.len Tryz.underlying108 ty
  have hl2 := fun ty => h2.len Tryz.underlying108 ty
  have hnd := h1.nd
  have hok := h1.okd
  have hb2 := h2.lt
  have H2 := Lib.hid h2
  have HND := Lib.hid hnd
  have HOK := Lib.hid hok
  have hgt := guardTH
  have het := eqTH
  obtain ⟨w1, hrg, hR, hb, hs1⟩ := h1.range goodV Tryz.underlying108
  have HR := Lib.hid hR
  have HB := Lib.hid hb
  clear h1 h2 hR hb hnd hok
  go_enter Tryz.func56, Tryz.ntmps56
  go_wp2_with fail
  go_loopw [5] (fun _ wr => ∃ rest, (∀ p ∈ rest, p ∈ l) ∧ Rng CV Tryz.prog 3 wr b1 w.heap.size l rest ∧ Below w.heap.size w wr) (fun _ wr => wr.rangeLeft b1 w.heap.size)
  case atStart => exact ⟨l, fun p hp => hp, HR.out, HB.out⟩
  case round =>
    obtain ⟨rest, hin, hRr, hbr⟩ := hrel
    have hsz := hbr.size
    have hRlt := hRr.lt
    have HBr := Lib.hid hbr
    rcases hRr.next2 goodV 0 with ⟨rfl, hrun⟩ | ⟨x, y, r1, r2, w2, rfl, hrun, hR2, hgr, hsz2, hen, hlt⟩
    · clear hin hRr hrg
      go_wp2_with fail
      go_ret
      exact ⟨rfl, HBr.out⟩
    · have hmem := hin (x, y) (by simp)
      have hlk0 := (look_mem HND.out).2 hmem
      have hxok := HOK.out _ hmem
      have hS2 := same_grown hgr
      have hb2' : Below w.heap.size w w2 := hbr.trans (hS2.below (by omega) fun j hj e => by cases e; omega)
      have HB2 := Lib.hid hb2'
      have HR2 := Lib.hid hR2
      have HIn2 : Hid (∀ p ∈ r1 ++ r2, p ∈ l) := Lib.hid fun p hp => hin p (by
        rcases List.mem_append.1 hp with h | h
        · exact List.mem_append_left _ h
        · exact List.mem_append_right _ (List.mem_cons_of_mem _ h))
      have HLk := Lib.hid fun W (hW : Below w.heap.size w W) => (H2.out.below hW hb2).look_ok goodV Tryz.underlying108 (b0 := (0, 0)) zeroThing hxok
      rw [hlk0] at HLk
      have HLT := Lib.hid hlt
      obtain ⟨yl, yw⟩ := y
      obtain x := x
      have hrun1 : (Instr.next (.pointer (some ⟨w.heap.size, 0, none⟩)) false 0).run Tryz.prog wr = .ok (.tuple #[.bool true, .int .i64 x, .agg #[.int .u8 (yl : Int), .int .i64 yw]]) w2 := hrun
      have hen1 : (Instr.entry (.pointer (some ⟨w.heap.size, 0, none⟩))).run Tryz.prog w2 = .ok (.tuple #[.int .i64 x, .agg #[.int .u8 (yl : Int), .int .i64 yw]]) w2 := hen
      have hlk1 : ∀ o, (Instr.lookup 108 (.map (some b2)) (.int .i64 x) true).run Tryz.prog (w2.alloc o) = .ok (.tuple #[.agg #[.int .u8 (yl : Int), .int .i64 yw], .bool true]) (w2.alloc o) := fun o => HLk.out _ (HB2.out.alloc (by omega) _)
      have hlk2 : ∀ o o', (Instr.lookup 108 (.map (some b2)) (.int .i64 x) true).run Tryz.prog ((w2.alloc o).alloc o') = .ok (.tuple #[.agg #[.int .u8 (yl : Int), .int .i64 yw], .bool true]) ((w2.alloc o).alloc o') := fun o o' => HLk.out _ ((HB2.out.alloc (by omega) _).alloc (by simp; omega) _)
      clear hin hRr hrg hrun hen hlt hmem hlk0 hxok hR2 hgr hS2 hb2' hbr
      have hb1l := HR2.out.own.lt
      have hrl := HR2.out.lt
      have HE : Hid (∀ (j : Nat) (W' : World), Below w2.heap.size w2 W' → j < w2.heap.size → W'.heap[j]? = w2.heap[j]?) := Lib.hid fun j W' hb hj => hb.block j hj
      go_wp2_with fail
      go_roundw
      case rel =>
        refine ⟨r1 ++ r2, HIn2.out, HR2.out.congr (HE.out _ _ ?_ hb1l) (HE.out _ _ ?_ hrl), HB2.out.trans (Below.mono (B := w2.heap.size) ?_ (by omega))⟩
        all_goals
          (repeat' (first | (with_reducible exact Below.refl _ _) | (with_reducible assumption) | (with_reducible refine Below.alloc ?_ ?_ _) | (with_reducible refine Below.drew ?_) | (with_reducible refine Below.setCell ?_ ?_ _) | (with_reducible refine below_setRow ?_ ?_ _) | (with_reducible exact Nat.le_refl _) | omega | (simp; done) | (simp; omega) | (simp at *; omega)))
      case measure =>
        refine Nat.lt_of_le_of_lt (Nat.le_of_eq (left_congr (w := w2) (HE.out _ _ ?_ hb1l) (HE.out _ _ ?_ hrl))) HLT.out
        all_goals
          (repeat' (first | (with_reducible exact Below.refl _ _) | (with_reducible assumption) | (with_reducible refine Below.alloc ?_ ?_ _) | (with_reducible refine Below.drew ?_) | (with_reducible refine Below.setCell ?_ ?_ _) | (with_reducible refine below_setRow ?_ ?_ _) | (with_reducible exact Nat.le_refl _) | omega | (simp; done) | (simp; omega) | (simp at *; omega)))
set_option maxRecDepth 10000 in
set_option maxHeartbeats 2000000 in
theorem mequalE_any (b1 b2 : Nat) (l : List ((Int × Int) × Th)) (w : World) (h1 : Pal.Own CE Tryz.prog 117 w b1 l) (h2 : Pal.Own CE Tryz.prog 117 w b2 l) :
    Calls Tryz.prog 57 #[.map (some b1), .map (some b2)] w fun r w' => r = .returned (.bool true) ∧ Below w.heap.size w w' := by
  have hl1 := fun ty => h1.len Tryz.underlying112 ty
  have hl2 := fun ty => h2.len Tryz.underlying112 ty
  have hnd := h1.nd
  have hok := h1.okd
  have hb2 := h2.lt
  have H2 := Lib.hid h2
  have HND := Lib.hid hnd
  have HOK := Lib.hid hok
  have hgt := guardTH
  have het := eqTH
  obtain ⟨w1, hrg, hR, hb, hs1⟩ := h1.range goodE Tryz.underlying112
  have HR := Lib.hid hR
  have HB := Lib.hid hb
  clear h1 h2 hR hb hnd hok
  go_enter Tryz.func57, Tryz.ntmps57
  go_wp2_with fail
  go_loopw [5] (fun _ wr => ∃ rest, (∀ p ∈ rest, p ∈ l) ∧ Rng CE Tryz.prog 117 wr b1 w.heap.size l rest ∧ Below w.heap.size w wr) (fun _ wr => wr.rangeLeft b1 w.heap.size)
  case atStart => exact ⟨l, fun p hp => hp, HR.out, HB.out⟩
  case round =>
    obtain ⟨rest, hin, hRr, hbr⟩ := hrel
    have hsz := hbr.size
    have hRlt := hRr.lt
    have HBr := Lib.hid hbr
    rcases hRr.next2 goodE 0 with ⟨rfl, hrun⟩ | ⟨x, y, r1, r2, w2, rfl, hrun, hR2, hgr, hsz2, hen, hlt⟩
    · clear hin hRr hrg
      go_wp2_with fail
      go_ret
      exact ⟨rfl, HBr.out⟩
    · have hmem := hin (x, y) (by simp)
      have hlk0 := (look_mem HND.out).2 hmem
      have hxok := HOK.out _ hmem
      have hS2 := same_grown hgr
      have hb2' : Below w.heap.size w w2 := hbr.trans (hS2.below (by omega) fun j hj e => by cases e; omega)
      have HB2 := Lib.hid hb2'
      have HR2 := Lib.hid hR2
      have HIn2 : Hid (∀ p ∈ r1 ++ r2, p ∈ l) := Lib.hid fun p hp => hin p (by
        rcases List.mem_append.1 hp with h | h
        · exact List.mem_append_left _ h
        · exact List.mem_append_right _ (List.mem_cons_of_mem _ h))
      have HLk := Lib.hid fun W (hW : Below w.heap.size w W) => (H2.out.below hW hb2).look_ok goodE Tryz.underlying112 (b0 := (0, 0)) zeroThing hxok
      rw [hlk0] at HLk
      have HLT := Lib.hid hlt
      obtain ⟨yl, yw⟩ := y
      obtain ⟨x1, x2⟩ := x
      have hrun1 : (Instr.next (.pointer (some ⟨w.heap.size, 0, none⟩)) false 0).run Tryz.prog wr = .ok (.tuple #[.bool true, .agg #[.int .i64 x1, .int .i64 x2], .agg #[.int .u8 (yl : Int), .int .i64 yw]]) w2 := hrun
      have hen1 : (Instr.entry (.pointer (some ⟨w.heap.size, 0, none⟩))).run Tryz.prog w2 = .ok (.tuple #[.agg #[.int .i64 x1, .int .i64 x2], .agg #[.int .u8 (yl : Int), .int .i64 yw]]) w2 := hen
      have hlk1 : ∀ o, (Instr.lookup 112 (.map (some b2)) (.agg #[.int .i64 x1, .int .i64 x2]) true).run Tryz.prog (w2.alloc o) = .ok (.tuple #[.agg #[.int .u8 (yl : Int), .int .i64 yw], .bool true]) (w2.alloc o) := fun o => HLk.out _ (HB2.out.alloc (by omega) _)
      have hlk2 : ∀ o o', (Instr.lookup 112 (.map (some b2)) (.agg #[.int .i64 x1, .int .i64 x2]) true).run Tryz.prog ((w2.alloc o).alloc o') = .ok (.tuple #[.agg #[.int .u8 (yl : Int), .int .i64 yw], .bool true]) ((w2.alloc o).alloc o') := fun o o' => HLk.out _ ((HB2.out.alloc (by omega) _).alloc (by simp; omega) _)
      clear hin hRr hrg hrun hen hlt hmem hlk0 hxok hR2 hgr hS2 hb2' hbr
      have hb1l := HR2.out.own.lt
      have hrl := HR2.out.lt
      have HE : Hid (∀ (j : Nat) (W' : World), Below w2.heap.size w2 W' → j < w2.heap.size → W'.heap[j]? = w2.heap[j]?) := Lib.hid fun j W' hb hj => hb.block j hj
      go_wp2_with fail
      go_roundw
      case rel =>
        refine ⟨r1 ++ r2, HIn2.out, HR2.out.congr (HE.out _ _ ?_ hb1l) (HE.out _ _ ?_ hrl), HB2.out.trans (Below.mono (B := w2.heap.size) ?_ (by omega))⟩
        all_goals
          (repeat' (first | (with_reducible exact Below.refl _ _) | (with_reducible assumption) | (with_reducible refine Below.alloc ?_ ?_ _) | (with_reducible refine Below.drew ?_) | (with_reducible refine Below.setCell ?_ ?_ _) | (with_reducible refine below_setRow ?_ ?_ _) | (with_reducible exact Nat.le_refl _) | omega | (simp; done) | (simp; omega) | (simp at *; omega)))
      case measure =>
        refine Nat.lt_of_le_of_lt (Nat.le_of_eq (left_congr (w := w2) (HE.out _ _ ?_ hb1l) (HE.out _ _ ?_ hrl))) HLT.out
        all_goals
          (repeat' (first | (with_reducible exact Below.refl _ _) | (with_reducible assumption) | (with_reducible refine Below.alloc ?_ ?_ _) | (with_reducible refine Below.drew ?_) | (with_reducible refine Below.setCell ?_ ?_ _) | (with_reducible refine below_setRow ?_ ?_ _) | (with_reducible exact Nat.le_refl _) | omega | (simp; done) | (simp; omega) | (simp at *; omega)))
set_option maxHeartbeats 1000000 in
theorem gequal_any (g bV bE g' bV' bE' : Nat) (G : Gr) (w : World) (h : GOk w g bV bE G) (h' : GOk w g' bV' bE' G) :
    Calls Tryz.prog 14 #[.pointer (some ⟨g, 0, none⟩), .pointer (some ⟨g', 0, none⟩)] w fun r w' => r = .returned (.bool true) ∧ Below w.heap.size w w' := by
  have HC := Lib.hid fun W (hW : Below w.heap.size w W) => show W.cell? ⟨g, 0, none⟩ = some (.map (some bV)) ∧ W.cell? ⟨g, 1, none⟩ = some (.map (some bE)) ∧ W.cell? ⟨g', 0, none⟩ = some (.map (some bV')) ∧ W.cell? ⟨g', 1, none⟩ = some (.map (some bE')) from
    ⟨(cell?_row (i := 0) (h.below hW).row).trans rfl, (cell?_row (i := 1) (h.below hW).row).trans rfl, (cell?_row (i := 0) (h'.below hW).row).trans rfl, (cell?_row (i := 1) (h'.below hW).row).trans rfl⟩
  have H1 := Lib.hid fun W (hW : Below w.heap.size w W) => mequalV_any bV bV' G.V W (h.below hW).V (h'.below hW).V
  have H2 := Lib.hid fun W (hW : Below w.heap.size w W) => mequalE_any bE bE' G.E W (h.below hW).E (h'.below hW).E
  clear h h'
  go_enter Tryz.func14, Tryz.ntmps14
  go_wp2_with fail
  refine wp_region_free (fun W => Below w.heap.size w W) (by kernel_rfl) (by kernel_rfl) (Below.refl _ _).drew ?_
  repeat (first | (apply wpFree_still; (intro w hw; obtain ⟨k1, k2, k3, k4⟩ := HC.out w hw; clear hw; go_simp; (try go_ints); (first | with_reducible rfl | (go_simp; with_reducible rfl))); with_reducible rfl; (intro K hK; go_simp; (try go_ints); refine hK _ ?_; clear hK K)) | (apply wpFree_stillG rfl; (intro w hw; obtain ⟨k1, k2, k3, k4⟩ := HC.out w hw; clear hw; go_simp; (try go_ints); (first | with_reducible rfl | (go_simp; with_reducible rfl))); (intro K hK; go_simp; (try go_ints); refine hK _ ?_; clear hK K)) | (apply wpFree_skip rfl; (intro K hK; go_simp; (try go_ints); refine hK _ ?_; clear hK K)))
  apply wpFree_call
  · intro w hw; go_simp; first | with_reducible rfl | with_reducible exact ⟨rfl, rfl⟩
  · with_reducible rfl
  · intro w hw; exact (H1.out w hw).mono fun e w' ⟨h1, h2⟩ => ⟨h1, hw.trans (h2.mono hw.size)⟩
  intro K hK; go_simp; (try go_ints); refine hK _ ?_; clear hK K
  repeat (first | (apply wpFree_still; (intro w hw; obtain ⟨k1, k2, k3, k4⟩ := HC.out w hw; clear hw; go_simp; (try go_ints); (first | with_reducible rfl | (go_simp; with_reducible rfl))); with_reducible rfl; (intro K hK; go_simp; (try go_ints); refine hK _ ?_; clear hK K)) | (apply wpFree_stillG rfl; (intro w hw; obtain ⟨k1, k2, k3, k4⟩ := HC.out w hw; clear hw; go_simp; (try go_ints); (first | with_reducible rfl | (go_simp; with_reducible rfl))); (intro K hK; go_simp; (try go_ints); refine hK _ ?_; clear hK K)) | (apply wpFree_skip rfl; (intro K hK; go_simp; (try go_ints); refine hK _ ?_; clear hK K)))
  apply wpFree_callG rfl
  · intro w hw; go_simp; first | with_reducible rfl | with_reducible exact ⟨rfl, rfl⟩
  · intro w hw; exact (H2.out w hw).mono fun e w' ⟨h1, h2⟩ => ⟨h1, hw.trans (h2.mono hw.size)⟩
  intro K hK; go_simp; (try go_ints); refine hK _ ?_; clear hK K
  repeat (first | (apply wpFree_still; (intro w hw; clear hw; go_simp; (try go_ints); (first | with_reducible rfl | (go_simp; with_reducible rfl))); with_reducible rfl; (intro K hK; go_simp; (try go_ints); refine hK _ ?_; clear hK K)) | (apply wpFree_stillG rfl; (intro w hw; clear hw; go_simp; (try go_ints); (first | with_reducible rfl | (go_simp; with_reducible rfl))); (intro K hK; go_simp; (try go_ints); refine hK _ ?_; clear hK K)) | (apply wpFree_skip rfl; (intro K hK; go_simp; (try go_ints); refine hK _ ?_; clear hK K)))
  with_reducible refine wpFree_nil ?_
  intro w2 hb2
  have HB2 := Lib.hid hb2
  clear hb2
  go_wp2_with fail
  go_ret
  exact ⟨rfl, HB2.out⟩
@[go_sem] theorem storeRD_at (w : World) (g : Nat) (d : Array Value) : rowStore Tryz.prog 36 ⟨g, 0, none⟩ (.agg d) w = match row? w g with
      | some c => if c.size = 5 ∧ d.size = 5 ∧ allOne d = true then .ok () (w.setRow g d) else laterStore Tryz.prog 36 ⟨g, 0, none⟩ (.agg d) w
      | none => laterStore Tryz.prog 36 ⟨g, 0, none⟩ (.agg d) w := store_row Tryz.sizeOf36 w g d
@[go_sem ↓ high] theorem zeroRD (w : World) : (zeroValue 36).run Tryz.prog w = .ok (.agg #[.int .i64 0, .int .i64 0, .int .i64 0, .int .u8 0, .int .i64 0]) w := by kernel_rfl
@[go_sem] theorem allOne_i5 (a b c d e : Int) (p q r s t : IntKind) : allOne #[.int p a, .int q b, .int r c, .int s d, .int t e] = true := by unfold allOne; simp [Value.oneCell']
@[go_sem ↓ high] theorem b_RDall (o u v l t : Int) (w : World) : (Instr.build 36 #[(0, .int .i64 o), (1, .int .i64 u), (2, .int .i64 v), (3, .int .u8 l), (4, .int .i64 t)]).run Tryz.prog w = .ok (.agg #[.int .i64 o, .int .i64 u, .int .i64 v, .int .u8 l, .int .i64 t]) w := by kernel_rfl
theorem d06_any (e : Ed) (w : World) : Calls Tryz.prog 11 #[.agg (edC e)] w fun r w' => r = .returned (.agg (edC e)) ∧ Below w.heap.size w w' := by
  obtain ⟨o, u, v, l, t⟩ := e
  have he : edC ⟨o, u, v, l, t⟩ = #[.int .i64 o, .int .i64 u, .int .i64 v, .int .u8 (l : Int), .int .i64 t] := rfl
  rw [he]
  clear he
  go_enter Tryz.func11, Tryz.ntmps11
  go_wp2_with fail
  refine ret_row (w.heap.size + 1) #[.int .i64 o, .int .i64 u, .int .i64 v, .int .u8 (l : Int), .int .i64 t] rfl Tryz.isAgg36 Tryz.sizeOf36 rfl rfl (by simp [go_sem]) rfl ⟨rfl, ?_⟩
  (repeat' (first | (with_reducible exact Below.refl _ _) | (with_reducible assumption) | (with_reducible refine Below.alloc ?_ ?_ _) | (with_reducible refine Below.drew ?_) | (with_reducible refine Below.setCell ?_ ?_ _) | (with_reducible refine below_setRow ?_ ?_ _) | (with_reducible exact Nat.le_refl _) | omega | (simp; done) | (simp; omega) | (simp at *; omega)))
set_option maxRecDepth 10000 in
theorem eqRD (a b c d e : Int) (w : World) : (Op.equalIn 10000 36 (.agg #[.int .i64 a, .int .i64 b, .int .i64 c, .int .u8 d, .int .i64 e]) (.agg #[.int .i64 a, .int .i64 b, .int .i64 c, .int .u8 d, .int .i64 e])).run Tryz.prog w = .ok true w := by
  have hst : Tryz.prog.stoodInHeld 36 = false := by kernel_rfl
  have h1 : ∀ (p : Int) w, (Op.equalIn 9999 3 (.int .i64 p) (.int .i64 p)).run Tryz.prog w = .ok true w := fun p w => by rw [run_equalIn_int (P := Tryz.prog) w 9998 3 .i64 .i64 p p Tryz.underlying3]; simp
  have h2 : ∀ (p : Int) w, (Op.equalIn 9999 5 (.int .u8 p) (.int .u8 p)).run Tryz.prog w = .ok true w := fun p w => by rw [run_equalIn_int (P := Tryz.prog) w 9998 5 .u8 .u8 p p Tryz.underlying5]; simp
  have hpr : ∀ w, (program).run Tryz.prog w = .ok Tryz.prog w := fun _ => rfl
  rw [show (10000 : Nat) = 9999 + 1 from rfl, Op.equalIn]
  simp only [Sem.run_bind, run_underlying Tryz.underlying36, Result.andThen_ok, hpr, hst, Bool.false_eq_true, if_false, List.forIn_toArray, List.forIn_cons, List.forIn_nil]
  simp [Sem.run_bind, part, Tryz.isAgg3, Tryz.isAgg5, h1, h2]
theorem guardRD : Tryz.prog.eqGuardType Tryz.prog.depth 36 = false := by kernel_rfl
set_option maxRecDepth 10000 in
theorem eqRV (a b c : Int) (w : World) : (Op.equalIn 10000 105 (.agg #[.int .i64 a, .int .u8 b, .int .i64 c]) (.agg #[.int .i64 a, .int .u8 b, .int .i64 c])).run Tryz.prog w = .ok true w := by
  have hst : Tryz.prog.stoodInHeld 105 = false := by kernel_rfl
  have h1 : ∀ (p : Int) w, (Op.equalIn 9999 3 (.int .i64 p) (.int .i64 p)).run Tryz.prog w = .ok true w := fun p w => by rw [run_equalIn_int (P := Tryz.prog) w 9998 3 .i64 .i64 p p Tryz.underlying3]; simp
  have h2 : ∀ (p : Int) w, (Op.equalIn 9999 5 (.int .u8 p) (.int .u8 p)).run Tryz.prog w = .ok true w := fun p w => by rw [run_equalIn_int (P := Tryz.prog) w 9998 5 .u8 .u8 p p Tryz.underlying5]; simp
  have hpr : ∀ w, (program).run Tryz.prog w = .ok Tryz.prog w := fun _ => rfl
  rw [show (10000 : Nat) = 9999 + 1 from rfl, Op.equalIn]
  simp only [Sem.run_bind, run_underlying Tryz.underlying105, Result.andThen_ok, hpr, hst, Bool.false_eq_true, if_false, List.forIn_toArray, List.forIn_cons, List.forIn_nil]
  simp [Sem.run_bind, part, Tryz.isAgg3, Tryz.isAgg5, h1, h2]
theorem guardRV : Tryz.prog.eqGuardType Tryz.prog.depth 105 = false := by kernel_rfl
set_option maxRecDepth 10000 in
theorem eqRE (a b c d : Int) (w : World) : (Op.equalIn 10000 106 (.agg #[.int .i64 a, .int .i64 b, .int .u8 c, .int .i64 d]) (.agg #[.int .i64 a, .int .i64 b, .int .u8 c, .int .i64 d])).run Tryz.prog w = .ok true w := by
  have hst : Tryz.prog.stoodInHeld 106 = false := by kernel_rfl
  have h1 : ∀ (p : Int) w, (Op.equalIn 9999 3 (.int .i64 p) (.int .i64 p)).run Tryz.prog w = .ok true w := fun p w => by rw [run_equalIn_int (P := Tryz.prog) w 9998 3 .i64 .i64 p p Tryz.underlying3]; simp
  have h2 : ∀ (p : Int) w, (Op.equalIn 9999 5 (.int .u8 p) (.int .u8 p)).run Tryz.prog w = .ok true w := fun p w => by rw [run_equalIn_int (P := Tryz.prog) w 9998 5 .u8 .u8 p p Tryz.underlying5]; simp
  have hpr : ∀ w, (program).run Tryz.prog w = .ok Tryz.prog w := fun _ => rfl
  rw [show (10000 : Nat) = 9999 + 1 from rfl, Op.equalIn]
  simp only [Sem.run_bind, run_underlying Tryz.underlying106, Result.andThen_ok, hpr, hst, Bool.false_eq_true, if_false, List.forIn_toArray, List.forIn_cons, List.forIn_nil]
  simp [Sem.run_bind, part, Tryz.isAgg3, Tryz.isAgg5, h1, h2]
theorem guardRE : Tryz.prog.eqGuardType Tryz.prog.depth 106 = false := by kernel_rfl
set_option maxRecDepth 10000 in
set_option maxHeartbeats 2000000 in
theorem rsame_any (G : Gr) (hG : G.Ok) (vVa vEa vVb vEb : Value) (w : World) (ha : RefG w vVa vEa G) (hb : RefG w vVb vEb G) :
    Calls Tryz.prog 15 #[.agg #[vVa, vEa], .agg #[vVb, vEb]] w fun r w' => r = .returned (.bool true) ∧ Below w.heap.size w w' := by
  have HRa := Lib.hid ha
  have HRb := Lib.hid hb
  have hl := hG.len
  have hm := hG.most
  obtain ⟨aVa, cVa, rfl⟩ := ha.1.sl
  obtain ⟨aEa, cEa, rfl⟩ := ha.2.sl
  obtain ⟨aVb, cVb, rfl⟩ := hb.1.sl
  obtain ⟨aEb, cEb, rfl⟩ := hb.2.sl
  obtain ⟨LV, hLV⟩ : ∃ n, n = G.V.length := ⟨_, rfl⟩
  obtain ⟨LE, hLE⟩ : ∃ n, n = G.E.length := ⟨_, rfl⟩
  have HLV := Lib.hid hLV
  have HLE := Lib.hid hLE
  rw [← hLV] at hl
  rw [← hLE] at hm
  rw [← hLV, ← hLE] at HRa HRb ⊢
  have hgV := guardRV
  have hgE := guardRE
  have heV := eqRV
  have heE := eqRE
  clear ha hb hG hLV hLE
  go_enter Tryz.func15, Tryz.ntmps15
  go_wp2_with fail
  generalize hW0 : World.alloc (World.alloc w _) _ = W0
  have ra : row? W0 w.heap.size = some #[.slice aVa LV cVa, .slice aEa LE cEa] := by rw [← hW0]; simp [go_sem]
  have rb : row? W0 (w.heap.size + 1) = some #[.slice aVb LV cVb, .slice aEb LE cEb] := by rw [← hW0]; simp [go_sem]
  have hB0 : Below w.heap.size w W0 := by
    rw [← hW0]
    (repeat' (first | (with_reducible exact Below.refl _ _) | (with_reducible assumption) | (with_reducible refine Below.alloc ?_ ?_ _) | (with_reducible refine Below.drew ?_) | (with_reducible refine Below.setCell ?_ ?_ _) | (with_reducible refine below_setRow ?_ ?_ _) | (with_reducible exact Nat.le_refl _) | omega | (simp; done) | (simp; omega) | (simp at *; omega)))
  have hs0 : w.heap.size + 2 ≤ W0.heap.size := by rw [← hW0]; simp
  have HC := Lib.hid fun W (h : Below W0.heap.size W0 W) => show W.cell? ⟨w.heap.size, 0, none⟩ = some (.slice aVa LV cVa) ∧ W.cell? ⟨w.heap.size, 1, none⟩ = some (.slice aEa LE cEa) ∧ W.cell? ⟨w.heap.size + 1, 0, none⟩ = some (.slice aVb LV cVb) ∧ W.cell? ⟨w.heap.size + 1, 1, none⟩ = some (.slice aEb LE cEb) from
    ⟨(cell?_row (i := 0) ((row?_below h (by omega)).trans ra)).trans rfl, (cell?_row (i := 1) ((row?_below h (by omega)).trans ra)).trans rfl, (cell?_row (i := 0) ((row?_below h (by omega)).trans rb)).trans rfl, (cell?_row (i := 1) ((row?_below h (by omega)).trans rb)).trans rfl⟩
  have HBW := Lib.hid fun W (hW : Below W0.heap.size W0 W) => hB0.trans (hW.mono hB0.size)
  clear hW0 ra rb hB0
  go_loopw [5] (fun i wr => ∃ k : Nat, k ≤ LV ∧ i = .int .i64 (k : Int) ∧ Below W0.heap.size W0 wr) (fun i _ => LV - (intOf i).toNat)
  case atStart => exact ⟨0, by omega, rfl, Below.refl _ _⟩
  case round =>
    obtain ⟨k, hk, rfl, hb⟩ := hrel
    have HB := Lib.hid hb
    obtain ⟨k1, k2, k3, k4⟩ := HC.out wr hb
    clear hb
    by_cases hlt : k < LV
    · obtain ⟨b, off, c', x, h1, hbb, hx, hc⟩ := HRa.out.1.at (by rw [← (HLV).out]; exact hlt)
      simp only [Value.slice.injEq] at h1
      obtain ⟨rfl, -, rfl⟩ := h1
      obtain ⟨b2, off2, c2, x', h2, hbb2, hx', hc2⟩ := HRb.out.1.at (by rw [← (HLV).out]; exact hlt)
      rw [hx] at hx'
      cases hx'
      simp only [Value.slice.injEq] at h2
      obtain ⟨rfl, -, rfl⟩ := h2
      obtain ⟨xi, xl, xw⟩ := x
      have HL := Lib.hid fun W (hW : Below W0.heap.size W0 W) => show rowLoad Tryz.prog 105 ⟨b, off + k * 3, none⟩ W = .ok (.agg #[.int .i64 xi, .int .u8 (xl : Int), .int .i64 xw]) W ∧ rowLoad Tryz.prog 105 ⟨b2, off2 + k * 3, none⟩ W = .ok (.agg #[.int .i64 xi, .int .u8 (xl : Int), .int .i64 xw]) W from
        ⟨load_cells Tryz.isAgg105 Tryz.sizeOf105 W b _ _ rfl fun j u hu => hc W (HBW.out W hW) j u hu, load_cells Tryz.isAgg105 Tryz.sizeOf105 W b2 _ _ rfl fun j u hu => hc2 W (HBW.out W hW) j u hu⟩
      clear hx hc hc2
      go_wp2_with fail
      clear k1 k2 k3 k4
      refine wp_region_free (fun W => Below W0.heap.size W0 W) (by kernel_rfl) (by kernel_rfl) HB.out.drew ?_
      repeat (first | (apply wpFree_still; (intro w hw; obtain ⟨k1, k2, k3, k4⟩ := HC.out w hw; obtain ⟨j1, j2⟩ := HL.out w hw; clear hw; go_simp; (try go_ints); (first | with_reducible rfl | (go_simp; with_reducible rfl))); with_reducible rfl; (intro K hK; go_simp; (try go_ints); refine hK _ ?_; clear hK K)) | (apply wpFree_stillG rfl; (intro w hw; obtain ⟨k1, k2, k3, k4⟩ := HC.out w hw; obtain ⟨j1, j2⟩ := HL.out w hw; clear hw; go_simp; (try go_ints); (first | with_reducible rfl | (go_simp; with_reducible rfl))); (intro K hK; go_simp; (try go_ints); refine hK _ ?_; clear hK K)) | (apply wpFree_skip rfl; (intro K hK; go_simp; (try go_ints); refine hK _ ?_; clear hK K)))
      with_reducible refine wpFree_nil ?_
      intro w2 hb2
      have HB2 := Lib.hid hb2
      clear hb2
      go_wp2_with fail
      go_roundw
      case rel => exact ⟨k + 1, by omega, by go_num, HB2.out⟩
      case measure => simp [intOf]; omega
    · have hkn : LV = k := by omega
      subst hkn
      obtain ⟨wo, rfl⟩ : ∃ W : World, W = wr := ⟨_, rfl⟩
      go_wp2_with fail
      clear k1 k2 k3 k4
      go_loopw [6] (fun i wr => ∃ k : Nat, k ≤ LE ∧ i = .int .i64 (k : Int) ∧ Below W0.heap.size W0 wr) (fun i _ => LE - (intOf i).toNat)
      case atStart => exact ⟨0, by omega, rfl, HB.out⟩
      case round =>
        obtain ⟨k, hk, rfl, hb⟩ := hrel
        have HB := Lib.hid hb
        obtain ⟨k1, k2, k3, k4⟩ := HC.out wr hb
        clear hb
        by_cases hlt : k < LE
        · obtain ⟨b, off, c', x, h1, hbb, hx, hc⟩ := HRa.out.2.at (by rw [← (HLE).out]; exact hlt)
          simp only [Value.slice.injEq] at h1
          obtain ⟨rfl, -, rfl⟩ := h1
          obtain ⟨b2, off2, c2, x', h2, hbb2, hx', hc2⟩ := HRb.out.2.at (by rw [← (HLE).out]; exact hlt)
          rw [hx] at hx'
          cases hx'
          simp only [Value.slice.injEq] at h2
          obtain ⟨rfl, -, rfl⟩ := h2
          obtain ⟨⟨xu, xv⟩, xl, xw⟩ := x
          have HL := Lib.hid fun W (hW : Below W0.heap.size W0 W) => show rowLoad Tryz.prog 106 ⟨b, off + k * 4, none⟩ W = .ok (.agg #[.int .i64 xu, .int .i64 xv, .int .u8 (xl : Int), .int .i64 xw]) W ∧ rowLoad Tryz.prog 106 ⟨b2, off2 + k * 4, none⟩ W = .ok (.agg #[.int .i64 xu, .int .i64 xv, .int .u8 (xl : Int), .int .i64 xw]) W from
            ⟨load_cells Tryz.isAgg106 Tryz.sizeOf106 W b _ _ rfl fun j u hu => hc W (HBW.out W hW) j u hu, load_cells Tryz.isAgg106 Tryz.sizeOf106 W b2 _ _ rfl fun j u hu => hc2 W (HBW.out W hW) j u hu⟩
          clear hx hc hc2
          go_wp2_with fail
          clear k1 k2 k3 k4
          refine wp_region_free (fun W => Below W0.heap.size W0 W) (by kernel_rfl) (by kernel_rfl) HB.out.drew ?_
          repeat (first | (apply wpFree_still; (intro w hw; obtain ⟨k1, k2, k3, k4⟩ := HC.out w hw; obtain ⟨j1, j2⟩ := HL.out w hw; clear hw; go_simp; (try go_ints); (first | with_reducible rfl | (go_simp; with_reducible rfl))); with_reducible rfl; (intro K hK; go_simp; (try go_ints); refine hK _ ?_; clear hK K)) | (apply wpFree_stillG rfl; (intro w hw; obtain ⟨k1, k2, k3, k4⟩ := HC.out w hw; obtain ⟨j1, j2⟩ := HL.out w hw; clear hw; go_simp; (try go_ints); (first | with_reducible rfl | (go_simp; with_reducible rfl))); (intro K hK; go_simp; (try go_ints); refine hK _ ?_; clear hK K)) | (apply wpFree_skip rfl; (intro K hK; go_simp; (try go_ints); refine hK _ ?_; clear hK K)))
          with_reducible refine wpFree_nil ?_
          intro w2 hb2
          have HB2 := Lib.hid hb2
          clear hb2
          go_wp2_with fail
          go_roundw
          case rel => exact ⟨k + 1, by omega, by go_num, HB2.out⟩
          case measure => simp [intOf]; omega
        · have hkn : LE = k := by omega
          subst hkn
          go_wp2_with fail
          go_ret
          exact ⟨rfl, HBW.out _ HB.out⟩
end Go.Proofs.YtmmhngjndnonhaaGreatDoor
