/- DERIVED: THE SHELF's CONTRACTS AT THIS DUMP, IN PLAIN WORDS (tools/lay-plain.mjs out of .. -/
import Derived.Shelf.SlMaps.Clone
import Derived.Test.YtglnhnjmelilmaaGreatDoorProg
import Derived.Test.YtglnhnjmelilmaaGreatDoorRYd
import Derived.Test.YtglnhnjmelilmaaGreatDoorRVh
import Derived.Test.YtglnhnjmelilmaaGreatDoorRHE
set_option maxHeartbeats 2000000
set_option maxRecDepth 10000
set_option linter.all false
namespace Go.Proofs
open Go.Shelf
def Tryz.laysCloneMV_ren : Go.Shelf.Ren := ⟨fun | 5 => 86 | 7 => 135 | n => n, fun | 23 => 151 | 25 => 3 | 3 => 153 | 4 => 4 | 20 => 20 | n => n, fun | n => n⟩
theorem Tryz.laysCloneMV : Go.Proofs.SlLaysW.n5 Tryz.prog Tryz.laysCloneMV_ren := {
 mixed := by kernel_rfl
 f5 := ⟨Tryz.f86.name, by decide, Tryz.func86.trans (congrArg some (by kernel_rfl))⟩
 f7 := Tryz.func135.trans (congrArg some (by kernel_rfl))
 t4 := Tryz.underlying4
 a4 := Tryz.isAgg4
 z4 := Tryz.sizeOf4
 v4 := Tryz.zeroValue4
 t20 := Tryz.underlying20
 a20 := Tryz.isAgg20
 z20 := Tryz.sizeOf20
 v20 := Tryz.zeroValue20
 t23 := Tryz.underlying151
 a23 := Tryz.isAgg151
 z23 := Tryz.sizeOf151
 v23 := Tryz.zeroValue151 }
def Tryz.laysCloneME_ren : Go.Shelf.Ren := ⟨fun | 5 => 87 | 7 => 135 | n => n, fun | 23 => 154 | 25 => 159 | 3 => 153 | 4 => 4 | 20 => 20 | n => n, fun | n => n⟩
theorem Tryz.laysCloneME : Go.Proofs.SlLaysW.n5 Tryz.prog Tryz.laysCloneME_ren := {
 mixed := by kernel_rfl
 f5 := ⟨Tryz.f87.name, by decide, Tryz.func87.trans (congrArg some (by kernel_rfl))⟩
 f7 := Tryz.func135.trans (congrArg some (by kernel_rfl))
 t4 := Tryz.underlying4
 a4 := Tryz.isAgg4
 z4 := Tryz.sizeOf4
 v4 := Tryz.zeroValue4
 t20 := Tryz.underlying20
 a20 := Tryz.isAgg20
 z20 := Tryz.sizeOf20
 v20 := Tryz.zeroValue20
 t23 := Tryz.underlying154
 a23 := Tryz.isAgg154
 z23 := Tryz.sizeOf154
 v23 := Tryz.zeroValue154 }
end Go.Proofs
namespace Go.Proofs.YtglnhnjmelilmaaGreatDoor
open Go Go.RowKit Go.Pal Go.Shelf
attribute [local go_sem] Oper.semAt_some
theorem cloneMV_any (b : Nat) (l : List (Int × Th)) (w : World) (h : Pal.Own CV Tryz.prog 3 w b l) : Calls Tryz.prog 86 #[.map (some b)] w fun e w' => e = .returned (.map (some w.heap.size)) ∧ Pal.Own CV Tryz.prog 3 w' w.heap.size l ∧ Below w.heap.size w w' := by
 obtain ⟨D, ho, hM⟩ := h
 exact (AnyW.maps_Clone_owns Tryz.laysCloneMV 3 CV.R b l.length D w ho).mono fun e w' ⟨h1, h2, _, h4⟩ => ⟨h1, ⟨D, h2, hM⟩, h4⟩
theorem cloneME_any (b : Nat) (l : List ((Int × Int) × Th)) (w : World) (h : Pal.Own CE Tryz.prog 159 w b l) : Calls Tryz.prog 87 #[.map (some b)] w fun e w' => e = .returned (.map (some w.heap.size)) ∧ Pal.Own CE Tryz.prog 159 w' w.heap.size l ∧ Below w.heap.size w w' := by
 obtain ⟨D, ho, hM⟩ := h
 exact (AnyW.maps_Clone_owns Tryz.laysCloneME 159 CE.R b l.length D w ho).mono fun e w' ⟨h1, h2, _, h4⟩ => ⟨h1, ⟨D, h2, hM⟩, h4⟩
theorem gclone_any (g bV bE : Nat) (G : Gr) (w : World) (h : GOk w g bV bE G) :
   Calls Tryz.prog 35 #[.pointer (some ⟨g, 0, none⟩)] w fun r w' => ∃ g' bV' bE', r = .returned (.pointer (some ⟨g', 0, none⟩)) ∧ GOk w' g' bV' bE' G ∧ (w.heap.size ≤ g' ∧ w.heap.size ≤ bV' ∧ w.heap.size ≤ bE') ∧ Below w.heap.size w w' := by
 have H0 := Lib.hid h
 have hgl := h.lt
 have HC := Lib.hid fun W (hW : Below w.heap.size w W) => show W.cell? ⟨g, 0, none⟩ = some (.map (some bV)) ∧ W.cell? ⟨g, 1, none⟩ = some (.map (some bE)) from ⟨(cell?_row (i := 0) (h.below hW).row).trans rfl, (cell?_row (i := 1) (h.below hW).row).trans rfl⟩
 clear h
 go_enter Tryz.func35, Tryz.ntmps35
 go_wp2_with fail
 refine wp_region_mix (fun W => Below w.heap.size w W) 12 [(0, true), (1, true), (2, true), (3, true), (5, true), (6, true), (7, true), (8, true), (4, false), (9, false), (10, true), (11, false)] (by kernel_rfl) (by kernel_rfl) (Below.refl _ _).drew ?_
 repeat (apply wpPlan_still rfl rfl; (intro w hw; obtain ⟨k1, k2⟩ := HC.out _ hw; clear hw; go_simp; (try go_ints); (first | with_reducible rfl | (go_simp; with_reducible rfl))); (intro K hK; go_simp; (try go_ints); refine hK _ _ ?_; clear hK K))
 apply wpPlan_act rfl rfl
 intro K hK
 unfold Oper.wp
 go_simp
 refine (cloneMV_any bV G.V w.drew (H0.out.below (Below.refl _ _).drew).V).mono ?_
 rintro r w1 ⟨rfl, hV1, hb1⟩
 have hb1' : Below w.heap.size w w1 := (Below.refl _ w).drew.trans hb1
 have HV1 := Lib.hid hV1
 have HB1 := Lib.hid hb1'
 refine hK _ _ hb1' ?_
 clear hK K hV1 hb1 hb1'
 apply wpPlan_act rfl rfl
 intro K hK
 unfold Oper.wp
 go_simp
 refine (cloneME_any bE G.E w1 (H0.out.below HB1.out).E).mono ?_
 rintro r w2 ⟨rfl, hE2, hb2⟩
 have hs1 := HB1.out.size
 have HE2 := Lib.hid hE2
 have HV2 := Lib.hid (HV1.out.below hb2 HV1.out.lt)
 have HB2 := Lib.hid (HB1.out.trans (hb2.mono hs1))
 have hne : w.drew.heap.size ≠ w1.heap.size := by have := HV1.out.lt; omega
 refine hK _ _ HB2.out ?_
 clear hK K hE2 hb2
 repeat (apply wpPlan_still rfl rfl; (intro w hw; clear hw; go_simp; (try go_ints); (first | with_reducible rfl | (go_simp; with_reducible rfl))); (intro K hK; go_simp; (try go_ints); refine hK _ _ ?_; clear hK K))
 apply wpPlan_act rfl rfl
 intro K hK
 unfold Oper.wp
 go_simp
 have hs2 := HB2.out.size
 refine hK _ _ (HB2.out.alloc hs2 _) ?_
 clear hK K
 refine wpPlan_nil ?_
 simp only [List.drop_succ_cons, List.drop_zero]
 go_wp2_with fail
 go_ret
 have hl2 := HE2.out.lt
 have hl1 := HV2.out.lt
 refine ⟨w2.heap.size, w.heap.size, w1.heap.size, rfl, ⟨row?_alloc_at _ _ _ _ rfl, HV2.out.congr (Below.heap_alloc _ _ _ hl1), HE2.out.congr (Below.heap_alloc _ _ _ hl2), hne⟩, ⟨by omega, Nat.le_refl _, by omega⟩, HB2.out.alloc hs2 _⟩
theorem eqTH (a b : Int) (w : World) : (Op.equalIn 10000 153 (.agg #[.int .u8 a, .int .i64 b]) (.agg #[.int .u8 a, .int .i64 b])).run Tryz.prog w = .ok true w := by
 have hst : Tryz.prog.stoodInHeld 153 = false := by kernel_rfl
 have h1 : ∀ (p : Int) w, (Op.equalIn 9999 3 (.int .i64 p) (.int .i64 p)).run Tryz.prog w = .ok true w := fun p w => by rw [run_equalIn_int (P := Tryz.prog) w 9998 3 .i64 .i64 p p Tryz.underlying3]; simp
 have h2 : ∀ (p : Int) w, (Op.equalIn 9999 5 (.int .u8 p) (.int .u8 p)).run Tryz.prog w = .ok true w := fun p w => by rw [run_equalIn_int (P := Tryz.prog) w 9998 5 .u8 .u8 p p Tryz.underlying5]; simp
 have hpr : ∀ w, (program).run Tryz.prog w = .ok Tryz.prog w := fun _ => rfl
 rw [show (10000 : Nat) = 9999 + 1 from rfl, Op.equalIn]
 simp only [Sem.run_bind, run_underlying Tryz.underlying153, Result.andThen_ok, hpr, hst, Bool.false_eq_true, if_false, List.forIn_toArray, List.forIn_cons, List.forIn_nil]
 simp [Sem.run_bind, part, Tryz.isAgg3, Tryz.isAgg5, h1, h2]
theorem guardTH : Tryz.prog.eqGuardType Tryz.prog.depth 153 = false := by kernel_rfl
theorem mequalV_any (b1 b2 : Nat) (l : List (Int × Th)) (w : World) (h1 : Pal.Own CV Tryz.prog 3 w b1 l) (h2 : Pal.Own CV Tryz.prog 3 w b2 l) :
   Calls Tryz.prog 68 #[.map (some b1), .map (some b2)] w fun r w' => r = .returned (.bool true) ∧ Below w.heap.size w w' := by
 have hl1 := fun ty => h1.len Tryz.underlying151 ty
 have hl2 := fun ty => h2.len Tryz.underlying151 ty
 have hnd := h1.nd
 have hok := h1.okd
 have hb2 := h2.lt
 have H2 := Lib.hid h2
 have HND := Lib.hid hnd
 have HOK := Lib.hid hok
 have hgt := guardTH
 have het := eqTH
 obtain ⟨w1, hrg, hR, hb, hs1⟩ := h1.range goodV Tryz.underlying151
 have HR := Lib.hid hR
 have HB := Lib.hid hb
 clear h1 h2 hR hb hnd hok
 go_enter Tryz.func68, Tryz.ntmps68
 go_wp2_with fail
 go_loopw [5] (fun _ wr => ∃ rest, (∀ p ∈ rest, p ∈ l) ∧ Rng CV Tryz.prog 3 wr b1 w.heap.size l rest ∧ Below w.heap.size w wr) (fun _ wr => wr.rangeLeft b1 w.heap.size)
 case atStart => exact ⟨l, fun p hp => hp, HR.out, HB.out⟩
 case round =>
   obtain ⟨rest, hin, hRr, hbr⟩ := hrel
   have hsz := hbr.size
   have hRlt := hRr.lt
   have HBr := Lib.hid hbr
   rcases hRr.next2 goodV 0 with ⟨rfl, hrun⟩ | ⟨x, y, r1, r2, w2, rfl, hrun, hR2, hgr, hsz2, hen, hlt⟩
   · clear hin hRr hrg
     go_wp2_with fail
     go_ret
     exact ⟨rfl, HBr.out⟩
   · have hmem := hin (x, y) (by simp)
     have hlk0 := (look_mem HND.out).2 hmem
     have hxok := HOK.out _ hmem
     have hS2 := same_grown hgr
     have hb2' : Below w.heap.size w w2 := hbr.trans (hS2.below (by omega) fun j hj e => by cases e; omega)
     have HB2 := Lib.hid hb2'
     have HR2 := Lib.hid hR2
     have HIn2 : Hid (∀ p ∈ r1 ++ r2, p ∈ l) := Lib.hid fun p hp => hin p (by
       rcases List.mem_append.1 hp with h | h
       · exact List.mem_append_left _ h
       · exact List.mem_append_right _ (List.mem_cons_of_mem _ h))
     have HLk := Lib.hid fun W (hW : Below w.heap.size w W) => (H2.out.below hW hb2).look_ok goodV Tryz.underlying151 (b0 := (0, 0)) zeroThing hxok
     rw [hlk0] at HLk
     have HLT := Lib.hid hlt
     obtain ⟨yl, yw⟩ := y
     obtain x := x
     have hrun1 : (Instr.next (.pointer (some ⟨w.heap.size, 0, none⟩)) false 0).run Tryz.prog wr = .ok (.tuple #[.bool true, .int .i64 x, .agg #[.int .u8 (yl : Int), .int .i64 yw]]) w2 := hrun
     have hen1 : (Instr.entry (.pointer (some ⟨w.heap.size, 0, none⟩))).run Tryz.prog w2 = .ok (.tuple #[.int .i64 x, .agg #[.int .u8 (yl : Int), .int .i64 yw]]) w2 := hen
     have hlk1 : ∀ o, (Instr.lookup 151 (.map (some b2)) (.int .i64 x) true).run Tryz.prog (w2.alloc o) = .ok (.tuple #[.agg #[.int .u8 (yl : Int), .int .i64 yw], .bool true]) (w2.alloc o) := fun o => HLk.out _ (HB2.out.alloc (by omega) _)
     have hlk2 : ∀ o o', (Instr.lookup 151 (.map (some b2)) (.int .i64 x) true).run Tryz.prog ((w2.alloc o).alloc o') = .ok (.tuple #[.agg #[.int .u8 (yl : Int), .int .i64 yw], .bool true]) ((w2.alloc o).alloc o') := fun o o' => HLk.out _ ((HB2.out.alloc (by omega) _).alloc (by simp; omega) _)
     clear hin hRr hrg hrun hen hlt hmem hlk0 hxok hR2 hgr hS2 hb2' hbr
     have hb1l := HR2.out.own.lt
     have hrl := HR2.out.lt
     have HE : Hid (∀ (j : Nat) (W' : World), Below w2.heap.size w2 W' → j < w2.heap.size → W'.heap[j]? = w2.heap[j]?) := Lib.hid fun j W' hb hj => hb.block j hj
     go_wp2_with fail
     go_roundw
     case rel =>
       refine ⟨r1 ++ r2, HIn2.out, HR2.out.congr (HE.out _ _ ?_ hb1l) (HE.out _ _ ?_ hrl), HB2.out.trans (Below.mono (B := w2.heap.size) ?_ (by omega))⟩
       all_goals
         (repeat' (first | (with_reducible first | exact Below.refl _ _ | assumption | refine Below.alloc ?_ ?_ _ | refine Below.drew ?_ | refine Below.setCell ?_ ?_ _ | refine below_setRow ?_ ?_ _ | exact Nat.le_refl _) | omega | (simp; done) | (simp; omega) | (simp at *; omega)))
     case measure =>
       refine Nat.lt_of_le_of_lt (Nat.le_of_eq (left_congr (w := w2) (HE.out _ _ ?_ hb1l) (HE.out _ _ ?_ hrl))) HLT.out
       all_goals
         (repeat' (first | (with_reducible first | exact Below.refl _ _ | assumption | refine Below.alloc ?_ ?_ _ | refine Below.drew ?_ | refine Below.setCell ?_ ?_ _ | refine below_setRow ?_ ?_ _ | exact Nat.le_refl _) | omega | (simp; done) | (simp; omega) | (simp at *; omega)))
theorem mequalE_any (b1 b2 : Nat) (l : List ((Int × Int) × Th)) (w : World) (h1 : Pal.Own CE Tryz.prog 159 w b1 l) (h2 : Pal.Own CE Tryz.prog 159 w b2 l) :
   Calls Tryz.prog 69 #[.map (some b1), .map (some b2)] w fun r w' => r = .returned (.bool true) ∧ Below w.heap.size w w' := by
 have hl1 := fun ty => h1.len Tryz.underlying154 ty
 have hl2 := fun ty => h2.len Tryz.underlying154 ty
 have hnd := h1.nd
 have hok := h1.okd
 have hb2 := h2.lt
 have H2 := Lib.hid h2
 have HND := Lib.hid hnd
 have HOK := Lib.hid hok
 have hgt := guardTH
 have het := eqTH
 obtain ⟨w1, hrg, hR, hb, hs1⟩ := h1.range goodE Tryz.underlying154
 have HR := Lib.hid hR
 have HB := Lib.hid hb
 clear h1 h2 hR hb hnd hok
 go_enter Tryz.func69, Tryz.ntmps69
 go_wp2_with fail
 go_loopw [5] (fun _ wr => ∃ rest, (∀ p ∈ rest, p ∈ l) ∧ Rng CE Tryz.prog 159 wr b1 w.heap.size l rest ∧ Below w.heap.size w wr) (fun _ wr => wr.rangeLeft b1 w.heap.size)
 case atStart => exact ⟨l, fun p hp => hp, HR.out, HB.out⟩
 case round =>
   obtain ⟨rest, hin, hRr, hbr⟩ := hrel
   have hsz := hbr.size
   have hRlt := hRr.lt
   have HBr := Lib.hid hbr
   rcases hRr.next2 goodE 0 with ⟨rfl, hrun⟩ | ⟨x, y, r1, r2, w2, rfl, hrun, hR2, hgr, hsz2, hen, hlt⟩
   · clear hin hRr hrg
     go_wp2_with fail
     go_ret
     exact ⟨rfl, HBr.out⟩
   · have hmem := hin (x, y) (by simp)
     have hlk0 := (look_mem HND.out).2 hmem
     have hxok := HOK.out _ hmem
     have hS2 := same_grown hgr
     have hb2' : Below w.heap.size w w2 := hbr.trans (hS2.below (by omega) fun j hj e => by cases e; omega)
     have HB2 := Lib.hid hb2'
     have HR2 := Lib.hid hR2
     have HIn2 : Hid (∀ p ∈ r1 ++ r2, p ∈ l) := Lib.hid fun p hp => hin p (by
       rcases List.mem_append.1 hp with h | h
       · exact List.mem_append_left _ h
       · exact List.mem_append_right _ (List.mem_cons_of_mem _ h))
     have HLk := Lib.hid fun W (hW : Below w.heap.size w W) => (H2.out.below hW hb2).look_ok goodE Tryz.underlying154 (b0 := (0, 0)) zeroThing hxok
     rw [hlk0] at HLk
     have HLT := Lib.hid hlt
     obtain ⟨yl, yw⟩ := y
     obtain ⟨x1, x2⟩ := x
     have hrun1 : (Instr.next (.pointer (some ⟨w.heap.size, 0, none⟩)) false 0).run Tryz.prog wr = .ok (.tuple #[.bool true, .agg #[.int .i64 x1, .int .i64 x2], .agg #[.int .u8 (yl : Int), .int .i64 yw]]) w2 := hrun
     have hen1 : (Instr.entry (.pointer (some ⟨w.heap.size, 0, none⟩))).run Tryz.prog w2 = .ok (.tuple #[.agg #[.int .i64 x1, .int .i64 x2], .agg #[.int .u8 (yl : Int), .int .i64 yw]]) w2 := hen
     have hlk1 : ∀ o, (Instr.lookup 154 (.map (some b2)) (.agg #[.int .i64 x1, .int .i64 x2]) true).run Tryz.prog (w2.alloc o) = .ok (.tuple #[.agg #[.int .u8 (yl : Int), .int .i64 yw], .bool true]) (w2.alloc o) := fun o => HLk.out _ (HB2.out.alloc (by omega) _)
     have hlk2 : ∀ o o', (Instr.lookup 154 (.map (some b2)) (.agg #[.int .i64 x1, .int .i64 x2]) true).run Tryz.prog ((w2.alloc o).alloc o') = .ok (.tuple #[.agg #[.int .u8 (yl : Int), .int .i64 yw], .bool true]) ((w2.alloc o).alloc o') := fun o o' => HLk.out _ ((HB2.out.alloc (by omega) _).alloc (by simp; omega) _)
     clear hin hRr hrg hrun hen hlt hmem hlk0 hxok hR2 hgr hS2 hb2' hbr
     have hb1l := HR2.out.own.lt
     have hrl := HR2.out.lt
     have HE : Hid (∀ (j : Nat) (W' : World), Below w2.heap.size w2 W' → j < w2.heap.size → W'.heap[j]? = w2.heap[j]?) := Lib.hid fun j W' hb hj => hb.block j hj
     go_wp2_with fail
     go_roundw
     case rel =>
       refine ⟨r1 ++ r2, HIn2.out, HR2.out.congr (HE.out _ _ ?_ hb1l) (HE.out _ _ ?_ hrl), HB2.out.trans (Below.mono (B := w2.heap.size) ?_ (by omega))⟩
       all_goals
         (repeat' (first | (with_reducible first | exact Below.refl _ _ | assumption | refine Below.alloc ?_ ?_ _ | refine Below.drew ?_ | refine Below.setCell ?_ ?_ _ | refine below_setRow ?_ ?_ _ | exact Nat.le_refl _) | omega | (simp; done) | (simp; omega) | (simp at *; omega)))
     case measure =>
       refine Nat.lt_of_le_of_lt (Nat.le_of_eq (left_congr (w := w2) (HE.out _ _ ?_ hb1l) (HE.out _ _ ?_ hrl))) HLT.out
       all_goals
         (repeat' (first | (with_reducible first | exact Below.refl _ _ | assumption | refine Below.alloc ?_ ?_ _ | refine Below.drew ?_ | refine Below.setCell ?_ ?_ _ | refine below_setRow ?_ ?_ _ | exact Nat.le_refl _) | omega | (simp; done) | (simp; omega) | (simp at *; omega)))
theorem gequal_any (g bV bE g' bV' bE' : Nat) (G : Gr) (w : World) (h : GOk w g bV bE G) (h' : GOk w g' bV' bE' G) :
   Calls Tryz.prog 23 #[.pointer (some ⟨g, 0, none⟩), .pointer (some ⟨g', 0, none⟩)] w fun r w' => r = .returned (.bool true) ∧ Below w.heap.size w w' := by
 have HC := Lib.hid fun W (hW : Below w.heap.size w W) => show W.cell? ⟨g, 0, none⟩ = some (.map (some bV)) ∧ W.cell? ⟨g, 1, none⟩ = some (.map (some bE)) ∧ W.cell? ⟨g', 0, none⟩ = some (.map (some bV')) ∧ W.cell? ⟨g', 1, none⟩ = some (.map (some bE')) from
   ⟨(cell?_row (i := 0) (h.below hW).row).trans rfl, (cell?_row (i := 1) (h.below hW).row).trans rfl, (cell?_row (i := 0) (h'.below hW).row).trans rfl, (cell?_row (i := 1) (h'.below hW).row).trans rfl⟩
 have H1 := Lib.hid fun W (hW : Below w.heap.size w W) => mequalV_any bV bV' G.V W (h.below hW).V (h'.below hW).V
 have H2 := Lib.hid fun W (hW : Below w.heap.size w W) => mequalE_any bE bE' G.E W (h.below hW).E (h'.below hW).E
 clear h h'
 go_enter Tryz.func23, Tryz.ntmps23
 go_wp2_with fail
 refine wp_region_free (fun W => Below w.heap.size w W) (by kernel_rfl) (by kernel_rfl) (Below.refl _ _).drew ?_
 repeat (first | ((first | apply wpFree_still (hg := rfl) | apply wpFree_stillG rfl); (intro w hw; obtain ⟨k1, k2, k3, k4⟩ := HC.out w hw; clear hw; go_simp; (try go_ints); (first | with_reducible rfl | (go_simp; with_reducible rfl))); (intro K hK; go_simp; (try go_ints); refine hK _ ?_; clear hK K)) | (apply wpFree_skip rfl; (intro K hK; go_simp; (try go_ints); refine hK _ ?_; clear hK K)))
 apply wpFree_call
 · intro w hw; go_simp; first | with_reducible rfl | with_reducible exact ⟨rfl, rfl⟩
 · with_reducible rfl
 · intro w hw; exact (H1.out w hw).mono fun e w' ⟨h1, h2⟩ => ⟨h1, hw.trans (h2.mono hw.size)⟩
 intro K hK; go_simp; (try go_ints); refine hK _ ?_; clear hK K
 repeat (first | ((first | apply wpFree_still (hg := rfl) | apply wpFree_stillG rfl); (intro w hw; obtain ⟨k1, k2, k3, k4⟩ := HC.out w hw; clear hw; go_simp; (try go_ints); (first | with_reducible rfl | (go_simp; with_reducible rfl))); (intro K hK; go_simp; (try go_ints); refine hK _ ?_; clear hK K)) | (apply wpFree_skip rfl; (intro K hK; go_simp; (try go_ints); refine hK _ ?_; clear hK K)))
 apply wpFree_callG rfl
 · intro w hw; go_simp; first | with_reducible rfl | with_reducible exact ⟨rfl, rfl⟩
 · intro w hw; exact (H2.out w hw).mono fun e w' ⟨h1, h2⟩ => ⟨h1, hw.trans (h2.mono hw.size)⟩
 intro K hK; go_simp; (try go_ints); refine hK _ ?_; clear hK K
 repeat (first | ((first | apply wpFree_still (hg := rfl) | apply wpFree_stillG rfl); (intro w hw; clear hw; go_simp; (try go_ints); (first | with_reducible rfl | (go_simp; with_reducible rfl))); (intro K hK; go_simp; (try go_ints); refine hK _ ?_; clear hK K)) | (apply wpFree_skip rfl; (intro K hK; go_simp; (try go_ints); refine hK _ ?_; clear hK K)))
 with_reducible refine wpFree_nil ?_
 intro w2 hb2
 have HB2 := Lib.hid hb2
 clear hb2
 go_wp2_with fail
 go_ret
 exact ⟨rfl, HB2.out⟩
@[go_sem] theorem storeRD_at (w : World) (g : Nat) (d : Array Value) : rowStore Tryz.prog 30 ⟨g, 0, none⟩ (.agg d) w = match row? w g with
     | some c => if c.size = 5 ∧ d.size = 5 ∧ allOne d = true then .ok () (w.setRow g d) else laterStore Tryz.prog 30 ⟨g, 0, none⟩ (.agg d) w
     | none => laterStore Tryz.prog 30 ⟨g, 0, none⟩ (.agg d) w := store_row Tryz.sizeOf30 w g d
@[go_sem ↓ high] theorem zeroRD (w : World) : (zeroValue 30).run Tryz.prog w = .ok (.agg #[.int .i64 0, .int .i64 0, .int .i64 0, .int .u8 0, .int .i64 0]) w := by kernel_rfl
@[go_sem] theorem allOne_i5 (a b c d e : Int) (p q r s t : IntKind) : allOne #[.int p a, .int q b, .int r c, .int s d, .int t e] = true := by unfold allOne; simp [Value.oneCell']
@[go_sem ↓ high] theorem b_RDall (o u v l t : Int) (w : World) : (Instr.build 30 #[(0, .int .i64 o), (1, .int .i64 u), (2, .int .i64 v), (3, .int .u8 l), (4, .int .i64 t)]).run Tryz.prog w = .ok (.agg #[.int .i64 o, .int .i64 u, .int .i64 v, .int .u8 l, .int .i64 t]) w := by kernel_rfl
end Go.Proofs.YtglnhnjmelilmaaGreatDoor
