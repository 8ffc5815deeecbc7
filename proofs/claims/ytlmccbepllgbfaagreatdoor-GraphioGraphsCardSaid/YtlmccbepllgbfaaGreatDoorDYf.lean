/- DERIVED: THE SHELF's CONTRACTS AT THIS DUMP, IN PLAIN WORDS (tools/lay-plain.mjs out of .. -/
import Derived.Shelf.SlMaps.Clone
import Derived.Test.YtlmccbepllgbfaaGreatDoorProg
import Derived.Test.YtlmccbepllgbfaaGreatDoorDYd
import Derived.Test.YtlmccbepllgbfaaGreatDoorDVh
import Derived.Test.YtlmccbepllgbfaaGreatDoorDHE
set_option maxHeartbeats 4000000
set_option maxRecDepth 10000
set_option linter.all false
namespace Go.Proofs
open Go.Shelf
def Tryz.laysCloneMV_ren : Go.Shelf.Ren := ⟨fun | 5 => 81 | 7 => 127 | n => n, fun | 23 => 142 | 25 => 3 | 3 => 144 | 4 => 4 | 20 => 20 | n => n, fun | n => n⟩
theorem Tryz.laysCloneMV : Go.Proofs.SlLaysW.n5 Tryz.prog Tryz.laysCloneMV_ren := {
 mixed := by kernel_rfl
 f5 := ⟨Tryz.f81.name, by decide, Tryz.func81.trans (congrArg some (by kernel_rfl))⟩
 f7 := Tryz.func127.trans (congrArg some (by kernel_rfl))
 t4 := Tryz.underlying4
 a4 := Tryz.isAgg4
 z4 := Tryz.sizeOf4
 v4 := Tryz.zeroValue4
 t20 := Tryz.underlying20
 a20 := Tryz.isAgg20
 z20 := Tryz.sizeOf20
 v20 := Tryz.zeroValue20
 t23 := Tryz.underlying142
 a23 := Tryz.isAgg142
 z23 := Tryz.sizeOf142
 v23 := Tryz.zeroValue142 }
def Tryz.laysCloneME_ren : Go.Shelf.Ren := ⟨fun | 5 => 82 | 7 => 127 | n => n, fun | 23 => 145 | 25 => 150 | 3 => 144 | 4 => 4 | 20 => 20 | n => n, fun | n => n⟩
theorem Tryz.laysCloneME : Go.Proofs.SlLaysW.n5 Tryz.prog Tryz.laysCloneME_ren := {
 mixed := by kernel_rfl
 f5 := ⟨Tryz.f82.name, by decide, Tryz.func82.trans (congrArg some (by kernel_rfl))⟩
 f7 := Tryz.func127.trans (congrArg some (by kernel_rfl))
 t4 := Tryz.underlying4
 a4 := Tryz.isAgg4
 z4 := Tryz.sizeOf4
 v4 := Tryz.zeroValue4
 t20 := Tryz.underlying20
 a20 := Tryz.isAgg20
 z20 := Tryz.sizeOf20
 v20 := Tryz.zeroValue20
 t23 := Tryz.underlying145
 a23 := Tryz.isAgg145
 z23 := Tryz.sizeOf145
 v23 := Tryz.zeroValue145 }
end Go.Proofs
namespace Go.Proofs.YtlmccbepllgbfaaGreatDoor
open Go Go.RowKit Go.Pal Go.Shelf
attribute [local go_sem] Oper.semAt_some
theorem cloneMV_any (b : Nat) (l : List (Int × Th)) (w : World) (h : Pal.Own CV Tryz.prog 3 w b l) : Calls Tryz.prog 81 #[.map (some b)] w fun e w' => e = .returned (.map (some w.heap.size)) ∧ Pal.Own CV Tryz.prog 3 w' w.heap.size l ∧ Below w.heap.size w w' := by
 obtain ⟨D, ho, hM⟩ := h
 exact (AnyW.maps_Clone_owns Tryz.laysCloneMV 3 CV.R b l.length D w ho).mono fun e w' ⟨h1, h2, _, h4⟩ => ⟨h1, ⟨D, h2, hM⟩, h4⟩
theorem cloneME_any (b : Nat) (l : List ((Int × Int) × Th)) (w : World) (h : Pal.Own CE Tryz.prog 150 w b l) : Calls Tryz.prog 82 #[.map (some b)] w fun e w' => e = .returned (.map (some w.heap.size)) ∧ Pal.Own CE Tryz.prog 150 w' w.heap.size l ∧ Below w.heap.size w w' := by
 obtain ⟨D, ho, hM⟩ := h
 exact (AnyW.maps_Clone_owns Tryz.laysCloneME 150 CE.R b l.length D w ho).mono fun e w' ⟨h1, h2, _, h4⟩ => ⟨h1, ⟨D, h2, hM⟩, h4⟩
theorem gclone_any (g bV bE : Nat) (G : Gr) (w : World) (h : GOk w g bV bE G) :
   Calls Tryz.prog 34 #[.pointer (some ⟨g, 0, none⟩)] w fun r w' => ∃ g' bV' bE', r = .returned (.pointer (some ⟨g', 0, none⟩)) ∧ GOk w' g' bV' bE' G ∧ (w.heap.size ≤ g' ∧ w.heap.size ≤ bV' ∧ w.heap.size ≤ bE') ∧ Below w.heap.size w w' := by
 have H0 := Lib.hid h
 have hgl := h.lt
 have HC := Lib.hid fun W (hW : Below w.heap.size w W) => show W.cell? ⟨g, 0, none⟩ = some (.map (some bV)) ∧ W.cell? ⟨g, 1, none⟩ = some (.map (some bE)) from ⟨(cell?_row (i := 0) (h.below hW).row).trans rfl, (cell?_row (i := 1) (h.below hW).row).trans rfl⟩
 clear h
 go_enter Tryz.func34, Tryz.ntmps34
 go_wp2_with fail
 refine wp_region_mix (fun W => Below w.heap.size w W) 12 [(0, true), (1, true), (2, true), (3, true), (5, true), (6, true), (7, true), (8, true), (4, false), (9, false), (10, true), (11, false)] (by kernel_rfl) (by kernel_rfl) (Below.refl _ _).drew ?_
 repeat (apply wpPlan_still rfl rfl; (intro w hw; obtain ⟨k1, k2⟩ := HC.out _ hw; clear hw; go_simp; (try go_ints); (first | with_reducible rfl | (go_simp; with_reducible rfl))); (intro K hK; go_simp; (try go_ints); refine hK _ _ ?_; clear hK K))
 apply wpPlan_act rfl rfl
 intro K hK
 unfold Oper.wp
 go_simp
 refine (cloneMV_any bV G.V w.drew (H0.out.below (Below.refl _ _).drew).V).mono ?_
 rintro r w1 ⟨rfl, hV1, hb1⟩
 have hb1' : Below w.heap.size w w1 := (Below.refl _ w).drew.trans hb1
 have HV1 := Lib.hid hV1
 have HB1 := Lib.hid hb1'
 refine hK _ _ hb1' ?_
 clear hK K hV1 hb1 hb1'
 apply wpPlan_act rfl rfl
 intro K hK
 unfold Oper.wp
 go_simp
 refine (cloneME_any bE G.E w1 (H0.out.below HB1.out).E).mono ?_
 rintro r w2 ⟨rfl, hE2, hb2⟩
 have hs1 := HB1.out.size
 have HE2 := Lib.hid hE2
 have HV2 := Lib.hid (HV1.out.below hb2 HV1.out.lt)
 have HB2 := Lib.hid (HB1.out.trans (hb2.mono hs1))
 have hne : w.drew.heap.size ≠ w1.heap.size := by have := HV1.out.lt; omega
 refine hK _ _ HB2.out ?_
 clear hK K hE2 hb2
 repeat (apply wpPlan_still rfl rfl; (intro w hw; clear hw; go_simp; (try go_ints); (first | with_reducible rfl | (go_simp; with_reducible rfl))); (intro K hK; go_simp; (try go_ints); refine hK _ _ ?_; clear hK K))
 apply wpPlan_act rfl rfl
 intro K hK
 unfold Oper.wp
 go_simp
 have hs2 := HB2.out.size
 refine hK _ _ (HB2.out.alloc hs2 _) ?_
 clear hK K
 refine wpPlan_nil ?_
 simp only [List.drop_succ_cons, List.drop_zero]
 go_wp2_with fail
 go_ret
 have hl2 := HE2.out.lt
 have hl1 := HV2.out.lt
 refine ⟨w2.heap.size, w.heap.size, w1.heap.size, rfl, ⟨row?_alloc_at _ _ _ _ rfl, HV2.out.congr (Below.heap_alloc _ _ _ hl1), HE2.out.congr (Below.heap_alloc _ _ _ hl2), hne⟩, ⟨by omega, Nat.le_refl _, by omega⟩, HB2.out.alloc hs2 _⟩
theorem eqTH (a b : Int) (w : World) : (Op.equalIn 10000 144 (.agg #[.int .u8 a, .int .i64 b]) (.agg #[.int .u8 a, .int .i64 b])).run Tryz.prog w = .ok true w := by
 have hst : Tryz.prog.stoodInHeld 144 = false := by kernel_rfl
 have h1 : ∀ (p : Int) w, (Op.equalIn 9999 3 (.int .i64 p) (.int .i64 p)).run Tryz.prog w = .ok true w := fun p w => by rw [run_equalIn_int (P := Tryz.prog) w 9998 3 .i64 .i64 p p Tryz.underlying3]; simp
 have h2 : ∀ (p : Int) w, (Op.equalIn 9999 5 (.int .u8 p) (.int .u8 p)).run Tryz.prog w = .ok true w := fun p w => by rw [run_equalIn_int (P := Tryz.prog) w 9998 5 .u8 .u8 p p Tryz.underlying5]; simp
 have hpr : ∀ w, (program).run Tryz.prog w = .ok Tryz.prog w := fun _ => rfl
 rw [show (10000 : Nat) = 9999 + 1 from rfl, Op.equalIn]
 simp only [Sem.run_bind, run_underlying Tryz.underlying144, Result.andThen_ok, hpr, hst, Bool.false_eq_true, if_false, List.forIn_toArray, List.forIn_cons, List.forIn_nil]
 simp [Sem.run_bind, part, Tryz.isAgg3, Tryz.isAgg5, h1, h2]
theorem guardTH : Tryz.prog.eqGuardType Tryz.prog.depth 144 = false := by kernel_rfl
theorem mequalV_any (b1 b2 : Nat) (l : List (Int × Th)) (w : World) (h1 : Pal.Own CV Tryz.prog 3 w b1 l) (h2 : Pal.Own CV Tryz.prog 3 w b2 l) :
   Calls Tryz.prog 62 #[.map (some b1), .map (some b2)] w fun r w' => r = .returned (.bool true) ∧ Below w.heap.size w w' := by
 have hl1 := fun ty => h1.len Tryz.underlying142 ty
 have hl2 := fun ty => h2.len Tryz.underlying142 ty
 have hnd := h1.nd
 have hok := h1.okd
 have hb2 := h2.lt
 have H2 := Lib.hid h2
 have HND := Lib.hid hnd
 have HOK := Lib.hid hok
 have hgt := guardTH
 have het := eqTH
 obtain ⟨w1, hrg, hR, hb, hs1⟩ := h1.range goodV Tryz.underlying142
 have HR := Lib.hid hR
 have HB := Lib.hid hb
 clear h1 h2 hR hb hnd hok
 go_enter Tryz.func62, Tryz.ntmps62
 go_wp2_with fail
 go_loopw [5] (fun _ wr => ∃ rest, (∀ p ∈ rest, p ∈ l) ∧ Rng CV Tryz.prog 3 wr b1 w.heap.size l rest ∧ Below w.heap.size w wr) (fun _ wr => wr.rangeLeft b1 w.heap.size)
 case atStart => exact ⟨l, fun p hp => hp, HR.out, HB.out⟩
 case round =>
   obtain ⟨rest, hin, hRr, hbr⟩ := hrel
   have hsz := hbr.size
   have hRlt := hRr.lt
   have HBr := Lib.hid hbr
   rcases hRr.next2 goodV 0 with ⟨rfl, hrun⟩ | ⟨x, y, r1, r2, w2, rfl, hrun, hR2, hgr, hsz2, hen, hlt⟩
   · clear hin hRr hrg
     go_wp2_with fail
     go_ret
     exact ⟨rfl, HBr.out⟩
   · have hmem := hin (x, y) (by simp)
     have hlk0 := (look_mem HND.out).2 hmem
     have hxok := HOK.out _ hmem
     have hS2 := same_grown hgr
     have hb2' : Below w.heap.size w w2 := hbr.trans (hS2.below (by omega) fun j hj e => by cases e; omega)
     have HB2 := Lib.hid hb2'
     have HR2 := Lib.hid hR2
     have HIn2 : Hid (∀ p ∈ r1 ++ r2, p ∈ l) := Lib.hid fun p hp => hin p (by
       rcases List.mem_append.1 hp with h | h
       · exact List.mem_append_left _ h
       · exact List.mem_append_right _ (List.mem_cons_of_mem _ h))
     have HLk := Lib.hid fun W (hW : Below w.heap.size w W) => (H2.out.below hW hb2).look_ok goodV Tryz.underlying142 (b0 := (0, 0)) zeroThing hxok
     rw [hlk0] at HLk
     have HLT := Lib.hid hlt
     obtain ⟨yl, yw⟩ := y
     obtain x := x
     have hrun1 : (Instr.next (.pointer (some ⟨w.heap.size, 0, none⟩)) false 0).run Tryz.prog wr = .ok (.tuple #[.bool true, .int .i64 x, .agg #[.int .u8 (yl : Int), .int .i64 yw]]) w2 := hrun
     have hen1 : (Instr.entry (.pointer (some ⟨w.heap.size, 0, none⟩))).run Tryz.prog w2 = .ok (.tuple #[.int .i64 x, .agg #[.int .u8 (yl : Int), .int .i64 yw]]) w2 := hen
     have hlk1 : ∀ o, (Instr.lookup 142 (.map (some b2)) (.int .i64 x) true).run Tryz.prog (w2.alloc o) = .ok (.tuple #[.agg #[.int .u8 (yl : Int), .int .i64 yw], .bool true]) (w2.alloc o) := fun o => HLk.out _ (HB2.out.alloc (by omega) _)
     have hlk2 : ∀ o o', (Instr.lookup 142 (.map (some b2)) (.int .i64 x) true).run Tryz.prog ((w2.alloc o).alloc o') = .ok (.tuple #[.agg #[.int .u8 (yl : Int), .int .i64 yw], .bool true]) ((w2.alloc o).alloc o') := fun o o' => HLk.out _ ((HB2.out.alloc (by omega) _).alloc (by simp; omega) _)
     clear hin hRr hrg hrun hen hlt hmem hlk0 hxok hR2 hgr hS2 hb2' hbr
     have hb1l := HR2.out.own.lt
     have hrl := HR2.out.lt
     have HE : Hid (∀ (j : Nat) (W' : World), Below w2.heap.size w2 W' → j < w2.heap.size → W'.heap[j]? = w2.heap[j]?) := Lib.hid fun j W' hb hj => hb.block j hj
     go_wp2_with fail
     go_roundw
     case rel =>
       refine ⟨r1 ++ r2, HIn2.out, HR2.out.congr (HE.out _ _ ?_ hb1l) (HE.out _ _ ?_ hrl), HB2.out.trans (Below.mono (B := w2.heap.size) ?_ (by omega))⟩
       all_goals
         (repeat' (first | (with_reducible first | exact Below.refl _ _ | assumption | refine Below.alloc ?_ ?_ _ | refine Below.drew ?_ | refine Below.setCell ?_ ?_ _ | refine below_setRow ?_ ?_ _ | exact Nat.le_refl _) | omega | (simp; done) | (simp; omega) | (simp at *; omega)))
     case measure =>
       refine Nat.lt_of_le_of_lt (Nat.le_of_eq (left_congr (w := w2) (HE.out _ _ ?_ hb1l) (HE.out _ _ ?_ hrl))) HLT.out
       all_goals
         (repeat' (first | (with_reducible first | exact Below.refl _ _ | assumption | refine Below.alloc ?_ ?_ _ | refine Below.drew ?_ | refine Below.setCell ?_ ?_ _ | refine below_setRow ?_ ?_ _ | exact Nat.le_refl _) | omega | (simp; done) | (simp; omega) | (simp at *; omega)))
theorem mequalE_any (b1 b2 : Nat) (l : List ((Int × Int) × Th)) (w : World) (h1 : Pal.Own CE Tryz.prog 150 w b1 l) (h2 : Pal.Own CE Tryz.prog 150 w b2 l) :
   Calls Tryz.prog 63 #[.map (some b1), .map (some b2)] w fun r w' => r = .returned (.bool true) ∧ Below w.heap.size w w' := by
 have hl1 := fun ty => h1.len Tryz.underlying145 ty
 have hl2 := fun ty => h2.len Tryz.underlying145 ty
 have hnd := h1.nd
 have hok := h1.okd
 have hb2 := h2.lt
 have H2 := Lib.hid h2
 have HND := Lib.hid hnd
 have HOK := Lib.hid hok
 have hgt := guardTH
 have het := eqTH
 obtain ⟨w1, hrg, hR, hb, hs1⟩ := h1.range goodE Tryz.underlying145
 have HR := Lib.hid hR
 have HB := Lib.hid hb
 clear h1 h2 hR hb hnd hok
 go_enter Tryz.func63, Tryz.ntmps63
 go_wp2_with fail
 go_loopw [5] (fun _ wr => ∃ rest, (∀ p ∈ rest, p ∈ l) ∧ Rng CE Tryz.prog 150 wr b1 w.heap.size l rest ∧ Below w.heap.size w wr) (fun _ wr => wr.rangeLeft b1 w.heap.size)
 case atStart => exact ⟨l, fun p hp => hp, HR.out, HB.out⟩
 case round =>
   obtain ⟨rest, hin, hRr, hbr⟩ := hrel
   have hsz := hbr.size
   have hRlt := hRr.lt
   have HBr := Lib.hid hbr
   rcases hRr.next2 goodE 0 with ⟨rfl, hrun⟩ | ⟨x, y, r1, r2, w2, rfl, hrun, hR2, hgr, hsz2, hen, hlt⟩
   · clear hin hRr hrg
     go_wp2_with fail
     go_ret
     exact ⟨rfl, HBr.out⟩
   · have hmem := hin (x, y) (by simp)
     have hlk0 := (look_mem HND.out).2 hmem
     have hxok := HOK.out _ hmem
     have hS2 := same_grown hgr
     have hb2' : Below w.heap.size w w2 := hbr.trans (hS2.below (by omega) fun j hj e => by cases e; omega)
     have HB2 := Lib.hid hb2'
     have HR2 := Lib.hid hR2
     have HIn2 : Hid (∀ p ∈ r1 ++ r2, p ∈ l) := Lib.hid fun p hp => hin p (by
       rcases List.mem_append.1 hp with h | h
       · exact List.mem_append_left _ h
       · exact List.mem_append_right _ (List.mem_cons_of_mem _ h))
     have HLk := Lib.hid fun W (hW : Below w.heap.size w W) => (H2.out.below hW hb2).look_ok goodE Tryz.underlying145 (b0 := (0, 0)) zeroThing hxok
     rw [hlk0] at HLk
     have HLT := Lib.hid hlt
     obtain ⟨yl, yw⟩ := y
     obtain ⟨x1, x2⟩ := x
     have hrun1 : (Instr.next (.pointer (some ⟨w.heap.size, 0, none⟩)) false 0).run Tryz.prog wr = .ok (.tuple #[.bool true, .agg #[.int .i64 x1, .int .i64 x2], .agg #[.int .u8 (yl : Int), .int .i64 yw]]) w2 := hrun
     have hen1 : (Instr.entry (.pointer (some ⟨w.heap.size, 0, none⟩))).run Tryz.prog w2 = .ok (.tuple #[.agg #[.int .i64 x1, .int .i64 x2], .agg #[.int .u8 (yl : Int), .int .i64 yw]]) w2 := hen
     have hlk1 : ∀ o, (Instr.lookup 145 (.map (some b2)) (.agg #[.int .i64 x1, .int .i64 x2]) true).run Tryz.prog (w2.alloc o) = .ok (.tuple #[.agg #[.int .u8 (yl : Int), .int .i64 yw], .bool true]) (w2.alloc o) := fun o => HLk.out _ (HB2.out.alloc (by omega) _)
     have hlk2 : ∀ o o', (Instr.lookup 145 (.map (some b2)) (.agg #[.int .i64 x1, .int .i64 x2]) true).run Tryz.prog ((w2.alloc o).alloc o') = .ok (.tuple #[.agg #[.int .u8 (yl : Int), .int .i64 yw], .bool true]) ((w2.alloc o).alloc o') := fun o o' => HLk.out _ ((HB2.out.alloc (by omega) _).alloc (by simp; omega) _)
     clear hin hRr hrg hrun hen hlt hmem hlk0 hxok hR2 hgr hS2 hb2' hbr
     have hb1l := HR2.out.own.lt
     have hrl := HR2.out.lt
     have HE : Hid (∀ (j : Nat) (W' : World), Below w2.heap.size w2 W' → j < w2.heap.size → W'.heap[j]? = w2.heap[j]?) := Lib.hid fun j W' hb hj => hb.block j hj
     go_wp2_with fail
     go_roundw
     case rel =>
       refine ⟨r1 ++ r2, HIn2.out, HR2.out.congr (HE.out _ _ ?_ hb1l) (HE.out _ _ ?_ hrl), HB2.out.trans (Below.mono (B := w2.heap.size) ?_ (by omega))⟩
       all_goals
         (repeat' (first | (with_reducible first | exact Below.refl _ _ | assumption | refine Below.alloc ?_ ?_ _ | refine Below.drew ?_ | refine Below.setCell ?_ ?_ _ | refine below_setRow ?_ ?_ _ | exact Nat.le_refl _) | omega | (simp; done) | (simp; omega) | (simp at *; omega)))
     case measure =>
       refine Nat.lt_of_le_of_lt (Nat.le_of_eq (left_congr (w := w2) (HE.out _ _ ?_ hb1l) (HE.out _ _ ?_ hrl))) HLT.out
       all_goals
         (repeat' (first | (with_reducible first | exact Below.refl _ _ | assumption | refine Below.alloc ?_ ?_ _ | refine Below.drew ?_ | refine Below.setCell ?_ ?_ _ | refine below_setRow ?_ ?_ _ | exact Nat.le_refl _) | omega | (simp; done) | (simp; omega) | (simp at *; omega)))
theorem gequal_any (g bV bE g' bV' bE' : Nat) (G : Gr) (w : World) (h : GOk w g bV bE G) (h' : GOk w g' bV' bE' G) :
   Calls Tryz.prog 22 #[.pointer (some ⟨g, 0, none⟩), .pointer (some ⟨g', 0, none⟩)] w fun r w' => r = .returned (.bool true) ∧ Below w.heap.size w w' := by
 have HC := Lib.hid fun W (hW : Below w.heap.size w W) => show W.cell? ⟨g, 0, none⟩ = some (.map (some bV)) ∧ W.cell? ⟨g, 1, none⟩ = some (.map (some bE)) ∧ W.cell? ⟨g', 0, none⟩ = some (.map (some bV')) ∧ W.cell? ⟨g', 1, none⟩ = some (.map (some bE')) from
   ⟨(cell?_row (i := 0) (h.below hW).row).trans rfl, (cell?_row (i := 1) (h.below hW).row).trans rfl, (cell?_row (i := 0) (h'.below hW).row).trans rfl, (cell?_row (i := 1) (h'.below hW).row).trans rfl⟩
 have H1 := Lib.hid fun W (hW : Below w.heap.size w W) => mequalV_any bV bV' G.V W (h.below hW).V (h'.below hW).V
 have H2 := Lib.hid fun W (hW : Below w.heap.size w W) => mequalE_any bE bE' G.E W (h.below hW).E (h'.below hW).E
 clear h h'
 go_enter Tryz.func22, Tryz.ntmps22
 go_wp2_with fail
 refine wp_region_free (fun W => Below w.heap.size w W) (by kernel_rfl) (by kernel_rfl) (Below.refl _ _).drew ?_
 repeat (first | ((first | apply wpFree_still (hg := rfl) | apply wpFree_stillG rfl); (intro w hw; obtain ⟨k1, k2, k3, k4⟩ := HC.out w hw; clear hw; go_simp; (try go_ints); (first | with_reducible rfl | (go_simp; with_reducible rfl))); (intro K hK; go_simp; (try go_ints); refine hK _ ?_; clear hK K)) | (apply wpFree_skip rfl; (intro K hK; go_simp; (try go_ints); refine hK _ ?_; clear hK K)))
 apply wpFree_call
 · intro w hw; go_simp; first | with_reducible rfl | with_reducible exact ⟨rfl, rfl⟩
 · with_reducible rfl
 · intro w hw; exact (H1.out w hw).mono fun e w' ⟨h1, h2⟩ => ⟨h1, hw.trans (h2.mono hw.size)⟩
 intro K hK; go_simp; (try go_ints); refine hK _ ?_; clear hK K
 repeat (first | ((first | apply wpFree_still (hg := rfl) | apply wpFree_stillG rfl); (intro w hw; obtain ⟨k1, k2, k3, k4⟩ := HC.out w hw; clear hw; go_simp; (try go_ints); (first | with_reducible rfl | (go_simp; with_reducible rfl))); (intro K hK; go_simp; (try go_ints); refine hK _ ?_; clear hK K)) | (apply wpFree_skip rfl; (intro K hK; go_simp; (try go_ints); refine hK _ ?_; clear hK K)))
 apply wpFree_callG rfl
 · intro w hw; go_simp; first | with_reducible rfl | with_reducible exact ⟨rfl, rfl⟩
 · intro w hw; exact (H2.out w hw).mono fun e w' ⟨h1, h2⟩ => ⟨h1, hw.trans (h2.mono hw.size)⟩
 intro K hK; go_simp; (try go_ints); refine hK _ ?_; clear hK K
 repeat (first | ((first | apply wpFree_still (hg := rfl) | apply wpFree_stillG rfl); (intro w hw; clear hw; go_simp; (try go_ints); (first | with_reducible rfl | (go_simp; with_reducible rfl))); (intro K hK; go_simp; (try go_ints); refine hK _ ?_; clear hK K)) | (apply wpFree_skip rfl; (intro K hK; go_simp; (try go_ints); refine hK _ ?_; clear hK K)))
 with_reducible refine wpFree_nil ?_
 intro w2 hb2
 have HB2 := Lib.hid hb2
 clear hb2
 go_wp2_with fail
 go_ret
 exact ⟨rfl, HB2.out⟩
@[go_sem] theorem storeRD_at (w : World) (g : Nat) (d : Array Value) : rowStore Tryz.prog 30 ⟨g, 0, none⟩ (.agg d) w = match row? w g with
     | some c => if c.size = 5 ∧ d.size = 5 ∧ allOne d = true then .ok () (w.setRow g d) else laterStore Tryz.prog 30 ⟨g, 0, none⟩ (.agg d) w
     | none => laterStore Tryz.prog 30 ⟨g, 0, none⟩ (.agg d) w := store_row Tryz.sizeOf30 w g d
@[go_sem ↓ high] theorem zeroRD (w : World) : (zeroValue 30).run Tryz.prog w = .ok (.agg #[.int .i64 0, .int .i64 0, .int .i64 0, .int .u8 0, .int .i64 0]) w := by kernel_rfl
@[go_sem] theorem allOne_i5 (a b c d e : Int) (p q r s t : IntKind) : allOne #[.int p a, .int q b, .int r c, .int s d, .int t e] = true := by unfold allOne; simp [Value.oneCell']
@[go_sem ↓ high] theorem b_RDall (o u v l t : Int) (w : World) : (Instr.build 30 #[(0, .int .i64 o), (1, .int .i64 u), (2, .int .i64 v), (3, .int .u8 l), (4, .int .i64 t)]).run Tryz.prog w = .ok (.agg #[.int .i64 o, .int .i64 u, .int .i64 v, .int .u8 l, .int .i64 t]) w := by kernel_rfl
theorem d06_any (e : Ed) (w : World) : Calls Tryz.prog 12 #[.agg (edC e)] w fun r w' => r = .returned (.agg (edC e)) ∧ Below w.heap.size w w' := by
 obtain ⟨o, u, v, l, t⟩ := e
 have he : edC ⟨o, u, v, l, t⟩ = #[.int .i64 o, .int .i64 u, .int .i64 v, .int .u8 (l : Int), .int .i64 t] := rfl
 rw [he]
 clear he
 go_enter Tryz.func12, Tryz.ntmps12
 go_wp2_with fail
 refine ret_row (w.heap.size + 1) #[.int .i64 o, .int .i64 u, .int .i64 v, .int .u8 (l : Int), .int .i64 t] rfl Tryz.isAgg30 Tryz.sizeOf30 rfl rfl (by simp [go_sem]) rfl ⟨rfl, ?_⟩
 (repeat' (first | (with_reducible first | exact Below.refl _ _ | assumption | refine Below.alloc ?_ ?_ _ | refine Below.drew ?_ | refine Below.setCell ?_ ?_ _ | refine below_setRow ?_ ?_ _ | exact Nat.le_refl _) | omega | (simp; done) | (simp; omega) | (simp at *; omega)))
theorem eqRD (a b c d e : Int) (w : World) : (Op.equalIn 10000 30 (.agg #[.int .i64 a, .int .i64 b, .int .i64 c, .int .u8 d, .int .i64 e]) (.agg #[.int .i64 a, .int .i64 b, .int .i64 c, .int .u8 d, .int .i64 e])).run Tryz.prog w = .ok true w := by
 have hst : Tryz.prog.stoodInHeld 30 = false := by kernel_rfl
 have h1 : ∀ (p : Int) w, (Op.equalIn 9999 3 (.int .i64 p) (.int .i64 p)).run Tryz.prog w = .ok true w := fun p w => by rw [run_equalIn_int (P := Tryz.prog) w 9998 3 .i64 .i64 p p Tryz.underlying3]; simp
 have h2 : ∀ (p : Int) w, (Op.equalIn 9999 5 (.int .u8 p) (.int .u8 p)).run Tryz.prog w = .ok true w := fun p w => by rw [run_equalIn_int (P := Tryz.prog) w 9998 5 .u8 .u8 p p Tryz.underlying5]; simp
 have hpr : ∀ w, (program).run Tryz.prog w = .ok Tryz.prog w := fun _ => rfl
 rw [show (10000 : Nat) = 9999 + 1 from rfl, Op.equalIn]
 simp only [Sem.run_bind, run_underlying Tryz.underlying30, Result.andThen_ok, hpr, hst, Bool.false_eq_true, if_false, List.forIn_toArray, List.forIn_cons, List.forIn_nil]
 simp [Sem.run_bind, part, Tryz.isAgg3, Tryz.isAgg5, h1, h2]
theorem guardRD : Tryz.prog.eqGuardType Tryz.prog.depth 30 = false := by kernel_rfl
theorem eqRV (a b c : Int) (w : World) : (Op.equalIn 10000 127 (.agg #[.int .i64 a, .int .u8 b, .int .i64 c]) (.agg #[.int .i64 a, .int .u8 b, .int .i64 c])).run Tryz.prog w = .ok true w := by
 have hst : Tryz.prog.stoodInHeld 127 = false := by kernel_rfl
 have h1 : ∀ (p : Int) w, (Op.equalIn 9999 3 (.int .i64 p) (.int .i64 p)).run Tryz.prog w = .ok true w := fun p w => by rw [run_equalIn_int (P := Tryz.prog) w 9998 3 .i64 .i64 p p Tryz.underlying3]; simp
 have h2 : ∀ (p : Int) w, (Op.equalIn 9999 5 (.int .u8 p) (.int .u8 p)).run Tryz.prog w = .ok true w := fun p w => by rw [run_equalIn_int (P := Tryz.prog) w 9998 5 .u8 .u8 p p Tryz.underlying5]; simp
 have hpr : ∀ w, (program).run Tryz.prog w = .ok Tryz.prog w := fun _ => rfl
 rw [show (10000 : Nat) = 9999 + 1 from rfl, Op.equalIn]
 simp only [Sem.run_bind, run_underlying Tryz.underlying127, Result.andThen_ok, hpr, hst, Bool.false_eq_true, if_false, List.forIn_toArray, List.forIn_cons, List.forIn_nil]
 simp [Sem.run_bind, part, Tryz.isAgg3, Tryz.isAgg5, h1, h2]
theorem guardRV : Tryz.prog.eqGuardType Tryz.prog.depth 127 = false := by kernel_rfl
theorem eqRE (a b c d : Int) (w : World) : (Op.equalIn 10000 128 (.agg #[.int .i64 a, .int .i64 b, .int .u8 c, .int .i64 d]) (.agg #[.int .i64 a, .int .i64 b, .int .u8 c, .int .i64 d])).run Tryz.prog w = .ok true w := by
 have hst : Tryz.prog.stoodInHeld 128 = false := by kernel_rfl
 have h1 : ∀ (p : Int) w, (Op.equalIn 9999 3 (.int .i64 p) (.int .i64 p)).run Tryz.prog w = .ok true w := fun p w => by rw [run_equalIn_int (P := Tryz.prog) w 9998 3 .i64 .i64 p p Tryz.underlying3]; simp
 have h2 : ∀ (p : Int) w, (Op.equalIn 9999 5 (.int .u8 p) (.int .u8 p)).run Tryz.prog w = .ok true w := fun p w => by rw [run_equalIn_int (P := Tryz.prog) w 9998 5 .u8 .u8 p p Tryz.underlying5]; simp
 have hpr : ∀ w, (program).run Tryz.prog w = .ok Tryz.prog w := fun _ => rfl
 rw [show (10000 : Nat) = 9999 + 1 from rfl, Op.equalIn]
 simp only [Sem.run_bind, run_underlying Tryz.underlying128, Result.andThen_ok, hpr, hst, Bool.false_eq_true, if_false, List.forIn_toArray, List.forIn_cons, List.forIn_nil]
 simp [Sem.run_bind, part, Tryz.isAgg3, Tryz.isAgg5, h1, h2]
theorem guardRE : Tryz.prog.eqGuardType Tryz.prog.depth 128 = false := by kernel_rfl
theorem rsame_any (G : Gr) (hG : G.Ok) (vVa vEa vVb vEb : Value) (w : World) (ha : RefG w vVa vEa G) (hb : RefG w vVb vEb G) :
   Calls Tryz.prog 20 #[.agg #[vVa, vEa], .agg #[vVb, vEb]] w fun r w' => r = .returned (.bool true) ∧ Below w.heap.size w w' := by
 have HRa := Lib.hid ha
 have HRb := Lib.hid hb
 have hl := hG.len
 have hm := hG.most
 obtain ⟨aVa, cVa, rfl⟩ := ha.1.sl
 obtain ⟨aEa, cEa, rfl⟩ := ha.2.sl
 obtain ⟨aVb, cVb, rfl⟩ := hb.1.sl
 obtain ⟨aEb, cEb, rfl⟩ := hb.2.sl
 obtain ⟨LV, hLV⟩ : ∃ n, n = G.V.length := ⟨_, rfl⟩
 obtain ⟨LE, hLE⟩ : ∃ n, n = G.E.length := ⟨_, rfl⟩
 have HLV := Lib.hid hLV
 have HLE := Lib.hid hLE
 rw [← hLV] at hl
 rw [← hLE] at hm
 rw [← hLV, ← hLE] at HRa HRb ⊢
 have hgV := guardRV
 have hgE := guardRE
 have heV := eqRV
 have heE := eqRE
 clear ha hb hG hLV hLE
 go_enter Tryz.func20, Tryz.ntmps20
 go_wp2_with fail
 generalize hW0 : World.alloc (World.alloc w _) _ = W0
 have ra : row? W0 w.heap.size = some #[.slice aVa LV cVa, .slice aEa LE cEa] := by rw [← hW0]; simp [go_sem]
 have rb : row? W0 (w.heap.size + 1) = some #[.slice aVb LV cVb, .slice aEb LE cEb] := by rw [← hW0]; simp [go_sem]
 have hB0 : Below w.heap.size w W0 := by
   rw [← hW0]
   (repeat' (first | (with_reducible first | exact Below.refl _ _ | assumption | refine Below.alloc ?_ ?_ _ | refine Below.drew ?_ | refine Below.setCell ?_ ?_ _ | refine below_setRow ?_ ?_ _ | exact Nat.le_refl _) | omega | (simp; done) | (simp; omega) | (simp at *; omega)))
 have hs0 : w.heap.size + 2 ≤ W0.heap.size := by rw [← hW0]; simp
 have HC := Lib.hid fun W (h : Below W0.heap.size W0 W) => show W.cell? ⟨w.heap.size, 0, none⟩ = some (.slice aVa LV cVa) ∧ W.cell? ⟨w.heap.size, 1, none⟩ = some (.slice aEa LE cEa) ∧ W.cell? ⟨w.heap.size + 1, 0, none⟩ = some (.slice aVb LV cVb) ∧ W.cell? ⟨w.heap.size + 1, 1, none⟩ = some (.slice aEb LE cEb) from
   ⟨(cell?_row (i := 0) ((row?_below h (by omega)).trans ra)).trans rfl, (cell?_row (i := 1) ((row?_below h (by omega)).trans ra)).trans rfl, (cell?_row (i := 0) ((row?_below h (by omega)).trans rb)).trans rfl, (cell?_row (i := 1) ((row?_below h (by omega)).trans rb)).trans rfl⟩
 have HBW := Lib.hid fun W (hW : Below W0.heap.size W0 W) => hB0.trans (hW.mono hB0.size)
 clear hW0 ra rb hB0
 go_loopw [5] (fun i wr => ∃ k : Nat, k ≤ LV ∧ i = .int .i64 (k : Int) ∧ Below W0.heap.size W0 wr) (fun i _ => LV - (intOf i).toNat)
 case atStart => exact ⟨0, by omega, rfl, Below.refl _ _⟩
 case round =>
   obtain ⟨k, hk, rfl, hb⟩ := hrel
   have HB := Lib.hid hb
   obtain ⟨k1, k2, k3, k4⟩ := HC.out wr hb
   clear hb
   by_cases hlt : k < LV
   · obtain ⟨b, off, c', x, h1, hbb, hx, hc⟩ := HRa.out.1.at (by rw [← (HLV).out]; exact hlt)
     simp only [Value.slice.injEq] at h1
     obtain ⟨rfl, -, rfl⟩ := h1
     obtain ⟨b2, off2, c2, x', h2, hbb2, hx', hc2⟩ := HRb.out.1.at (by rw [← (HLV).out]; exact hlt)
     rw [hx] at hx'
     cases hx'
     simp only [Value.slice.injEq] at h2
     obtain ⟨rfl, -, rfl⟩ := h2
     obtain ⟨xi, xl, xw⟩ := x
     have HL := Lib.hid fun W (hW : Below W0.heap.size W0 W) => show rowLoad Tryz.prog 127 ⟨b, off + k * 3, none⟩ W = .ok (.agg #[.int .i64 xi, .int .u8 (xl : Int), .int .i64 xw]) W ∧ rowLoad Tryz.prog 127 ⟨b2, off2 + k * 3, none⟩ W = .ok (.agg #[.int .i64 xi, .int .u8 (xl : Int), .int .i64 xw]) W from
       ⟨load_cells Tryz.isAgg127 Tryz.sizeOf127 W b _ _ rfl fun j u hu => hc W (HBW.out W hW) j u hu, load_cells Tryz.isAgg127 Tryz.sizeOf127 W b2 _ _ rfl fun j u hu => hc2 W (HBW.out W hW) j u hu⟩
     clear hx hc hc2
     go_wp2_with fail
     clear k1 k2 k3 k4
     refine wp_region_free (fun W => Below W0.heap.size W0 W) (by kernel_rfl) (by kernel_rfl) HB.out.drew ?_
     repeat (first | ((first | apply wpFree_still (hg := rfl) | apply wpFree_stillG rfl); (intro w hw; obtain ⟨k1, k2, k3, k4⟩ := HC.out w hw; obtain ⟨j1, j2⟩ := HL.out w hw; clear hw; go_simp; (try go_ints); (first | with_reducible rfl | (go_simp; with_reducible rfl))); (intro K hK; go_simp; (try go_ints); refine hK _ ?_; clear hK K)) | (apply wpFree_skip rfl; (intro K hK; go_simp; (try go_ints); refine hK _ ?_; clear hK K)))
     with_reducible refine wpFree_nil ?_
     intro w2 hb2
     have HB2 := Lib.hid hb2
     clear hb2
     go_wp2_with fail
     go_roundw
     case rel => exact ⟨k + 1, by omega, by go_num, HB2.out⟩
     case measure => simp [intOf]; omega
   · have hkn : LV = k := by omega
     subst hkn
     obtain ⟨wo, rfl⟩ : ∃ W : World, W = wr := ⟨_, rfl⟩
     go_wp2_with fail
     clear k1 k2 k3 k4
     go_loopw [6] (fun i wr => ∃ k : Nat, k ≤ LE ∧ i = .int .i64 (k : Int) ∧ Below W0.heap.size W0 wr) (fun i _ => LE - (intOf i).toNat)
     case atStart => exact ⟨0, by omega, rfl, HB.out⟩
     case round =>
       obtain ⟨k, hk, rfl, hb⟩ := hrel
       have HB := Lib.hid hb
       obtain ⟨k1, k2, k3, k4⟩ := HC.out wr hb
       clear hb
       by_cases hlt : k < LE
       · obtain ⟨b, off, c', x, h1, hbb, hx, hc⟩ := HRa.out.2.at (by rw [← (HLE).out]; exact hlt)
         simp only [Value.slice.injEq] at h1
         obtain ⟨rfl, -, rfl⟩ := h1
         obtain ⟨b2, off2, c2, x', h2, hbb2, hx', hc2⟩ := HRb.out.2.at (by rw [← (HLE).out]; exact hlt)
         rw [hx] at hx'
         cases hx'
         simp only [Value.slice.injEq] at h2
         obtain ⟨rfl, -, rfl⟩ := h2
         obtain ⟨⟨xu, xv⟩, xl, xw⟩ := x
         have HL := Lib.hid fun W (hW : Below W0.heap.size W0 W) => show rowLoad Tryz.prog 128 ⟨b, off + k * 4, none⟩ W = .ok (.agg #[.int .i64 xu, .int .i64 xv, .int .u8 (xl : Int), .int .i64 xw]) W ∧ rowLoad Tryz.prog 128 ⟨b2, off2 + k * 4, none⟩ W = .ok (.agg #[.int .i64 xu, .int .i64 xv, .int .u8 (xl : Int), .int .i64 xw]) W from
           ⟨load_cells Tryz.isAgg128 Tryz.sizeOf128 W b _ _ rfl fun j u hu => hc W (HBW.out W hW) j u hu, load_cells Tryz.isAgg128 Tryz.sizeOf128 W b2 _ _ rfl fun j u hu => hc2 W (HBW.out W hW) j u hu⟩
         clear hx hc hc2
         go_wp2_with fail
         clear k1 k2 k3 k4
         refine wp_region_free (fun W => Below W0.heap.size W0 W) (by kernel_rfl) (by kernel_rfl) HB.out.drew ?_
         repeat (first | ((first | apply wpFree_still (hg := rfl) | apply wpFree_stillG rfl); (intro w hw; obtain ⟨k1, k2, k3, k4⟩ := HC.out w hw; obtain ⟨j1, j2⟩ := HL.out w hw; clear hw; go_simp; (try go_ints); (first | with_reducible rfl | (go_simp; with_reducible rfl))); (intro K hK; go_simp; (try go_ints); refine hK _ ?_; clear hK K)) | (apply wpFree_skip rfl; (intro K hK; go_simp; (try go_ints); refine hK _ ?_; clear hK K)))
         with_reducible refine wpFree_nil ?_
         intro w2 hb2
         have HB2 := Lib.hid hb2
         clear hb2
         go_wp2_with fail
         go_roundw
         case rel => exact ⟨k + 1, by omega, by go_num, HB2.out⟩
         case measure => simp [intOf]; omega
       · have hkn : LE = k := by omega
         subst hkn
         go_wp2_with fail
         go_ret
         exact ⟨rfl, HBW.out _ HB.out⟩
end Go.Proofs.YtlmccbepllgbfaaGreatDoor
namespace Go.Proofs.YtlmccbepllgbfaaGreatDoor
open Go Go.RowKit Go.Pal
attribute [local go_sem] Oper.semAt_some
theorem own_ne2 {α β : Type} {e e' : TypeId} {k k' : Nat} {enc : α → Array Value} {enc' : β → Array Value} {B B' : Nat} {w : World} {v v' : Value} {l : List α} {l' : List β} (h : OwnR e k enc B w v l) (h' : OwnR e' k' enc' B' w v' l') (he : e ≠ e') : ∀ j, v.ownBlock = some j → v'.ownBlock ≠ some j := by
 intro j hj hj'
 rcases h.2 with ⟨rfl, -⟩ | ⟨a, b, d, rfl, -, h2, -⟩
 · cases hj
 · rcases h'.2 with ⟨rfl, -⟩ | ⟨a', b', d', rfl, -, h4, -⟩
   · cases hj'
   · have e1 : a = j := Option.some.inj hj
     have e2 : a' = j := Option.some.inj hj'
     rw [e1] at h2
     rw [e2, h2] at h4
     simp only [Option.some.injEq, Obj.cells.injEq] at h4
     exact he h4.2.1
theorem to_any (g bV bE : Nat) (G : Gr) (hG : G.Ok) (w : World) (h : GOk w g bV bE G) :
   Calls Tryz.prog 21 #[.pointer (some ⟨g, 0, none⟩)] w fun r w' => ∃ vV vE, r = .returned (.agg #[vV, vE]) ∧ RefG w' vV vE G ∧ Below w.heap.size w w' := by
 have H0 := Lib.hid h
 have HG := Lib.hid hG
 have hl := hG.len
 have hm := hG.most
 obtain ⟨LV, hLV⟩ : ∃ n, n = G.V.length := ⟨_, rfl⟩
 obtain ⟨LE, hLE⟩ : ∃ n, n = G.E.length := ⟨_, rfl⟩
 have HLV := Lib.hid hLV
 have HLE := Lib.hid hLE
 rw [← hLV] at hl
 rw [← hLE] at hm
 clear h hG hLV hLE
 go_enter Tryz.func21, Tryz.ntmps21
 go_wp2_with fail
 generalize hW0 : World.alloc (World.alloc w _) _ = W0
 have r2 : row? W0 w.heap.size = some #[.slice none 0 0, .slice none 0 0] := by rw [← hW0]; simp [go_sem]
 have r3 : row? W0 (w.heap.size + 1) = some #[.slice none 0 0, .slice none 0 0] := by rw [← hW0]; simp [go_sem]
 have hB0 : Below w.heap.size w W0 := by
   rw [← hW0]
   (repeat' (first | (with_reducible first | exact Below.refl _ _ | assumption | refine Below.alloc ?_ ?_ _ | refine Below.drew ?_ | refine Below.setCell ?_ ?_ _ | refine below_setRow ?_ ?_ _ | exact Nat.le_refl _) | omega | (simp; done) | (simp; omega) | (simp at *; omega)))
 have hs0 : w.heap.size + 2 ≤ W0.heap.size := by rw [← hW0]; simp
 have HB0 := Lib.hid hB0
 have HR2 := Lib.hid r2
 have HR3 := Lib.hid r3
 clear hW0 r2 r3 hB0
 refine (gvertices_any g bV bE G HG.out W0 (H0.out.below HB0.out)).mono ?_
 rintro r w1 ⟨vv, rfl, hOV, hb1⟩
 have HB1 := Lib.hid hb1
 have hs1 := hb1.size
 obtain ⟨qa, ca, rfl⟩ := hOV.sl
 have HV1 := Lib.hid hOV
 clear hOV hb1
 go_wp2_with fail
 refine (gedges_any g bV bE G HG.out w1 (H0.out.below (HB0.out.trans (HB1.out.mono (by omega))))).mono ?_
 rintro r w2 ⟨ve, rfl, hOE, hb2⟩
 have hs2 := hb2.size
 obtain ⟨qe, ce, rfl⟩ := hOE.sl
 have HB2 := Lib.hid (HB1.out.trans (hb2.mono hs1))
 have HVr := Lib.hid ((HV1.out.below hb2 (Nat.le_refl _)).rd elV)
 have HEr := Lib.hid (hOE.rd elE)
 have hqa : ∀ a, qa = some a → w.heap.size + 2 ≤ a.block := fun a ha => by have := HV1.out.block a.block (by rw [ha]; rfl); omega
 have hqe : ∀ a, qe = some a → w.heap.size + 2 ≤ a.block := fun a ha => by have := hOE.block a.block (by rw [ha]; rfl); omega
 have r2 := (row?_below HB2.out (by omega)).trans HR2.out
 have r3 := (row?_below HB2.out (by omega)).trans HR3.out
 have HQa := Lib.hid hqa
 have HQe := Lib.hid hqe
 have HR22 := Lib.hid r2
 have HR32 := Lib.hid r3
 have HBw := Lib.hid (HB0.out.trans (HB2.out.mono (by omega)))
 rw [← HLV.out] at HVr ⊢
 rw [← HLE.out] at HEr ⊢
 clear hOE hb2 hqa hqe r2 r3 HV1 HB1 HB2 HR2 HR3
 go_wp2_with fail
 go_loopw [6] (fun i wr => ∃ k : Nat, k ≤ LV ∧ i = .int .i64 (k : Int) ∧ (∃ vo, row? wr (w.heap.size + 1) = some #[vo, .slice none 0 0] ∧ OwnR 127 3 vtxA w2.heap.size wr vo (G.V.take k)) ∧ Same (fun j => j < w2.heap.size ∧ j ≠ w.heap.size + 1) w2 wr) (fun i _ => LV - (intOf i).toNat)
 case atStart => exact ⟨0, by omega, rfl, ⟨_, HR32.out, OwnR.nil _ _⟩, Same.refl _ _⟩
 case round =>
   obtain ⟨k, hk, rfl, ⟨vo, hr, hO⟩, hS⟩ := hrel
   obtain ⟨acc, hacc⟩ : ∃ acc, acc = G.V.take k := ⟨_, rfl⟩
   rw [← hacc] at hO
   have HACC := Lib.hid hacc
   have hal : acc.length ≤ 1024 := by rw [hacc, List.length_take]; omega
   obtain ⟨qo, co, rfl⟩ := hO.sl
   have hsz := hS.size
   have HO := Lib.hid hO
   have HR := Lib.hid hr
   have HS := Lib.hid hS
   have k0 := cell?_row (i := 0) hr
   simp at k0
   clear hacc hr hS hO
   by_cases hlt : k < LV
   · obtain ⟨b, off, c', x, h1, hbb, hx, hc⟩ := (HVr).out.at (by rw [← (HLV).out]; exact hlt)
     simp only [Value.slice.injEq] at h1
     obtain ⟨rfl, -, rfl⟩ := h1
     obtain ⟨xi, xl, xw⟩ := x
     have HST : Hid (G.V.take (k + 1) = acc ++ [(xi, xl, xw)]) := Lib.hid (by rw [take_snoc hx, ← HACC.out])
     have hbg : b ≠ w.heap.size + 1 := by have := (HQa).out ⟨b, off, none⟩ rfl; simp only at this; omega
     have HJ := Lib.hid fun W (hW : W.heap[b]? = w2.heap[b]?) => show rowLoad Tryz.prog 117 ⟨b, off + k * 3, none⟩ W = .ok (.agg #[.int .i64 xi, .int .u8 (xl : Int), .int .i64 xw]) W from load_cells Tryz.isAgg117 Tryz.sizeOf117 W b _ _ rfl fun j u hu => (World.cell?_of_block hW).trans (hc w2 (Below.refl _ _) j u hu)
     have hbr := HS.out.block b hbb ⟨hbb, hbg⟩
     clear hx hc
     go_wp2_with fail
     refine wp_region_mix (fun W => W.cell? ⟨w.heap.size + 1, 0, none⟩ = some (.slice qo acc.length co) ∧ rowLoad Tryz.prog 117 ⟨b, off + k * 3, none⟩ W = .ok (.agg #[.int .i64 xi, .int .u8 (xl : Int), .int .i64 xw]) W) 9 [(0, true), (1, true), (2, true), (3, true), (4, true), (5, true), (6, false), (7, false), (8, true)] (by kernel_rfl) (by kernel_rfl) ⟨k0, HJ.out _ hbr⟩ ?_
     repeat (apply wpPlan_still rfl rfl; (intro w hw; obtain ⟨k1, k2⟩ := hw; go_simp; (try go_ints); (first | with_reducible rfl | (go_simp; with_reducible rfl))); (intro K hK; go_simp; (try go_ints); refine hK _ _ ?_; clear hK K))
     apply wpPlan_act rfl rfl
     intro K hK
     unfold Oper.wp
     go_simp
     have hsR := row?_lt HR.out
     have hbw : b < wr.heap.size := Nat.lt_of_lt_of_le hbb hsz
     refine hK _ _ ⟨(((Below.refl _ wr).drew.alloc (Nat.le_refl _) _).cell (p := ⟨w.heap.size + 1, 0, none⟩) hsR).trans k0, HJ.out _ ((Below.heap_alloc _ _ _ hbw).trans hbr)⟩ ?_
     clear hK K
     apply wpPlan_act rfl rfl
     intro K hK
     refine wp_appO elRV 39 Tryz.underlying39 _ _ rfl w2.heap.size _ acc rfl (HO.out.below (C := wr.heap.size) ((Below.refl _ wr).drew.alloc (Nat.le_refl _) _) (Nat.le_refl _)) _ (xi, xl, xw) _ rfl (row?_alloc_at _ _ _ _ (by simp)) (by omega) (by simp; omega) ?_
     intro v4 w4 hO4 hb4 hg4 hl4
     have hne9 : some (w.heap.size + 1) ≠ (Value.slice qo acc.length co).ownBlock := fun e => by have := HO.out.block _ e.symm; omega
     have hr4 : row? w4 (w.heap.size + 1) = some #[.slice qo acc.length co, .slice none 0 0] := (row?_congr ((hg4.block (w.heap.size + 1) (by simp; omega) hne9).trans (Below.heap_alloc _ _ _ (by show w.heap.size + 1 < wr.heap.size; omega)))).trans HR.out
     have hs4 : wr.heap.size ≤ w4.heap.size := by have := hb4.size; simp at this; omega
     have hS4 : Same (fun j => j < w2.heap.size ∧ j ≠ w.heap.size + 1) w2 w4 := HS.out.trans ⟨hb4.os, hb4.tape, hb4.output, hs4, fun j hj h => (hb4.block j h.1).trans (Below.heap_alloc _ _ _ (by show j < wr.heap.size; omega))⟩
     refine hK _ _ ⟨(cell?_row (i := 0) hr4).trans rfl, HJ.out _ (hS4.block b hbb ⟨hbb, hbg⟩)⟩ ?_
     clear hK K
     repeat (apply wpPlan_still rfl rfl; (intro w hw; clear hw; go_simp; (try go_ints); (first | with_reducible rfl | (go_simp; with_reducible rfl))); (intro K hK; go_simp; (try go_ints); refine hK _ _ ?_; clear hK K))
     have hfz4 := frozen?_row (i := 0) hr4
     have hlt4 := row?_lt hr4
     have k4 := cell?_row (i := 0) hr4
     simp at k4
     obtain ⟨q4, c4, rfl⟩ := hO4.sl
     simp only [List.length_append, List.length_cons, List.length_nil, Nat.zero_add] at hO4 ⊢
     have HO4 := Lib.hid hO4
     have HR4 := Lib.hid hr4
     have HS4 := Lib.hid hS4
     clear hO4 hb4 hg4 hl4 hr4 hS4 hne9 k0 hbr
     refine wpPlan_nil ?_
     simp only [List.drop_succ_cons, List.drop_zero]
     go_wp2_with fail
     go_roundw
     case rel =>
       refine ⟨k + 1, by omega, by go_num, ⟨_, by rw [row?_setCell_same, HR4.out]; rfl, ?_⟩, ?_⟩
       · rw [HST.out]
         exact HO4.out.same fun j hj => heap_setCell_other _ _ j _ (by have := HO4.out.block j hj; show j ≠ w.heap.size + 1; omega)
       · exact HS4.out.trans (Same.setCell _ _ _ _ (by show ¬ (w.heap.size + 1 < w2.heap.size ∧ w.heap.size + 1 ≠ w.heap.size + 1); omega))
     case measure => simp [intOf]; omega
   · have hkn : LV = k := by omega
     subst hkn
     have hacc2 : acc = G.V := by rw [HACC.out, HLV.out, List.take_length]
     subst hacc2
     obtain ⟨wo, rfl⟩ : ∃ W : World, W = wr := ⟨_, rfl⟩
     have HOV := HO
     have HRo := HR
     have HSo := HS
     go_wp2_with fail
     clear k0
     go_loopw [7] (fun i wr => ∃ k : Nat, k ≤ LE ∧ i = .int .i64 (k : Int) ∧ (∃ vo, row? wr (w.heap.size + 1) = some #[.slice qo G.V.length co, vo] ∧ OwnR 128 4 edgA w2.heap.size wr vo (G.E.take k) ∧ OwnR 127 3 vtxA w2.heap.size wr (.slice qo G.V.length co) G.V) ∧ Same (fun j => j < w2.heap.size ∧ j ≠ w.heap.size + 1) w2 wr) (fun i _ => LE - (intOf i).toNat)
     case atStart => exact ⟨0, by omega, rfl, ⟨_, HRo.out, OwnR.nil _ _, HOV.out⟩, HSo.out⟩
     case round =>
       clear HO HR HS HOV HRo HSo hsz HACC
       obtain ⟨k, hk, rfl, ⟨vo, hr, hO, hOV⟩, hS⟩ := hrel
       have HOV := Lib.hid hOV
       clear hOV
       obtain ⟨acc, hacc⟩ : ∃ acc, acc = G.E.take k := ⟨_, rfl⟩
       rw [← hacc] at hO
       have HACC := Lib.hid hacc
       have hal : acc.length ≤ 1024 := by rw [hacc, List.length_take]; omega
       obtain ⟨qf, cf, rfl⟩ := hO.sl
       have hsz := hS.size
       have HO := Lib.hid hO
       have HR := Lib.hid hr
       have HS := Lib.hid hS
       have k0 := cell?_row (i := 1) hr
       simp at k0
       clear hacc hr hS hO
       by_cases hlt : k < LE
       · obtain ⟨b, off, c', x, h1, hbb, hx, hc⟩ := (HEr).out.at (by rw [← (HLE).out]; exact hlt)
         simp only [Value.slice.injEq] at h1
         obtain ⟨rfl, -, rfl⟩ := h1
         obtain ⟨⟨xu, xv⟩, xl, xw⟩ := x
         have HST : Hid (G.E.take (k + 1) = acc ++ [((xu, xv), xl, xw)]) := Lib.hid (by rw [take_snoc hx, ← HACC.out])
         have hbg : b ≠ w.heap.size + 1 := by have := (HQe).out ⟨b, off, none⟩ rfl; simp only at this; omega
         have HJ := Lib.hid fun W (hW : W.heap[b]? = w2.heap[b]?) => show rowLoad Tryz.prog 125 ⟨b, off + k * 4, none⟩ W = .ok (.agg #[.int .i64 xu, .int .i64 xv, .int .u8 (xl : Int), .int .i64 xw]) W from load_cells Tryz.isAgg125 Tryz.sizeOf125 W b _ _ rfl fun j u hu => (World.cell?_of_block hW).trans (hc w2 (Below.refl _ _) j u hu)
         have hbr := HS.out.block b hbb ⟨hbb, hbg⟩
         clear hx hc
         go_wp2_with fail
         refine wp_region_mix (fun W => W.cell? ⟨w.heap.size + 1, 1, none⟩ = some (.slice qf acc.length cf) ∧ rowLoad Tryz.prog 125 ⟨b, off + k * 4, none⟩ W = .ok (.agg #[.int .i64 xu, .int .i64 xv, .int .u8 (xl : Int), .int .i64 xw]) W) 9 [(0, true), (1, true), (2, true), (3, true), (4, true), (5, true), (6, false), (7, false), (8, true)] (by kernel_rfl) (by kernel_rfl) ⟨k0, HJ.out _ hbr⟩ ?_
         repeat (apply wpPlan_still rfl rfl; (intro w hw; obtain ⟨k1, k2⟩ := hw; go_simp; (try go_ints); (first | with_reducible rfl | (go_simp; with_reducible rfl))); (intro K hK; go_simp; (try go_ints); refine hK _ _ ?_; clear hK K))
         apply wpPlan_act rfl rfl
         intro K hK
         unfold Oper.wp
         go_simp
         have hsR := row?_lt HR.out
         have hbw : b < wr.heap.size := Nat.lt_of_lt_of_le hbb hsz
         refine hK _ _ ⟨(((Below.refl _ wr).drew.alloc (Nat.le_refl _) _).cell (p := ⟨w.heap.size + 1, 1, none⟩) hsR).trans k0, HJ.out _ ((Below.heap_alloc _ _ _ hbw).trans hbr)⟩ ?_
         clear hK K
         apply wpPlan_act rfl rfl
         intro K hK
         refine wp_appO elRE 40 Tryz.underlying40 _ _ rfl w2.heap.size _ acc rfl (HO.out.below (C := wr.heap.size) ((Below.refl _ wr).drew.alloc (Nat.le_refl _) _) (Nat.le_refl _)) _ ((xu, xv), xl, xw) _ rfl (row?_alloc_at _ _ _ _ (by simp)) (by omega) (by simp; omega) ?_
         intro v4 w4 hO4 hb4 hg4 hl4
         have hne9 : some (w.heap.size + 1) ≠ (Value.slice qf acc.length cf).ownBlock := fun e => by have := HO.out.block _ e.symm; omega
         have hr4 : row? w4 (w.heap.size + 1) = some #[.slice qo G.V.length co, .slice qf acc.length cf] := (row?_congr ((hg4.block (w.heap.size + 1) (by simp; omega) hne9).trans (Below.heap_alloc _ _ _ (by show w.heap.size + 1 < wr.heap.size; omega)))).trans HR.out
         have hs4 : wr.heap.size ≤ w4.heap.size := by have := hb4.size; simp at this; omega
         have hS4 : Same (fun j => j < w2.heap.size ∧ j ≠ w.heap.size + 1) w2 w4 := HS.out.trans ⟨hb4.os, hb4.tape, hb4.output, hs4, fun j hj h => (hb4.block j h.1).trans (Below.heap_alloc _ _ _ (by show j < wr.heap.size; omega))⟩
         have HOV4 := Lib.hid (HOV.out.same (w' := w4) fun j hj => (hg4.block j (by have := HOV.out.lt j hj; simp; omega) (fun e => own_ne2 HOV.out HO.out (by decide) j hj e.symm)).trans (Below.heap_alloc _ _ _ (HOV.out.lt j hj)))
         refine hK _ _ ⟨(cell?_row (i := 1) hr4).trans rfl, HJ.out _ (hS4.block b hbb ⟨hbb, hbg⟩)⟩ ?_
         clear hK K
         repeat (apply wpPlan_still rfl rfl; (intro w hw; clear hw; go_simp; (try go_ints); (first | with_reducible rfl | (go_simp; with_reducible rfl))); (intro K hK; go_simp; (try go_ints); refine hK _ _ ?_; clear hK K))
         have hfz4 := frozen?_row (i := 1) hr4
         have hlt4 := row?_lt hr4
         have k4 := cell?_row (i := 1) hr4
         simp at k4
         obtain ⟨q4, c4, rfl⟩ := hO4.sl
         simp only [List.length_append, List.length_cons, List.length_nil, Nat.zero_add] at hO4 ⊢
         have HO4 := Lib.hid hO4
         have HR4 := Lib.hid hr4
         have HS4 := Lib.hid hS4
         clear hO4 hb4 hg4 hl4 hr4 hS4 hne9 k0 hbr
         refine wpPlan_nil ?_
         simp only [List.drop_succ_cons, List.drop_zero]
         go_wp2_with fail
         go_roundw
         case rel =>
           refine ⟨k + 1, by omega, by go_num, ⟨_, by rw [row?_setCell_same, HR4.out]; rfl, ?_, ?_⟩, ?_⟩
           · rw [HST.out]
             exact HO4.out.same fun j hj => heap_setCell_other _ _ j _ (by have := HO4.out.block j hj; show j ≠ w.heap.size + 1; omega)
           · exact HOV4.out.same fun j hj => heap_setCell_other _ _ j _ (by have := HOV4.out.block j hj; show j ≠ w.heap.size + 1; omega)
           · exact HS4.out.trans (Same.setCell _ _ _ _ (by show ¬ (w.heap.size + 1 < w2.heap.size ∧ w.heap.size + 1 ≠ w.heap.size + 1); omega))
         case measure => simp [intOf]; omega
       · have hkn : LE = k := by omega
         subst hkn
         have hacc2 : acc = G.E := by rw [HACC.out, HLE.out, List.take_length]
         subst hacc2
         have r4 := (row?_congr (HS.out.block w.heap.size (by omega) ⟨by omega, by omega⟩)).trans HR22.out
         have hr := HR.out
         have hsz := HS.out.size
         go_wp2_with fail
         refine ret_row w.heap.size #[.slice qo G.V.length co, .slice qf G.E.length cf] rfl Tryz.isAgg42 Tryz.sizeOf42 rfl rfl (row?_setRow_same _ _ _ (by rw [r4]; rfl)) rfl ⟨_, _, rfl, ⟨?_, ?_⟩, ?_⟩
         · exact (HOV.out.same fun j hj => setRow_other _ _ j _ (by have := HOV.out.block j hj; omega)).rd elRV
         · exact (HO.out.same fun j hj => setRow_other _ _ j _ (by have := HO.out.block j hj; omega)).rd elRE
         · exact below_setRow ((HBw.out).trans (HS.out.below (B := w.heap.size) (by omega) fun j hj => ⟨by omega, by omega⟩)) (Nat.le_refl _) _
end Go.Proofs.YtlmccbepllgbfaaGreatDoor
