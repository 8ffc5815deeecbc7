/- The document's example of trees of bags (known of palmettelaw26), plain and walked. -/
import Derived.Test.YteiibpfabgfolaaGreatDoorVEq
import Derived.Test.YteiibpfabgfolaaGreatDoorVGp
import Derived.Test.YteiibpfabgfolaaGreatDoorVGrM
set_option linter.all false
namespace Go.Pal
open Go
def KG : Nat → Gr
 | 0 => Gr.none
 | k + 1 => if 0 < k then ((KG k).app ⟨0, k, 0, 0, 0⟩).app ⟨2, k, (k : Int) - 1, 0, 0⟩ else (KG k).app ⟨0, k, 0, 0, 0⟩
theorem kgWf0 {k : Nat} (h : k < 3) : (⟨0, k, 0, 0, 0⟩ : Ed).Wf := by constructor <;> (simp only [InI]) <;> omega
theorem kgWf2 {k : Nat} (h : k < 3) : (⟨2, k, (k : Int) - 1, 0, 0⟩ : Ed).Wf := by constructor <;> (simp only [InI]) <;> omega
theorem kgOk : ∀ k, k ≤ 3 → (KG k).Ok
 | 0, _ => gr_none_ok
 | k + 1, h => by
   have ih := kgOk k (by omega)
   unfold KG
   split
   · exact (ih.app (kgWf0 (by omega))).app (kgWf2 (by omega))
   · exact ih.app (kgWf0 (by omega))
def KT : List Bg := [(1, 3), (2, 6), (-1, 4)]
def kt : Tr := .node 2 [.node 1 [.node 0 []]]
theorem validK : Valid KT kt where
 pos := by decide
 le := by decide
 sets := fun x hx => by
   simp only [KT, List.mem_cons, List.not_mem_nil, or_false] at hx
   rcases hx with rfl | rfl | rfl
   · exact isSet_of_lt (k := 10) (by decide) (by decide)
   · exact isSet_of_lt (k := 10) (by decide) (by decide)
   · exact isSet_of_lt (k := 10) (by decide) (by decide)
 small := by decide
 par := fun i x hx => by
   match i, hx with
   | 0, hx => cases hx; exact .inr ⟨1, rfl, by decide⟩
   | 1, hx => cases hx; exact .inr ⟨2, rfl, by decide⟩
   | 2, hx => cases hx; exact .inl rfl
 root := by rfl
 fits := .mk 2 _ (by decide) (by rfl) fun t ht => by
   simp only [List.mem_cons, List.not_mem_nil, or_false] at ht
   subst ht
   exact .mk 1 _ (by decide) (by rfl) fun t ht => by
     simp only [List.mem_cons, List.not_mem_nil, or_false] at ht
     subst ht
     exact .mk 0 _ (by decide) (by rfl) fun t ht => by cases ht
 all := by rfl
 disj := fun i hi => by
   match i, hi with
   | 0, _ => decide
   | 1, _ => decide
   | 2, _ => decide
   | i + 3, hi => exact absurd hi (by show ¬ i + 3 < 3; omega)
theorem rankK : RankP KT (fun i => 3 - i) := fun i x hx => by
 match i, hx with
 | 0, hx => cases hx; exact .inr ⟨1, rfl, by decide, by decide⟩
 | 1, hx => cases hx; exact .inr ⟨2, rfl, by decide, by decide⟩
 | 2, hx => cases hx; exact .inl rfl
theorem kgNear : (KG 3).near 0 = 2 ∧ (KG 3).near 1 = 5 ∧ (KG 3).near 2 = 2 := ⟨by kernel_rfl, by kernel_rfl, by kernel_rfl⟩
theorem kgClosed : Closed (fun x => (KG 3).near (x : Int)) [0, 1, 2] := fun x hx u hu => by
 simp only [List.mem_cons, List.not_mem_nil, or_false] at hx
 have h3 : u < 3 := by
   rcases Nat.lt_or_ge u 3 with h | h
   · exact h
   · have key : ∀ S : Nat, S < 8 → S.testBit u = false := fun S hS => Nat.testBit_lt_two_pow (Nat.lt_of_lt_of_le hS (show 2 ^ 3 ≤ 2 ^ u from Nat.pow_le_pow_right (by decide) h))
     rcases hx with rfl | rfl | rfl
     · have := key 2 (by decide)
       have hu : Nat.testBit ((KG 3).near ((0 : Nat) : Int)) u = true := hu
       rw [show (KG 3).near ((0 : Nat) : Int) = 2 from kgNear.1, this] at hu
       cases hu
     · have := key 5 (by decide)
       have hu : Nat.testBit ((KG 3).near ((1 : Nat) : Int)) u = true := hu
       rw [show (KG 3).near ((1 : Nat) : Int) = 5 from kgNear.2.1, this] at hu
       cases hu
     · have := key 2 (by decide)
       have hu : Nat.testBit ((KG 3).near ((2 : Nat) : Int)) u = true := hu
       rw [show (KG 3).near ((2 : Nat) : Int) = 2 from kgNear.2.2, this] at hu
       cases hu
 simp only [List.mem_cons, List.not_mem_nil, or_false]
 omega
theorem kgOrd : (KG 3).ordE ([0, 1, 2] : List Int) = 0 := by kernel_rfl
theorem kgTree : foTree (fun x => (KG 3).near (x : Int)) [0, 1, 2] = KT := by kernel_rfl
theorem redK : redTo KT.length KT = [(1, 3), (-1, 6)] := by kernel_rfl
theorem fitK : (KG 3).fitT KT = 0 := by kernel_rfl
theorem widK : widTo KT KT.length = 1 := by kernel_rfl
theorem setsK : ∀ x ∈ KT, IsSet x.2 := validK.sets
end Go.Pal
namespace Go.Proofs.YteiibpfabgfolaaGreatDoor
open Go Go.RowKit Go.Pal Go.Shelf
attribute [local go_sem] Oper.semAt_some
def Tab2 (w : World) : Prop := TabOk w ∧ 1 < w.heap.size
theorem Tab2.on {w w' : World} (h : Tab2 w) (hb : Below w.heap.size w w') : Tab2 w' := ⟨h.1.below hb h.2, Nat.lt_of_lt_of_le h.2 hb.size⟩
theorem ppart_stillG {ops : Array Oper} {S : World → Prop} {Q : Exit → Act → World → Prop} {K : Act → World → Prop} {a : Act} {w : World} {k : Nat} {r : List (Nat × Bool)} {o : Oper} {v : Value} (ho : ops[k]? = some o) (hw : Region.wanted o (yielded ops a.tmps) = true) (hv : ∀ w, S w → (execOp a.eval o).run Tryz.prog w = .ok (.value v) w)
   (h : ∀ K' : Act → World → Prop, (∀ a w, wpPlan Tryz.prog ops S Q K r a w → K' a w) → K' (a.put o.dst v) w) : wpPlan Tryz.prog ops S Q K ((k, true) :: r) a w :=
 ⟨o, v, ho, .inl ⟨hw, hv⟩, h _ fun _ _ h => h⟩
theorem ppart_actG {ops : Array Oper} {S : World → Prop} {Q : Exit → Act → World → Prop} {K : Act → World → Prop} {a : Act} {w : World} {k : Nat} {r : List (Nat × Bool)} {o : Oper} (ho : ops[k]? = some o) (hw : Region.wanted o (yielded ops a.tmps) = true)
   (h : ∀ K' : Act → World → Prop, (∀ a w, S w → wpPlan Tryz.prog ops S Q K r a w → K' a w) → o.wp Tryz.prog a w K' Q) : wpPlan Tryz.prog ops S Q K ((k, false) :: r) a w := by
 show wpOp Tryz.prog ops Q k _ a w
 unfold wpOp
 simp only [ho, hw, if_true]
 exact .inl (h _ fun a w hs hp => ⟨hs, hp⟩)
theorem ppart_bBag {ops : Array Oper} {S : World → Prop} {Q : Exit → Act → World → Prop} {K : Act → World → Prop} {a : Act} {w : World} {k : Nat} {r : List (Nat × Bool)} {o : Oper} (ho : ops[k]? = some o) (hw : Region.wanted o (yielded ops a.tmps) = true) (x0 x1 : Operand) (hop : o.op = .build 53 #[(0, x0), (1, x1)])
   (p : Int) (R : Nat) (h0 : a.eval x0 = .int .i64 p) (h1 : a.eval x1 = .agg (words R)) (h : wpPlan Tryz.prog ops S Q K r (a.put o.dst (.agg (bagA (p, R)))) w) : wpPlan Tryz.prog ops S Q K ((k, true) :: r) a w :=
 ⟨o, _, ho, .inl ⟨hw, fun w _ => by
   unfold execOp
   simp only [hop, List.map_toArray, List.map_cons, List.map_nil, h0, h1, Sem.run_bind, qbuild_Bag, Result.andThen_ok]
   rfl⟩, h⟩
@[go_sem ↓ high] theorem bs_O3 (w : World) : (Instr.buildSlice 47 3 #[(0, .int .i64 0), (1, .int .i64 1), (2, .int .i64 2)]).run Tryz.prog w = .ok (.slice (some ⟨w.heap.size, 0, none⟩) 3 3) (w.alloc (.cells #[.int .i64 0, .int .i64 1, .int .i64 2] 3)) := by kernel_rfl
@[go_sem ↓ high] theorem b_Ed1 (u : Int) (w : World) : (Instr.build 44 #[(1, .int .i64 u)]).run Tryz.prog w = .ok (.agg #[.int .i64 0, .int .i64 u, .int .i64 0, .int .u8 0, .int .i64 0]) w := by kernel_rfl
@[go_sem ↓ high] theorem b_Ed2 (o u v : Int) (w : World) : (Instr.build 44 #[(0, .int .i64 o), (1, .int .i64 u), (2, .int .i64 v)]).run Tryz.prog w = .ok (.agg #[.int .i64 o, .int .i64 u, .int .i64 v, .int .u8 0, .int .i64 0]) w := by kernel_rfl
@[go_sem ↓ high] theorem bs_I2 (x y : Int) (w : World) : (Instr.buildSlice 46 2 #[(0, .int .i64 x), (1, .int .i64 y)]).run Tryz.prog w = .ok (.slice (some ⟨w.heap.size, 0, none⟩) 2 2) (w.alloc (.cells #[.int .i64 x, .int .i64 y] 3)) := by kernel_rfl
theorem rdl_row {w : World} {g : Nat} {l : List Int} (h : row? w g = some (l.map (Value.int .i64)).toArray) : RdL w (.slice (some ⟨g, 0, none⟩) l.length l.length) l := by
 refine ⟨_, _, rfl, .inr ⟨g, 0, rfl, row?_lt h, fun i z hz => ?_⟩⟩
 rw [Nat.zero_add, cell?_row h]
 simp [hz]
set_option maxRecDepth 20000 in
set_option maxHeartbeats 4000000 in
theorem known26_any (w : World) (hT : Tab2 w) : Calls Tryz.prog 4 #[] w fun e w' => e = .returned (.bool true) ∧ Below w.heap.size w w' := by
 have HT := Lib.hid hT
 clear hT
 go_enter Tryz.func4, Tryz.ntmps4
 go_wp2_with fail
 refine (gnew_ok w).mono ?_
 rintro e w1 ⟨g, bV, bE, rfl, hG1, hg0, hV0, hE0, hb1⟩
 have HG1 := Lib.hid hG1
 have HB1 := Lib.hid hb1
 clear hG1 hb1
 go_wp2_with fail
 go_loopw [2] (fun i wr => ∃ k : Nat, k ≤ 3 ∧ i = .int .i64 (k : Int) ∧ GOk wr g bV bE (KG k) ∧ Below w.heap.size w wr) (fun i _ => 3 - (intOf i).toNat)
 case atStart => exact ⟨0, by omega, rfl, HG1.out, HB1.out⟩
 case round =>
   obtain ⟨k, hk, rfl, hG, hb⟩ := hrel
   have HG := Lib.hid hG
   have HB := Lib.hid hb
   clear hG hb
   by_cases hlt : k < 3
   · have hap := fun W (h : GOk W g bV bE (KG k)) => gapply_any ⟨0, k, 0, 0, 0⟩ (kgWf0 hlt) (.inl rfl) g bV bE (KG k) (kgOk k hk) W h
     have HAP := Lib.hid hap
     clear hap
     go_wp2_with fail
     refine (HAP.out wr HG.out).mono ?_
     rintro r w2 ⟨rfl, hG2, hS2⟩
     have hB2 : Below w.heap.size w w2 := HB.out.trans (hS2.below HB.out.size fun j hj => by omega)
     have HG2 := Lib.hid hG2
     have HB2 := Lib.hid hB2
     clear hG2 hS2 hB2 HAP
     by_cases h0 : 0 < k
     · have hap := gapply_any ⟨2, k, (k : Int) - 1, 0, 0⟩ (kgWf2 hlt) (.inr rfl) g bV bE ((KG k).app ⟨0, k, 0, 0, 0⟩) ((kgOk k hk).app (kgWf0 hlt)) w2 HG2.out
       have HAP := Lib.hid hap
       clear hap
       go_wp2_with fail
       refine HAP.out.mono ?_
       rintro r w3 ⟨rfl, hG3, hS3⟩
       have hB3 : Below w.heap.size w w3 := HB2.out.trans (hS3.below HB2.out.size fun j hj => by omega)
       have hk1 : KG (k + 1) = ((KG k).app ⟨0, k, 0, 0, 0⟩).app ⟨2, k, (k : Int) - 1, 0, 0⟩ := by rw [KG, if_pos h0]
       rw [← hk1] at hG3
       have HG3 := Lib.hid hG3
       have HB3 := Lib.hid hB3
       clear hG3 hS3 hB3 HAP hk1
       go_wp2_with fail
       go_roundw
       case rel => exact ⟨k + 1, by omega, by go_num, HG3.out, HB3.out⟩
       case measure => simp [intOf]; omega
     · have hk1 : KG (k + 1) = (KG k).app ⟨0, k, 0, 0, 0⟩ := by rw [KG, if_neg h0]
       rw [← hk1] at HG2
       clear hk1
       go_wp2_with fail
       go_roundw
       case rel => exact ⟨k + 1, by omega, by go_num, HG2.out, HB2.out⟩
       case measure => simp [intOf]; omega
   · have hk3 : k = 3 := by omega
     subst hk3
     have hrw := fun o => HB.out.alloc HB.out.size o
     have hro : row? (wr.alloc (.cells #[.int .i64 0, .int .i64 1, .int .i64 2] 3)) wr.heap.size = some (([0, 1, 2] : List Int).map (Value.int .i64)).toArray := row?_alloc_at _ _ _ _ rfl
     have hBo := HB.out.alloc HB.out.size (.cells #[.int .i64 0, .int .i64 1, .int .i64 2] 3)
     have hTo := HT.out.on hBo
     have hfo := fromOrder_any [0, 1, 2] g bV bE (KG 3) (kgOk 3 (by decide)) _ _ (rdl_row hro) (HG.out.below ((Below.refl _ wr).alloc (Nat.le_refl _) _)) kgOrd (by decide) (by decide) kgClosed (by decide) hTo.1 hTo.2
     rw [kgTree] at hfo
     have HFO := Lib.hid hfo
     have HBO := Lib.hid hBo
     have HGO := Lib.hid (HG.out.below ((Below.refl _ wr).alloc (Nat.le_refl _) (.cells #[.int .i64 0, .int .i64 1, .int .i64 2] 3)))
     clear hrw hro hBo hTo hfo
     go_wp2_with fail
     refine HFO.out.mono ?_
     rintro e w2 ⟨v2, rfl, hO2, hb2⟩
     have hO2 : OwnT w.heap.size w2 v2 KT := hO2.lower HBO.out.size
     have HO2 := Lib.hid hO2
     have HG2 := Lib.hid (HGO.out.below hb2)
     have HB2 := Lib.hid (HBO.out.trans (hb2.mono HBO.out.size))
     obtain ⟨q2, c2, hvv⟩ := hO2.sl
     have hvv : v2 = .slice q2 3 c2 := hvv
     subst hvv
     clear hO2 hb2 HFO HGO HBO
     have hR2 := HO2.out.rd elB
     have HRed := Lib.hid (reduce_any KT (fun i => 3 - i) rankK setsK _ w2 hR2 (by decide) (by decide) fun W hb => check_valid KT kt validK _ W ((hR2.below hb (Nat.le_refl _)).mono hb.size))
     rw [redK] at HRed
     clear hR2
     go_wp2_with fail
     refine HRed.out.mono ?_
     rintro e W0 ⟨v3, rfl, hO3, hb3⟩
     obtain ⟨q3, c3, hvv⟩ := hO3.sl
     have hvv : v3 = .slice q3 2 c3 := hvv
     subst hvv
     have hR2 := (HO2.out.below hb3 (Nat.le_refl _)).rd elB
     have hR3 := hO3.rd elB
     have HG3 := Lib.hid (HG2.out.below hb3)
     have HB3 := Lib.hid (HB2.out.trans (hb3.mono HB2.out.size))
     have HR2 := Lib.hid hR2
     obtain ⟨b2, off2, c2', x2, hv2, hb2, hx2, hc2⟩ := hR2.at (i := 0) (by decide)
     obtain ⟨b3, off3, c3', x3, hv3, hb3, hx3, hc3⟩ := hR3.at (i := 0) (by decide)
     obtain ⟨b4, off4, c4', x4, hv4, hb4, hx4, hc4⟩ := hR3.at (i := 1) (by decide)
     simp only [Value.slice.injEq] at hv2 hv3 hv4
     obtain ⟨rfl, -, rfl⟩ := hv2
     obtain ⟨rfl, -, rfl⟩ := hv3
     obtain ⟨hv4, -, rfl⟩ := hv4
     simp only [Option.some.injEq, Addr.mk.injEq, and_true] at hv4
     obtain ⟨rfl, rfl⟩ := hv4
     cases hx2
     cases hx3
     cases hx4
     have HL := Lib.hid fun W (hb : Below W0.heap.size W0 W) => show rowLoad Tryz.prog 53 ⟨b2, off2, none⟩ W = .ok (.agg (bagA (1, 3))) W ∧ rowLoad Tryz.prog 53 ⟨b3, off3, none⟩ W = .ok (.agg (bagA (1, 3))) W ∧ rowLoad Tryz.prog 53 ⟨b3, off3 + 17, none⟩ W = .ok (.agg (bagA (-1, 6))) W from
       ⟨load_cells Tryz.isAgg53 Tryz.sizeOf53 W b2 _ (bagA (1, 3)) (bagA_size _) fun j u hu => by simpa using hc2 W hb j u hu,
        load_cells Tryz.isAgg53 Tryz.sizeOf53 W b3 _ (bagA (1, 3)) (bagA_size _) fun j u hu => by simpa using hc3 W hb j u hu,
        load_cells Tryz.isAgg53 Tryz.sizeOf53 W b3 _ (bagA (-1, 6)) (bagA_size _) fun j u hu => by simpa using hc4 W hb j u hu⟩
     have hgs := guardBag
     have hq1 := fun w => (eqBag (1, 3) (1, 3) w).trans (show _ = Result.ok true w by rw [eqW_self]; rfl)
     have hq2 := fun w => (eqBag (-1, 6) (-1, 6) w).trans (show _ = Result.ok true w by rw [eqW_self]; rfl)
     have HWid := Lib.hid fun W (hb : Below W0.heap.size W0 W) => width_any KT _ W ((hR2.below hb (Nat.le_refl _)).mono hb.size) (by decide)
     have HCG := Lib.hid fun W (hb : Below W0.heap.size W0 W) => checkGraph_any KT setsK g bV bE (KG 3) (kgOk 3 (by decide)) _ W ((hR2.below hb (Nat.le_refl _)).mono hb.size) (by decide) (HG3.out.below hb) fun W' hb' => check_valid KT kt validK _ W' ((hR2.below (hb.trans (hb'.mono hb.size)) (Nat.le_refl _)).mono (Nat.le_trans hb.size hb'.size))
     rw [widK] at HWid
     rw [fitK] at HCG
     have HBD : Hid (Below W0.heap.size W0 W0.drew) := Lib.hid (Below.refl _ _).drew
     clear hR2 hR3 hc2 hc3 hc4 HRed hO3
     go_wp2_with fail
     refine wp_region_mix (fun W => Below W0.heap.size W0 W) 54 [(0, true), (1, true), (2, true), (3, true), (4, true), (5, true), (6, true), (7, true), (8, true), (9, true), (10, true), (11, true), (12, true), (13, true), (14, true), (15, false), (16, false), (17, true), (18, true), (19, true), (20, true), (21, true), (22, false), (23, true), (24, true), (25, true), (26, true), (27, true), (28, false), (29, true), (30, true), (31, true), (32, true), (33, true), (34, true), (35, true), (36, true), (37, true), (38, true), (39, true), (40, false), (41, false), (42, true), (43, true), (44, true), (45, true), (46, true), (47, true), (48, true), (49, false), (50, false), (51, true), (52, true), (53, true)] (by kernel_rfl) (by kernel_rfl) HBD.out ?_
     repeat ((first | apply wpPlan_still rfl rfl | apply ppart_stillG rfl rfl); (intro w hw; obtain ⟨k1, k2, k3⟩ := HL.out _ hw; clear hw; go_simp; (try go_ints); (first | with_reducible rfl | (go_simp; with_reducible rfl))); (intro K hK; go_simp; (try go_ints); refine hK _ _ ?_; clear hK K))
     apply ppart_actG (by simp only [List.getElem?_toArray, List.getElem?_cons_succ, List.getElem?_cons_zero]; rfl) (by rfl)
     intro K hK
     unfold Oper.wp
     go_simp
     obtain ⟨Wa1, hWa1⟩ : ∃ Wx, Wx = (W0.alloc (Obj.cells #[.int .i64 0, .int .i64 1] 3)).drew := ⟨_, rfl⟩
     have hba : Below W0.heap.size W0 Wa1 := by rw [hWa1]; exact ((Below.refl _ W0).alloc (Nat.le_refl _) _).drew
     have hra : row? Wa1 W0.heap.size = some ([0, 1].map (Value.int .i64)).toArray := by rw [hWa1]; exact row?_alloc_at _ _ _ _ rfl
     rw [← hWa1]
     refine hK _ _ hba ?_
     clear hK K hWa1
     have HBa1 := Lib.hid hba
     have HOf := Lib.hid (of_any [0, 1] _ Wa1 (rdl_row hra) (by decide))
     clear hba hra
     repeat ((first | apply wpPlan_still rfl rfl | apply ppart_stillG rfl rfl); (intro w hw; obtain ⟨k1, k2, k3⟩ := HL.out _ hw; clear hw; go_simp; (try go_ints); (first | with_reducible rfl | (go_simp; with_reducible rfl))); (intro K hK; go_simp; (try go_ints); refine hK _ _ ?_; clear hK K))
     apply ppart_actG (by simp only [List.getElem?_toArray, List.getElem?_cons_succ, List.getElem?_cons_zero]; rfl) (by rfl)
     intro K hK
     unfold Oper.wp
     go_simp
     refine HOf.out.mono ?_
     rintro e Wb1 ⟨rfl, hbb⟩
     have hbb' := HBa1.out.trans (hbb.mono HBa1.out.size)
     refine hK _ _ hbb' ?_
     have HBb1 := Lib.hid hbb'
     clear hK K hbb hbb' HOf HBa1
     rw [show ofTo [0, 1] ([0, 1] : List Int).length = 3 by decide]
     refine ppart_bBag (by simp only [List.getElem?_toArray, List.getElem?_cons_succ, List.getElem?_cons_zero]; rfl) (by rfl) _ _ rfl (1) 3 rfl rfl ?_
     repeat ((first | apply wpPlan_still rfl rfl | apply ppart_stillG rfl rfl); (intro w hw; obtain ⟨k1, k2, k3⟩ := HL.out _ hw; clear hw; go_simp; (try go_ints); (first | with_reducible rfl | (go_simp; with_reducible rfl))); (intro K hK; go_simp; (try go_ints); refine hK _ _ ?_; clear hK K))
     apply ppart_actG (by simp only [List.getElem?_toArray, List.getElem?_cons_succ, List.getElem?_cons_zero]; rfl) (by rfl)
     intro K hK
     unfold Oper.wp
     go_simp
     refine (HWid.out Wb1 HBb1.out).mono ?_
     rintro e Wc1 ⟨rfl, hbc⟩
     have hbc' := HBb1.out.trans (hbc.mono HBb1.out.size)
     refine hK _ _ hbc' ?_
     have HBc1 := Lib.hid hbc'
     clear hK K hbc hbc' HBb1 HWid
     repeat ((first | apply wpPlan_still rfl rfl | apply ppart_stillG rfl rfl); (intro w hw; obtain ⟨k1, k2, k3⟩ := HL.out _ hw; clear hw; go_simp; (try go_ints); (first | with_reducible rfl | (go_simp; with_reducible rfl))); (intro K hK; go_simp; (try go_ints); refine hK _ _ ?_; clear hK K))
     apply ppart_actG (by simp only [List.getElem?_toArray, List.getElem?_cons_succ, List.getElem?_cons_zero]; rfl) (by rfl)
     intro K hK
     unfold Oper.wp
     go_simp
     refine (HCG.out Wc1 HBc1.out).mono ?_
     rintro e Wd1 ⟨rfl, hbd⟩
     have hbd' := HBc1.out.trans (hbd.mono HBc1.out.size)
     refine hK _ _ hbd' ?_
     have HBd1 := Lib.hid hbd'
     clear hK K hbd hbd' HBc1 HCG
     repeat ((first | apply wpPlan_still rfl rfl | apply ppart_stillG rfl rfl); (intro w hw; obtain ⟨k1, k2, k3⟩ := HL.out _ hw; clear hw; go_simp; (try go_ints); (first | with_reducible rfl | (go_simp; with_reducible rfl))); (intro K hK; go_simp; (try go_ints); refine hK _ _ ?_; clear hK K))
     apply ppart_actG (by simp only [List.getElem?_toArray, List.getElem?_cons_succ, List.getElem?_cons_zero]; rfl) (by rfl)
     intro K hK
     unfold Oper.wp
     go_simp
     obtain ⟨Wa2, hWa2⟩ : ∃ Wx, Wx = Wd1.alloc (Obj.cells #[.int .i64 0, .int .i64 1] 3) := ⟨_, rfl⟩
     have hba : Below W0.heap.size W0 Wa2 := by rw [hWa2]; exact HBd1.out.alloc HBd1.out.size _
     have hra : row? Wa2 Wd1.heap.size = some ([0, 1].map (Value.int .i64)).toArray := by rw [hWa2]; exact row?_alloc_at _ _ _ _ rfl
     rw [← hWa2]
     refine hK _ _ hba ?_
     clear hK K hWa2
     have HBa2 := Lib.hid hba
     have HOf := Lib.hid (of_any [0, 1] _ Wa2 (rdl_row hra) (by decide))
     clear hba hra
     repeat ((first | apply wpPlan_still rfl rfl | apply ppart_stillG rfl rfl); (intro w hw; obtain ⟨k1, k2, k3⟩ := HL.out _ hw; clear hw; go_simp; (try go_ints); (first | with_reducible rfl | (go_simp; with_reducible rfl))); (intro K hK; go_simp; (try go_ints); refine hK _ _ ?_; clear hK K))
     apply ppart_actG (by simp only [List.getElem?_toArray, List.getElem?_cons_succ, List.getElem?_cons_zero]; rfl) (by rfl)
     intro K hK
     unfold Oper.wp
     go_simp
     refine HOf.out.mono ?_
     rintro e Wb2 ⟨rfl, hbb⟩
     have hbb' := HBa2.out.trans (hbb.mono HBa2.out.size)
     refine hK _ _ hbb' ?_
     have HBb2 := Lib.hid hbb'
     clear hK K hbb hbb' HOf HBa2
     rw [show ofTo [0, 1] ([0, 1] : List Int).length = 3 by decide]
     refine ppart_bBag (by simp only [List.getElem?_toArray, List.getElem?_cons_succ, List.getElem?_cons_zero]; rfl) (by rfl) _ _ rfl (1) 3 rfl rfl ?_
     repeat ((first | apply wpPlan_still rfl rfl | apply ppart_stillG rfl rfl); (intro w hw; obtain ⟨k1, k2, k3⟩ := HL.out _ hw; clear hw; go_simp; (try go_ints); (first | with_reducible rfl | (go_simp; with_reducible rfl))); (intro K hK; go_simp; (try go_ints); refine hK _ _ ?_; clear hK K))
     apply ppart_actG (by simp only [List.getElem?_toArray, List.getElem?_cons_succ, List.getElem?_cons_zero]; rfl) (by rfl)
     intro K hK
     unfold Oper.wp
     go_simp
     obtain ⟨Wa3, hWa3⟩ : ∃ Wx, Wx = Wb2.alloc (Obj.cells #[.int .i64 1, .int .i64 2] 3) := ⟨_, rfl⟩
     have hba : Below W0.heap.size W0 Wa3 := by rw [hWa3]; exact HBb2.out.alloc HBb2.out.size _
     have hra : row? Wa3 Wb2.heap.size = some ([1, 2].map (Value.int .i64)).toArray := by rw [hWa3]; exact row?_alloc_at _ _ _ _ rfl
     rw [← hWa3]
     refine hK _ _ hba ?_
     clear hK K hWa3
     have HBa3 := Lib.hid hba
     have HOf := Lib.hid (of_any [1, 2] _ Wa3 (rdl_row hra) (by decide))
     clear hba hra
     repeat ((first | apply wpPlan_still rfl rfl | apply ppart_stillG rfl rfl); (intro w hw; obtain ⟨k1, k2, k3⟩ := HL.out _ hw; clear hw; go_simp; (try go_ints); (first | with_reducible rfl | (go_simp; with_reducible rfl))); (intro K hK; go_simp; (try go_ints); refine hK _ _ ?_; clear hK K))
     apply ppart_actG (by simp only [List.getElem?_toArray, List.getElem?_cons_succ, List.getElem?_cons_zero]; rfl) (by rfl)
     intro K hK
     unfold Oper.wp
     go_simp
     refine HOf.out.mono ?_
     rintro e Wb3 ⟨rfl, hbb⟩
     have hbb' := HBa3.out.trans (hbb.mono HBa3.out.size)
     refine hK _ _ hbb' ?_
     have HBb3 := Lib.hid hbb'
     clear hK K hbb hbb' HOf HBa3
     rw [show ofTo [1, 2] ([1, 2] : List Int).length = 6 by decide]
     refine ppart_bBag (by simp only [List.getElem?_toArray, List.getElem?_cons_succ, List.getElem?_cons_zero]; rfl) (by rfl) _ _ rfl (-1) 6 rfl rfl ?_
     repeat ((first | apply wpPlan_still rfl rfl | apply ppart_stillG rfl rfl); (intro w hw; obtain ⟨k1, k2, k3⟩ := HL.out _ hw; clear hw; go_simp; (try go_ints); (first | with_reducible rfl | (go_simp; with_reducible rfl))); (intro K hK; go_simp; (try go_ints); refine hK _ _ ?_; clear hK K))
     refine wpPlan_nil ?_
     simp only [List.drop_succ_cons, List.drop_zero]
     go_wp2_with fail
     go_ret
     exact ⟨rfl, HB3.out.trans (HBb3.out.mono HB3.out.size)⟩
end Go.Proofs.YteiibpfabgfolaaGreatDoor
