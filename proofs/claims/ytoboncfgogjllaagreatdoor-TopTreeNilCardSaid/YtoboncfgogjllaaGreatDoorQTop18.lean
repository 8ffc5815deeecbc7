/-
  Walks: Of of package bitset; bags built.
-/
import Derived.Test.YtoboncfgogjllaaGreatDoorQTo16
namespace Go.Proofs.YtoboncfgogjllaaGreatDoor
open Go Go.RowKit Go.Pal Go.Shelf

/-- A world that keeps the de Bruijn table. -/
def Tabs (w : World) : Prop := TabOk w ∧ 0 < w.heap.size
theorem Tabs.on {w w' : World} (h : Tabs w) (hb : Below w.heap.size w w') : Tabs w' := ⟨h.1.below hb h.2, Nat.lt_of_lt_of_le h.2 hb.size⟩
theorem bagA_lit (p : Int) (S : Nat) : bagA (p, S) = #[.int .i64 p, .int .u64 (wd S 0 : Int), .int .u64 (wd S 1 : Int), .int .u64 (wd S 2 : Int), .int .u64 (wd S 3 : Int), .int .u64 (wd S 4 : Int), .int .u64 (wd S 5 : Int), .int .u64 (wd S 6 : Int), .int .u64 (wd S 7 : Int), .int .u64 (wd S 8 : Int), .int .u64 (wd S 9 : Int), .int .u64 (wd S 10 : Int), .int .u64 (wd S 11 : Int), .int .u64 (wd S 12 : Int), .int .u64 (wd S 13 : Int), .int .u64 (wd S 14 : Int), .int .u64 (wd S 15 : Int)] := by
  unfold bagA
  rw [words_lit]
  apply Array.ext'
  simp
theorem buildB0 (a : Int) (p0 p1 p2 p3 p4 p5 p6 p7 p8 p9 p10 p11 p12 p13 p14 p15 : Int) (w : World) : (Instr.build 67 #[(0, .int .i64 a), (1, .agg #[.int .u64 p0, .int .u64 p1, .int .u64 p2, .int .u64 p3, .int .u64 p4, .int .u64 p5, .int .u64 p6, .int .u64 p7, .int .u64 p8, .int .u64 p9, .int .u64 p10, .int .u64 p11, .int .u64 p12, .int .u64 p13, .int .u64 p14, .int .u64 p15])]).run Tryz.prog w = .ok (.agg #[.int .i64 a, .int .u64 p0, .int .u64 p1, .int .u64 p2, .int .u64 p3, .int .u64 p4, .int .u64 p5, .int .u64 p6, .int .u64 p7, .int .u64 p8, .int .u64 p9, .int .u64 p10, .int .u64 p11, .int .u64 p12, .int .u64 p13, .int .u64 p14, .int .u64 p15]) w := by kernel_rfl
@[go_sem ↓ high] theorem build_Bag (a : Int) (S : Nat) (w : World) : (Instr.build 67 #[(0, .int .i64 a), (1, .agg (words S))]).run Tryz.prog w = .ok (.agg (bagA (a, S))) w := by
  rw [bagA_lit, words_lit]
  exact buildB0 _ _ _ _ _ _ _ _ _ _ _ _ _ _ _ _ _ _
theorem buildB1 (a : Int) (w : World) : (Instr.build 67 #[(0, .int .i64 a)]).run Tryz.prog w = .ok (.agg (bagA (a, 0))) w := by kernel_rfl
theorem buildBs1 (a : Int) (p0 p1 p2 p3 p4 p5 p6 p7 p8 p9 p10 p11 p12 p13 p14 p15 : Int) (w : World) : (Instr.buildSlice 59 1 #[(0, .agg #[.int .i64 a, .int .u64 p0, .int .u64 p1, .int .u64 p2, .int .u64 p3, .int .u64 p4, .int .u64 p5, .int .u64 p6, .int .u64 p7, .int .u64 p8, .int .u64 p9, .int .u64 p10, .int .u64 p11, .int .u64 p12, .int .u64 p13, .int .u64 p14, .int .u64 p15])]).run Tryz.prog w = .ok (.slice (some ⟨w.heap.size, 0, none⟩) 1 1) (w.alloc (.cells #[.int .i64 a, .int .u64 p0, .int .u64 p1, .int .u64 p2, .int .u64 p3, .int .u64 p4, .int .u64 p5, .int .u64 p6, .int .u64 p7, .int .u64 p8, .int .u64 p9, .int .u64 p10, .int .u64 p11, .int .u64 p12, .int .u64 p13, .int .u64 p14, .int .u64 p15] 67)) := by kernel_rfl
theorem build_Bags1 (a : Int) (S : Nat) (w : World) : (Instr.buildSlice 59 1 #[(0, .agg (bagA (a, S)))]).run Tryz.prog w = .ok (.slice (some ⟨w.heap.size, 0, none⟩) 1 1) (w.alloc (.cells (bagA (a, S)) 67)) := by
  rw [bagA_lit]
  exact buildBs1 _ _ _ _ _ _ _ _ _ _ _ _ _ _ _ _ _ _
theorem buildBs3 (a b c : Int) (p0 p1 p2 p3 p4 p5 p6 p7 p8 p9 p10 p11 p12 p13 p14 p15 q0 q1 q2 q3 q4 q5 q6 q7 q8 q9 q10 q11 q12 q13 q14 q15 r0 r1 r2 r3 r4 r5 r6 r7 r8 r9 r10 r11 r12 r13 r14 r15 : Int) (w : World) : (Instr.buildSlice 59 3 #[(0, .agg #[.int .i64 a, .int .u64 p0, .int .u64 p1, .int .u64 p2, .int .u64 p3, .int .u64 p4, .int .u64 p5, .int .u64 p6, .int .u64 p7, .int .u64 p8, .int .u64 p9, .int .u64 p10, .int .u64 p11, .int .u64 p12, .int .u64 p13, .int .u64 p14, .int .u64 p15]), (1, .agg #[.int .i64 b, .int .u64 q0, .int .u64 q1, .int .u64 q2, .int .u64 q3, .int .u64 q4, .int .u64 q5, .int .u64 q6, .int .u64 q7, .int .u64 q8, .int .u64 q9, .int .u64 q10, .int .u64 q11, .int .u64 q12, .int .u64 q13, .int .u64 q14, .int .u64 q15]), (2, .agg #[.int .i64 c, .int .u64 r0, .int .u64 r1, .int .u64 r2, .int .u64 r3, .int .u64 r4, .int .u64 r5, .int .u64 r6, .int .u64 r7, .int .u64 r8, .int .u64 r9, .int .u64 r10, .int .u64 r11, .int .u64 r12, .int .u64 r13, .int .u64 r14, .int .u64 r15])]).run Tryz.prog w = .ok (.slice (some ⟨w.heap.size, 0, none⟩) 3 3) (w.alloc (.cells #[.int .i64 a, .int .u64 p0, .int .u64 p1, .int .u64 p2, .int .u64 p3, .int .u64 p4, .int .u64 p5, .int .u64 p6, .int .u64 p7, .int .u64 p8, .int .u64 p9, .int .u64 p10, .int .u64 p11, .int .u64 p12, .int .u64 p13, .int .u64 p14, .int .u64 p15, .int .i64 b, .int .u64 q0, .int .u64 q1, .int .u64 q2, .int .u64 q3, .int .u64 q4, .int .u64 q5, .int .u64 q6, .int .u64 q7, .int .u64 q8, .int .u64 q9, .int .u64 q10, .int .u64 q11, .int .u64 q12, .int .u64 q13, .int .u64 q14, .int .u64 q15, .int .i64 c, .int .u64 r0, .int .u64 r1, .int .u64 r2, .int .u64 r3, .int .u64 r4, .int .u64 r5, .int .u64 r6, .int .u64 r7, .int .u64 r8, .int .u64 r9, .int .u64 r10, .int .u64 r11, .int .u64 r12, .int .u64 r13, .int .u64 r14, .int .u64 r15] 67)) := by kernel_rfl
theorem build_Bags3 (x y z : Bg) (w : World) : (Instr.buildSlice 59 3 #[(0, .agg (bagA x)), (1, .agg (bagA y)), (2, .agg (bagA z))]).run Tryz.prog w = .ok (.slice (some ⟨w.heap.size, 0, none⟩) 3 3) (w.alloc (.cells (bagA x ++ bagA y ++ bagA z) 67)) := by
  obtain ⟨a, S⟩ := x
  obtain ⟨b, S'⟩ := y
  obtain ⟨c, S''⟩ := z
  rw [bagA_lit, bagA_lit, bagA_lit]
  have h := buildBs3 a b c (wd S 0 : Int) (wd S 1 : Int) (wd S 2 : Int) (wd S 3 : Int) (wd S 4 : Int) (wd S 5 : Int) (wd S 6 : Int) (wd S 7 : Int) (wd S 8 : Int) (wd S 9 : Int) (wd S 10 : Int) (wd S 11 : Int) (wd S 12 : Int) (wd S 13 : Int) (wd S 14 : Int) (wd S 15 : Int) (wd S' 0 : Int) (wd S' 1 : Int) (wd S' 2 : Int) (wd S' 3 : Int) (wd S' 4 : Int) (wd S' 5 : Int) (wd S' 6 : Int) (wd S' 7 : Int) (wd S' 8 : Int) (wd S' 9 : Int) (wd S' 10 : Int) (wd S' 11 : Int) (wd S' 12 : Int) (wd S' 13 : Int) (wd S' 14 : Int) (wd S' 15 : Int) (wd S'' 0 : Int) (wd S'' 1 : Int) (wd S'' 2 : Int) (wd S'' 3 : Int) (wd S'' 4 : Int) (wd S'' 5 : Int) (wd S'' 6 : Int) (wd S'' 7 : Int) (wd S'' 8 : Int) (wd S'' 9 : Int) (wd S'' 10 : Int) (wd S'' 11 : Int) (wd S'' 12 : Int) (wd S'' 13 : Int) (wd S'' 14 : Int) (wd S'' 15 : Int) w
  exact h.trans (by kernel_rfl)
theorem wpList_bBag {ops : Array Oper} {rest : List Oper} {o : Oper} {a : Act} {Q : Exit → Act → World → Prop} {w : World} (hg : o.guard = none) (x0 x1 : Operand) (ho : o.op = .build 67 #[(0, x0), (1, x1)])
    (p : Int) (S : Nat) (h0 : a.eval x0 = .int .i64 p) (h1 : a.eval x1 = .agg (words S)) (h : wpList Tryz.prog ops Q rest (a.put o.dst (.agg (bagA (p, S)))) w) : wpList Tryz.prog ops Q (o :: rest) a w := by
  refine wpList_plain hg fun K hK => ?_
  unfold Oper.wp execOp
  simp only [ho, List.map_toArray, List.map_cons, List.map_nil, h0, h1, Sem.run_bind, build_Bag, Result.andThen_ok]
  exact hK _ _ h
theorem wpList_bBag1 {ops : Array Oper} {rest : List Oper} {o : Oper} {a : Act} {Q : Exit → Act → World → Prop} {w : World} (hg : o.guard = none) (x0 : Operand) (ho : o.op = .build 67 #[(0, x0)])
    (p : Int) (h0 : a.eval x0 = .int .i64 p) (h : wpList Tryz.prog ops Q rest (a.put o.dst (.agg (bagA (p, 0)))) w) : wpList Tryz.prog ops Q (o :: rest) a w := by
  refine wpList_plain hg fun K hK => ?_
  unfold Oper.wp execOp
  simp only [ho, List.map_toArray, List.map_cons, List.map_nil, h0, Sem.run_bind, buildB1, Result.andThen_ok]
  exact hK _ _ h
theorem wpList_bBags1 {ops : Array Oper} {rest : List Oper} {o : Oper} {a : Act} {Q : Exit → Act → World → Prop} {w : World} (hg : o.guard = none) (x0 : Operand) (ho : o.op = .buildSlice 59 1 #[(0, x0)])
    (p : Int) (S : Nat) (h0 : a.eval x0 = .agg (bagA (p, S))) (h : wpList Tryz.prog ops Q rest (a.put o.dst (.slice (some ⟨w.heap.size, 0, none⟩) 1 1)) (w.alloc (.cells (bagA (p, S)) 67))) : wpList Tryz.prog ops Q (o :: rest) a w := by
  refine wpList_plain hg fun K hK => ?_
  unfold Oper.wp execOp
  simp only [ho, List.map_toArray, List.map_cons, List.map_nil, h0, Sem.run_bind, build_Bags1, Result.andThen_ok]
  exact hK _ _ h
theorem wpList_bBags3 {ops : Array Oper} {rest : List Oper} {o : Oper} {a : Act} {Q : Exit → Act → World → Prop} {w : World} (hg : o.guard = none) (x0 x1 x2 : Operand) (ho : o.op = .buildSlice 59 3 #[(0, x0), (1, x1), (2, x2)])
    (x y z : Bg) (h0 : a.eval x0 = .agg (bagA x)) (h1 : a.eval x1 = .agg (bagA y)) (h2 : a.eval x2 = .agg (bagA z)) (h : wpList Tryz.prog ops Q rest (a.put o.dst (.slice (some ⟨w.heap.size, 0, none⟩) 3 3)) (w.alloc (.cells (bagA x ++ bagA y ++ bagA z) 67))) : wpList Tryz.prog ops Q (o :: rest) a w := by
  refine wpList_plain hg fun K hK => ?_
  unfold Oper.wp execOp
  simp only [ho, List.map_toArray, List.map_cons, List.map_nil, h0, h1, h2, Sem.run_bind, build_Bags3, Result.andThen_ok]
  exact hK _ _ h

set_option maxRecDepth 10000 in
set_option maxHeartbeats 400000 in
theorem of_set (A : Nat → Prop) (ns : List Nat) (v : Value) (w : World) (hv : RdI A w v (ns.map fun i : Nat => (i : Int))) (hlen : ns.length ≤ 65536) (hns : ∀ n ∈ ns, n < 1024) :
    Calls Tryz.prog 45 #[v] w fun e w' => e = .returned (.agg (words (ns.foldl sIns 0))) ∧ Below w.heap.size w w' := by
  obtain ⟨b, off, c, rfl, hnc, -, hbB, hc⟩ := hv
  rw [List.length_map] at hnc ⊢
  have HC := Lib.hid hc
  have HNS := Lib.hid hns
  clear hc hns
  go_enter Tryz.func45, Tryz.ntmps45
  go_wp2_with fail
  go_loopw [8] (fun i wr => ∃ k : Nat, k ≤ ns.length ∧ i = .int .i64 (k : Int) ∧ row? wr w.heap.size = some (words 0) ∧ row? wr (w.heap.size + 1) = some (words ((ns.take k).foldl sIns 0)) ∧ Below w.heap.size w wr) (fun i _ => ns.length - (intOf i).toNat)
  case atStart =>
    refine ⟨0, by omega, rfl, ?_, ?_, ((Below.refl _ _).alloc (Nat.le_refl _) _).alloc (by simp) _⟩
    · exact (row?_alloc_past _ _ _ (by simp)).trans (row?_alloc_at _ _ _ _ rfl)
    · exact row?_alloc_at _ _ _ _ (by simp)
  case round =>
    obtain ⟨k, hk, rfl, hr0, hr1, hb⟩ := hrel
    have HB := Lib.hid hb
    have hl1 := row?_lt hr1
    clear hb
    by_cases hlt : k < ns.length
    · obtain ⟨n, hn⟩ : ∃ n, ns[k]? = some n := ⟨_, List.getElem?_eq_getElem hlt⟩
      have hcell := (HB.out.cell (p := ⟨b, off + k, none⟩) hbB).trans (HC.out k (n : Int) (by rw [List.getElem?_map, hn]; rfl))
      have hn1 := HNS.out n (List.mem_of_getElem? hn)
      have hnx : (ns.take (k + 1)).foldl sIns 0 = sIns ((ns.take k).foldl sIns 0) n := by rw [List.take_add_one, hn]; simp
      have HNX := Lib.hid hnx
      clear hn hnx
      go_wp2_with fail
      refine (with_in _ n wr hn1).mono ?_
      rintro e w1 ⟨rfl, hb1⟩
      have h10 := (row?_below hb1 (by omega)).trans hr0
      have h11 := (row?_below hb1 hl1).trans hr1
      have HB1 := Lib.hid (HB.out.trans (hb1.mono HB.out.size))
      clear hb1 hr0 hr1
      go_wp2_with fail
      go_roundw
      case rel =>
        refine ⟨k + 1, by omega, by go_num, ?_, ?_, below_setRow HB1.out (by omega) _⟩
        · rw [row?_setRow_other _ _ _ _ (by omega)]; exact h10
        · rw [row?_setRow_same _ _ _ (by rw [h11]; rfl), HNX.out]
      case measure => simp [intOf]; omega
    · have hkn : k = ns.length := by omega
      subst hkn
      rw [List.take_of_length_le (Nat.le_refl _)] at hr1
      go_wp2_with fail
      refine ret_row _ (words (ns.foldl sIns 0)) rfl Tryz.isAgg40 Tryz.sizeOf40 rfl rfl ?_ (by simp only [words_size]) ?_
      · first | (simp [go_sem]; done) | (simp [go_sem, *]; done)
      exact ⟨rfl, below_setRow HB.out (Nat.le_refl _) _⟩
end Go.Proofs.YtoboncfgogjllaaGreatDoor
