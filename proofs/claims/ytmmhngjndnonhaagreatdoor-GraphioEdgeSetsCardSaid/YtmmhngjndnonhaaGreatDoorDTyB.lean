/-
  Bags built, rows of bags of the call's own; rows of steps read.
-/
import Derived.Test.YtmmhngjndnonhaaGreatDoorDGM
import Derived.Test.YtmmhngjndnonhaaGreatDoorDTt
set_option linter.unusedSimpArgs false
set_option linter.unusedVariables false
namespace Go.Pal
open Go Go.RowKit
section
variable {α : Type} {P : Program} {e : TypeId} {k : Nat} {enc : α → Array Value}
/-- make of an empty row with room for m elements. -/
theorem run_makeO (E : ElT P e k enc) (st : TypeId) (hst : P.underlying st = some (.slice e)) (m : Nat) (hm : m ≤ 1000000) (w : World) :
    (Instr.makeSlice st (.int .i64 0) (.int .i64 (m : Int))).run P w = .ok (.slice (some ⟨w.heap.size, 0, none⟩) 0 m) (w.alloc (.cells (madeCells E.zero.cells (m * k)) e)) := by
  obtain ⟨i0, hi, hz0, hz1, hz2⟩ := info_parts E.info
  have hby : ((E.bytes : Int)) * (m : Int) ≤ 281474976710656 := by
    have h2 : E.bytes * m ≤ 10000 * 1000000 := Nat.mul_le_mul E.small hm
    have h3 : ((E.bytes * m : Nat) : Int) ≤ 10000 * 1000000 := by omega
    rw [Int.natCast_mul] at h3
    omega
  have h := run_make (P := P) w st e i0 E.zero hst hi hz0 .i64 .i64 0 (m : Int) (by omega) (by omega) (by rw [hz2]; exact hby) (by omega)
  simp only [Int.toNat_natCast, Int.toNat_zero, hz1] at h
  exact h
theorem ownR_made (E : ElT P e k enc) (m : Nat) (hm : m ≤ 1000000) (B : Nat) (w : World) (hB : B ≤ w.heap.size) : OwnR e k enc B (w.alloc (.cells (madeCells E.zero.cells (m * k)) e)) (.slice (some ⟨w.heap.size, 0, none⟩) 0 m) [] := by
  refine ⟨by simp [encC], .inr ⟨w.heap.size, m, _, rfl, hB, World.alloc_heap_new _ _, Nat.zero_le _, by unfold maxLen; omega, size_madeCells _ _, by simp [encC]⟩⟩
end
end Go.Pal
namespace Go.Proofs.YtmmhngjndnonhaaGreatDoor
open Go Go.RowKit Go.Pal
theorem qbuildB0 (a : Int) (p0 p1 p2 p3 p4 p5 p6 p7 p8 p9 p10 p11 p12 p13 p14 p15 : Int) (w : World) : (Instr.build 126 #[(0, .int .i64 a), (1, .agg #[.int .u64 p0, .int .u64 p1, .int .u64 p2, .int .u64 p3, .int .u64 p4, .int .u64 p5, .int .u64 p6, .int .u64 p7, .int .u64 p8, .int .u64 p9, .int .u64 p10, .int .u64 p11, .int .u64 p12, .int .u64 p13, .int .u64 p14, .int .u64 p15])]).run Tryz.prog w = .ok (.agg #[.int .i64 a, .int .u64 p0, .int .u64 p1, .int .u64 p2, .int .u64 p3, .int .u64 p4, .int .u64 p5, .int .u64 p6, .int .u64 p7, .int .u64 p8, .int .u64 p9, .int .u64 p10, .int .u64 p11, .int .u64 p12, .int .u64 p13, .int .u64 p14, .int .u64 p15]) w := by kernel_rfl
@[go_sem ↓ high] theorem qbuild_Bag (a : Int) (S : Nat) (w : World) : (Instr.build 126 #[(0, .int .i64 a), (1, .agg (words S))]).run Tryz.prog w = .ok (.agg (bagA (a, S))) w := by
  rw [stepA_lit, wordsLit]
  exact qbuildB0 _ _ _ _ _ _ _ _ _ _ _ _ _ _ _ _ _ _
theorem qbuildB1 (a : Int) (w : World) : (Instr.build 126 #[(0, .int .i64 a)]).run Tryz.prog w = .ok (.agg (bagA (a, 0))) w := by kernel_rfl
theorem qbuildBs1 (a : Int) (p0 p1 p2 p3 p4 p5 p6 p7 p8 p9 p10 p11 p12 p13 p14 p15 : Int) (w : World) : (Instr.buildSlice 46 1 #[(0, .agg #[.int .i64 a, .int .u64 p0, .int .u64 p1, .int .u64 p2, .int .u64 p3, .int .u64 p4, .int .u64 p5, .int .u64 p6, .int .u64 p7, .int .u64 p8, .int .u64 p9, .int .u64 p10, .int .u64 p11, .int .u64 p12, .int .u64 p13, .int .u64 p14, .int .u64 p15])]).run Tryz.prog w = .ok (.slice (some ⟨w.heap.size, 0, none⟩) 1 1) (w.alloc (.cells #[.int .i64 a, .int .u64 p0, .int .u64 p1, .int .u64 p2, .int .u64 p3, .int .u64 p4, .int .u64 p5, .int .u64 p6, .int .u64 p7, .int .u64 p8, .int .u64 p9, .int .u64 p10, .int .u64 p11, .int .u64 p12, .int .u64 p13, .int .u64 p14, .int .u64 p15] 126)) := by kernel_rfl
theorem qbuild_Bags1 (a : Int) (S : Nat) (w : World) : (Instr.buildSlice 46 1 #[(0, .agg (bagA (a, S)))]).run Tryz.prog w = .ok (.slice (some ⟨w.heap.size, 0, none⟩) 1 1) (w.alloc (.cells (bagA (a, S)) 126)) := by
  rw [stepA_lit]
  exact qbuildBs1 _ _ _ _ _ _ _ _ _ _ _ _ _ _ _ _ _ _
theorem qwpList_bBag {ops : Array Oper} {rest : List Oper} {o : Oper} {a : Act} {Q : Exit → Act → World → Prop} {w : World} (hg : o.guard = none) (x0 x1 : Operand) (ho : o.op = .build 126 #[(0, x0), (1, x1)])
    (p : Int) (S : Nat) (h0 : a.eval x0 = .int .i64 p) (h1 : a.eval x1 = .agg (words S)) (h : wpList Tryz.prog ops Q rest (a.put o.dst (.agg (bagA (p, S)))) w) : wpList Tryz.prog ops Q (o :: rest) a w := by
  refine wpList_plain hg fun K hK => ?_
  unfold Oper.wp execOp
  simp only [ho, List.map_toArray, List.map_cons, List.map_nil, h0, h1, Sem.run_bind, qbuild_Bag, Result.andThen_ok]
  exact hK _ _ h
theorem qwpList_bBag1 {ops : Array Oper} {rest : List Oper} {o : Oper} {a : Act} {Q : Exit → Act → World → Prop} {w : World} (hg : o.guard = none) (x0 : Operand) (ho : o.op = .build 126 #[(0, x0)])
    (p : Int) (h0 : a.eval x0 = .int .i64 p) (h : wpList Tryz.prog ops Q rest (a.put o.dst (.agg (bagA (p, 0)))) w) : wpList Tryz.prog ops Q (o :: rest) a w := by
  refine wpList_plain hg fun K hK => ?_
  unfold Oper.wp execOp
  simp only [ho, List.map_toArray, List.map_cons, List.map_nil, h0, Sem.run_bind, qbuildB1, Result.andThen_ok]
  exact hK _ _ h
theorem qwpList_bBags1 {ops : Array Oper} {rest : List Oper} {o : Oper} {a : Act} {Q : Exit → Act → World → Prop} {w : World} (hg : o.guard = none) (x0 : Operand) (ho : o.op = .buildSlice 46 1 #[(0, x0)])
    (p : Int) (S : Nat) (h0 : a.eval x0 = .agg (bagA (p, S))) (h : wpList Tryz.prog ops Q rest (a.put o.dst (.slice (some ⟨w.heap.size, 0, none⟩) 1 1)) (w.alloc (.cells (bagA (p, S)) 126))) : wpList Tryz.prog ops Q (o :: rest) a w := by
  refine wpList_plain hg fun K hK => ?_
  unfold Oper.wp execOp
  simp only [ho, List.map_toArray, List.map_cons, List.map_nil, h0, Sem.run_bind, qbuild_Bags1, Result.andThen_ok]
  exact hK _ _ h
theorem qinfoBag : (Tryz.prog.info? 126).map (fun i => (i.zero, i.size, i.bytes)) = some (some (.agg (bagA (0, 0))), 17, 136) := by kernel_rfl
def elB : ElT Tryz.prog 126 17 bagA where
  bytes := 136
  zero := .agg (bagA (0, 0))
  info := qinfoBag
  zc := by simp [Value.cells, bagA_size]
  pos := by decide
  small := by decide
  size := bagA_size
  one x u hu := bagA_one x u hu
abbrev OwnT := OwnR 126 17 bagA
/-- What a step reads in the row of steps. -/
theorem step_load {T : List Bg} {b off B : Nat} {w w' : World} {i : Nat} {x : Bg} (hc : ∀ i x, T[i]? = some x → ∀ j u, (bagA x)[j]? = some u → w.cell? ⟨b, off + i * 17 + j, none⟩ = some u) (hb : w'.heap[b]? = w.heap[b]?) (hx : T[i]? = some x) :
    rowLoad Tryz.prog 194 ⟨b, off + i * 17, none⟩ w' = .ok (.agg (bagA x)) w' :=
  load_cells Tryz.isAgg194 Tryz.sizeOf194 w' b _ (bagA x) (bagA_size x) fun j u hu => (World.cell?_of_block hb).trans (hc i x hx j u hu)
theorem bagA_set0 (p q : Int) (S : Nat) : (bagA (p, S)).setIfInBounds 0 (.int .i64 q) = bagA (q, S) := by
  rw [stepA_lit, stepA_lit]
  simp
end Go.Proofs.YtmmhngjndnonhaaGreatDoor
