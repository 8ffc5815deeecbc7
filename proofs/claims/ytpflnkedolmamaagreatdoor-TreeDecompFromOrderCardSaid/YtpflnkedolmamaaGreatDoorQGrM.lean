/-
  Walks of package elimination: Steps; an order that does not fit; a nil graph.
  Bags built, rows of bags of the call's own; rows of steps read.
-/
import Derived.Test.YtpflnkedolmamaaGreatDoorQGL
import Derived.Test.YtpflnkedolmamaaGreatDoorQTree6
import Derived.Test.YtpflnkedolmamaaGreatDoorQFlat
namespace Go.Pal
open Go
/-- The first k steps. -/
def stepsTo (f : Nat → Nat) (o : List Nat) (k : Nat) : List Bg := (List.range k).map fun i => (((o.getD i 0 : Nat) : Int), gameAt f o i (o.getD i 0))
theorem stepsTo_succ {f : Nat → Nat} {o : List Nat} {k x : Nat} (h : o[k]? = some x) : stepsTo f o (k + 1) = stepsTo f o k ++ [((x : Int), gameAt f o k x)] := by
  unfold stepsTo
  rw [List.range_succ, List.map_append, List.map_singleton]
  have : o.getD k 0 = x := by rw [List.getD_eq_getElem?_getD, h]; rfl
  rw [this]
theorem stepsTo_length (f : Nat → Nat) (o : List Nat) (k : Nat) : (stepsTo f o k).length = k := by simp [stepsTo]
theorem stepsTo_get {f : Nat → Nat} {o : List Nat} {n k x : Nat} (hk : k < n) (h : o[k]? = some x) : (stepsTo f o n)[k]? = some ((x : Int), gameAt f o k x) := by
  unfold stepsTo
  rw [List.getElem?_map, List.getElem?_range hk]
  have : o[k]?.getD 0 = x := by rw [h]; rfl
  simp [this]
end Go.Pal
namespace Go.Proofs.YtpflnkedolmamaaGreatDoor
open Go Go.RowKit Go.Pal

theorem echeck_nil (v : Value) (w : World) : Calls Tryz.prog 45 #[v, .pointer none] w fun e w' => e = .returned (.int .i64 1) ∧ w' = w := by
  go_enter Tryz.func45, Tryz.ntmps45
  go_wp2_with fail
  go_ret
  exact ⟨rfl, rfl⟩
set_option maxHeartbeats 1000000 in
/-- walk hands on what Check says. -/
theorem ewalk_bad (n : Nat) (hn : n ≠ 0) (gv v fv : Value) (hgv : (∃ p, gv = .pointer p) ∧ ∃ a m c, v = .slice a m c) (w : World) (hc : Calls Tryz.prog 45 #[v, gv] w fun e w' => e = .returned (.int .i64 (n : Int)) ∧ Below w.heap.size w w') :
    Calls Tryz.prog 93 #[gv, v, fv] w fun e w' => e = .returned (.int .i64 (n : Int)) ∧ Below w.heap.size w w' := by
  have HC := Lib.hid hc
  obtain ⟨⟨p, rfl⟩, a, m, c, rfl⟩ := hgv
  have h2 : ((n : Int) != 0) = true := by simpa using hn
  have h3 : ((n : Int) == 0) = false := by simpa using hn
  have h4 : (n != 0) = true := by simpa using hn
  clear hc
  go_enter Tryz.func93, Tryz.ntmps93
  go_wp2_with fail
  refine HC.out.mono ?_
  rintro e w1 ⟨rfl, hb1⟩
  have HB1 := Lib.hid hb1
  clear hb1
  go_wp2_with fail
  go_ret
  exact ⟨rfl, HB1.out⟩
set_option maxHeartbeats 1000000 in
theorem esteps_bad (n : Nat) (hn : n ≠ 0) (gv v : Value) (hgv : (∃ p, gv = .pointer p) ∧ ∃ a m c, v = .slice a m c) (w : World) (hc : ∀ W, Below w.heap.size w W → Calls Tryz.prog 45 #[v, gv] W fun e w' => e = .returned (.int .i64 (n : Int)) ∧ Below W.heap.size W w') :
    Calls Tryz.prog 63 #[gv, v] w fun e w' => e = .returned (.tuple #[.slice none 0 0, .int .i64 (n : Int)]) ∧ Below w.heap.size w w' := by
  have HW := Lib.hid fun W hb fv => ewalk_bad n hn gv v fv hgv W (hc W hb)
  obtain ⟨⟨p, rfl⟩, a, m, c, rfl⟩ := hgv
  clear hc
  go_enter Tryz.func63, Tryz.ntmps63
  go_wp2_with fail
  generalize hW0 : World.alloc w _ = W0
  obtain ⟨hr0, hB0⟩ := alloc_row hW0
  have hl0 := row?_lt hr0
  clear hW0
  refine (HW.out W0 hB0 _).mono ?_
  rintro e w1 ⟨rfl, hb1⟩
  have c0 := cell?_row (i := 0) ((row?_below hb1 hl0).trans hr0)
  simp at c0
  have HB1 := Lib.hid (hB0.trans (hb1.mono hB0.size))
  clear hb1 hr0 hB0
  go_wp2_with fail
  go_ret2
  exact ⟨rfl, HB1.out⟩
set_option maxRecDepth 20000 in
set_option maxHeartbeats 1000000 in
theorem esteps_any (o : List Nat) (g bV bE : Nat) (G : Gr) (hG : G.Ok) (w : World) (v : Value) (hv : RdL w v (o.map fun i : Nat => (i : Int))) (h : GOk w g bV bE G)
    (hord : G.ordE (o.map fun i : Nat => (i : Int)) = 0) (hlt : ∀ x ∈ o, x < 1024) (hnd : o.Nodup) (hcl : Closed (fun x => G.near (x : Int)) o) (hlen : o.length ≤ 1024)
    (hT : TabOk w) (hgT : 0 < w.heap.size) :
    Calls Tryz.prog 63 #[.pointer (some ⟨g, 0, none⟩), v] w fun e w' => ∃ vs, e = .returned (.tuple #[vs, .int .i64 0]) ∧ OwnS w.heap.size w' vs (stepsTo (fun x => G.near (x : Int)) o o.length) ∧ Below w.heap.size w w' := by
  obtain ⟨f0, hf0⟩ : ∃ f0 : Nat → Nat, f0 = fun x : Nat => G.near (x : Int) := ⟨_, rfl⟩
  have hb0 : Below w.heap.size w (w.alloc (.cells #[.slice none 0 0] 105)) := (Below.refl _ w).alloc (Nat.le_refl _) _
  obtain ⟨W0, hW0⟩ : ∃ W0, W0 = w.alloc (.cells #[.slice none 0 0] 105) := ⟨_, rfl⟩
  have hr0 : row? W0 w.heap.size = some #[.slice none 0 0] := by rw [hW0]; exact row?_alloc_at _ _ _ _ rfl
  have hs0 : W0.heap.size = w.heap.size + 1 := by rw [hW0]; simp
  rw [← hW0] at hb0
  have HWalk := Lib.hid (ewalk_any o g bV bE G hG W0 (fun j => j = w.heap.size) v ((hv.rda.keep (A' := fun k => ¬ k = w.heap.size) hb0.size fun k hk hA => ⟨hb0.block k hk, by omega⟩)) (h.below hb0) hord hlt hnd hcl hlen (hT.below hb0 hgT) (by omega) (by omega)
    117 #[.pointer (some ⟨w.heap.size, 0, none⟩)] (fun args w => by simp [go_sem])
    (fun k Y W => ∃ v, row? W w.heap.size = some #[v] ∧ OwnS w.heap.size W v (stepsTo f0 o k) ∧ v.ownBlock ≠ some w.heap.size ∧ w.heap.size < W.heap.size ∧ k ≤ o.length ∧ ∀ j, Y j ↔ (j = w.heap.size ∨ v.ownBlock = some j))
    (fun k Y W W' ⟨v, h1, h2, h3, h4, h5, h6⟩ hs => ⟨v, (row?_congr (hs.block _ h4 ((h6 _).2 (.inl rfl)))).trans h1, h2.same fun j hj => hs.block j (h2.lt j hj) ((h6 j).2 (.inr hj)), h3, Nat.lt_of_lt_of_le h4 hs.size, h5, h6⟩)
    ⟨.slice none 0 0, hr0, OwnR.nil _ _, by simp [Value.ownBlock], by omega, by omega, fun j => by simp [Value.ownBlock]⟩ (fun j hj => by omega)
    (fun k x Y W vc hx ⟨v, h1, h2, h3, h4, h5, h6⟩ hsz => by
      have hk := (List.getElem?_eq_some_iff.1 hx).1
      refine (esteps1_any w.heap.size (k : Int) (x : Int) _ vc w.heap.size _ v W h1 h2 h3 (by rw [stepsTo_length]; omega) (by omega)).mono ?_
      rintro e W' ⟨rfl, v', g1, g2, g3, g4, g5⟩
      refine ⟨rfl, fun j => j = w.heap.size ∨ v'.ownBlock = some j, ⟨v', g1, ?_, g3, Nat.lt_of_lt_of_le h4 g5.size, by omega, fun j => Iff.rfl⟩, ?_, g5.mono fun j _ hn => ⟨fun e => hn ((h6 j).2 (.inl e)), fun e => hn ((h6 j).2 (.inr e))⟩⟩
      · rw [stepsTo_succ hx, hf0]
        rw [hf0] at g2
        exact g2
      · rintro j (rfl | hj)
        · exact ⟨.inl ((h6 _).2 (.inl rfl)), Nat.lt_of_lt_of_le h4 g5.size⟩
        · refine ⟨?_, g2.lt j hj⟩
          rcases g4 with e | ⟨i, e, hi⟩
          · exact .inl ((h6 j).2 (.inr (e ▸ hj)))
          · rw [e] at hj
            cases hj
            exact .inr hi))
  have HB0 := Lib.hid hb0
  rw [← hf0]
  obtain ⟨a, c, rfl, -⟩ := hv
  rw [List.length_map] at HWalk ⊢
  clear hb0 hT h hG
  go_enter Tryz.func63, Tryz.ntmps63
  go_wp2_with fail
  rw [← hW0]
  refine HWalk.out.mono ?_
  rintro e w1 ⟨rfl, Y, ⟨v, h1, h2, h3, h4, h5, h6⟩, h7, h8⟩
  have hB1 : Below w.heap.size w w1 := HB0.out.trans (h8.below (by omega) fun j hj => by omega)
  have c0 := cell?_row (i := 0) h1
  simp at c0
  have HO := Lib.hid h2
  have HB1 := Lib.hid hB1
  clear h1 h2 h3 h6 h7 h8 hB1 hW0 HWalk
  go_wp2_with fail
  go_ret2
  exact ⟨v, rfl, HO.out, HB1.out⟩
end Go.Proofs.YtpflnkedolmamaaGreatDoor
namespace Go.Pal
open Go Go.RowKit
section
variable {α : Type} {P : Program} {e : TypeId} {k : Nat} {enc : α → Array Value}
/-- make of an empty row with room for m elements. -/
theorem run_makeO (E : ElT P e k enc) (st : TypeId) (hst : P.underlying st = some (.slice e)) (m : Nat) (hm : m ≤ 1000000) (w : World) :
    (Instr.makeSlice st (.int .i64 0) (.int .i64 (m : Int))).run P w = .ok (.slice (some ⟨w.heap.size, 0, none⟩) 0 m) (w.alloc (.cells (madeCells E.zero.cells (m * k)) e)) := by
  obtain ⟨i0, hi, hz0, hz1, hz2⟩ := info_parts E.info
  have hby : ((E.bytes : Int)) * (m : Int) ≤ 281474976710656 := by
    have h2 : E.bytes * m ≤ 10000 * 1000000 := Nat.mul_le_mul E.small hm
    have h3 : ((E.bytes * m : Nat) : Int) ≤ 10000 * 1000000 := by omega
    rw [Int.natCast_mul] at h3
    omega
  have h := run_make (P := P) w st e i0 E.zero hst hi hz0 .i64 .i64 0 (m : Int) (by omega) (by omega) (by rw [hz2]; exact hby) (by omega)
  simp only [Int.toNat_natCast, Int.toNat_zero, hz1] at h
  exact h
theorem ownR_made (E : ElT P e k enc) (m : Nat) (hm : m ≤ 1000000) (B : Nat) (w : World) (hB : B ≤ w.heap.size) : OwnR e k enc B (w.alloc (.cells (madeCells E.zero.cells (m * k)) e)) (.slice (some ⟨w.heap.size, 0, none⟩) 0 m) [] := by
  refine ⟨by simp [encC], .inr ⟨w.heap.size, m, _, rfl, hB, World.alloc_heap_new _ _, Nat.zero_le _, by unfold maxLen; omega, size_madeCells _ _, by simp [encC]⟩⟩
end
end Go.Pal
namespace Go.Proofs.YtpflnkedolmamaaGreatDoor
open Go Go.RowKit Go.Pal
theorem qbuildB0 (a : Int) (p0 p1 p2 p3 p4 p5 p6 p7 p8 p9 p10 p11 p12 p13 p14 p15 : Int) (w : World) : (Instr.build 35 #[(0, .int .i64 a), (1, .agg #[.int .u64 p0, .int .u64 p1, .int .u64 p2, .int .u64 p3, .int .u64 p4, .int .u64 p5, .int .u64 p6, .int .u64 p7, .int .u64 p8, .int .u64 p9, .int .u64 p10, .int .u64 p11, .int .u64 p12, .int .u64 p13, .int .u64 p14, .int .u64 p15])]).run Tryz.prog w = .ok (.agg #[.int .i64 a, .int .u64 p0, .int .u64 p1, .int .u64 p2, .int .u64 p3, .int .u64 p4, .int .u64 p5, .int .u64 p6, .int .u64 p7, .int .u64 p8, .int .u64 p9, .int .u64 p10, .int .u64 p11, .int .u64 p12, .int .u64 p13, .int .u64 p14, .int .u64 p15]) w := by kernel_rfl
@[go_sem ↓ high] theorem qbuild_Bag (a : Int) (S : Nat) (w : World) : (Instr.build 35 #[(0, .int .i64 a), (1, .agg (words S))]).run Tryz.prog w = .ok (.agg (bagA (a, S))) w := by
  rw [stepA_lit, wordsLit]
  exact qbuildB0 _ _ _ _ _ _ _ _ _ _ _ _ _ _ _ _ _ _
theorem qbuildB1 (a : Int) (w : World) : (Instr.build 35 #[(0, .int .i64 a)]).run Tryz.prog w = .ok (.agg (bagA (a, 0))) w := by kernel_rfl
theorem qbuildBs1 (a : Int) (p0 p1 p2 p3 p4 p5 p6 p7 p8 p9 p10 p11 p12 p13 p14 p15 : Int) (w : World) : (Instr.buildSlice 23 1 #[(0, .agg #[.int .i64 a, .int .u64 p0, .int .u64 p1, .int .u64 p2, .int .u64 p3, .int .u64 p4, .int .u64 p5, .int .u64 p6, .int .u64 p7, .int .u64 p8, .int .u64 p9, .int .u64 p10, .int .u64 p11, .int .u64 p12, .int .u64 p13, .int .u64 p14, .int .u64 p15])]).run Tryz.prog w = .ok (.slice (some ⟨w.heap.size, 0, none⟩) 1 1) (w.alloc (.cells #[.int .i64 a, .int .u64 p0, .int .u64 p1, .int .u64 p2, .int .u64 p3, .int .u64 p4, .int .u64 p5, .int .u64 p6, .int .u64 p7, .int .u64 p8, .int .u64 p9, .int .u64 p10, .int .u64 p11, .int .u64 p12, .int .u64 p13, .int .u64 p14, .int .u64 p15] 35)) := by kernel_rfl
theorem qbuild_Bags1 (a : Int) (S : Nat) (w : World) : (Instr.buildSlice 23 1 #[(0, .agg (bagA (a, S)))]).run Tryz.prog w = .ok (.slice (some ⟨w.heap.size, 0, none⟩) 1 1) (w.alloc (.cells (bagA (a, S)) 35)) := by
  rw [stepA_lit]
  exact qbuildBs1 _ _ _ _ _ _ _ _ _ _ _ _ _ _ _ _ _ _
theorem qwpList_bBag {ops : Array Oper} {rest : List Oper} {o : Oper} {a : Act} {Q : Exit → Act → World → Prop} {w : World} (hg : o.guard = none) (x0 x1 : Operand) (ho : o.op = .build 35 #[(0, x0), (1, x1)])
    (p : Int) (S : Nat) (h0 : a.eval x0 = .int .i64 p) (h1 : a.eval x1 = .agg (words S)) (h : wpList Tryz.prog ops Q rest (a.put o.dst (.agg (bagA (p, S)))) w) : wpList Tryz.prog ops Q (o :: rest) a w := by
  refine wpList_plain hg fun K hK => ?_
  unfold Oper.wp execOp
  simp only [ho, List.map_toArray, List.map_cons, List.map_nil, h0, h1, Sem.run_bind, qbuild_Bag, Result.andThen_ok]
  exact hK _ _ h
theorem qwpList_bBag1 {ops : Array Oper} {rest : List Oper} {o : Oper} {a : Act} {Q : Exit → Act → World → Prop} {w : World} (hg : o.guard = none) (x0 : Operand) (ho : o.op = .build 35 #[(0, x0)])
    (p : Int) (h0 : a.eval x0 = .int .i64 p) (h : wpList Tryz.prog ops Q rest (a.put o.dst (.agg (bagA (p, 0)))) w) : wpList Tryz.prog ops Q (o :: rest) a w := by
  refine wpList_plain hg fun K hK => ?_
  unfold Oper.wp execOp
  simp only [ho, List.map_toArray, List.map_cons, List.map_nil, h0, Sem.run_bind, qbuildB1, Result.andThen_ok]
  exact hK _ _ h
theorem qwpList_bBags1 {ops : Array Oper} {rest : List Oper} {o : Oper} {a : Act} {Q : Exit → Act → World → Prop} {w : World} (hg : o.guard = none) (x0 : Operand) (ho : o.op = .buildSlice 23 1 #[(0, x0)])
    (p : Int) (S : Nat) (h0 : a.eval x0 = .agg (bagA (p, S))) (h : wpList Tryz.prog ops Q rest (a.put o.dst (.slice (some ⟨w.heap.size, 0, none⟩) 1 1)) (w.alloc (.cells (bagA (p, S)) 35))) : wpList Tryz.prog ops Q (o :: rest) a w := by
  refine wpList_plain hg fun K hK => ?_
  unfold Oper.wp execOp
  simp only [ho, List.map_toArray, List.map_cons, List.map_nil, h0, Sem.run_bind, qbuild_Bags1, Result.andThen_ok]
  exact hK _ _ h
theorem qinfoBag : (Tryz.prog.info? 35).map (fun i => (i.zero, i.size, i.bytes)) = some (some (.agg (bagA (0, 0))), 17, 136) := by kernel_rfl
def elB : ElT Tryz.prog 35 17 bagA where
  bytes := 136
  zero := .agg (bagA (0, 0))
  info := qinfoBag
  zc := by simp [Value.cells, bagA_size]
  pos := by decide
  small := by decide
  size := bagA_size
  one x u hu := bagA_one x u hu
abbrev OwnT := OwnR 35 17 bagA
/-- What a step reads in the row of steps. -/
theorem step_load {T : List Bg} {b off B : Nat} {w w' : World} {i : Nat} {x : Bg} (hc : ∀ i x, T[i]? = some x → ∀ j u, (bagA x)[j]? = some u → w.cell? ⟨b, off + i * 17 + j, none⟩ = some u) (hb : w'.heap[b]? = w.heap[b]?) (hx : T[i]? = some x) :
    rowLoad Tryz.prog 110 ⟨b, off + i * 17, none⟩ w' = .ok (.agg (bagA x)) w' :=
  load_cells Tryz.isAgg110 Tryz.sizeOf110 w' b _ (bagA x) (bagA_size x) fun j u hu => (World.cell?_of_block hb).trans (hc i x hx j u hu)
theorem bagA_set0 (p q : Int) (S : Nat) : (bagA (p, S)).setIfInBounds 0 (.int .i64 q) = bagA (q, S) := by
  rw [stepA_lit, stepA_lit]
  simp
end Go.Proofs.YtpflnkedolmamaaGreatDoor
