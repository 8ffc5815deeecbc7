/- Walks of package elimination: Steps; an order that does not fit; a nil graph. Bags built, .. -/
import Derived.Test.YteiibpfabgfolaaGreatDoorVGL
import Derived.Test.YteiibpfabgfolaaGreatDoorVTre4
set_option maxHeartbeats 4000000
set_option maxRecDepth 20000
set_option linter.all false
namespace Go.Pal
open Go
def stepsTo (f : Nat → Nat) (o : List Nat) (k : Nat) : List Bg := (List.range k).map fun i => (((o.getD i 0 : Nat) : Int), gameAt f o i (o.getD i 0))
theorem stepsTo_succ {f : Nat → Nat} {o : List Nat} {k x : Nat} (h : o[k]? = some x) : stepsTo f o (k + 1) = stepsTo f o k ++ [((x : Int), gameAt f o k x)] := by
 unfold stepsTo
 rw [List.range_succ, List.map_append, List.map_singleton]
 have : o.getD k 0 = x := by rw [List.getD_eq_getElem?_getD, h]; rfl
 rw [this]
theorem stepsTo_length (f : Nat → Nat) (o : List Nat) (k : Nat) : (stepsTo f o k).length = k := by simp [stepsTo]
theorem stepsTo_get {f : Nat → Nat} {o : List Nat} {n k x : Nat} (hk : k < n) (h : o[k]? = some x) : (stepsTo f o n)[k]? = some ((x : Int), gameAt f o k x) := by
 unfold stepsTo
 rw [List.getElem?_map, List.getElem?_range hk]
 have : o[k]?.getD 0 = x := by rw [h]; rfl
 simp [this]
end Go.Pal
namespace Go.Proofs.YteiibpfabgfolaaGreatDoor
open Go Go.RowKit Go.Pal
theorem esteps_any (o : List Nat) (g bV bE : Nat) (G : Gr) (hG : G.Ok) (w : World) (v : Value) (hv : RdL w v (o.map fun i : Nat => (i : Int))) (h : GOk w g bV bE G)
   (hord : G.ordE (o.map fun i : Nat => (i : Int)) = 0) (hlt : ∀ x ∈ o, x < 1024) (hnd : o.Nodup) (hcl : Closed (fun x => G.near (x : Int)) o) (hlen : o.length ≤ 1024)
   (hT : TabOk w) (hgT : 1 < w.heap.size) :
   Calls Tryz.prog 38 #[.pointer (some ⟨g, 0, none⟩), v] w fun e w' => ∃ vs, e = .returned (.tuple #[vs, .int .i64 0]) ∧ OwnS w.heap.size w' vs (stepsTo (fun x => G.near (x : Int)) o o.length) ∧ Below w.heap.size w w' := by
 obtain ⟨f0, hf0⟩ : ∃ f0 : Nat → Nat, f0 = fun x : Nat => G.near (x : Int) := ⟨_, rfl⟩
 have hb0 : Below w.heap.size w (w.alloc (.cells #[.slice none 0 0] 92)) := (Below.refl _ w).alloc (Nat.le_refl _) _
 obtain ⟨W0, hW0⟩ : ∃ W0, W0 = w.alloc (.cells #[.slice none 0 0] 92) := ⟨_, rfl⟩
 have hr0 : row? W0 w.heap.size = some #[.slice none 0 0] := by rw [hW0]; exact row?_alloc_at _ _ _ _ rfl
 have hs0 : W0.heap.size = w.heap.size + 1 := by rw [hW0]; simp
 rw [← hW0] at hb0
 have HWalk := Lib.hid (ewalk_any o g bV bE G hG W0 (fun j => j = w.heap.size) v ((hv.rda.keep (A' := fun k => ¬ k = w.heap.size) hb0.size fun k hk hA => ⟨hb0.block k hk, by omega⟩)) (h.below hb0) hord hlt hnd hcl hlen (hT.below hb0 hgT) (by omega) (by omega)
   90 #[.pointer (some ⟨w.heap.size, 0, none⟩)] (fun args w => by simp [go_sem])
   (fun k Y W => ∃ v, row? W w.heap.size = some #[v] ∧ OwnS w.heap.size W v (stepsTo f0 o k) ∧ v.ownBlock ≠ some w.heap.size ∧ w.heap.size < W.heap.size ∧ k ≤ o.length ∧ ∀ j, Y j ↔ (j = w.heap.size ∨ v.ownBlock = some j))
   (fun k Y W W' ⟨v, h1, h2, h3, h4, h5, h6⟩ hs => ⟨v, (row?_congr (hs.block _ h4 ((h6 _).2 (.inl rfl)))).trans h1, h2.same fun j hj => hs.block j (h2.lt j hj) ((h6 j).2 (.inr hj)), h3, Nat.lt_of_lt_of_le h4 hs.size, h5, h6⟩)
   ⟨.slice none 0 0, hr0, OwnR.nil _ _, by simp [Value.ownBlock], by omega, by omega, fun j => by simp [Value.ownBlock]⟩ (fun j hj => by omega)
   (fun k x Y W vc hx ⟨v, h1, h2, h3, h4, h5, h6⟩ hsz => by
     have hk := (List.getElem?_eq_some_iff.1 hx).1
     refine (esteps1_any w.heap.size (k : Int) (x : Int) _ vc w.heap.size _ v W h1 h2 h3 (by rw [stepsTo_length]; omega) (by omega)).mono ?_
     rintro e W' ⟨rfl, v', g1, g2, g3, g4, g5⟩
     refine ⟨rfl, fun j => j = w.heap.size ∨ v'.ownBlock = some j, ⟨v', g1, ?_, g3, Nat.lt_of_lt_of_le h4 g5.size, by omega, fun j => Iff.rfl⟩, ?_, g5.mono fun j _ hn => ⟨fun e => hn ((h6 j).2 (.inl e)), fun e => hn ((h6 j).2 (.inr e))⟩⟩
     · rw [stepsTo_succ hx, hf0]
       rw [hf0] at g2
       exact g2
     · rintro j (rfl | hj)
       · exact ⟨.inl ((h6 _).2 (.inl rfl)), Nat.lt_of_lt_of_le h4 g5.size⟩
       · refine ⟨?_, g2.lt j hj⟩
         rcases g4 with e | ⟨i, e, hi⟩
         · exact .inl ((h6 j).2 (.inr (e ▸ hj)))
         · rw [e] at hj
           cases hj
           exact .inr hi))
 have HB0 := Lib.hid hb0
 rw [← hf0]
 obtain ⟨a, c, rfl, -⟩ := hv
 rw [List.length_map] at HWalk ⊢
 clear hb0 hT h hG
 go_enter Tryz.func38, Tryz.ntmps38
 go_wp2_with fail
 rw [← hW0]
 refine HWalk.out.mono ?_
 rintro e w1 ⟨rfl, Y, ⟨v, h1, h2, h3, h4, h5, h6⟩, h7, h8⟩
 have hB1 : Below w.heap.size w w1 := HB0.out.trans (h8.below (by omega) fun j hj => by omega)
 have c0 := cell?_row (i := 0) h1
 simp at c0
 have HO := Lib.hid h2
 have HB1 := Lib.hid hB1
 clear h1 h2 h3 h6 h7 h8 hB1 hW0 HWalk
 go_wp2_with fail
 go_ret2
 exact ⟨v, rfl, HO.out, HB1.out⟩
end Go.Proofs.YteiibpfabgfolaaGreatDoor
namespace Go.Pal
open Go Go.RowKit
section
variable {α : Type} {P : Program} {e : TypeId} {k : Nat} {enc : α → Array Value}
theorem run_makeO (E : ElT P e k enc) (st : TypeId) (hst : P.underlying st = some (.slice e)) (m : Nat) (hm : m ≤ 1000000) (w : World) :
   (Instr.makeSlice st (.int .i64 0) (.int .i64 (m : Int))).run P w = .ok (.slice (some ⟨w.heap.size, 0, none⟩) 0 m) (w.alloc (.cells (madeCells E.zero.cells (m * k)) e)) := by
 obtain ⟨i0, hi, hz0, hz1, hz2⟩ := info_parts E.info
 have hby : ((E.bytes : Int)) * (m : Int) ≤ 281474976710656 := by
   have h2 : E.bytes * m ≤ 10000 * 1000000 := Nat.mul_le_mul E.small hm
   have h3 : ((E.bytes * m : Nat) : Int) ≤ 10000 * 1000000 := by omega
   rw [Int.natCast_mul] at h3
   omega
 have h := run_make (P := P) w st e i0 E.zero hst hi hz0 .i64 .i64 0 (m : Int) (by omega) (by omega) (by rw [hz2]; exact hby) (by omega)
 simp only [Int.toNat_natCast, Int.toNat_zero, hz1] at h
 exact h
theorem ownR_made (E : ElT P e k enc) (m : Nat) (hm : m ≤ 1000000) (B : Nat) (w : World) (hB : B ≤ w.heap.size) : OwnR e k enc B (w.alloc (.cells (madeCells E.zero.cells (m * k)) e)) (.slice (some ⟨w.heap.size, 0, none⟩) 0 m) [] := by
 refine ⟨by simp [encC], .inr ⟨w.heap.size, m, _, rfl, hB, World.alloc_heap_new _ _, Nat.zero_le _, by unfold maxLen; omega, size_madeCells _ _, by simp [encC]⟩⟩
end
end Go.Pal
namespace Go.Proofs.YteiibpfabgfolaaGreatDoor
open Go Go.RowKit Go.Pal
theorem qbuildB0 (a : Int) (p0 p1 p2 p3 p4 p5 p6 p7 p8 p9 p10 p11 p12 p13 p14 p15 : Int) (w : World) : (Instr.build 53 #[(0, .int .i64 a), (1, .agg #[.int .u64 p0, .int .u64 p1, .int .u64 p2, .int .u64 p3, .int .u64 p4, .int .u64 p5, .int .u64 p6, .int .u64 p7, .int .u64 p8, .int .u64 p9, .int .u64 p10, .int .u64 p11, .int .u64 p12, .int .u64 p13, .int .u64 p14, .int .u64 p15])]).run Tryz.prog w = .ok (.agg #[.int .i64 a, .int .u64 p0, .int .u64 p1, .int .u64 p2, .int .u64 p3, .int .u64 p4, .int .u64 p5, .int .u64 p6, .int .u64 p7, .int .u64 p8, .int .u64 p9, .int .u64 p10, .int .u64 p11, .int .u64 p12, .int .u64 p13, .int .u64 p14, .int .u64 p15]) w := by kernel_rfl
@[go_sem ↓ high] theorem qbuild_Bag (a : Int) (S : Nat) (w : World) : (Instr.build 53 #[(0, .int .i64 a), (1, .agg (words S))]).run Tryz.prog w = .ok (.agg (bagA (a, S))) w := by
 rw [stepA_lit, wordsLit]
 exact qbuildB0 _ _ _ _ _ _ _ _ _ _ _ _ _ _ _ _ _ _
theorem qbuildB1 (a : Int) (w : World) : (Instr.build 53 #[(0, .int .i64 a)]).run Tryz.prog w = .ok (.agg (bagA (a, 0))) w := by kernel_rfl
theorem qbuildBs1 (a : Int) (p0 p1 p2 p3 p4 p5 p6 p7 p8 p9 p10 p11 p12 p13 p14 p15 : Int) (w : World) : (Instr.buildSlice 23 1 #[(0, .agg #[.int .i64 a, .int .u64 p0, .int .u64 p1, .int .u64 p2, .int .u64 p3, .int .u64 p4, .int .u64 p5, .int .u64 p6, .int .u64 p7, .int .u64 p8, .int .u64 p9, .int .u64 p10, .int .u64 p11, .int .u64 p12, .int .u64 p13, .int .u64 p14, .int .u64 p15])]).run Tryz.prog w = .ok (.slice (some ⟨w.heap.size, 0, none⟩) 1 1) (w.alloc (.cells #[.int .i64 a, .int .u64 p0, .int .u64 p1, .int .u64 p2, .int .u64 p3, .int .u64 p4, .int .u64 p5, .int .u64 p6, .int .u64 p7, .int .u64 p8, .int .u64 p9, .int .u64 p10, .int .u64 p11, .int .u64 p12, .int .u64 p13, .int .u64 p14, .int .u64 p15] 53)) := by kernel_rfl
theorem qbuild_Bags1 (a : Int) (S : Nat) (w : World) : (Instr.buildSlice 23 1 #[(0, .agg (bagA (a, S)))]).run Tryz.prog w = .ok (.slice (some ⟨w.heap.size, 0, none⟩) 1 1) (w.alloc (.cells (bagA (a, S)) 53)) := by
 rw [stepA_lit]
 exact qbuildBs1 _ _ _ _ _ _ _ _ _ _ _ _ _ _ _ _ _ _
theorem qwpList_bBag {ops : Array Oper} {rest : List Oper} {o : Oper} {a : Act} {Q : Exit → Act → World → Prop} {w : World} (hg : o.guard = none) (x0 x1 : Operand) (ho : o.op = .build 53 #[(0, x0), (1, x1)])
   (p : Int) (S : Nat) (h0 : a.eval x0 = .int .i64 p) (h1 : a.eval x1 = .agg (words S)) (h : wpList Tryz.prog ops Q rest (a.put o.dst (.agg (bagA (p, S)))) w) : wpList Tryz.prog ops Q (o :: rest) a w := by
 refine wpList_plain hg fun K hK => ?_
 unfold Oper.wp execOp
 simp only [ho, List.map_toArray, List.map_cons, List.map_nil, h0, h1, Sem.run_bind, qbuild_Bag, Result.andThen_ok]
 exact hK _ _ h
theorem qwpList_bBag1 {ops : Array Oper} {rest : List Oper} {o : Oper} {a : Act} {Q : Exit → Act → World → Prop} {w : World} (hg : o.guard = none) (x0 : Operand) (ho : o.op = .build 53 #[(0, x0)])
   (p : Int) (h0 : a.eval x0 = .int .i64 p) (h : wpList Tryz.prog ops Q rest (a.put o.dst (.agg (bagA (p, 0)))) w) : wpList Tryz.prog ops Q (o :: rest) a w := by
 refine wpList_plain hg fun K hK => ?_
 unfold Oper.wp execOp
 simp only [ho, List.map_toArray, List.map_cons, List.map_nil, h0, Sem.run_bind, qbuildB1, Result.andThen_ok]
 exact hK _ _ h
theorem qwpList_bBags1 {ops : Array Oper} {rest : List Oper} {o : Oper} {a : Act} {Q : Exit → Act → World → Prop} {w : World} (hg : o.guard = none) (x0 : Operand) (ho : o.op = .buildSlice 23 1 #[(0, x0)])
   (p : Int) (S : Nat) (h0 : a.eval x0 = .agg (bagA (p, S))) (h : wpList Tryz.prog ops Q rest (a.put o.dst (.slice (some ⟨w.heap.size, 0, none⟩) 1 1)) (w.alloc (.cells (bagA (p, S)) 53))) : wpList Tryz.prog ops Q (o :: rest) a w := by
 refine wpList_plain hg fun K hK => ?_
 unfold Oper.wp execOp
 simp only [ho, List.map_toArray, List.map_cons, List.map_nil, h0, Sem.run_bind, qbuild_Bags1, Result.andThen_ok]
 exact hK _ _ h
theorem qinfoBag : (Tryz.prog.info? 53).map (fun i => (i.zero, i.size, i.bytes)) = some (some (.agg (bagA (0, 0))), 17, 136) := by kernel_rfl
def elB : ElT Tryz.prog 53 17 bagA where
 bytes := 136
 zero := .agg (bagA (0, 0))
 info := qinfoBag
 zc := by simp [Value.cells, bagA_size]
 pos := by decide
 small := by decide
 size := bagA_size
 one x u hu := bagA_one x u hu
abbrev OwnT := OwnR 53 17 bagA
theorem step_load {T : List Bg} {b off B : Nat} {w w' : World} {i : Nat} {x : Bg} (hc : ∀ i x, T[i]? = some x → ∀ j u, (bagA x)[j]? = some u → w.cell? ⟨b, off + i * 17 + j, none⟩ = some u) (hb : w'.heap[b]? = w.heap[b]?) (hx : T[i]? = some x) :
   rowLoad Tryz.prog 97 ⟨b, off + i * 17, none⟩ w' = .ok (.agg (bagA x)) w' :=
 load_cells Tryz.isAgg97 Tryz.sizeOf97 w' b _ (bagA x) (bagA_size x) fun j u hu => (World.cell?_of_block hb).trans (hc i x hx j u hu)
theorem bagA_set0 (p q : Int) (S : Nat) : (bagA (p, S)).setIfInBounds 0 (.int .i64 q) = bagA (q, S) := by
 rw [stepA_lit, stepA_lit]
 simp
end Go.Proofs.YteiibpfabgfolaaGreatDoor
namespace Go.Pal
open Go
def mpP (o : List Nat) (k : Nat) : List (Int × Int) := (List.range k).map fun i => (((o.getD i 0 : Nat) : Int), (i : Int))
theorem mpP_succ {o : List Nat} {k x : Nat} (h : o[k]? = some x) : mpP o (k + 1) = mpP o k ++ [((x : Int), (k : Int))] := by
 unfold mpP
 rw [List.range_succ, List.map_append, List.map_singleton]
 have : o.getD k 0 = x := by rw [List.getD_eq_getElem?_getD, h]; rfl
 rw [this]
theorem mpP_length (o : List Nat) (k : Nat) : (mpP o k).length = k := by simp [mpP]
theorem getD_of {o : List Nat} {i : Nat} (h : i < o.length) : o[i]? = some (o.getD i 0) := by
 rw [List.getD_eq_getElem?_getD, List.getElem?_eq_getElem h]
 rfl
theorem mpP_snoc {o : List Nat} {k x : Nat} (hn : o.Nodup) (h : o[k]? = some x) : (((x : Int), (k : Int)) :: del (x : Int) (mpP o k)).Perm (mpP o (k + 1)) := by
 have hk := (List.getElem?_eq_some_iff.1 h).1
 rw [del_all fun p hp e => ?_, mpP_succ h]
 · exact List.perm_append_comm (l₁ := [((x : Int), (k : Int))])
 · unfold mpP at hp
   obtain ⟨i, hi, rfl⟩ := List.mem_map.1 hp
   rw [List.mem_range] at hi
   simp only at e
   have h1 := getD_of (o := o) (i := i) (by omega)
   have h2 : o.getD i 0 = x := by omega
   rw [h2] at h1
   obtain ⟨h3, h4⟩ := List.getElem?_eq_some_iff.1 h1
   obtain ⟨h5, h6⟩ := List.getElem?_eq_some_iff.1 h
   exact List.pairwise_iff_getElem.1 hn i k h3 h5 hi (h4.trans h6.symm)
theorem mpP_nodup {o : List Nat} (hn : o.Nodup) : NoDup (mpP o o.length) := by
 unfold mpP NoDup
 rw [List.pairwise_map]
 refine (List.pairwise_lt_range (n := o.length)).imp_of_mem fun {i j} hi hj hij e => ?_
 rw [List.mem_range] at hi hj
 simp only at e
 have h1 := getD_of (o := o) (i := i) (by omega)
 have h2 := getD_of (o := o) (i := j) (by omega)
 have h3 : o.getD i 0 = o.getD j 0 := by omega
 rw [h3] at h1
 obtain ⟨h5, h6⟩ := List.getElem?_eq_some_iff.1 h1
 obtain ⟨h7, h8⟩ := List.getElem?_eq_some_iff.1 h2
 exact List.pairwise_iff_getElem.1 hn i j h5 h7 hij (h6.trans h8.symm)
theorem look_mpP {o : List Nat} (hn : o.Nodup) {u : Nat} (h : u ∈ o) : look (mpP o o.length) (u : Int) = some ((o.idxOf u : Nat) : Int) := by
 rw [look_mem (mpP_nodup hn)]
 unfold mpP
 refine List.mem_map.2 ⟨o.idxOf u, List.mem_range.2 (List.idxOf_lt_length_of_mem h), ?_⟩
 have h1 := getD_of (o := o) (i := o.idxOf u) (List.idxOf_lt_length_of_mem h)
 obtain ⟨h2, h3⟩ := List.getElem?_eq_some_iff.1 h1
 rw [List.getElem_idxOf] at h3
 rw [← h3]
def parTo (o : List Nat) (p : Int) (l : List Nat) : Int := l.foldl (fun p u => min p ((o.idxOf u : Nat) : Int)) p
theorem parTo_snoc (o : List Nat) (p : Int) (l : List Nat) (u : Nat) : parTo o p (l ++ [u]) = min (parTo o p l) ((o.idxOf u : Nat) : Int) := by
 unfold parTo
 rw [List.foldl_append]
 rfl
def foBag (f : Nat → Nat) (o : List Nat) (i : Nat) : Bg := (if i + 1 = o.length then -1 else parTo o ((o.length : Int) - 1) (elems (gameAt f o i (o.getD i 0))), sIns (gameAt f o i (o.getD i 0)) (o.getD i 0))
def foTo (f : Nat → Nat) (o : List Nat) (k : Nat) : List Bg := (List.range k).map (foBag f o)
theorem foTo_succ (f : Nat → Nat) (o : List Nat) (k : Nat) : foTo f o (k + 1) = foTo f o k ++ [foBag f o k] := by
 unfold foTo
 rw [List.range_succ, List.map_append, List.map_singleton]
theorem foTo_length (f : Nat → Nat) (o : List Nat) (k : Nat) : (foTo f o k).length = k := by simp [foTo]
def foTree (f : Nat → Nat) (o : List Nat) : List Bg := if o.length = 0 then [(-1, 0)] else foTo f o o.length
theorem Marks.get {B : Nat} : ∀ {ds : List Deferred} {w : World}, Marks B ds w → ∀ D, ({ target := .collected D, args := #[] } : Deferred) ∈ ds → w.heap[D]? = some (.deferred (some []))
 | d :: ds, w, h, D, hD => by
   obtain ⟨⟨D', rfl, _, hk, _⟩, h2⟩ := h
   rcases List.mem_cons.1 hD with e | e
   · cases e
     exact hk
   · exact h2.get D e
theorem Marks.apart {α : Type} {e : TypeId} {k : Nat} {enc : α → Array Value} {B B' : Nat} {ds : List Deferred} {w : World} {v : Value} {l : List α} (h : Marks B ds w) (hO : OwnR e k enc B' w v l) {D : Nat} (hD : ({ target := .collected D, args := #[] } : Deferred) ∈ ds) : v.ownBlock ≠ some D := by
 intro he
 rcases hO.2 with ⟨rfl, _⟩ | ⟨g', cap, cur, rfl, _, hgh, _⟩
 · cases he
 · simp only [Value.ownBlock, Option.some.injEq] at he
   subst he
   rw [h.get _ hD] at hgh
   cases hgh
end Go.Pal
namespace Go.Proofs.YteiibpfabgfolaaGreatDoor
open Go Go.RowKit Go.Pal
attribute [local go_sem] Oper.semAt_some
theorem loadBag_at (w : World) (g : Nat) : rowLoad Tryz.prog 53 ⟨g, 0, none⟩ w = match row? w g with
     | some c => if c.size = 17 then .ok (.agg c) w else laterLoad Tryz.prog 53 ⟨g, 0, none⟩ w
     | none => laterLoad Tryz.prog 53 ⟨g, 0, none⟩ w := load_row Tryz.isAgg53 Tryz.sizeOf53 w g
attribute [local go_sem] loadBag_at
def CP : Cod Int Int := { key := fun n => .int .i64 n, kl := fun n => .int .i64 n, ok := InI, val := fun n => .int .i64 n, dat := fun n => .lit (.int .i64 n) }
theorem goodP : CP.Good Tryz.prog 3 where
 keyed := Maps.int_keyed Tryz.underlying3
 kinj x y _ _ h := by simpa [CP] using h
 isk x _ := trivial
 keyOf x hx := Maps.keyOf_int_mk Tryz.underlying3 (wf_i64 hx)
 vinj a b h := by simpa [CP] using h
 dinj a b h := by simpa [CP] using h
theorem zeroInt (w : World) : (zeroValue 3).run Tryz.prog w = .ok (.int .i64 0) w := by kernel_rfl
theorem fromOrder_any (o : List Nat) (g bV bE : Nat) (G : Gr) (hG : G.Ok) (w : World) (v : Value) (hv : RdL w v (o.map fun i : Nat => (i : Int))) (h : GOk w g bV bE G)
   (hord : G.ordE (o.map fun i : Nat => (i : Int)) = 0) (hlt : ∀ x ∈ o, x < 1024) (hnd : o.Nodup) (hcl : Closed (fun x => G.near (x : Int)) o) (hlen : o.length ≤ 1024)
   (hT : TabOk w) (hgT : 1 < w.heap.size) :
   Calls Tryz.prog 15 #[.pointer (some ⟨g, 0, none⟩), v] w fun e w' => ∃ vs, e = .returned (.tuple #[vs, .int .i64 0]) ∧ OwnT w.heap.size w' vs (foTree (fun x => G.near (x : Int)) o) ∧ Below w.heap.size w w' := by
 have HS := Lib.hid (esteps_any o g bV bE G hG w v hv h hord hlt hnd hcl hlen hT hgT)
 obtain ⟨f0, hf0⟩ : ∃ f0 : Nat → Nat, f0 = fun x : Nat => G.near (x : Int) := ⟨_, rfl⟩
 rw [← hf0] at hcl HS ⊢
 have hfs : ∀ u, IsSet (f0 u) := by rw [hf0]; exact fun u => hG.isSet_near _
 have HFS := Lib.hid hfs
 have HCL := Lib.hid hcl
 have HND := Lib.hid hnd
 have HLT := Lib.hid hlt
 have HTab := Lib.hid hT
 have hmm := @run_makeMap Tryz.prog
 obtain ⟨a, c, rfl, -⟩ := hv
 rw [List.length_map] at HS ⊢
 clear hG h hcl hnd hT hlt hf0 hfs hord
 refine calls_of_wp_marks Tryz.func15 rfl ?_
 simp only [Tryz.ntmps15, List.size_toArray, List.length_cons, List.length_nil, Nat.reduceAdd, Nat.reduceSub, Array.replicate_succ, Array.replicate_zero, List.push_toArray, List.append_toArray, List.nil_append, List.cons_append]
 go_wp2_with fail
 refine HS.out.mono ?_
 rintro e w1 ⟨vs, rfl, hO, hb1⟩
 have hs1 := hb1.size
 have HB1 := Lib.hid hb1
 have HOb := Lib.hid hO
 have hrd := hO.rd elS
 obtain ⟨qs, cs, rfl, hrd⟩ := hrd
 rw [stepsTo_length]
 clear HS
 by_cases hn0 : o.length = 0
 · have hn1 : ((o.length : Int) == 0) = true := by simp [hn0]
   have hn2 : (o.length == 0) = true := by simp [hn0]
   have HN0 := Lib.hid hn0
   clear hO hb1 hrd
   go_wp2_with (first | (refine qwpList_bBag1 rfl _ rfl (-1) rfl ?_) | (refine qwpList_bBags1 rfl _ rfl (-1) 0 rfl ?_))
   refine ⟨.tuple #[.slice (some ⟨w1.heap.size, 0, none⟩) 1 1, .int .i64 0], by simp [results, Tryz.results15, go_sem], _, rfl, ?_, HB1.out.alloc hs1 _⟩
   unfold foTree
   rw [if_pos HN0.out]
   exact ⟨by simp [encC, bagA_size], .inr ⟨w1.heap.size, 1, bagA (-1, 0), rfl, hs1, World.alloc_heap_new _ _, Nat.le_refl _, by decide, by rw [bagA_size], by rw [List.take_of_length_le (by simp [bagA_size])]; simp [encC]⟩⟩
 · have hn1 : ((o.length : Int) == 0) = false := by simpa using hn0
   have hn2 : (o.length == 0) = false := by simpa using hn0
   have hrd2 := hrd.resolve_left (by intro e; have := congrArg List.length e; rw [stepsTo_length, List.length_nil] at this; exact hn0 this)
   obtain ⟨b, off, rfl, hbl, hc⟩ := hrd2
   have HC := Lib.hid hc
   clear hO hb1 hrd hc
   go_wp2_with fail
   obtain ⟨bP, hbP⟩ : ∃ bP, bP = w1.heap.size := ⟨_, rfl⟩
   generalize hW2 : World.alloc (World.alloc w1 _) _ = W2
   have hs2 : W2.heap.size = w1.heap.size + 2 := by rw [← hW2]; simp
   have hB12 : Below w1.heap.size w1 W2 := by
     rw [← hW2]
     exact ((Below.refl _ w1).alloc (Nat.le_refl _) _).alloc (by simp) _
   have hN2 : Pal.Own CP Tryz.prog 3 W2 bP (mpP o 0) := by
     rw [← hW2, hbP]
     exact (Pal.Own.made w1).below (((Below.refl (w1.heap.size + 1) _).alloc (by simp) _)) (by omega)
   have hr2 : row? W2 (bP + 1) = some #[.map (some bP)] := by rw [← hW2, hbP]; exact row?_alloc_at _ _ _ _ (by simp)
   rw [← hbP] at hs1 hs2 hbl hB12 ⊢
   have hc2 : ∀ W', Same (fun j => j < bP) W2 W' → ∀ k x, (stepsTo f0 o o.length)[k]? = some x → rowLoad Tryz.prog 97 ⟨b, off + k * 17, none⟩ W' = .ok (.agg (bagA x)) W' := fun W' hs k x hx => step_load (B := 0) HC.out ((hs.block b (by omega) hbl).trans (hB12.block b hbl)) hx
   have HC2 := Lib.hid hc2
   have HB12 := Lib.hid hB12
   have HN2 := Lib.hid hN2
   have HR2 := Lib.hid hr2
   clear hW2 hB12 hN2 hr2 hbP hmm hc2
   go_loopw [34] (fun i wr => ∃ k : Nat, k ≤ o.length ∧ i = .int .i64 (k : Int) ∧ Pal.Own CP Tryz.prog 3 wr bP (mpP o k) ∧ Same (fun j => j ≠ bP) W2 wr) (fun i _ => o.length - (intOf i).toNat)
   case atStart => exact ⟨0, by omega, rfl, HN2.out, Same.refl _ _⟩
   case round =>
     obtain ⟨k, hk, rfl, hN, hS⟩ := hrel
     have hsz := hS.size
     have hr8 := (row?_congr (hS.block (bP + 1) (by omega) (by omega))).trans HR2.out
     by_cases hltk : k < o.length
     · obtain ⟨x, hx⟩ : ∃ x, o[k]? = some x := ⟨_, List.getElem?_eq_getElem hltk⟩
       have hld := HC2.out wr (hS.mono fun j _ h => by omega) k _ (stepsTo_get hltk hx)
       obtain ⟨N, hN0⟩ : ∃ N, N = gameAt f0 o k x := ⟨_, rfl⟩
       rw [← hN0] at hld
       have hld2 : ∀ o', rowLoad Tryz.prog 97 ⟨b, off + k * 17, none⟩ (wr.alloc o') = .ok (.agg (bagA ((x : Int), N))) (wr.alloc o') := fun o' => by
         have := HC2.out (wr.alloc o') ((hS.mono fun j _ h => by omega).trans (Same.alloc _ _ _)) k _ (stepsTo_get hltk hx)
         rw [← hN0] at this
         exact this
       have hl8 := row?_lt hr8
       have c8 := fun o' : Obj => (cell?_row (i := 0) ((row?_alloc_past wr o' _ hl8).trans hr8)).trans rfl
       have HX := Lib.hid hx
       have HN := Lib.hid hN
       have HS := Lib.hid hS
       clear hx hN hS hr8 hN0
       go_wp2_with (at_mapUpdate; refine wpList_putOwn rfl _ _ _ _ rfl goodP Tryz.underlying95 bP _ (mpP o (k + 1)) rfl (HN.out.below ((Below.refl wr.heap.size wr).alloc (Nat.le_refl _) _) HN.out.lt) (x : Int) (k : Int) rfl rfl (by have := HLT.out x (List.mem_of_getElem? HX.out); show InI _; unfold InI; omega) (mpP_snoc HND.out HX.out) (by rw [mpP_length]; omega) ?_)
       intro w3 hown hgr hsz3
       have HS3 := Lib.hid (HS.out.trans ((Same.alloc (fun j => j ≠ bP) _ _).trans ((same_grown hgr).mono fun j _ hj => by simpa using hj)))
       have HN3 := Lib.hid hown
       clear hgr hown
       go_wp2_with fail
       go_roundw
       case rel => exact ⟨k + 1, by omega, by go_num, HN3.out, HS3.out⟩
       case measure => simp [intOf]; omega
     · have hkn : k = o.length := by omega
       subst hkn
       have HN := Lib.hid hN
       have HS := Lib.hid hS
       have HR8 := Lib.hid hr8
       clear hN hS hr8 hk hltk
       obtain ⟨cellsB, hcB⟩ : ∃ cs, cs = madeCells elB.zero.cells (o.length * 17) := ⟨_, rfl⟩
       have hmk := run_makeO elB 23 Tryz.underlying23 o.length (by omega)
       rw [← hcB] at hmk
       have HCB := Lib.hid hcB
       clear hcB
       have hsz := HS.out.size
       go_wp2_with fail
       obtain ⟨W3, hW3⟩ : ∃ W3, W3 = World.alloc wr (.cells cellsB 53) := ⟨_, rfl⟩
       obtain ⟨q0, hq0⟩ : ∃ q0, q0 = wr.heap.size := ⟨_, rfl⟩
       have hO3 : OwnT (bP + 2) W3 (.slice (some ⟨q0, 0, none⟩) 0 o.length) (foTo f0 o 0) := by
         rw [hq0, hW3, HCB.out]
         have := ownR_made elB o.length (by omega) (bP + 2) wr (by omega)
         simpa [foTo] using this
       have hs3 : W3.heap.size = wr.heap.size + 1 := by rw [hW3]; simp
       have hB3 : Below wr.heap.size wr W3 := by rw [hW3]; exact (Below.refl _ wr).alloc (Nat.le_refl _) _
       rw [← hW3, ← hq0]
       have hQ0 := Lib.hid hq0
       clear hq0
       have hbb : ∀ k x : Nat, o[k]? = some x → ∀ W, Below (bP + 2) W3 W → rowLoad Tryz.prog 97 ⟨b, off + k * 17, none⟩ W = .ok (.agg (bagA ((x : Int), gameAt f0 o k x))) W := fun k x hx W hb => HC2.out W ((HS.out.mono fun j hj h => by omega).trans (((Same.of_below hB3).mono fun j hj h => by omega).trans ((Same.of_below hb).mono fun j hj h => by omega))) k _ (stepsTo_get (List.getElem?_eq_some_iff.1 hx).1 hx)
       have hN3 := HN.out.below hB3 HN.out.lt
       have hr83 := (row?_below hB3 (row?_lt HR8.out)).trans HR8.out
       have hT3 : TabOk W3 := HTab.out.same ((HB1.out.trans (HB12.out.mono hs1)).trans (HS.out.below (by omega) fun j hj => by omega) |>.trans (hB3.mono (by omega)) |>.block _ hgT)
       have hBw : Below w.heap.size w W3 := (HB1.out.trans (HB12.out.mono hs1)).trans (HS.out.below (by omega) fun j hj => by omega) |>.trans (hB3.mono (by omega))
       have HO3 := Lib.hid hO3
       have HBB := Lib.hid hbb
       have HN3 := Lib.hid hN3
       have HR83 := Lib.hid hr83
       have HT3 := Lib.hid hT3
       have HBw := Lib.hid hBw
       clear hmk HCB hW3 hB3 hbb hN3 hr83 hT3 hBw hO3 HC2 HB12 HN2 HR2 HC HS HN HR8
       refine wp_loop (fun a' W => ∃ (ds : List Deferred) (k : Nat) (v12 v13 v14 v15 v53 v54 v55 v56 v57 v58 v59 v60 v61 v62 v63 v64 v65 v66 v75 v76 v77 v78 v79 v80 v81 v82 v83 : Value), a' = ⟨#[.pointer (some ⟨g, 0, none⟩), .slice a o.length c, undef, undef, .slice none 0 0, .int .i64 0, .slice (some { block := b, off := off }) o.length cs, .int .i64 0, .pointer (some ⟨bP + 1, 0, none⟩), u9, u10, .int .i64 ((o.length : Int) - 1), v12, v13, v14, v15, undef, .tuple #[.slice (some { block := b, off := off }) o.length cs, .int .i64 0], .pointer (some ⟨g, 0, none⟩), .slice a o.length c, .tuple #[.slice (some { block := b, off := off }) o.length cs, .int .i64 0], .slice (some { block := b, off := off }) o.length cs, .int .i64 0, .int .i64 0, .bool false, undef, .slice (some { block := b, off := off }) o.length cs, .int .i64 (o.length : Int), .bool false, undef, undef, .map (some bP), .slice (some { block := b, off := off }) o.length cs, .int .i64 (o.length : Int), .int .i64 (o.length : Int), .bool false, u36, u37, u38, u39, u40, u41, u42, u43, .slice (some { block := b, off := off }) o.length cs, .int .i64 (o.length : Int), .int .i64 ((o.length : Int) - 1), .slice (some { block := b, off := off }) o.length cs, .int .i64 (o.length : Int), .slice (some ⟨q0, 0, none⟩) 0 o.length, .slice (some { block := b, off := off }) o.length cs, .int .i64 (o.length : Int), .int .i64 ((k : Nat) : Int), v53, v54, v55, v56, v57, v58, v59, v60, v61, v62, v63, v64, v65, v66, undef, undef, undef, undef, undef, undef, undef, undef, v75, v76, v77, v78, v79, v80, v81, v82, v83, undef], ds⟩ ∧ k ≤ o.length ∧ OwnT (bP + 2) W v12 (foTo f0 o k) ∧ Below (bP + 2) W3 W ∧ Marks (bP + 2) ds W) (fun a' _ => o.length - (intOf (a'.tmps.getD 52 undef)).toNat) ?start ?round2
       case start => exact ⟨[], 0, _, _, _, _, _, _, _, _, _, _, _, _, _, _, _, _, _, _, _, _, _, _, _, _, _, _, _, rfl, by omega, HO3.out, Below.refl _ _, trivial⟩
       case round2 =>
         rintro a' W ⟨ds, k, v12, v13, v14, v15, v53, v54, v55, v56, v57, v58, v59, v60, v61, v62, v63, v64, v65, v66, v75, v76, v77, v78, v79, v80, v81, v82, v83, rfl, hk, hO, hB, hM⟩
         have hszW := hB.size
         by_cases hltk : k < o.length
         · obtain ⟨x, hx⟩ : ∃ x, o[k]? = some x := ⟨_, List.getElem?_eq_getElem hltk⟩
           have hxm := List.mem_of_getElem? hx
           have hx1 := HLT.out x hxm
           have hfs : IsSet (gameAt f0 o k x) := isSet_gameAt HFS.out o k x
           have hfc : ∀ u, (gameAt f0 o k x).testBit u = true → u ∈ o := closed_gameAt HCL.out k hk x hxm
           have hld := fun o' => HBB.out k x hx (W.alloc o') (hB.alloc (by omega) o')
           have hld0 := HBB.out k x hx W hB
           obtain ⟨N, hN⟩ : ∃ N, N = gameAt f0 o k x := ⟨_, rfl⟩
           rw [← hN] at hfs hfc hld hld0
           have HX := Lib.hid hx
           have HO := Lib.hid hO
           have HB := Lib.hid hB
           have HM := Lib.hid hM
           have HN := Lib.hid hN
           clear hx hO hB hM hN
           go_wp2_with fail
           refine (with_in N x _ hx1).mono ?_
           rintro e w5 ⟨rfl, hb5⟩
           have hs5 := hb5.size
           simp at hs5
           have hB5 : Below W.heap.size W w5 := ((Below.refl _ W).alloc (Nat.le_refl _) _).trans (hb5.mono (by simp))
           have h14 : row? w5 W.heap.size = some (bagA ((x : Int), N)) := (row?_below hb5 (by simp)).trans (row?_alloc_at _ _ _ _ rfl)
           have h14' := fun o' : Obj => (row?_alloc_past w5 o' _ (by omega)).trans h14
           have HB5 := Lib.hid hB5
           have H14 := Lib.hid h14
           clear hb5 hB5 h14 hld hld0
           go_wp2_with (refine qwpList_bBag rfl _ _ rfl ((o.length : Int) - 1) (sIns N x) rfl rfl ?_)
           refine (all_any N _).mono ?_
           rintro e w7 ⟨rfl, hw7⟩
           have hs7 : w7.heap.size = w5.heap.size + 2 := by rw [← hw7]; simp
           have hB7 : Below w5.heap.size w5 w7 := by
             rw [← hw7]
             exact ((Below.refl _ w5).alloc (Nat.le_refl _) _).alloc (by simp) _
           have h15 : row? w7 w5.heap.size = some (bagA ((o.length : Int) - 1, sIns N x)) := by
             rw [← hw7, row?_alloc_past _ _ _ (by simp)]
             exact row?_alloc_at _ _ _ _ rfl
           have h7 : row? w7 (w5.heap.size + 1) = some (words N) := by
             rw [← hw7]
             exact row?_alloc_at _ _ _ _ (by simp)
           have hBW : Below W.heap.size W w7 := HB5.out.trans (hB7.mono (by omega))
           have hB37 : Below (bP + 2) W3 w7 := HB.out.trans (hBW.mono (by omega))
           have hN7 := HN3.out.below hB37 (by omega)
           have hT7 : TabOk w7 := HT3.out.same (hB37.block _ (by omega))
           have hr87 := (row?_below hB37 (by omega)).trans HR83.out
           have H15 := Lib.hid h15
           have H7 := Lib.hid h7
           have HBW := Lib.hid hBW
           have HN7 := Lib.hid hN7
           have HT7 := Lib.hid hT7
           have HR87 := Lib.hid hr87
           simp only [World.size_alloc]
           clear hw7 hB7 h15 h7 hBW hB37 hN7 hT7 hr87 h14'
           go_wp2_with fail
           refine (wpIn_wide (n := 0)).1 ?_
           refine wpIn_range_set 1 16 rfl (fun args w => by simp [go_sem]) (by omega) (enc := fun n : Nat => .int .i64 (n : Int)) (xs := elems N)
             (fun W' hW' _ => all1_iterates (w5.heap.size + 1) N hfs W' ((row?_below hW' (by omega)).trans H7.out) (HT7.out.below hW' (by omega)) (by have := hW'.size; omega))
             (fun M pre Wc => row? Wc w5.heap.size = some (bagA (parTo o ((o.length : Int) - 1) pre, sIns N x)) ∧ Same (fun j => j < w7.heap.size ∧ j ≠ w5.heap.size) w7 Wc) ?_ ?_ ?_ ?_ ?_
           · rintro M pre Wa Wb hM hMW ⟨hNa, hS⟩ hsame
             exact ⟨(row?_congr (hsame.block _ (row?_lt hNa) (.inl (by omega)))).trans hNa, hS.trans (hsame.mono fun j _ h => .inl h.1)⟩
           · intro M Wa _ _ hb
             exact ⟨(row?_below hb (by omega)).trans H15.out, (Same.of_below hb).mono fun j _ h => h.1⟩
           · intro l y Wa K hK
             gi_wp2
             exact hK
           · rintro l M pre u W8 hM1 hM2 ⟨hR8, hS8⟩ ⟨r, hr⟩
             have hum : u ∈ elems N := by rw [hr]; simp
             have huo : u ∈ o := hfc u ((mem_elems hfs).1 hum)
             have hu1 : u < 1024 := elems_lt hum
             have hs8 := hS8.size
             have hr88 := (row?_congr (hS8.block (bP + 1) (by omega) ⟨by omega, by omega⟩)).trans HR87.out
             have hlk := (HN7.out.congr (hS8.block bP (by omega) ⟨by omega, by omega⟩)).look goodP Tryz.underlying95 (b0 := 0) (fun w => zeroInt w) (x := (u : Int)) (by show InI _; unfold InI; omega)
             rw [look_mpP HND.out huo] at hlk
             simp only [CP, Option.getD_some] at hlk
             have c8 := (cell?_row (i := 0) hr88).trans rfl
             have c15 : W8.cell? ⟨w5.heap.size, 0, none⟩ = some (.int .i64 (parTo o ((o.length : Int) - 1) pre)) := (cell?_row (i := 0) hR8).trans (by rw [stepA_lit]; rfl)
             have f15 := frozen?_row (i := 0) hR8
             obtain ⟨pa, hpa⟩ : ∃ pa, pa = parTo o ((o.length : Int) - 1) pre := ⟨_, rfl⟩
             rw [← hpa] at c15 hR8
             have HPA := Lib.hid hpa
             have HR8 := Lib.hid hR8
             have HS8 := Lib.hid hS8
             have hl15 := row?_lt hR8
             clear hpa hR8
             clear hS8 hr88 hr hum huo
             gi_wp2_with fail
             exact ⟨⟨⟨_, HR8.out, by rw [bagA_set0, parTo_snoc, HPA.out]⟩, (HS8.out.trans (Same.setCell (fun j => j < w7.heap.size ∧ j ≠ w5.heap.size) W8 ⟨w5.heap.size, 0, none⟩ _ (by simp))).mono fun j _ h => ⟨by omega, h.2⟩⟩, Same.setCell _ _ _ _ (by show ¬ (w5.heap.size = 1 ∨ (w5.heap.size + 2 ≤ w5.heap.size ∧ w5.heap.size < M)); omega)⟩
           · rintro D M W8 hD1 hD2 hM8 ⟨hR8, hS8⟩ hK
             have hs8 := hS8.size
             have hBW8 : Below W.heap.size W W8 := HBW.out.trans (hS8.below (B := W.heap.size) (by omega) fun j hj => ⟨by omega, by omega⟩)
             have hO8 := HO.out.below hBW8 (Nat.le_refl _)
             have c15 : W8.cell? ⟨w5.heap.size, 0, none⟩ = some (.int .i64 (parTo o ((o.length : Int) - 1) (elems N))) := (cell?_row (i := 0) hR8).trans (by rw [stepA_lit]; rfl)
             have f15 := frozen?_row (i := 0) hR8
             obtain ⟨pa, hpa⟩ : ∃ pa, pa = parTo o ((o.length : Int) - 1) (elems N) := ⟨_, rfl⟩
             rw [← hpa] at c15 hR8
             have hM8' := HM.out.same ((Same.of_below hBW8).mono fun j hj (h : j < W.heap.size) => h) fun D' _ hd => HM.out.lt D' hd
             have hM9 := hM8'.cons (D := D) (by omega) hK fun hd => by have := HM.out.lt D hd; omega
             have HPA := Lib.hid hpa
             have HO8 := Lib.hid hO8
             have HM9 := Lib.hid hM9
             have HBW8 := Lib.hid hBW8
             obtain ⟨ao, co, rfl⟩ := hO8.sl
             have hl15 := row?_lt hR8
             have hR8' := (row?_setCell_same W8 w5.heap.size 0 (.int .i64 (-1))).trans (by rw [hR8, Option.map_some, bagA_set0])
             by_cases hlast : k + 1 = o.length
             · have HR8 := Lib.hid hR8'
               have hq : ((k : Int) == (o.length : Int) - 1) = true := by simp; omega
               have HB9 : Hid (Below W.heap.size W (W8.setCell ⟨w5.heap.size, 0, none⟩ (.int .i64 (-1)))) := Lib.hid (HBW8.out.setCell (p := ⟨w5.heap.size, 0, none⟩) (by show W.heap.size ≤ w5.heap.size; omega) _)
               have HO9 : Hid (OwnT (bP + 2) (W8.setCell ⟨w5.heap.size, 0, none⟩ (.int .i64 (-1))) (.slice ao (foTo f0 o k).length co) (foTo f0 o k)) := Lib.hid (HO8.out.same fun j hj => heap_setCell_other _ _ j _ (by have := HO.out.lt j hj; show j ≠ w5.heap.size; omega))
               have HM9' : Hid (Marks (bP + 2) ({ target := .collected D, args := #[] } :: ds) (W8.setCell ⟨w5.heap.size, 0, none⟩ (.int .i64 (-1)))) := Lib.hid (HM9.out.same (Same.setCell (fun j => j ≠ w5.heap.size) _ ⟨w5.heap.size, 0, none⟩ _ (by simp)) fun D' _ hd => by
                 rcases List.mem_cons.1 hd with e | e
                 · cases e; omega
                 · have := HM.out.lt D' e; omega)
               have hbg : foBag f0 o k = (-1, sIns N x) := by
                 have hgd : o.getD k 0 = x := by rw [List.getD_eq_getElem?_getD, HX.out]; rfl
                 unfold foBag
                 rw [if_pos hlast, hgd, ← HN.out]
               have HBG := Lib.hid hbg
               have hr9 := HR8.out
               clear hK hS8 hpa hR8 hR8' hO8 hM8' hM9 hBW8 hbg hfc hfs HBW8 HO8 HM9
               go_wp2_with (first | (refine qwpList_bBags1 rfl _ rfl (-1) (sIns N x) rfl ?_) | (at_builtin; refine wpList_appO elB 23 Tryz.underlying23 rfl _ _ rfl (bP + 2) _ (foTo f0 o k) rfl (HO9.out.alloc _) _ (-1, sIns N x) _ rfl (row?_alloc_at _ _ _ _ (by simp)) (by rw [foTo_length]; omega) (by simp; omega) ?_))
               intro v' w9 hO9 hb9 hg9 hl9
               have hszg := hg9.size
               simp at hszg
               rw [← HBG.out, ← foTo_succ] at hO9
               have hB' : Below (bP + 2) W3 w9 := (HB.out.trans (HB9.out.mono (by omega))).trans (((Below.refl _ _).alloc (by first | (simp; omega) | omega) _).trans hb9)
               have hM' : Marks (bP + 2) ({ target := .collected D, args := #[] } :: ds) w9 := HM9'.out.same (A := fun j => (Value.slice ao (foTo f0 o k).length co).ownBlock ≠ some j) ((Same.alloc _ _ _).trans ((same_grown hg9).mono fun j _ h e => h e.symm)) fun D' _ hd => HM9'.out.apart HO9.out hd
               have HO' := Lib.hid hO9
               have HB' := Lib.hid hB'
               have HM' := Lib.hid hM'
               clear hO9 hb9 hg9 hl9 hB' hM' hr9
               go_wp2_with fail
               exact ⟨⟨_, k + 1, _, _, _, _, _, _, _, _, _, _, _, _, _, _, _, _, _, _, _, _, _, _, _, _, _, _, _, rfl, by omega, HO'.out, HB'.out, HM'.out⟩, by simp [intOf]; omega⟩
             · have HR8 := Lib.hid hR8
               have hq : ((k : Int) == (o.length : Int) - 1) = false := by simp; omega
               have HB9 := Lib.hid hBW8
               have HO9 := Lib.hid hO8
               have HM9' := Lib.hid hM9
               have hbg : foBag f0 o k = (pa, sIns N x) := by
                 have hgd : o.getD k 0 = x := by rw [List.getD_eq_getElem?_getD, HX.out]; rfl
                 unfold foBag
                 rw [if_neg hlast, hgd, ← HN.out]
                 rw [HPA.out]
               have HBG := Lib.hid hbg
               have hr9 := HR8.out
               clear hK hS8 hpa hR8 hR8' hO8 hM8' hM9 hBW8 hbg hfc hfs HBW8 HO8 HM9
               go_wp2_with (first | (refine qwpList_bBags1 rfl _ rfl (pa) (sIns N x) rfl ?_) | (at_builtin; refine wpList_appO elB 23 Tryz.underlying23 rfl _ _ rfl (bP + 2) _ (foTo f0 o k) rfl (HO9.out.alloc _) _ (pa, sIns N x) _ rfl (row?_alloc_at _ _ _ _ (by simp)) (by rw [foTo_length]; omega) (by simp; omega) ?_))
               intro v' w9 hO9 hb9 hg9 hl9
               have hszg := hg9.size
               simp at hszg
               rw [← HBG.out, ← foTo_succ] at hO9
               have hB' : Below (bP + 2) W3 w9 := (HB.out.trans (HB9.out.mono (by omega))).trans (((Below.refl _ _).alloc (by first | (simp; omega) | omega) _).trans hb9)
               have hM' : Marks (bP + 2) ({ target := .collected D, args := #[] } :: ds) w9 := HM9'.out.same (A := fun j => (Value.slice ao (foTo f0 o k).length co).ownBlock ≠ some j) ((Same.alloc _ _ _).trans ((same_grown hg9).mono fun j _ h e => h e.symm)) fun D' _ hd => HM9'.out.apart HO9.out hd
               have HO' := Lib.hid hO9
               have HB' := Lib.hid hB'
               have HM' := Lib.hid hM'
               clear hO9 hb9 hg9 hl9 hB' hM' hr9
               go_wp2_with fail
               exact ⟨⟨_, k + 1, _, _, _, _, _, _, _, _, _, _, _, _, _, _, _, _, _, _, _, _, _, _, _, _, _, _, _, rfl, by omega, HO'.out, HB'.out, HM'.out⟩, by simp [intOf]; omega⟩
         · have hkn : k = o.length := by omega
           subst hkn
           obtain ⟨ao, co, rfl⟩ := hO.sl
           have HO := Lib.hid hO
           have HB := Lib.hid hB
           have HM := Lib.hid hM
           clear hO hB hM hltk
           go_wp2_with fail
           refine leaves_marks ds W HM.out fun w' hs' => ?_
           have hO' := HO.out.same (w' := w') fun j hj => hs'.block j (HO.out.lt j hj) fun hd => HM.out.apart HO.out hd hj
           refine ⟨.tuple #[.slice ao (foTo f0 o o.length).length co, .int .i64 0], by simp [results, Tryz.results15, go_sem], _, rfl, ?_, ?_⟩
           · unfold foTree
             rw [if_neg hn0]
             exact hO'.lower (by omega)
           · exact (HBw.out.trans (HB.out.mono (by omega))).trans (hs'.below (by omega) fun j hj hd => by have := HM.out.ge j hd; omega)
end Go.Proofs.YteiibpfabgfolaaGreatDoor
