/- Walks: graphio's id, label, weight; the reference's; a draft's vertex. -/
import Derived.Test.YtlmccbepllgbfaaGreatDoorDIe
import Derived.Test.YtlmccbepllgbfaaGreatDoorDIB
import Derived.Test.YtlmccbepllgbfaaGreatDoorDGrH
import Derived.Test.YtlmccbepllgbfaaGreatDoorDS3
set_option linter.all false
namespace Go.Pal
open Go Go.RowKit
theorem row_setCells (b : Nat) : ∀ (vs : List Value) (o : Nat) (w : World) (c : Array Value), row? w b = some c → o + vs.length ≤ c.size →
   ∃ c', row? (w.setCells b o vs) b = some c' ∧ c'.size = c.size ∧ ∀ i : Nat, c'[i]? = if o ≤ i ∧ i < o + vs.length then vs[i - o]? else c[i]?
 | [], o, w, c, h, _ => ⟨c, h, rfl, fun i => by rw [if_neg (by rw [List.length_nil]; omega)]⟩
 | v :: r, o, w, c, h, hl => by
   rw [List.length_cons] at hl
   have h1 : row? (w.setCell ⟨b, o, none⟩ v) b = some (c.setIfInBounds o v) := by rw [row?_setCell_same, h]; rfl
   obtain ⟨c', e1, e2, e3⟩ := row_setCells b r (o + 1) _ _ h1 (by rw [Array.size_setIfInBounds]; omega)
   refine ⟨c', e1, by rw [e2, Array.size_setIfInBounds], fun i => ?_⟩
   rw [e3, List.length_cons]
   by_cases hi : i = o
   · subst hi
     rw [if_neg (by omega), if_pos (by omega), Nat.sub_self, Array.getElem?_setIfInBounds_self_of_lt (by omega)]
     rfl
   · by_cases hin : o + 1 ≤ i ∧ i < o + 1 + r.length
     · rw [if_pos hin, if_pos (by omega), show i - o = (i - (o + 1)) + 1 by omega, List.getElem?_cons_succ]
     · rw [if_neg hin, if_neg (by omega), Array.getElem?_setIfInBounds_ne (by omega)]
theorem heap_setCells (b n : Nat) (h : ¬ n = b) : ∀ (vs : List Value) (o : Nat) (w : World), (w.setCells b o vs).heap[n]? = w.heap[n]?
 | [], _, _ => rfl
 | v :: r, o, w => (heap_setCells b n h r (o + 1) _).trans (heap_setCell_other w _ n v h)
theorem below_setCellsD {B b : Nat} {w : World} (hB : B ≤ b) : ∀ (vs : List Value) (o : Nat) (w' : World), Below B w w' → Below B w (w'.setCells b o vs)
 | [], _, _, h => h
 | v :: r, o, w', h => below_setCellsD hB r (o + 1) _ (h.setCell hB v)
theorem look_snoc {α β : Type} [DecidableEq α] (l : List (α × β)) (x : α) (t : β) (y : α) : (look (l ++ [(x, t)]) y).isSome = ((look l y).isSome || decide (x = y)) := by
 unfold look
 rw [Option.isSome_map, Option.isSome_map, List.find?_append]
 cases h : l.find? fun p => decide (p.1 = y) with
 | some p => simp
 | none => by_cases hx : x = y <;> simp [hx]
def dRow (x y : Value) (S : Nat) : Array Value := #[x, y] ++ words S
theorem dRow_size (x y : Value) (S : Nat) : (dRow x y S).size = 18 := by unfold dRow; rw [Array.size_append, words_size]; rfl
theorem dRow_0 (x y : Value) (S : Nat) : (dRow x y S)[0]? = some x := by unfold dRow; rw [Array.getElem?_append_left (by simp)]; rfl
theorem dRow_1 (x y : Value) (S : Nat) : (dRow x y S)[1]? = some y := by unfold dRow; rw [Array.getElem?_append_left (by simp)]; rfl
theorem dRow_w (x y : Value) (S i : Nat) : (dRow x y S)[2 + i]? = (words S)[i]? := by unfold dRow; rw [Array.getElem?_append_right (by simp)]; simp
theorem dRow_ext {c : Array Value} {x y : Value} {S : Nat} (h0 : c[0]? = some x) (h1 : c[1]? = some y) (h2 : ∀ i : Nat, c[2 + i]? = (words S)[i]?) : c = dRow x y S := by
 apply Array.ext_getElem?
 intro i
 match i with
 | 0 => rw [h0, dRow_0]
 | 1 => rw [h1, dRow_1]
 | i + 2 => rw [show i + 2 = 2 + i by omega, h2, dRow_w]
theorem dRow_set {w : World} {d : Nat} {x y : Value} {S : Nat} (h : row? w d = some (dRow x y S)) (S' : Nat) : row? (w.setCells d 2 (words S').toList) d = some (dRow x y S') := by
 obtain ⟨c', e1, e2, e3⟩ := row_setCells d (words S').toList 2 w _ h (by rw [Array.length_toList, words_size, dRow_size]; omega)
 rw [e1]
 refine congrArg some (dRow_ext (by rw [e3, if_neg (by omega), dRow_0]) (by rw [e3, if_neg (by omega), dRow_1]) fun i => ?_)
 rw [e3, Array.length_toList, words_size]
 by_cases hi : i < 16
 · rw [if_pos (by omega), show 2 + i - 2 = i by omega, Array.getElem?_toList]
 · rw [if_neg (by omega), Array.getElem?_eq_none (by rw [dRow_size]; omega), Array.getElem?_eq_none (by rw [words_size]; omega)]
theorem dRow_first {w : World} {d : Nat} {x y : Value} {S : Nat} (h : row? w d = some (dRow x y S)) (x' : Value) : row? (w.setCell ⟨d, 0, none⟩ x') d = some (dRow x' y S) := by
 rw [row?_setCell_same, h, Option.map_some]
 refine congrArg some (dRow_ext (Array.getElem?_setIfInBounds_self_of_lt (by rw [dRow_size]; omega)) (by rw [Array.getElem?_setIfInBounds_ne (by omega), dRow_1]) fun i => ?_)
 rw [Array.getElem?_setIfInBounds_ne (by omega), dRow_w]
theorem dRow_second {w : World} {d : Nat} {x y : Value} {S : Nat} (h : row? w d = some (dRow x y S)) (y' : Value) : row? (w.setCell ⟨d, 1, none⟩ y') d = some (dRow x y' S) := by
 rw [row?_setCell_same, h, Option.map_some]
 refine congrArg some (dRow_ext (by rw [Array.getElem?_setIfInBounds_ne (by omega), dRow_0]) (Array.getElem?_setIfInBounds_self_of_lt (by rw [dRow_size]; omega)) fun i => ?_)
 rw [Array.getElem?_setIfInBounds_ne (by omega), dRow_w]
end Go.Pal
namespace Go.Proofs.YtlmccbepllgbfaaGreatDoor
open Go Go.RowKit Go.Pal Go.Shelf
attribute [local go_sem] Oper.semAt_some
theorem fid_any (n : Int) (w : World) : Calls Tryz.prog 91 #[.int .i64 n] w fun e w' => e = .returned (.bool (idB n)) ∧ w' = w := by
 unfold idB
 go_enter Tryz.func91, Tryz.ntmps91
 by_cases h0 : 0 ≤ n
 · have d0 : decide (0 ≤ n) = true := decide_eq_true h0
   go_wp2_with fail
   go_ret
   exact ⟨by simp [h0], rfl⟩
 · have d0 : decide (0 ≤ n) = false := decide_eq_false h0
   go_wp2_with fail
   go_ret
   exact ⟨by simp [h0], rfl⟩
theorem flab_any (n : Int) (w : World) : Calls Tryz.prog 94 #[.int .i64 n] w fun e w' => e = .returned (.bool (labB n)) ∧ w' = w := by
 unfold labB
 go_enter Tryz.func94, Tryz.ntmps94
 by_cases h0 : 0 ≤ n
 · have d0 : decide (0 ≤ n) = true := decide_eq_true h0
   go_wp2_with fail
   go_ret
   exact ⟨by simp [h0], rfl⟩
 · have d0 : decide (0 ≤ n) = false := decide_eq_false h0
   go_wp2_with fail
   go_ret
   exact ⟨by simp [h0], rfl⟩
theorem fwt_any (n : Int) (w : World) : Calls Tryz.prog 96 #[.int .i64 n] w fun e w' => e = .returned (.bool (wtB n)) ∧ w' = w := by
 unfold wtB
 go_enter Tryz.func96, Tryz.ntmps96
 by_cases h0 : -1048576 ≤ n
 · have d0 : decide (-1048576 ≤ n) = true := decide_eq_true h0
   go_wp2_with fail
   go_ret
   exact ⟨by simp [h0], rfl⟩
 · have d0 : decide (-1048576 ≤ n) = false := decide_eq_false h0
   go_wp2_with fail
   go_ret
   exact ⟨by simp [h0], rfl⟩
theorem sid_any (n : Int) (w : World) : Calls Tryz.prog 98 #[.int .i64 n] w fun e w' => e = .returned (.bool (idB n)) ∧ w' = w := by
 unfold idB
 go_enter Tryz.func98, Tryz.ntmps98
 by_cases h0 : 0 ≤ n
 · have d0 : decide (0 ≤ n) = true := decide_eq_true h0
   go_wp2_with fail
   go_ret
   exact ⟨by simp [h0], rfl⟩
 · have d0 : decide (0 ≤ n) = false := decide_eq_false h0
   go_wp2_with fail
   go_ret
   exact ⟨by simp [h0], rfl⟩
theorem slab_any (n : Int) (w : World) : Calls Tryz.prog 99 #[.int .i64 n] w fun e w' => e = .returned (.bool (labB n)) ∧ w' = w := by
 unfold labB
 go_enter Tryz.func99, Tryz.ntmps99
 by_cases h0 : 0 ≤ n
 · have d0 : decide (0 ≤ n) = true := decide_eq_true h0
   go_wp2_with fail
   go_ret
   exact ⟨by simp [h0]; omega, rfl⟩
 · have d0 : decide (0 ≤ n) = false := decide_eq_false h0
   go_wp2_with fail
   go_ret
   exact ⟨by simp [h0], rfl⟩
theorem swt_any (n : Int) (w : World) : Calls Tryz.prog 100 #[.int .i64 n] w fun e w' => e = .returned (.bool (wtB n)) ∧ w' = w := by
 unfold wtB
 go_enter Tryz.func100, Tryz.ntmps100
 by_cases h0 : -1048576 ≤ n
 · have d0 : decide (-1048576 ≤ n) = true := decide_eq_true h0
   go_wp2_with fail
   go_ret
   exact ⟨by simp [h0], rfl⟩
 · have d0 : decide (-1048576 ≤ n) = false := decide_eq_false h0
   go_wp2_with fail
   go_ret
   exact ⟨by simp [h0], rfl⟩
theorem dRow_load {w : World} {d : Nat} {x y : Value} {S : Nat} (h : row? w d = some (dRow x y S)) : rowLoad Tryz.prog 80 ⟨d, 2, none⟩ w = .ok (.agg (words S)) w :=
 load_cells Tryz.isAgg80 Tryz.sizeOf80 w d _ (words S) (words_size _) fun j u hu => by rw [cell?_row h, dRow_w]; exact hu
theorem dRow_store {w : World} {d : Nat} {x y : Value} {S : Nat} (h : row? w d = some (dRow x y S)) (S' : Nat) : rowStore Tryz.prog 80 ⟨d, 2, none⟩ (.agg (words S')) w = .ok () (w.setCells d 2 (words S').toList) := by
 have hst := run_storeCells_cells (P := Tryz.prog) d 2 (words S').toList 0 w (fun j hj => by
   rw [Array.length_toList, words_size] at hj
   rw [cell?_row h, Nat.add_zero, dRow_w, words_get S hj]; rfl) (fun j hj => frozen?_row h) (fun v hv => words_one (by simpa using hv))
 simp only [Nat.add_zero] at hst
 unfold rowStore
 simp [storeVar, Sem.run_bind, Tryz.sizeOf80, Value.cells, words_size, hst]
@[go_sem ↓ high] theorem build_VX (a b c : Int) (w : World) : (Instr.build 117 #[(0, .int .i64 a), (1, .int .u8 b), (2, .int .i64 c)]).run Tryz.prog w = .ok (.agg #[.int .i64 a, .int .u8 b, .int .i64 c]) w := by kernel_rfl
@[go_sem ↓ high] theorem bs_VX (a b c : Int) (w : World) : (Instr.buildSlice 114 1 #[(0, .agg #[.int .i64 a, .int .u8 b, .int .i64 c])]).run Tryz.prog w = .ok (.slice (some ⟨w.heap.size, 0, none⟩) 1 1) (w.alloc (.cells #[.int .i64 a, .int .u8 b, .int .i64 c] 117)) := by kernel_rfl
@[go_sem ↓ high] theorem build_EX (a b c d : Int) (w : World) : (Instr.build 125 #[(0, .int .i64 a), (1, .int .i64 b), (2, .int .u8 c), (3, .int .i64 d)]).run Tryz.prog w = .ok (.agg #[.int .i64 a, .int .i64 b, .int .u8 c, .int .i64 d]) w := by kernel_rfl
@[go_sem ↓ high] theorem bs_EX (a b c d : Int) (w : World) : (Instr.buildSlice 122 1 #[(0, .agg #[.int .i64 a, .int .i64 b, .int .u8 c, .int .i64 d])]).run Tryz.prog w = .ok (.slice (some ⟨w.heap.size, 0, none⟩) 1 1) (w.alloc (.cells #[.int .i64 a, .int .i64 b, .int .u8 c, .int .i64 d] 125)) := by kernel_rfl
structure DOk (w : World) (d : Nat) (G : Gr) (vs es : Value) (S : Nat) : Prop where
 row : row? w d = some (dRow vs es S)
 V : OwnV (d + 1) w vs G.V
 E : OwnE (d + 1) w es G.E
 ne : ∀ g, vs.ownBlock = some g → es.ownBlock ≠ some g
 set : IsSet S
 bit : ∀ n, idB n = true → S.testBit n.toNat = (Pal.look G.V n).isSome
 ok : G.Ok
theorem DOk.lt {w : World} {d : Nat} {G : Gr} {vs es : Value} {S : Nat} (h : DOk w d G vs es S) : d < w.heap.size := row?_lt h.row
theorem DOk.below {w w' : World} {d : Nat} {G : Gr} {vs es : Value} {S : Nat} (h : DOk w d G vs es S) (hb : Below w.heap.size w w') : DOk w' d G vs es S :=
 ⟨(row?_below hb h.lt).trans h.row, h.V.below hb (Nat.le_refl _), h.E.below hb (Nat.le_refl _), h.ne, h.set, h.bit, h.ok⟩
theorem below_cells {w w' : World} {C g : Nat} {l : List Int} (hb : Below C w w') (hg : g < C) (hc : ∀ i z, l[i]? = some z → w.cell? ⟨g, i, none⟩ = some (.int .i64 z)) : ∀ i z, l[i]? = some z → w'.cell? ⟨g, i, none⟩ = some (.int .i64 z) :=
 fun i z h => (hb.cell (p := ⟨g, i, none⟩) hg).trans (hc i z h)
def DfSt (w0 : World) (d : Nat) (G : Gr) (W : World) : Prop := (∃ vs es S, DOk W d G vs es S) ∧ Below d w0 W
theorem DfSt.below {w0 w w' : World} {d : Nat} {G : Gr} (h : DfSt w0 d G w) (hb : Below w.heap.size w w') : DfSt w0 d G w' := by
 obtain ⟨⟨vs, es, S, h1⟩, h2⟩ := h
 exact ⟨⟨vs, es, S, h1.below hb⟩, h2.trans (hb.mono (Nat.le_of_lt h1.lt))⟩
set_option maxRecDepth 10000 in
set_option maxHeartbeats 2000000 in
theorem dvertex_any (d : Nat) (G : Gr) (vs es : Value) (S : Nat) (a b c : Int) (g cap : Nat) (w : World) (h : DOk w d G vs es S) (hc : ∀ i z, [a, b, c][i]? = some z → w.cell? ⟨g, i, none⟩ = some (.int .i64 z)) (hgl : g < w.heap.size) (hgd : g ≠ d) (hgv : vs.ownBlock ≠ some g) (hge : es.ownBlock ≠ some g) :
   Calls Tryz.prog 113 #[.pointer (some ⟨d, 0, none⟩), .slice (some ⟨g, 0, none⟩) 3 cap] w fun e w' => e = .returned (.int .i64 ((vStep G a b c).2 : Nat)) ∧ DfSt w d (vStep G a b c).1 w' := by
 have H0 := Lib.hid h
 have HK := Lib.hid fun W (hW : Below w.heap.size w W) => show W.cell? ⟨g, 0, none⟩ = some (.int .i64 a) ∧ W.cell? ⟨g, 1, none⟩ = some (.int .i64 b) ∧ W.cell? ⟨g, 2, none⟩ = some (.int .i64 c) from
   ⟨(hW.cell (p := ⟨g, 0, none⟩) hgl).trans (hc 0 a rfl), (hW.cell (p := ⟨g, 1, none⟩) hgl).trans (hc 1 b rfl), (hW.cell (p := ⟨g, 2, none⟩) hgl).trans (hc 2 c rfl)⟩
 have hdl := h.lt
 have hrow := h.row
 obtain ⟨qv, cv, rfl⟩ := h.V.sl
 obtain ⟨qe, ce, rfl⟩ := h.E.sl
 obtain ⟨X, hX⟩ : ∃ X, X = vStep G a b c := ⟨_, rfl⟩
 rw [← hX]
 have HX := Lib.hid hX
 have hlV := h.ok.len
 have hlE := h.ok.most
 obtain ⟨LV, hLV⟩ : ∃ n, n = G.V.length := ⟨_, rfl⟩
 obtain ⟨LE, hLE⟩ : ∃ n, n = G.E.length := ⟨_, rfl⟩
 rw [← hLV] at hlV hrow
 rw [← hLE] at hlE hrow
 have HLV := Lib.hid hLV
 have HLE := Lib.hid hLE
 rw [← hLV, ← hLE] at H0
 obtain ⟨k0, k1, k2⟩ := HK.out w (Below.refl _ _)
 have f0 : w.cell? ⟨d, 0, none⟩ = some (.slice qv LV cv) := (cell?_row (i := 0) hrow).trans (dRow_0 _ _ _)
 have f1 : w.cell? ⟨d, 1, none⟩ = some (.slice qe LE ce) := (cell?_row (i := 1) hrow).trans (dRow_1 _ _ _)
 have HST := Lib.hid (show DfSt w d G w from ⟨⟨_, _, _, h⟩, Below.refl _ _⟩)
 clear h hc hX hrow hLV hLE
 go_enter Tryz.func113, Tryz.ntmps113
 cases h1 : idB a with
 | false =>
   have HE := Lib.hid (show X = (G, 2) from by rw [HX.out]; unfold vStep; simp [h1])
   go_wp2_with (refine (fid_any _ _).mono ?_; rintro e w1 ⟨rfl, rfl⟩; rw [h1])
   go_ret
   exact ⟨by rw [HE.out]; rfl, by rw [HE.out]; exact HST.out⟩
 | true =>
 cases h2 : labB b with
 | false =>
   have HE := Lib.hid (show X = (G, 2) from by rw [HX.out]; unfold vStep; simp [h1, h2])
   go_wp2_with (first | (refine (fid_any _ _).mono ?_; rintro e w1 ⟨rfl, rfl⟩; rw [h1]) | (refine (flab_any _ _).mono ?_; rintro e w1 ⟨rfl, rfl⟩; rw [h2]))
   go_ret
   exact ⟨by rw [HE.out]; rfl, by rw [HE.out]; exact HST.out⟩
 | true =>
 cases h3 : wtB c with
 | false =>
   have HE := Lib.hid (show X = (G, 2) from by rw [HX.out]; unfold vStep; simp [h1, h2, h3])
   go_wp2_with (first | (refine (fid_any _ _).mono ?_; rintro e w1 ⟨rfl, rfl⟩; rw [h1]) | (refine (flab_any _ _).mono ?_; rintro e w1 ⟨rfl, rfl⟩; rw [h2]) | (refine (fwt_any _ _).mono ?_; rintro e w1 ⟨rfl, rfl⟩; rw [h3]))
   go_ret
   exact ⟨by rw [HE.out]; rfl, by rw [HE.out]; exact HST.out⟩
 | true =>
 have HX2 := Lib.hid (show X = if 0 < G.E.length ∨ lastV G.V a = true then (G, 3) else (⟨G.V ++ [(a, (b.toNat, c))], G.E⟩, 0) from by rw [HX.out]; unfold vStep; simp [h1, h2, h3])
 go_wp2_with (first | (refine (fid_any _ _).mono ?_; rintro e w1 ⟨rfl, rfl⟩; rw [h1]) | (refine (flab_any _ _).mono ?_; rintro e w1 ⟨rfl, rfl⟩; rw [h2]) | (refine (fwt_any _ _).mono ?_; rintro e w1 ⟨rfl, rfl⟩; rw [h3]))
 have HFF := Lib.hid fun W (hW : Below w1.heap.size w1 W) => show W.cell? ⟨d, 0, none⟩ = some (.slice qv LV cv) ∧ W.cell? ⟨d, 1, none⟩ = some (.slice qe LE ce) from
   ⟨(hW.cell (p := ⟨d, 0, none⟩) hdl).trans f0, (hW.cell (p := ⟨d, 1, none⟩) hdl).trans f1⟩
 by_cases hE0 : 0 < LE
 · have HE := Lib.hid (show X = (G, 3) from by rw [HX2.out, if_pos (.inl (by rw [← HLE.out]; exact hE0))])
   have d1 : decide ((0 : Int) < (LE : Int)) = true := decide_eq_true (by omega)
   have d1n : decide (0 < LE) = true := decide_eq_true hE0
   refine wp_region_free_tail (fun W => W = w1.drew) 33 (by kernel_rfl) (by kernel_rfl) rfl ?_
   simp only [List.take_succ_cons, List.take_zero, List.drop_succ_cons, List.drop_zero]
   repeat (first | ((first | apply wpFree_still (hg := rfl) | apply wpFree_stillG rfl); (intro w hw; subst hw; obtain ⟨k0, k1, k2⟩ := HK.out _ (Below.refl _ _).drew; obtain ⟨f0, f1⟩ := HFF.out _ (Below.refl _ _).drew; go_simp; (try go_ints); (first | with_reducible rfl | (go_simp; with_reducible rfl))); (intro K hK; go_simp; (try go_ints); refine hK _ ?_; clear hK K)) | (apply wpFree_skip rfl; (intro K hK; go_simp; (try go_ints); refine hK _ ?_; clear hK K)))
   with_reducible refine wpFree_nil ?_
   rintro w' rfl
   go_wp2_with fail
   go_ret
   exact ⟨by rw [HE.out]; rfl, by rw [HE.out]; exact HST.out.below (Below.refl _ _).drew⟩
 · have d1 : decide ((0 : Int) < (LE : Int)) = false := decide_eq_false (by omega)
   have d1n : decide (0 < LE) = false := decide_eq_false hE0
   by_cases hV0 : LV = 0
   · have d2 : decide ((0 : Int) < (LV : Int)) = false := decide_eq_false (by omega)
     have d3 : decide (0 < LV) = false := decide_eq_false (by omega)
     have d4 : ¬ 0 < LV := by omega
     have hVn : G.V = [] := List.length_eq_zero_iff.1 (HLV.out.symm.trans hV0)
     have HE := Lib.hid (show X = (⟨G.V ++ [(a, (b.toNat, c))], G.E⟩, 0) from by rw [HX2.out, if_neg]; rintro (h | h); · rw [← HLE.out] at h; omega
                                                                                 · rw [hVn] at h; cases h)
     clear hVn hV0
     refine wp_region_free_tail (fun W => W = w1.drew) 33 (by kernel_rfl) (by kernel_rfl) rfl ?_
     simp only [List.take_succ_cons, List.take_zero, List.drop_succ_cons, List.drop_zero]
     repeat (first | ((first | apply wpFree_still (hg := rfl) | apply wpFree_stillG rfl); (intro w hw; subst hw; obtain ⟨k0, k1, k2⟩ := HK.out _ (Below.refl _ _).drew; obtain ⟨f0, f1⟩ := HFF.out _ (Below.refl _ _).drew; go_simp; (try go_ints); (first | with_reducible rfl | (go_simp; with_reducible rfl))); (intro K hK; go_simp; (try go_ints); refine hK _ ?_; clear hK K)) | (apply wpFree_skip rfl; (intro K hK; go_simp; (try go_ints); refine hK _ ?_; clear hK K)))
     with_reducible refine wpFree_nil ?_
     rintro w' rfl
     go_wp2_with fail
     obtain ⟨bn, hbn⟩ : ∃ bn : Nat, b = (bn : Int) := ⟨b.toNat, by rw [labB_iff] at h2; omega⟩
     subst hbn
     have hb255 : bn ≤ 255 := by rw [labB_iff] at h2; omega
     rw [Int.toNat_natCast] at HE
     obtain ⟨wa, hwa⟩ : ∃ wa, wa = w1.drew := ⟨_, rfl⟩
     rw [← hwa]
     have hBa : Below w1.heap.size w1 wa := by rw [hwa]; exact (Below.refl _ _).drew
     have HA := Lib.hid (H0.out.below hBa)
     have HBa := Lib.hid hBa
     clear k0 k1 k2 f0 f1
     obtain ⟨k0, k1, k2⟩ := HK.out wa hBa
     obtain ⟨f0, f1⟩ := HFF.out wa hBa
     have hdl2 : d < wa.heap.size := Nat.lt_of_lt_of_le hdl hBa.size
     have hgl2 : g < wa.heap.size := Nat.lt_of_lt_of_le hgl hBa.size
     have HQ := Lib.hid fun W (hW : Below wa.heap.size wa W) => show W.cell? ⟨d, 0, none⟩ = some (.slice (qv) LV cv) ∧ W.cell? ⟨g, 0, none⟩ = some (.int .i64 a) ∧ W.cell? ⟨g, 1, none⟩ = some (.int .i64 (bn : Int)) ∧ W.cell? ⟨g, 2, none⟩ = some (.int .i64 c) from
       ⟨(hW.cell (p := ⟨d, 0, none⟩) hdl2).trans f0, (hW.cell (p := ⟨g, 0, none⟩) hgl2).trans k0, (hW.cell (p := ⟨g, 1, none⟩) hgl2).trans k1, (hW.cell (p := ⟨g, 2, none⟩) hgl2).trans k2⟩
     clear hwa hBa k0 k1 k2 f0 f1 HK HFF
     refine wp_region_mix (fun W => W.cell? ⟨d, 0, none⟩ = some (.slice (qv) LV cv) ∧ W.cell? ⟨g, 0, none⟩ = some (.int .i64 a) ∧ W.cell? ⟨g, 1, none⟩ = some (.int .i64 (bn : Int)) ∧ W.cell? ⟨g, 2, none⟩ = some (.int .i64 c)) 20 [(0, true), (1, true), (2, true), (3, true), (4, true), (5, true), (6, true), (7, true), (8, true), (9, true), (10, true), (11, true), (12, true), (13, true), (14, true), (15, true), (16, false), (17, false), (18, true), (19, true)] (by kernel_rfl) (by kernel_rfl) (HQ.out _ (Below.refl _ _).drew) ?_
     repeat (apply wpPlan_still rfl rfl; (intro w hw; obtain ⟨f0, k0, k1, k2⟩ := hw; go_simp; (try go_ints); (first | with_reducible rfl | (go_simp; with_reducible rfl))); (intro K hK; go_simp; (try go_ints); refine hK _ _ ?_; clear hK K))
     apply wpPlan_act rfl rfl
     intro K hK
     unfold Oper.wp
     go_simp
     refine hK _ _ (HQ.out _ ((Below.refl _ wa).drew.alloc (Nat.le_refl _) _)) ?_
     clear hK K
     apply wpPlan_act rfl rfl
     intro K hK
     refine wp_appO elV 114 Tryz.underlying114 _ _ rfl (d + 1) (.slice (qv) LV cv) G.V rfl ?_ _ (a, (bn, c)) _ rfl (row?_alloc_at _ _ _ _ rfl) (by rw [← HLV.out]; omega) (by simp; omega) ?_
     · exact (HA.out.V.below (Below.refl _ wa).drew (Nat.le_refl _)).alloc _
     intro v' w2 hO2 hb2 hg2 hbk2
     obtain ⟨q2, cap2, hv2⟩ := hO2.sl
     rw [show (G.V ++ [(a, (bn, c))]).length = LV + 1 from by rw [List.length_append, ← HLV.out]; rfl] at hv2
     subst hv2
     have HO2 := Lib.hid hO2
     have HB2 := Lib.hid hb2
     have HE2 := Lib.hid (show OwnE (d + 1) w2 (.slice qe LE ce) G.E from ((HA.out.E.below (Below.refl _ wa).drew (Nat.le_refl _)).alloc _).same fun j hj => hg2.block j (by have := HA.out.E.lt j hj; simp; omega) (fun e => HA.out.ne j e.symm hj))
     have HN2 := Lib.hid (show ∀ j, (Value.slice q2 (LV + 1) cap2).ownBlock = some j → (Value.slice qe LE ce).ownBlock ≠ some j from fun j hj he => by
       rcases hbk2 with h | h
       · exact HA.out.ne j (h.symm.trans hj) he
       · have h3 := h.symm.trans hj
         have h4 := HA.out.E.lt j he
         simp at h3
         omega)
     have hd2 : row? w2 d = some (dRow (.slice (qv) LV cv) (.slice qe LE ce) S) := (row?_below hb2 (by omega)).trans ((row?_below (((Below.refl _ wa).drew.alloc (Nat.le_refl _) _)) hdl2).trans HA.out.row)
     have HD2 := Lib.hid hd2
     have hs2 : d < w2.heap.size := row?_lt hd2
     have hkk : ∀ i, w2.cell? ⟨g, i, none⟩ = wa.cell? ⟨g, i, none⟩ := fun i => by
       have e1 : w2.heap[g]? = (wa.drew.alloc (.cells #[.int .i64 a, .int .u8 (bn : Int), .int .i64 c] 117)).heap[g]? := hg2.block g (by simp; omega) (fun e => hgv (by rw [HLV.out] at e; exact e.symm))
       exact (World.cell?_of_block e1).trans (((Below.refl _ wa).drew.alloc (Nat.le_refl _) _).cell (p := ⟨g, i, none⟩) hgl2)
     obtain ⟨f0, k0, k1, k2⟩ := HQ.out wa (Below.refl _ _)
     have HK2 := Lib.hid (show w2.cell? ⟨g, 0, none⟩ = some (.int .i64 a) from (hkk 0).trans k0)
     refine hK _ _ ⟨(cell?_row (i := 0) hd2).trans (dRow_0 _ _ _), (hkk 0).trans k0, (hkk 1).trans k1, (hkk 2).trans k2⟩ ?_
     clear hK K hO2 hb2 hg2 hbk2 hkk f0 k0 k1 k2
     repeat (apply wpPlan_still rfl rfl; (intro w hw; clear hw; go_simp; (try go_ints); (first | with_reducible rfl | (go_simp; with_reducible rfl))); (intro K hK; go_simp; (try go_ints); refine hK _ _ ?_; clear hK K))
     refine wpPlan_nil ?_
     simp only [List.drop_succ_cons, List.drop_zero]
     have c0 : w2.cell? ⟨d, 0, none⟩ = some (.slice (qv) LV cv) := (cell?_row (i := 0) hd2).trans (dRow_0 _ _ _)
     have z0 : w2.frozen? ⟨d, 0, none⟩ = false := frozen?_row hd2
     go_wp2_with fail
     obtain ⟨w3, hw3⟩ : ∃ w3, w3 = w2.setCell ⟨d, 0, none⟩ (.slice q2 (LV + 1) cap2) := ⟨_, rfl⟩
     rw [← hw3]
     have hd3 : row? w3 d = some (dRow (.slice q2 (LV + 1) cap2) (.slice qe LE ce) S) := by rw [hw3]; exact dRow_first HD2.out _
     have hs3 := row?_lt hd3
     have HV3 := Lib.hid (show OwnV (d + 1) w3 (.slice q2 (LV + 1) cap2) (G.V ++ [(a, (bn, c))]) from HO2.out.same fun j hj => by rw [hw3]; exact heap_setCell_other _ _ _ _ (by have := HO2.out.block j hj; show j ≠ d; omega))
     have HE3 := Lib.hid (show OwnE (d + 1) w3 (.slice qe LE ce) G.E from HE2.out.same fun j hj => by rw [hw3]; exact heap_setCell_other _ _ _ _ (by have := HE2.out.block j hj; show j ≠ d; omega))
     have HB3 := Lib.hid (show Below d w1 w3 from by
       rw [hw3]
       exact (((((HBa.out.mono (Nat.le_of_lt hdl)).trans ((Below.refl _ wa).drew.mono (Nat.le_of_lt hdl2))).alloc (by show d ≤ wa.heap.size; omega) _).trans (HB2.out.mono (by omega))).setCell (Nat.le_refl d) _))
     have hk3 : w3.cell? ⟨g, 0, none⟩ = some (.int .i64 a) := by rw [hw3]; exact (World.cell?_of_block (heap_setCell_other _ _ _ _ hgd)).trans HK2.out
     have hgl3 : g < w3.heap.size := World.block_lt_of_cell? _ _ hk3
     have HL3 := Lib.hid fun W (hW : Below w3.heap.size w3 W) => show rowLoad Tryz.prog 80 ⟨d, 2, none⟩ W = .ok (.agg (words S)) W ∧ W.cell? ⟨g, 0, none⟩ = some (.int .i64 a) from
       ⟨dRow_load ((row?_below hW hs3).trans hd3), (hW.cell (p := ⟨g, 0, none⟩) hgl3).trans hk3⟩
     have HD3 := Lib.hid hd3
     clear hw3 hd3 hk3 HK2 HD2 hd2 c0 z0 HO2 HE2 HQ hs2
     refine wp_region_mix (fun W => Below w3.heap.size w3 W) 11 [(0, true), (1, true), (2, true), (3, true), (4, true), (5, true), (6, true), (7, true), (8, false), (9, true), (10, true)] (by kernel_rfl) (by kernel_rfl) (Below.refl _ _).drew ?_
     repeat (apply wpPlan_still rfl rfl; (intro w hw; obtain ⟨j1, j2⟩ := HL3.out _ hw; clear hw; go_simp; (try go_ints); (first | with_reducible rfl | (go_simp; with_reducible rfl))); (intro K hK; go_simp; (try go_ints); refine hK _ _ ?_; clear hK K))
     apply wpPlan_act rfl rfl
     intro K hK
     unfold Oper.wp
     go_simp
     refine (with_any S a w3.drew).mono ?_
     rintro r w4 ⟨rfl, hb4⟩
     have hb4' : Below w3.heap.size w3 w4 := (Below.refl _ w3).drew.trans hb4
     have hd4 := (row?_below hb4' hs3).trans HD3.out
     have jst := dRow_store hd4 (insR S a)
     have HD4 := Lib.hid hd4
     have HB4 := Lib.hid hb4'
     refine hK _ _ hb4' ?_
     clear hK K hb4 hb4' hd4
     repeat (apply wpPlan_still rfl rfl; (intro w hw; clear hw; go_simp; (try go_ints); (first | with_reducible rfl | (go_simp; with_reducible rfl))); (intro K hK; go_simp; (try go_ints); refine hK _ _ ?_; clear hK K))
     refine wpPlan_nil ?_
     simp only [List.drop_succ_cons, List.drop_zero]
     go_wp2_with fail
     go_ret
     exact ⟨by rw [HE.out]; rfl, by
       rw [HE.out]
       refine ⟨⟨.slice q2 (LV + 1) cap2, .slice qe LE ce, insR S a, ⟨dRow_set HD4.out _, ?_, ?_, HN2.out, isSet_insR H0.out.set a, ?_, ?_⟩⟩, below_setCellsD (Nat.le_refl d) _ _ _ (HB3.out.trans (HB4.out.mono (Nat.le_of_lt hs3)))⟩
       · exact (HV3.out.below HB4.out (Nat.le_refl _)).same fun j hj => heap_setCells d j (by have := HV3.out.block j hj; omega) _ _ _
       · exact (HE3.out.below HB4.out (Nat.le_refl _)).same fun j hj => heap_setCells d j (by have := HE3.out.block j hj; omega) _ _ _
       · intro n hn
         rw [insR_bit, H0.out.bit n hn, look_snoc]
         rw [idB_iff] at hn
         congr 1
         exact decide_eq_decide.2 (by omega)
       · have := vStep_ok H0.out.ok a (bn : Int) c
         rw [← HX.out, HE.out] at this
         exact this⟩
   · obtain ⟨p, hp⟩ : ∃ p, G.V.getLast? = some p := by
       cases hg : G.V.getLast? with
       | none => rw [List.getLast?_eq_none_iff] at hg; rw [hg] at HLV; exact absurd HLV.out hV0
       | some p => exact ⟨p, rfl⟩
     have hpi : G.V[LV - 1]? = some p := by rw [← hp, List.getLast?_eq_getElem?, HLV.out]
     obtain ⟨b0, off, c', x, e1, hbb, hx, hcell⟩ := (H0.out.V.rd elV).at (i := LV - 1) (by rw [← HLV.out]; omega)
     rw [hpi] at hx
     cases hx
     simp only [Value.slice.injEq] at e1
     obtain ⟨e1, -, e2⟩ := e1
     subst e2
     subst e1
     have HP := Lib.hid fun W (hW : Below w1.heap.size w1 W) => show W.cell? ⟨b0, off + (LV - 1) * 3, none⟩ = some (.int .i64 p.1) from by
       have := hcell W hW 0 (.int .i64 p.1) rfl
       rwa [Nat.add_zero] at this
     have hlast := lastV_of hp a
     have d2 : decide ((0 : Int) < (LV : Int)) = true := decide_eq_true (by omega)
     have d3 : decide (0 < LV) = true := decide_eq_true (by omega)
     have d4 : 0 < LV := by omega
     have d5 : (LV : Int) - 1 = ((LV - 1 : Nat) : Int) := by omega
     have d6 : LV - 1 < LV := by omega
     clear hpi hcell hbb
     by_cases hap : a ≤ p.1
     · have HE := Lib.hid (show X = (G, 3) from by rw [HX2.out, if_pos (.inr (by rw [hlast]; exact decide_eq_true hap))])
       have d7 : decide (a ≤ p.1) = true := decide_eq_true hap
       clear hlast hp hV0
       refine wp_region_free_tail (fun W => W = w1.drew) 33 (by kernel_rfl) (by kernel_rfl) rfl ?_
       simp only [List.take_succ_cons, List.take_zero, List.drop_succ_cons, List.drop_zero]
       repeat (first | ((first | apply wpFree_still (hg := rfl) | apply wpFree_stillG rfl); (intro w hw; subst hw; obtain ⟨k0, k1, k2⟩ := HK.out _ (Below.refl _ _).drew; obtain ⟨f0, f1⟩ := HFF.out _ (Below.refl _ _).drew; have f2 := HP.out _ (Below.refl _ _).drew; go_simp; (try go_ints); (first | with_reducible rfl | (go_simp; with_reducible rfl))); (intro K hK; go_simp; (try go_ints); refine hK _ ?_; clear hK K)) | (apply wpFree_skip rfl; (intro K hK; go_simp; (try go_ints); refine hK _ ?_; clear hK K)))
       with_reducible refine wpFree_nil ?_
       rintro w' rfl
       go_wp2_with fail
       go_ret
       exact ⟨by rw [HE.out]; rfl, by rw [HE.out]; exact HST.out.below (Below.refl _ _).drew⟩
     · have HE := Lib.hid (show X = (⟨G.V ++ [(a, (b.toNat, c))], G.E⟩, 0) from by
         rw [HX2.out, if_neg]
         rintro (h | h)
         · rw [← HLE.out] at h; omega
         · rw [hlast] at h; exact hap (of_decide_eq_true h))
       have d7 : decide (a ≤ p.1) = false := decide_eq_false hap
       clear hlast hp hV0
       refine wp_region_free_tail (fun W => W = w1.drew) 33 (by kernel_rfl) (by kernel_rfl) rfl ?_
       simp only [List.take_succ_cons, List.take_zero, List.drop_succ_cons, List.drop_zero]
       repeat (first | ((first | apply wpFree_still (hg := rfl) | apply wpFree_stillG rfl); (intro w hw; subst hw; obtain ⟨k0, k1, k2⟩ := HK.out _ (Below.refl _ _).drew; obtain ⟨f0, f1⟩ := HFF.out _ (Below.refl _ _).drew; have f2 := HP.out _ (Below.refl _ _).drew; go_simp; (try go_ints); (first | with_reducible rfl | (go_simp; with_reducible rfl))); (intro K hK; go_simp; (try go_ints); refine hK _ ?_; clear hK K)) | (apply wpFree_skip rfl; (intro K hK; go_simp; (try go_ints); refine hK _ ?_; clear hK K)))
       with_reducible refine wpFree_nil ?_
       rintro w' rfl
       go_wp2_with fail
       clear HP d2 d3 d4 d5 d6 d7 hap
       obtain ⟨bn, hbn⟩ : ∃ bn : Nat, b = (bn : Int) := ⟨b.toNat, by rw [labB_iff] at h2; omega⟩
       subst hbn
       have hb255 : bn ≤ 255 := by rw [labB_iff] at h2; omega
       rw [Int.toNat_natCast] at HE
       obtain ⟨wa, hwa⟩ : ∃ wa, wa = w1.drew := ⟨_, rfl⟩
       rw [← hwa]
       have hBa : Below w1.heap.size w1 wa := by rw [hwa]; exact (Below.refl _ _).drew
       have HA := Lib.hid (H0.out.below hBa)
       have HBa := Lib.hid hBa
       clear k0 k1 k2 f0 f1
       obtain ⟨k0, k1, k2⟩ := HK.out wa hBa
       obtain ⟨f0, f1⟩ := HFF.out wa hBa
       have hdl2 : d < wa.heap.size := Nat.lt_of_lt_of_le hdl hBa.size
       have hgl2 : g < wa.heap.size := Nat.lt_of_lt_of_le hgl hBa.size
       have HQ := Lib.hid fun W (hW : Below wa.heap.size wa W) => show W.cell? ⟨d, 0, none⟩ = some (.slice (some ⟨b0, off, none⟩) LV cv) ∧ W.cell? ⟨g, 0, none⟩ = some (.int .i64 a) ∧ W.cell? ⟨g, 1, none⟩ = some (.int .i64 (bn : Int)) ∧ W.cell? ⟨g, 2, none⟩ = some (.int .i64 c) from
         ⟨(hW.cell (p := ⟨d, 0, none⟩) hdl2).trans f0, (hW.cell (p := ⟨g, 0, none⟩) hgl2).trans k0, (hW.cell (p := ⟨g, 1, none⟩) hgl2).trans k1, (hW.cell (p := ⟨g, 2, none⟩) hgl2).trans k2⟩
       clear hwa hBa k0 k1 k2 f0 f1 HK HFF
       refine wp_region_mix (fun W => W.cell? ⟨d, 0, none⟩ = some (.slice (some ⟨b0, off, none⟩) LV cv) ∧ W.cell? ⟨g, 0, none⟩ = some (.int .i64 a) ∧ W.cell? ⟨g, 1, none⟩ = some (.int .i64 (bn : Int)) ∧ W.cell? ⟨g, 2, none⟩ = some (.int .i64 c)) 20 [(0, true), (1, true), (2, true), (3, true), (4, true), (5, true), (6, true), (7, true), (8, true), (9, true), (10, true), (11, true), (12, true), (13, true), (14, true), (15, true), (16, false), (17, false), (18, true), (19, true)] (by kernel_rfl) (by kernel_rfl) (HQ.out _ (Below.refl _ _).drew) ?_
       repeat (apply wpPlan_still rfl rfl; (intro w hw; obtain ⟨f0, k0, k1, k2⟩ := hw; go_simp; (try go_ints); (first | with_reducible rfl | (go_simp; with_reducible rfl))); (intro K hK; go_simp; (try go_ints); refine hK _ _ ?_; clear hK K))
       apply wpPlan_act rfl rfl
       intro K hK
       unfold Oper.wp
       go_simp
       refine hK _ _ (HQ.out _ ((Below.refl _ wa).drew.alloc (Nat.le_refl _) _)) ?_
       clear hK K
       apply wpPlan_act rfl rfl
       intro K hK
       refine wp_appO elV 114 Tryz.underlying114 _ _ rfl (d + 1) (.slice (some ⟨b0, off, none⟩) LV cv) G.V rfl ?_ _ (a, (bn, c)) _ rfl (row?_alloc_at _ _ _ _ rfl) (by rw [← HLV.out]; omega) (by simp; omega) ?_
       · exact (HA.out.V.below (Below.refl _ wa).drew (Nat.le_refl _)).alloc _
       intro v' w2 hO2 hb2 hg2 hbk2
       obtain ⟨q2, cap2, hv2⟩ := hO2.sl
       rw [show (G.V ++ [(a, (bn, c))]).length = LV + 1 from by rw [List.length_append, ← HLV.out]; rfl] at hv2
       subst hv2
       have HO2 := Lib.hid hO2
       have HB2 := Lib.hid hb2
       have HE2 := Lib.hid (show OwnE (d + 1) w2 (.slice qe LE ce) G.E from ((HA.out.E.below (Below.refl _ wa).drew (Nat.le_refl _)).alloc _).same fun j hj => hg2.block j (by have := HA.out.E.lt j hj; simp; omega) (fun e => HA.out.ne j e.symm hj))
       have HN2 := Lib.hid (show ∀ j, (Value.slice q2 (LV + 1) cap2).ownBlock = some j → (Value.slice qe LE ce).ownBlock ≠ some j from fun j hj he => by
         rcases hbk2 with h | h
         · exact HA.out.ne j (h.symm.trans hj) he
         · have h3 := h.symm.trans hj
           have h4 := HA.out.E.lt j he
           simp at h3
           omega)
       have hd2 : row? w2 d = some (dRow (.slice (some ⟨b0, off, none⟩) LV cv) (.slice qe LE ce) S) := (row?_below hb2 (by omega)).trans ((row?_below (((Below.refl _ wa).drew.alloc (Nat.le_refl _) _)) hdl2).trans HA.out.row)
       have HD2 := Lib.hid hd2
       have hs2 : d < w2.heap.size := row?_lt hd2
       have hkk : ∀ i, w2.cell? ⟨g, i, none⟩ = wa.cell? ⟨g, i, none⟩ := fun i => by
         have e1 : w2.heap[g]? = (wa.drew.alloc (.cells #[.int .i64 a, .int .u8 (bn : Int), .int .i64 c] 117)).heap[g]? := hg2.block g (by simp; omega) (fun e => hgv (by rw [HLV.out] at e; exact e.symm))
         exact (World.cell?_of_block e1).trans (((Below.refl _ wa).drew.alloc (Nat.le_refl _) _).cell (p := ⟨g, i, none⟩) hgl2)
       obtain ⟨f0, k0, k1, k2⟩ := HQ.out wa (Below.refl _ _)
       have HK2 := Lib.hid (show w2.cell? ⟨g, 0, none⟩ = some (.int .i64 a) from (hkk 0).trans k0)
       refine hK _ _ ⟨(cell?_row (i := 0) hd2).trans (dRow_0 _ _ _), (hkk 0).trans k0, (hkk 1).trans k1, (hkk 2).trans k2⟩ ?_
       clear hK K hO2 hb2 hg2 hbk2 hkk f0 k0 k1 k2
       repeat (apply wpPlan_still rfl rfl; (intro w hw; clear hw; go_simp; (try go_ints); (first | with_reducible rfl | (go_simp; with_reducible rfl))); (intro K hK; go_simp; (try go_ints); refine hK _ _ ?_; clear hK K))
       refine wpPlan_nil ?_
       simp only [List.drop_succ_cons, List.drop_zero]
       have c0 : w2.cell? ⟨d, 0, none⟩ = some (.slice (some ⟨b0, off, none⟩) LV cv) := (cell?_row (i := 0) hd2).trans (dRow_0 _ _ _)
       have z0 : w2.frozen? ⟨d, 0, none⟩ = false := frozen?_row hd2
       go_wp2_with fail
       obtain ⟨w3, hw3⟩ : ∃ w3, w3 = w2.setCell ⟨d, 0, none⟩ (.slice q2 (LV + 1) cap2) := ⟨_, rfl⟩
       rw [← hw3]
       have hd3 : row? w3 d = some (dRow (.slice q2 (LV + 1) cap2) (.slice qe LE ce) S) := by rw [hw3]; exact dRow_first HD2.out _
       have hs3 := row?_lt hd3
       have HV3 := Lib.hid (show OwnV (d + 1) w3 (.slice q2 (LV + 1) cap2) (G.V ++ [(a, (bn, c))]) from HO2.out.same fun j hj => by rw [hw3]; exact heap_setCell_other _ _ _ _ (by have := HO2.out.block j hj; show j ≠ d; omega))
       have HE3 := Lib.hid (show OwnE (d + 1) w3 (.slice qe LE ce) G.E from HE2.out.same fun j hj => by rw [hw3]; exact heap_setCell_other _ _ _ _ (by have := HE2.out.block j hj; show j ≠ d; omega))
       have HB3 := Lib.hid (show Below d w1 w3 from by
         rw [hw3]
         exact (((((HBa.out.mono (Nat.le_of_lt hdl)).trans ((Below.refl _ wa).drew.mono (Nat.le_of_lt hdl2))).alloc (by show d ≤ wa.heap.size; omega) _).trans (HB2.out.mono (by omega))).setCell (Nat.le_refl d) _))
       have hk3 : w3.cell? ⟨g, 0, none⟩ = some (.int .i64 a) := by rw [hw3]; exact (World.cell?_of_block (heap_setCell_other _ _ _ _ hgd)).trans HK2.out
       have hgl3 : g < w3.heap.size := World.block_lt_of_cell? _ _ hk3
       have HL3 := Lib.hid fun W (hW : Below w3.heap.size w3 W) => show rowLoad Tryz.prog 80 ⟨d, 2, none⟩ W = .ok (.agg (words S)) W ∧ W.cell? ⟨g, 0, none⟩ = some (.int .i64 a) from
         ⟨dRow_load ((row?_below hW hs3).trans hd3), (hW.cell (p := ⟨g, 0, none⟩) hgl3).trans hk3⟩
       have HD3 := Lib.hid hd3
       clear hw3 hd3 hk3 HK2 HD2 hd2 c0 z0 HO2 HE2 HQ hs2
       refine wp_region_mix (fun W => Below w3.heap.size w3 W) 11 [(0, true), (1, true), (2, true), (3, true), (4, true), (5, true), (6, true), (7, true), (8, false), (9, true), (10, true)] (by kernel_rfl) (by kernel_rfl) (Below.refl _ _).drew ?_
       repeat (apply wpPlan_still rfl rfl; (intro w hw; obtain ⟨j1, j2⟩ := HL3.out _ hw; clear hw; go_simp; (try go_ints); (first | with_reducible rfl | (go_simp; with_reducible rfl))); (intro K hK; go_simp; (try go_ints); refine hK _ _ ?_; clear hK K))
       apply wpPlan_act rfl rfl
       intro K hK
       unfold Oper.wp
       go_simp
       refine (with_any S a w3.drew).mono ?_
       rintro r w4 ⟨rfl, hb4⟩
       have hb4' : Below w3.heap.size w3 w4 := (Below.refl _ w3).drew.trans hb4
       have hd4 := (row?_below hb4' hs3).trans HD3.out
       have jst := dRow_store hd4 (insR S a)
       have HD4 := Lib.hid hd4
       have HB4 := Lib.hid hb4'
       refine hK _ _ hb4' ?_
       clear hK K hb4 hb4' hd4
       repeat (apply wpPlan_still rfl rfl; (intro w hw; clear hw; go_simp; (try go_ints); (first | with_reducible rfl | (go_simp; with_reducible rfl))); (intro K hK; go_simp; (try go_ints); refine hK _ _ ?_; clear hK K))
       refine wpPlan_nil ?_
       simp only [List.drop_succ_cons, List.drop_zero]
       go_wp2_with fail
       go_ret
       exact ⟨by rw [HE.out]; rfl, by
         rw [HE.out]
         refine ⟨⟨.slice q2 (LV + 1) cap2, .slice qe LE ce, insR S a, ⟨dRow_set HD4.out _, ?_, ?_, HN2.out, isSet_insR H0.out.set a, ?_, ?_⟩⟩, below_setCellsD (Nat.le_refl d) _ _ _ (HB3.out.trans (HB4.out.mono (Nat.le_of_lt hs3)))⟩
         · exact (HV3.out.below HB4.out (Nat.le_refl _)).same fun j hj => heap_setCells d j (by have := HV3.out.block j hj; omega) _ _ _
         · exact (HE3.out.below HB4.out (Nat.le_refl _)).same fun j hj => heap_setCells d j (by have := HE3.out.block j hj; omega) _ _ _
         · intro n hn
           rw [insR_bit, H0.out.bit n hn, look_snoc]
           rw [idB_iff] at hn
           congr 1
           exact decide_eq_decide.2 (by omega)
         · have := vStep_ok H0.out.ok a (bn : Int) c
           rw [← HX.out, HE.out] at this
           exact this⟩
end Go.Proofs.YtlmccbepllgbfaaGreatDoor
