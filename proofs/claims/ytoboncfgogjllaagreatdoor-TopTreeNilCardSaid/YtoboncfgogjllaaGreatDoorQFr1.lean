/-
  Walks of package frame: New's first callback.
  Walks of package frame: New's test inside the second callback; slices.DeleteFunc with it.
  Walks of package frame: New's second callback.
-/
import Derived.Test.YtoboncfgogjllaaGreatDoorQTree7
import Derived.Test.YtoboncfgogjllaaGreatDoorQPlain
import Derived.Test.YtoboncfgogjllaaGreatDoorQRoR
import Derived.Maps.Own
import Derived.Maps.OwnIn
namespace Go.Proofs.YtoboncfgogjllaaGreatDoor
open Go Go.RowKit Go.Pal Go.Maps
attribute [local go_sem] Oper.semAt_some

/-- The frame under construction: its fields, the row of nodes, the map of homes. -/
structure FSt (gf gT cT gN gM n : Nat) (N : Nat → Nd) (m : Nat) (w : World) : Prop where
  frame : row? w gf = some #[.slice (some ⟨gT, 0, none⟩) n cT, .slice (some ⟨gN, 0, none⟩) n n, .map (some gM)]
  nodes : row? w gN = some (nodeC N n)
  map : ∃ D, w.ownsMap (H := Unit) Tryz.prog 3 (plainElem Tryz.prog 3) gM m D
theorem FSt.of_same {gf gT cT gN gM n m : Nat} {N : Nat → Nd} {w w' : World} (h : FSt gf gT cT gN gM n N m w) (hs : ∀ k, k < w.heap.size → w'.heap[k]? = w.heap[k]?) : FSt gf gT cT gN gM n N m w' :=
  ⟨(row?_congr (hs _ (row?_lt h.frame))).trans h.frame, (row?_congr (hs _ (row?_lt h.nodes))).trans h.nodes, by
    obtain ⟨D, es, clock, h1, h2⟩ := h.map
    exact ⟨D, es, clock, (hs _ (Array.getElem?_eq_some_iff.1 h1).1).trans h1, h2⟩⟩
theorem FSt.of_three {gf gT cT gN gM n m : Nat} {N : Nat → Nd} {w w' : World} (h : FSt gf gT cT gN gM n N m w) (h1 : w'.heap[gf]? = w.heap[gf]?) (h2 : w'.heap[gN]? = w.heap[gN]?) (h3 : w'.heap[gM]? = w.heap[gM]?) : FSt gf gT cT gN gM n N m w' :=
  ⟨(row?_congr h1).trans h.frame, (row?_congr h2).trans h.nodes, by
    obtain ⟨D, es, clock, k1, k2⟩ := h.map
    exact ⟨D, es, clock, h3.trans k1, k2⟩⟩
theorem FSt.gM_lt {gf gT cT gN gM n m : Nat} {N : Nat → Nd} {w : World} (h : FSt gf gT cT gN gM n N m w) : gM < w.heap.size := by
  obtain ⟨D, h1⟩ := h.map
  exact h1.lt
theorem FSt.mono {gf gT cT gN gM n m m' : Nat} {N : Nat → Nd} {w : World} (h : FSt gf gT cT gN gM n N m w) (hm : m ≤ m') : FSt gf gT cT gN gM n N m' w :=
  ⟨h.frame, h.nodes, by obtain ⟨D, h1⟩ := h.map; exact ⟨D, h1.mono hm⟩⟩
theorem wf_nat {x : Nat} (h : x < 1000000) : (Lit.int .i64 (x : Int)).wf = true := by
  have h1 : IntKind.i64.min = -9223372036854775808 := by decide
  have h2 : IntKind.i64.max = 9223372036854775807 := by decide
  simp [Lit.wf, h1, h2]
  omega
theorem Same.of_grown {w w' : World} {row : Option Nat} (h : w.grownBy w' row) : Same (fun k => some k ≠ row) w w' := ⟨h.os, h.tape, h.output, h.size, fun k hk hr => h.block k hk hr⟩
theorem keyedInt : Keyed Tryz.prog 3 := int_keyed Tryz.underlying3

set_option maxRecDepth 20000 in
set_option maxHeartbeats 2000000 in
theorem come_any (gf gT cT gN gM n gt gb : Nat) (T : List Bg) (t : Tr) (hV : Valid T t) (hn : n = T.length) (vT : Value) (hord : 0 < gt ∧ gt < gN ∧ gt < gM ∧ gN ≠ gf ∧ gM ≠ gf ∧ gN ≠ gM ∧ gN ≠ gb ∧ gM ≠ gb)
    (N : Nat → Nd) (m : Nat) (w : World) (hS : FSt gf gT cT gN gM n N m w) (ht : row? w gt = some #[vT]) (hb : row? w gb = some #[.pointer (some ⟨gf, 0, none⟩)]) (hvT : Rd bagA 17 gt w vT T) (hTab : TabOk w)
    (b p : Nat) (x : Bg) (hx : T[b]? = some x) (hp : x.1 = p) (d : Nat) (hd : (N p).deep = d) (hd2 : d ≤ 100000) (hm : m + 1024 ≤ 100000000) :
    Calls Tryz.prog 91 #[.int .i64 (b : Int), .pointer (some ⟨gt, 0, none⟩), .pointer (some ⟨gb, 0, none⟩)] w
      fun e w' => (∃ v, e = .returned v) ∧ FSt gf gT cT gN gM n (upd N b { N b with deep := (d : Int) + 1 }) (m + 1024) w' ∧ Same (fun k => k ≠ gN ∧ k ≠ gM) w w' := by
  have HvT := Lib.hid hvT
  obtain ⟨a, c, rfl, hr⟩ := hvT
  have hbl : b < T.length := (List.getElem?_eq_some_iff.1 hx).1
  have hpl : p < T.length := by
    rcases hV.par b x hx with h | ⟨q, h, hq⟩
    · omega
    · have : q = p := by omega
      omega
  obtain ⟨y, hy⟩ : ∃ y, T[p]? = some y := ⟨_, List.getElem?_eq_getElem hpl⟩
  have hle := hV.le
  rcases hr with h | ⟨bT, oT, rfl, hbT, hc⟩
  · rw [h] at hbl; simp at hbl
  have hB0 := Below.refl gt w
  obtain ⟨-, -, hcx⟩ := tree_load hc hB0 hbT hx
  obtain ⟨l1, l2, l3⟩ := And.intro hS.frame (And.intro ht hb)
  have e1 : w.cell? ⟨gt, 0, none⟩ = _ := cell?_row (i := 0) ht
  have e2 : w.cell? ⟨gb, 0, none⟩ = _ := cell?_row (i := 0) hb
  have e3 : w.cell? ⟨gf, 1, none⟩ = _ := cell?_row (i := 1) hS.frame
  have e4 : w.cell? ⟨gN, p * 5 + 4, none⟩ = _ := cell?_row (i := p * 5 + 4) hS.nodes
  have e5 : w.cell? ⟨gN, b * 5 + 4, none⟩ = _ := cell?_row (i := b * 5 + 4) hS.nodes
  rw [nodeC_get _ (by omega) (by omega)] at e4 e5
  simp [Nd.cells, hd] at e1 e2 e3 e4 e5
  have f5 := frozen?_row (i := b * 5 + 4) hS.nodes
  have s1 := row?_lt hb
  have s2 := row?_lt ht
  have s3 := row?_lt hS.frame
  have s4 := row?_lt hS.nodes
  have s5 : bT < w.heap.size := by omega
  have HC := Lib.hid hc
  have HX := Lib.hid hx
  have HY := Lib.hid hy
  have HS := Lib.hid hS
  have HT := Lib.hid ht
  have HB := Lib.hid hb
  have HTab := Lib.hid hTab
  have HV := Lib.hid hV
  obtain ⟨q, S⟩ := x
  simp only at hp
  subst hp
  have hge : decide ((0 : Int) ≤ (p : Int)) = true := decide_eq_true (by omega)
  subst hn
  obtain ⟨o1, o2, o3, o4, o5, o6, o7, o8⟩ := hord
  clear hc hx hy hS ht hb hTab hV l1 l2 l3 hB0
  refine calls_of_wp_marks Tryz.func91 rfl ?_
  simp only [Tryz.ntmps91, List.size_toArray, List.length_cons, List.length_nil, Nat.reduceAdd, Nat.reduceSub, Array.replicate_succ, Array.replicate_zero, List.push_toArray, List.append_toArray, List.nil_append, List.cons_append]
  go_wp2_with fail
  obtain ⟨W, hW⟩ : ∃ W, W = (w.alloc (Obj.cells #[.int .i64 (b : Int)] 3)).alloc (Obj.cells (words 0) 40) := ⟨_, rfl⟩
  have hWs : W.heap.size = w.heap.size + 2 := by rw [hW]; simp
  have hWk : ∀ k, k < w.heap.size → W.heap[k]? = w.heap[k]? := fun k hk => by rw [hW]; exact (Below.heap_alloc _ _ k (by simp; omega)).trans (Below.heap_alloc _ _ k hk)
  have hsame : Same (fun _ => True) w W := by rw [hW]; exact (Same.alloc _ _ _).trans (Same.alloc _ _ _)
  have hSW := HS.out.of_same hWk
  have htW : row? W gt = some #[.slice (some ⟨bT, oT, none⟩) T.length c] := (row?_congr (hWk gt s2)).trans HT.out
  have hbW : row? W gb = some #[.pointer (some ⟨gf, 0, none⟩)] := (row?_congr (hWk gb s1)).trans HB.out
  have h1W : row? W w.heap.size = some #[.int .i64 (b : Int)] := by rw [hW]; simp [go_sem]
  have h2W : row? W (w.heap.size + 1) = some (words 0) := by rw [hW]; simp [go_sem]
  have c1 : W.cell? ⟨gt, 0, none⟩ = _ := cell?_row (i := 0) htW
  have c2 : W.cell? ⟨gb, 0, none⟩ = _ := cell?_row (i := 0) hbW
  have c3 : W.cell? ⟨gf, 1, none⟩ = _ := cell?_row (i := 1) hSW.frame
  have c4 : W.cell? ⟨gN, p * 5 + 4, none⟩ = _ := cell?_row (i := p * 5 + 4) hSW.nodes
  have c5 : W.cell? ⟨gN, b * 5 + 4, none⟩ = _ := cell?_row (i := b * 5 + 4) hSW.nodes
  have c6 : W.cell? ⟨w.heap.size, 0, none⟩ = _ := cell?_row (i := 0) h1W
  rw [nodeC_get _ (by omega) (by omega)] at c4 c5
  simp [Nd.cells, hd] at c1 c2 c3 c4 c5 c6
  have g5 := frozen?_row (i := b * 5 + 4) hSW.nodes
  rw [← hW]
  have HSW := Lib.hid hSW
  clear hW e1 e2 e3 e4 e5 f5 hcx hSW
  refine wp_region_free_tail (fun w' => w' = W.drew) 14 (by kernel_rfl) (by kernel_rfl) rfl ?_
  simp only [List.take_succ_cons, List.take_zero, List.drop_succ_cons, List.drop_zero]
  repeat (apply wpFree_still; (intro w hw; subst hw; go_simp; (try go_ints); (first | with_reducible rfl | (go_simp; with_reducible rfl))); with_reducible rfl; (intro K hK; go_simp; (try go_ints); refine hK _ ?_; clear hK K))
  with_reducible refine wpFree_nil ?_
  rintro w' rfl
  go_wp2_with fail
  have hgN : gN < W.heap.size := row?_lt HSW.out.nodes
  have hfW : Hid (FSt gf gT cT gN gM T.length (upd N b { N b with deep := (d : Int) + 1 }) m (W.setCell ⟨gN, b * 5 + 4, none⟩ (.int .i64 ((d : Int) + 1))).drew) := by
    refine ⟨?_, ?_, ?_⟩
    · rw [row?_drew, row?_setCell_other _ _ _ _ _ (by omega)]
      exact HSW.out.frame
    · rw [row?_drew, row?_setCell_same, HSW.out.nodes, ← nodeC_set N hbl (by omega : 4 < 5) (v := .int .i64 ((d : Int) + 1)) (by simp [Nd.cells])]
      rfl
    · obtain ⟨D, es, clock, h1, h2⟩ := HSW.out.map
      exact ⟨D, es, clock, (heap_setCell_other _ _ _ _ (by show gM ≠ gN; omega)).trans h1, h2⟩
  obtain ⟨W2, hW2⟩ : ∃ W2, W2 = (W.setCell ⟨gN, b * 5 + 4, none⟩ (.int .i64 ((d : Int) + 1))).drew := ⟨_, rfl⟩
  rw [← hW2] at hfW
  have hs2 : W2.heap.size = w.heap.size + 2 := by rw [hW2]; simpa using hWs
  have hsm2 : Same (fun k => k ≠ gN ∧ k ≠ gM) w W2 := by
    rw [hW2]
    exact ((hsame.mono fun _ _ _ => trivial).trans (Same.setCell _ _ _ _ (by simp))).trans (Same.drew _ _)
  have hk2 : ∀ k, k ≠ gN → row? W2 k = row? W k := fun k hk => by rw [hW2, row?_drew, row?_setCell_other _ _ _ _ _ hk]
  have ht2 := (hk2 gt (by omega)).trans htW
  have hb2 := (hk2 gb (by omega)).trans hbW
  have h12 := (hk2 w.heap.size (by omega)).trans h1W
  have h22 := (hk2 (w.heap.size + 1) (by omega)).trans h2W
  have hB2 : Below gt w W2 := hsm2.below (by omega) fun k hk => ⟨by omega, by omega⟩
  have hl5 := (tree_load HC.out hB2 hbT HY.out).2.1
  have d1 : W2.cell? ⟨gt, 0, none⟩ = _ := cell?_row (i := 0) ht2
  simp at d1
  have hyS : (words 0).size = 16 := words_size 0
  have HW2 := Lib.hid hW2
  clear hW2 c1 c2 c3 c4 c5 c6 g5 htW hbW h1W h2W hWk hWs hsame hk2
  have e0 : (W.setCell ⟨gN, b * 5 + 4, none⟩ (.int .i64 ((d : Int) + 1))).drew = W2 := HW2.out.symm
  rw [e0]
  clear e0
  go_wp2_with fail
  obtain ⟨W3, hW3⟩ : ∃ W3, W3 = W2.setRow (w.heap.size + 1) (words y.2) := ⟨_, rfl⟩
  have hs3 : W3.heap.size = w.heap.size + 2 := by rw [hW3]; simpa using hs2
  have hsm3 : Same (fun k => k ≠ gN ∧ k ≠ gM) w W3 := by
    rw [hW3]
    exact ⟨hsm2.os, hsm2.tape, hsm2.output, by simpa using hsm2.size, fun k hk ha => (setRow_other _ _ _ _ (by omega)).trans (hsm2.block k hk ha)⟩
  have hk3 : ∀ k, k ≠ w.heap.size + 1 → W3.heap[k]? = W2.heap[k]? := fun k hk => by rw [hW3, setRow_other _ _ _ _ hk]
  have ht3 := (row?_congr (hk3 gt (by omega))).trans ht2
  have hb3 := (row?_congr (hk3 gb (by omega))).trans hb2
  have h13 := (row?_congr (hk3 w.heap.size (by omega))).trans h12
  have h23 : row? W3 (w.heap.size + 1) = some (words y.2) := by rw [hW3]; exact row?_setRow_same _ _ _ (by rw [h22]; rfl)
  have hB3 : Below gt w W3 := hsm3.below (by omega) fun k hk => ⟨by omega, by omega⟩
  have HF3 := Lib.hid (hfW.out.of_three (hk3 gf (by omega)) (hk3 gN (by omega)) (hk3 gM (by have := HS.out.gM_lt; omega)))
  rw [← hW3]
  have hTop : topS T b = sDiff S y.2 := topS_other HX.out rfl HY.out
  clear hW3 hk3 ht2 hb2 h12 h22 hB2 hsm2 hl5 d1 hfW HW2
  have hl6 := (tree_load HC.out hB3.drew hbT HX.out).2.1
  have c1 : W3.cell? ⟨gt, 0, none⟩ = _ := cell?_row (i := 0) ht3
  have c6 : W3.cell? ⟨w.heap.size, 0, none⟩ = _ := cell?_row (i := 0) h13
  simp at c1 c6
  refine wp_region_free_tail (fun w' => w' = W3.drew) 6 (by kernel_rfl) (by kernel_rfl) rfl ?_
  simp only [List.take_succ_cons, List.take_zero, List.drop_succ_cons, List.drop_zero]
  repeat (apply wpFree_still; (intro w hw; subst hw; go_simp; (try go_ints); (first | with_reducible rfl | (go_simp; with_reducible rfl))); with_reducible rfl; (intro K hK; go_simp; (try go_ints); refine hK _ ?_; clear hK K))
  with_reducible refine wpFree_nil ?_
  rintro w' rfl
  go_wp2_with fail
  refine (minus_any _ _ _).mono ?_
  rintro e w4 ⟨rfl, hb4⟩
  have hs4 := hb4.size
  simp only [World.size_drew] at hs4
  have hsm4 : Same (fun k => k ≠ gN ∧ k ≠ gM) w w4 := (hsm3.trans (Same.drew _ _)).trans ((Same.of_below hb4).mono fun k hk _ => hk)
  have hk4 : ∀ k, k < W3.heap.size → w4.heap[k]? = W3.heap[k]? := fun k hk => hb4.block k hk
  have HF4 := Lib.hid (HF3.out.of_same hk4)
  have HTop := Lib.hid hTop
  clear hl6 c1 c6 hb4
  go_wp2_with fail
  refine (all_any _ _).mono ?_
  rintro e w5 ⟨rfl, hw5⟩
  obtain ⟨N3, hN3⟩ : ∃ N3, N3 = upd N b { N b with deep := (d : Int) + 1 } := ⟨_, rfl⟩
  rw [← hN3] at HF4
  have HN3 := Lib.hid hN3
  clear hN3 HF3
  have hs5 : w5.heap.size = w4.heap.size + 1 := by rw [← hw5]; simp
  have hk5 : ∀ k, k < w4.heap.size → w5.heap[k]? = w4.heap[k]? := fun k hk => by rw [← hw5]; exact Below.heap_alloc _ _ k hk
  have hE5 : row? w5 w4.heap.size = some (words (topS T b)) := by rw [HTop.out, ← hw5]; simp [go_sem]
  have HF5 := Lib.hid (HF4.out.of_same hk5)
  have hk35 : ∀ k, k < W3.heap.size → w5.heap[k]? = W3.heap[k]? := fun k hk => (hk5 k (by omega)).trans (hk4 k hk)
  have h15 := (row?_congr (hk35 w.heap.size (by omega))).trans h13
  have hb5 := (row?_congr (hk35 gb (by omega))).trans hb3
  have hsm5 : Same (fun k => k ≠ gN ∧ k ≠ gM) w w5 := by rw [← hw5]; exact hsm4.trans (Same.alloc _ _ _)
  have hT5 : TabOk w5 := HTab.out.same (hsm5.block _ (by omega) ⟨by omega, by omega⟩)
  have hgM := HF5.out.gM_lt
  have hgMw := HS.out.gM_lt
  have c3 : w5.cell? ⟨gf, 2, none⟩ = _ := cell?_row (i := 2) HF5.out.frame
  have c2 : w5.cell? ⟨gb, 0, none⟩ = _ := cell?_row (i := 0) hb5
  have c1 : w5.cell? ⟨w.heap.size, 0, none⟩ = _ := cell?_row (i := 0) h15
  simp at c1 c2 c3
  have hw5s : w.heap.size + 3 ≤ w5.heap.size := by omega
  clear hw5 hk4 hk5 hk35 hs4 hsm3 hsm4 ht3 hb3 h13 h23 hB3 h15 hb5
  go_wp2_with fail
  refine (wpIn_wide (n := 0)).1 ?_
  refine wpIn_range_set 0 6 rfl (fun args w => by simp [go_sem]) (by omega) (enc := fun n : Nat => .int .i64 (n : Int)) (xs := elems (topS T b))
    (fun W hW _ => all1_iterates w4.heap.size (topS T b) (HV.out.isSet_top b) W ((row?_below hW (by omega)).trans hE5) (hT5.below hW (by omega)) (by have := hW.size; omega))
    (fun _ pre W => FSt gf gT cT gN gM T.length N3 (m + pre.length) W ∧ Same (fun k => k < w5.heap.size ∧ k ≠ gM) w5 W) ?_ ?_ ?_ ?_ ?_
  · rintro M pre W6 W7 hM hMW ⟨hF, hs⟩ hsame
    exact ⟨hF.of_three (hsame.block _ (row?_lt hF.frame) (.inl (by omega))) (hsame.block _ (row?_lt hF.nodes) (.inl (by omega))) (hsame.block _ hF.gM_lt (.inl (by omega))), hs.trans (hsame.mono fun k _ h => .inl h.1)⟩
  · intro M W6 _ _ hb6
    exact ⟨HF5.out.of_same hb6.block, (Same.of_below hb6).mono fun k _ h => h.1⟩
  · intro l x W6 K hK
    gi_wp2
    exact hK
  · rintro l M pre x W6 hM hMW ⟨hF, hs⟩ ⟨r, hr⟩
    have hxl : x < 1024 := elems_lt (S := topS T b) (by rw [hr]; simp)
    have k1 : W6.cell? ⟨w.heap.size, 0, none⟩ = _ := (World.cell?_of_block (hs.block w.heap.size (by omega) ⟨by omega, by omega⟩)).trans c1
    have k2 : W6.cell? ⟨gb, 0, none⟩ = _ := (World.cell?_of_block (hs.block gb (by omega) ⟨by omega, by omega⟩)).trans c2
    have k3 : W6.cell? ⟨gf, 2, none⟩ = _ := (World.cell?_of_block (hs.block gf (by omega) ⟨by omega, by omega⟩)).trans c3
    have HF := Lib.hid hF
    have Hs := Lib.hid hs
    have hlen : pre.length ≤ 1024 := by have := elems_length (topS T b); rw [hr] at this; simp at this; omega
    clear hF hs
    gi_wp2_with fail
    refine wpIn_round_free_tail (fun w' => w' = W6.drew) 6 (by kernel_rfl) (by kernel_rfl) (by kernel_rfl) (by rintro ⟨a', w', h'⟩; exact h') rfl ?_
    simp only [List.take_succ_cons, List.take_zero, List.drop_succ_cons, List.drop_zero]
    repeat (apply wpFree_still; (intro w hw; subst hw; go_simp; (try go_ints); (first | with_reducible rfl | (go_simp; with_reducible rfl))); with_reducible rfl; (intro K hK; go_simp; (try go_ints); refine hK _ ?_; clear hK K))
    with_reducible refine wpFree_nil ?_
    rintro w' rfl
    obtain ⟨D, hD⟩ := HF.out.map
    refine wpList_mapUpdate_own _ rfl _ _ _ 119 rfl 3 3 keyedInt Tryz.underlying119 _ gM (m + pre.length) D rfl hD.drew (by unfold maxLen; omega) _ _ _ rfl rfl (keyOf_int_mk Tryz.underlying3 (wf_nat (by omega))) _ [] (plainElem_int Tryz.underlying3 (wf_nat (by omega))) ?_
    intro w7 hown7 hg7
    have hS7 : Same (fun k => k ≠ gM) W6 w7 := (Same.drew _ _).trans ((Same.of_grown hg7).mono fun k _ h => by simpa using h)
    refine ⟨⟨⟨?_, ?_, ?_⟩, ?_⟩, ?_⟩
    · exact (row?_congr (hS7.block _ (row?_lt HF.out.frame) (by omega))).trans HF.out.frame
    · exact (row?_congr (hS7.block _ (row?_lt HF.out.nodes) (by omega))).trans HF.out.nodes
    · exact ⟨_, by rw [List.length_append]; exact hown7⟩
    · exact Hs.out.trans (hS7.mono fun k _ h => h.2)
    · exact hS7.mono fun k _ h => by omega
  · rintro D M W6 hD hDM hM ⟨hF, hs⟩ hK
    have HF := Lib.hid hF
    have Hs := Lib.hid hs
    have HK := Lib.hid hK
    clear hF hs hK
    go_wp2_with fail
    refine ⟨by simp, .inl ⟨_, _, rfl, run_takeDeferred HK.out, ?_⟩⟩
    have hp : Same (fun k => k ≠ D) W6 (W6.putObj D (.deferred none)) := Same.putObj _ W6 D _ (by simp)
    refine ⟨_, results_none rfl _ _ _, ⟨_, rfl⟩, ?_, ?_⟩
    · have h1 := HF.out.of_three (hp.block _ (row?_lt HF.out.frame) (by omega)) (hp.block _ (row?_lt HF.out.nodes) (by omega)) (hp.block _ HF.out.gM_lt (by omega))
      rw [HN3.out] at h1
      exact h1.mono (by have := elems_length (topS T b); omega)
    · exact hsm5.trans ((Hs.out.trans (hp.mono fun k _ h => by omega)).mono fun k hk h => ⟨by omega, h.2⟩)

theorem sDiff_zero (S : Nat) : sDiff S 0 = S := Nat.eq_of_testBit_eq fun m => by rw [sDiff_testBit]; simp

set_option maxRecDepth 20000 in
set_option maxHeartbeats 2000000 in
theorem come_root (gf gT cT gN gM n gt gb : Nat) (T : List Bg) (t : Tr) (hV : Valid T t) (hn : n = T.length) (vT : Value) (hord : 0 < gt ∧ gt < gN ∧ gt < gM ∧ gN ≠ gf ∧ gM ≠ gf ∧ gN ≠ gM ∧ gN ≠ gb ∧ gM ≠ gb)
    (N : Nat → Nd) (m : Nat) (w : World) (hS : FSt gf gT cT gN gM n N m w) (ht : row? w gt = some #[vT]) (hb : row? w gb = some #[.pointer (some ⟨gf, 0, none⟩)]) (hvT : Rd bagA 17 gt w vT T) (hTab : TabOk w)
    (b : Nat) (x : Bg) (hx : T[b]? = some x) (hp : x.1 = -1) (hm : m + 1024 ≤ 100000000) :
    Calls Tryz.prog 91 #[.int .i64 (b : Int), .pointer (some ⟨gt, 0, none⟩), .pointer (some ⟨gb, 0, none⟩)] w
      fun e w' => (∃ v, e = .returned v) ∧ FSt gf gT cT gN gM n N (m + 1024) w' ∧ Same (fun k => k ≠ gN ∧ k ≠ gM) w w' := by
  have HvT := Lib.hid hvT
  obtain ⟨a, c, rfl, hr⟩ := hvT
  have hbl : b < T.length := (List.getElem?_eq_some_iff.1 hx).1
  have hle := hV.le
  rcases hr with h | ⟨bT, oT, rfl, hbT, hc⟩
  · rw [h] at hbl; simp at hbl
  have hB0 := Below.refl gt w
  obtain ⟨-, -, hcx⟩ := tree_load hc hB0 hbT hx
  have e1 : w.cell? ⟨gt, 0, none⟩ = _ := cell?_row (i := 0) ht
  simp at e1
  have s1 := row?_lt hb
  have s2 := row?_lt ht
  have s3 := row?_lt hS.frame
  have s4 := row?_lt hS.nodes
  have s5 : bT < w.heap.size := by omega
  have HC := Lib.hid hc
  have HX := Lib.hid hx
  have HS := Lib.hid hS
  have HT := Lib.hid ht
  have HB := Lib.hid hb
  have HTab := Lib.hid hTab
  have HV := Lib.hid hV
  obtain ⟨q, S⟩ := x
  simp only at hp
  subst hp
  have hge : decide ((0 : Int) ≤ -1) = false := by decide
  subst hn
  obtain ⟨o1, o2, o3, o4, o5, o6, o7, o8⟩ := hord
  clear hc hx hS ht hb hTab hV hB0
  refine calls_of_wp_marks Tryz.func91 rfl ?_
  simp only [Tryz.ntmps91, List.size_toArray, List.length_cons, List.length_nil, Nat.reduceAdd, Nat.reduceSub, Array.replicate_succ, Array.replicate_zero, List.push_toArray, List.append_toArray, List.nil_append, List.cons_append]
  go_wp2_with fail
  obtain ⟨W3, hW⟩ : ∃ W, W = (w.alloc (Obj.cells #[.int .i64 (b : Int)] 3)).alloc (Obj.cells (words 0) 40) := ⟨_, rfl⟩
  have hs3 : W3.heap.size = w.heap.size + 2 := by rw [hW]; simp
  have hWk : ∀ k, k < w.heap.size → W3.heap[k]? = w.heap[k]? := fun k hk => by rw [hW]; exact (Below.heap_alloc _ _ k (by simp; omega)).trans (Below.heap_alloc _ _ k hk)
  have hsm3 : Same (fun k => k ≠ gN ∧ k ≠ gM) w W3 := by rw [hW]; exact (Same.alloc _ _ _).trans (Same.alloc _ _ _)
  have HF3 := Lib.hid (HS.out.of_same hWk)
  have ht3 : row? W3 gt = some #[.slice (some ⟨bT, oT, none⟩) T.length c] := (row?_congr (hWk gt s2)).trans HT.out
  have hb3 : row? W3 gb = some #[.pointer (some ⟨gf, 0, none⟩)] := (row?_congr (hWk gb s1)).trans HB.out
  have h13 : row? W3 w.heap.size = some #[.int .i64 (b : Int)] := by rw [hW]; simp [go_sem]
  have h23 : row? W3 (w.heap.size + 1) = some (words 0) := by rw [hW]; simp [go_sem]
  have hB3 : Below gt w W3 := hsm3.below (by omega) fun k hk => ⟨by omega, by omega⟩
  have hTop : topS T b = sDiff S 0 := (topS_root HX.out rfl).trans (sDiff_zero S).symm
  rw [← hW]
  clear hW hWk e1 hcx
  have hl6 := (tree_load HC.out hB3.drew hbT HX.out).2.1
  have c1 : W3.cell? ⟨gt, 0, none⟩ = _ := cell?_row (i := 0) ht3
  have c6 : W3.cell? ⟨w.heap.size, 0, none⟩ = _ := cell?_row (i := 0) h13
  simp at c1 c6
  refine wp_region_free_tail (fun w' => w' = W3.drew) 6 (by kernel_rfl) (by kernel_rfl) rfl ?_
  simp only [List.take_succ_cons, List.take_zero, List.drop_succ_cons, List.drop_zero]
  repeat (apply wpFree_still; (intro w hw; subst hw; go_simp; (try go_ints); (first | with_reducible rfl | (go_simp; with_reducible rfl))); with_reducible rfl; (intro K hK; go_simp; (try go_ints); refine hK _ ?_; clear hK K))
  with_reducible refine wpFree_nil ?_
  rintro w' rfl
  go_wp2_with fail
  refine (minus_any _ _ _).mono ?_
  rintro e w4 ⟨rfl, hb4⟩
  have hs4 := hb4.size
  simp only [World.size_drew] at hs4
  have hsm4 : Same (fun k => k ≠ gN ∧ k ≠ gM) w w4 := (hsm3.trans (Same.drew _ _)).trans ((Same.of_below hb4).mono fun k hk _ => hk)
  have hk4 : ∀ k, k < W3.heap.size → w4.heap[k]? = W3.heap[k]? := fun k hk => hb4.block k hk
  have HF4 := Lib.hid (HF3.out.of_same hk4)
  have HTop := Lib.hid hTop
  clear hl6 c1 c6 hb4
  go_wp2_with fail
  refine (all_any _ _).mono ?_
  rintro e w5 ⟨rfl, hw5⟩
  obtain ⟨N3, hN3⟩ : ∃ N3, N3 = N := ⟨_, rfl⟩
  rw [← hN3] at HF4
  have HN3 := Lib.hid hN3
  clear hN3 HF3
  have hs5 : w5.heap.size = w4.heap.size + 1 := by rw [← hw5]; simp
  have hk5 : ∀ k, k < w4.heap.size → w5.heap[k]? = w4.heap[k]? := fun k hk => by rw [← hw5]; exact Below.heap_alloc _ _ k hk
  have hE5 : row? w5 w4.heap.size = some (words (topS T b)) := by rw [HTop.out, ← hw5]; simp [go_sem]
  have HF5 := Lib.hid (HF4.out.of_same hk5)
  have hk35 : ∀ k, k < W3.heap.size → w5.heap[k]? = W3.heap[k]? := fun k hk => (hk5 k (by omega)).trans (hk4 k hk)
  have h15 := (row?_congr (hk35 w.heap.size (by omega))).trans h13
  have hb5 := (row?_congr (hk35 gb (by omega))).trans hb3
  have hsm5 : Same (fun k => k ≠ gN ∧ k ≠ gM) w w5 := by rw [← hw5]; exact hsm4.trans (Same.alloc _ _ _)
  have hT5 : TabOk w5 := HTab.out.same (hsm5.block _ (by omega) ⟨by omega, by omega⟩)
  have hgM := HF5.out.gM_lt
  have hgMw := HS.out.gM_lt
  have c3 : w5.cell? ⟨gf, 2, none⟩ = _ := cell?_row (i := 2) HF5.out.frame
  have c2 : w5.cell? ⟨gb, 0, none⟩ = _ := cell?_row (i := 0) hb5
  have c1 : w5.cell? ⟨w.heap.size, 0, none⟩ = _ := cell?_row (i := 0) h15
  simp at c1 c2 c3
  have hw5s : w.heap.size + 3 ≤ w5.heap.size := by omega
  clear hw5 hk4 hk5 hk35 hs4 hsm3 hsm4 ht3 hb3 h13 h23 hB3 h15 hb5
  go_wp2_with fail
  refine (wpIn_wide (n := 0)).1 ?_
  refine wpIn_range_set 0 6 rfl (fun args w => by simp [go_sem]) (by omega) (enc := fun n : Nat => .int .i64 (n : Int)) (xs := elems (topS T b))
    (fun W hW _ => all1_iterates w4.heap.size (topS T b) (HV.out.isSet_top b) W ((row?_below hW (by omega)).trans hE5) (hT5.below hW (by omega)) (by have := hW.size; omega))
    (fun _ pre W => FSt gf gT cT gN gM T.length N3 (m + pre.length) W ∧ Same (fun k => k < w5.heap.size ∧ k ≠ gM) w5 W) ?_ ?_ ?_ ?_ ?_
  · rintro M pre W6 W7 hM hMW ⟨hF, hs⟩ hsame
    exact ⟨hF.of_three (hsame.block _ (row?_lt hF.frame) (.inl (by omega))) (hsame.block _ (row?_lt hF.nodes) (.inl (by omega))) (hsame.block _ hF.gM_lt (.inl (by omega))), hs.trans (hsame.mono fun k _ h => .inl h.1)⟩
  · intro M W6 _ _ hb6
    exact ⟨HF5.out.of_same hb6.block, (Same.of_below hb6).mono fun k _ h => h.1⟩
  · intro l x W6 K hK
    gi_wp2
    exact hK
  · rintro l M pre x W6 hM hMW ⟨hF, hs⟩ ⟨r, hr⟩
    have hxl : x < 1024 := elems_lt (S := topS T b) (by rw [hr]; simp)
    have k1 : W6.cell? ⟨w.heap.size, 0, none⟩ = _ := (World.cell?_of_block (hs.block w.heap.size (by omega) ⟨by omega, by omega⟩)).trans c1
    have k2 : W6.cell? ⟨gb, 0, none⟩ = _ := (World.cell?_of_block (hs.block gb (by omega) ⟨by omega, by omega⟩)).trans c2
    have k3 : W6.cell? ⟨gf, 2, none⟩ = _ := (World.cell?_of_block (hs.block gf (by omega) ⟨by omega, by omega⟩)).trans c3
    have HF := Lib.hid hF
    have Hs := Lib.hid hs
    have hlen : pre.length ≤ 1024 := by have := elems_length (topS T b); rw [hr] at this; simp at this; omega
    clear hF hs
    gi_wp2_with fail
    refine wpIn_round_free_tail (fun w' => w' = W6.drew) 6 (by kernel_rfl) (by kernel_rfl) (by kernel_rfl) (by rintro ⟨a', w', h'⟩; exact h') rfl ?_
    simp only [List.take_succ_cons, List.take_zero, List.drop_succ_cons, List.drop_zero]
    repeat (apply wpFree_still; (intro w hw; subst hw; go_simp; (try go_ints); (first | with_reducible rfl | (go_simp; with_reducible rfl))); with_reducible rfl; (intro K hK; go_simp; (try go_ints); refine hK _ ?_; clear hK K))
    with_reducible refine wpFree_nil ?_
    rintro w' rfl
    obtain ⟨D, hD⟩ := HF.out.map
    refine wpList_mapUpdate_own _ rfl _ _ _ 119 rfl 3 3 keyedInt Tryz.underlying119 _ gM (m + pre.length) D rfl hD.drew (by unfold maxLen; omega) _ _ _ rfl rfl (keyOf_int_mk Tryz.underlying3 (wf_nat (by omega))) _ [] (plainElem_int Tryz.underlying3 (wf_nat (by omega))) ?_
    intro w7 hown7 hg7
    have hS7 : Same (fun k => k ≠ gM) W6 w7 := (Same.drew _ _).trans ((Same.of_grown hg7).mono fun k _ h => by simpa using h)
    refine ⟨⟨⟨?_, ?_, ?_⟩, ?_⟩, ?_⟩
    · exact (row?_congr (hS7.block _ (row?_lt HF.out.frame) (by omega))).trans HF.out.frame
    · exact (row?_congr (hS7.block _ (row?_lt HF.out.nodes) (by omega))).trans HF.out.nodes
    · exact ⟨_, by rw [List.length_append]; exact hown7⟩
    · exact Hs.out.trans (hS7.mono fun k _ h => h.2)
    · exact hS7.mono fun k _ h => by omega
  · rintro D M W6 hD hDM hM ⟨hF, hs⟩ hK
    have HF := Lib.hid hF
    have Hs := Lib.hid hs
    have HK := Lib.hid hK
    clear hF hs hK
    go_wp2_with fail
    refine ⟨by simp, .inl ⟨_, _, rfl, run_takeDeferred HK.out, ?_⟩⟩
    have hp : Same (fun k => k ≠ D) W6 (W6.putObj D (.deferred none)) := Same.putObj _ W6 D _ (by simp)
    refine ⟨_, results_none rfl _ _ _, ⟨_, rfl⟩, ?_, ?_⟩
    · have h1 := HF.out.of_three (hp.block _ (row?_lt HF.out.frame) (by omega)) (hp.block _ (row?_lt HF.out.nodes) (by omega)) (hp.block _ HF.out.gM_lt (by omega))
      rw [HN3.out] at h1
      exact h1.mono (by have := elems_length (topS T b); omega)
    · exact hsm5.trans ((Hs.out.trans (hp.mono fun k _ h => by omega)).mono fun k hk h => ⟨by omega, h.2⟩)
end Go.Proofs.YtoboncfgogjllaaGreatDoor
namespace Go.Proofs.YtoboncfgogjllaaGreatDoor
open Go Go.RowKit Go.Pal Go.Shelf Go.Sort

theorem new31_any (box gN o : Nat) (k h : Int) (w : World) (h1 : row? w box = some #[.pointer (some ⟨gN, o, none⟩)]) (h2 : w.cell? ⟨gN, o + 3, none⟩ = some (.int .i64 h)) :
    Calls Tryz.prog 94 #[.int .i64 k, .pointer (some ⟨box, 0, none⟩)] w fun e w' => e = .returned (.bool (k == h)) ∧ w' = w := by
  have e1 : w.cell? ⟨box, 0, none⟩ = _ := cell?_row (i := 0) h1
  simp at e1
  clear h1
  go_enter Tryz.func94, Tryz.ntmps94
  go_wp2
  go_ret
  exact ⟨rfl, rfl⟩

theorem deleteNil_any (fv : Value) (w : World) : Calls Tryz.prog 93 #[.slice none 0 0, fv] w fun e w' => e = .returned (.slice none 0 0) ∧ w' = w := by
  have HI := AnyE.slices_IndexFunc_empty (P := Tryz.prog) (ρ := Tryz.laysDeleteFuncI_ren) { Tryz.laysDeleteFuncI with } none 0 fv w
  go_enter Tryz.func93, Tryz.ntmps93
  go_wp2_with (go_at_call 136; refine HI.mono ?_; rintro e w' ⟨rfl, rfl⟩)
  go_ret
  exact ⟨rfl, rfl⟩

theorem heap_sortWorld {α : Type} [Inhabited α] (enc : α → Value) (w : World) (blk off n : Nat) (dk : Array α) (os : Array Obj) (k : Nat) (hk : k < w.heap.size) (hne : k ≠ blk) : (sortWorld enc w blk off n dk os).heap[k]? = w.heap[k]? := by
  unfold sortWorld grow putRow mapBlock Sort.ahead
  simp only
  rw [Array.getElem?_append_left (by simpa using hk), Array.getElem?_modify, if_neg (fun e => hne e.symm)]

theorem take_putCells (fl : List Int) (m : Nat) (cur : Array Value) (h : fl.length ≤ cur.size) : (putCells (Value.int .i64) 0 (fl ++ List.replicate m 0).toArray cur).toList.take (fl.length * 1) = fl.map (Value.int .i64) := by
  apply List.ext_getElem?
  intro j
  rw [List.getElem?_take, List.getElem?_map, Array.getElem?_toList]
  by_cases hj : j < fl.length
  · rw [if_pos (by omega)]
    unfold putCells
    rw [Array.getElem?_mapIdx, Array.getElem?_eq_getElem (by omega), List.getElem?_eq_getElem hj]
    simp only [Option.map_some]
    rw [if_pos ⟨Nat.zero_le _, by simp; omega⟩]
    rw [getElem!_pos _ _ (by simp; omega)]
    simp [List.getElem_append_left hj]
  · rw [if_neg (by omega), List.getElem?_eq_none (by omega)]
    rfl

theorem filter_any (B : Nat) (ns : List Int) (v : Value) (w : World) (hO : OwnI B w v ns) (box gN o : Nat) (h : Int) (hbox : box < B) (hgN : gN < B) (h1 : row? w box = some #[.pointer (some ⟨gN, o, none⟩)]) (h2 : w.cell? ⟨gN, o + 3, none⟩ = some (.int .i64 h)) (hlen : ns.length ≤ 65536) :
    Calls Tryz.prog 93 #[v, .func (.func 94) #[] #[.pointer (some ⟨box, 0, none⟩)]] w fun e w' => ∃ v', e = .returned v' ∧ OwnI B w' v' (ns.filter fun k => !(k == h)) ∧ v'.ownBlock = v.ownBlock ∧ Same (fun k => some k ≠ v.ownBlock) w w' := by
  rcases hO.2 with ⟨rfl, hn⟩ | ⟨g, cap, cur, rfl, hg, hh, hc1, hc2, hc3, hc4⟩
  · have : ns = [] := List.length_eq_zero_iff.1 hn
    subst this
    refine (deleteNil_any _ w).mono ?_
    rintro e w' ⟨rfl, rfl⟩
    exact ⟨_, rfl, OwnI.nil _ _, rfl, Same.refl _ _⟩
  · have hbs := row?_lt h1
    have hgs := (Array.getElem?_eq_some_iff.1 hh).1
    have hgN2 : gN < w.heap.size := by omega
    have hd : ∀ j, j < ns.length → w.cell? ⟨g, 0 + j, none⟩ = some (.int .i64 ns.toArray[j]!) := by
      intro j hj
      obtain ⟨g', e, _, _, hc⟩ := hO.cell (j := j) (z := ns[j]) (by rw [List.getElem?_eq_getElem hj])
      cases e
      rw [Nat.zero_add, hc, getElem!_pos ns.toArray j (by simpa using hj)]
      simp
    have key := AnyE.slices_DeleteFunc Tryz.laysDeleteFuncI (Value.int .i64) (fun _ => rfl) (fun k => k == h) 94 #[.pointer (some ⟨box, 0, none⟩)] (fun args w => by simp [go_sem]) (0 : Int) Tryz.zeroValue3 g 0 cap ns.toArray w
      (fun W x hW => ((new31_any box gN o x h W ((row?_below hW (by omega)).trans h1) ((hW.cell (p := ⟨gN, o + 3, none⟩) hgN2).trans h2)).mono fun e w' he => ⟨he.1, 0, he.2⟩))
      (fun n os dk x _ => ((new31_any box gN o x h _ ((row?_congr (heap_sortWorld _ w g 0 n dk os box (by omega) (by omega))).trans h1) ((World.cell?_of_block (heap_sortWorld _ w g 0 n dk os gN (by omega) (by omega))).trans h2)).mono fun e w' he => ⟨he.1, 0, he.2⟩))
      (fun j hj => ⟨hd j (by simpa using hj), frozen_of_row w g (0 + j) cur _ hh⟩)
      (by simp; omega) (by simpa using hc1)
    simp only [List.size_toArray] at key
    refine key.mono ?_
    rintro e w' ⟨rfl, q, rfl⟩
    have hfl : (ns.filter fun k => !(k == h)).length ≤ ns.length := List.length_filter_le _ _
    refine ⟨_, rfl, ⟨by simp, .inr ⟨g, cap, putCells (Value.int .i64) 0 ((ns.filter fun k => !(k == h)) ++ List.replicate (ns.length - (ns.filter fun k => !(k == h)).length) 0).toArray cur, rfl, hg, ?_, by omega, hc2, by rw [← hc3]; simp [putCells], ?_⟩⟩, rfl, ?_⟩
    · show (mapBlock (Sort.ahead w q) g _).heap[g]? = _
      unfold mapBlock Sort.ahead
      simp only
      rw [Array.getElem?_modify, if_pos rfl, hh]
      rfl
    · exact take_putCells _ _ _ (by rw [hc3]; omega)
    · refine ⟨rfl, rfl, rfl, by simp [putRow, mapBlock, Sort.ahead], fun k _ hk => ?_⟩
      show (mapBlock (Sort.ahead w q) g _).heap[k]? = _
      unfold mapBlock Sort.ahead
      simp only
      rw [Array.getElem?_modify, if_neg (fun e => hk (by rw [← e]; rfl))]
end Go.Proofs.YtoboncfgogjllaaGreatDoor
namespace Go.Proofs.YtoboncfgogjllaaGreatDoor
open Go Go.RowKit Go.Pal Go.Shelf

theorem FSt.put {gf gT cT gN gM n m : Nat} {N : Nat → Nd} {w : World} (h : FSt gf gT cT gN gM n N m w) (b j : Nat) (v : Value) (x : Nd) (hb : b < n) (hj : j < 5) (hx : (N b).cells.setIfInBounds j v = x.cells) (hord : gN ≠ gf ∧ gN ≠ gM) :
    FSt gf gT cT gN gM n (upd N b x) m (w.setCell ⟨gN, b * 5 + j, none⟩ v) := by
  obtain ⟨h1, h2⟩ := hord
  refine ⟨?_, ?_, ?_⟩
  · rw [row?_setCell_other _ _ _ _ _ (by omega)]
    exact h.frame
  · rw [row?_setCell_same, h.nodes, ← nodeC_set N hb hj hx]
    rfl
  · obtain ⟨D, es, clock, h1, h2⟩ := h.map
    exact ⟨D, es, clock, (heap_setCell_other _ _ _ _ (by show gM ≠ gN; omega)).trans h1, h2⟩
theorem FSt.drew {gf gT cT gN gM n m : Nat} {N : Nat → Nd} {w : World} (h : FSt gf gT cT gN gM n N m w) : FSt gf gT cT gN gM n N m w.drew := h.of_same fun _ _ => rfl

theorem OwnI.mono {B B' : Nat} {w : World} {v : Value} {ns : List Int} (h : OwnI B w v ns) (hB : B' ≤ B) : OwnI B' w v ns := by
  obtain ⟨h1, h2⟩ := h
  refine ⟨h1, h2.imp id ?_⟩
  rintro ⟨g, cap, cur, hv, hb, r⟩
  exact ⟨g, cap, cur, hv, by omega, r⟩

set_option maxRecDepth 20000 in
set_option maxHeartbeats 2000000 in
theorem leave_any (gf gT cT gN gM n gb B : Nat) (hord : gN ≠ gf ∧ gN ≠ gM ∧ gN ≠ gb ∧ gN < B) (_hn : n ≤ 1024)
    (N : Nat → Nd) (m : Nat) (w : World) (hBs : B ≤ w.heap.size) (hS : FSt gf gT cT gN gM n N m w) (hb : row? w gb = some #[.pointer (some ⟨gf, 0, none⟩)])
    (b : Nat) (ks : List Tr) (hbn : b < n) (hk : OwnI B w (N b).kids (ks.map fun t => (t.lab : Int))) (hks : ∀ k ∈ ks, k.lab < n ∧ k.lab ≠ b ∧ (N k.lab).size = k.sz) (hsz : Tr.szs ks ≤ 60000) :
    Calls Tryz.prog 92 #[.int .i64 (b : Int), .pointer (some ⟨gb, 0, none⟩)] w
      fun e w' => (∃ v, e = .returned v) ∧ ∃ lv, FSt gf gT cT gN gM n (upd N b { N b with light := lv, size := 1 + Tr.szs ks, heavy := Tr.hLab (Tr.hvL ks) }) m w' ∧
        OwnI B w' lv ((ks.map fun t => (t.lab : Int)).filter fun k => !(k == Tr.hLab (Tr.hvL ks))) ∧ Same (fun k => k ≠ gN) w w' := by
  obtain ⟨o1, o2, o3, o4⟩ := hord
  have s1 := row?_lt hb
  have s3 := row?_lt hS.frame
  have s4 := row?_lt hS.nodes
  have e2 : w.cell? ⟨gb, 0, none⟩ = _ := cell?_row (i := 0) hb
  have e3 : w.cell? ⟨gf, 1, none⟩ = _ := cell?_row (i := 1) hS.frame
  simp at e2 e3
  have HS := Lib.hid hS
  have HB := Lib.hid hb
  have HK := Lib.hid hk
  have HKS := Lib.hid hks
  clear hS hb hk hks
  go_enter Tryz.func92, Tryz.ntmps92
  go_wp2_with fail
  obtain ⟨W, hW⟩ : ∃ W, W = w.alloc (Obj.cells #[.pointer (some ⟨gN, b * 5, none⟩)] 152) := ⟨_, rfl⟩
  have hWs : W.heap.size = w.heap.size + 1 := by rw [hW]; simp
  have hWk : ∀ k, k < w.heap.size → W.heap[k]? = w.heap[k]? := fun k hk => by rw [hW]; exact Below.heap_alloc _ _ k hk
  have hsm : Same (fun k => k ≠ gN) w W := by rw [hW]; exact Same.alloc _ _ _
  have hSW := HS.out.of_same hWk
  have h1W : row? W w.heap.size = some #[.pointer (some ⟨gN, b * 5, none⟩)] := by rw [hW]; simp [go_sem]
  have hbW : row? W gb = _ := (row?_congr (hWk gb s1)).trans HB.out
  have c5 : W.cell? ⟨gN, b * 5 + 2, none⟩ = _ := cell?_row (i := b * 5 + 2) hSW.nodes
  rw [nodeC_get _ (by omega) (by omega)] at c5
  have c6 : W.cell? ⟨gN, b * 5 + 3, none⟩ = _ := cell?_row (i := b * 5 + 3) hSW.nodes
  rw [nodeC_get _ (by omega) (by omega)] at c6
  have g5 := frozen?_row (i := b * 5 + 2) hSW.nodes
  have g6 := frozen?_row (i := b * 5 + 3) hSW.nodes
  simp [Nd.cells] at c5 c6
  rw [← hW]
  have HSW := Lib.hid hSW
  clear hW e2 e3 hSW
  refine wp_region_mix (fun w' => row? w' w.heap.size = some #[.pointer (some ⟨gN, b * 5, none⟩)]) 7 [(0, true), (1, true), (2, true), (3, true), (4, false), (5, true), (6, true)] (by kernel_rfl) (by kernel_rfl) h1W ?_
  repeat (apply wpPlan_still rfl rfl; (intro w hw; (have k1 := (cell?_row (i := 0) hw)); simp at k1; clear hw; go_simp; (try go_ints); (first | with_reducible rfl | (go_simp; with_reducible rfl))); (intro K hK; go_simp; (try go_ints); refine hK _ _ ?_; clear hK K))
  apply wpPlan_act rfl rfl
  intro K hK
  unfold Oper.wp
  go_simp
  refine hK _ _ (by rw [row?_drew, row?_setCell_other _ _ _ _ _ (by omega)]; exact h1W) ?_
  clear hK K
  repeat (apply wpPlan_still rfl rfl; (intro w hw; (have k1 := (cell?_row (i := 0) hw)); simp at k1; clear hw; go_simp; (try go_ints); (first | with_reducible rfl | (go_simp; with_reducible rfl))); (intro K hK; go_simp; (try go_ints); refine hK _ _ ?_; clear hK K))
  refine wpPlan_nil ?_
  simp only [List.drop_succ_cons, List.drop_zero]
  have k1 : W.cell? ⟨w.heap.size, 0, none⟩ = _ := cell?_row (i := 0) h1W
  have c7 : W.cell? ⟨gN, b * 5, none⟩ = _ := cell?_row (i := b * 5) HSW.out.nodes
  rw [show b * 5 = b * 5 + 0 by omega, nodeC_get _ (by omega) (by omega)] at c7
  simp [Nd.cells] at c7 k1
  obtain ⟨q0, n0, c0, hkv⟩ := HK.out.slice
  have hn0 : n0 = ks.length := by have := HK.out; rw [hkv] at this; simpa using this.len
  subst hn0
  rw [hkv] at c7
  go_wp2_with fail
  obtain ⟨W2, hW2⟩ : ∃ W2, W2 = ((W.setCell ⟨gN, b * 5 + 2, none⟩ (.int .i64 1)).setCell ⟨gN, b * 5 + 3, none⟩ (.int .i64 (-1))).drew := ⟨_, rfl⟩
  have hF2 : FSt gf gT cT gN gM n (upd N b { N b with size := 1, heavy := -1 }) m W2 := by
    have h := (HSW.out.put b 2 (.int .i64 1) { N b with size := 1 } hbn (by omega) rfl ⟨o1, o2⟩).put b 3 (.int .i64 (-1)) { N b with size := 1, heavy := -1 } hbn (by omega) (by rw [upd_same]; rfl) ⟨o1, o2⟩
    rw [upd_upd] at h
    rw [hW2]
    exact h.drew
  have hsm2 : Same (fun k => k ≠ gN) w W2 := by rw [hW2]; exact ((hsm.trans (Same.setCell _ _ _ _ (by simp))).trans (Same.setCell _ _ _ _ (by simp))).trans (Same.drew _ _)
  have h12 : row? W2 w.heap.size = some #[.pointer (some ⟨gN, b * 5, none⟩)] := by rw [hW2, row?_drew, row?_setCell_other _ _ _ _ _ (by omega), row?_setCell_other _ _ _ _ _ (by omega)]; exact h1W
  rw [← hW2]
  have HF2 := Lib.hid hF2
  have Hsm2 := Lib.hid hsm2
  have H12 := Lib.hid h12
  have HKV := Lib.hid hkv
  rw [hkv] at HK
  clear hW2 hF2 hsm2 h12 c5 c6 c7 g5 g6 k1 h1W hbW hsm hWk hkv HSW
  have hszl := Tr.length_le_szs ks
  go_loopw [23] (fun i wr => ∃ pre rest, ks = pre ++ rest ∧ i = .int .i64 (pre.length : Int) ∧ FSt gf gT cT gN gM n (upd N b { N b with size := 1 + Tr.szs pre, heavy := Tr.hLab (Tr.hvL pre) }) m wr ∧ row? wr w.heap.size = some #[.pointer (some ⟨gN, b * 5, none⟩)] ∧ Same (fun k => k ≠ gN) w wr) (fun i _ => ks.length - (intOf i).toNat)
  case atStart => exact ⟨[], ks, rfl, rfl, by simpa [Tr.szs, Tr.hvL, Tr.hLab] using HF2.out, H12.out, Hsm2.out⟩
  case round =>
    obtain ⟨pre, rest, hpre, rfl, hFr, h1r, hsr⟩ := hrel
    have HFr := Lib.hid hFr
    have Hsr := Lib.hid hsr
    have H1r := Lib.hid h1r
    have e2 : wr.cell? ⟨gb, 0, none⟩ = _ := (cell?_row (i := 0) ((row?_congr (hsr.block gb s1 (by omega))).trans HB.out))
    have e3 : wr.cell? ⟨gf, 1, none⟩ = _ := cell?_row (i := 1) hFr.frame
    have e4 : wr.cell? ⟨w.heap.size, 0, none⟩ = _ := cell?_row (i := 0) h1r
    simp at e2 e3 e4
    cases rest with
    | nil =>
      have hpk : pre = ks := by rw [hpre]; simp
      subst hpk
      clear hFr hsr h1r hpre
      go_wp2_with fail
      have hwr : w.heap.size < wr.heap.size := row?_lt H1r.out
      have hgr : gN < wr.heap.size := row?_lt HFr.out.nodes
      have hgM := HFr.out.gM_lt
      have hS0 : row? wr.drew w.heap.size = some #[.pointer (some ⟨gN, b * 5, none⟩)] ∧ row? wr.drew gN = some (nodeC (upd N b { N b with size := 1 + Tr.szs pre, heavy := Tr.hLab (Tr.hvL pre) }) n) := ⟨H1r.out, HFr.out.nodes⟩
      refine wp_region_mix (fun w' => row? w' w.heap.size = some #[.pointer (some ⟨gN, b * 5, none⟩)] ∧ row? w' gN = some (nodeC (upd N b { N b with size := 1 + Tr.szs pre, heavy := Tr.hLab (Tr.hvL pre) }) n)) 8 [(0, true), (1, true), (2, true), (3, true), (4, true), (6, true), (5, false), (7, false)] (by kernel_rfl) (by kernel_rfl) hS0 ?_
      repeat (apply wpPlan_still rfl rfl; (intro w hw; (have k1 := (cell?_row (i := 0) hw.1)); (have k2 := (cell?_row (i := b * 5) hw.2)); rw [show b * 5 = b * 5 + 0 by omega, nodeC_get _ (by omega) (by omega), upd_same] at k2; simp [Nd.cells, HKV.out] at k1 k2; clear hw; go_simp; (try go_ints); (first | with_reducible rfl | (go_simp; with_reducible rfl))); (intro K hK; go_simp; (try go_ints); refine hK _ _ ?_; clear hK K))
      apply wpPlan_act rfl rfl
      intro K hK
      unfold Oper.wp
      go_simp
      refine (cloneI_any B (pre.map fun t => (t.lab : Int)) _ wr.drew (OwnI.same (w' := wr.drew) HK.out fun g hg => Hsr.out.block g (HK.out.lt g hg) (by have := HK.out.block g hg; omega)) (by simp; omega)).mono ?_
      rintro e w6 ⟨v6, rfl, hO6, hb6⟩
      have hO6' : OwnI wr.heap.size w6 v6 _ := hO6
      have hr6 : row? w6 w.heap.size = _ := (row?_below hb6 hwr).trans hS0.1
      have hn6 : row? w6 gN = _ := (row?_below hb6 hgr).trans hS0.2
      refine hK _ _ ⟨hr6, hn6⟩ ?_
      clear hK K
      apply wpPlan_act rfl rfl
      intro K hK
      unfold Oper.wp
      go_simp
      have hc6 : w6.cell? ⟨gN, b * 5 + 3, none⟩ = _ := cell?_row (i := b * 5 + 3) hn6
      rw [nodeC_get _ (by omega) (by omega), upd_same] at hc6
      simp [Nd.cells] at hc6
      refine (filter_any wr.heap.size _ v6 w6 hO6' w.heap.size gN (b * 5) _ hwr hgr hr6 hc6 (by simp; omega)).mono ?_
      rintro e w7 ⟨v7, rfl, hO7, hl7, hs7⟩
      have hv6 : ∀ k, k < wr.heap.size → some k ≠ v6.ownBlock := fun k hk e => by have := hO6'.block k e.symm; omega
      have hsm6 : Same (fun k => k < wr.heap.size) wr.drew w7 := (Same.of_below hb6).trans (hs7.mono fun k _ hk => hv6 k hk)
      have hr7 : row? w7 w.heap.size = _ := (row?_congr (hs7.block _ (row?_lt hr6) (hv6 _ hwr))).trans hr6
      have hn7 : row? w7 gN = _ := (row?_congr (hs7.block _ (row?_lt hn6) (hv6 _ hgr))).trans hn6
      refine hK _ _ ⟨hr7, hn7⟩ ?_
      clear hK K
      refine wpPlan_nil ?_
      simp only [List.drop_succ_cons, List.drop_zero]
      have hF7 : FSt gf gT cT gN gM n _ m w7 := HFr.out.of_three (hsm6.block _ (row?_lt HFr.out.frame) (row?_lt HFr.out.frame)) (hsm6.block _ hgr hgr) (hsm6.block _ hgM hgM)
      have hc7 : w7.cell? ⟨gN, b * 5 + 1, none⟩ = _ := cell?_row (i := b * 5 + 1) hn7
      rw [nodeC_get _ (by omega) (by omega), upd_same] at hc7
      simp [Nd.cells] at hc7
      have hf7 := frozen?_row (i := b * 5 + 1) hn7
      obtain ⟨q7, n7, c7, rfl⟩ := hO7.slice
      have HF7 := Lib.hid hF7
      have HO7 := Lib.hid hO7
      have Hsm7 : Hid (Same (fun k => k ≠ gN) w w7) := Hsr.out.trans (Same.trans (Same.drew _ _) (hsm6.mono fun k hk _ => hk))
      clear hF7 hO7 hsm6 hs7 hO6 hO6' hb6 hr6 hn6 hc6 hl7 hv6
      go_wp2
      go_end0
      refine ⟨⟨_, rfl⟩, .slice q7 n7 c7, ?_, ?_, ?_⟩
      · have h := HF7.out.put b 1 (.slice q7 n7 c7) { N b with light := .slice q7 n7 c7, size := 1 + Tr.szs pre, heavy := Tr.hLab (Tr.hvL pre) } hbn (by omega) (by rw [upd_same]; rfl) ⟨o1, o2⟩
        rw [upd_upd] at h
        exact h
      · have h : OwnI B w7 (.slice q7 n7 c7) _ := HO7.out.mono (by omega)
        exact h.same fun g hg => by rw [heap_setCell_other _ _ _ _ (fun e => by have := h.block g hg; simp at e; omega)]
      · exact Hsm7.out.trans (Same.setCell _ _ _ _ (by simp))
    | cons t rest =>
      have hlt : pre.length < ks.length := by rw [hpre]; simp
      have htm : t ∈ ks := by rw [hpre]; simp
      obtain ⟨htn, htb, hts⟩ := HKS.out t htm
      have hz : (ks.map fun t => (t.lab : Int))[pre.length]? = some (t.lab : Int) := by rw [hpre]; simp
      obtain ⟨g, rfl, hg1, hg2, hc⟩ := (HK.out.same fun g hg => hsr.block g (HK.out.lt g hg) (by have := HK.out.block g hg; omega)).cell hz
      have c2 : wr.cell? ⟨gN, b * 5 + 2, none⟩ = _ := cell?_row (i := b * 5 + 2) hFr.nodes
      rw [nodeC_get _ (by omega) (by omega), upd_same] at c2
      have c3 : wr.cell? ⟨gN, t.lab * 5 + 2, none⟩ = _ := cell?_row (i := t.lab * 5 + 2) hFr.nodes
      rw [nodeC_get _ (by omega) (by omega), upd_other _ _ htb] at c3
      simp [Nd.cells, hts] at c2 c3
      have f2 := frozen?_row (i := b * 5 + 2) hFr.nodes
      have hszp : Tr.szs ks = Tr.szs pre + (t.sz + Tr.szs rest) := by rw [hpre, Tr.szs_append]; rfl
      have Hpre := Lib.hid hpre
      clear hFr hsr h1r hpre
      go_wp2_with fail
      refine wp_region_free_tail (fun w' => w' = wr.drew) 15 (by kernel_rfl) (by kernel_rfl) rfl ?_
      simp only [List.take_succ_cons, List.take_zero, List.drop_succ_cons, List.drop_zero]
      repeat (apply wpFree_still; (intro w hw; subst hw; go_simp; (try go_ints); (first | with_reducible rfl | (go_simp; with_reducible rfl))); with_reducible rfl; (intro K hK; go_simp; (try go_ints); refine hK _ ?_; clear hK K))
      with_reducible refine wpFree_nil ?_
      rintro w' rfl
      go_wp2_with fail
      obtain ⟨W5, hW5⟩ : ∃ W5, W5 = (wr.setCell ⟨gN, b * 5 + 2, none⟩ (.int .i64 (1 + (Tr.szs pre : Int) + (t.sz : Int)))).drew := ⟨_, rfl⟩
      have hF5 : FSt gf gT cT gN gM n (upd N b { N b with size := 1 + (Tr.szs pre : Int) + t.sz, heavy := Tr.hLab (Tr.hvL pre) }) m W5 := by
        have h := HFr.out.put b 2 (.int .i64 (1 + (Tr.szs pre : Int) + t.sz)) { N b with size := 1 + (Tr.szs pre : Int) + t.sz, heavy := Tr.hLab (Tr.hvL pre) } hbn (by omega) (by rw [upd_same]; rfl) ⟨o1, o2⟩
        rw [upd_upd] at h
        rw [hW5]
        exact h.drew
      have hs5 : Same (fun k => k ≠ gN) w W5 := by rw [hW5]; exact (Hsr.out.trans (Same.setCell _ _ _ _ (by simp))).trans (Same.drew _ _)
      have h15 : row? W5 w.heap.size = some #[.pointer (some ⟨gN, b * 5, none⟩)] := by rw [hW5, row?_drew, row?_setCell_other _ _ _ _ _ (by omega)]; exact H1r.out
      rw [← hW5]
      clear hW5 c2 c3 f2 e2 e3 e4 hc
      have e2 : W5.cell? ⟨gb, 0, none⟩ = _ := (cell?_row (i := 0) ((row?_congr (hs5.block gb s1 (by omega))).trans HB.out))
      have e3 : W5.cell? ⟨gf, 1, none⟩ = _ := cell?_row (i := 1) hF5.frame
      have e4 : W5.cell? ⟨w.heap.size, 0, none⟩ = _ := cell?_row (i := 0) h15
      have c2 : W5.cell? ⟨gN, b * 5 + 3, none⟩ = _ := cell?_row (i := b * 5 + 3) hF5.nodes
      rw [nodeC_get _ (by omega) (by omega), upd_same] at c2
      have c3 : W5.cell? ⟨gN, t.lab * 5 + 2, none⟩ = _ := cell?_row (i := t.lab * 5 + 2) hF5.nodes
      rw [nodeC_get _ (by omega) (by omega), upd_other _ _ htb] at c3
      simp [Nd.cells, hts] at e2 e3 e4 c2 c3
      have f3 := frozen?_row (i := b * 5 + 3) hF5.nodes
      have hsn := Tr.hvL_snoc pre t
      cases hh : Tr.hvL pre with
      | none =>
        rw [hh] at c2 hF5 hsn
        simp only [Tr.hLab] at c2
        have HF5 := Lib.hid hF5
        have Hs5 := Lib.hid hs5
        have H15 := Lib.hid h15
        have HSN := Lib.hid hsn
        clear hF5 hs5 h15 hsn hh
        go_wp2_with go_quiet (fail)
        have e0 : (1 : Int) + (Tr.szs (pre ++ [t]) : Int) = 1 + (Tr.szs pre : Int) + (t.sz : Int) := by rw [Tr.szs_append]; simp [Tr.szs]; omega
        have hdr : Same (fun k => k ≠ gN) W5 (W5.drewN nq) := ⟨rfl, rfl, rfl, Nat.le_refl _, fun _ _ _ => rfl⟩
        refine ⟨⟨pre ++ [t], rest, by rw [Hpre.out]; simp, by simp, ?_, ?_, ?_⟩, by simp [intOf]; omega⟩
        · rw [e0, HSN.out]
          have h := (HF5.out.of_same (w' := W5.drewN nq) fun _ _ => rfl).put b 3 (.int .i64 (t.lab : Int)) { N b with size := 1 + (Tr.szs pre : Int) + t.sz, heavy := (t.lab : Int) } hbn (by omega) (by rw [upd_same]; rfl) ⟨o1, o2⟩
          rw [upd_upd] at h
          exact h
        · rw [row?_setCell_other _ _ _ _ _ (by omega), row?_drewN]; exact H15.out
        · exact (Hs5.out.trans hdr).trans (Same.setCell _ _ _ _ (by simp))
      | some h =>
        obtain ⟨hhn, hhb, hhs⟩ := HKS.out h (by rw [Hpre.out]; exact List.mem_append_left _ (Tr.hvL_mem hh))
        have c4 : W5.cell? ⟨gN, h.lab * 5 + 2, none⟩ = _ := cell?_row (i := h.lab * 5 + 2) hF5.nodes
        rw [nodeC_get _ (by omega) (by omega), upd_other _ _ hhb] at c4
        simp [Nd.cells, hhs] at c4
        rw [hh] at c2 hF5 hsn
        simp only [Tr.hLab] at c2
        have hneg : decide ((h.lab : Int) < 0) = false := decide_eq_false (by omega)
        have HF5 := Lib.hid hF5
        have Hs5 := Lib.hid hs5
        have H15 := Lib.hid h15
        have HSN := Lib.hid hsn
        clear hF5 hs5 h15 hsn hh
        by_cases hgt : h.sz < t.sz
        · have hdg : decide ((h.sz : Int) < (t.sz : Int)) = true := decide_eq_true (by omega)
          have HGT := Lib.hid hgt; clear hgt
          go_wp2_with go_quiet (fail)
          have e0 : (1 : Int) + (Tr.szs (pre ++ [t]) : Int) = 1 + (Tr.szs pre : Int) + (t.sz : Int) := by rw [Tr.szs_append]; simp [Tr.szs]; omega
          have hdr : Same (fun k => k ≠ gN) W5 (W5.drewN nq) := ⟨rfl, rfl, rfl, Nat.le_refl _, fun _ _ _ => rfl⟩
          refine ⟨⟨pre ++ [t], rest, by rw [Hpre.out]; simp, by simp, ?_, ?_, ?_⟩, by simp [intOf]; omega⟩
          · rw [e0, HSN.out]
            have h := (HF5.out.of_same (w' := W5.drewN nq) fun _ _ => rfl).put b 3 (.int .i64 (t.lab : Int)) { N b with size := 1 + (Tr.szs pre : Int) + t.sz, heavy := (t.lab : Int) } hbn (by omega) (by rw [upd_same]; rfl) ⟨o1, o2⟩
            rw [upd_upd] at h
            simp only [Tr.hS, if_pos HGT.out]
            exact h
          · rw [row?_setCell_other _ _ _ _ _ (by omega), row?_drewN]; exact H15.out
          · exact (Hs5.out.trans hdr).trans (Same.setCell _ _ _ _ (by simp))
        · have hdg : decide ((h.sz : Int) < (t.sz : Int)) = false := decide_eq_false (by omega)
          have HGT := Lib.hid hgt; clear hgt
          go_wp2_with go_quiet (fail)
          have e0 : (1 : Int) + (Tr.szs (pre ++ [t]) : Int) = 1 + (Tr.szs pre : Int) + (t.sz : Int) := by rw [Tr.szs_append]; simp [Tr.szs]; omega
          have hdr : Same (fun k => k ≠ gN) W5 (W5.drewN nq) := ⟨rfl, rfl, rfl, Nat.le_refl _, fun _ _ _ => rfl⟩
          refine ⟨⟨pre ++ [t], rest, by rw [Hpre.out]; simp, by simp, ?_, ?_, ?_⟩, by simp [intOf]; omega⟩
          · rw [e0, HSN.out]
            simp only [Tr.hS, if_neg HGT.out]
            exact HF5.out.of_same (w' := W5.drewN nq) fun _ _ => rfl
          · rw [row?_drewN]; exact H15.out
          · exact Hs5.out.trans hdr
end Go.Proofs.YtoboncfgogjllaaGreatDoor
