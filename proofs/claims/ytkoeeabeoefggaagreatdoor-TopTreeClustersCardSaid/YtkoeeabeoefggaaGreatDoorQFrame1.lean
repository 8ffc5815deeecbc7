/-
  Walks of package frame: New's first callback.
-/
import Derived.Test.YtkoeeabeoefggaaGreatDoorQTree7
import Derived.Test.YtkoeeabeoefggaaGreatDoorQPlain
import Derived.Test.YtkoeeabeoefggaaGreatDoorQRound
import Derived.Maps.Own
import Derived.Maps.OwnIn
namespace Go.Proofs.YtkoeeabeoefggaaGreatDoor
open Go Go.RowKit Go.Pal Go.Maps
attribute [local go_sem] Oper.semAt_some

/-- The frame under construction: its fields, the row of nodes, the map of homes. -/
structure FSt (gf gT cT gN gM n : Nat) (N : Nat → Nd) (m : Nat) (w : World) : Prop where
  frame : row? w gf = some #[.slice (some ⟨gT, 0, none⟩) n cT, .slice (some ⟨gN, 0, none⟩) n n, .map (some gM)]
  nodes : row? w gN = some (nodeC N n)
  map : ∃ D, w.ownsMap (H := Unit) Tryz.prog 3 (plainElem Tryz.prog 3) gM m D
theorem FSt.of_same {gf gT cT gN gM n m : Nat} {N : Nat → Nd} {w w' : World} (h : FSt gf gT cT gN gM n N m w) (hs : ∀ k, k < w.heap.size → w'.heap[k]? = w.heap[k]?) : FSt gf gT cT gN gM n N m w' :=
  ⟨(row?_congr (hs _ (row?_lt h.frame))).trans h.frame, (row?_congr (hs _ (row?_lt h.nodes))).trans h.nodes, by
    obtain ⟨D, es, clock, h1, h2⟩ := h.map
    exact ⟨D, es, clock, (hs _ (Array.getElem?_eq_some_iff.1 h1).1).trans h1, h2⟩⟩
theorem FSt.of_three {gf gT cT gN gM n m : Nat} {N : Nat → Nd} {w w' : World} (h : FSt gf gT cT gN gM n N m w) (h1 : w'.heap[gf]? = w.heap[gf]?) (h2 : w'.heap[gN]? = w.heap[gN]?) (h3 : w'.heap[gM]? = w.heap[gM]?) : FSt gf gT cT gN gM n N m w' :=
  ⟨(row?_congr h1).trans h.frame, (row?_congr h2).trans h.nodes, by
    obtain ⟨D, es, clock, k1, k2⟩ := h.map
    exact ⟨D, es, clock, h3.trans k1, k2⟩⟩
theorem FSt.gM_lt {gf gT cT gN gM n m : Nat} {N : Nat → Nd} {w : World} (h : FSt gf gT cT gN gM n N m w) : gM < w.heap.size := by
  obtain ⟨D, h1⟩ := h.map
  exact h1.lt
theorem FSt.mono {gf gT cT gN gM n m m' : Nat} {N : Nat → Nd} {w : World} (h : FSt gf gT cT gN gM n N m w) (hm : m ≤ m') : FSt gf gT cT gN gM n N m' w :=
  ⟨h.frame, h.nodes, by obtain ⟨D, h1⟩ := h.map; exact ⟨D, h1.mono hm⟩⟩
theorem wf_nat {x : Nat} (h : x < 1000000) : (Lit.int .i64 (x : Int)).wf = true := by
  have h1 : IntKind.i64.min = -9223372036854775808 := by decide
  have h2 : IntKind.i64.max = 9223372036854775807 := by decide
  simp [Lit.wf, h1, h2]
  omega
theorem Same.of_grown {w w' : World} {row : Option Nat} (h : w.grownBy w' row) : Same (fun k => some k ≠ row) w w' := ⟨h.os, h.tape, h.output, h.size, fun k hk hr => h.block k hk hr⟩
theorem keyedInt : Keyed Tryz.prog 3 := int_keyed Tryz.underlying3

set_option maxRecDepth 20000 in
set_option maxHeartbeats 2000000 in
theorem come_any (gf gT cT gN gM n gt gb : Nat) (T : List Bg) (t : Tr) (hV : Valid T t) (hn : n = T.length) (vT : Value) (hord : 0 < gt ∧ gt < gN ∧ gt < gM ∧ gN ≠ gf ∧ gM ≠ gf ∧ gN ≠ gM ∧ gN ≠ gb ∧ gM ≠ gb)
    (N : Nat → Nd) (m : Nat) (w : World) (hS : FSt gf gT cT gN gM n N m w) (ht : row? w gt = some #[vT]) (hb : row? w gb = some #[.pointer (some ⟨gf, 0, none⟩)]) (hvT : Rd bagA 17 gt w vT T) (hTab : TabOk w)
    (b p : Nat) (x : Bg) (hx : T[b]? = some x) (hp : x.1 = p) (d : Nat) (hd : (N p).deep = d) (hd2 : d ≤ 100000) (hm : m + 1024 ≤ 100000000) :
    Calls Tryz.prog 45 #[.int .i64 (b : Int), .pointer (some ⟨gt, 0, none⟩), .pointer (some ⟨gb, 0, none⟩)] w
      fun e w' => (∃ v, e = .returned v) ∧ FSt gf gT cT gN gM n (upd N b { N b with deep := (d : Int) + 1 }) (m + 1024) w' ∧ Same (fun k => k ≠ gN ∧ k ≠ gM) w w' := by
  have HvT := Lib.hid hvT
  obtain ⟨a, c, rfl, hr⟩ := hvT
  have hbl : b < T.length := (List.getElem?_eq_some_iff.1 hx).1
  have hpl : p < T.length := by
    rcases hV.par b x hx with h | ⟨q, h, hq⟩
    · omega
    · have : q = p := by omega
      omega
  obtain ⟨y, hy⟩ : ∃ y, T[p]? = some y := ⟨_, List.getElem?_eq_getElem hpl⟩
  have hle := hV.le
  rcases hr with h | ⟨bT, oT, rfl, hbT, hc⟩
  · rw [h] at hbl; simp at hbl
  have hB0 := Below.refl gt w
  obtain ⟨-, -, hcx⟩ := tree_load hc hB0 hbT hx
  obtain ⟨l1, l2, l3⟩ := And.intro hS.frame (And.intro ht hb)
  have e1 : w.cell? ⟨gt, 0, none⟩ = _ := cell?_row (i := 0) ht
  have e2 : w.cell? ⟨gb, 0, none⟩ = _ := cell?_row (i := 0) hb
  have e3 : w.cell? ⟨gf, 1, none⟩ = _ := cell?_row (i := 1) hS.frame
  have e4 : w.cell? ⟨gN, p * 5 + 4, none⟩ = _ := cell?_row (i := p * 5 + 4) hS.nodes
  have e5 : w.cell? ⟨gN, b * 5 + 4, none⟩ = _ := cell?_row (i := b * 5 + 4) hS.nodes
  rw [nodeC_get _ (by omega) (by omega)] at e4 e5
  simp [Nd.cells, hd] at e1 e2 e3 e4 e5
  have f5 := frozen?_row (i := b * 5 + 4) hS.nodes
  have s1 := row?_lt hb
  have s2 := row?_lt ht
  have s3 := row?_lt hS.frame
  have s4 := row?_lt hS.nodes
  have s5 : bT < w.heap.size := by omega
  have HC := Lib.hid hc
  have HX := Lib.hid hx
  have HY := Lib.hid hy
  have HS := Lib.hid hS
  have HT := Lib.hid ht
  have HB := Lib.hid hb
  have HTab := Lib.hid hTab
  have HV := Lib.hid hV
  obtain ⟨q, S⟩ := x
  simp only at hp
  subst hp
  have hge : decide ((0 : Int) ≤ (p : Int)) = true := decide_eq_true (by omega)
  subst hn
  obtain ⟨o1, o2, o3, o4, o5, o6, o7, o8⟩ := hord
  clear hc hx hy hS ht hb hTab hV l1 l2 l3 hB0
  refine calls_of_wp_marks Tryz.func45 rfl ?_
  simp only [Tryz.ntmps45, List.size_toArray, List.length_cons, List.length_nil, Nat.reduceAdd, Nat.reduceSub, Array.replicate_succ, Array.replicate_zero, List.push_toArray, List.append_toArray, List.nil_append, List.cons_append]
  go_wp2_with fail
  obtain ⟨W, hW⟩ : ∃ W, W = (w.alloc (Obj.cells #[.int .i64 (b : Int)] 3)).alloc (Obj.cells (words 0) 40) := ⟨_, rfl⟩
  have hWs : W.heap.size = w.heap.size + 2 := by rw [hW]; simp
  have hWk : ∀ k, k < w.heap.size → W.heap[k]? = w.heap[k]? := fun k hk => by rw [hW]; exact (Below.heap_alloc _ _ k (by simp; omega)).trans (Below.heap_alloc _ _ k hk)
  have hsame : Same (fun _ => True) w W := by rw [hW]; exact (Same.alloc _ _ _).trans (Same.alloc _ _ _)
  have hSW := HS.out.of_same hWk
  have htW : row? W gt = some #[.slice (some ⟨bT, oT, none⟩) T.length c] := (row?_congr (hWk gt s2)).trans HT.out
  have hbW : row? W gb = some #[.pointer (some ⟨gf, 0, none⟩)] := (row?_congr (hWk gb s1)).trans HB.out
  have h1W : row? W w.heap.size = some #[.int .i64 (b : Int)] := by rw [hW]; simp [go_sem]
  have h2W : row? W (w.heap.size + 1) = some (words 0) := by rw [hW]; simp [go_sem]
  have c1 : W.cell? ⟨gt, 0, none⟩ = _ := cell?_row (i := 0) htW
  have c2 : W.cell? ⟨gb, 0, none⟩ = _ := cell?_row (i := 0) hbW
  have c3 : W.cell? ⟨gf, 1, none⟩ = _ := cell?_row (i := 1) hSW.frame
  have c4 : W.cell? ⟨gN, p * 5 + 4, none⟩ = _ := cell?_row (i := p * 5 + 4) hSW.nodes
  have c5 : W.cell? ⟨gN, b * 5 + 4, none⟩ = _ := cell?_row (i := b * 5 + 4) hSW.nodes
  have c6 : W.cell? ⟨w.heap.size, 0, none⟩ = _ := cell?_row (i := 0) h1W
  rw [nodeC_get _ (by omega) (by omega)] at c4 c5
  simp [Nd.cells, hd] at c1 c2 c3 c4 c5 c6
  have g5 := frozen?_row (i := b * 5 + 4) hSW.nodes
  rw [← hW]
  have HSW := Lib.hid hSW
  clear hW e1 e2 e3 e4 e5 f5 hcx hSW
  refine wp_region_free_tail (fun w' => w' = W.drew) 14 (by kernel_rfl) (by kernel_rfl) rfl ?_
  simp only [List.take_succ_cons, List.take_zero, List.drop_succ_cons, List.drop_zero]
  repeat (apply wpFree_still; (intro w hw; subst hw; go_simp; (try go_ints); (first | with_reducible rfl | (go_simp; with_reducible rfl))); with_reducible rfl; (intro K hK; go_simp; (try go_ints); refine hK _ ?_; clear hK K))
  with_reducible refine wpFree_nil ?_
  rintro w' rfl
  go_wp2_with fail
  have hgN : gN < W.heap.size := row?_lt HSW.out.nodes
  have hfW : Hid (FSt gf gT cT gN gM T.length (upd N b { N b with deep := (d : Int) + 1 }) m (W.setCell ⟨gN, b * 5 + 4, none⟩ (.int .i64 ((d : Int) + 1))).drew) := by
    refine ⟨?_, ?_, ?_⟩
    · rw [row?_drew, row?_setCell_other _ _ _ _ _ (by omega)]
      exact HSW.out.frame
    · rw [row?_drew, row?_setCell_same, HSW.out.nodes, ← nodeC_set N hbl (by omega : 4 < 5) (v := .int .i64 ((d : Int) + 1)) (by simp [Nd.cells])]
      rfl
    · obtain ⟨D, es, clock, h1, h2⟩ := HSW.out.map
      exact ⟨D, es, clock, (heap_setCell_other _ _ _ _ (by show gM ≠ gN; omega)).trans h1, h2⟩
  obtain ⟨W2, hW2⟩ : ∃ W2, W2 = (W.setCell ⟨gN, b * 5 + 4, none⟩ (.int .i64 ((d : Int) + 1))).drew := ⟨_, rfl⟩
  rw [← hW2] at hfW
  have hs2 : W2.heap.size = w.heap.size + 2 := by rw [hW2]; simpa using hWs
  have hsm2 : Same (fun k => k ≠ gN ∧ k ≠ gM) w W2 := by
    rw [hW2]
    exact ((hsame.mono fun _ _ _ => trivial).trans (Same.setCell _ _ _ _ (by simp))).trans (Same.drew _ _)
  have hk2 : ∀ k, k ≠ gN → row? W2 k = row? W k := fun k hk => by rw [hW2, row?_drew, row?_setCell_other _ _ _ _ _ hk]
  have ht2 := (hk2 gt (by omega)).trans htW
  have hb2 := (hk2 gb (by omega)).trans hbW
  have h12 := (hk2 w.heap.size (by omega)).trans h1W
  have h22 := (hk2 (w.heap.size + 1) (by omega)).trans h2W
  have hB2 : Below gt w W2 := hsm2.below (by omega) fun k hk => ⟨by omega, by omega⟩
  have hl5 := (tree_load HC.out hB2 hbT HY.out).2.1
  have d1 : W2.cell? ⟨gt, 0, none⟩ = _ := cell?_row (i := 0) ht2
  simp at d1
  have hyS : (words 0).size = 16 := words_size 0
  have HW2 := Lib.hid hW2
  clear hW2 c1 c2 c3 c4 c5 c6 g5 htW hbW h1W h2W hWk hWs hsame hk2
  have e0 : (W.setCell ⟨gN, b * 5 + 4, none⟩ (.int .i64 ((d : Int) + 1))).drew = W2 := HW2.out.symm
  rw [e0]
  clear e0
  go_wp2_with fail
  obtain ⟨W3, hW3⟩ : ∃ W3, W3 = W2.setRow (w.heap.size + 1) (words y.2) := ⟨_, rfl⟩
  have hs3 : W3.heap.size = w.heap.size + 2 := by rw [hW3]; simpa using hs2
  have hsm3 : Same (fun k => k ≠ gN ∧ k ≠ gM) w W3 := by
    rw [hW3]
    exact ⟨hsm2.os, hsm2.tape, hsm2.output, by simpa using hsm2.size, fun k hk ha => (setRow_other _ _ _ _ (by omega)).trans (hsm2.block k hk ha)⟩
  have hk3 : ∀ k, k ≠ w.heap.size + 1 → W3.heap[k]? = W2.heap[k]? := fun k hk => by rw [hW3, setRow_other _ _ _ _ hk]
  have ht3 := (row?_congr (hk3 gt (by omega))).trans ht2
  have hb3 := (row?_congr (hk3 gb (by omega))).trans hb2
  have h13 := (row?_congr (hk3 w.heap.size (by omega))).trans h12
  have h23 : row? W3 (w.heap.size + 1) = some (words y.2) := by rw [hW3]; exact row?_setRow_same _ _ _ (by rw [h22]; rfl)
  have hB3 : Below gt w W3 := hsm3.below (by omega) fun k hk => ⟨by omega, by omega⟩
  have HF3 := Lib.hid (hfW.out.of_three (hk3 gf (by omega)) (hk3 gN (by omega)) (hk3 gM (by have := HS.out.gM_lt; omega)))
  rw [← hW3]
  have hTop : topS T b = sDiff S y.2 := topS_other HX.out rfl HY.out
  clear hW3 hk3 ht2 hb2 h12 h22 hB2 hsm2 hl5 d1 hfW HW2
  have hl6 := (tree_load HC.out hB3.drew hbT HX.out).2.1
  have c1 : W3.cell? ⟨gt, 0, none⟩ = _ := cell?_row (i := 0) ht3
  have c6 : W3.cell? ⟨w.heap.size, 0, none⟩ = _ := cell?_row (i := 0) h13
  simp at c1 c6
  refine wp_region_free_tail (fun w' => w' = W3.drew) 6 (by kernel_rfl) (by kernel_rfl) rfl ?_
  simp only [List.take_succ_cons, List.take_zero, List.drop_succ_cons, List.drop_zero]
  repeat (apply wpFree_still; (intro w hw; subst hw; go_simp; (try go_ints); (first | with_reducible rfl | (go_simp; with_reducible rfl))); with_reducible rfl; (intro K hK; go_simp; (try go_ints); refine hK _ ?_; clear hK K))
  with_reducible refine wpFree_nil ?_
  rintro w' rfl
  go_wp2_with fail
  refine (minus_any _ _ _).mono ?_
  rintro e w4 ⟨rfl, hb4⟩
  have hs4 := hb4.size
  simp only [World.size_drew] at hs4
  have hsm4 : Same (fun k => k ≠ gN ∧ k ≠ gM) w w4 := (hsm3.trans (Same.drew _ _)).trans ((Same.of_below hb4).mono fun k hk _ => hk)
  have hk4 : ∀ k, k < W3.heap.size → w4.heap[k]? = W3.heap[k]? := fun k hk => hb4.block k hk
  have HF4 := Lib.hid (HF3.out.of_same hk4)
  have HTop := Lib.hid hTop
  clear hl6 c1 c6 hb4
  go_wp2_with fail
  refine (all_any _ _).mono ?_
  rintro e w5 ⟨rfl, hw5⟩
  obtain ⟨N3, hN3⟩ : ∃ N3, N3 = upd N b { N b with deep := (d : Int) + 1 } := ⟨_, rfl⟩
  rw [← hN3] at HF4
  have HN3 := Lib.hid hN3
  clear hN3 HF3
  have hs5 : w5.heap.size = w4.heap.size + 1 := by rw [← hw5]; simp
  have hk5 : ∀ k, k < w4.heap.size → w5.heap[k]? = w4.heap[k]? := fun k hk => by rw [← hw5]; exact Below.heap_alloc _ _ k hk
  have hE5 : row? w5 w4.heap.size = some (words (topS T b)) := by rw [HTop.out, ← hw5]; simp [go_sem]
  have HF5 := Lib.hid (HF4.out.of_same hk5)
  have hk35 : ∀ k, k < W3.heap.size → w5.heap[k]? = W3.heap[k]? := fun k hk => (hk5 k (by omega)).trans (hk4 k hk)
  have h15 := (row?_congr (hk35 w.heap.size (by omega))).trans h13
  have hb5 := (row?_congr (hk35 gb (by omega))).trans hb3
  have hsm5 : Same (fun k => k ≠ gN ∧ k ≠ gM) w w5 := by rw [← hw5]; exact hsm4.trans (Same.alloc _ _ _)
  have hT5 : TabOk w5 := HTab.out.same (hsm5.block _ (by omega) ⟨by omega, by omega⟩)
  have hgM := HF5.out.gM_lt
  have hgMw := HS.out.gM_lt
  have c3 : w5.cell? ⟨gf, 2, none⟩ = _ := cell?_row (i := 2) HF5.out.frame
  have c2 : w5.cell? ⟨gb, 0, none⟩ = _ := cell?_row (i := 0) hb5
  have c1 : w5.cell? ⟨w.heap.size, 0, none⟩ = _ := cell?_row (i := 0) h15
  simp at c1 c2 c3
  have hw5s : w.heap.size + 3 ≤ w5.heap.size := by omega
  clear hw5 hk4 hk5 hk35 hs4 hsm3 hsm4 ht3 hb3 h13 h23 hB3 h15 hb5
  go_wp2_with fail
  refine (wpIn_wide (n := 0)).1 ?_
  refine wpIn_range_set 0 6 rfl (fun args w => by simp [go_sem]) (by omega) (enc := fun n : Nat => .int .i64 (n : Int)) (xs := elems (topS T b))
    (fun W hW _ => all1_iterates w4.heap.size (topS T b) (HV.out.isSet_top b) W ((row?_below hW (by omega)).trans hE5) (hT5.below hW (by omega)) (by have := hW.size; omega))
    (fun _ pre W => FSt gf gT cT gN gM T.length N3 (m + pre.length) W ∧ Same (fun k => k < w5.heap.size ∧ k ≠ gM) w5 W) ?_ ?_ ?_ ?_ ?_
  · rintro M pre W6 W7 hM hMW ⟨hF, hs⟩ hsame
    exact ⟨hF.of_three (hsame.block _ (row?_lt hF.frame) (.inl (by omega))) (hsame.block _ (row?_lt hF.nodes) (.inl (by omega))) (hsame.block _ hF.gM_lt (.inl (by omega))), hs.trans (hsame.mono fun k _ h => .inl h.1)⟩
  · intro M W6 _ _ hb6
    exact ⟨HF5.out.of_same hb6.block, (Same.of_below hb6).mono fun k _ h => h.1⟩
  · intro l x W6 K hK
    gi_wp2
    exact hK
  · rintro l M pre x W6 hM hMW ⟨hF, hs⟩ ⟨r, hr⟩
    have hxl : x < 1024 := elems_lt (S := topS T b) (by rw [hr]; simp)
    have k1 : W6.cell? ⟨w.heap.size, 0, none⟩ = _ := (World.cell?_of_block (hs.block w.heap.size (by omega) ⟨by omega, by omega⟩)).trans c1
    have k2 : W6.cell? ⟨gb, 0, none⟩ = _ := (World.cell?_of_block (hs.block gb (by omega) ⟨by omega, by omega⟩)).trans c2
    have k3 : W6.cell? ⟨gf, 2, none⟩ = _ := (World.cell?_of_block (hs.block gf (by omega) ⟨by omega, by omega⟩)).trans c3
    have HF := Lib.hid hF
    have Hs := Lib.hid hs
    have hlen : pre.length ≤ 1024 := by have := elems_length (topS T b); rw [hr] at this; simp at this; omega
    clear hF hs
    gi_wp2_with fail
    refine wpIn_round_free_tail (fun w' => w' = W6.drew) 6 (by kernel_rfl) (by kernel_rfl) (by kernel_rfl) (by rintro ⟨a', w', h'⟩; exact h') rfl ?_
    simp only [List.take_succ_cons, List.take_zero, List.drop_succ_cons, List.drop_zero]
    repeat (apply wpFree_still; (intro w hw; subst hw; go_simp; (try go_ints); (first | with_reducible rfl | (go_simp; with_reducible rfl))); with_reducible rfl; (intro K hK; go_simp; (try go_ints); refine hK _ ?_; clear hK K))
    with_reducible refine wpFree_nil ?_
    rintro w' rfl
    obtain ⟨D, hD⟩ := HF.out.map
    refine wpList_mapUpdate_own _ rfl _ _ _ 74 rfl 3 3 keyedInt Tryz.underlying74 _ gM (m + pre.length) D rfl hD.drew (by unfold maxLen; omega) _ _ _ rfl rfl (keyOf_int_mk Tryz.underlying3 (wf_nat (by omega))) _ [] (plainElem_int Tryz.underlying3 (wf_nat (by omega))) ?_
    intro w7 hown7 hg7
    have hS7 : Same (fun k => k ≠ gM) W6 w7 := (Same.drew _ _).trans ((Same.of_grown hg7).mono fun k _ h => by simpa using h)
    refine ⟨⟨⟨?_, ?_, ?_⟩, ?_⟩, ?_⟩
    · exact (row?_congr (hS7.block _ (row?_lt HF.out.frame) (by omega))).trans HF.out.frame
    · exact (row?_congr (hS7.block _ (row?_lt HF.out.nodes) (by omega))).trans HF.out.nodes
    · exact ⟨_, by rw [List.length_append]; exact hown7⟩
    · exact Hs.out.trans (hS7.mono fun k _ h => h.2)
    · exact hS7.mono fun k _ h => by omega
  · rintro D M W6 hD hDM hM ⟨hF, hs⟩ hK
    have HF := Lib.hid hF
    have Hs := Lib.hid hs
    have HK := Lib.hid hK
    clear hF hs hK
    go_wp2_with fail
    refine ⟨by simp, .inl ⟨_, _, rfl, run_takeDeferred HK.out, ?_⟩⟩
    have hp : Same (fun k => k ≠ D) W6 (W6.putObj D (.deferred none)) := Same.putObj _ W6 D _ (by simp)
    refine ⟨_, results_none rfl _ _ _, ⟨_, rfl⟩, ?_, ?_⟩
    · have h1 := HF.out.of_three (hp.block _ (row?_lt HF.out.frame) (by omega)) (hp.block _ (row?_lt HF.out.nodes) (by omega)) (hp.block _ HF.out.gM_lt (by omega))
      rw [HN3.out] at h1
      exact h1.mono (by have := elems_length (topS T b); omega)
    · exact hsm5.trans ((Hs.out.trans (hp.mono fun k _ h => by omega)).mono fun k hk h => ⟨by omega, h.2⟩)

theorem sDiff_zero (S : Nat) : sDiff S 0 = S := Nat.eq_of_testBit_eq fun m => by rw [sDiff_testBit]; simp

set_option maxRecDepth 20000 in
set_option maxHeartbeats 2000000 in
theorem come_root (gf gT cT gN gM n gt gb : Nat) (T : List Bg) (t : Tr) (hV : Valid T t) (hn : n = T.length) (vT : Value) (hord : 0 < gt ∧ gt < gN ∧ gt < gM ∧ gN ≠ gf ∧ gM ≠ gf ∧ gN ≠ gM ∧ gN ≠ gb ∧ gM ≠ gb)
    (N : Nat → Nd) (m : Nat) (w : World) (hS : FSt gf gT cT gN gM n N m w) (ht : row? w gt = some #[vT]) (hb : row? w gb = some #[.pointer (some ⟨gf, 0, none⟩)]) (hvT : Rd bagA 17 gt w vT T) (hTab : TabOk w)
    (b : Nat) (x : Bg) (hx : T[b]? = some x) (hp : x.1 = -1) (hm : m + 1024 ≤ 100000000) :
    Calls Tryz.prog 45 #[.int .i64 (b : Int), .pointer (some ⟨gt, 0, none⟩), .pointer (some ⟨gb, 0, none⟩)] w
      fun e w' => (∃ v, e = .returned v) ∧ FSt gf gT cT gN gM n N (m + 1024) w' ∧ Same (fun k => k ≠ gN ∧ k ≠ gM) w w' := by
  have HvT := Lib.hid hvT
  obtain ⟨a, c, rfl, hr⟩ := hvT
  have hbl : b < T.length := (List.getElem?_eq_some_iff.1 hx).1
  have hle := hV.le
  rcases hr with h | ⟨bT, oT, rfl, hbT, hc⟩
  · rw [h] at hbl; simp at hbl
  have hB0 := Below.refl gt w
  obtain ⟨-, -, hcx⟩ := tree_load hc hB0 hbT hx
  have e1 : w.cell? ⟨gt, 0, none⟩ = _ := cell?_row (i := 0) ht
  simp at e1
  have s1 := row?_lt hb
  have s2 := row?_lt ht
  have s3 := row?_lt hS.frame
  have s4 := row?_lt hS.nodes
  have s5 : bT < w.heap.size := by omega
  have HC := Lib.hid hc
  have HX := Lib.hid hx
  have HS := Lib.hid hS
  have HT := Lib.hid ht
  have HB := Lib.hid hb
  have HTab := Lib.hid hTab
  have HV := Lib.hid hV
  obtain ⟨q, S⟩ := x
  simp only at hp
  subst hp
  have hge : decide ((0 : Int) ≤ -1) = false := by decide
  subst hn
  obtain ⟨o1, o2, o3, o4, o5, o6, o7, o8⟩ := hord
  clear hc hx hS ht hb hTab hV hB0
  refine calls_of_wp_marks Tryz.func45 rfl ?_
  simp only [Tryz.ntmps45, List.size_toArray, List.length_cons, List.length_nil, Nat.reduceAdd, Nat.reduceSub, Array.replicate_succ, Array.replicate_zero, List.push_toArray, List.append_toArray, List.nil_append, List.cons_append]
  go_wp2_with fail
  obtain ⟨W3, hW⟩ : ∃ W, W = (w.alloc (Obj.cells #[.int .i64 (b : Int)] 3)).alloc (Obj.cells (words 0) 40) := ⟨_, rfl⟩
  have hs3 : W3.heap.size = w.heap.size + 2 := by rw [hW]; simp
  have hWk : ∀ k, k < w.heap.size → W3.heap[k]? = w.heap[k]? := fun k hk => by rw [hW]; exact (Below.heap_alloc _ _ k (by simp; omega)).trans (Below.heap_alloc _ _ k hk)
  have hsm3 : Same (fun k => k ≠ gN ∧ k ≠ gM) w W3 := by rw [hW]; exact (Same.alloc _ _ _).trans (Same.alloc _ _ _)
  have HF3 := Lib.hid (HS.out.of_same hWk)
  have ht3 : row? W3 gt = some #[.slice (some ⟨bT, oT, none⟩) T.length c] := (row?_congr (hWk gt s2)).trans HT.out
  have hb3 : row? W3 gb = some #[.pointer (some ⟨gf, 0, none⟩)] := (row?_congr (hWk gb s1)).trans HB.out
  have h13 : row? W3 w.heap.size = some #[.int .i64 (b : Int)] := by rw [hW]; simp [go_sem]
  have h23 : row? W3 (w.heap.size + 1) = some (words 0) := by rw [hW]; simp [go_sem]
  have hB3 : Below gt w W3 := hsm3.below (by omega) fun k hk => ⟨by omega, by omega⟩
  have hTop : topS T b = sDiff S 0 := (topS_root HX.out rfl).trans (sDiff_zero S).symm
  rw [← hW]
  clear hW hWk e1 hcx
  have hl6 := (tree_load HC.out hB3.drew hbT HX.out).2.1
  have c1 : W3.cell? ⟨gt, 0, none⟩ = _ := cell?_row (i := 0) ht3
  have c6 : W3.cell? ⟨w.heap.size, 0, none⟩ = _ := cell?_row (i := 0) h13
  simp at c1 c6
  refine wp_region_free_tail (fun w' => w' = W3.drew) 6 (by kernel_rfl) (by kernel_rfl) rfl ?_
  simp only [List.take_succ_cons, List.take_zero, List.drop_succ_cons, List.drop_zero]
  repeat (apply wpFree_still; (intro w hw; subst hw; go_simp; (try go_ints); (first | with_reducible rfl | (go_simp; with_reducible rfl))); with_reducible rfl; (intro K hK; go_simp; (try go_ints); refine hK _ ?_; clear hK K))
  with_reducible refine wpFree_nil ?_
  rintro w' rfl
  go_wp2_with fail
  refine (minus_any _ _ _).mono ?_
  rintro e w4 ⟨rfl, hb4⟩
  have hs4 := hb4.size
  simp only [World.size_drew] at hs4
  have hsm4 : Same (fun k => k ≠ gN ∧ k ≠ gM) w w4 := (hsm3.trans (Same.drew _ _)).trans ((Same.of_below hb4).mono fun k hk _ => hk)
  have hk4 : ∀ k, k < W3.heap.size → w4.heap[k]? = W3.heap[k]? := fun k hk => hb4.block k hk
  have HF4 := Lib.hid (HF3.out.of_same hk4)
  have HTop := Lib.hid hTop
  clear hl6 c1 c6 hb4
  go_wp2_with fail
  refine (all_any _ _).mono ?_
  rintro e w5 ⟨rfl, hw5⟩
  obtain ⟨N3, hN3⟩ : ∃ N3, N3 = N := ⟨_, rfl⟩
  rw [← hN3] at HF4
  have HN3 := Lib.hid hN3
  clear hN3 HF3
  have hs5 : w5.heap.size = w4.heap.size + 1 := by rw [← hw5]; simp
  have hk5 : ∀ k, k < w4.heap.size → w5.heap[k]? = w4.heap[k]? := fun k hk => by rw [← hw5]; exact Below.heap_alloc _ _ k hk
  have hE5 : row? w5 w4.heap.size = some (words (topS T b)) := by rw [HTop.out, ← hw5]; simp [go_sem]
  have HF5 := Lib.hid (HF4.out.of_same hk5)
  have hk35 : ∀ k, k < W3.heap.size → w5.heap[k]? = W3.heap[k]? := fun k hk => (hk5 k (by omega)).trans (hk4 k hk)
  have h15 := (row?_congr (hk35 w.heap.size (by omega))).trans h13
  have hb5 := (row?_congr (hk35 gb (by omega))).trans hb3
  have hsm5 : Same (fun k => k ≠ gN ∧ k ≠ gM) w w5 := by rw [← hw5]; exact hsm4.trans (Same.alloc _ _ _)
  have hT5 : TabOk w5 := HTab.out.same (hsm5.block _ (by omega) ⟨by omega, by omega⟩)
  have hgM := HF5.out.gM_lt
  have hgMw := HS.out.gM_lt
  have c3 : w5.cell? ⟨gf, 2, none⟩ = _ := cell?_row (i := 2) HF5.out.frame
  have c2 : w5.cell? ⟨gb, 0, none⟩ = _ := cell?_row (i := 0) hb5
  have c1 : w5.cell? ⟨w.heap.size, 0, none⟩ = _ := cell?_row (i := 0) h15
  simp at c1 c2 c3
  have hw5s : w.heap.size + 3 ≤ w5.heap.size := by omega
  clear hw5 hk4 hk5 hk35 hs4 hsm3 hsm4 ht3 hb3 h13 h23 hB3 h15 hb5
  go_wp2_with fail
  refine (wpIn_wide (n := 0)).1 ?_
  refine wpIn_range_set 0 6 rfl (fun args w => by simp [go_sem]) (by omega) (enc := fun n : Nat => .int .i64 (n : Int)) (xs := elems (topS T b))
    (fun W hW _ => all1_iterates w4.heap.size (topS T b) (HV.out.isSet_top b) W ((row?_below hW (by omega)).trans hE5) (hT5.below hW (by omega)) (by have := hW.size; omega))
    (fun _ pre W => FSt gf gT cT gN gM T.length N3 (m + pre.length) W ∧ Same (fun k => k < w5.heap.size ∧ k ≠ gM) w5 W) ?_ ?_ ?_ ?_ ?_
  · rintro M pre W6 W7 hM hMW ⟨hF, hs⟩ hsame
    exact ⟨hF.of_three (hsame.block _ (row?_lt hF.frame) (.inl (by omega))) (hsame.block _ (row?_lt hF.nodes) (.inl (by omega))) (hsame.block _ hF.gM_lt (.inl (by omega))), hs.trans (hsame.mono fun k _ h => .inl h.1)⟩
  · intro M W6 _ _ hb6
    exact ⟨HF5.out.of_same hb6.block, (Same.of_below hb6).mono fun k _ h => h.1⟩
  · intro l x W6 K hK
    gi_wp2
    exact hK
  · rintro l M pre x W6 hM hMW ⟨hF, hs⟩ ⟨r, hr⟩
    have hxl : x < 1024 := elems_lt (S := topS T b) (by rw [hr]; simp)
    have k1 : W6.cell? ⟨w.heap.size, 0, none⟩ = _ := (World.cell?_of_block (hs.block w.heap.size (by omega) ⟨by omega, by omega⟩)).trans c1
    have k2 : W6.cell? ⟨gb, 0, none⟩ = _ := (World.cell?_of_block (hs.block gb (by omega) ⟨by omega, by omega⟩)).trans c2
    have k3 : W6.cell? ⟨gf, 2, none⟩ = _ := (World.cell?_of_block (hs.block gf (by omega) ⟨by omega, by omega⟩)).trans c3
    have HF := Lib.hid hF
    have Hs := Lib.hid hs
    have hlen : pre.length ≤ 1024 := by have := elems_length (topS T b); rw [hr] at this; simp at this; omega
    clear hF hs
    gi_wp2_with fail
    refine wpIn_round_free_tail (fun w' => w' = W6.drew) 6 (by kernel_rfl) (by kernel_rfl) (by kernel_rfl) (by rintro ⟨a', w', h'⟩; exact h') rfl ?_
    simp only [List.take_succ_cons, List.take_zero, List.drop_succ_cons, List.drop_zero]
    repeat (apply wpFree_still; (intro w hw; subst hw; go_simp; (try go_ints); (first | with_reducible rfl | (go_simp; with_reducible rfl))); with_reducible rfl; (intro K hK; go_simp; (try go_ints); refine hK _ ?_; clear hK K))
    with_reducible refine wpFree_nil ?_
    rintro w' rfl
    obtain ⟨D, hD⟩ := HF.out.map
    refine wpList_mapUpdate_own _ rfl _ _ _ 74 rfl 3 3 keyedInt Tryz.underlying74 _ gM (m + pre.length) D rfl hD.drew (by unfold maxLen; omega) _ _ _ rfl rfl (keyOf_int_mk Tryz.underlying3 (wf_nat (by omega))) _ [] (plainElem_int Tryz.underlying3 (wf_nat (by omega))) ?_
    intro w7 hown7 hg7
    have hS7 : Same (fun k => k ≠ gM) W6 w7 := (Same.drew _ _).trans ((Same.of_grown hg7).mono fun k _ h => by simpa using h)
    refine ⟨⟨⟨?_, ?_, ?_⟩, ?_⟩, ?_⟩
    · exact (row?_congr (hS7.block _ (row?_lt HF.out.frame) (by omega))).trans HF.out.frame
    · exact (row?_congr (hS7.block _ (row?_lt HF.out.nodes) (by omega))).trans HF.out.nodes
    · exact ⟨_, by rw [List.length_append]; exact hown7⟩
    · exact Hs.out.trans (hS7.mono fun k _ h => h.2)
    · exact hS7.mono fun k _ h => by omega
  · rintro D M W6 hD hDM hM ⟨hF, hs⟩ hK
    have HF := Lib.hid hF
    have Hs := Lib.hid hs
    have HK := Lib.hid hK
    clear hF hs hK
    go_wp2_with fail
    refine ⟨by simp, .inl ⟨_, _, rfl, run_takeDeferred HK.out, ?_⟩⟩
    have hp : Same (fun k => k ≠ D) W6 (W6.putObj D (.deferred none)) := Same.putObj _ W6 D _ (by simp)
    refine ⟨_, results_none rfl _ _ _, ⟨_, rfl⟩, ?_, ?_⟩
    · have h1 := HF.out.of_three (hp.block _ (row?_lt HF.out.frame) (by omega)) (hp.block _ (row?_lt HF.out.nodes) (by omega)) (hp.block _ HF.out.gM_lt (by omega))
      rw [HN3.out] at h1
      exact h1.mono (by have := elems_length (topS T b); omega)
    · exact hsm5.trans ((Hs.out.trans (hp.mono fun k _ h => by omega)).mono fun k hk h => ⟨by omega, h.2⟩)
end Go.Proofs.YtkoeeabeoefggaaGreatDoor
