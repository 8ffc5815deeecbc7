/-
  Walks: slices.Index and slices.Contains at []int; Merge of a tree of clusters.
  Walks: Merge of a tree of clusters.
-/
import Derived.Test.YtoiefehkfhkhbaaGreatDoorQMC
import Derived.Test.YtoiefehkfhkhbaaGreatDoorQRoR
import Derived.Test.YtoiefehkfhkhbaaGreatDoorQTop19
namespace Go.Pal
open Go Go.RowKit
theorem idx_empty (x : Int) : plI [] x = -1 := plI_miss (by simp)
/-- The boundary of the cluster j. -/
def bndAt (fl : List TNd) (j : Nat) : Nat := ((fl[j]?).map TNd.bnd).getD 0
def orTo (fl : List TNd) (ks : List Nat) : Nat := ks.foldl (fun S j => S ||| bndAt fl j) 0
theorem orTo_succ (fl : List TNd) {ks : List Nat} {k j : Nat} {x : TNd} (hj : ks[k]? = some j) (hx : fl[j]? = some x) : orTo fl (ks.take (k + 1)) = orTo fl (ks.take k) ||| x.bnd := by
  unfold orTo
  rw [List.take_add_one, hj, List.foldl_append]
  simp [bndAt, hx]
end Go.Pal
namespace Go.Proofs.YtoiefehkfhkhbaaGreatDoor
open Go Go.RowKit Go.Pal Go.Shelf

theorem index_any (l : List Int) (v : Value) (x : Int) (w : World) (hv : RdL w v l) (hlen : l.length ≤ 1000000) :
    Calls Tryz.prog 30 #[v, .int .i64 x] w fun e w' => e = .returned (.int .i64 (plI l x)) ∧ w' = w := by
  obtain ⟨a, c, rfl, h⟩ := hv
  rcases h with h | ⟨b, off, rfl, hbB, hc⟩
  · subst h
    refine (AnyE.slices_Index_empty Tryz.laysIndexI a c (.int .i64 x) w).mono ?_
    rintro e w' ⟨rfl, rfl⟩
    rw [idx_empty]
    exact ⟨rfl, rfl⟩
  · refine (AnyE.slices_Index Tryz.laysIndexI (Value.int .i64) (fun a b => decide (a = b)) (EqlAt.intD _ _ _) b off l.length c l x w (Nat.le_refl _) (by omega) (fun j hj => ?_)).mono ?_
    · exact hc j _ (by rw [List.getElem!_eq_getElem?_getD, List.getElem?_eq_getElem hj]; rfl)
    · rintro e w' ⟨rfl, rfl⟩
      rw [List.take_length]
      exact ⟨rfl, rfl⟩
theorem contains_any (l : List Int) (v : Value) (x : Int) (w : World) (hv : RdL w v l) (hlen : l.length ≤ 1000000) :
    Calls Tryz.prog 34 #[v, .int .i64 x] w fun e w' => e = .returned (.bool (decide (x ∈ l))) ∧ w' = w := by
  obtain ⟨a, c, rfl, h⟩ := hv
  rcases h with h | ⟨b, off, rfl, hbB, hc⟩
  · subst h
    refine (AnyE.slices_Contains_empty Tryz.laysContainsI a c (.int .i64 x) w).mono ?_
    rintro e w' ⟨rfl, rfl⟩
    exact ⟨by simp, rfl⟩
  · refine (AnyE.slices_Contains Tryz.laysContainsI (Value.int .i64) (fun a b => decide (a = b)) (EqlAt.intD _ _ _) b off l.length c l x w (Nat.le_refl _) (by omega) (fun j hj => ?_)).mono ?_
    · exact hc j _ (by rw [List.getElem!_eq_getElem?_getD, List.getElem?_eq_getElem hj]; rfl)
    · rintro e w' ⟨rfl, rfl⟩
      rw [List.take_length]
      refine ⟨?_, rfl⟩
      congr 2
      rw [Bool.eq_iff_iff, List.any_eq_true, decide_eq_true_iff]
      exact ⟨fun ⟨y, hy, h⟩ => by rwa [of_decide_eq_true h], fun h => ⟨x, h, by simp⟩⟩

@[go_sem ↓ high] theorem loadMG (a : Addr) : loadVar 36 a = loadLater 36 a := rfl
@[go_sem ↓ high] theorem storeMG (a : Addr) (v : Value) : storeVar 36 a v = storeLater 36 a v := rfl
@[go_sem] theorem loadMG_run (w : World) (a : Addr) : (loadLater 36 a).run Tryz.prog w = rowLoad Tryz.prog 36 a w := rfl
@[go_sem] theorem storeMG_run (w : World) (a : Addr) (v : Value) : (storeLater 36 a v).run Tryz.prog w = rowStore Tryz.prog 36 a v w := rfl
@[go_sem] theorem loadMG_at (w : World) (g : Nat) : rowLoad Tryz.prog 36 ⟨g, 0, none⟩ w = match row? w g with
      | some c => if c.size = 4 then .ok (.agg c) w else laterLoad Tryz.prog 36 ⟨g, 0, none⟩ w
      | none => laterLoad Tryz.prog 36 ⟨g, 0, none⟩ w := load_row Tryz.isAgg36 Tryz.sizeOf36 w g
@[go_sem] theorem storeMG_at (w : World) (g : Nat) (d : Array Value) : rowStore Tryz.prog 36 ⟨g, 0, none⟩ (.agg d) w = match row? w g with
      | some c => if c.size = 4 ∧ d.size = 4 ∧ allOne d = true then .ok () (w.setRow g d) else laterStore Tryz.prog 36 ⟨g, 0, none⟩ (.agg d) w
      | none => laterStore Tryz.prog 36 ⟨g, 0, none⟩ (.agg d) w := store_row Tryz.sizeOf36 w g d
@[go_sem ↓ high] theorem zeroMG (w : World) : (zeroValue 36).run Tryz.prog w = .ok (.agg #[.slice none 0 0, .slice none 0 0, .slice none 0 0, .slice none 0 0]) w := by rw [Tryz.zeroValue36]
@[go_sem] theorem allOne_mg (a b c d : Option Addr) (n1 n2 n3 n4 c1 c2 c3 c4 : Nat) : allOne #[.slice a n1 c1, .slice b n2 c2, .slice c n3 c3, .slice d n4 c4] = true := by unfold allOne; simp [Value.oneCell']
@[go_sem ↓ high] theorem build_MG (a b : Option Addr) (n1 n2 c1 c2 : Nat) (w : World) : (Instr.build 36 #[(0, .slice a n1 c1), (2, .slice b n2 c2)]).run Tryz.prog w = .ok (.agg #[.slice a n1 c1, .slice none 0 0, .slice b n2 c2, .slice none 0 0]) w := by kernel_rfl

/-- What lies in memory of the cluster k. -/
theorem TtOk.at {w : World} {gt gf : Nat} {T : List Bg} {t : Tr} {fl : List TNd} (h : TtOk w gt gf T t fl) {k : Nat} {x : TNd} (hx : fl[k]? = some x) :
    ∃ gn cn a c, ∀ w', Below w.heap.size w w' → w'.cell? ⟨gt, 1, none⟩ = some (.slice (some ⟨gn, 0, none⟩) fl.length cn) ∧ rowLoad Tryz.prog 65 ⟨gn, k * 19, none⟩ w' = .ok (.agg (TN.cells ⟨x, .slice a x.kids.length c⟩)) w' ∧
      rowLoad Tryz.prog 59 ⟨gn, k * 19 + 3, none⟩ w' = .ok (.agg (words x.bnd)) w' ∧ w'.cell? ⟨gn, k * 19 + 2, none⟩ = some (.slice a x.kids.length c) ∧ RdL w' (.slice a x.kids.length c) (x.kids.map fun i : Nat => (i : Int)) := by
  obtain ⟨q, cap, gu, gl, N, rfl, h2, h3, -, -, -, h7⟩ := h
  rw [List.getElem?_map] at hx
  obtain ⟨y, hy, rfl⟩ := Option.map_eq_some_iff.1 hx
  obtain ⟨g, rfl, -, hgl, hgc⟩ := h3.cells hy
  obtain ⟨gb, ob, a, c, hkv, hK⟩ := h7 y (List.mem_of_getElem? hy)
  have k1 := cell?_row (i := 1) h2
  simp only [List.getElem?_toArray, List.getElem?_cons_succ, List.getElem?_cons_zero] at k1
  have hgt := row?_lt h2
  have hc : ∀ w', Below w.heap.size w w' → ∀ (j : Nat) (u : Value), y.cells[j]? = some u → w'.cell? ⟨g, k * 19 + j, none⟩ = some u := fun w' hb j u hu => (hb.cell (p := ⟨g, k * 19 + j, none⟩) hgl).trans (hgc j u hu)
  have hyc : TN.cells ⟨y.nd, .slice a y.nd.kids.length c⟩ = y.cells := by rw [← hkv]
  refine ⟨g, cap, a, c, fun w' hb => ⟨(hb.cell (p := ⟨gt, 1, none⟩) hgt).trans k1, ?_, ?_, ?_, ?_⟩⟩
  · rw [hyc]
    exact load_cells Tryz.isAgg65 Tryz.sizeOf65 _ g _ y.cells y.cells_size (hc w' hb)
  · refine load_cells Tryz.isAgg59 Tryz.sizeOf59 w' g (k * 19 + 3) (words y.nd.bnd) (words_size _) fun j u hu => ?_
    rw [Nat.add_assoc]
    refine hc w' hb (3 + j) u ?_
    unfold TN.cells
    rw [Array.getElem?_append_right (by simp)]
    simpa using hu
  · refine hc w' hb 2 _ ?_
    rw [y.cell2, hkv]
  · refine ⟨a, c, by rw [List.length_map], ?_⟩
    rcases hK with ⟨h1, rfl⟩ | ⟨b, rfl, hb', -, -, hcc⟩
    · exact .inl (by rw [h1]; rfl)
    · refine .inr ⟨b, 0, rfl, Nat.lt_of_lt_of_le hb' hb.size, fun i z hz => ?_⟩
      rw [List.getElem?_map] at hz
      obtain ⟨m, hm, rfl⟩ := Option.map_eq_some_iff.1 hz
      rw [Nat.zero_add]
      exact (hb.cell (p := ⟨b, i, none⟩) hb').trans (hcc i m hm)
end Go.Proofs.YtoiefehkfhkhbaaGreatDoor
namespace Go.Pal
open Go Go.RowKit
/-- What the operations of a region yield: one fixed value, or a list of integers somewhere in memory. -/
def LΦ (B : Nat) (fix : Nat → Option Value) (ls : Nat → Option (List Int)) (k : Nat) (v : Value) (W : World) : Prop := (∀ u, fix k = some u → v = u) ∧ ∀ l, ls k = some l → RdA (fun k => B ≤ k) W v l
theorem lΦ_on (B : Nat) (fix : Nat → Option Value) (ls : Nat → Option (List Int)) (k : Nat) (v : Value) (w w' : World) (h : LΦ B fix ls k v w) (hb : Below w.heap.size w w') : LΦ B fix ls k v w' := ⟨h.1, fun l hl => (h.2 l hl).below hb⟩
/-- The same for a region that also builds a value of two lists and makes a variable. -/
def MΦ (B : Nat) (fix : Nat → Option Value) (ls : Nat → Option (List Int)) (l1 l2 : List Int) (k : Nat) (v : Value) (W : World) : Prop :=
  match k with
  | 19 => ∃ a b, v = .agg #[a, .slice none 0 0, b, .slice none 0 0] ∧ RdA (fun k => B ≤ k) W a l1 ∧ RdA (fun k => B ≤ k) W b l2
  | 20 => ∃ g, v = .pointer (some ⟨g, 0, none⟩) ∧ B ≤ g ∧ row? W g = some #[.slice none 0 0, .slice none 0 0, .slice none 0 0, .slice none 0 0]
  | k => LΦ B fix ls k v W
theorem mΦ_on (B : Nat) (fix : Nat → Option Value) (ls : Nat → Option (List Int)) (l1 l2 : List Int) (k : Nat) (v : Value) (w w' : World) (h : MΦ B fix ls l1 l2 k v w) (hb : Below w.heap.size w w') : MΦ B fix ls l1 l2 k v w' := by
  unfold MΦ at h ⊢
  split at h
  · obtain ⟨a, b, h1, h2, h3⟩ := h; exact ⟨a, b, h1, h2.below hb, h3.below hb⟩
  · obtain ⟨g, h1, h2, h3⟩ := h; exact ⟨g, h1, h2, (row?_below hb (row?_lt h3)).trans h3⟩
  · exact lΦ_on _ _ _ _ _ _ _ h hb
/-- A list of integers does not lie in a block that holds slices. -/
theorem RdA.away {A : Nat → Prop} {w : World} {v : Value} {ns : List Int} (h : RdA A w v ns) {g : Nat} (hg : row? w g = some #[.slice none 0 0, .slice none 0 0, .slice none 0 0, .slice none 0 0]) : RdA (fun k => A k ∧ k ≠ g) w v ns := by
  obtain ⟨a, c, hv, h⟩ := h
  refine ⟨a, c, hv, ?_⟩
  rcases h with h | ⟨b, off, ha, hb, hA, hc⟩
  · exact .inl h
  · cases ns with
    | nil => exact .inl rfl
    | cons z zs =>
      refine .inr ⟨b, off, ha, hb, ⟨hA, ?_⟩, hc⟩
      rintro rfl
      have h1 := hc 0 z rfl
      rw [cell?_row hg, Nat.add_zero] at h1
      match off with
      | 0 => simp at h1
      | 1 => simp at h1
      | 2 => simp at h1
      | 3 => simp at h1
      | off + 4 => simp at h1
theorem orTo_two {fl : List TNd} {p : Nat} {rest : List Nat} {y : TNd} {B : Nat} (hy : fl[p]? = some y) (h : (rest = [] ∧ B = 0) ∨ ∃ q z, rest = [q] ∧ fl[q]? = some z ∧ B = z.bnd) : orTo fl (p :: rest) = y.bnd ||| B := by
  rcases h with ⟨rfl, rfl⟩ | ⟨q, z, rfl, hz, rfl⟩
  · simp [orTo, bndAt, hy]
  · simp [orTo, bndAt, hy, hz]
end Go.Pal
namespace Go.Proofs.YtoiefehkfhkhbaaGreatDoor
open Go Go.RowKit Go.Pal Go.Shelf

set_option maxRecDepth 10000 in
set_option maxHeartbeats 1000000 in
theorem tmerge_bad (gt gf : Nat) (T : List Bg) (t : Tr) (fl : List TNd) (w : World) (h : TtOk w gt gf T t fl) (i : Int) (hi : ¬ (0 ≤ i ∧ i < (fl.length : Int)) ∨ ∃ (k : Nat) (x : TNd), i = (k : Int) ∧ fl[k]? = some x ∧ x.kids = []) :
    Calls Tryz.prog 7 #[.pointer (some ⟨gt, 0, none⟩), .int .i64 i] w fun e w' => e = .returned (.tuple #[.agg #[.slice none 0 0, .slice none 0 0, .slice none 0 0, .slice none 0 0], .bool false]) ∧ Below w.heap.size w w' := by
  have hb0 := (Below.refl w.heap.size w).alloc (Nat.le_refl _) (.cells #[.slice none 0 0, .slice none 0 0, .slice none 0 0, .slice none 0 0] 36)
  have hv := tvalid_any gt gf T t fl _ (h.below hb0) i
  rcases hi with hi | ⟨k, x, rfl, hx, hk⟩
  · have hin : (decide ((0 : Int) ≤ i) && decide (i < (fl.length : Int))) = false := by
      cases hh : (decide ((0 : Int) ≤ i) && decide (i < (fl.length : Int))) with
      | false => rfl
      | true => simp at hh; exact absurd hh hi
    rw [hin] at hv
    have HV := Lib.hid hv
    clear hv hin h hi hb0
    go_enter Tryz.func7, Tryz.ntmps7
    go_wp2_with fail
    refine HV.out.mono ?_
    rintro e w1 ⟨rfl, rfl⟩
    go_wp2_with fail
    refine ret_row2 w.heap.size #[.slice none 0 0, .slice none 0 0, .slice none 0 0, .slice none 0 0] rfl Tryz.isAgg36 Tryz.sizeOf36 rfl rfl (by simp [go_sem]) rfl ⟨rfl, ?_⟩
    (repeat' (first | (with_reducible exact Below.refl _ _) | (with_reducible assumption) | (with_reducible refine Below.alloc ?_ ?_ _) | (with_reducible refine Below.drew ?_) | (with_reducible refine Below.setCell ?_ ?_ _) | (with_reducible refine below_setRow ?_ ?_ _) | (with_reducible exact Nat.le_refl _) | omega | (simp; done) | (simp; omega) | (simp at *; omega)))
  · have hkl := (List.getElem?_eq_some_iff.1 hx).1
    have hin : (decide ((0 : Int) ≤ (k : Int)) && decide ((k : Int) < (fl.length : Int))) = true := by simp; omega
    rw [hin] at hv
    obtain ⟨gn, cn, a, c, hat⟩ := h.at hx
    obtain ⟨k1, -, -, k4, -⟩ := hat _ hb0
    rw [hk] at k4
    have HV := Lib.hid hv
    simp only [List.length_nil] at k4
    clear hv hin h hb0 hat hx
    go_enter Tryz.func7, Tryz.ntmps7
    go_wp2_with fail
    refine HV.out.mono ?_
    rintro e w1 ⟨rfl, rfl⟩
    go_wp2_with fail
    refine ret_row2 w.heap.size #[.slice none 0 0, .slice none 0 0, .slice none 0 0, .slice none 0 0] rfl Tryz.isAgg36 Tryz.sizeOf36 rfl rfl (by simp [go_sem]) rfl ⟨rfl, ?_⟩
    (repeat' (first | (with_reducible exact Below.refl _ _) | (with_reducible assumption) | (with_reducible refine Below.alloc ?_ ?_ _) | (with_reducible refine Below.drew ?_) | (with_reducible refine Below.setCell ?_ ?_ _) | (with_reducible refine below_setRow ?_ ?_ _) | (with_reducible exact Nat.le_refl _) | omega | (simp; done) | (simp; omega) | (simp at *; omega)))

set_option maxRecDepth 10000 in
set_option maxHeartbeats 4000000 in
theorem tmerge_any (gt gf : Nat) (T : List Bg) (t : Tr) (fl : List TNd) (w : World) (h : TtOk w gt gf T t fl) (hT : TabOk w) (hg : 0 < w.heap.size) (hset : ∀ x ∈ fl, IsSet x.bnd) (i p : Nat) (rest : List Nat) (x y : TNd) (hx : fl[i]? = some x) (hk : x.kids = p :: rest) (hy : fl[p]? = some y) (B : Nat)
    (hrest : (rest = [] ∧ B = 0) ∨ ∃ q z, rest = [q] ∧ fl[q]? = some z ∧ B = z.bnd) :
    Calls Tryz.prog 7 #[.pointer (some ⟨gt, 0, none⟩), .int .i64 (i : Int)] w fun e w' => ∃ v1 v2 v3 v4, e = .returned (.tuple #[.agg #[v1, v2, v3, v4], .bool true]) ∧ RdL w' v1 ((elemsI y.bnd).map (plI (elemsI (y.bnd ||| B)))) ∧ RdL w' v2 ((elemsI B).map (plI (elemsI (y.bnd ||| B)))) ∧
      RdL w' v3 (negsTo ((elemsI (y.bnd ||| B)).map (plI (elemsI x.bnd))) (elemsI (y.bnd ||| B)).length) ∧ RdL w' v4 ((elemsI (y.bnd ||| B)).map (plI (elemsI x.bnd))) ∧ Below w.heap.size w w' := by
  have hb0 := (Below.refl w.heap.size w).alloc (Nat.le_refl _) (.cells #[.slice none 0 0, .slice none 0 0, .slice none 0 0, .slice none 0 0] 36)
  have hv := tvalid_any gt gf T t fl _ (h.below hb0) (i : Int)
  have hil := (List.getElem?_eq_some_iff.1 hx).1
  have hin : (decide ((0 : Int) ≤ (i : Int)) && decide ((i : Int) < (fl.length : Int))) = true := by simp; omega
  rw [hin] at hv
  obtain ⟨gn, cn, a, c, hat⟩ := h.at hx
  have hkl : x.kids.length = 1 + rest.length := by rw [hk]; simp; omega
  have hr01 : rest.length ≤ 1 := by rcases hrest with ⟨rfl, -⟩ | ⟨q, z, rfl, -⟩ <;> simp
  obtain ⟨kb, koff, rfl, hkc⟩ : ∃ kb koff, a = some ⟨kb, koff, none⟩ ∧ ∀ w', Below w.heap.size w w' → ∀ (j : Nat) (m : Nat), x.kids[j]? = some m → w'.cell? ⟨kb, koff + j, none⟩ = some (.int .i64 (m : Int)) := by
    obtain ⟨-, -, -, -, a0, c0, h1, h2⟩ := hat w (Below.refl _ _)
    simp only [Value.slice.injEq] at h1
    obtain ⟨rfl, -, rfl⟩ := h1
    rcases h2 with h2 | ⟨kb, koff, rfl, hlt, h2⟩
    · simp [hk] at h2
    · exact ⟨kb, koff, rfl, fun w' hb j m hj => (hb.cell (p := ⟨kb, koff + j, none⟩) hlt).trans (h2 j _ (by rw [List.getElem?_map, hj]; rfl))⟩
  have hnode : ∀ (j : Nat) (z : TNd), fl[j]? = some z → ∀ w', Below w.heap.size w w' → rowLoad Tryz.prog 59 ⟨gn, j * 19 + 3, none⟩ w' = .ok (.agg (words z.bnd)) w' := by
    intro j z hz
    obtain ⟨gn', cn', a', c', hat'⟩ := h.at hz
    have h1 := (hat w (Below.refl _ _)).1
    have h2 := (hat' w (Below.refl _ _)).1
    rw [h1] at h2
    simp only [Option.some.injEq, Value.slice.injEq, Addr.mk.injEq] at h2
    obtain ⟨⟨rfl, -, -⟩, -, rfl⟩ := h2
    exact fun w' hb => (hat' w' hb).2.2.1
  have hkin : ∀ j ∈ x.kids, ∃ z, fl[j]? = some z := by
    intro j hj
    rw [hk] at hj
    rcases List.mem_cons.1 hj with rfl | hj
    · exact ⟨y, hy⟩
    · rcases hrest with ⟨rfl, -⟩ | ⟨q, z, rfl, hz, -⟩
      · cases hj
      · rw [List.mem_singleton] at hj
        subst hj
        exact ⟨z, hz⟩
  have HKC := Lib.hid hkc
  have HNODE := Lib.hid hnode
  have HKIN := Lib.hid hkin
  obtain ⟨k1, k2, -, k4, -⟩ := hat _ hb0
  have HGT := Lib.hid fun w' hb => (hat w' hb).1
  clear hkc hnode hkin
  obtain ⟨n0, hn0⟩ : ∃ n0 : TN, n0 = ⟨x, .slice (some ⟨kb, koff, none⟩) x.kids.length c⟩ := ⟨_, rfl⟩
  rw [← hn0] at k2
  have hone : allOne n0.cells = true := by rw [hn0]; exact TN.allOne _ ⟨_, _, _, rfl⟩
  have HN0 := Lib.hid hn0
  obtain ⟨W0, hW0⟩ : ∃ W0, W0 = (((w.alloc (Obj.cells #[.slice none 0 0, .slice none 0 0, .slice none 0 0, .slice none 0 0] 36)).alloc (Obj.cells n0.cells 65)).alloc (Obj.cells (words 0) 59)) := ⟨_, rfl⟩
  have hB0 : Below w.heap.size w W0 := by rw [hW0]; exact (((Below.refl _ w).alloc (Nat.le_refl _) _).alloc (by simp) _).alloc (by simp; omega) _
  have hs0 : W0.heap.size = w.heap.size + 3 := by rw [hW0]; simp
  have hr4 : row? W0 w.heap.size = some #[.slice none 0 0, .slice none 0 0, .slice none 0 0, .slice none 0 0] := by rw [hW0]; exact (row?_alloc_past _ _ _ (by simp; omega)).trans ((row?_alloc_past _ _ _ (by simp)).trans (row?_alloc_at _ _ _ _ rfl))
  have hr6 : row? W0 (w.heap.size + 1) = some n0.cells := by rw [hW0]; exact (row?_alloc_past _ _ _ (by simp)).trans (row?_alloc_at _ _ _ _ (by simp))
  have hrU : row? W0 (w.heap.size + 2) = some (words 0) := by rw [hW0]; exact row?_alloc_at _ _ _ _ (by simp)
  have e9 : W0.cell? ⟨w.heap.size + 1, 2, none⟩ = some (.slice (some ⟨kb, koff, none⟩) x.kids.length c) := by
    rw [cell?_row hr6, n0.cell2, hn0]
  rw [hW0] at e9
  have HKL := Lib.hid hkl
  obtain ⟨nk, hnk⟩ : ∃ nk, nk = x.kids.length := ⟨_, rfl⟩
  have hkne : ((x.kids.length : Int) == 0) = false := by rw [hkl]; simp; omega
  rw [← hnk] at k4 hkne e9
  have hnk2 : nk ≤ 2 := by omega
  have HNK := Lib.hid hnk
  have HV := Lib.hid hv
  have HT := Lib.hid hT
  have HX := Lib.hid hx
  have HY := Lib.hid hy
  have HK := Lib.hid hk
  have HREST := Lib.hid hrest
  have HSET := Lib.hid hset
  have HW0 := Lib.hid hW0
  have HB0 := Lib.hid hB0
  have HR4 := Lib.hid hr4
  have HR6 := Lib.hid hr6
  have HRU := Lib.hid hrU
  clear hv hin hat hx hy hk hrest hb0 h hT hset hn0 hkl hnk hW0 hB0 hr4 hr6 hrU hs0 hr01
  go_enter Tryz.func7, Tryz.ntmps7
  go_wp2_with fail
  refine HV.out.mono ?_
  rintro e w1 ⟨rfl, rfl⟩
  go_wp2_with fail
  rw [← HW0.out, show w.heap.size + 1 + 1 = w.heap.size + 2 from rfl]
  have hs0 : W0.heap.size = w.heap.size + 3 := by rw [HW0.out]; simp
  clear HW0 k1 k2 k4 e9 hone hkne HV
  go_loopw [42] (fun s wr => ∃ k : Nat, k ≤ nk ∧ s = .int .i64 (k : Int) ∧ row? wr (w.heap.size + 2) = some (words (orTo fl (x.kids.take k))) ∧ Same (fun k => k < W0.heap.size ∧ k ≠ w.heap.size + 2) W0 wr) (fun s _ => nk - (intOf s).toNat)
  case atStart => exact ⟨0, by omega, rfl, HRU.out, Same.refl _ _⟩
  case round =>
    obtain ⟨k, hkk, rfl, hr, hS⟩ := hrel
    have hsz := hS.size
    have hBw : Below w.heap.size w wr := HB0.out.trans (hS.below (by omega) fun k hk => by omega)
    have HS := Lib.hid hS
    have HBW := Lib.hid hBw
    have HR := Lib.hid hr
    by_cases hlt : k < nk
    · obtain ⟨j, hj⟩ : ∃ j, x.kids[k]? = some j := ⟨_, List.getElem?_eq_getElem (by rw [← HNK.out]; exact hlt)⟩
      obtain ⟨z0, hz0⟩ := HKIN.out j (List.mem_of_getElem? hj)
      have hjl := (List.getElem?_eq_some_iff.1 hz0).1
      have kc := HKC.out wr hBw k j hj
      have hot := orTo_succ fl hj hz0
      have HOT := Lib.hid hot
      have HJ := Lib.hid hj
      have HZ := Lib.hid hz0
      obtain ⟨S0, hS0⟩ : ∃ S0, S0 = orTo fl (x.kids.take k) := ⟨_, rfl⟩
      rw [← hS0] at HOT HR
      clear hS hBw hr hj hz0 hot hS0
      go_wp2_with fail
      refine wp_region_free_tail (fun W' => Below wr.heap.size wr W') 10 (by kernel_rfl) (by kernel_rfl) (Below.refl _ _).drew ?_
      simp only [List.take_succ_cons, List.take_zero, List.drop_succ_cons, List.drop_zero]
      repeat (apply wpFree_still; (intro w hw; have hb := HBW.out.trans (hw.mono (by omega)); have k1 := HGT.out _ hb; have k3 := HNODE.out _ _ HZ.out _ hb; have kU := (row?_below hw (by omega)).trans HR.out; clear hw hb; go_simp; (try go_ints); (first | with_reducible rfl | (go_simp; with_reducible rfl))); with_reducible rfl; (intro K hK; go_simp; (try go_ints); refine hK _ ?_; clear hK K))
      apply wpFree_call
      · intro w hw; go_simp; first | with_reducible rfl | with_reducible exact ⟨rfl, rfl⟩
      · with_reducible rfl
      · intro w hw; exact (union_any _ _ w).mono fun e w' ⟨h1, h2⟩ => ⟨h1, hw.trans (h2.mono hw.size)⟩
      intro K hK; go_simp; (try go_ints); refine hK _ ?_; clear hK K
      with_reducible refine wpFree_nil ?_
      intro w6 hb6
      have hs6 := hb6.size
      have hr6 := (row?_below hb6 (by omega)).trans HR.out
      have HB6 := Lib.hid hb6
      clear hb6
      go_wp2_with fail
      go_roundw
      case rel =>
        refine ⟨k + 1, by omega, by go_num, ?_, ?_⟩
        · rw [HOT.out]
          exact row?_setRow_same _ _ _ (by rw [hr6]; rfl)
        · refine HS.out.trans (Same.trans ((Same.of_below HB6.out).mono fun k hk h => by omega) (Same.setRow _ _ _ _ ?_))
          omega
      case measure => simp [intOf]; omega
    · have hUeq : orTo fl (x.kids.take k) = y.bnd ||| B := by
        rw [show k = x.kids.length by rw [← HNK.out]; omega, List.take_length, HK.out]
        exact orTo_two HY.out HREST.out
      rw [hUeq] at hr
      obtain ⟨W1, rfl⟩ : ∃ W1, W1 = wr := ⟨wr, rfl⟩
      have hyS := HSET.out y (List.mem_of_getElem? HY.out)
      have hxS := HSET.out x (List.mem_of_getElem? HX.out)
      have hBS : IsSet B := by
        rcases HREST.out with ⟨-, rfl⟩ | ⟨q, z, -, hz, rfl⟩
        · exact isSet_zero
        · exact HSET.out z (List.mem_of_getElem? hz)
      obtain ⟨U, hU⟩ : ∃ U, U = y.bnd ||| B := ⟨_, rfl⟩
      have hUS : IsSet U := by rw [hU]; exact isSet_or hyS hBS
      have hyU : ∀ n, y.bnd.testBit n = true → U.testBit n = true := fun n hn => by rw [hU, Nat.testBit_or, hn]; rfl
      have hBU : ∀ n, B.testBit n = true → U.testBit n = true := fun n hn => by rw [hU, Nat.testBit_or, hn]; simp
      rw [← hU] at hr
      have HU := Lib.hid hU
      have hr4 := (row?_congr (hS.block w.heap.size (by omega) (by omega))).trans HR4.out
      have hr6 := (row?_congr (hS.block (w.heap.size + 1) (by omega) (by omega))).trans HR6.out
      have hT1 := HT.out.below hBw hg
      have HRU1 := Lib.hid hr
      have HR41 := Lib.hid hr4
      have HR61 := Lib.hid hr6
      have HT1 := Lib.hid hT1
      have hs1 : w.heap.size + 3 ≤ W1.heap.size := by omega
      have hg1 : 0 < W1.heap.size := by omega
      clear hr hS HS HR hUeq hr4 hr6 hT1 HR4 HR6 HRU HB0 HT hU hBw hsz
      go_wp2_with fail
      refine wp_region_res 5 (fun W => Below W1.heap.size W1 W) (LΦ W1.heap.size (fun k => [some (.agg (words U)), none, some (.pointer (some ⟨w.heap.size + 1, 3, none⟩)), some (.agg (words x.bnd)), none].getD k none) (fun k => [none, some (elemsI U), none, none, some (elemsI x.bnd)].getD k none)) (by kernel_rfl) (by kernel_rfl) (by kernel_rfl) (by kernel_rfl) (by kernel_rfl) (by kernel_rfl) (lΦ_on _ _ _) (Below.refl _ _).drew ?_ ?_
      · intro k hk
        rcases k with _ | _ | _ | _ | _ | k
        · refine resStep_of rfl fun a' W hS hold hdep K hK => ?_
          have h1 := hold 7 _ (by kernel_rfl) rfl; have kU := (row?_below hS (by omega)).trans HRU1.out
          unfold Oper.wp
          go_simp
          (try go_ints)
          exact hK _ W ⟨fun u hu => Option.some.inj hu, fun l hl => nomatch hl⟩ hS (Below.refl _ _)
        · refine resStep_of rfl fun a' W hS hold hdep K hK => ?_
          obtain ⟨vd, h1, hfd, -⟩ := hdep 0 57 (by kernel_rfl) (by rfl)
          cases hfd _ rfl
          unfold Oper.wp
          go_simp
          refine (elements_any U hUS W (HT1.out.below hS (by omega)) (by have := hS.size; omega)).mono ?_
          rintro e w' ⟨v', rfl, hO, hb⟩
          exact hK _ _ ⟨fun u hu => (nomatch hu), fun l hl => by cases (Option.some.inj hl : elemsI U = l); exact hO.rda.mono fun k hk => Nat.le_trans hS.size hk⟩ (hS.trans (hb.mono hS.size)) hb
        · refine resStep_of rfl fun a' W hS hold hdep K hK => ?_
          have h1 := hold 6 _ (by kernel_rfl) rfl
          unfold Oper.wp
          go_simp
          (try go_ints)
          exact hK _ W ⟨fun u hu => Option.some.inj hu, fun l hl => nomatch hl⟩ hS (Below.refl _ _)
        · refine resStep_of rfl fun a' W hS hold hdep K hK => ?_
          obtain ⟨vd, h1, hfd, -⟩ := hdep 2 59 (by kernel_rfl) (by rfl)
          cases hfd _ rfl
          have k6 := load_bnd ((row?_below hS (by omega)).trans HR61.out)
          have hbe : n0.nd.bnd = x.bnd := by rw [HN0.out]
          rw [hbe] at k6
          unfold Oper.wp
          go_simp
          exact hK _ W ⟨fun u hu => Option.some.inj hu, fun l hl => nomatch hl⟩ hS (Below.refl _ _)
        · refine resStep_of rfl fun a' W hS hold hdep K hK => ?_
          obtain ⟨vd, h1, hfd, -⟩ := hdep 3 60 (by kernel_rfl) (by rfl)
          cases hfd _ rfl
          unfold Oper.wp
          go_simp
          refine (elements_any x.bnd hxS W (HT1.out.below hS (by omega)) (by have := hS.size; omega)).mono ?_
          rintro e w' ⟨v', rfl, hO, hb⟩
          exact hK _ _ ⟨fun u hu => (nomatch hu), fun l hl => by cases (Option.some.inj hl : elemsI x.bnd = l); exact hO.rda.mono fun k hk => Nat.le_trans hS.size hk⟩ (hS.trans (hb.mono hS.size)) hb
        · omega
      intro vals W2 hB2 hvals
      obtain ⟨-, h1⟩ := hvals 1 (by omega)
      obtain ⟨-, h4⟩ := hvals 4 (by omega)
      have hva := (h1 _ rfl).rdl
      have hvo := (h4 _ rfl).rdl
      simp only [putAll, List.drop_succ_cons, List.drop_zero, List.getElem?_toArray, List.getElem?_cons_zero, List.getElem?_cons_succ, Option.bind_some, Act.put]
      obtain ⟨va, hva0⟩ : ∃ va, va = vals 1 := ⟨_, rfl⟩
      obtain ⟨vo, hvo0⟩ : ∃ vo, vo = vals 4 := ⟨_, rfl⟩
      rw [← hva0] at hva ⊢
      rw [← hvo0] at hvo ⊢
      have hs2 := hB2.size
      have HB2 := Lib.hid hB2
      have HVA := Lib.hid hva
      have HVO := Lib.hid hvo
      have hg2 : 0 < W2.heap.size := by omega
      obtain ⟨aa, ca, rfl⟩ := hva.sl
      clear hB2 hva hvo h1 h4 hva0 hvo0
      have hpl := (List.getElem?_eq_some_iff.1 HY.out).1
      have hnk1 : (0 : Int) < (nk : Int) := by have := HNK.out; have := HKL.out; omega
      have hnk0 : 0 < nk := by omega
      have hbw : ∀ W, Below W2.heap.size W2 W → Below w.heap.size w W := fun W h => (HBW.out.trans (HB2.out.mono (by omega))).trans (h.mono (by omega))
      have HBw := Lib.hid hbw
      have hr6 : ∀ W, Below W2.heap.size W2 W → row? W (w.heap.size + 1) = some n0.cells := fun W h => (row?_below h (by omega)).trans ((row?_below HB2.out (by omega)).trans HR61.out)
      have hrU : ∀ W, Below W2.heap.size W2 W → row? W (w.heap.size + 2) = some (words U) := fun W h => (row?_below h (by omega)).trans ((row?_below HB2.out (by omega)).trans HRU1.out)
      have hr4 : row? W2 w.heap.size = _ := (row?_below HB2.out (by omega)).trans HR41.out
      have HR62 := Lib.hid hr6
      have HRU2 := Lib.hid hrU
      have HR42 := Lib.hid hr4
      have HT2 := Lib.hid (HT1.out.below HB2.out hg1)
      have hbe : n0.nd.bnd = x.bnd := by rw [HN0.out]
      have hkve : n0.kv = .slice (some ⟨kb, koff, none⟩) nk c := by rw [HN0.out, HNK.out]
      have HBE := Lib.hid hbe
      have HKVE := Lib.hid hkve
      have HIndY := Lib.hid fun W (h : Below W2.heap.size W2 W) => indices_any (elemsI U) (.slice aa (elemsI U).length ca) y.bnd hyS W (HVA.out.below h) (elemsI_sorted U) (fun z hz => by obtain ⟨n, rfl, _, hn⟩ := elemsI_nat hz; exact (mem_elemsI hUS).2 (hyU n hn)) (by have := elemsI_length U; omega) (HT2.out.below h hg2) (by have := h.size; omega)
      have HIndD := Lib.hid fun W (h : Below W2.heap.size W2 W) => indices_any (elemsI U) (.slice aa (elemsI U).length ca) (sDiff U x.bnd) (isSet_diff hUS) W (HVA.out.below h) (elemsI_sorted U) (fun z hz => by obtain ⟨n, rfl, _, hn⟩ := elemsI_nat hz; rw [sDiff_testBit, Bool.and_eq_true] at hn; exact (mem_elemsI hUS).2 hn.1) (by have := elemsI_length U; omega) (HT2.out.below h hg2) (by have := h.size; omega)
      have HIndB := Lib.hid fun W (h : Below W2.heap.size W2 W) => indices_any (elemsI U) (.slice aa (elemsI U).length ca) B hBS W (HVA.out.below h) (elemsI_sorted U) (fun z hz => by obtain ⟨n, rfl, _, hn⟩ := elemsI_nat hz; exact (mem_elemsI hUS).2 (hBU n hn)) (by have := elemsI_length U; omega) (HT2.out.below h hg2) (by have := h.size; omega)
      clear hbw hr6 hrU hr4 hbe hkve HR61 HRU1 HR41 HT1
      go_wp2_with fail
      refine wp_region_res 21 (fun W => Below W2.heap.size W2 W) (MΦ W2.heap.size (fun k => [some (.slice aa (elemsI U).length ca), some (.pointer (some ⟨gt, 0, none⟩)), some (.pointer (some ⟨gt, 0, none⟩)), some (.pointer (some ⟨gt, 1, none⟩)), some (.slice (some ⟨gn, 0, none⟩) fl.length cn), some (.pointer (some ⟨w.heap.size + 1, 2, none⟩)), some (.slice (some ⟨kb, koff, none⟩) nk c), some (.pointer (some ⟨kb, koff, none⟩)), some (.int .i64 (p : Int)), some (.pointer (some ⟨gn, p * 19, none⟩)), some (.pointer (some ⟨gn, p * 19 + 3, none⟩)), some (.agg (words y.bnd)), none,
          some (.slice aa (elemsI U).length ca), some (.agg (words U)), some (.pointer (some ⟨w.heap.size + 1, 3, none⟩)), some (.agg (words x.bnd)), some (.agg (words (sDiff U x.bnd))), none].getD k none) (fun k => if k = 12 then some ((elemsI y.bnd).map (cntI (elemsI U))) else if k = 18 then some ((elemsI (sDiff U x.bnd)).map (cntI (elemsI U))) else none) ((elemsI y.bnd).map (cntI (elemsI U))) ((elemsI (sDiff U x.bnd)).map (cntI (elemsI U)))) (by kernel_rfl) (by kernel_rfl) (by kernel_rfl) (by kernel_rfl) (by kernel_rfl) (by kernel_rfl) (mΦ_on _ _ _ _ _) (Below.refl _ _).drew ?_ ?_
      · intro k hk
        rcases k with _ | _ | _ | _ | _ | _ | _ | _ | _ | _ | _ | _ | _ | _ | _ | _ | _ | _ | _ | _ | _ | k
        · refine resStep_of rfl fun a' W hS hold hdep K hK => ?_
          have h1 := hold 10 _ (by kernel_rfl) rfl
          unfold Oper.wp
          go_simp
          (try go_ints)
          exact hK _ W ⟨fun u hu => Option.some.inj hu, fun l hl => nomatch hl⟩ hS (Below.refl _ _)
        · refine resStep_of rfl fun a' W hS hold hdep K hK => ?_
          have h1 := hold 0 _ (by kernel_rfl) rfl
          unfold Oper.wp
          go_simp
          (try go_ints)
          exact hK _ W ⟨fun u hu => Option.some.inj hu, fun l hl => nomatch hl⟩ hS (Below.refl _ _)
        · refine resStep_of rfl fun a' W hS hold hdep K hK => ?_
          obtain ⟨vd, h1, hfd, -⟩ := hdep 1 63 (by kernel_rfl) (by rfl)
          cases hfd _ rfl
          unfold Oper.wp
          go_simp
          (try go_ints)
          exact hK _ W ⟨fun u hu => Option.some.inj hu, fun l hl => nomatch hl⟩ hS (Below.refl _ _)
        · refine resStep_of rfl fun a' W hS hold hdep K hK => ?_
          obtain ⟨vd, h1, hfd, -⟩ := hdep 2 64 (by kernel_rfl) (by rfl)
          cases hfd _ rfl
          unfold Oper.wp
          go_simp
          (try go_ints)
          exact hK _ W ⟨fun u hu => Option.some.inj hu, fun l hl => nomatch hl⟩ hS (Below.refl _ _)
        · refine resStep_of rfl fun a' W hS hold hdep K hK => ?_
          obtain ⟨vd, h1, hfd, -⟩ := hdep 3 65 (by kernel_rfl) (by rfl)
          cases hfd _ rfl
          have k1 := HGT.out W (HBw.out W hS)
          unfold Oper.wp
          go_simp
          (try go_ints)
          exact hK _ W ⟨fun u hu => Option.some.inj hu, fun l hl => nomatch hl⟩ hS (Below.refl _ _)
        · refine resStep_of rfl fun a' W hS hold hdep K hK => ?_
          have h1 := hold 6 _ (by kernel_rfl) rfl
          unfold Oper.wp
          go_simp
          (try go_ints)
          exact hK _ W ⟨fun u hu => Option.some.inj hu, fun l hl => nomatch hl⟩ hS (Below.refl _ _)
        · refine resStep_of rfl fun a' W hS hold hdep K hK => ?_
          obtain ⟨vd, h1, hfd, -⟩ := hdep 5 67 (by kernel_rfl) (by rfl)
          cases hfd _ rfl
          have k1 := (cell?_row (i := 2) (HR62.out W hS)).trans n0.cell2
          rw [HKVE.out] at k1
          unfold Oper.wp
          go_simp
          (try go_ints)
          exact hK _ W ⟨fun u hu => Option.some.inj hu, fun l hl => nomatch hl⟩ hS (Below.refl _ _)
        · refine resStep_of rfl fun a' W hS hold hdep K hK => ?_
          obtain ⟨vd, h1, hfd, -⟩ := hdep 6 68 (by kernel_rfl) (by rfl)
          cases hfd _ rfl
          unfold Oper.wp
          go_simp
          (try go_ints)
          exact hK _ W ⟨fun u hu => Option.some.inj hu, fun l hl => nomatch hl⟩ hS (Below.refl _ _)
        · refine resStep_of rfl fun a' W hS hold hdep K hK => ?_
          obtain ⟨vd, h1, hfd, -⟩ := hdep 7 69 (by kernel_rfl) (by rfl)
          cases hfd _ rfl
          have k1 := HKC.out W (HBw.out W hS) 0 p (by rw [HK.out]; rfl)
          rw [Nat.add_zero] at k1
          unfold Oper.wp
          go_simp
          (try go_ints)
          exact hK _ W ⟨fun u hu => Option.some.inj hu, fun l hl => nomatch hl⟩ hS (Below.refl _ _)
        · refine resStep_of rfl fun a' W hS hold hdep K hK => ?_
          obtain ⟨vd, h1, hfd, -⟩ := hdep 4 66 (by kernel_rfl) (by rfl)
          cases hfd _ rfl
          obtain ⟨vd, h2, hfd, -⟩ := hdep 8 70 (by kernel_rfl) (by rfl)
          cases hfd _ rfl
          unfold Oper.wp
          go_simp
          (try go_ints)
          exact hK _ W ⟨fun u hu => Option.some.inj hu, fun l hl => nomatch hl⟩ hS (Below.refl _ _)
        · refine resStep_of rfl fun a' W hS hold hdep K hK => ?_
          obtain ⟨vd, h1, hfd, -⟩ := hdep 9 71 (by kernel_rfl) (by rfl)
          cases hfd _ rfl
          unfold Oper.wp
          go_simp
          (try go_ints)
          exact hK _ W ⟨fun u hu => Option.some.inj hu, fun l hl => nomatch hl⟩ hS (Below.refl _ _)
        · refine resStep_of rfl fun a' W hS hold hdep K hK => ?_
          obtain ⟨vd, h1, hfd, -⟩ := hdep 10 72 (by kernel_rfl) (by rfl)
          cases hfd _ rfl
          have k1 := HNODE.out p y HY.out W (HBw.out W hS)
          unfold Oper.wp
          go_simp
          (try go_ints)
          exact hK _ W ⟨fun u hu => Option.some.inj hu, fun l hl => nomatch hl⟩ hS (Below.refl _ _)
        · refine resStep_of rfl fun a' W hS hold hdep K hK => ?_
          obtain ⟨vd, h1, hfd, -⟩ := hdep 0 62 (by kernel_rfl) (by rfl)
          cases hfd _ rfl
          obtain ⟨vd, h2, hfd, -⟩ := hdep 11 73 (by kernel_rfl) (by rfl)
          cases hfd _ rfl
          unfold Oper.wp
          go_simp
          refine (HIndY.out W hS).mono ?_
          rintro e w' ⟨v', rfl, hO, hb⟩
          exact hK _ _ ⟨fun u hu => (nomatch hu), fun l hl => by cases (Option.some.inj hl : (elemsI y.bnd).map (cntI (elemsI U)) = l); exact hO.rda.mono fun k hk => Nat.le_trans hS.size hk⟩ (hS.trans (hb.mono hS.size)) hb
        · refine resStep_of rfl fun a' W hS hold hdep K hK => ?_
          have h1 := hold 10 _ (by kernel_rfl) rfl
          unfold Oper.wp
          go_simp
          (try go_ints)
          exact hK _ W ⟨fun u hu => Option.some.inj hu, fun l hl => nomatch hl⟩ hS (Below.refl _ _)
        · refine resStep_of rfl fun a' W hS hold hdep K hK => ?_
          have h1 := hold 7 _ (by kernel_rfl) rfl; have kU := HRU2.out W hS
          unfold Oper.wp
          go_simp
          (try go_ints)
          exact hK _ W ⟨fun u hu => Option.some.inj hu, fun l hl => nomatch hl⟩ hS (Below.refl _ _)
        · refine resStep_of rfl fun a' W hS hold hdep K hK => ?_
          have h1 := hold 6 _ (by kernel_rfl) rfl
          unfold Oper.wp
          go_simp
          (try go_ints)
          exact hK _ W ⟨fun u hu => Option.some.inj hu, fun l hl => nomatch hl⟩ hS (Below.refl _ _)
        · refine resStep_of rfl fun a' W hS hold hdep K hK => ?_
          obtain ⟨vd, h1, hfd, -⟩ := hdep 15 77 (by kernel_rfl) (by rfl)
          cases hfd _ rfl
          have k6 := load_bnd (HR62.out W hS)
          rw [HBE.out] at k6
          unfold Oper.wp
          go_simp
          (try go_ints)
          exact hK _ W ⟨fun u hu => Option.some.inj hu, fun l hl => nomatch hl⟩ hS (Below.refl _ _)
        · refine resStep_of rfl fun a' W hS hold hdep K hK => ?_
          obtain ⟨vd, h1, hfd, -⟩ := hdep 14 76 (by kernel_rfl) (by rfl)
          cases hfd _ rfl
          obtain ⟨vd, h2, hfd, -⟩ := hdep 16 78 (by kernel_rfl) (by rfl)
          cases hfd _ rfl
          unfold Oper.wp
          go_simp
          refine (minus_any _ _ W).mono ?_
          rintro e w' ⟨rfl, hb⟩
          exact hK _ _ ⟨fun u hu => Option.some.inj hu, fun l hl => nomatch hl⟩ (hS.trans (hb.mono hS.size)) hb
        · refine resStep_of rfl fun a' W hS hold hdep K hK => ?_
          obtain ⟨vd, h1, hfd, -⟩ := hdep 13 75 (by kernel_rfl) (by rfl)
          cases hfd _ rfl
          obtain ⟨vd, h2, hfd, -⟩ := hdep 17 79 (by kernel_rfl) (by rfl)
          cases hfd _ rfl
          unfold Oper.wp
          go_simp
          refine (HIndD.out W hS).mono ?_
          rintro e w' ⟨v', rfl, hO, hb⟩
          exact hK _ _ ⟨fun u hu => (nomatch hu), fun l hl => by cases (Option.some.inj hl : (elemsI (sDiff U x.bnd)).map (cntI (elemsI U)) = l); exact hO.rda.mono fun k hk => Nat.le_trans hS.size hk⟩ (hS.trans (hb.mono hS.size)) hb
        · refine resStep_of rfl fun a' W hS hold hdep K hK => ?_
          obtain ⟨v1, h1, -, p1⟩ := hdep 12 74 (by kernel_rfl) (by rfl)
          obtain ⟨v2, h2, -, p2⟩ := hdep 18 80 (by kernel_rfl) (by rfl)
          have P1 := Lib.hid (p1 _ rfl)
          have P2 := Lib.hid (p2 _ rfl)
          obtain ⟨a1, c1, rfl⟩ := P1.out.sl
          obtain ⟨a2, c2, rfl⟩ := P2.out.sl
          clear p1 p2
          unfold Oper.wp
          go_simp
          exact hK _ W ⟨_, _, rfl, by have := P1.out; rw [List.length_map] at this; exact this, by have := P2.out; rw [List.length_map] at this; exact this⟩ hS (Below.refl _ _)
        · refine resStep_of rfl fun a' W hS hold hdep K hK => ?_
          have hsW := hS.size
          unfold Oper.wp
          go_simp
          exact hK _ _ ⟨W.heap.size, rfl, hsW, row?_alloc_at _ _ _ _ rfl⟩ (hS.alloc hsW _) ((Below.refl _ W).alloc (Nat.le_refl _) _)
        · omega
      intro vals W3 hB3 hvals
      obtain ⟨vl, vf, hag, hvl, hvf⟩ := hvals 19 (by omega)
      obtain ⟨g12, hp12, hg12a, hr12⟩ := hvals 20 (by omega)
      simp only [putAll, List.drop_succ_cons, List.drop_zero, List.getElem?_toArray, List.getElem?_cons_zero, List.getElem?_cons_succ, Option.bind_some, Act.put]
      rw [hag, hp12]
      have hs3 := hB3.size
      have hg12b := row?_lt hr12
      have hvl' := (hvl.away hr12).mono (A' := fun k => k ≠ g12 ∧ k ≠ w.heap.size) fun k hk => ⟨hk.2, by omega⟩
      have hvf' := (hvf.away hr12).mono (A' := fun k => k ≠ g12 ∧ k ≠ w.heap.size) fun k hk => ⟨hk.2, by omega⟩
      obtain ⟨al, cl, rfl⟩ := hvl.sl
      obtain ⟨af, cf, rfl⟩ := hvf.sl
      simp only [List.length_map] at hvl' hvf' ⊢
      obtain ⟨row, hrow⟩ : ∃ row : Array Value, row = #[Value.slice al (elemsI y.bnd).length cl, Value.slice none 0 0, Value.slice af (elemsI (sDiff U x.bnd)).length cf, Value.slice none 0 0] := ⟨_, rfl⟩
      obtain ⟨W4, hW4⟩ : ∃ W4, W4 = W3.setRow g12 row := ⟨_, rfl⟩
      have hs4 : W4.heap.size = W3.heap.size := by rw [hW4]; simp
      have hk4 : ∀ k, k ≠ g12 → W4.heap[k]? = W3.heap[k]? := fun k hk => by rw [hW4]; exact setRow_other _ _ _ _ hk
      have hr4' : row? W4 g12 = some row := by rw [hW4]; exact row?_setRow_same _ _ _ (by rw [hr12]; rfl)
      have hB4 : Below W2.heap.size W2 W4 := by rw [hW4]; exact below_setRow hB3 hg12a _
      have hvl4 : RdA (fun k => k ≠ g12 ∧ k ≠ w.heap.size) W4 _ _ := hvl'.keep (by omega) fun k hk hA => ⟨hk4 k hA.1, hA⟩
      have hvf4 : RdA (fun k => k ≠ g12 ∧ k ≠ w.heap.size) W4 _ _ := hvf'.keep (by omega) fun k hk hA => ⟨hk4 k hA.1, hA⟩
      have k6 := (cell?_row (i := 2) (HR62.out W4 hB4)).trans n0.cell2
      rw [HKVE.out, hW4, hrow] at k6
      rw [hrow] at hr4' hW4
      have HB4 := Lib.hid hB4
      have HVL4 := Lib.hid hvl4
      have HVF4 := Lib.hid hvf4
      have HR4' := Lib.hid hr4'
      have HW4 := Lib.hid hW4
      clear hB3 hvl hvf hvals HIndY HIndD hvl' hvf' hrow hk4 hr4' hB4 hvl4 hvf4 hW4 hag hp12
      rcases HREST.out with ⟨hre, hB0⟩ | ⟨q, z, hre, hz, hBz⟩
      · have hn1 : nk = 1 := by rw [HNK.out, HKL.out, hre]; rfl
        have HBZ := Lib.hid hB0
        subst hn1
        clear hre hB0
        go_wp2_with fail
        rw [← HW4.out]
        obtain ⟨W5, rfl⟩ : ∃ W5, W5 = W4 := ⟨W4, rfl⟩
        have HB5 := HB4
        have HVL5 := HVL4
        have HVF5 := HVF4
        have HR5 := HR4'
        have HVR5 : Hid (RdA (fun k => k ≠ g12 ∧ k ≠ w.heap.size) W5 (Value.slice none 0 0) ((elemsI B).map (cntI (elemsI U)))) := Lib.hid (by rw [HBZ.out, elemsI_zero]; exact ⟨none, 0, rfl, .inl rfl⟩)
        clear HW4 k6 HB4 HVL4 HVF4 HR4'
        have hs5 := HB5.out.size
        obtain ⟨LU, hLU⟩ : ∃ LU, LU = elemsI U := ⟨_, rfl⟩
        have hUl : LU.length ≤ 1024 := by rw [hLU]; exact elemsI_length _
        have hXl := elemsI_length x.bnd
        rw [← hLU] at HVA ⊢
        have HLU := Lib.hid hLU
        have hva5 := HVA.out.below HB5.out
        have hvo5 := HVO.out.below HB5.out
        have HVA5 := Lib.hid hva5
        have HVO5 := Lib.hid hvo5
        obtain ⟨ao, co, rfl⟩ := hvo5.sl
        clear hLU hva5 hvo5
        go_loopw [102] (fun s wr => ∃ k : Nat, k ≤ LU.length ∧ s = .int .i64 (k : Int) ∧ ∃ u, row? wr g12 = some #[Value.slice al (elemsI y.bnd).length cl, Value.slice none 0 0, Value.slice af (elemsI (sDiff U x.bnd)).length cf, u] ∧ OwnI W5.heap.size wr u ((LU.take k).map (plI (elemsI x.bnd))) ∧ Same (fun k => k < W5.heap.size ∧ k ≠ g12) W5 wr) (fun s _ => LU.length - (intOf s).toNat)
        case atStart => exact ⟨0, by omega, rfl, _, HR5.out, OwnI.nil _ _, Same.refl _ _⟩
        case round =>
          obtain ⟨k, hk, rfl, u, hr, hO, hS⟩ := hrel
          have hsz := hS.size
          have hle : ((LU.take k).map (plI (elemsI x.bnd))).length ≤ 1024 := by simp; omega
          obtain ⟨acc, hacc⟩ : ∃ acc, acc = (LU.take k).map (plI (elemsI x.bnd)) := ⟨_, rfl⟩
          rw [← hacc] at hO hle
          have HO := Lib.hid hO
          have HS := Lib.hid hS
          obtain ⟨qu, cqu, rfl⟩ := hO.sl
          have HR := Lib.hid hr
          have hown := hO.block
          have hB2w : Below W2.heap.size W2 wr := HB5.out.trans (hS.below (by omega) fun k hk => by omega)
          by_cases hlt : k < LU.length
          · have k9 := cell?_row (i := 3) hr
            simp at k9
            obtain ⟨bl, offl, cl', e, h1, hz, hcc⟩ := HVA.out.at hlt
            simp only [Value.slice.injEq] at h1
            obtain ⟨rfl, -, rfl⟩ := h1
            have hst : (LU.take (k + 1)).map (plI (elemsI x.bnd)) = acc ++ [plI (elemsI x.bnd) e] := by
              rw [List.take_add_one, hz, hacc]; simp
            have HST := Lib.hid hst
            have hbl := RdL.lt HVA.out (by omega)
            have hce := hcc wr hB2w
            have HA9 := Lib.hid fun o => (((Below.refl _ wr).drew.alloc (Nat.le_refl _) o).cell (p := ⟨g12, 3, none⟩) (by show g12 < wr.heap.size; omega)).trans k9
            have HPl := Lib.hid (index_any _ _ e wr.drew (HVO.out.below (hB2w.drew)) (by omega))
            clear hr hO hS hst hz hcc hacc
            go_wp2_with fail
            refine wp_region_mix (fun W => W.cell? ⟨g12, 3, none⟩ = some (.slice qu acc.length cqu)) 7 [(0, true), (1, true), (2, true), (3, true), (4, false), (5, false), (6, false)] (by kernel_rfl) (by kernel_rfl) k9 ?_
            repeat (apply wpPlan_still rfl rfl; (intro w hw; have k91 := hw; clear hw; go_simp; (try go_ints); (first | with_reducible rfl | (go_simp; with_reducible rfl))); (intro K hK; go_simp; (try go_ints); refine hK _ _ ?_; clear hK K))
            apply wpPlan_act rfl rfl
            intro K hK
            unfold Oper.wp
            go_simp
            refine HPl.out.mono ?_
            rintro e1 w2 ⟨rfl, rfl⟩
            refine hK _ _ k9 ?_
            clear hK K
            apply wpPlan_act rfl rfl
            intro K hK
            unfold Oper.wp
            go_simp
            refine hK _ _ (HA9.out _) ?_
            clear hK K
            apply wpPlan_act rfl rfl
            intro K hK
            refine wp_appT2 34 undI _ _ rfl W5.heap.size _ acc rfl (HO.out.below (C := wr.heap.size) ((Below.refl _ wr).drew.alloc (Nat.le_refl _) _) (Nat.le_refl _)) _ (plI (elemsI x.bnd) e) _ rfl (by simp [go_sem]) (by omega) (by simp; omega) ?_
            intro v2 w2 hO2 hb2 hg2 hl2
            have hne9 : some g12 ≠ (Value.slice qu acc.length cqu).ownBlock := fun e => by have := hown _ e.symm; omega
            have hr2 : row? w2 g12 = some #[Value.slice al (elemsI y.bnd).length cl, Value.slice none 0 0, Value.slice af (elemsI (sDiff U x.bnd)).length cf, .slice qu acc.length cqu] := (row?_congr ((hg2.block g12 (by simp; omega) hne9).trans (Below.heap_alloc _ _ _ (by show g12 < wr.heap.size; omega)))).trans HR.out
            have hs2' : wr.heap.size ≤ w2.heap.size := by have := hb2.size; simp at this; omega
            refine hK _ _ ((cell?_row (i := 3) hr2).trans rfl) ?_
            clear hK K
            have hk2 : ∀ j, j < W5.heap.size → w2.heap[j]? = wr.heap[j]? := fun j hj => (hb2.block j hj).trans (Below.heap_alloc _ _ _ (by show j < wr.heap.size; omega))
            have hfz2 := frozen?_row (i := 3) hr2
            have hlt2 := row?_lt hr2
            have k92 := (cell?_row (i := 3) hr2)
            simp at k92
            have HS2 := Lib.hid (HS.out.trans ⟨hb2.os, hb2.tape, hb2.output, hs2', fun k hk h => hk2 k h.1⟩)
            obtain ⟨q2, c2, rfl⟩ := hO2.sl
            rw [List.length_append] at hO2 ⊢
            have HO2 := Lib.hid hO2
            have HR2' := Lib.hid hr2
            clear hO2 hb2 hg2 hl2 hr2 hk2 hne9 k9 hce HA9 HPl
            refine wpPlan_nil ?_
            simp only [List.drop_succ_cons, List.drop_zero]
            go_wp2_with fail
            go_roundw
            case rel =>
              refine ⟨k + 1, by omega, by go_num, _, by rw [row?_setCell_same, HR2'.out]; rfl, ?_, ?_⟩
              · rw [HST.out]
                exact HO2.out.same fun j hj => heap_setCell_other _ _ j _ (by have := HO2.out.block j hj; show j ≠ g12; omega)
              · exact HS2.out.trans (Same.setCell _ _ _ _ (by show ¬ (g12 < W5.heap.size ∧ g12 ≠ g12); omega))
            case measure => simp [intOf]; omega
          · have HAC := Lib.hid hacc
            have HKE := Lib.hid (show k = LU.length by omega)
            have hr4 := (row?_congr (hS.block _ (show w.heap.size < W5.heap.size by omega) ⟨by omega, by omega⟩)).trans ((row?_below HB5.out (by omega)).trans HR42.out)
            have keep5 : ∀ v l, RdA (fun k => k ≠ g12 ∧ k ≠ w.heap.size) W5 v l → RdA (fun k => k ≠ w.heap.size) wr v l := fun v l h => h.keep hS.size fun k hk hA => ⟨hS.block k hk ⟨hk, hA.1⟩, hA.2⟩
            have hv1 := keep5 _ _ HVL5.out
            have hv2 := keep5 _ _ HVR5.out
            have hv3 := keep5 _ _ HVF5.out
            have hv4 : RdA (fun k => k ≠ w.heap.size) wr (.slice qu acc.length cqu) (LU.map (plI (elemsI x.bnd))) := by
              have := HO.out.rda.mono (A' := fun k => k ≠ w.heap.size) fun k hk => by omega
              rw [HAC.out, HKE.out, List.take_length] at this
              rw [HAC.out, HKE.out, List.take_length]
              exact this
            have HV1 := Lib.hid hv1
            have HV2 := Lib.hid hv2
            have HV3 := Lib.hid hv3
            have HV4 := Lib.hid hv4
            have HBF := Lib.hid ((HBw.out W2 (Below.refl _ _)).trans (hB2w.mono (by omega)))
            have hsw4 : w.heap.size + 3 ≤ wr.heap.size := by omega
            have hr5 := hr
            clear hv1 hv2 hv3 hv4 HO hr hO hS HS HR hacc hown keep5 hB2w HVL5 HVR5 HVF5
            obtain ⟨nu, hnu⟩ : ∃ nu, nu = acc.length := ⟨_, rfl⟩
            rw [← hnu] at hr5 HV4
            clear hnu
            go_wp2_with fail
            refine ret_row2 w.heap.size #[Value.slice al (elemsI y.bnd).length cl, Value.slice none 0 0, Value.slice af (elemsI (sDiff U x.bnd)).length cf, .slice qu nu cqu] rfl Tryz.isAgg36 Tryz.sizeOf36 rfl rfl (row?_setRow_same _ _ _ (by rw [hr4]; rfl)) rfl ?_
            have keepR : ∀ v l, RdA (fun k => k ≠ w.heap.size) wr v l → RdL (wr.setRow w.heap.size #[Value.slice al (elemsI y.bnd).length cl, Value.slice none 0 0, Value.slice af (elemsI (sDiff U x.bnd)).length cf, .slice qu nu cqu]) v l := fun v l h => (h.keep (A' := fun _ => True) (by simp) fun k hk hA => ⟨setRow_other _ _ _ _ hA, trivial⟩).rdl
            have hv1 := keepR _ _ HV1.out
            have hv2 := keepR _ _ HV2.out
            have hv3 := keepR _ _ HV3.out
            have hv4 := keepR _ _ HV4.out
            rw [map_pl_cnt hUS hyU] at hv1
            rw [map_pl_cnt hUS hBU] at hv2
            rw [cnt_negs hUS hxS] at hv3
            rw [HLU.out] at hv4
            refine ⟨_, _, _, _, rfl, ?_, ?_, ?_, ?_, below_setRow HBF.out (Nat.le_refl _) _⟩
            · rw [← HU.out]; exact hv1
            · rw [← HU.out]; exact hv2
            · rw [← HU.out]; exact hv3
            · rw [← HU.out]; exact hv4
      · have hn2 : nk = 2 := by rw [HNK.out, HKL.out, hre]; rfl
        have HZ := Lib.hid hz
        have HBZ := Lib.hid hBz
        have hql := (List.getElem?_eq_some_iff.1 hz).1
        subst hn2
        have hkq := HKC.out W4 (HBw.out W4 HB4.out) 1 q (by rw [HK.out, hre]; rfl)
        have HKQ := Lib.hid fun W (h : Below W2.heap.size W2 W) => HKC.out W (HBw.out W h) 1 q (by rw [HK.out, hre]; rfl)
        clear hre hz hBz hkq
        go_wp2_with fail
        rw [← HW4.out]
        clear HW4 k6
        have hg124 : g12 < W4.heap.size := by omega
        refine wp_region_mix (fun W => Below W2.heap.size W2 W ∧ row? W g12 = some #[Value.slice al (elemsI y.bnd).length cl, Value.slice none 0 0, Value.slice af (elemsI (sDiff U x.bnd)).length cf, Value.slice none 0 0]) 13 [(0, true), (1, true), (2, true), (3, true), (4, true), (5, true), (6, true), (7, true), (8, true), (9, true), (10, true), (11, true), (12, false)] (by kernel_rfl) (by kernel_rfl) ⟨HB4.out.drew, HR4'.out⟩ ?_
        repeat (apply wpPlan_still rfl rfl; (intro w hw; have k1 := HGT.out _ (HBw.out _ hw.1); have k2 := (cell?_row (i := 2) (HR62.out _ hw.1)).trans n0.cell2; rw [HKVE.out] at k2; have k3 := HKQ.out _ hw.1; have k4 := HNODE.out _ _ HZ.out _ (HBw.out _ hw.1); clear hw; go_simp; (try go_ints); (first | with_reducible rfl | (go_simp; with_reducible rfl))); (intro K hK; go_simp; (try go_ints); refine hK _ _ ?_; clear hK K))
        apply wpPlan_act rfl rfl
        intro K hK
        unfold Oper.wp
        go_simp
        have hib := HIndB.out W4.drew HB4.out.drew
        rw [HBZ.out] at hib
        refine hib.mono ?_
        clear hib
        rintro e w5 ⟨vr, rfl, hO5, hb5⟩
        have hs5' : W4.heap.size ≤ w5.heap.size := hb5.size
        have hr5' := (row?_below hb5 (show g12 < W4.heap.size by omega)).trans HR4'.out
        have hB5' : Below W2.heap.size W2 w5 := HB4.out.drew.trans (hb5.mono (show W2.heap.size ≤ W4.heap.size by omega))
        refine hK _ _ ⟨hB5', hr5'⟩ ?_
        clear hK K
        obtain ⟨ar, cr, rfl⟩ := hO5.sl
        have hlr : ((elemsI z.bnd).map (cntI (elemsI U))).length = (elemsI z.bnd).length := List.length_map _
        rw [hlr] at hO5 ⊢
        have HO5 := Lib.hid hO5
        have hfz5 := frozen?_row (i := 1) hr5'
        have hlt5 := row?_lt hr5'
        have k95 := cell?_row (i := 1) hr5'
        simp at k95
        have HR5' := Lib.hid hr5'
        have HB5' := Lib.hid hB5'
        have HB45 := Lib.hid hb5
        clear hr5' hB5' hO5 hb5
        refine wpPlan_nil ?_
        simp only [List.drop_succ_cons, List.drop_zero]
        go_wp2_with fail
        obtain ⟨W5, hW5⟩ : ∃ W5, W5 = w5.setCell ⟨g12, 1, none⟩ (.slice ar (elemsI z.bnd).length cr) := ⟨_, rfl⟩
        rw [← hW5]
        have hk5 : ∀ k, k ≠ g12 → W5.heap[k]? = w5.heap[k]? := fun k hk => by rw [hW5]; exact heap_setCell_other _ _ k _ hk
        have hs5'' : W5.heap.size = w5.heap.size := by rw [hW5]; simp
        have HR5 : Hid (row? W5 g12 = some #[Value.slice al (elemsI y.bnd).length cl, Value.slice ar (elemsI z.bnd).length cr, Value.slice af (elemsI (sDiff U x.bnd)).length cf, Value.slice none 0 0]) := Lib.hid (by rw [hW5, row?_setCell_same, HR5'.out]; rfl)
        have HB5 : Hid (Below W2.heap.size W2 W5) := Lib.hid (by rw [hW5]; exact Below.setCell HB5'.out (by show W2.heap.size ≤ g12; omega) _)
        have HVL5 := Lib.hid ((HVL4.out.keep hs5' fun k hk hA => ⟨HB45.out.block k hk, hA⟩).keep (A' := fun k => k ≠ g12 ∧ k ≠ w.heap.size) (by omega) fun k hk hA => ⟨hk5 k hA.1, hA⟩)
        have HVF5 := Lib.hid ((HVF4.out.keep hs5' fun k hk hA => ⟨HB45.out.block k hk, hA⟩).keep (A' := fun k => k ≠ g12 ∧ k ≠ w.heap.size) (by omega) fun k hk hA => ⟨hk5 k hA.1, hA⟩)
        have HVR5 : Hid (RdA (fun k => k ≠ g12 ∧ k ≠ w.heap.size) W5 (Value.slice ar (elemsI z.bnd).length cr) ((elemsI B).map (cntI (elemsI U)))) := Lib.hid (by
          rw [HBZ.out]
          refine HO5.out.rda.keep (by omega) fun k hk hA => ?_
          have hA' : W4.heap.size ≤ k := hA
          exact ⟨hk5 k (by omega), by omega, by omega⟩)
        clear HB4 HVL4 HVF4 HR4' hW5 hk5 HR5' HB5' HB45 HO5 k95 hfz5
        have hs5 := HB5.out.size
        obtain ⟨LU, hLU⟩ : ∃ LU, LU = elemsI U := ⟨_, rfl⟩
        have hUl : LU.length ≤ 1024 := by rw [hLU]; exact elemsI_length _
        have hXl := elemsI_length x.bnd
        rw [← hLU] at HVA ⊢
        have HLU := Lib.hid hLU
        have hva5 := HVA.out.below HB5.out
        have hvo5 := HVO.out.below HB5.out
        have HVA5 := Lib.hid hva5
        have HVO5 := Lib.hid hvo5
        obtain ⟨ao, co, rfl⟩ := hvo5.sl
        clear hLU hva5 hvo5
        go_loopw [102] (fun s wr => ∃ k : Nat, k ≤ LU.length ∧ s = .int .i64 (k : Int) ∧ ∃ u, row? wr g12 = some #[Value.slice al (elemsI y.bnd).length cl, Value.slice ar (elemsI z.bnd).length cr, Value.slice af (elemsI (sDiff U x.bnd)).length cf, u] ∧ OwnI W5.heap.size wr u ((LU.take k).map (plI (elemsI x.bnd))) ∧ Same (fun k => k < W5.heap.size ∧ k ≠ g12) W5 wr) (fun s _ => LU.length - (intOf s).toNat)
        case atStart => exact ⟨0, by omega, rfl, _, HR5.out, OwnI.nil _ _, Same.refl _ _⟩
        case round =>
          obtain ⟨k, hk, rfl, u, hr, hO, hS⟩ := hrel
          have hsz := hS.size
          have hle : ((LU.take k).map (plI (elemsI x.bnd))).length ≤ 1024 := by simp; omega
          obtain ⟨acc, hacc⟩ : ∃ acc, acc = (LU.take k).map (plI (elemsI x.bnd)) := ⟨_, rfl⟩
          rw [← hacc] at hO hle
          have HO := Lib.hid hO
          have HS := Lib.hid hS
          obtain ⟨qu, cqu, rfl⟩ := hO.sl
          have HR := Lib.hid hr
          have hown := hO.block
          have hB2w : Below W2.heap.size W2 wr := HB5.out.trans (hS.below (by omega) fun k hk => by omega)
          by_cases hlt : k < LU.length
          · have k9 := cell?_row (i := 3) hr
            simp at k9
            obtain ⟨bl, offl, cl', e, h1, hz, hcc⟩ := HVA.out.at hlt
            simp only [Value.slice.injEq] at h1
            obtain ⟨rfl, -, rfl⟩ := h1
            have hst : (LU.take (k + 1)).map (plI (elemsI x.bnd)) = acc ++ [plI (elemsI x.bnd) e] := by
              rw [List.take_add_one, hz, hacc]; simp
            have HST := Lib.hid hst
            have hbl := RdL.lt HVA.out (by omega)
            have hce := hcc wr hB2w
            have HA9 := Lib.hid fun o => (((Below.refl _ wr).drew.alloc (Nat.le_refl _) o).cell (p := ⟨g12, 3, none⟩) (by show g12 < wr.heap.size; omega)).trans k9
            have HPl := Lib.hid (index_any _ _ e wr.drew (HVO.out.below (hB2w.drew)) (by omega))
            clear hr hO hS hst hz hcc hacc
            go_wp2_with fail
            refine wp_region_mix (fun W => W.cell? ⟨g12, 3, none⟩ = some (.slice qu acc.length cqu)) 7 [(0, true), (1, true), (2, true), (3, true), (4, false), (5, false), (6, false)] (by kernel_rfl) (by kernel_rfl) k9 ?_
            repeat (apply wpPlan_still rfl rfl; (intro w hw; have k91 := hw; clear hw; go_simp; (try go_ints); (first | with_reducible rfl | (go_simp; with_reducible rfl))); (intro K hK; go_simp; (try go_ints); refine hK _ _ ?_; clear hK K))
            apply wpPlan_act rfl rfl
            intro K hK
            unfold Oper.wp
            go_simp
            refine HPl.out.mono ?_
            rintro e1 w2 ⟨rfl, rfl⟩
            refine hK _ _ k9 ?_
            clear hK K
            apply wpPlan_act rfl rfl
            intro K hK
            unfold Oper.wp
            go_simp
            refine hK _ _ (HA9.out _) ?_
            clear hK K
            apply wpPlan_act rfl rfl
            intro K hK
            refine wp_appT2 34 undI _ _ rfl W5.heap.size _ acc rfl (HO.out.below (C := wr.heap.size) ((Below.refl _ wr).drew.alloc (Nat.le_refl _) _) (Nat.le_refl _)) _ (plI (elemsI x.bnd) e) _ rfl (by simp [go_sem]) (by omega) (by simp; omega) ?_
            intro v2 w2 hO2 hb2 hg2 hl2
            have hne9 : some g12 ≠ (Value.slice qu acc.length cqu).ownBlock := fun e => by have := hown _ e.symm; omega
            have hr2 : row? w2 g12 = some #[Value.slice al (elemsI y.bnd).length cl, Value.slice ar (elemsI z.bnd).length cr, Value.slice af (elemsI (sDiff U x.bnd)).length cf, .slice qu acc.length cqu] := (row?_congr ((hg2.block g12 (by simp; omega) hne9).trans (Below.heap_alloc _ _ _ (by show g12 < wr.heap.size; omega)))).trans HR.out
            have hs2' : wr.heap.size ≤ w2.heap.size := by have := hb2.size; simp at this; omega
            refine hK _ _ ((cell?_row (i := 3) hr2).trans rfl) ?_
            clear hK K
            have hk2 : ∀ j, j < W5.heap.size → w2.heap[j]? = wr.heap[j]? := fun j hj => (hb2.block j hj).trans (Below.heap_alloc _ _ _ (by show j < wr.heap.size; omega))
            have hfz2 := frozen?_row (i := 3) hr2
            have hlt2 := row?_lt hr2
            have k92 := (cell?_row (i := 3) hr2)
            simp at k92
            have HS2 := Lib.hid (HS.out.trans ⟨hb2.os, hb2.tape, hb2.output, hs2', fun k hk h => hk2 k h.1⟩)
            obtain ⟨q2, c2, rfl⟩ := hO2.sl
            rw [List.length_append] at hO2 ⊢
            have HO2 := Lib.hid hO2
            have HR2' := Lib.hid hr2
            clear hO2 hb2 hg2 hl2 hr2 hk2 hne9 k9 hce HA9 HPl
            refine wpPlan_nil ?_
            simp only [List.drop_succ_cons, List.drop_zero]
            go_wp2_with fail
            go_roundw
            case rel =>
              refine ⟨k + 1, by omega, by go_num, _, by rw [row?_setCell_same, HR2'.out]; rfl, ?_, ?_⟩
              · rw [HST.out]
                exact HO2.out.same fun j hj => heap_setCell_other _ _ j _ (by have := HO2.out.block j hj; show j ≠ g12; omega)
              · exact HS2.out.trans (Same.setCell _ _ _ _ (by show ¬ (g12 < W5.heap.size ∧ g12 ≠ g12); omega))
            case measure => simp [intOf]; omega
          · have HAC := Lib.hid hacc
            have HKE := Lib.hid (show k = LU.length by omega)
            have hr4 := (row?_congr (hS.block _ (show w.heap.size < W5.heap.size by omega) ⟨by omega, by omega⟩)).trans ((row?_below HB5.out (by omega)).trans HR42.out)
            have keep5 : ∀ v l, RdA (fun k => k ≠ g12 ∧ k ≠ w.heap.size) W5 v l → RdA (fun k => k ≠ w.heap.size) wr v l := fun v l h => h.keep hS.size fun k hk hA => ⟨hS.block k hk ⟨hk, hA.1⟩, hA.2⟩
            have hv1 := keep5 _ _ HVL5.out
            have hv2 := keep5 _ _ HVR5.out
            have hv3 := keep5 _ _ HVF5.out
            have hv4 : RdA (fun k => k ≠ w.heap.size) wr (.slice qu acc.length cqu) (LU.map (plI (elemsI x.bnd))) := by
              have := HO.out.rda.mono (A' := fun k => k ≠ w.heap.size) fun k hk => by omega
              rw [HAC.out, HKE.out, List.take_length] at this
              rw [HAC.out, HKE.out, List.take_length]
              exact this
            have HV1 := Lib.hid hv1
            have HV2 := Lib.hid hv2
            have HV3 := Lib.hid hv3
            have HV4 := Lib.hid hv4
            have HBF := Lib.hid ((HBw.out W2 (Below.refl _ _)).trans (hB2w.mono (by omega)))
            have hsw4 : w.heap.size + 3 ≤ wr.heap.size := by omega
            have hr5 := hr
            clear hv1 hv2 hv3 hv4 HO hr hO hS HS HR hacc hown keep5 hB2w HVL5 HVR5 HVF5
            obtain ⟨nu, hnu⟩ : ∃ nu, nu = acc.length := ⟨_, rfl⟩
            rw [← hnu] at hr5 HV4
            clear hnu
            go_wp2_with fail
            refine ret_row2 w.heap.size #[Value.slice al (elemsI y.bnd).length cl, Value.slice ar (elemsI z.bnd).length cr, Value.slice af (elemsI (sDiff U x.bnd)).length cf, .slice qu nu cqu] rfl Tryz.isAgg36 Tryz.sizeOf36 rfl rfl (row?_setRow_same _ _ _ (by rw [hr4]; rfl)) rfl ?_
            have keepR : ∀ v l, RdA (fun k => k ≠ w.heap.size) wr v l → RdL (wr.setRow w.heap.size #[Value.slice al (elemsI y.bnd).length cl, Value.slice ar (elemsI z.bnd).length cr, Value.slice af (elemsI (sDiff U x.bnd)).length cf, .slice qu nu cqu]) v l := fun v l h => (h.keep (A' := fun _ => True) (by simp) fun k hk hA => ⟨setRow_other _ _ _ _ hA, trivial⟩).rdl
            have hv1 := keepR _ _ HV1.out
            have hv2 := keepR _ _ HV2.out
            have hv3 := keepR _ _ HV3.out
            have hv4 := keepR _ _ HV4.out
            rw [map_pl_cnt hUS hyU] at hv1
            rw [map_pl_cnt hUS hBU] at hv2
            rw [cnt_negs hUS hxS] at hv3
            rw [HLU.out] at hv4
            refine ⟨_, _, _, _, rfl, ?_, ?_, ?_, ?_, below_setRow HBF.out (Nat.le_refl _) _⟩
            · rw [← HU.out]; exact hv1
            · rw [← HU.out]; exact hv2
            · rw [← HU.out]; exact hv3
            · rw [← HU.out]; exact hv4
end Go.Proofs.YtoiefehkfhkhbaaGreatDoor
