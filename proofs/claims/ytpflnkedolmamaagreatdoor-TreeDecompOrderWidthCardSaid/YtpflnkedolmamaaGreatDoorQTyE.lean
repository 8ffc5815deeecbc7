/-
  The reference's types of graphs in memory: loads, stores, built values.
  Bags compared; trees of bags compared (slices.Equal, Equal).
-/
import Derived.Test.YtpflnkedolmamaaGreatDoorQGp
import Derived.Test.YtpflnkedolmamaaGreatDoorQGrH
import Derived.Test.YtpflnkedolmamaaGreatDoorQGT
set_option linter.unusedSimpArgs false
set_option linter.unusedVariables false
namespace Go.Proofs.YtpflnkedolmamaaGreatDoor
open Go Go.RowKit Go.Pal
@[go_sem ↓ high] theorem loadRG (a : Addr) : loadVar 44 a = loadLater 44 a := rfl
@[go_sem ↓ high] theorem storeRG (a : Addr) (v : Value) : storeVar 44 a v = storeLater 44 a v := rfl
@[go_sem] theorem loadRG_run (w : World) (a : Addr) : (loadLater 44 a).run Tryz.prog w = rowLoad Tryz.prog 44 a w := rfl
@[go_sem] theorem storeRG_run (w : World) (a : Addr) (v : Value) : (storeLater 44 a v).run Tryz.prog w = rowStore Tryz.prog 44 a v w := rfl
@[go_sem] theorem loadRG_at (w : World) (g : Nat) : rowLoad Tryz.prog 44 ⟨g, 0, none⟩ w = match row? w g with
      | some c => if c.size = 2 then .ok (.agg c) w else laterLoad Tryz.prog 44 ⟨g, 0, none⟩ w
      | none => laterLoad Tryz.prog 44 ⟨g, 0, none⟩ w := load_row Tryz.isAgg44 Tryz.sizeOf44 w g
@[go_sem] theorem storeRG_at (w : World) (g : Nat) (d : Array Value) : rowStore Tryz.prog 44 ⟨g, 0, none⟩ (.agg d) w = match row? w g with
      | some c => if c.size = 2 ∧ d.size = 2 ∧ allOne d = true then .ok () (w.setRow g d) else laterStore Tryz.prog 44 ⟨g, 0, none⟩ (.agg d) w
      | none => laterStore Tryz.prog 44 ⟨g, 0, none⟩ (.agg d) w := store_row Tryz.sizeOf44 w g d
@[go_sem ↓ high] theorem zeroRG (w : World) : (zeroValue 44).run Tryz.prog w = .ok (.agg #[.slice none 0 0, .slice none 0 0]) w := by kernel_rfl
@[go_sem] theorem allOne_sl2 (a a' : Option Addr) (n n' c c' : Nat) : allOne #[.slice a n c, .slice a' n' c'] = true := by unfold allOne; simp [Value.oneCell']
@[go_sem ↓ high] theorem loadRV (a : Addr) : loadVar 104 a = loadLater 104 a := rfl
@[go_sem ↓ high] theorem storeRV (a : Addr) (v : Value) : storeVar 104 a v = storeLater 104 a v := rfl
@[go_sem] theorem loadRV_run (w : World) (a : Addr) : (loadLater 104 a).run Tryz.prog w = rowLoad Tryz.prog 104 a w := rfl
@[go_sem] theorem storeRV_run (w : World) (a : Addr) (v : Value) : (storeLater 104 a v).run Tryz.prog w = rowStore Tryz.prog 104 a v w := rfl
@[go_sem] theorem loadRV_at (w : World) (g : Nat) : rowLoad Tryz.prog 104 ⟨g, 0, none⟩ w = match row? w g with
      | some c => if c.size = 3 then .ok (.agg c) w else laterLoad Tryz.prog 104 ⟨g, 0, none⟩ w
      | none => laterLoad Tryz.prog 104 ⟨g, 0, none⟩ w := load_row Tryz.isAgg104 Tryz.sizeOf104 w g
@[go_sem] theorem storeRV_at (w : World) (g : Nat) (d : Array Value) : rowStore Tryz.prog 104 ⟨g, 0, none⟩ (.agg d) w = match row? w g with
      | some c => if c.size = 3 ∧ d.size = 3 ∧ allOne d = true then .ok () (w.setRow g d) else laterStore Tryz.prog 104 ⟨g, 0, none⟩ (.agg d) w
      | none => laterStore Tryz.prog 104 ⟨g, 0, none⟩ (.agg d) w := store_row Tryz.sizeOf104 w g d
@[go_sem ↓ high] theorem zeroRV (w : World) : (zeroValue 104).run Tryz.prog w = .ok (.agg #[.int .i64 0, .int .u8 0, .int .i64 0]) w := by kernel_rfl
@[go_sem] theorem allOne_i3 (a b c : Int) (p q r : IntKind) : allOne #[.int p a, .int q b, .int r c] = true := by unfold allOne; simp [Value.oneCell']
@[go_sem ↓ high] theorem loadRE (a : Addr) : loadVar 133 a = loadLater 133 a := rfl
@[go_sem ↓ high] theorem storeRE (a : Addr) (v : Value) : storeVar 133 a v = storeLater 133 a v := rfl
@[go_sem] theorem loadRE_run (w : World) (a : Addr) : (loadLater 133 a).run Tryz.prog w = rowLoad Tryz.prog 133 a w := rfl
@[go_sem] theorem storeRE_run (w : World) (a : Addr) (v : Value) : (storeLater 133 a v).run Tryz.prog w = rowStore Tryz.prog 133 a v w := rfl
@[go_sem] theorem loadRE_at (w : World) (g : Nat) : rowLoad Tryz.prog 133 ⟨g, 0, none⟩ w = match row? w g with
      | some c => if c.size = 4 then .ok (.agg c) w else laterLoad Tryz.prog 133 ⟨g, 0, none⟩ w
      | none => laterLoad Tryz.prog 133 ⟨g, 0, none⟩ w := load_row Tryz.isAgg133 Tryz.sizeOf133 w g
@[go_sem] theorem storeRE_at (w : World) (g : Nat) (d : Array Value) : rowStore Tryz.prog 133 ⟨g, 0, none⟩ (.agg d) w = match row? w g with
      | some c => if c.size = 4 ∧ d.size = 4 ∧ allOne d = true then .ok () (w.setRow g d) else laterStore Tryz.prog 133 ⟨g, 0, none⟩ (.agg d) w
      | none => laterStore Tryz.prog 133 ⟨g, 0, none⟩ (.agg d) w := store_row Tryz.sizeOf133 w g d
@[go_sem ↓ high] theorem zeroRE (w : World) : (zeroValue 133).run Tryz.prog w = .ok (.agg #[.int .i64 0, .int .i64 0, .int .u8 0, .int .i64 0]) w := by kernel_rfl
@[go_sem] theorem allOne_i4 (a b c d : Int) (p q r s : IntKind) : allOne #[.int p a, .int q b, .int r c, .int s d] = true := by unfold allOne; simp [Value.oneCell']
@[go_sem ↓ high] theorem loadRD (a : Addr) : loadVar 181 a = loadLater 181 a := rfl
@[go_sem ↓ high] theorem storeRD (a : Addr) (v : Value) : storeVar 181 a v = storeLater 181 a v := rfl
@[go_sem] theorem loadRD_run (w : World) (a : Addr) : (loadLater 181 a).run Tryz.prog w = rowLoad Tryz.prog 181 a w := rfl
@[go_sem] theorem storeRD_run (w : World) (a : Addr) (v : Value) : (storeLater 181 a v).run Tryz.prog w = rowStore Tryz.prog 181 a v w := rfl
@[go_sem] theorem loadRD_at (w : World) (g : Nat) : rowLoad Tryz.prog 181 ⟨g, 0, none⟩ w = match row? w g with
      | some c => if c.size = 5 then .ok (.agg c) w else laterLoad Tryz.prog 181 ⟨g, 0, none⟩ w
      | none => laterLoad Tryz.prog 181 ⟨g, 0, none⟩ w := load_row Tryz.isAgg181 Tryz.sizeOf181 w g
def elRV : ElT Tryz.prog 104 3 vtxA where
  bytes := 24
  zero := .agg #[.int .i64 0, .int .u8 0, .int .i64 0]
  info := by kernel_rfl
  zc := rfl
  pos := by decide
  small := by decide
  size _ := rfl
  one x u hu := by simp [vtxA] at hu; rcases hu with rfl | rfl | rfl <;> rfl
def elRE : ElT Tryz.prog 133 4 edgA where
  bytes := 32
  zero := .agg #[.int .i64 0, .int .i64 0, .int .u8 0, .int .i64 0]
  info := by kernel_rfl
  zc := rfl
  pos := by decide
  small := by decide
  size _ := rfl
  one x u hu := by simp [edgA] at hu; rcases hu with rfl | rfl | rfl | rfl <;> rfl
abbrev OwnRV := OwnR 104 3 vtxA
abbrev OwnRE := OwnR 133 4 edgA
@[go_sem ↓ high] theorem build_rGE (a : Option Addr) (n c : Nat) (w : World) : (Instr.build 44 #[(1, .slice a n c)]).run Tryz.prog w = .ok (.agg #[.slice none 0 0, .slice a n c]) w := by kernel_rfl
@[go_sem ↓ high] theorem build_rGV (a : Option Addr) (n c : Nat) (w : World) : (Instr.build 44 #[(0, .slice a n c)]).run Tryz.prog w = .ok (.agg #[.slice a n c, .slice none 0 0]) w := by kernel_rfl
@[go_sem ↓ high] theorem build_rG0 (w : World) : (Instr.build 44 #[]).run Tryz.prog w = .ok (.agg #[.slice none 0 0, .slice none 0 0]) w := by kernel_rfl
@[go_sem ↓ high] theorem buildSlice_rV (a b c : Int) (w : World) : (Instr.buildSlice 41 1 #[(0, .agg #[.int .i64 a, .int .u8 b, .int .i64 c])]).run Tryz.prog w = .ok (.slice (some ⟨w.heap.size, 0, none⟩) 1 1) (w.alloc (.cells #[.int .i64 a, .int .u8 b, .int .i64 c] 104)) := by kernel_rfl
@[go_sem ↓ high] theorem buildSlice_rE (a b c d : Int) (w : World) : (Instr.buildSlice 42 1 #[(0, .agg #[.int .i64 a, .int .i64 b, .int .u8 c, .int .i64 d])]).run Tryz.prog w = .ok (.slice (some ⟨w.heap.size, 0, none⟩) 1 1) (w.alloc (.cells #[.int .i64 a, .int .i64 b, .int .u8 c, .int .i64 d] 133)) := by kernel_rfl
@[go_sem ↓ high] theorem build_rV (a b c : Int) (w : World) : (Instr.build 104 #[(0, .int .i64 a), (1, .int .u8 b), (2, .int .i64 c)]).run Tryz.prog w = .ok (.agg #[.int .i64 a, .int .u8 b, .int .i64 c]) w := by kernel_rfl
@[go_sem ↓ high] theorem build_rE (a b c d : Int) (w : World) : (Instr.build 133 #[(0, .int .i64 a), (1, .int .i64 b), (2, .int .u8 c), (3, .int .i64 d)]).run Tryz.prog w = .ok (.agg #[.int .i64 a, .int .i64 b, .int .u8 c, .int .i64 d]) w := by kernel_rfl
end Go.Proofs.YtpflnkedolmamaaGreatDoor
namespace Go.Pal
open Go Go.RowKit
/-- An element of a row that is read. -/
theorem Rd.at {α : Type} {enc : α → Array Value} {k B : Nat} {w : World} {v : Value} {l : List α} (h : Rd enc k B w v l) {i : Nat} (hi : i < l.length) :
    ∃ b off c x, v = .slice (some ⟨b, off, none⟩) l.length c ∧ b < B ∧ l[i]? = some x ∧ ∀ w', Below B w w' → ∀ j u, (enc x)[j]? = some u → w'.cell? ⟨b, off + i * k + j, none⟩ = some u := by
  obtain ⟨a, c, rfl, hr⟩ := h
  rcases hr with hr | ⟨b, off, rfl, hb, hc⟩
  · rw [hr] at hi; simp at hi
  · exact ⟨b, off, c, _, rfl, hb, List.getElem?_eq_getElem hi, fun w' hw j u hu => (hw.cell (p := ⟨b, off + i * k + j, none⟩) hb).trans (hc i _ (List.getElem?_eq_getElem hi) j u hu)⟩
theorem Rd.sl {α : Type} {enc : α → Array Value} {k B : Nat} {w : World} {v : Value} {l : List α} (h : Rd enc k B w v l) : ∃ a c, v = .slice a l.length c := by
  obtain ⟨a, c, rfl, -⟩ := h
  exact ⟨a, c, rfl⟩
theorem Rd.nil {α : Type} {enc : α → Array Value} {k B : Nat} {w : World} : Rd enc k B w (.slice none 0 0) ([] : List α) := ⟨none, 0, rfl, .inl rfl⟩
/-- None of the first k elements fulfils q. -/
def noHit {α : Type} (q : α → Bool) (l : List α) (k : Nat) : Prop := ∀ (j : Nat) y, j < k → l[j]? = some y → q y = false
end Go.Pal
namespace Go.Proofs.YtpflnkedolmamaaGreatDoor
open Go Go.RowKit Go.Pal Go.Shelf
attribute [local go_sem] Oper.semAt_some

theorem part_bag0 (b : Bg) (w : World) : (part 3 (bagA b) 0).run Tryz.prog w = .ok (.int .i64 b.1) w := by
  have h := bagA_zero b
  simp [part, Sem.run_bind, Tryz.isAgg3, h]
theorem part_bag1 (b : Bg) (w : World) : (part 33 (bagA b) 1).run Tryz.prog w = .ok (.agg (words b.2)) w := by
  have h : (bagA b).extract 1 (1 + 16) = words b.2 := bagA_extract b
  simp [part, Sem.run_bind, Tryz.isAgg33, Tryz.sizeOf33, h]
theorem eqBag (x y : Bg) (w : World) : (Op.equalIn 10000 35 (.agg (bagA x)) (.agg (bagA y))).run Tryz.prog w = .ok (decide (x.1 = y.1) && eqW x.2 y.2) w := by
  have hst : Tryz.prog.stoodInHeld 35 = false := by kernel_rfl
  have h1 : ∀ (p q : Int) w, (Op.equalIn 9999 3 (.int .i64 p) (.int .i64 q)).run Tryz.prog w = .ok (p == q) w := fun p q w => run_equalIn_int (P := Tryz.prog) w 9998 3 .i64 .i64 p q Tryz.underlying3
  have h2 : ∀ (S R : Nat) w, (Op.equalIn 9999 33 (.agg (words S)) (.agg (words R))).run Tryz.prog w = .ok (eqW S R) w := fun S R w => run_equalIn_ints 9997 33 31 .u64 .u64 16 (words S) (words R) (fun i => (wd S i : Int)) (fun i => (wd R i : Int)) w Tryz.underlying33 Tryz.underlying31 Tryz.sizeOf31 Tryz.isAgg31 (fun _ hi => words_get S hi) (fun _ hi => words_get R hi)
  have hpr : ∀ w, (program).run Tryz.prog w = .ok Tryz.prog w := fun _ => rfl
  rw [show (10000 : Nat) = 9999 + 1 from rfl, Op.equalIn]
  simp only [Sem.run_bind, run_underlying Tryz.underlying35, Result.andThen_ok, hpr, hst, Bool.false_eq_true, if_false, List.forIn_toArray, List.forIn_cons, List.forIn_nil]
  obtain ⟨p, S⟩ := x
  obtain ⟨q, R⟩ := y
  cases e1 : (p == q) with
  | true =>
    have e3 : p = q := by simpa using e1
    cases e2 : eqW S R <;> simp [Sem.run_bind, part_bag0, part_bag1, h1, h2, e2, e3]
  | false =>
    have e3 : ¬ p = q := by simpa using e1
    simp [Sem.run_bind, part_bag0, h1, e1, e3]

theorem guardBag : Tryz.prog.eqGuardType Tryz.prog.depth 35 = false := by kernel_rfl
theorem eqW_self (S : Nat) : eqW S S = true := by unfold eqW; simp

theorem eqBagD {x y : Bg} (hx : IsSet x.2) (hy : IsSet y.2) (w : World) : (Op.equalIn 10000 35 (.agg (bagA x)) (.agg (bagA y))).run Tryz.prog w = .ok (decide (x = y)) w := by
  rw [eqBag, eqW_iff hx hy]
  congr 1
  obtain ⟨p, S⟩ := x
  obtain ⟨q, R⟩ := y
  rw [Bool.eq_iff_iff]
  simp
set_option maxRecDepth 10000 in
set_option maxHeartbeats 1000000 in
theorem equalT_any (T T' : List Bg) (hS : ∀ x ∈ T, IsSet x.2) (hS' : ∀ x ∈ T', IsSet x.2) (va vb : Value) (w : World) (ha : Rd bagA 17 w.heap.size w va T) (hb : Rd bagA 17 w.heap.size w vb T') (hlen : T.length ≤ 65536) (hlen' : T'.length ≤ 65536) :
    Calls Tryz.prog 59 #[va, vb] w fun e w' => e = .returned (.bool (decide (T = T'))) ∧ Below w.heap.size w w' := by
  have HA := Lib.hid ha
  have HB := Lib.hid hb
  obtain ⟨a, c, rfl⟩ := ha.sl
  obtain ⟨a2, c2, rfl⟩ := hb.sl
  have hgs := guardBag
  have HS := Lib.hid hS
  have HS' := Lib.hid hS'
  clear ha hb hS hS'
  by_cases hll : T.length = T'.length
  · have HL := Lib.hid hll
    have hlz : ((T.length : Int) == (T'.length : Int)) = true := by simp; omega
    have hlz2 : ((T.length : Int) != (T'.length : Int)) = false := by simp; omega
    clear hll
    go_enter Tryz.func59, Tryz.ntmps59
    go_wp2_with fail
    go_loopw [13] (fun i wr => ∃ k : Nat, k ≤ T.length ∧ i = .int .i64 (k : Int) ∧ Hid (T.take k = T'.take k) ∧ Below w.heap.size w wr) (fun i _ => T.length - (intOf i).toNat)
    case atStart => exact ⟨0, by omega, rfl, Lib.hid rfl, Below.refl _ _⟩
    case round =>
      obtain ⟨k, hk, rfl, htk, hb⟩ := hrel
      have HBr := Lib.hid hb
      clear hb
      by_cases hlt : k < T.length
      · have hlt' : k < T'.length := by have := HL.out; omega
        obtain ⟨b, off, c', x, h1, hbB, hx, hc⟩ := HA.out.at hlt
        obtain ⟨b', off', c'', y, h1', hbB', hy, hc'⟩ := HB.out.at hlt'
        simp only [Value.slice.injEq] at h1 h1'
        obtain ⟨rfl, -, rfl⟩ := h1
        obtain ⟨rfl, -, rfl⟩ := h1'
        have l1 : rowLoad Tryz.prog 35 ⟨b, off + k * 17, none⟩ wr.drew = .ok (.agg (bagA x)) wr.drew := load_cells Tryz.isAgg35 Tryz.sizeOf35 wr.drew b _ (bagA x) (bagA_size x) fun j u hu => hc _ HBr.out.drew j u hu
        have l2 : rowLoad Tryz.prog 35 ⟨b', off' + k * 17, none⟩ wr.drew = .ok (.agg (bagA y)) wr.drew := load_cells Tryz.isAgg35 Tryz.sizeOf35 wr.drew b' _ (bagA y) (bagA_size y) fun j u hu => hc' _ HBr.out.drew j u hu
        have heq := fun w => eqBagD (HS.out x (List.mem_of_getElem? hx)) (HS'.out y (List.mem_of_getElem? hy)) w
        have HX := Lib.hid hx
        have HY := Lib.hid hy
        clear hc hc' hx hy
        by_cases hxy : x = y
        · have heq := fun w => (heq w).trans (by rw [decide_eq_true hxy])
          have HXY := Lib.hid hxy
          rename_i heq0
          clear hxy heq0
          go_wp2_with fail
          refine wp_region_free (fun w' => w' = wr.drew) (by kernel_rfl) (by kernel_rfl) rfl ?_
          repeat (apply wpFree_still; (intro w hw; subst hw; go_simp; (try go_ints); (first | with_reducible rfl | (go_simp; with_reducible rfl))); with_reducible rfl; (intro K hK; go_simp; (try go_ints); refine hK _ ?_; clear hK K))
          with_reducible refine wpFree_nil ?_
          rintro w' rfl
          go_wp2_with fail
          go_roundw
          case rel => exact ⟨k + 1, by omega, by go_num, Lib.hid (by rw [List.take_add_one, List.take_add_one, HX.out, HY.out, HXY.out, htk.out]), HBr.out.drew⟩
          case measure => simp [intOf]; omega
        · have heq := fun w => (heq w).trans (by rw [decide_eq_false hxy])
          have HXY := Lib.hid hxy
          rename_i heq0
          clear hxy heq0
          go_wp2_with fail
          refine wp_region_free (fun w' => w' = wr.drew) (by kernel_rfl) (by kernel_rfl) rfl ?_
          repeat (apply wpFree_still; (intro w hw; subst hw; go_simp; (try go_ints); (first | with_reducible rfl | (go_simp; with_reducible rfl))); with_reducible rfl; (intro K hK; go_simp; (try go_ints); refine hK _ ?_; clear hK K))
          with_reducible refine wpFree_nil ?_
          rintro w' rfl
          go_wp2_with fail
          go_ret
          refine ⟨?_, HBr.out.drew⟩
          have hne : ¬ T = T' := fun e => by
            have h1 := HX.out
            rw [e, HY.out] at h1
            exact HXY.out (Option.some.inj h1).symm
          rw [decide_eq_false hne]
          rfl
      · have hkn : k = T.length := by omega
        subst hkn
        go_wp2_with fail
        go_ret
        refine ⟨?_, HBr.out⟩
        have h1 := htk.out
        rw [List.take_length, HL.out, List.take_length] at h1
        rw [decide_eq_true h1]
        rfl
  · have HL := Lib.hid hll
    have hlz : ((T.length : Int) == (T'.length : Int)) = false := by simp; omega
    have hlz2 : ((T.length : Int) != (T'.length : Int)) = true := by simp; omega
    clear hll
    go_enter Tryz.func59, Tryz.ntmps59
    go_wp2_with fail
    go_ret
    exact ⟨by rw [decide_eq_false fun e => HL.out (by rw [e])]; rfl, Below.refl _ _⟩
theorem tdEqual_any (T T' : List Bg) (hS : ∀ x ∈ T, IsSet x.2) (hS' : ∀ x ∈ T', IsSet x.2) (va vb : Value) (w : World) (ha : Rd bagA 17 w.heap.size w va T) (hb : Rd bagA 17 w.heap.size w vb T') (hlen : T.length ≤ 65536) (hlen' : T'.length ≤ 65536) :
    Calls Tryz.prog 15 #[va, vb] w fun e w' => e = .returned (.bool (decide (T = T'))) ∧ Below w.heap.size w w' := by
  have H := Lib.hid (equalT_any T T' hS hS' va vb w ha hb hlen hlen')
  obtain ⟨a, c, rfl⟩ := ha.sl
  obtain ⟨a2, c2, rfl⟩ := hb.sl
  clear ha hb
  go_enter Tryz.func15, Tryz.ntmps15
  go_wp2_with fail
  refine H.out.mono ?_
  rintro e w1 ⟨rfl, hb1⟩
  have HB1 := Lib.hid hb1
  clear hb1
  go_wp2_with fail
  go_ret
  exact ⟨by simp, HB1.out⟩
end Go.Proofs.YtpflnkedolmamaaGreatDoor
