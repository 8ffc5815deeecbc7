/-
  The reference's types of graphs in memory: loads, stores, built values.
-/
import Derived.Test.YtmmhngjndnonhaaGreatDoorDGp
import Derived.Test.YtmmhngjndnonhaaGreatDoorDGrG
set_option linter.unusedSimpArgs false
set_option linter.unusedVariables false
namespace Go.Proofs.YtmmhngjndnonhaaGreatDoor
open Go Go.RowKit Go.Pal
@[go_sem ↓ high] theorem loadRG (a : Addr) : loadVar 27 a = loadLater 27 a := rfl
@[go_sem ↓ high] theorem storeRG (a : Addr) (v : Value) : storeVar 27 a v = storeLater 27 a v := rfl
@[go_sem] theorem loadRG_run (w : World) (a : Addr) : (loadLater 27 a).run Tryz.prog w = rowLoad Tryz.prog 27 a w := rfl
@[go_sem] theorem storeRG_run (w : World) (a : Addr) (v : Value) : (storeLater 27 a v).run Tryz.prog w = rowStore Tryz.prog 27 a v w := rfl
@[go_sem] theorem loadRG_at (w : World) (g : Nat) : rowLoad Tryz.prog 27 ⟨g, 0, none⟩ w = match row? w g with
      | some c => if c.size = 2 then .ok (.agg c) w else laterLoad Tryz.prog 27 ⟨g, 0, none⟩ w
      | none => laterLoad Tryz.prog 27 ⟨g, 0, none⟩ w := load_row Tryz.isAgg27 Tryz.sizeOf27 w g
@[go_sem] theorem storeRG_at (w : World) (g : Nat) (d : Array Value) : rowStore Tryz.prog 27 ⟨g, 0, none⟩ (.agg d) w = match row? w g with
      | some c => if c.size = 2 ∧ d.size = 2 ∧ allOne d = true then .ok () (w.setRow g d) else laterStore Tryz.prog 27 ⟨g, 0, none⟩ (.agg d) w
      | none => laterStore Tryz.prog 27 ⟨g, 0, none⟩ (.agg d) w := store_row Tryz.sizeOf27 w g d
@[go_sem ↓ high] theorem zeroRG (w : World) : (zeroValue 27).run Tryz.prog w = .ok (.agg #[.slice none 0 0, .slice none 0 0]) w := by kernel_rfl
@[go_sem] theorem allOne_sl2 (a a' : Option Addr) (n n' c c' : Nat) : allOne #[.slice a n c, .slice a' n' c'] = true := by unfold allOne; simp [Value.oneCell']
@[go_sem ↓ high] theorem loadRV (a : Addr) : loadVar 105 a = loadLater 105 a := rfl
@[go_sem ↓ high] theorem storeRV (a : Addr) (v : Value) : storeVar 105 a v = storeLater 105 a v := rfl
@[go_sem] theorem loadRV_run (w : World) (a : Addr) : (loadLater 105 a).run Tryz.prog w = rowLoad Tryz.prog 105 a w := rfl
@[go_sem] theorem storeRV_run (w : World) (a : Addr) (v : Value) : (storeLater 105 a v).run Tryz.prog w = rowStore Tryz.prog 105 a v w := rfl
@[go_sem] theorem loadRV_at (w : World) (g : Nat) : rowLoad Tryz.prog 105 ⟨g, 0, none⟩ w = match row? w g with
      | some c => if c.size = 3 then .ok (.agg c) w else laterLoad Tryz.prog 105 ⟨g, 0, none⟩ w
      | none => laterLoad Tryz.prog 105 ⟨g, 0, none⟩ w := load_row Tryz.isAgg105 Tryz.sizeOf105 w g
@[go_sem] theorem storeRV_at (w : World) (g : Nat) (d : Array Value) : rowStore Tryz.prog 105 ⟨g, 0, none⟩ (.agg d) w = match row? w g with
      | some c => if c.size = 3 ∧ d.size = 3 ∧ allOne d = true then .ok () (w.setRow g d) else laterStore Tryz.prog 105 ⟨g, 0, none⟩ (.agg d) w
      | none => laterStore Tryz.prog 105 ⟨g, 0, none⟩ (.agg d) w := store_row Tryz.sizeOf105 w g d
@[go_sem ↓ high] theorem zeroRV (w : World) : (zeroValue 105).run Tryz.prog w = .ok (.agg #[.int .i64 0, .int .u8 0, .int .i64 0]) w := by kernel_rfl
@[go_sem] theorem allOne_i3 (a b c : Int) (p q r : IntKind) : allOne #[.int p a, .int q b, .int r c] = true := by unfold allOne; simp [Value.oneCell']
@[go_sem ↓ high] theorem loadRE (a : Addr) : loadVar 106 a = loadLater 106 a := rfl
@[go_sem ↓ high] theorem storeRE (a : Addr) (v : Value) : storeVar 106 a v = storeLater 106 a v := rfl
@[go_sem] theorem loadRE_run (w : World) (a : Addr) : (loadLater 106 a).run Tryz.prog w = rowLoad Tryz.prog 106 a w := rfl
@[go_sem] theorem storeRE_run (w : World) (a : Addr) (v : Value) : (storeLater 106 a v).run Tryz.prog w = rowStore Tryz.prog 106 a v w := rfl
@[go_sem] theorem loadRE_at (w : World) (g : Nat) : rowLoad Tryz.prog 106 ⟨g, 0, none⟩ w = match row? w g with
      | some c => if c.size = 4 then .ok (.agg c) w else laterLoad Tryz.prog 106 ⟨g, 0, none⟩ w
      | none => laterLoad Tryz.prog 106 ⟨g, 0, none⟩ w := load_row Tryz.isAgg106 Tryz.sizeOf106 w g
@[go_sem] theorem storeRE_at (w : World) (g : Nat) (d : Array Value) : rowStore Tryz.prog 106 ⟨g, 0, none⟩ (.agg d) w = match row? w g with
      | some c => if c.size = 4 ∧ d.size = 4 ∧ allOne d = true then .ok () (w.setRow g d) else laterStore Tryz.prog 106 ⟨g, 0, none⟩ (.agg d) w
      | none => laterStore Tryz.prog 106 ⟨g, 0, none⟩ (.agg d) w := store_row Tryz.sizeOf106 w g d
@[go_sem ↓ high] theorem zeroRE (w : World) : (zeroValue 106).run Tryz.prog w = .ok (.agg #[.int .i64 0, .int .i64 0, .int .u8 0, .int .i64 0]) w := by kernel_rfl
@[go_sem] theorem allOne_i4 (a b c d : Int) (p q r s : IntKind) : allOne #[.int p a, .int q b, .int r c, .int s d] = true := by unfold allOne; simp [Value.oneCell']
@[go_sem ↓ high] theorem loadRD (a : Addr) : loadVar 36 a = loadLater 36 a := rfl
@[go_sem ↓ high] theorem storeRD (a : Addr) (v : Value) : storeVar 36 a v = storeLater 36 a v := rfl
@[go_sem] theorem loadRD_run (w : World) (a : Addr) : (loadLater 36 a).run Tryz.prog w = rowLoad Tryz.prog 36 a w := rfl
@[go_sem] theorem storeRD_run (w : World) (a : Addr) (v : Value) : (storeLater 36 a v).run Tryz.prog w = rowStore Tryz.prog 36 a v w := rfl
@[go_sem] theorem loadRD_at (w : World) (g : Nat) : rowLoad Tryz.prog 36 ⟨g, 0, none⟩ w = match row? w g with
      | some c => if c.size = 5 then .ok (.agg c) w else laterLoad Tryz.prog 36 ⟨g, 0, none⟩ w
      | none => laterLoad Tryz.prog 36 ⟨g, 0, none⟩ w := load_row Tryz.isAgg36 Tryz.sizeOf36 w g
def elRV : ElT Tryz.prog 105 3 vtxA where
  bytes := 24
  zero := .agg #[.int .i64 0, .int .u8 0, .int .i64 0]
  info := by kernel_rfl
  zc := rfl
  pos := by decide
  small := by decide
  size _ := rfl
  one x u hu := by simp [vtxA] at hu; rcases hu with rfl | rfl | rfl <;> rfl
def elRE : ElT Tryz.prog 106 4 edgA where
  bytes := 32
  zero := .agg #[.int .i64 0, .int .i64 0, .int .u8 0, .int .i64 0]
  info := by kernel_rfl
  zc := rfl
  pos := by decide
  small := by decide
  size _ := rfl
  one x u hu := by simp [edgA] at hu; rcases hu with rfl | rfl | rfl | rfl <;> rfl
abbrev OwnRV := OwnR 105 3 vtxA
abbrev OwnRE := OwnR 106 4 edgA
@[go_sem ↓ high] theorem build_rGE (a : Option Addr) (n c : Nat) (w : World) : (Instr.build 27 #[(1, .slice a n c)]).run Tryz.prog w = .ok (.agg #[.slice none 0 0, .slice a n c]) w := by kernel_rfl
@[go_sem ↓ high] theorem build_rGV (a : Option Addr) (n c : Nat) (w : World) : (Instr.build 27 #[(0, .slice a n c)]).run Tryz.prog w = .ok (.agg #[.slice a n c, .slice none 0 0]) w := by kernel_rfl
@[go_sem ↓ high] theorem build_rG0 (w : World) : (Instr.build 27 #[]).run Tryz.prog w = .ok (.agg #[.slice none 0 0, .slice none 0 0]) w := by kernel_rfl
@[go_sem ↓ high] theorem buildSlice_rV (a b c : Int) (w : World) : (Instr.buildSlice 24 1 #[(0, .agg #[.int .i64 a, .int .u8 b, .int .i64 c])]).run Tryz.prog w = .ok (.slice (some ⟨w.heap.size, 0, none⟩) 1 1) (w.alloc (.cells #[.int .i64 a, .int .u8 b, .int .i64 c] 105)) := by kernel_rfl
@[go_sem ↓ high] theorem buildSlice_rE (a b c d : Int) (w : World) : (Instr.buildSlice 25 1 #[(0, .agg #[.int .i64 a, .int .i64 b, .int .u8 c, .int .i64 d])]).run Tryz.prog w = .ok (.slice (some ⟨w.heap.size, 0, none⟩) 1 1) (w.alloc (.cells #[.int .i64 a, .int .i64 b, .int .u8 c, .int .i64 d] 106)) := by kernel_rfl
@[go_sem ↓ high] theorem build_rV (a b c : Int) (w : World) : (Instr.build 105 #[(0, .int .i64 a), (1, .int .u8 b), (2, .int .i64 c)]).run Tryz.prog w = .ok (.agg #[.int .i64 a, .int .u8 b, .int .i64 c]) w := by kernel_rfl
@[go_sem ↓ high] theorem build_rE (a b c d : Int) (w : World) : (Instr.build 106 #[(0, .int .i64 a), (1, .int .i64 b), (2, .int .u8 c), (3, .int .i64 d)]).run Tryz.prog w = .ok (.agg #[.int .i64 a, .int .i64 b, .int .u8 c, .int .i64 d]) w := by kernel_rfl
end Go.Proofs.YtmmhngjndnonhaaGreatDoor
namespace Go.Pal
open Go Go.RowKit
/-- An element of a row that is read. -/
theorem Rd.at {α : Type} {enc : α → Array Value} {k B : Nat} {w : World} {v : Value} {l : List α} (h : Rd enc k B w v l) {i : Nat} (hi : i < l.length) :
    ∃ b off c x, v = .slice (some ⟨b, off, none⟩) l.length c ∧ b < B ∧ l[i]? = some x ∧ ∀ w', Below B w w' → ∀ j u, (enc x)[j]? = some u → w'.cell? ⟨b, off + i * k + j, none⟩ = some u := by
  obtain ⟨a, c, rfl, hr⟩ := h
  rcases hr with hr | ⟨b, off, rfl, hb, hc⟩
  · rw [hr] at hi; simp at hi
  · exact ⟨b, off, c, _, rfl, hb, List.getElem?_eq_getElem hi, fun w' hw j u hu => (hw.cell (p := ⟨b, off + i * k + j, none⟩) hb).trans (hc i _ (List.getElem?_eq_getElem hi) j u hu)⟩
theorem Rd.sl {α : Type} {enc : α → Array Value} {k B : Nat} {w : World} {v : Value} {l : List α} (h : Rd enc k B w v l) : ∃ a c, v = .slice a l.length c := by
  obtain ⟨a, c, rfl, -⟩ := h
  exact ⟨a, c, rfl⟩
theorem Rd.nil {α : Type} {enc : α → Array Value} {k B : Nat} {w : World} : Rd enc k B w (.slice none 0 0) ([] : List α) := ⟨none, 0, rfl, .inl rfl⟩
/-- None of the first k elements fulfils q. -/
def noHit {α : Type} (q : α → Bool) (l : List α) (k : Nat) : Prop := ∀ (j : Nat) y, j < k → l[j]? = some y → q y = false
end Go.Pal
