/- The reference's types of graphs in memory: loads, stores, built values. Walk: FormatGraph. -/
import Derived.Test.YtglnhnjmelilmaaGreatDoorRVb
import Derived.Test.YtglnhnjmelilmaaGreatDoorRGp
import Derived.Test.YtglnhnjmelilmaaGreatDoorRGrG
import Derived.Test.YtglnhnjmelilmaaGreatDoorRVa
import Derived.Test.YtglnhnjmelilmaaGreatDoorRGrH
set_option linter.all false
namespace Go.Proofs.YtglnhnjmelilmaaGreatDoor
open Go Go.RowKit Go.Pal
@[go_sem ↓ high] theorem loadRG (a : Addr) : loadVar 42 a = loadLater 42 a := rfl
@[go_sem ↓ high] theorem storeRG (a : Addr) (v : Value) : storeVar 42 a v = storeLater 42 a v := rfl
@[go_sem] theorem loadRG_run (w : World) (a : Addr) : (loadLater 42 a).run Tryz.prog w = rowLoad Tryz.prog 42 a w := rfl
@[go_sem] theorem storeRG_run (w : World) (a : Addr) (v : Value) : (storeLater 42 a v).run Tryz.prog w = rowStore Tryz.prog 42 a v w := rfl
@[go_sem] theorem loadRG_at (w : World) (g : Nat) : rowLoad Tryz.prog 42 ⟨g, 0, none⟩ w = match row? w g with
     | some c => if c.size = 2 then .ok (.agg c) w else laterLoad Tryz.prog 42 ⟨g, 0, none⟩ w
     | none => laterLoad Tryz.prog 42 ⟨g, 0, none⟩ w := load_row Tryz.isAgg42 Tryz.sizeOf42 w g
@[go_sem] theorem storeRG_at (w : World) (g : Nat) (d : Array Value) : rowStore Tryz.prog 42 ⟨g, 0, none⟩ (.agg d) w = match row? w g with
     | some c => if c.size = 2 ∧ d.size = 2 ∧ allOne d = true then .ok () (w.setRow g d) else laterStore Tryz.prog 42 ⟨g, 0, none⟩ (.agg d) w
     | none => laterStore Tryz.prog 42 ⟨g, 0, none⟩ (.agg d) w := store_row Tryz.sizeOf42 w g d
@[go_sem ↓ high] theorem zeroRG (w : World) : (zeroValue 42).run Tryz.prog w = .ok (.agg #[.slice none 0 0, .slice none 0 0]) w := by kernel_rfl
@[go_sem] theorem allOne_sl2 (a a' : Option Addr) (n n' c c' : Nat) : allOne #[.slice a n c, .slice a' n' c'] = true := by unfold allOne; simp [Value.oneCell']
@[go_sem ↓ high] theorem loadRV (a : Addr) : loadVar 136 a = loadLater 136 a := rfl
@[go_sem ↓ high] theorem storeRV (a : Addr) (v : Value) : storeVar 136 a v = storeLater 136 a v := rfl
@[go_sem] theorem loadRV_run (w : World) (a : Addr) : (loadLater 136 a).run Tryz.prog w = rowLoad Tryz.prog 136 a w := rfl
@[go_sem] theorem storeRV_run (w : World) (a : Addr) (v : Value) : (storeLater 136 a v).run Tryz.prog w = rowStore Tryz.prog 136 a v w := rfl
@[go_sem] theorem loadRV_at (w : World) (g : Nat) : rowLoad Tryz.prog 136 ⟨g, 0, none⟩ w = match row? w g with
     | some c => if c.size = 3 then .ok (.agg c) w else laterLoad Tryz.prog 136 ⟨g, 0, none⟩ w
     | none => laterLoad Tryz.prog 136 ⟨g, 0, none⟩ w := load_row Tryz.isAgg136 Tryz.sizeOf136 w g
@[go_sem] theorem storeRV_at (w : World) (g : Nat) (d : Array Value) : rowStore Tryz.prog 136 ⟨g, 0, none⟩ (.agg d) w = match row? w g with
     | some c => if c.size = 3 ∧ d.size = 3 ∧ allOne d = true then .ok () (w.setRow g d) else laterStore Tryz.prog 136 ⟨g, 0, none⟩ (.agg d) w
     | none => laterStore Tryz.prog 136 ⟨g, 0, none⟩ (.agg d) w := store_row Tryz.sizeOf136 w g d
@[go_sem ↓ high] theorem zeroRV (w : World) : (zeroValue 136).run Tryz.prog w = .ok (.agg #[.int .i64 0, .int .u8 0, .int .i64 0]) w := by kernel_rfl
@[go_sem] theorem allOne_i3 (a b c : Int) (p q r : IntKind) : allOne #[.int p a, .int q b, .int r c] = true := by unfold allOne; simp [Value.oneCell']
@[go_sem ↓ high] theorem loadRE (a : Addr) : loadVar 137 a = loadLater 137 a := rfl
@[go_sem ↓ high] theorem storeRE (a : Addr) (v : Value) : storeVar 137 a v = storeLater 137 a v := rfl
@[go_sem] theorem loadRE_run (w : World) (a : Addr) : (loadLater 137 a).run Tryz.prog w = rowLoad Tryz.prog 137 a w := rfl
@[go_sem] theorem storeRE_run (w : World) (a : Addr) (v : Value) : (storeLater 137 a v).run Tryz.prog w = rowStore Tryz.prog 137 a v w := rfl
@[go_sem] theorem loadRE_at (w : World) (g : Nat) : rowLoad Tryz.prog 137 ⟨g, 0, none⟩ w = match row? w g with
     | some c => if c.size = 4 then .ok (.agg c) w else laterLoad Tryz.prog 137 ⟨g, 0, none⟩ w
     | none => laterLoad Tryz.prog 137 ⟨g, 0, none⟩ w := load_row Tryz.isAgg137 Tryz.sizeOf137 w g
@[go_sem] theorem storeRE_at (w : World) (g : Nat) (d : Array Value) : rowStore Tryz.prog 137 ⟨g, 0, none⟩ (.agg d) w = match row? w g with
     | some c => if c.size = 4 ∧ d.size = 4 ∧ allOne d = true then .ok () (w.setRow g d) else laterStore Tryz.prog 137 ⟨g, 0, none⟩ (.agg d) w
     | none => laterStore Tryz.prog 137 ⟨g, 0, none⟩ (.agg d) w := store_row Tryz.sizeOf137 w g d
@[go_sem ↓ high] theorem zeroRE (w : World) : (zeroValue 137).run Tryz.prog w = .ok (.agg #[.int .i64 0, .int .i64 0, .int .u8 0, .int .i64 0]) w := by kernel_rfl
@[go_sem] theorem allOne_i4 (a b c d : Int) (p q r s : IntKind) : allOne #[.int p a, .int q b, .int r c, .int s d] = true := by unfold allOne; simp [Value.oneCell']
@[go_sem ↓ high] theorem loadRD (a : Addr) : loadVar 30 a = loadLater 30 a := rfl
@[go_sem ↓ high] theorem storeRD (a : Addr) (v : Value) : storeVar 30 a v = storeLater 30 a v := rfl
@[go_sem] theorem loadRD_run (w : World) (a : Addr) : (loadLater 30 a).run Tryz.prog w = rowLoad Tryz.prog 30 a w := rfl
@[go_sem] theorem storeRD_run (w : World) (a : Addr) (v : Value) : (storeLater 30 a v).run Tryz.prog w = rowStore Tryz.prog 30 a v w := rfl
@[go_sem] theorem loadRD_at (w : World) (g : Nat) : rowLoad Tryz.prog 30 ⟨g, 0, none⟩ w = match row? w g with
     | some c => if c.size = 5 then .ok (.agg c) w else laterLoad Tryz.prog 30 ⟨g, 0, none⟩ w
     | none => laterLoad Tryz.prog 30 ⟨g, 0, none⟩ w := load_row Tryz.isAgg30 Tryz.sizeOf30 w g
def elRV : ElT Tryz.prog 136 3 vtxA where
 bytes := 24
 zero := .agg #[.int .i64 0, .int .u8 0, .int .i64 0]
 info := by kernel_rfl
 zc := rfl
 pos := by decide
 small := by decide
 size _ := rfl
 one x u hu := by simp [vtxA] at hu; rcases hu with rfl | rfl | rfl <;> rfl
def elRE : ElT Tryz.prog 137 4 edgA where
 bytes := 32
 zero := .agg #[.int .i64 0, .int .i64 0, .int .u8 0, .int .i64 0]
 info := by kernel_rfl
 zc := rfl
 pos := by decide
 small := by decide
 size _ := rfl
 one x u hu := by simp [edgA] at hu; rcases hu with rfl | rfl | rfl | rfl <;> rfl
abbrev OwnRV := OwnR 136 3 vtxA
abbrev OwnRE := OwnR 137 4 edgA
@[go_sem ↓ high] theorem build_rGE (a : Option Addr) (n c : Nat) (w : World) : (Instr.build 42 #[(1, .slice a n c)]).run Tryz.prog w = .ok (.agg #[.slice none 0 0, .slice a n c]) w := by kernel_rfl
@[go_sem ↓ high] theorem build_rGV (a : Option Addr) (n c : Nat) (w : World) : (Instr.build 42 #[(0, .slice a n c)]).run Tryz.prog w = .ok (.agg #[.slice a n c, .slice none 0 0]) w := by kernel_rfl
@[go_sem ↓ high] theorem build_rG0 (w : World) : (Instr.build 42 #[]).run Tryz.prog w = .ok (.agg #[.slice none 0 0, .slice none 0 0]) w := by kernel_rfl
@[go_sem ↓ high] theorem buildSlice_rV (a b c : Int) (w : World) : (Instr.buildSlice 39 1 #[(0, .agg #[.int .i64 a, .int .u8 b, .int .i64 c])]).run Tryz.prog w = .ok (.slice (some ⟨w.heap.size, 0, none⟩) 1 1) (w.alloc (.cells #[.int .i64 a, .int .u8 b, .int .i64 c] 136)) := by kernel_rfl
@[go_sem ↓ high] theorem buildSlice_rE (a b c d : Int) (w : World) : (Instr.buildSlice 40 1 #[(0, .agg #[.int .i64 a, .int .i64 b, .int .u8 c, .int .i64 d])]).run Tryz.prog w = .ok (.slice (some ⟨w.heap.size, 0, none⟩) 1 1) (w.alloc (.cells #[.int .i64 a, .int .i64 b, .int .u8 c, .int .i64 d] 137)) := by kernel_rfl
@[go_sem ↓ high] theorem build_rV (a b c : Int) (w : World) : (Instr.build 136 #[(0, .int .i64 a), (1, .int .u8 b), (2, .int .i64 c)]).run Tryz.prog w = .ok (.agg #[.int .i64 a, .int .u8 b, .int .i64 c]) w := by kernel_rfl
@[go_sem ↓ high] theorem build_rE (a b c d : Int) (w : World) : (Instr.build 137 #[(0, .int .i64 a), (1, .int .i64 b), (2, .int .u8 c), (3, .int .i64 d)]).run Tryz.prog w = .ok (.agg #[.int .i64 a, .int .i64 b, .int .u8 c, .int .i64 d]) w := by kernel_rfl
end Go.Proofs.YtglnhnjmelilmaaGreatDoor
namespace Go.Pal
open Go Go.RowKit
theorem rdl_lit3 (w : World) (t : TypeId) (a b c : Int) (k : Nat) : RdL (w.alloc (.cells #[.int .i64 a, .int .i64 b, .int .i64 c] t)) (.slice (some ⟨w.heap.size, 0, none⟩) 3 k) [a, b, c] := by
 refine ⟨_, k, rfl, .inr ⟨w.heap.size, 0, rfl, by simp, fun i z hz => ?_⟩⟩
 rw [Nat.zero_add, cell?_row (row?_alloc_at _ _ _ _ rfl)]
 match i, hz with
 | 0, hz => simp at hz; subst hz; rfl
 | 1, hz => simp at hz; subst hz; rfl
 | 2, hz => simp at hz; subst hz; rfl
 | i + 3, hz => simp at hz
theorem rdl_lit4 (w : World) (t : TypeId) (a b c d : Int) (k : Nat) : RdL (w.alloc (.cells #[.int .i64 a, .int .i64 b, .int .i64 c, .int .i64 d] t)) (.slice (some ⟨w.heap.size, 0, none⟩) 4 k) [a, b, c, d] := by
 refine ⟨_, k, rfl, .inr ⟨w.heap.size, 0, rfl, by simp, fun i z hz => ?_⟩⟩
 rw [Nat.zero_add, cell?_row (row?_alloc_at _ _ _ _ rfl)]
 match i, hz with
 | 0, hz => simp at hz; subst hz; rfl
 | 1, hz => simp at hz; subst hz; rfl
 | 2, hz => simp at hz; subst hz; rfl
 | 3, hz => simp at hz; subst hz; rfl
 | i + 4, hz => simp at hz
end Go.Pal
namespace Go.Proofs.YtglnhnjmelilmaaGreatDoor
open Go Go.RowKit Go.Pal Go.Shelf
@[go_sem ↓ high] theorem loadVXc (a : Addr) : loadVar 126 a = loadLater 126 a := rfl
@[go_sem ↓ high] theorem storeVXc (a : Addr) (v : Value) : storeVar 126 a v = storeLater 126 a v := rfl
@[go_sem] theorem loadVXc_run (w : World) (a : Addr) : (loadLater 126 a).run Tryz.prog w = rowLoad Tryz.prog 126 a w := rfl
@[go_sem] theorem storeVXc_run (w : World) (a : Addr) (v : Value) : (storeLater 126 a v).run Tryz.prog w = rowStore Tryz.prog 126 a v w := rfl
@[go_sem] theorem loadVXc_at (w : World) (g : Nat) : rowLoad Tryz.prog 126 ⟨g, 0, none⟩ w = match row? w g with
     | some c => if c.size = 3 then .ok (.agg c) w else laterLoad Tryz.prog 126 ⟨g, 0, none⟩ w
     | none => laterLoad Tryz.prog 126 ⟨g, 0, none⟩ w := load_row Tryz.isAgg126 Tryz.sizeOf126 w g
@[go_sem] theorem storeVXc_at (w : World) (g : Nat) (d : Array Value) : rowStore Tryz.prog 126 ⟨g, 0, none⟩ (.agg d) w = match row? w g with
     | some c => if c.size = 3 ∧ d.size = 3 ∧ allOne d = true then .ok () (w.setRow g d) else laterStore Tryz.prog 126 ⟨g, 0, none⟩ (.agg d) w
     | none => laterStore Tryz.prog 126 ⟨g, 0, none⟩ (.agg d) w := store_row Tryz.sizeOf126 w g d
@[go_sem ↓ high] theorem zeroVXc (w : World) : (zeroValue 126).run Tryz.prog w = .ok (.agg #[.int .i64 0, .int .u8 0, .int .i64 0]) w := by kernel_rfl
@[go_sem ↓ high] theorem loadEXc (a : Addr) : loadVar 134 a = loadLater 134 a := rfl
@[go_sem ↓ high] theorem storeEXc (a : Addr) (v : Value) : storeVar 134 a v = storeLater 134 a v := rfl
@[go_sem] theorem loadEXc_run (w : World) (a : Addr) : (loadLater 134 a).run Tryz.prog w = rowLoad Tryz.prog 134 a w := rfl
@[go_sem] theorem storeEXc_run (w : World) (a : Addr) (v : Value) : (storeLater 134 a v).run Tryz.prog w = rowStore Tryz.prog 134 a v w := rfl
@[go_sem] theorem loadEXc_at (w : World) (g : Nat) : rowLoad Tryz.prog 134 ⟨g, 0, none⟩ w = match row? w g with
     | some c => if c.size = 4 then .ok (.agg c) w else laterLoad Tryz.prog 134 ⟨g, 0, none⟩ w
     | none => laterLoad Tryz.prog 134 ⟨g, 0, none⟩ w := load_row Tryz.isAgg134 Tryz.sizeOf134 w g
@[go_sem] theorem storeEXc_at (w : World) (g : Nat) (d : Array Value) : rowStore Tryz.prog 134 ⟨g, 0, none⟩ (.agg d) w = match row? w g with
     | some c => if c.size = 4 ∧ d.size = 4 ∧ allOne d = true then .ok () (w.setRow g d) else laterStore Tryz.prog 134 ⟨g, 0, none⟩ (.agg d) w
     | none => laterStore Tryz.prog 134 ⟨g, 0, none⟩ (.agg d) w := store_row Tryz.sizeOf134 w g d
@[go_sem ↓ high] theorem zeroEXc (w : World) : (zeroValue 134).run Tryz.prog w = .ok (.agg #[.int .i64 0, .int .i64 0, .int .u8 0, .int .i64 0]) w := by kernel_rfl
@[go_sem ↓ high] theorem bs_i3 (a b c : Int) (w : World) : (Instr.buildSlice 82 3 #[(0, .int .i64 a), (1, .int .i64 b), (2, .int .i64 c)]).run Tryz.prog w = .ok (.slice (some ⟨w.heap.size, 0, none⟩) 3 3) (w.alloc (.cells #[.int .i64 a, .int .i64 b, .int .i64 c] 3)) := by kernel_rfl
@[go_sem ↓ high] theorem bs_i4 (a b c d : Int) (w : World) : (Instr.buildSlice 82 4 #[(0, .int .i64 a), (1, .int .i64 b), (2, .int .i64 c), (3, .int .i64 d)]).run Tryz.prog w = .ok (.slice (some ⟨w.heap.size, 0, none⟩) 4 4) (w.alloc (.cells #[.int .i64 a, .int .i64 b, .int .i64 c, .int .i64 d] 3)) := by kernel_rfl
set_option maxRecDepth 10000 in
set_option maxHeartbeats 4000000 in
theorem format_any (g bV bE : Nat) (G : Gr) (hG : G.Ok) (w : World) (h : GOk w g bV bE G) (ht : Pow w) :
   Calls Tryz.prog 17 #[.pointer (some ⟨g, 0, none⟩)] w fun e w' => e = .returned (.string ⟨G.text.toArray⟩) ∧ Below w.heap.size w w' := by
 have HG := Lib.hid hG
 have H0 := Lib.hid h
 have HT := Lib.hid ht
 have hlV := hG.len
 have hlE := hG.most
 obtain ⟨LV, hLV⟩ : ∃ LV, LV = G.V.length := ⟨_, rfl⟩
 obtain ⟨LE, hLE⟩ : ∃ LV, LV = G.E.length := ⟨_, rfl⟩
 have HLV := Lib.hid hLV
 have HLE := Lib.hid hLE
 rw [← hLV] at hlV
 rw [← hLE] at hlE
 clear h hG ht hLV hLE
 go_enter Tryz.func17, Tryz.ntmps17
 go_wp2_with fail
 obtain ⟨W0, hW0⟩ : ∃ W0, W0 = w.alloc (.cells #[.pointer none, .slice none 0 0] 122) := ⟨_, rfl⟩
 have hI0 : IsB w.heap.size w.heap.size [] W0 := by rw [hW0]; exact isB_fresh w
 have hB0 : Below w.heap.size w W0 := by rw [hW0]; exact (Below.refl _ w).alloc (Nat.le_refl _) _
 rw [← hW0]
 clear hW0
 refine (gvertices_any g bV bE G HG.out W0 (H0.out.below hB0)).mono ?_
 rintro e w1 ⟨vV, rfl, hO1, hb1⟩
 have hI1 := hI0.below hb1 (Nat.le_refl _)
 have hs0 := hB0.size
 have HI1 := Lib.hid hI1
 have HB1 := Lib.hid (hB0.trans (hb1.mono hs0))
 have HO1 := Lib.hid (hO1.lower hs0)
 obtain ⟨qa, qc, rfl⟩ := hO1.sl
 rw [← HLV.out] at HO1 ⊢
 clear hI0 hB0 hI1 hO1 hb1 hs0
 go_wp2_with fail
 go_loopw [11] (fun i wr => ∃ k : Nat, k ≤ LV ∧ i = .int .i64 (k : Int) ∧ IsB w.heap.size w.heap.size ((G.V.take k).flatMap vLine) wr ∧ OwnV w.heap.size wr (.slice qa LV qc) G.V ∧ Below w.heap.size w wr) (fun i _ => LV - (intOf i).toNat)
 case atStart => exact ⟨0, by omega, rfl, by simpa using HI1.out, HO1.out, HB1.out⟩
 case round =>
   obtain ⟨k, hk, rfl, hI, hO, hb⟩ := hrel
   have HI := Lib.hid hI
   have HO := Lib.hid hO
   have HB := Lib.hid hb
   have hs := hb.size
   have htl := Gr.textV_len HG.out k
   by_cases hlt : k < LV
   · obtain ⟨b, off, c', y, h1, hbb, hy, hc⟩ := (show Rd vtxA 3 wr.heap.size wr _ G.V from hO.rd elV).at (by rw [← HLV.out]; exact hlt)
     simp only [Value.slice.injEq] at h1
     obtain ⟨rfl, -, rfl⟩ := h1
     have hym := List.mem_of_getElem? hy
     have hid := HG.out.ids y hym
     obtain ⟨ht1, ht2, ht3⟩ := HG.out.thV y hym
     have HE := Lib.hid (flatMap_take_snoc (f := vLine) hy)
     have HL := Lib.hid (vLine_len HG.out hym)
     obtain ⟨yi, yl, yw⟩ := y
     simp only at hid ht1 ht2 ht3
     have HN : Hid (∀ n ∈ [yi, (yl : Int), yw], InI n) := Lib.hid (by
       intro n hn
       simp only [List.mem_cons, List.not_mem_nil, or_false] at hn
       rcases hn with rfl | rfl | rfl
       · exact inI_of (by omega) (by omega)
       · exact inI_of (by omega) (by omega)
       · exact inI_of (by omega) (by omega))
     have jl : rowLoad Tryz.prog 126 ⟨b, off + k * 3, none⟩ wr = .ok (.agg #[.int .i64 yi, .int .u8 (yl : Int), .int .i64 yw]) wr := load_cells Tryz.isAgg126 Tryz.sizeOf126 wr b _ _ rfl fun j u hu => hc wr (Below.refl _ _) j u hu
     have hwr : wrap64 (yl : Int) = (yl : Int) := by unfold wrap64; omega
     have hrt : row? (wr.alloc (.cells #[.int .i64 yi, .int .u8 (yl : Int), .int .i64 yw] 126)) wr.heap.size = some #[.int .i64 yi, .int .u8 (yl : Int), .int .i64 yw] := row?_alloc_at _ _ _ _ rfl
     obtain ⟨acc, hacc⟩ : ∃ acc, acc = (G.V.take k).flatMap vLine := ⟨_, rfl⟩
     rw [← hacc] at HI HE htl
     clear hI hO hb hbb hy hc hym hid ht1 ht2 ht3 hacc
     go_wp2_with fail
     generalize hW2 : World.alloc (World.alloc wr _) _ = W2
     have hB2 : Below wr.heap.size wr W2 := by rw [← hW2]; exact ((Below.refl _ wr).alloc (Nat.le_refl _) _).alloc (by simp) _
     have hR2 : RdL W2 (.slice (some ⟨wr.heap.size + 1, 0, none⟩) 3 3) [yi, (yl : Int), yw] := by
       rw [← hW2]
       have := rdl_lit3 (wr.alloc (.cells #[.int .i64 yi, .int .u8 (yl : Int), .int .i64 yw] 126)) 3 yi (yl : Int) yw 3
       simpa using this
     clear hW2 jl hrt
     refine (line_any [118, 101, 114, 116, 101, 120] (by simp) [yi, (yl : Int), yw] HN.out (by simp) _ W2 hR2 (HT.out.on (HB.out.trans (hB2.mono hs)))).mono ?_
     rintro r w3 ⟨rfl, hb3⟩
     have hb03 : Below wr.heap.size wr w3 := hB2.trans (hb3.mono hB2.size)
     have HB3 := Lib.hid hb03
     have hll : (lineB [118, 101, 114, 116, 101, 120] [yi, (yl : Int), yw]).length + 1 ≤ 73 := by
       have := HL.out
       unfold vLine at this
       simpa using this
     have HVL : Hid (vLine (yi, yl, yw) = lineB [118, 101, 114, 116, 101, 120] [yi, (yl : Int), yw] ++ [10]) := Lib.hid rfl
     obtain ⟨ll, hlleq⟩ : ∃ ll, ll = lineB [118, 101, 114, 116, 101, 120] [yi, (yl : Int), yw] := ⟨_, rfl⟩
     rw [← hlleq] at hll HVL ⊢
     clear hB2 hR2 hb3 hb03 hlleq
     go_wp2_with (refine wpList_strAdd rfl _ _ _ _ rfl ll [10] rfl rfl (by simp; omega) ?_)
     refine (write_any w.heap.size w.heap.size acc (ll ++ [10]) w3 (HI.out.below HB3.out (Nat.le_refl _)) (by simp; omega) (by have := HB3.out.size; omega)).mono ?_
     rintro r w4 ⟨rfl, hI4, hb4, hk4⟩
     have hO4 := (HO.out.below HB3.out (Nat.le_refl _)).others hk4 (by decide) (by decide) (HI.out.below HB3.out (Nat.le_refl _)).tag
     have HI4 := Lib.hid hI4
     have HO4 := Lib.hid hO4
     have HB4 := Lib.hid ((HB.out.trans (HB3.out.mono hs)).trans hb4)
     clear hI4 hO4 hb4 hk4
     go_wp2_with fail
     go_roundw
     case rel => exact ⟨k + 1, by omega, by go_num, by rw [HE.out, HVL.out]; exact HI4.out, HO4.out, HB4.out⟩
     case measure => simp [intOf]; omega
   · have hkn : LV = k := by omega
     subst hkn
     rw [show G.V.take LV = G.V by rw [HLV.out, List.take_length]] at HI htl
     clear hI hO hb
     obtain ⟨accV, haccV⟩ : ∃ acc, acc = G.V.flatMap vLine := ⟨_, rfl⟩
     rw [← haccV] at HI htl
     have HACC := Lib.hid haccV
     clear haccV
     go_wp2_with fail
     refine (gedges_any g bV bE G HG.out wr (H0.out.below HB.out)).mono ?_
     rintro e w5 ⟨vE, rfl, hO5, hb5⟩
     have HI5 := Lib.hid (HI.out.below hb5 (Nat.le_refl _))
     have HB5 := Lib.hid (HB.out.trans (hb5.mono hs))
     have HO5 := Lib.hid (hO5.lower hs)
     obtain ⟨ra, rc, rfl⟩ := hO5.sl
     rw [← HLE.out] at HO5 ⊢
     clear hO5 hb5 HO HI
     go_wp2_with fail
     obtain ⟨Wm, hWm⟩ : ∃ Wm, Wm = wr := ⟨_, rfl⟩
     clear hWm
     go_loopw [30] (fun i wr => ∃ k : Nat, k ≤ LE ∧ i = .int .i64 (k : Int) ∧ IsB w.heap.size w.heap.size (accV ++ (G.E.take k).flatMap eLine) wr ∧ OwnE w.heap.size wr (.slice ra LE rc) G.E ∧ Below w.heap.size w wr) (fun i _ => LE - (intOf i).toNat)
     case atStart => exact ⟨0, by omega, rfl, by simpa using HI5.out, HO5.out, HB5.out⟩
     case round =>
       obtain ⟨k, hk, rfl, hI, hO, hb⟩ := hrel
       have HI := Lib.hid hI
       have HO := Lib.hid hO
       have HB := Lib.hid hb
       have hs := hb.size
       have htlE := Gr.textE_len HG.out k
       by_cases hlt : k < LE
       · obtain ⟨b, off, c', y, h1, hbb, hy, hc⟩ := (show Rd edgA 4 wr.heap.size wr _ G.E from hO.rd elE).at (by rw [← HLE.out]; exact hlt)
         simp only [Value.slice.injEq] at h1
         obtain ⟨rfl, -, rfl⟩ := h1
         have hym := List.mem_of_getElem? hy
         have hid := HG.out.endsI y hym
         obtain ⟨ht1, ht2, ht3⟩ := HG.out.thE y hym
         have HE := Lib.hid (flatMap_take_snoc (f := eLine) hy)
         have HL := Lib.hid (eLine_len HG.out hym)
         obtain ⟨⟨yu, yv⟩, yl, yw⟩ := y
         simp only at hid ht1 ht2 ht3
         have HN : Hid (∀ n ∈ [yu, yv, (yl : Int), yw], InI n) := Lib.hid (by
           intro n hn
           simp only [List.mem_cons, List.not_mem_nil, or_false] at hn
           rcases hn with rfl | rfl | rfl | rfl
           · exact inI_of (by omega) (by omega)
           · exact inI_of (by omega) (by omega)
           · exact inI_of (by omega) (by omega)
           · exact inI_of (by omega) (by omega))
         have jl : rowLoad Tryz.prog 134 ⟨b, off + k * 4, none⟩ wr = .ok (.agg #[.int .i64 yu, .int .i64 yv, .int .u8 (yl : Int), .int .i64 yw]) wr := load_cells Tryz.isAgg134 Tryz.sizeOf134 wr b _ _ rfl fun j u hu => hc wr (Below.refl _ _) j u hu
         have hwr : wrap64 (yl : Int) = (yl : Int) := by unfold wrap64; omega
         have hrt : row? (wr.alloc (.cells #[.int .i64 yu, .int .i64 yv, .int .u8 (yl : Int), .int .i64 yw] 134)) wr.heap.size = some #[.int .i64 yu, .int .i64 yv, .int .u8 (yl : Int), .int .i64 yw] := row?_alloc_at _ _ _ _ rfl
         obtain ⟨acc, hacc⟩ : ∃ acc, acc = accV ++ (G.E.take k).flatMap eLine := ⟨_, rfl⟩
         have hal : acc.length ≤ 200000 := by rw [hacc, List.length_append]; omega
         have HE2 : Hid (accV ++ (G.E.take (k + 1)).flatMap eLine = acc ++ eLine ((yu, yv), yl, yw)) := Lib.hid (by rw [HE.out, hacc, List.append_assoc])
         rw [← hacc] at HI
         clear hI hO hb hbb hy hc hym hid ht1 ht2 ht3 hacc HE htlE
         go_wp2_with fail
         generalize hW2 : World.alloc (World.alloc wr _) _ = W2
         have hB2 : Below wr.heap.size wr W2 := by rw [← hW2]; exact ((Below.refl _ wr).alloc (Nat.le_refl _) _).alloc (by simp) _
         have hR2 : RdL W2 (.slice (some ⟨wr.heap.size + 1, 0, none⟩) 4 4) [yu, yv, (yl : Int), yw] := by
           rw [← hW2]
           have := rdl_lit4 (wr.alloc (.cells #[.int .i64 yu, .int .i64 yv, .int .u8 (yl : Int), .int .i64 yw] 134)) 3 yu yv (yl : Int) yw 4
           simpa using this
         clear hW2 jl hrt
         refine (line_any [101, 100, 103, 101] (by simp) [yu, yv, (yl : Int), yw] HN.out (by simp) _ W2 hR2 (HT.out.on (HB.out.trans (hB2.mono hs)))).mono ?_
         rintro r w3 ⟨rfl, hb3⟩
         have hb03 : Below wr.heap.size wr w3 := hB2.trans (hb3.mono hB2.size)
         have HB3 := Lib.hid hb03
         have hll : (lineB [101, 100, 103, 101] [yu, yv, (yl : Int), yw]).length + 1 ≤ 93 := by
           have := HL.out
           unfold eLine at this
           simpa using this
         have HVL : Hid (eLine ((yu, yv), yl, yw) = lineB [101, 100, 103, 101] [yu, yv, (yl : Int), yw] ++ [10]) := Lib.hid rfl
         obtain ⟨ll, hlleq⟩ : ∃ ll, ll = lineB [101, 100, 103, 101] [yu, yv, (yl : Int), yw] := ⟨_, rfl⟩
         rw [← hlleq] at hll HVL ⊢
         clear hB2 hR2 hb3 hb03 hlleq
         go_wp2_with (refine wpList_strAdd rfl _ _ _ _ rfl ll [10] rfl rfl (by simp; omega) ?_)
         refine (write_any w.heap.size w.heap.size acc (ll ++ [10]) w3 (HI.out.below HB3.out (Nat.le_refl _)) (by simp; omega) (by have := HB3.out.size; omega)).mono ?_
         rintro r w4 ⟨rfl, hI4, hb4, hk4⟩
         have hO4 := (HO.out.below HB3.out (Nat.le_refl _)).others hk4 (by decide) (by decide) (HI.out.below HB3.out (Nat.le_refl _)).tag
         have HI4 := Lib.hid hI4
         have HO4 := Lib.hid hO4
         have HB4 := Lib.hid ((HB.out.trans (HB3.out.mono hs)).trans hb4)
         clear hI4 hO4 hb4 hk4
         go_wp2_with fail
         go_roundw
         case rel => exact ⟨k + 1, by omega, by go_num, by rw [HE2.out, HVL.out]; exact HI4.out, HO4.out, HB4.out⟩
         case measure => simp [intOf]; omega
       · have hkn : LE = k := by omega
         subst hkn
         rw [show G.E.take LE = G.E by rw [HLE.out, List.take_length]] at HI
         have HTx : Hid (accV ++ G.E.flatMap eLine = G.text) := Lib.hid (by rw [HACC.out]; rfl)
         rw [HTx.out] at HI
         clear hI hO hb
         go_wp2_with fail
         refine (built_any w.heap.size w.heap.size G.text wr HI.out hs).mono ?_
         rintro r w6 ⟨rfl, hb6⟩
         have HB6 := Lib.hid (HB.out.trans hb6)
         clear hb6
         go_wp2_with fail
         go_ret
         exact ⟨rfl, HB6.out⟩
end Go.Proofs.YtglnhnjmelilmaaGreatDoor
