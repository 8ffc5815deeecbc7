/- Walks: graphio's id, label, weight; the reference's; a draft's vertex. -/
import Derived.Test.YtglnhnjmelilmaaGreatDoorRIe
import Derived.Test.YtglnhnjmelilmaaGreatDoorRIB
import Derived.Test.YtglnhnjmelilmaaGreatDoorRGrH
import Derived.Test.YtglnhnjmelilmaaGreatDoorRS3
set_option linter.all false
namespace Go.Pal
open Go Go.RowKit
def dRow (x y : Value) (S : Nat) : Array Value := #[x, y] ++ words S
end Go.Pal
namespace Go.Proofs.YtglnhnjmelilmaaGreatDoor
open Go Go.RowKit Go.Pal Go.Shelf
attribute [local go_sem] Oper.semAt_some
theorem fid_any (n : Int) (w : World) : Calls Tryz.prog 103 #[.int .i64 n] w fun e w' => e = .returned (.bool (idB n)) ∧ w' = w := by
 unfold idB
 go_enter Tryz.func103, Tryz.ntmps103
 by_cases h0 : 0 ≤ n
 · have d0 : decide (0 ≤ n) = true := decide_eq_true h0
   go_wp2_with fail
   go_ret
   exact ⟨by simp [h0], rfl⟩
 · have d0 : decide (0 ≤ n) = false := decide_eq_false h0
   go_wp2_with fail
   go_ret
   exact ⟨by simp [h0], rfl⟩
theorem flab_any (n : Int) (w : World) : Calls Tryz.prog 106 #[.int .i64 n] w fun e w' => e = .returned (.bool (labB n)) ∧ w' = w := by
 unfold labB
 go_enter Tryz.func106, Tryz.ntmps106
 by_cases h0 : 0 ≤ n
 · have d0 : decide (0 ≤ n) = true := decide_eq_true h0
   go_wp2_with fail
   go_ret
   exact ⟨by simp [h0], rfl⟩
 · have d0 : decide (0 ≤ n) = false := decide_eq_false h0
   go_wp2_with fail
   go_ret
   exact ⟨by simp [h0], rfl⟩
theorem fwt_any (n : Int) (w : World) : Calls Tryz.prog 108 #[.int .i64 n] w fun e w' => e = .returned (.bool (wtB n)) ∧ w' = w := by
 unfold wtB
 go_enter Tryz.func108, Tryz.ntmps108
 by_cases h0 : -1048576 ≤ n
 · have d0 : decide (-1048576 ≤ n) = true := decide_eq_true h0
   go_wp2_with fail
   go_ret
   exact ⟨by simp [h0], rfl⟩
 · have d0 : decide (-1048576 ≤ n) = false := decide_eq_false h0
   go_wp2_with fail
   go_ret
   exact ⟨by simp [h0], rfl⟩
@[go_sem ↓ high] theorem build_VX (a b c : Int) (w : World) : (Instr.build 126 #[(0, .int .i64 a), (1, .int .u8 b), (2, .int .i64 c)]).run Tryz.prog w = .ok (.agg #[.int .i64 a, .int .u8 b, .int .i64 c]) w := by kernel_rfl
@[go_sem ↓ high] theorem bs_VX (a b c : Int) (w : World) : (Instr.buildSlice 123 1 #[(0, .agg #[.int .i64 a, .int .u8 b, .int .i64 c])]).run Tryz.prog w = .ok (.slice (some ⟨w.heap.size, 0, none⟩) 1 1) (w.alloc (.cells #[.int .i64 a, .int .u8 b, .int .i64 c] 126)) := by kernel_rfl
@[go_sem ↓ high] theorem build_EX (a b c d : Int) (w : World) : (Instr.build 134 #[(0, .int .i64 a), (1, .int .i64 b), (2, .int .u8 c), (3, .int .i64 d)]).run Tryz.prog w = .ok (.agg #[.int .i64 a, .int .i64 b, .int .u8 c, .int .i64 d]) w := by kernel_rfl
@[go_sem ↓ high] theorem bs_EX (a b c d : Int) (w : World) : (Instr.buildSlice 131 1 #[(0, .agg #[.int .i64 a, .int .i64 b, .int .u8 c, .int .i64 d])]).run Tryz.prog w = .ok (.slice (some ⟨w.heap.size, 0, none⟩) 1 1) (w.alloc (.cells #[.int .i64 a, .int .i64 b, .int .u8 c, .int .i64 d] 134)) := by kernel_rfl
structure DOk (w : World) (d : Nat) (G : Gr) (vs es : Value) (S : Nat) : Prop where
 row : row? w d = some (dRow vs es S)
 V : OwnV (d + 1) w vs G.V
 E : OwnE (d + 1) w es G.E
 ne : ∀ g, vs.ownBlock = some g → es.ownBlock ≠ some g
 set : IsSet S
 bit : ∀ n, idB n = true → S.testBit n.toNat = (Pal.look G.V n).isSome
 ok : G.Ok
theorem DOk.lt {w : World} {d : Nat} {G : Gr} {vs es : Value} {S : Nat} (h : DOk w d G vs es S) : d < w.heap.size := row?_lt h.row
theorem DOk.below {w w' : World} {d : Nat} {G : Gr} {vs es : Value} {S : Nat} (h : DOk w d G vs es S) (hb : Below w.heap.size w w') : DOk w' d G vs es S :=
 ⟨(row?_below hb h.lt).trans h.row, h.V.below hb (Nat.le_refl _), h.E.below hb (Nat.le_refl _), h.ne, h.set, h.bit, h.ok⟩
def DfSt (w0 : World) (d : Nat) (G : Gr) (W : World) : Prop := (∃ vs es S, DOk W d G vs es S) ∧ Below d w0 W
theorem DfSt.below {w0 w w' : World} {d : Nat} {G : Gr} (h : DfSt w0 d G w) (hb : Below w.heap.size w w') : DfSt w0 d G w' := by
 obtain ⟨⟨vs, es, S, h1⟩, h2⟩ := h
 exact ⟨⟨vs, es, S, h1.below hb⟩, h2.trans (hb.mono (Nat.le_of_lt h1.lt))⟩
end Go.Proofs.YtglnhnjmelilmaaGreatDoor
