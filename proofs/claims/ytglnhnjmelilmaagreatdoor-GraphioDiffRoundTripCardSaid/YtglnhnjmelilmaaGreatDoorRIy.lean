/- Walk: graphio's look for the form of a word. Walks: the four setters of an edit's fields .. -/
import Derived.Test.YtglnhnjmelilmaaGreatDoorRIQ
import Derived.Test.YtglnhnjmelilmaaGreatDoorRVb
import Derived.Test.YtglnhnjmelilmaaGreatDoorRIP
import Derived.Test.YtglnhnjmelilmaaGreatDoorRIc
set_option linter.all false
namespace Go.Proofs.YtglnhnjmelilmaaGreatDoor
open Go Go.RowKit Go.Pal Go.Shelf
attribute [local go_sem] Oper.semAt_some str_get str_part
theorem pedit1_any (x wd : List UInt8) (a b c : Bool) (wp : Nat) (w : World) (hwp : row? w wp = some #[.string ⟨wd.toArray⟩]) :
   Calls Tryz.prog 55 #[.agg #[.string ⟨x.toArray⟩, .bool a, .bool b, .bool c], .pointer (some ⟨wp, 0, none⟩)] w fun e w' => e = .returned (.bool (decide (x = wd))) ∧ Below w.heap.size w w' := by
 have hlt := row?_lt hwp
 have hc := (cell?_row (i := 0) hwp).trans rfl
 go_enter Tryz.func55, Tryz.ntmps55
 by_cases hx : x = wd
 · have e1 : (x == wd) = true := by rw [hx]; exact beq_self_eq_true _
   have e2 : decide (x = wd) = true := decide_eq_true hx
   rw [e2]
   have HX := Lib.hid hx
   subst hx
   go_wp2_with fail
   go_ret
   exact ⟨by simp, (Below.refl _ w).alloc (Nat.le_refl _) _⟩
 · have e1 : (x == wd) = false := beq_false_of_ne hx
   have e2 : decide (x = wd) = false := decide_eq_false hx
   rw [e2]
   go_wp2_with fail
   go_ret
   exact ⟨by simp [hx], (Below.refl _ w).alloc (Nat.le_refl _) _⟩
def IdxRes (wd : List UInt8) (e : Ending) : Prop := (∃ k : Nat, k < 8 ∧ opOf wd = some k ∧ e = .returned (.int .i64 (k : Int))) ∨ (opOf wd = none ∧ e = .returned (.int .i64 (-1)))
set_option maxRecDepth 10000 in
set_option maxHeartbeats 1000000 in
theorem indexO_any (wd : List UInt8) (wp : Nat) (w : World) (hF : FormsOk w) (hwp : row? w wp = some #[.string ⟨wd.toArray⟩]) :
   Calls Tryz.prog 54 #[.slice (some ⟨0, 0, none⟩) 8 8, .func (.func 55) #[] #[.pointer (some ⟨wp, 0, none⟩)]] w fun e w' => IdxRes wd e ∧ Below w.heap.size w w' := by
 have hlt := row?_lt hwp
 have HW := Lib.hid hwp
 have HF := Lib.hid hF
 clear hwp hF
 go_enter Tryz.func54, Tryz.ntmps54
 go_wp2_with fail
 go_loopw [8] (fun i wr => ∃ k : Nat, k ≤ 8 ∧ i = .int .i64 (k : Int) ∧ (∀ j, j < k → opW j ≠ wd) ∧ Below w.heap.size w wr) (fun i _ => 8 - (intOf i).toNat)
 case atStart => exact ⟨0, by omega, rfl, by omega, Below.refl _ _⟩
 case round =>
   obtain ⟨k, hk, rfl, hno, hb⟩ := hrel
   have HB := Lib.hid hb
   have HN := Lib.hid hno
   clear hno
   by_cases hk8 : k < 8
   · have jl := HF.out.load hb hk8
     have hlt2 : (k : Int) < 8 := by omega
     have HC := Lib.hid (pedit1_any (opW k) wd (hasV k) (hasL k) (hasW k) wp wr ((row?_below hb hlt).trans HW.out))
     obtain ⟨fv, hfv⟩ : ∃ b, b = hasV k := ⟨_, rfl⟩
     obtain ⟨fl, hfl⟩ : ∃ b, b = hasL k := ⟨_, rfl⟩
     obtain ⟨fw, hfw⟩ : ∃ b, b = hasW k := ⟨_, rfl⟩
     rw [← hfv, ← hfl, ← hfw] at jl HC
     clear hb hfv hfl hfw
     go_wp2_with fail
     refine HC.out.mono ?_
     rintro e w2 ⟨rfl, hb2⟩
     have HB2 := Lib.hid (HB.out.trans (hb2.mono HB.out.size))
     by_cases hx : opW k = wd
     · have HH := Lib.hid (show opOf wd = some k from by rw [← hx]; exact opOf_opW k hk8)
       have e1 : decide (opW k = wd) = true := decide_eq_true hx
       rw [e1]
       clear hb2 jl HC hx
       go_wp2_with fail
       go_ret
       exact ⟨.inl ⟨k, hk8, HH.out, rfl⟩, HB2.out⟩
     · have e1 : decide (opW k = wd) = false := decide_eq_false hx
       rw [e1]
       have HX := Lib.hid hx
       clear hb2 jl HC hx
       go_wp2_with fail
       go_roundw
       case rel => exact ⟨k + 1, by omega, by go_num, fun j hj => by
         by_cases e : j = k
         · rw [e]; exact HX.out
         · exact HN.out j (by omega), HB2.out⟩
       case measure => simp [intOf]; omega
   · have hk4 : k = 8 := by omega
     subst hk4
     have HH := Lib.hid (show opOf wd = none from opOf_no HN.out)
     go_wp2_with fail
     go_ret
     exact ⟨.inr ⟨HH.out, rfl⟩, HB.out⟩
end Go.Proofs.YtglnhnjmelilmaaGreatDoor
namespace Go.Proofs.YtglnhnjmelilmaaGreatDoor
open Go Go.RowKit Go.Pal Go.Shelf
attribute [local go_sem] Oper.semAt_some
theorem fset1_any (n : Int) (pb ge : Nat) (w : World) (a b c d e : Int) (h1 : row? w pb = some #[.pointer (some ⟨ge, 0, none⟩)]) (h2 : row? w ge = some #[.int .i64 a, .int .i64 b, .int .i64 c, .int .u8 d, .int .i64 e]) :
   Calls Tryz.prog 102 #[.int .i64 n, .pointer (some ⟨pb, 0, none⟩)] w fun r w' => r = .returned (.tuple #[]) ∧ w' = w.setCell ⟨ge, 1, none⟩ (.int .i64 n) := by
 have c1 := (cell?_row (i := 0) h1).trans rfl
 have c2 := (cell?_row (i := 1) h2).trans rfl
 have f2 := frozen?_row (i := 1) h2
 go_enter Tryz.func102, Tryz.ntmps102
 go_wp2_with fail
 go_end0
 exact ⟨rfl, rfl⟩
theorem fset2_any (n : Int) (pb ge : Nat) (w : World) (a b c d e : Int) (h1 : row? w pb = some #[.pointer (some ⟨ge, 0, none⟩)]) (h2 : row? w ge = some #[.int .i64 a, .int .i64 b, .int .i64 c, .int .u8 d, .int .i64 e]) :
   Calls Tryz.prog 104 #[.int .i64 n, .pointer (some ⟨pb, 0, none⟩)] w fun r w' => r = .returned (.tuple #[]) ∧ w' = w.setCell ⟨ge, 2, none⟩ (.int .i64 n) := by
 have c1 := (cell?_row (i := 0) h1).trans rfl
 have c2 := (cell?_row (i := 2) h2).trans rfl
 have f2 := frozen?_row (i := 2) h2
 go_enter Tryz.func104, Tryz.ntmps104
 go_wp2_with fail
 go_end0
 exact ⟨rfl, rfl⟩
theorem fset3_any (n : Nat) (hn : n ≤ 255) (pb ge : Nat) (w : World) (a b c d e : Int) (h1 : row? w pb = some #[.pointer (some ⟨ge, 0, none⟩)]) (h2 : row? w ge = some #[.int .i64 a, .int .i64 b, .int .i64 c, .int .u8 d, .int .i64 e]) :
   Calls Tryz.prog 105 #[.int .i64 (n : Int), .pointer (some ⟨pb, 0, none⟩)] w fun r w' => r = .returned (.tuple #[]) ∧ w' = w.setCell ⟨ge, 3, none⟩ (.int .u8 (n : Int)) := by
 have c1 := (cell?_row (i := 0) h1).trans rfl
 have c2 := (cell?_row (i := 3) h2).trans rfl
 have f2 := frozen?_row (i := 3) h2
 go_enter Tryz.func105, Tryz.ntmps105
 go_wp2_with fail
 go_end0
 exact ⟨rfl, rfl⟩
theorem fset4_any (n : Int) (pb ge : Nat) (w : World) (a b c d e : Int) (h1 : row? w pb = some #[.pointer (some ⟨ge, 0, none⟩)]) (h2 : row? w ge = some #[.int .i64 a, .int .i64 b, .int .i64 c, .int .u8 d, .int .i64 e]) :
   Calls Tryz.prog 107 #[.int .i64 n, .pointer (some ⟨pb, 0, none⟩)] w fun r w' => r = .returned (.tuple #[]) ∧ w' = w.setCell ⟨ge, 4, none⟩ (.int .i64 n) := by
 have c1 := (cell?_row (i := 0) h1).trans rfl
 have c2 := (cell?_row (i := 4) h2).trans rfl
 have f2 := frozen?_row (i := 4) h2
 go_enter Tryz.func107, Tryz.ntmps107
 go_wp2_with fail
 go_end0
 exact ⟨rfl, rfl⟩
end Go.Proofs.YtglnhnjmelilmaaGreatDoor
namespace Go.Proofs.YtglnhnjmelilmaaGreatDoor
open Go Go.RowKit Go.Pal Go.Shelf
attribute [local go_sem] Oper.semAt_some str_get str_part
def elFX (pb : Nat) (fv fl fw : Bool) (u v lab wt : Int) : ElT Tryz.prog 102 4 (fCells pb fv fl fw u v lab wt) where
 bytes := 32
 zero := .agg #[.bool false, .int .i64 0, .nilFunc, .nilFunc]
 info := by kernel_rfl
 zc := rfl
 pos := by decide
 small := by decide
 size _ := rfl
 one x u hu := by simp [fCells] at hu; rcases hu with rfl | rfl | rfl | rfl <;> rfl
@[go_sem ↓ high] theorem bs_FX1 (a : Bool) (n : Int) (f g : Fn) (c d : Array Value) (w : World) : (Instr.buildSlice 95 1 #[(0, .agg #[.bool a, .int .i64 n, .func f #[] c, .func g #[] d])]).run Tryz.prog w = .ok (.slice (some ⟨w.heap.size, 0, none⟩) 1 1) (w.alloc (.cells #[.bool a, .int .i64 n, .func f #[] c, .func g #[] d] 102)) := by kernel_rfl
def ownTo (fv fl fw : Bool) : Nat → List Nat
 | 0 => []
 | 1 => [0]
 | 2 => 0 :: (if fv = true then [1] else [])
 | 3 => 0 :: ((if fv = true then [1] else []) ++ (if fl = true then [2] else []))
 | _ => ownIdx fv fl fw
theorem ownTo_step (fv fl fw : Bool) : ∀ j, j < 4 → ownTo fv fl fw (j + 1) = if fHas fv fl fw j = true then ownTo fv fl fw j ++ [j] else ownTo fv fl fw j := by
 cases fv <;> cases fl <;> cases fw <;> decide
theorem ownTo_len (fv fl fw : Bool) : ∀ j, j < 5 → (ownTo fv fl fw j).length ≤ 4 := by
 cases fv <;> cases fl <;> cases fw <;> decide
theorem ownTo_full (fv fl fw : Bool) : ownTo fv fl fw 4 = ownIdx fv fl fw := rfl
end Go.Proofs.YtglnhnjmelilmaaGreatDoor
