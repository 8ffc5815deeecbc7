/- Walks: the fields of an edit (graphio). -/
import Derived.Test.YtglnhnjmelilmaaGreatDoorRIG
import Derived.Test.YtglnhnjmelilmaaGreatDoorRIc
import Derived.Test.YtglnhnjmelilmaaGreatDoorRYd
set_option maxHeartbeats 1000000
set_option maxRecDepth 10000
set_option linter.all false
namespace Go.Proofs.YtglnhnjmelilmaaGreatDoor
open Go Go.RowKit Go.Pal Go.Shelf
attribute [local go_sem] Oper.semAt_some
def fRow (pb : Nat) (fv fl fw : Bool) (u v lab wt : Int) : Array Value :=
 #[.bool true, .int .i64 u, .func (.func 102) #[] #[.pointer (some ⟨pb, 0, none⟩)], .func (.func 103) #[] #[],
   .bool fv, .int .i64 v, .func (.func 104) #[] #[.pointer (some ⟨pb, 0, none⟩)], .func (.func 103) #[] #[],
   .bool fl, .int .i64 lab, .func (.func 105) #[] #[.pointer (some ⟨pb, 0, none⟩)], .func (.func 106) #[] #[],
   .bool fw, .int .i64 wt, .func (.func 107) #[] #[.pointer (some ⟨pb, 0, none⟩)], .func (.func 108) #[] #[]]
@[go_sem ↓ high] theorem build_F (a : Bool) (n : Int) (f g : Fn) (cs : Array Value) (w : World) : (Instr.build 102 #[(0, .bool a), (1, .int .i64 n), (2, .func f #[] cs), (3, .func g #[] #[])]).run Tryz.prog w = .ok (.agg #[.bool a, .int .i64 n, .func f #[] cs, .func g #[] #[]]) w := by kernel_rfl
@[go_sem ↓ high] theorem bs_F4 (a0 a1 a2 a3 : Bool) (n0 n1 n2 n3 : Int) (f0 f1 f2 f3 g0 g1 g2 g3 : Fn) (c0 c1 c2 c3 : Array Value) (w : World) :
   (Instr.buildSlice 95 4 #[(0, .agg #[.bool a0, .int .i64 n0, .func f0 #[] c0, .func g0 #[] #[]]), (1, .agg #[.bool a1, .int .i64 n1, .func f1 #[] c1, .func g1 #[] #[]]), (2, .agg #[.bool a2, .int .i64 n2, .func f2 #[] c2, .func g2 #[] #[]]), (3, .agg #[.bool a3, .int .i64 n3, .func f3 #[] c3, .func g3 #[] #[]])]).run Tryz.prog w =
     .ok (.slice (some ⟨w.heap.size, 0, none⟩) 4 4) (w.alloc (.cells #[.bool a0, .int .i64 n0, .func f0 #[] c0, .func g0 #[] #[], .bool a1, .int .i64 n1, .func f1 #[] c1, .func g1 #[] #[], .bool a2, .int .i64 n2, .func f2 #[] c2, .func g2 #[] #[], .bool a3, .int .i64 n3, .func f3 #[] c3, .func g3 #[] #[]] 102)) := by kernel_rfl
theorem fields_any (wd : List UInt8) (fv fl fw : Bool) (ge : Nat) (op u v : Int) (lab : Nat) (wt : Int) (hlab : lab < 256) (w : World) (hr : row? w ge = some #[.int .i64 op, .int .i64 u, .int .i64 v, .int .u8 (lab : Int), .int .i64 wt]) :
   Calls Tryz.prog 45 #[.agg #[.string ⟨wd.toArray⟩, .bool fv, .bool fl, .bool fw], .pointer (some ⟨ge, 0, none⟩)] w fun e w' => e = .returned (.slice (some ⟨w.heap.size + 2, 0, none⟩) 4 4) ∧ row? w' (w.heap.size + 2) = some (fRow (w.heap.size + 1) fv fl fw u v (lab : Int) wt) ∧ row? w' (w.heap.size + 1) = some #[.pointer (some ⟨ge, 0, none⟩)] ∧ Below w.heap.size w w' := by
 have hgl := row?_lt hr
 have HR := Lib.hid hr
 clear hr
 go_enter Tryz.func45, Tryz.ntmps45
 go_wp2_with fail
 generalize hW0 : World.alloc (World.alloc w _) _ = W0
 have q0 : row? W0 w.heap.size = some #[.string ⟨wd.toArray⟩, .bool fv, .bool fl, .bool fw] := by rw [← hW0]; simp [go_sem]
 have q1 : row? W0 (w.heap.size + 1) = some #[.pointer (some ⟨ge, 0, none⟩)] := by rw [← hW0]; simp [go_sem]
 have HB0 := Lib.hid (show Below w.heap.size w W0 from by rw [← hW0]; exact ((Below.refl _ w).alloc (Nat.le_refl _) _).alloc (by simp) _)
 have hsz : W0.heap.size = w.heap.size + 2 := by rw [← hW0]; simp
 have HSZ := Lib.hid hsz
 have HQ1 := Lib.hid q1
 have HFF := Lib.hid fun W (hW : Below W0.heap.size W0 W) => show (W.cell? ⟨w.heap.size, 1, none⟩ = some (.bool fv) ∧ W.cell? ⟨w.heap.size, 2, none⟩ = some (.bool fl) ∧ W.cell? ⟨w.heap.size, 3, none⟩ = some (.bool fw) ∧ W.cell? ⟨w.heap.size + 1, 0, none⟩ = some (.pointer (some ⟨ge, 0, none⟩))) ∧ W.cell? ⟨ge, 1, none⟩ = some (.int .i64 u) ∧ W.cell? ⟨ge, 2, none⟩ = some (.int .i64 v) ∧ W.cell? ⟨ge, 3, none⟩ = some (.int .u8 (lab : Int)) ∧ W.cell? ⟨ge, 4, none⟩ = some (.int .i64 wt) from by
   have a0 := (row?_below hW (by omega)).trans q0
   have a1 := (row?_below hW (by omega)).trans q1
   have a2 := (row?_below (HB0.out.trans (hW.mono (by omega))) hgl).trans HR.out
   exact ⟨⟨(cell?_row (i := 1) a0).trans rfl, (cell?_row (i := 2) a0).trans rfl, (cell?_row (i := 3) a0).trans rfl, (cell?_row (i := 0) a1).trans rfl⟩, (cell?_row (i := 1) a2).trans rfl, (cell?_row (i := 2) a2).trans rfl, (cell?_row (i := 3) a2).trans rfl, (cell?_row (i := 4) a2).trans rfl⟩
 have hs1 : w.heap.size + 1 < W0.heap.size := by omega
 clear hW0 q0 q1 hsz
 refine wp_region_mix (fun W => Below W0.heap.size W0 W) 32 [(0, true), (1, true), (2, true), (3, true), (4, true), (5, true), (6, true), (7, true), (8, true), (9, true), (10, true), (11, true), (12, true), (13, true), (14, true), (15, true), (16, true), (17, true), (18, true), (19, true), (20, true), (21, true), (22, true), (23, true), (24, true), (25, true), (26, true), (27, true), (28, true), (29, true), (30, true), (31, false)] (by kernel_rfl) (by kernel_rfl) (Below.refl _ _).drew ?_
 repeat (apply wpPlan_still rfl rfl; (intro w hw; obtain ⟨⟨f1, f2, f3, f4⟩, k1, k2, k3, k4⟩ := HFF.out _ hw; clear hw; go_simp; (try go_ints); (first | with_reducible rfl | (go_simp; with_reducible rfl))); (intro K hK; go_simp; (try go_ints); refine hK _ _ ?_; clear hK K))
 apply wpPlan_act rfl rfl
 intro K hK
 unfold Oper.wp
 go_simp
 obtain ⟨W1, hW1⟩ : ∃ W1, W1 = W0.drew.alloc (.cells (fRow (w.heap.size + 1) fv fl fw u v (lab : Int) wt) 102) := ⟨_, rfl⟩
 have HW1 := Lib.hid hW1
 have HB1 := Lib.hid (show Below W0.heap.size W0 W1 from by rw [hW1]; exact (Below.refl _ _).drew.alloc (Nat.le_refl _) _)
 have HR1 := Lib.hid (show row? W1 W0.heap.size = some (fRow (w.heap.size + 1) fv fl fw u v (lab : Int) wt) from by rw [hW1]; exact row?_alloc_at _ _ _ _ rfl)
 refine hK _ _ ((Below.refl _ _).drew.alloc (Nat.le_refl _) _) ?_
 clear hK K
 refine wpPlan_nil ?_
 simp only [List.drop_succ_cons, List.drop_zero]
 rw [show (W0.alloc (.cells #[.bool true, .int .i64 u, .func (.func 102) #[] #[.pointer (some ⟨w.heap.size + 1, 0, none⟩)], .func (.func 103) #[] #[], .bool fv, .int .i64 v, .func (.func 104) #[] #[.pointer (some ⟨w.heap.size + 1, 0, none⟩)], .func (.func 103) #[] #[], .bool fl, .int .i64 (lab : Int), .func (.func 105) #[] #[.pointer (some ⟨w.heap.size + 1, 0, none⟩)], .func (.func 106) #[] #[], .bool fw, .int .i64 wt, .func (.func 107) #[] #[.pointer (some ⟨w.heap.size + 1, 0, none⟩)], .func (.func 108) #[] #[]] 102)).drew = W1 from HW1.out.symm]
 clear hW1
 go_wp2_with fail
 go_ret
 exact ⟨by rw [HSZ.out]; rfl, by rw [← HSZ.out]; exact HR1.out, (row?_below HB1.out hs1).trans HQ1.out, HB0.out.trans (HB1.out.mono HB0.out.size)⟩
def fHas (fv fl fw : Bool) : Nat → Bool | 0 => true | 1 => fv | 2 => fl | _ => fw
def fVal (u v lab wt : Int) : Nat → Int | 0 => u | 1 => v | 2 => lab | _ => wt
def fSet : Nat → FuncId | 0 => 102 | 1 => 104 | 2 => 105 | _ => 107
def fMay : Nat → FuncId | 0 => 103 | 1 => 103 | 2 => 106 | _ => 108
def fCells (pb : Nat) (fv fl fw : Bool) (u v lab wt : Int) (k : Nat) : Array Value := #[.bool (fHas fv fl fw k), .int .i64 (fVal u v lab wt k), .func (.func (fSet k)) #[] #[.pointer (some ⟨pb, 0, none⟩)], .func (.func (fMay k)) #[] #[]]
theorem fRow_at {pb : Nat} {fv fl fw : Bool} {u v lab wt : Int} {k : Nat} (hk : k < 4) {j : Nat} {x : Value} (hx : (fCells pb fv fl fw u v lab wt k)[j]? = some x) : (fRow pb fv fl fw u v lab wt)[k * 4 + j]? = some x := by
 have hj : j < 4 := (Array.getElem?_eq_some_iff.1 hx).1
 match k, hk with
 | 0, _ => match j, hj with | 0, _ => exact hx | 1, _ => exact hx | 2, _ => exact hx | 3, _ => exact hx
 | 1, _ => match j, hj with | 0, _ => exact hx | 1, _ => exact hx | 2, _ => exact hx | 3, _ => exact hx
 | 2, _ => match j, hj with | 0, _ => exact hx | 1, _ => exact hx | 2, _ => exact hx | 3, _ => exact hx
 | 3, _ => match j, hj with | 0, _ => exact hx | 1, _ => exact hx | 2, _ => exact hx | 3, _ => exact hx
theorem field_load {w : World} {b pb : Nat} {fv fl fw : Bool} {u v lab wt : Int} (hr : row? w b = some (fRow pb fv fl fw u v lab wt)) {k : Nat} (hk : k < 4) :
   rowLoad Tryz.prog 102 ⟨b, k * 4, none⟩ w = .ok (.agg (fCells pb fv fl fw u v lab wt k)) w :=
 load_cells Tryz.isAgg102 Tryz.sizeOf102 w b _ _ rfl fun j x hx => (cell?_row hr).trans (fRow_at hk hx)
@[go_sem ↓ high] theorem loadFX (a : Addr) : loadVar 102 a = loadLater 102 a := rfl
@[go_sem] theorem loadFX_run (w : World) (a : Addr) : (loadLater 102 a).run Tryz.prog w = rowLoad Tryz.prog 102 a w := rfl
theorem fedit1_any (has : Bool) (n : Int) (f g : Value) (w : World) : Calls Tryz.prog 47 #[.agg #[.bool has, .int .i64 n, f, g]] w fun e w' => e = .returned (.bool (!has && decide (n ≠ 0))) ∧ Below w.heap.size w w' := by
 go_enter Tryz.func47, Tryz.ntmps47
 cases has with
 | true =>
   go_wp2_with fail
   go_ret
   exact ⟨by simp, (Below.refl _ w).alloc (Nat.le_refl _) _⟩
 | false =>
   go_wp2_with fail
   go_ret
   exact ⟨by by_cases h : n = 0 <;> simp [h, bne], (Below.refl _ w).alloc (Nat.le_refl _) _⟩
def strayAt (fv fl fw : Bool) (u v lab wt : Int) (k : Nat) : Bool := !fHas fv fl fw k && decide (fVal u v lab wt k ≠ 0)
theorem indexF_any (b pb : Nat) (fv fl fw : Bool) (u v lab wt : Int) (w : World) (hr : row? w b = some (fRow pb fv fl fw u v lab wt)) :
   Calls Tryz.prog 109 #[.slice (some ⟨b, 0, none⟩) 4 4, .func (.func 47) #[] #[]] w fun e w' => (∃ k : Nat, k < 4 ∧ strayAt fv fl fw u v lab wt k = true ∧ e = .returned (.int .i64 (k : Int)) ∨ (∀ k, k < 4 → strayAt fv fl fw u v lab wt k = false) ∧ e = .returned (.int .i64 (-1))) ∧ Below w.heap.size w w' := by
 have hbl := row?_lt hr
 have HR := Lib.hid hr
 clear hr
 go_enter Tryz.func109, Tryz.ntmps109
 go_wp2_with fail
 go_loopw [8] (fun i wr => ∃ k : Nat, k ≤ 4 ∧ i = .int .i64 (k : Int) ∧ (∀ j, j < k → strayAt fv fl fw u v lab wt j = false) ∧ Below w.heap.size w wr) (fun i _ => 4 - (intOf i).toNat)
 case atStart => exact ⟨0, by omega, rfl, by omega, Below.refl _ _⟩
 case round =>
   obtain ⟨k, hk, rfl, hno, hb⟩ := hrel
   have HB := Lib.hid hb
   have HN := Lib.hid hno
   clear hno
   by_cases hlt : k < 4
   · have jl := field_load ((row?_below hb hbl).trans HR.out) hlt
     unfold fCells at jl
     have hlt2 : (k : Int) < 4 := by omega
     obtain ⟨has, hhas⟩ : ∃ h, h = fHas fv fl fw k := ⟨_, rfl⟩
     obtain ⟨n, hn⟩ : ∃ n, n = fVal u v lab wt k := ⟨_, rfl⟩
     have HS := Lib.hid (show strayAt fv fl fw u v lab wt k = (!has && decide (n ≠ 0)) from by rw [hhas, hn]; rfl)
     rw [← hhas, ← hn] at jl
     clear hb hhas hn
     go_wp2_with fail
     refine (fedit1_any has n _ _ wr).mono ?_
     rintro e w2 ⟨rfl, hb2⟩
     have HB2 := Lib.hid (HB.out.trans (hb2.mono HB.out.size))
     obtain ⟨st, hst⟩ : ∃ st, st = (!has && decide (n ≠ 0)) := ⟨_, rfl⟩
     rw [← hst] at HS ⊢
     clear hb2 jl hst
     cases st with
     | true =>
       go_wp2_with fail
       go_ret
       exact ⟨⟨k, .inl ⟨hlt, HS.out, rfl⟩⟩, HB2.out⟩
     | false =>
       go_wp2_with fail
       go_roundw
       case rel => exact ⟨k + 1, by omega, by go_num, fun j hj => by
         by_cases e : j = k
         · rw [e]; exact HS.out
         · exact HN.out j (by omega), HB2.out⟩
       case measure => simp [intOf]; omega
   · have hk4 : k = 4 := by omega
     subst hk4
     go_wp2_with fail
     go_ret
     exact ⟨⟨0, .inr ⟨HN.out, rfl⟩⟩, HB.out⟩
theorem containsF_any (b pb : Nat) (fv fl fw : Bool) (u v lab wt : Int) (w : World) (hr : row? w b = some (fRow pb fv fl fw u v lab wt)) :
   Calls Tryz.prog 46 #[.slice (some ⟨b, 0, none⟩) 4 4, .func (.func 47) #[] #[]] w fun e w' => e = .returned (.bool ((!fv && decide (v ≠ 0)) || (!fl && decide (lab ≠ 0)) || (!fw && decide (wt ≠ 0)))) ∧ Below w.heap.size w w' := by
 have HI := Lib.hid (indexF_any b pb fv fl fw u v lab wt w hr)
 obtain ⟨X, hX⟩ : ∃ X, X = ((!fv && decide (v ≠ 0)) || (!fl && decide (lab ≠ 0)) || (!fw && decide (wt ≠ 0))) := ⟨_, rfl⟩
 rw [← hX]
 have HX := Lib.hid hX
 clear hr hX
 go_enter Tryz.func46, Tryz.ntmps46
 go_wp2_with fail
 refine HI.out.mono ?_
 rintro e w1 ⟨⟨k, ⟨hk, hs, rfl⟩ | ⟨hn, rfl⟩⟩, hb⟩
 · have HE := Lib.hid (show X = true from by
     rw [HX.out]
     match k, hk with
     | 0, _ => cases hs
     | 1, _ => unfold strayAt at hs; simp only [fHas, fVal] at hs; rw [hs]; rfl
     | 2, _ => unfold strayAt at hs; simp only [fHas, fVal] at hs; rw [hs]; simp
     | 3, _ => unfold strayAt at hs; simp only [fHas, fVal] at hs; rw [hs]; simp)
   have d1 : decide ((0 : Int) ≤ (k : Int)) = true := decide_eq_true (by omega)
   have HB := Lib.hid hb
   clear hb hs
   go_wp2_with fail
   go_ret
   exact ⟨by rw [HE.out]; first | rfl | simp, HB.out⟩
 · have HE := Lib.hid (show X = false from by
     rw [HX.out]
     have h1 := hn 1 (by omega)
     have h2 := hn 2 (by omega)
     have h3 := hn 3 (by omega)
     unfold strayAt at h1 h2 h3
     simp only [fHas, fVal] at h1 h2 h3
     rw [h1, h2, h3]; rfl)
   have HB := Lib.hid hb
   clear hb hn
   go_wp2_with fail
   go_ret
   exact ⟨by rw [HE.out]; first | rfl | simp, HB.out⟩
end Go.Proofs.YtglnhnjmelilmaaGreatDoor
