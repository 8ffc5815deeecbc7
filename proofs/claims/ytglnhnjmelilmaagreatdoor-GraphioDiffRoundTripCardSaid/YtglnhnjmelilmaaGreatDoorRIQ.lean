/- Walk: graphio's FormatEdit. -/
import Derived.Test.YtglnhnjmelilmaaGreatDoorRIP
set_option linter.all false
namespace Go.Pal
open Go
def numsTo (fv fl fw : Bool) (u v lab wt : Int) : Nat → List Int
 | 0 => []
 | 1 => [u]
 | 2 => u :: optN fv v
 | 3 => u :: (optN fv v ++ optN fl lab)
 | _ => u :: (optN fv v ++ (optN fl lab ++ optN fw wt))
theorem numsTo_len (fv fl fw : Bool) (u v lab wt : Int) (k : Nat) : (numsTo fv fl fw u v lab wt k).length ≤ 4 := by
 unfold numsTo optN
 split <;> simp only [List.length_nil, List.length_cons, List.length_append] <;> (repeat' split) <;> simp
theorem text_of_bad {e : Ed} {n : Nat} (h : e.bad = n) (hn : n ≠ 0) : e.text = ([], n) := by unfold Ed.text; rw [h, if_neg hn]
theorem text_of_good {e : Ed} (h : e.bad = 0) : e.text = (lineB (opW e.op.toNat) (e.nums e.op.toNat), 0) := by unfold Ed.text; rw [if_pos h]
theorem bad_kind {e : Ed} (h : e.op < 0 ∨ 8 ≤ e.op) : e.bad = 11 := by unfold Ed.bad; rw [if_pos h]
def stray (fv fl fw : Bool) (v lab wt : Int) : Bool := (!fv && decide (v ≠ 0)) || (!fl && decide (lab ≠ 0)) || (!fw && decide (wt ≠ 0))
theorem bad_at (k : Nat) (u v : Int) (lab : Nat) (wt : Int) (hk : k < 8) : (⟨k, u, v, lab, wt⟩ : Ed).bad =
   if stray (hasV k) (hasL k) (hasW k) v (lab : Int) wt = true then 3 else if (idB u && idB v && labB (lab : Int) && wtB wt) = true then (if hasV k = true ∧ u = v then 15 else 0) else 2 := by
 unfold Ed.bad stray
 simp only [Int.toNat_natCast]
 rw [if_neg (by omega)]
 have e1 : decide (lab ≠ 0) = decide ((lab : Int) ≠ 0) := decide_eq_decide.2 (by omega)
 rw [e1]
 split
 · rfl
 · by_cases hr : (idB u && idB v && labB (lab : Int) && wtB wt) = true
   · rw [if_neg (by rw [hr]; simp), if_pos hr]
     by_cases hl : hasV k = true ∧ u = v
     · rw [if_pos hl, if_pos (by rw [hl.1, hl.2]; simp)]
     · rw [if_neg hl, if_neg (by simpa using hl)]
   · rw [if_neg hr, if_pos (by rw [Bool.eq_false_iff.2 hr]; rfl)]
end Go.Pal
namespace Go.Proofs.YtglnhnjmelilmaaGreatDoor
open Go Go.RowKit Go.Pal Go.Shelf
attribute [local go_sem] Oper.semAt_some
def formC (k : Nat) : Array Value := #[.string ⟨(opW k).toArray⟩, .bool (hasV k), .bool (hasL k), .bool (hasW k)]
def FormsOk (w : World) : Prop := ∀ W, Below w.heap.size w W → ∀ k, k < 8 → ∀ j x, (formC k)[j]? = some x → W.cell? ⟨0, k * 4 + j, none⟩ = some x
theorem FormsOk.on {w w' : World} (h : FormsOk w) (hb : Below w.heap.size w w') : FormsOk w' := fun W hW => h W (hb.trans (hW.mono hb.size))
theorem FormsOk.load {w : World} (h : FormsOk w) {W : World} (hW : Below w.heap.size w W) {k : Nat} (hk : k < 8) : rowLoad Tryz.prog 93 ⟨0, k * 4, none⟩ W = .ok (.agg #[.string ⟨(opW k).toArray⟩, .bool (hasV k), .bool (hasL k), .bool (hasW k)]) W :=
 load_cells Tryz.isAgg93 Tryz.sizeOf93 W _ _ _ rfl fun j x hx => h W hW k hk j x hx
@[go_sem ↓ high] theorem loadFO (a : Addr) : loadVar 93 a = loadLater 93 a := rfl
@[go_sem ↓ high] theorem storeFO (a : Addr) (v : Value) : storeVar 93 a v = storeLater 93 a v := rfl
@[go_sem] theorem loadFO_run (w : World) (a : Addr) : (loadLater 93 a).run Tryz.prog w = rowLoad Tryz.prog 93 a w := rfl
@[go_sem] theorem storeFO_run (w : World) (a : Addr) (v : Value) : (storeLater 93 a v).run Tryz.prog w = rowStore Tryz.prog 93 a v w := rfl
@[go_sem] theorem loadFO_at (w : World) (g : Nat) : rowLoad Tryz.prog 93 ⟨g, 0, none⟩ w = match row? w g with
     | some c => if c.size = 4 then .ok (.agg c) w else laterLoad Tryz.prog 93 ⟨g, 0, none⟩ w
     | none => laterLoad Tryz.prog 93 ⟨g, 0, none⟩ w := load_row Tryz.isAgg93 Tryz.sizeOf93 w g
@[go_sem] theorem storeFO_at (w : World) (g : Nat) (d : Array Value) : rowStore Tryz.prog 93 ⟨g, 0, none⟩ (.agg d) w = match row? w g with
     | some c => if c.size = 4 ∧ d.size = 4 ∧ allOne d = true then .ok () (w.setRow g d) else laterStore Tryz.prog 93 ⟨g, 0, none⟩ (.agg d) w
     | none => laterStore Tryz.prog 93 ⟨g, 0, none⟩ (.agg d) w := store_row Tryz.sizeOf93 w g d
@[go_sem ↓ high] theorem storeFX (a : Addr) (v : Value) : storeVar 102 a v = storeLater 102 a v := rfl
@[go_sem] theorem storeFX_run (w : World) (a : Addr) (v : Value) : (storeLater 102 a v).run Tryz.prog w = rowStore Tryz.prog 102 a v w := rfl
@[go_sem] theorem storeFX_at (w : World) (g : Nat) (d : Array Value) : rowStore Tryz.prog 102 ⟨g, 0, none⟩ (.agg d) w = match row? w g with
     | some c => if c.size = 4 ∧ d.size = 4 ∧ allOne d = true then .ok () (w.setRow g d) else laterStore Tryz.prog 102 ⟨g, 0, none⟩ (.agg d) w
     | none => laterStore Tryz.prog 102 ⟨g, 0, none⟩ (.agg d) w := store_row Tryz.sizeOf102 w g d
@[go_sem ↓ high] theorem zeroFO (w : World) : (zeroValue 93).run Tryz.prog w = .ok (.agg #[.string ⟨#[]⟩, .bool false, .bool false, .bool false]) w := by kernel_rfl
@[go_sem] theorem allOne_form (s : ByteArray) (a b c : Bool) : allOne #[.string s, .bool a, .bool b, .bool c] = true := by unfold allOne; simp [Value.oneCell']
@[go_sem] theorem allOne_field (a : Bool) (n : Int) (f g : Fn) (c1 c2 c3 c4 : Array Value) : allOne #[.bool a, .int .i64 n, .func f c1 c2, .func g c3 c4] = true := by unfold allOne; simp [Value.oneCell']
set_option maxRecDepth 10000 in
set_option maxHeartbeats 1000000 in
theorem fedit_any (e : Ed) (he : e.Wf) (w : World) (hP : Pow w) (hF : FormsOk w) :
   Calls Tryz.prog 11 #[.agg (edC e)] w fun r w' => r = .returned (.tuple #[.string ⟨e.text.1.toArray⟩, .int .i64 (e.text.2 : Nat)]) ∧ Below w.heap.size w w' := by
 have HP := Lib.hid hP
 have HF := Lib.hid hF
 have hlab := he.lab
 obtain ⟨X, hX⟩ : ∃ X, X = e.text := ⟨_, rfl⟩
 rw [← hX]
 have HX := Lib.hid hX
 obtain ⟨op, u, v, lab, wt⟩ := e
 simp only at hlab
 clear hP hF he hX
 rw [show edC ⟨op, u, v, lab, wt⟩ = #[.int .i64 op, .int .i64 u, .int .i64 v, .int .u8 (lab : Int), .int .i64 wt] from rfl]
 go_enter Tryz.func11, Tryz.ntmps11
 by_cases hop : op < 0
 · have HE := Lib.hid (show X = ([], 11) from by rw [HX.out]; exact text_of_bad (bad_kind (.inl hop)) (by decide))
   have d1 : decide (op < 0) = true := decide_eq_true hop
   go_wp2_with fail
   go_ret2
   exact ⟨by rw [HE.out]; rfl, (Below.refl _ w).alloc (Nat.le_refl _) _⟩
 have d1 : decide (op < 0) = false := decide_eq_false hop
 by_cases hop2 : 8 ≤ op
 · have HE := Lib.hid (show X = ([], 11) from by rw [HX.out]; exact text_of_bad (bad_kind (.inr hop2)) (by decide))
   have d2 : decide ((8 : Int) ≤ op) = true := decide_eq_true hop2
   go_wp2_with fail
   go_ret2
   exact ⟨by rw [HE.out]; rfl, (Below.refl _ w).alloc (Nat.le_refl _) _⟩
 have d2 : decide ((8 : Int) ≤ op) = false := decide_eq_false hop2
 obtain ⟨k, rfl⟩ : ∃ k : Nat, op = (k : Int) := ⟨op.toNat, by omega⟩
 have hk8 : k < 8 := by omega
 have hk8i : (k : Int) < 8 := by omega
 obtain ⟨fv, hfv⟩ : ∃ b, b = hasV k := ⟨_, rfl⟩
 obtain ⟨fl, hfl⟩ : ∃ b, b = hasL k := ⟨_, rfl⟩
 obtain ⟨fw, hfw⟩ : ∃ b, b = hasW k := ⟨_, rfl⟩
 obtain ⟨W0, hW0⟩ : ∃ W0, W0 = w.alloc (.cells #[.int .i64 (k : Int), .int .i64 u, .int .i64 v, .int .u8 (lab : Int), .int .i64 wt] 23) := ⟨_, rfl⟩
 have hB0 : Below w.heap.size w W0 := by rw [hW0]; exact (Below.refl _ w).alloc (Nat.le_refl _) _
 have jl := HF.out.load hB0 hk8
 rw [hW0] at jl
 rw [← hfv, ← hfl, ← hfw] at jl
 have HBad := Lib.hid (bad_at k u v lab wt hk8)
 rw [← hfv, ← hfl, ← hfw] at HBad
 have HFv := Lib.hid hfv
 have HFl := Lib.hid hfl
 have HFw := Lib.hid hfw
 clear hfv hfl hfw hop hop2
 go_wp2_with fail
 clear jl hB0 hW0
 clear W0
 generalize hW1 : World.alloc (World.alloc w _) _ = W1
 have q0 : row? W1 w.heap.size = some #[.int .i64 (k : Int), .int .i64 u, .int .i64 v, .int .u8 (lab : Int), .int .i64 wt] := by rw [← hW1]; simp [go_sem]
 have q1 : row? W1 (w.heap.size + 1) = some #[.string ⟨(opW k).toArray⟩, .bool fv, .bool fl, .bool fw] := by rw [← hW1]; simp [go_sem]
 have HB1 := Lib.hid (show Below w.heap.size w W1 from by rw [← hW1]; exact ((Below.refl _ w).alloc (Nat.le_refl _) _).alloc (by simp) _)
 have hsz : W1.heap.size = w.heap.size + 2 := by rw [← hW1]; simp
 have hs1 : w.heap.size + 1 < W1.heap.size := by omega
 have HQ := Lib.hid fun W (hW : Below W1.heap.size W1 W) => show (W.cell? ⟨w.heap.size + 1, 0, none⟩ = some (.string ⟨(opW k).toArray⟩) ∧ W.cell? ⟨w.heap.size + 1, 1, none⟩ = some (.bool fv)) ∧ W.cell? ⟨w.heap.size, 1, none⟩ = some (.int .i64 u) ∧ W.cell? ⟨w.heap.size, 2, none⟩ = some (.int .i64 v) from
   have a0 := (row?_below hW (by omega)).trans q0
   have a1 := (row?_below hW (by omega)).trans q1
   ⟨⟨(cell?_row (i := 0) a1).trans rfl, (cell?_row (i := 1) a1).trans rfl⟩, (cell?_row (i := 1) a0).trans rfl, (cell?_row (i := 2) a0).trans rfl⟩
 have HFi := Lib.hid (fields_any (opW k) fv fl fw w.heap.size (k : Int) u v lab wt hlab W1 q0)
 clear hW1 q0 q1 hsz
 refine HFi.out.mono ?_
 rintro r w2 ⟨rfl, hr2, -, hb2⟩
 obtain ⟨b, hb⟩ : ∃ b, b = W1.heap.size + 2 := ⟨_, rfl⟩
 obtain ⟨pb, hpb⟩ : ∃ b, b = W1.heap.size + 1 := ⟨_, rfl⟩
 rw [← hb, ← hpb] at hr2
 rw [← hb]
 have HC := Lib.hid (containsF_any b pb fv fl fw u v (lab : Int) wt w2 hr2)
 have HR2 := Lib.hid hr2
 have hbl := row?_lt hr2
 have HB2 := Lib.hid hb2
 have hst0 : stray fv fl fw v (lab : Int) wt = ((!fv && decide (v ≠ 0)) || (!fl && decide ((lab : Int) ≠ 0)) || (!fw && decide (wt ≠ 0))) := rfl
 obtain ⟨st, hst⟩ : ∃ st, st = stray fv fl fw v (lab : Int) wt := ⟨_, rfl⟩
 rw [← hst0, ← hst] at HC
 have HSt := Lib.hid hst
 rw [← hst] at HBad
 clear hb2 hr2 hst0 hst HFi hb hpb
 go_wp2_with fail
 refine HC.out.mono ?_
 rintro r w3 ⟨rfl, hb3⟩
 have hr3 := (row?_below hb3 hbl).trans HR2.out
 have hbl3 := row?_lt hr3
 have HR3 := Lib.hid hr3
 have HB13 := Lib.hid (HB2.out.trans (hb3.mono HB2.out.size))
 have HB3 := Lib.hid (HB1.out.trans (HB13.out.mono HB1.out.size))
 clear hb3 hr3 HC HR2 HB2
 cases st with
 | true =>
   have HE := Lib.hid (show X = ([], 3) from by rw [HX.out]; exact text_of_bad (by rw [HBad.out, if_pos rfl]) (by decide))
   go_wp2_with fail
   go_ret2
   exact ⟨by rw [HE.out]; rfl, HB3.out⟩
 | false =>
 go_wp2_with fail
 go_loopw [6, 27] (fun out i wr => ∃ j : Nat, i = .int .i64 (j : Int) ∧ j ≤ 4 ∧ OwnI w3.heap.size wr out (numsTo fv fl fw u v (lab : Int) wt j) ∧ Below w3.heap.size w3 wr ∧ (1 ≤ j → idB u = true) ∧ (2 ≤ j → idB v = true) ∧ (3 ≤ j → labB (lab : Int) = true) ∧ (4 ≤ j → wtB wt = true)) (fun _ i _ => 4 - (intOf i).toNat)
 case atStart => exact ⟨0, rfl, by omega, OwnI.nil _ _, Below.refl _ _, by omega, by omega, by omega, by omega⟩
 case round =>
   obtain ⟨j, rfl, hj, hO, hb, p1, p2, p3, p4⟩ := hrel
   have HO := Lib.hid hO
   have HB := Lib.hid hb
   have hsz := hb.size
   have HBw := Lib.hid (HB3.out.trans (hb.mono HB3.out.size))
   have HR := Lib.hid ((row?_below hb hbl3).trans HR3.out)
   clear hO hb
   by_cases h4 : j = 4
   · subst h4
     have hrng : (idB u && idB v && labB (lab : Int) && wtB wt) = true := by rw [p1 (by omega), p2 (by omega), p3 (by omega), p4 (by omega)]; rfl
     have HB2x := Lib.hid (HBad.out.trans ((if_neg (by decide)).trans (if_pos hrng)))
     have hnr := nums_range (e := (⟨k, u, v, lab, wt⟩ : Ed)) ⟨p1 (by omega), p2 (by omega), p3 (by omega), p4 (by omega)⟩ k
     have hnm : numsTo fv fl fw u v (lab : Int) wt 4 = (⟨k, u, v, lab, wt⟩ : Ed).nums k := by show u :: (optN fv v ++ (optN fl (lab : Int) ++ optN fw wt)) = _; unfold Ed.nums; rw [HFv.out, HFl.out, HFw.out]
     have hnl := nums_len (⟨k, u, v, lab, wt⟩ : Ed) k
     have hml := manyOp_le k
     obtain ⟨ns, hns⟩ : ∃ ns, ns = (⟨k, u, v, lab, wt⟩ : Ed).nums k := ⟨_, rfl⟩
     rw [hnm, ← hns] at HO
     rw [← hns] at hnr hnl
     have HNs := Lib.hid hns
     have HNr := Lib.hid (show ∀ n ∈ ns, InI n from fun n hn => by have := hnr n hn; exact inI_of this.1 this.2)
     obtain ⟨⟨c0, c1⟩, c2, c3⟩ := HQ.out wr (HB13.out.trans (HB.out.mono HB13.out.size))
     clear hnm hns hnr hrng p1 p2 p3 p4 hj
     have hln : ns.length ≤ 100 := by omega
     have hwl : (opW k).length ≤ 100 := (by decide : ∀ k, k < 8 → (opW k).length ≤ 100) k hk8
     obtain ⟨wd, hwd⟩ : ∃ wd, wd = opW k := ⟨_, rfl⟩
     have HWd := Lib.hid hwd
     rw [← hwd] at c0 hwl
     clear hwd hnl hml
     have HLi := Lib.hid (line_any wd hwl ns HNr.out hln _ wr HO.out.rdl (HP.out.on HBw.out))
     obtain ⟨qo, co, hsl⟩ := HO.out.sl
     subst hsl
     cases fv with
     | true =>
       by_cases huv : u = v
       · have HE := Lib.hid (show X = ([], 15) from by rw [HX.out]; exact text_of_bad (HB2x.out.trans (if_pos ⟨rfl, huv⟩)) (by decide))
         have e1 : (u == v) = true := by rw [huv]; exact beq_self_eq_true _
         have HUV := Lib.hid huv
         clear huv
         go_wp2_with fail
         go_ret2
         exact ⟨by rw [HE.out]; rfl, HBw.out⟩
       · have HE := Lib.hid (show X = (lineB wd ns, 0) from by rw [HX.out, HWd.out, HNs.out]; exact text_of_good (HB2x.out.trans (if_neg (fun h => huv h.2))))
         have e1 : (u == v) = false := beq_false_of_ne huv
         go_wp2_with fail
         refine HLi.out.mono ?_
         rintro r w7 ⟨rfl, hb7⟩
         have HB7 := Lib.hid (HBw.out.trans (hb7.mono HBw.out.size))
         clear hb7
         go_wp2_with fail
         go_ret2
         exact ⟨by rw [HE.out]; rfl, HB7.out⟩
     | false =>
       have HE := Lib.hid (show X = (lineB wd ns, 0) from by rw [HX.out, HWd.out, HNs.out]; exact text_of_good (HB2x.out.trans (if_neg (fun h => by cases h.1))))
       go_wp2_with fail
       refine HLi.out.mono ?_
       rintro r w7 ⟨rfl, hb7⟩
       have HB7 := Lib.hid (HBw.out.trans (hb7.mono HBw.out.size))
       clear hb7
       go_wp2_with fail
       go_ret2
       exact ⟨by rw [HE.out]; rfl, HB7.out⟩
   · rcases (show j = 0 ∨ j = 1 ∨ j = 2 ∨ j = 3 by omega) with rfl | rfl | rfl | rfl
     · have jl := field_load HR.out (k := 0) (by omega)
       unfold fCells fHas fVal fSet fMay at jl
       simp only at jl
       have P1 := Lib.hid fun (_ : 1 ≤ 0) => p1 (by omega)
       have P2 := Lib.hid fun (_ : 2 ≤ 0) => p2 (by omega)
       have P3 := Lib.hid fun (_ : 3 ≤ 0) => p3 (by omega)
       rw [Nat.zero_mul] at jl
       obtain ⟨acc, hacc⟩ : ∃ acc, acc = numsTo fv fl fw u v (lab : Int) wt 0 := ⟨_, rfl⟩
       have hal : acc.length ≤ 4 := by rw [hacc]; exact numsTo_len ..
       rw [← hacc] at HO
       have HAcc := Lib.hid hacc
       clear hacc p1 p2 p3 p4
       go_wp2_with fail
       generalize hWv : World.alloc wr _ = Wv
       obtain ⟨rv, hbv⟩ := alloc_row hWv
       have HBv := Lib.hid (HB.out.trans (hbv.mono hsz))
       have hszv : w3.heap.size ≤ Wv.heap.size := Nat.le_trans hsz hbv.size
       have HOv := Lib.hid (HO.out.below hbv (Nat.le_refl _))
       have HBz := Lib.hid (HB3.out.trans (HBv.out.mono HB3.out.size))
       have v0 := (cell?_row (i := 0) rv).trans rfl
       have v1 := (cell?_row (i := 1) rv).trans rfl
       clear hWv rv hbv jl
       refine (fid_any u Wv).mono ?_
       rintro r w0 ⟨rfl, hw0⟩
       rw [hw0]
       clear hw0
       cases hm : idB u with
       | false =>
         have HE := Lib.hid (show X = ([], 2) from by rw [HX.out]; exact text_of_bad (by rw [HBad.out, if_neg (by decide), if_neg (by rw [hm]; simp)]) (by decide))
         go_wp2_with fail
         go_ret2
         exact ⟨by rw [HE.out]; rfl, HBz.out⟩
       | true =>
         obtain ⟨qo, co, hsl⟩ := HOv.out.sl
         subst hsl
         have e9 : numsTo fv fl fw u v (lab : Int) wt 1 = acc ++ [u] := by rw [HAcc.out]; simp [numsTo, optN]
         have E9 := Lib.hid e9
         clear e9
         go_wp2_with (at_builtin; refine wpList_appT rfl 82 Tryz.underlying82 _ _ rfl (w3.heap.size) _ (acc) rfl (HOv.out.alloc _) _ (u) _ rfl (by simp [go_sem]) (by first | omega | (simp; done) | (simp; omega)) (by first | (simp; done) | (simp; omega)) ?_)
         intro v' w6 hO6 hb6
         obtain ⟨q6, cap6, hv6⟩ := hO6.sl
         subst hv6
         have HO6 := Lib.hid hO6
         have HB6 := Lib.hid ((HBv.out.alloc hszv _).trans hb6)
         clear hO6 hb6 v0 v1
         go_wp2_with fail
         go_roundw
         case rel => exact ⟨1, by first | rfl | go_num, by omega, by rw [E9.out]; exact HO6.out, HB6.out, fun _ => hm, by omega, by omega, by omega⟩
         case measure => simp [intOf]
     · have jl := field_load HR.out (k := 1) (by omega)
       unfold fCells fHas fVal fSet fMay at jl
       simp only at jl
       have P1 := Lib.hid fun (_ : 1 ≤ 2) => p1 (by omega)
       have P2 := Lib.hid fun (_ : 2 ≤ 0) => p2 (by omega)
       have P3 := Lib.hid fun (_ : 3 ≤ 0) => p3 (by omega)
       obtain ⟨acc, hacc⟩ : ∃ acc, acc = numsTo fv fl fw u v (lab : Int) wt 1 := ⟨_, rfl⟩
       have hal : acc.length ≤ 4 := by rw [hacc]; exact numsTo_len ..
       rw [← hacc] at HO
       have HAcc := Lib.hid hacc
       clear hacc p1 p2 p3 p4
       go_wp2_with fail
       generalize hWv : World.alloc wr _ = Wv
       obtain ⟨rv, hbv⟩ := alloc_row hWv
       have HBv := Lib.hid (HB.out.trans (hbv.mono hsz))
       have hszv : w3.heap.size ≤ Wv.heap.size := Nat.le_trans hsz hbv.size
       have HOv := Lib.hid (HO.out.below hbv (Nat.le_refl _))
       have HBz := Lib.hid (HB3.out.trans (HBv.out.mono HB3.out.size))
       have v0 := (cell?_row (i := 0) rv).trans rfl
       have v1 := (cell?_row (i := 1) rv).trans rfl
       clear hWv rv hbv jl
       refine (fid_any v Wv).mono ?_
       rintro r w0 ⟨rfl, hw0⟩
       rw [hw0]
       clear hw0
       cases hm : idB v with
       | false =>
         have HE := Lib.hid (show X = ([], 2) from by rw [HX.out]; exact text_of_bad (by rw [HBad.out, if_neg (by decide), if_neg (by rw [hm]; simp)]) (by decide))
         go_wp2_with fail
         go_ret2
         exact ⟨by rw [HE.out]; rfl, HBz.out⟩
       | true =>
         obtain ⟨qo, co, hsl⟩ := HOv.out.sl
         subst hsl
         cases fv with
         | true =>
           have e9 : numsTo true fl fw u v (lab : Int) wt 2 = acc ++ [v] := by rw [HAcc.out]; simp [numsTo, optN]
           have E9 := Lib.hid e9
           clear e9
           go_wp2_with (at_builtin; refine wpList_appT rfl 82 Tryz.underlying82 _ _ rfl (w3.heap.size) _ (acc) rfl (HOv.out.alloc _) _ (v) _ rfl (by simp [go_sem]) (by first | omega | (simp; done) | (simp; omega)) (by first | (simp; done) | (simp; omega)) ?_)
           intro v' w6 hO6 hb6
           obtain ⟨q6, cap6, hv6⟩ := hO6.sl
           subst hv6
           have HO6 := Lib.hid hO6
           have HB6 := Lib.hid ((HBv.out.alloc hszv _).trans hb6)
           clear hO6 hb6 v0 v1
           go_wp2_with fail
           go_roundw
           case rel => exact ⟨2, by first | rfl | go_num, by omega, by rw [E9.out]; exact HO6.out, HB6.out, P1.out, fun _ => hm, by omega, by omega⟩
           case measure => simp [intOf]
         | false =>
           have e9 : numsTo false fl fw u v (lab : Int) wt 2 = acc := by rw [HAcc.out]; simp [numsTo, optN]
           have E9 := Lib.hid e9
           clear e9
           go_wp2_with fail
           go_roundw
           case rel => exact ⟨2, by first | rfl | go_num, by omega, by rw [E9.out]; exact HOv.out, HBv.out, P1.out, fun _ => hm, by omega, by omega⟩
           case measure => simp [intOf]
     · have jl := field_load HR.out (k := 2) (by omega)
       unfold fCells fHas fVal fSet fMay at jl
       simp only at jl
       have P1 := Lib.hid fun (_ : 1 ≤ 3) => p1 (by omega)
       have P2 := Lib.hid fun (_ : 2 ≤ 3) => p2 (by omega)
       have P3 := Lib.hid fun (_ : 3 ≤ 0) => p3 (by omega)
       obtain ⟨acc, hacc⟩ : ∃ acc, acc = numsTo fv fl fw u v (lab : Int) wt 2 := ⟨_, rfl⟩
       have hal : acc.length ≤ 4 := by rw [hacc]; exact numsTo_len ..
       rw [← hacc] at HO
       have HAcc := Lib.hid hacc
       clear hacc p1 p2 p3 p4
       go_wp2_with fail
       generalize hWv : World.alloc wr _ = Wv
       obtain ⟨rv, hbv⟩ := alloc_row hWv
       have HBv := Lib.hid (HB.out.trans (hbv.mono hsz))
       have hszv : w3.heap.size ≤ Wv.heap.size := Nat.le_trans hsz hbv.size
       have HOv := Lib.hid (HO.out.below hbv (Nat.le_refl _))
       have HBz := Lib.hid (HB3.out.trans (HBv.out.mono HB3.out.size))
       have v0 := (cell?_row (i := 0) rv).trans rfl
       have v1 := (cell?_row (i := 1) rv).trans rfl
       clear hWv rv hbv jl
       refine (flab_any (lab : Int) Wv).mono ?_
       rintro r w0 ⟨rfl, hw0⟩
       rw [hw0]
       clear hw0
       cases hm : labB (lab : Int) with
       | false =>
         have HE := Lib.hid (show X = ([], 2) from by rw [HX.out]; exact text_of_bad (by rw [HBad.out, if_neg (by decide), if_neg (by rw [hm]; simp)]) (by decide))
         go_wp2_with fail
         go_ret2
         exact ⟨by rw [HE.out]; rfl, HBz.out⟩
       | true =>
         obtain ⟨qo, co, hsl⟩ := HOv.out.sl
         subst hsl
         cases fl with
         | true =>
           have e9 : numsTo fv true fw u v (lab : Int) wt 3 = acc ++ [(lab : Int)] := by rw [HAcc.out]; simp [numsTo, optN]
           have E9 := Lib.hid e9
           clear e9
           go_wp2_with (at_builtin; refine wpList_appT rfl 82 Tryz.underlying82 _ _ rfl (w3.heap.size) _ (acc) rfl (HOv.out.alloc _) _ ((lab : Int)) _ rfl (by simp [go_sem]) (by first | omega | (simp; done) | (simp; omega)) (by first | (simp; done) | (simp; omega)) ?_)
           intro v' w6 hO6 hb6
           obtain ⟨q6, cap6, hv6⟩ := hO6.sl
           subst hv6
           have HO6 := Lib.hid hO6
           have HB6 := Lib.hid ((HBv.out.alloc hszv _).trans hb6)
           clear hO6 hb6 v0 v1
           go_wp2_with fail
           go_roundw
           case rel => exact ⟨3, by first | rfl | go_num, by omega, by rw [E9.out]; exact HO6.out, HB6.out, P1.out, P2.out, fun _ => hm, by omega⟩
           case measure => simp [intOf]
         | false =>
           have e9 : numsTo fv false fw u v (lab : Int) wt 3 = acc := by rw [HAcc.out]; simp [numsTo, optN]
           have E9 := Lib.hid e9
           clear e9
           go_wp2_with fail
           go_roundw
           case rel => exact ⟨3, by first | rfl | go_num, by omega, by rw [E9.out]; exact HOv.out, HBv.out, P1.out, P2.out, fun _ => hm, by omega⟩
           case measure => simp [intOf]
     · have jl := field_load HR.out (k := 3) (by omega)
       unfold fCells fHas fVal fSet fMay at jl
       simp only at jl
       have P1 := Lib.hid fun (_ : 1 ≤ 4) => p1 (by omega)
       have P2 := Lib.hid fun (_ : 2 ≤ 4) => p2 (by omega)
       have P3 := Lib.hid fun (_ : 3 ≤ 4) => p3 (by omega)
       obtain ⟨acc, hacc⟩ : ∃ acc, acc = numsTo fv fl fw u v (lab : Int) wt 3 := ⟨_, rfl⟩
       have hal : acc.length ≤ 4 := by rw [hacc]; exact numsTo_len ..
       rw [← hacc] at HO
       have HAcc := Lib.hid hacc
       clear hacc p1 p2 p3 p4
       go_wp2_with fail
       generalize hWv : World.alloc wr _ = Wv
       obtain ⟨rv, hbv⟩ := alloc_row hWv
       have HBv := Lib.hid (HB.out.trans (hbv.mono hsz))
       have hszv : w3.heap.size ≤ Wv.heap.size := Nat.le_trans hsz hbv.size
       have HOv := Lib.hid (HO.out.below hbv (Nat.le_refl _))
       have HBz := Lib.hid (HB3.out.trans (HBv.out.mono HB3.out.size))
       have v0 := (cell?_row (i := 0) rv).trans rfl
       have v1 := (cell?_row (i := 1) rv).trans rfl
       clear hWv rv hbv jl
       refine (fwt_any wt Wv).mono ?_
       rintro r w0 ⟨rfl, hw0⟩
       rw [hw0]
       clear hw0
       cases hm : wtB wt with
       | false =>
         have HE := Lib.hid (show X = ([], 2) from by rw [HX.out]; exact text_of_bad (by rw [HBad.out, if_neg (by decide), if_neg (by rw [hm]; simp)]) (by decide))
         go_wp2_with fail
         go_ret2
         exact ⟨by rw [HE.out]; rfl, HBz.out⟩
       | true =>
         obtain ⟨qo, co, hsl⟩ := HOv.out.sl
         subst hsl
         cases fw with
         | true =>
           have e9 : numsTo fv fl true u v (lab : Int) wt 4 = acc ++ [wt] := by rw [HAcc.out]; simp [numsTo, optN]
           have E9 := Lib.hid e9
           clear e9
           go_wp2_with (at_builtin; refine wpList_appT rfl 82 Tryz.underlying82 _ _ rfl (w3.heap.size) _ (acc) rfl (HOv.out.alloc _) _ (wt) _ rfl (by simp [go_sem]) (by first | omega | (simp; done) | (simp; omega)) (by first | (simp; done) | (simp; omega)) ?_)
           intro v' w6 hO6 hb6
           obtain ⟨q6, cap6, hv6⟩ := hO6.sl
           subst hv6
           have HO6 := Lib.hid hO6
           have HB6 := Lib.hid ((HBv.out.alloc hszv _).trans hb6)
           clear hO6 hb6 v0 v1
           go_wp2_with fail
           go_roundw
           case rel => exact ⟨4, by first | rfl | go_num, by omega, by rw [E9.out]; exact HO6.out, HB6.out, P1.out, P2.out, P3.out, fun _ => hm⟩
           case measure => simp [intOf]
         | false =>
           have e9 : numsTo fv fl false u v (lab : Int) wt 4 = acc := by rw [HAcc.out]; simp [numsTo, optN]
           have E9 := Lib.hid e9
           clear e9
           go_wp2_with fail
           go_roundw
           case rel => exact ⟨4, by first | rfl | go_num, by omega, by rw [E9.out]; exact HOv.out, HBv.out, P1.out, P2.out, P3.out, fun _ => hm⟩
           case measure => simp [intOf]
end Go.Proofs.YtglnhnjmelilmaaGreatDoor
