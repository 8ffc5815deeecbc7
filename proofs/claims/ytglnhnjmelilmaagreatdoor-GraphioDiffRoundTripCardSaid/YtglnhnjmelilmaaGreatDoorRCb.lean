/- Walk: graphio's FormatEdits. The variable of the forms of edits: from the row's condition .. -/
import Derived.Test.YtglnhnjmelilmaaGreatDoorRIQ
import Derived.Test.YtglnhnjmelilmaaGreatDoorRVc
import Derived.Test.YtglnhnjmelilmaaGreatDoorRJm
import Derived.OpenShut
import Derived.Lib.SmallJoins
import Derived.Stop.LaidErr
set_option linter.all false
namespace Go.Pal
open Go Go.RowKit
theorem Ed.text_len (e : Ed) : e.text.1.length ≤ 98 := by
 by_cases h : e.bad = 0
 · have ho := e.bad_op h
   have hr := nums_range (e.bad_range h) e.op.toNat
   have hl := lineB_len (s := opW e.op.toNat) (ns := e.nums e.op.toNat) fun n hn => by have := hr n hn; exact inI_of this.1 this.2
   have hwl : (opW e.op.toNat).length ≤ 10 := (by decide : ∀ k, k < 8 → (opW k).length ≤ 10) _ (by omega)
   have := nums_len e e.op.toNat
   have := manyOp_le e.op.toNat
   unfold Ed.text
   rw [if_pos h]
   show (lineB _ _).length ≤ 98
   omega
 · unfold Ed.text
   rw [if_neg h]
   simp
end Go.Pal
namespace Go.Proofs.YtglnhnjmelilmaaGreatDoor
open Go Go.RowKit Go.Pal Go.Shelf
attribute [local go_sem] Oper.semAt_some
set_option maxRecDepth 10000 in
set_option maxHeartbeats 2000000 in
theorem fedits_any (es : List Ed) (hes : ∀ e ∈ es, e.Wf) (hlen : es.length ≤ 1000000) (v : Value) (w : World) (hv : Rd edC 5 w.heap.size w v es) (hP : Pow w) (hF : FormsOk w) :
   Calls Tryz.prog 24 #[v] w fun e w' => e = .returned (.tuple #[.string ⟨(edsA [] es).1.toArray⟩, .int .i64 ((edsA [] es).2 : Nat)]) ∧ Below w.heap.size w w' := by
 have HV := Lib.hid hv
 have HP := Lib.hid hP
 have HF := Lib.hid hF
 have HWf := Lib.hid hes
 obtain ⟨a, c, rfl⟩ := hv.sl
 obtain ⟨X, hX⟩ : ∃ X, X = edsA [] es := ⟨_, rfl⟩
 rw [← hX]
 have HX := Lib.hid hX
 obtain ⟨N, hN⟩ : ∃ N, N = es.length := ⟨_, rfl⟩
 have HN := Lib.hid hN
 rw [← hN] at HV hlen ⊢
 clear hv hP hF hes hX hN
 go_enter Tryz.func24, Tryz.ntmps24
 go_wp2_with fail
 obtain ⟨W0, hW0⟩ : ∃ W0, W0 = w.alloc (.cells #[.pointer none, .slice none 0 0] 122) := ⟨_, rfl⟩
 have HI0 := Lib.hid (show IsB w.heap.size w.heap.size [] W0 from by rw [hW0]; exact isB_fresh w)
 have HB0 := Lib.hid (show Below w.heap.size w W0 from by rw [hW0]; exact (Below.refl _ w).alloc (Nat.le_refl _) _)
 rw [← hW0]
 clear hW0
 go_loopw [11] (fun i wr => ∃ (k : Nat) (acc : List UInt8), k ≤ N ∧ i = .int .i64 (k : Int) ∧ IsB w.heap.size w.heap.size acc wr ∧ acc.length ≤ 99 * k ∧ X = edsA acc (es.drop k) ∧ Below w.heap.size w wr) (fun i _ => N - (intOf i).toNat)
 case atStart => exact ⟨0, [], by omega, rfl, HI0.out, by simp, HX.out, HB0.out⟩
 case round =>
   obtain ⟨k, acc, hk, rfl, hI, hal, hx, hb⟩ := hrel
   have HI := Lib.hid hI
   have HB := Lib.hid hb
   have HXk := Lib.hid hx
   have hs := hb.size
   clear hI hb hx
   by_cases hlt : k < N
   · obtain ⟨b, off, c', y, h1, hbb, hy, hc⟩ := HV.out.at (i := k) (by rw [← HN.out]; exact hlt)
     simp only [Value.slice.injEq] at h1
     obtain ⟨rfl, -, rfl⟩ := h1
     have hwf := HWf.out y (List.mem_of_getElem? hy)
     have HD := Lib.hid (show X = if y.text.2 = 0 then edsA (acc ++ (y.text.1 ++ [10])) (es.drop (k + 1)) else ([], y.text.2) from by
       obtain ⟨h1, h2⟩ := List.getElem?_eq_some_iff.1 hy
       rw [HXk.out, List.drop_eq_getElem_cons h1, h2]
       rfl)
     have htl := Ed.text_len y
     have HFe := Lib.hid fun W (hW : Below w.heap.size w W) => fedit_any y hwf W (HP.out.on hW) (HF.out.on hW)
     obtain ⟨op, u, vv, lab, wt⟩ := y
     have jl : rowLoad Tryz.prog 23 ⟨b, off + k * 5, none⟩ wr = .ok (.agg #[.int .i64 op, .int .i64 u, .int .i64 vv, .int .u8 (lab : Int), .int .i64 wt]) wr := load_cells Tryz.isAgg23 Tryz.sizeOf23 wr b _ _ rfl fun j z hz => hc wr HB.out j z hz
     have HB1 := Lib.hid (HB.out.alloc HB.out.size (.cells #[.int .i64 op, .int .i64 u, .int .i64 vv, .int .u8 (lab : Int), .int .i64 wt] 23))
     rw [show edC ⟨op, u, vv, lab, wt⟩ = #[.int .i64 op, .int .i64 u, .int .i64 vv, .int .u8 (lab : Int), .int .i64 wt] from rfl] at HFe
     obtain ⟨T, hT⟩ : ∃ T, T = (⟨op, u, vv, lab, wt⟩ : Ed).text := ⟨_, rfl⟩
     rw [← hT] at HD HFe htl
     obtain ⟨t, n⟩ := T
     simp only at HD HFe htl
     have hki : (k : Int) < (N : Int) := by omega
     clear hbb hy hc hwf hT
     go_wp2_with fail
     refine (HFe.out _ HB1.out).mono ?_
     rintro r w2 ⟨rfl, hb2⟩
     have hb12 : Below wr.heap.size wr w2 := ((Below.refl _ wr).alloc (Nat.le_refl _) _).trans (hb2.mono (by first | (simp; done) | (simp; omega)))
     have HI2 := Lib.hid (HI.out.below hb12 (Nat.le_refl _))
     have HB2 := Lib.hid (HB1.out.trans (hb2.mono HB1.out.size))
     have hs2 := HB2.out.size
     clear hb2 hb12 jl HFe
     by_cases hn : n = 0
     · subst hn
       have HE := Lib.hid (HD.out.trans (if_pos rfl))
       go_wp2_with (refine wpList_strAdd rfl _ _ _ _ rfl t [10] rfl rfl (by simp; omega) ?_)
       refine (write_any w.heap.size w.heap.size acc (t ++ [10]) w2 HI2.out (by simp; omega) hs2).mono ?_
       rintro r w4 ⟨rfl, hI4, hb4, -⟩
       have HI4 := Lib.hid hI4
       have HB4 := Lib.hid (HB2.out.trans hb4)
       clear hI4 hb4
       go_wp2_with fail
       go_roundw
       case rel => exact ⟨k + 1, _, by omega, by go_num, HI4.out, by simp; omega, HE.out, HB4.out⟩
       case measure => simp [intOf]; omega
     · have HE := Lib.hid (HD.out.trans (if_neg hn))
       have e1 : ((n : Int) != 0) = true := by rw [bne_iff_ne]; omega
       have e2 : ¬ (n : Int) = 0 := by omega
       clear hn
       go_wp2_with fail
       go_ret2
       exact ⟨by rw [HE.out]; rfl, HB2.out⟩
   · have hkn : N = k := by omega
     have HE := Lib.hid (show X = (acc, 0) from by rw [HXk.out, List.drop_eq_nil_of_le (by rw [← HN.out]; omega)]; rfl)
     subst hkn
     go_wp2_with fail
     refine (built_any w.heap.size w.heap.size acc wr HI.out hs).mono ?_
     rintro r w6 ⟨rfl, hb6⟩
     have HB6 := Lib.hid (HB.out.trans hb6)
     clear hb6
     go_wp2_with fail
     go_ret2
     exact ⟨by rw [HE.out]; rfl, HB6.out⟩
end Go.Proofs.YtglnhnjmelilmaaGreatDoor
namespace Go.Pal
theorem list4 {α : Type} {l : List α} (h : l.length = 4) : ∃ a b c d, l = [a, b, c, d] := by
 match l, h with
 | [a, b, c, d], _ => exact ⟨a, b, c, d, rfl⟩
end Go.Pal
namespace Go.Proofs.YtglnhnjmelilmaaGreatDoor
open Go Go.RowKit Go.Pal Go.Shelf
def formD {H : Type} (k : Nat) : DataW H := .agg [.lit (.string (opW k)), .lit (.bool (hasV k)), .lit (.bool (hasL k)), .lit (.bool (hasW k))]
def formsD {H : Type} : DataW H := .agg ((List.range 8).map formD)
theorem cellsForm : Tryz.prog.cellsOf 93 = 4 := by kernel_rfl
theorem cellsFS : Tryz.prog.cellsOf 9 = 1 := by kernel_rfl
theorem cellsFB : Tryz.prog.cellsOf 4 = 1 := by kernel_rfl
theorem form_cells {H : Type} {enc : TypeId × Value → H} {w : World} {base : Nat} {sp : Nat → Bool} {held : Bool} {fuel : Nat} {cs : List Value} {wd : List UInt8} {a b c : Bool} {p : List MemPlace}
   (h : DataW.trod enc Tryz.prog w base sp held fuel 93 cs = some (.agg [.lit (.string wd), .lit (.bool a), .lit (.bool b), .lit (.bool c)], p)) : cs = [.string ⟨wd.toArray⟩, .bool a, .bool b, .bool c] := by
 obtain ⟨y0, y1, y2, y3, n, hx, hl, h0, h1, h2, h3⟩ := Joins.trod_struct4 Tryz.underlying93 h
 rw [cellsForm] at hl
 obtain ⟨c0, c1, c2, c3, rfl⟩ := list4 hl
 simp only at h0 h1 h2 h3
 rw [cellsFS] at h0
 rw [cellsFB] at h1 h2 h3
 obtain ⟨s, e0, rfl, -⟩ := DataW.trod_string Tryz.underlying9 h0
 obtain ⟨b1, e1, rfl⟩ := DataW.trod_bool Tryz.underlying4 h1
 obtain ⟨b2, e2, rfl⟩ := DataW.trod_bool Tryz.underlying4 h2
 obtain ⟨b3, e3, rfl⟩ := DataW.trod_bool Tryz.underlying4 h3
 simp at e0 e1 e2 e3
 subst e0 e1 e2 e3
 simp at hx
 obtain ⟨⟨rfl, rfl, rfl, rfl⟩, -⟩ := hx
 simp
theorem forms_laid {W : World} {r : List (String × DataW Unit)} (h : laidMet Tryz.prog (("palmette/graphio.forms", formsD) :: r) W) (hg : Tryz.prog.globalNamed "palmette/graphio.forms" = some 0) (ht : (Tryz.prog.globals[0]?).map (·.type) = some 94) : FormsOk W := by
 obtain ⟨ps, ⟨g', t', cs, fuel, p, q, hg', ht', hvar, hd, -, -⟩, -, -⟩ := h
 obtain rfl := Option.some.inj (hg.symm.trans hg')
 obtain rfl := Option.some.inj (ht.symm.trans ht')
 obtain ⟨xs, m, -, hx, -, hlen, hel⟩ := DataW.trod_array Tryz.underlying94 hd
 rw [cellsForm] at hel
 have hxs : xs.map (·.1) = (List.range 8).map formD := by
   have := congrArg Prod.fst hx
   unfold formsD at this
   simp only [DataW.agg.injEq] at this
   exact this.symm
 have hcell : ∀ k, k < 8 → ∀ j x, (formC k)[j]? = some x → W.cell? ⟨0, k * 4 + j, none⟩ = some x := by
   intro k hk j x hj
   obtain ⟨y, hy⟩ : ∃ y, xs[k]? = some y := ⟨_, List.getElem?_eq_getElem (by omega)⟩
   have h1 : y.1 = formD k := by
     have := congrArg (·[k]?) hxs
     simp only [List.getElem?_map, hy, Option.map_some] at this
     rw [List.getElem?_range hk] at this
     exact Option.some.inj this
   have h2 := (hel k hk).trans hy
   obtain ⟨y1, y2⟩ := y
   simp only at h1
   subst h1
   have h3 := form_cells h2
   have h4 : cs.toList[k * 4 + j]? = (formC k)[j]? := by
     have := congrArg (·[j]?) h3
     have hj4 : j < 4 := by have := (Array.getElem?_eq_some_iff.1 hj).1; simpa [formC] using this
     simp only [List.getElem?_take, List.getElem?_drop, if_pos hj4] at this
     rw [this]
     unfold formC
     rw [List.getElem?_toArray]
   rw [World.var?_cell hg hvar, ← hj, ← h4]
   simp
 intro W' hW' k hk j x hj
 have h0 := hcell k hk j x hj
 exact (hW'.cell (p := ⟨0, k * 4 + j, none⟩) (World.block_lt_of_cell? W _ h0)).trans h0
end Go.Proofs.YtglnhnjmelilmaaGreatDoor
