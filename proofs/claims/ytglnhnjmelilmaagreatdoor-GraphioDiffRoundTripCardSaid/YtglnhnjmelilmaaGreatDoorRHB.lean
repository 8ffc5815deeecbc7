/- Walks of the reference's graph: pair, heavy, Find, Edge, Wrong. -/
import Derived.Test.YtglnhnjmelilmaaGreatDoorRVc
import Derived.Test.YtglnhnjmelilmaaGreatDoorRGrf
import Derived.Deep.DeepCutAuto
import Derived.Deep.CutBlock
set_option maxHeartbeats 4000000
set_option linter.all false
namespace Go.Proofs.YtglnhnjmelilmaaGreatDoor
open Go Go.RowKit Go.Pal
attribute [local go_sem] Oper.semAt_some
theorem edC_lit (e : Ed) : edC e = #[.int .i64 e.op, .int .i64 e.u, .int .i64 e.v, .int .u8 (e.lab : Int), .int .i64 e.wt] := rfl
theorem rpair_any (e : Ed) (w : World) : Calls Tryz.prog 171 #[.agg (edC e)] w fun r w' => r = .returned (.bool e.pairs) ∧ Below w.heap.size w w' := by
 obtain ⟨n, u, v, lab, wt⟩ := e
 have hp : Ed.pairs ⟨n, u, v, lab, wt⟩ = decide (n = 2 ∨ n = 3 ∨ n = 6 ∨ n = 7) := rfl
 rw [hp, edC_lit]
 clear hp
 simp only
 by_cases h1 : n = 2
 · subst h1
   go_enter Tryz.func171, Tryz.ntmps171
   go_wp2_with fail
   go_ret
   exact ⟨by simp, (Below.refl _ w).alloc (Nat.le_refl _) _⟩
 by_cases h2 : n = 3
 · subst h2
   go_enter Tryz.func171, Tryz.ntmps171
   go_wp2_with fail
   go_ret
   exact ⟨by simp, (Below.refl _ w).alloc (Nat.le_refl _) _⟩
 by_cases h3 : n = 6
 · subst h3
   go_enter Tryz.func171, Tryz.ntmps171
   go_wp2_with fail
   go_ret
   exact ⟨by simp, (Below.refl _ w).alloc (Nat.le_refl _) _⟩
 · go_enter Tryz.func171, Tryz.ntmps171
   go_wp2_with fail
   go_ret
   refine ⟨congrArg Ending.returned (congrArg Value.bool ?_), (Below.refl _ w).alloc (Nat.le_refl _) _⟩
   rw [Bool.eq_iff_iff]
   simp [h1, h2, h3]
theorem rheavy_any (e : Ed) (w : World) : Calls Tryz.prog 191 #[.agg (edC e)] w fun r w' => r = .returned (.bool e.weighs) ∧ Below w.heap.size w w' := by
 obtain ⟨n, u, v, lab, wt⟩ := e
 have hp : Ed.weighs ⟨n, u, v, lab, wt⟩ = decide (n = 0 ∨ n = 2 ∨ n = 5 ∨ n = 7) := rfl
 rw [hp, edC_lit]
 clear hp
 simp only
 by_cases h1 : n = 0
 · subst h1
   go_enter Tryz.func191, Tryz.ntmps191
   go_wp2_with fail
   go_ret
   exact ⟨by simp, (Below.refl _ w).alloc (Nat.le_refl _) _⟩
 by_cases h2 : n = 2
 · subst h2
   go_enter Tryz.func191, Tryz.ntmps191
   go_wp2_with fail
   go_ret
   exact ⟨by simp, (Below.refl _ w).alloc (Nat.le_refl _) _⟩
 by_cases h3 : n = 5
 · subst h3
   go_enter Tryz.func191, Tryz.ntmps191
   go_wp2_with fail
   go_ret
   exact ⟨by simp, (Below.refl _ w).alloc (Nat.le_refl _) _⟩
 · go_enter Tryz.func191, Tryz.ntmps191
   go_wp2_with fail
   go_ret
   refine ⟨congrArg Ending.returned (congrArg Value.bool ?_), (Below.refl _ w).alloc (Nat.le_refl _) _⟩
   rw [Bool.eq_iff_iff]
   simp [h1, h2, h3]
theorem rfind_any (V : List (Int × Th)) (u : Int) (vV vE : Value) (w : World) (hv : Rd vtxA 3 w.heap.size w vV V) (hE : ∃ a n c, vE = .slice a n c) (hlen : V.length ≤ 1000000) :
   Calls Tryz.prog 192 #[.agg #[vV, vE], .int .i64 u] w fun e w' => e = .returned (.int .i64 (idx (fun p => decide (p.1 = u)) V)) ∧ Below w.heap.size w w' := by
 have HV := Lib.hid hv
 obtain ⟨a, c, rfl⟩ := hv.sl
 obtain ⟨a2, n2, c2, rfl⟩ := hE
 clear hv
 go_enter Tryz.func192, Tryz.ntmps192
 go_wp2_with fail
 go_loop [5] (fun i => ∃ k : Nat, k ≤ V.length ∧ i = .int .i64 (k : Int) ∧ noHit (fun p : Int × Th => decide (p.1 = u)) V k) (fun i => V.length - (intOf i).toNat)
 case atStart => exact ⟨0, by omega, rfl, fun j y hj => by omega⟩
 case round =>
   obtain ⟨k, hk, rfl, hno⟩ := hrel
   have HNO := Lib.hid hno
   clear hno
   by_cases hlt : k < V.length
   · obtain ⟨b, off, c', x, h1, hb, hx, hc⟩ := HV.out.at hlt
     simp only [Value.slice.injEq] at h1
     obtain ⟨rfl, -, rfl⟩ := h1
     have c0 := hc _ ((Below.refl _ w).alloc (Nat.le_refl _) (.cells #[.slice (some ⟨b, off, none⟩) V.length c, .slice a2 n2 c2] 42)) 0 (.int .i64 x.1) rfl
     simp only [Nat.add_zero] at c0
     have HX := Lib.hid hx
     clear hc hx
     by_cases hq : x.1 = u
     · go_wp2_with fail
       go_ret
       refine ⟨?_, (Below.refl _ w).alloc (Nat.le_refl _) _⟩
       rw [idx_some HX.out (by simp [hq]) HNO.out]
       rfl
     · go_wp2_with fail
       go_round
       case rel => exact ⟨k + 1, by omega, by go_num, fun j y hj hy => by
         by_cases e : j = k
         · subst e
           have := HX.out
           rw [hy] at this
           cases this
           simp [hq]
         · exact HNO.out j y (by omega) hy⟩
       case measure => simp [intOf]; omega
   · have hkn : k = V.length := by omega
     subst hkn
     go_wp2_with fail
     go_ret
     refine ⟨?_, (Below.refl _ w).alloc (Nat.le_refl _) _⟩
     rw [idx_none fun j y hy => HNO.out j y (List.getElem?_eq_some_iff.1 hy).1 hy]
     rfl
theorem redge_any (E : List ((Int × Int) × Th)) (u v : Int) (vV vE : Value) (w : World) (hE : Rd edgA 4 w.heap.size w vE E) (hv : ∃ a n c, vV = .slice a n c) (hlen : E.length ≤ 1000000) :
   Calls Tryz.prog 100 #[.agg #[vV, vE], .int .i64 u, .int .i64 v] w fun e w' => e = .returned (.int .i64 (idx (edgB u v) E)) ∧ Below w.heap.size w w' := by
 have HE := Lib.hid hE
 obtain ⟨a, c, rfl⟩ := hE.sl
 obtain ⟨a2, n2, c2, rfl⟩ := hv
 clear hE
 go_enter Tryz.func100, Tryz.ntmps100
 go_wp2_with fail
 go_loop [7] (fun i => ∃ k : Nat, k ≤ E.length ∧ i = .int .i64 (k : Int) ∧ noHit (edgB u v) E k) (fun i => E.length - (intOf i).toNat)
 case atStart => exact ⟨0, by omega, rfl, fun j y hj => by omega⟩
 case round =>
   obtain ⟨k, hk, rfl, hno⟩ := hrel
   have HNO := Lib.hid hno
   clear hno
   by_cases hlt : k < E.length
   · obtain ⟨b, off, c', x, h1, hb, hx, hc⟩ := HE.out.at hlt
     simp only [Value.slice.injEq] at h1
     obtain ⟨rfl, -, rfl⟩ := h1
     obtain ⟨⟨xu, xv⟩, xt⟩ := x
     have hc' := hc _ ((Below.refl _ w).alloc (Nat.le_refl _) (.cells #[.slice a2 n2 c2, .slice (some ⟨b, off, none⟩) E.length c] 42))
     have c0 := hc' 0 (.int .i64 xu) rfl
     have c1 := hc' 1 (.int .i64 xv) rfl
     simp only [Nat.add_zero] at c0
     have HX := Lib.hid hx
     clear hc hc' hx
     have hyes : edgB u v ((xu, xv), xt) = true → Hid (idx (edgB u v) E = (k : Int)) := fun h => Lib.hid (idx_some HX.out h HNO.out)
     have hnot : edgB u v ((xu, xv), xt) = false → Hid (noHit (edgB u v) E (k + 1)) := fun h => Lib.hid fun j y hj hy => by
       by_cases e : j = k
       · subst e
         have := HX.out
         rw [hy] at this
         cases this
         exact h
       · exact HNO.out j y (by omega) hy
     by_cases h1 : xu = u <;> by_cases h2 : xv = v <;> by_cases h3 : xu = v <;> by_cases h4 : xv = u
     all_goals
       first
       | (exfalso; omega)
       | (have HY := hyes (by simp only [edgB, Bool.or_eq_true, Bool.and_eq_true, decide_eq_true_eq]; omega)
          (first | have b1 : (xu == u) = true := by simpa using h1 | have b1 : (xu == u) = false := by simpa using h1)
          (first | have b2 : (xv == v) = true := by simpa using h2 | have b2 : (xv == v) = false := by simpa using h2)
          (first | have b3 : (xu == v) = true := by simpa using h3 | have b3 : (xu == v) = false := by simpa using h3)
          (first | have b4 : (xv == u) = true := by simpa using h4 | have b4 : (xv == u) = false := by simpa using h4)
          clear hyes hnot h1 h2 h3 h4
          go_wp2_with fail
          go_ret
          exact ⟨by rw [HY.out]; rfl, (Below.refl _ w).alloc (Nat.le_refl _) _⟩)
       | (have HY := hnot (Bool.eq_false_iff.2 (by simp only [edgB, ne_eq, Bool.or_eq_true, Bool.and_eq_true, decide_eq_true_eq]; omega))
          (first | have b1 : (xu == u) = true := by simpa using h1 | have b1 : (xu == u) = false := by simpa using h1)
          (first | have b2 : (xv == v) = true := by simpa using h2 | have b2 : (xv == v) = false := by simpa using h2)
          (first | have b3 : (xu == v) = true := by simpa using h3 | have b3 : (xu == v) = false := by simpa using h3)
          (first | have b4 : (xv == u) = true := by simpa using h4 | have b4 : (xv == u) = false := by simpa using h4)
          clear hyes hnot h1 h2 h3 h4
          go_wp2_with fail
          go_round
          case rel => exact ⟨k + 1, by omega, by go_num, HY.out⟩
          case measure => simp [intOf]; omega)
   · have hkn : k = E.length := by omega
     subst hkn
     go_wp2_with fail
     go_ret
     refine ⟨?_, (Below.refl _ w).alloc (Nat.le_refl _) _⟩
     rw [idx_none fun j y hy => HNO.out j y (List.getElem?_eq_some_iff.1 hy).1 hy]
     rfl
set_option maxRecDepth 10000 in
theorem rwrong_any (e : Ed) (G : Gr) (vV vE : Value) (w : World) (hV : Rd vtxA 3 w.heap.size w vV G.V) (hE : Rd edgA 4 w.heap.size w vE G.E) (hlV : G.V.length ≤ 1000000) (hlE : G.E.length ≤ 1000000) :
   Calls Tryz.prog 168 #[.agg #[vV, vE], .agg (edC e)] w fun r w' => r = .returned (.int .i64 (G.rWrong e : Int)) ∧ Below w.heap.size w w' := by
 have HF := Lib.hid fun n W (hb : Below w.heap.size w W) => rfind_any G.V n vV vE W ((hV.below hb (Nat.le_refl _)).mono hb.size) (by obtain ⟨a, c, rfl⟩ := hE.sl; exact ⟨_, _, _, rfl⟩) hlV
 have HD := Lib.hid fun n m W (hb : Below w.heap.size w W) => redge_any G.E n m vV vE W ((hE.below hb (Nat.le_refl _)).mono hb.size) (by obtain ⟨a, c, rfl⟩ := hV.sl; exact ⟨_, _, _, rfl⟩) hlE
 have HP := Lib.hid fun W => rpair_any e W
 have HH := Lib.hid fun W => rheavy_any e W
 obtain ⟨aV, cV, rfl⟩ := hV.sl
 obtain ⟨aE, cE, rfl⟩ := hE.sl
 obtain ⟨LV, hLV⟩ : ∃ n, n = G.V.length := ⟨_, rfl⟩
 obtain ⟨LE, hLE⟩ : ∃ n, n = G.E.length := ⟨_, rfl⟩
 obtain ⟨P, hP⟩ : ∃ P, P = e.pairs := ⟨_, rfl⟩
 obtain ⟨Q, hQ⟩ : ∃ P, P = e.weighs := ⟨_, rfl⟩
 obtain ⟨fu, hfu⟩ : ∃ P, P = G.find e.u := ⟨_, rfl⟩
 obtain ⟨fv, hfv⟩ : ∃ P, P = G.find e.v := ⟨_, rfl⟩
 obtain ⟨ed, hed⟩ : ∃ P, P = G.edge e.u e.v := ⟨_, rfl⟩
 have hw : G.rWrong e = if e.op < 0 ∨ 7 < e.op then 11
   else if ((decide (e.u < 0) || decide (1023 < e.u)) || (P && (decide (e.v < 0) || decide (1023 < e.v)))) || (Q && (decide (e.wt < -1048576) || decide (1048576 < e.wt))) then 2
   else if P && decide (e.u = e.v) then 15
   else if e.op = 0 then (if 0 ≤ fu then 7 else 0)
   else if decide (fu < 0) || (decide (e.op = 2) && decide (fv < 0)) then 9
   else if e.op = 2 then (if 0 ≤ ed then 7 else if 1024 ≤ LE then 8 else 0)
   else if P && decide (ed < 0) then 9
   else 0 := by rw [hP, hQ, hfu, hfv, hed, hLE]; rfl
 have HFU := Lib.hid fun W hb => HF.out e.u W hb
 have HFV := Lib.hid fun W hb => HF.out e.v W hb
 have HDE := Lib.hid fun W hb => HD.out e.u e.v W hb
 rw [show idx (fun p => decide (p.1 = e.u)) G.V = fu from hfu.symm, ← hLV, ← hLE] at HFU
 rw [show idx (fun p => decide (p.1 = e.v)) G.V = fv from hfv.symm, ← hLV, ← hLE] at HFV
 rw [show idx (edgB e.u e.v) G.E = ed from hed.symm, ← hLV, ← hLE] at HDE
 rw [← hP] at HP
 rw [← hQ] at HH
 rw [← hLV, ← hLE]
 rw [← hLE] at hlE
 have hf0 : -1 ≤ fu := by rw [hfu]; exact idx_lo
 have hf1 : -1 ≤ fv := by rw [hfv]; exact idx_lo
 have hf2 : -1 ≤ ed := by rw [hed]; exact idx_lo
 have HW := Lib.hid hw
 clear hw HF HD hLV hLE hP hQ hfu hfv hed hV hE hlV
 obtain ⟨op, u, v, lab, wt⟩ := e
 rw [edC_lit] at HP HH ⊢
 simp only at HP HH HFU HFV HDE HW ⊢
 obtain ⟨B2, hB2⟩ : ∃ B, B = (((decide (u < 0) || decide (1023 < u)) || (P && (decide (v < 0) || decide (1023 < v)))) || (Q && (decide (wt < -1048576) || decide (1048576 < wt)))) := ⟨_, rfl⟩
 rw [← hB2] at HW
 have HQ2 := Lib.hid hB2
 clear hB2
 go_enter Tryz.func168, Tryz.ntmps168
 go_upto_region 1 with fail
 go_cut [12] from 5 to 12 (fun c wx => c = .bool (decide (op < 0 ∨ 7 < op)) ∧ Below w.heap.size w wx ∧ row? wx w.heap.size = some #[.slice aV LV cV, .slice aE LE cE] ∧ row? wx (w.heap.size + 1) = some #[.int .i64 op, .int .i64 u, .int .i64 v, .int .u8 (lab : Int), .int .i64 wt])
 case first =>
   by_cases h1 : op < 0
   · go_wp2_with fail
     go_meet
     case rel => exact ⟨by simp [h1], ((Below.refl _ w).alloc (Nat.le_refl _) _).alloc (by simp) _, (row?_alloc_past _ _ _ (by simp)).trans (row?_alloc_at _ _ _ _ rfl), row?_alloc_at _ _ _ _ (by simp)⟩
   · by_cases h2 : 7 < op
     · go_wp2_with fail
       go_meet
       case rel => exact ⟨by simp [h1, h2], ((Below.refl _ w).alloc (Nat.le_refl _) _).alloc (by simp) _, (row?_alloc_past _ _ _ (by simp)).trans (row?_alloc_at _ _ _ _ rfl), row?_alloc_at _ _ _ _ (by simp)⟩
     · go_wp2_with fail
       go_meet
       case rel => exact ⟨by simp [h1, h2], ((Below.refl _ w).alloc (Nat.le_refl _) _).alloc (by simp) _, (row?_alloc_past _ _ _ (by simp)).trans (row?_alloc_at _ _ _ _ rfl), row?_alloc_at _ _ _ _ (by simp)⟩
 case rest =>
   obtain ⟨hcc, hB, hr2, hr3⟩ := hcut
   have HB := Lib.hid hB
   have hsw := hB.size
   clear hB
   have hl3 := row?_lt hr3
   have k2a := cell?_row (i := 0) hr2
   have k2b := cell?_row (i := 1) hr2
   have k3a := cell?_row (i := 0) hr3
   have k3b := cell?_row (i := 1) hr3
   have k3c := cell?_row (i := 2) hr3
   have k3e := cell?_row (i := 4) hr3
   simp at k2a k2b k3a k3b k3c k3e
   by_cases c1 : (op < 0 ∨ 7 < op)
   · rw [decide_eq_true c1] at hcc
     subst hcc
     have C1 := Lib.hid c1
     clear c1
     go_wp2_with fail
     go_ret
     exact ⟨by rw [HW.out,  if_pos C1.out]; rfl, HB.out⟩
   rw [decide_eq_false c1] at hcc
   subst hcc
   have C1 := Lib.hid c1
   clear c1
   have hop0 : 0 ≤ op := by have := C1.out; omega
   have hop1 : op ≤ 7 := by have := C1.out; omega
   go_upto_region 3 with fail
   go_cut [48] from 13 to 48 (fun c wx => c = .bool B2 ∧ Below w.heap.size w wx ∧ row? wx w.heap.size = some #[.slice aV LV cV, .slice aE LE cE] ∧ row? wx (w.heap.size + 1) = some #[.int .i64 op, .int .i64 u, .int .i64 v, .int .u8 (lab : Int), .int .i64 wt])
   case first =>
     by_cases a1 : u < 0
     · go_wp2_with fail
       go_meet
       case rel => exact ⟨by rw [HQ2.out]; first | (simp [a1]; done) | (refine congrArg Value.bool ?_; rw [Bool.eq_iff_iff]; simp; omega) | (refine congrArg Value.bool ?_; rw [Bool.eq_iff_iff]; simp [a1]; omega), HB.out, hr2, hr3⟩
     · by_cases a2 : 1023 < u
       · go_wp2_with fail
         go_meet
         case rel => exact ⟨by rw [HQ2.out]; first | (simp [a1, a2]; done) | (refine congrArg Value.bool ?_; rw [Bool.eq_iff_iff]; simp; omega) | (refine congrArg Value.bool ?_; rw [Bool.eq_iff_iff]; simp [a1, a2]; omega), HB.out, hr2, hr3⟩
       · go_wp2_with fail
         refine (HP.out _).mono ?_
         rintro r w2 ⟨rfl, hb2⟩
         replace hr2 := (row?_below hb2 (by omega)).trans hr2
         replace hr3 := (row?_below hb2 hl3).trans hr3
         replace HB := Lib.hid (HB.out.trans (hb2.mono HB.out.size))
         replace hsw := HB.out.size
         clear hb2 k2a k2b k3a k3b k3c k3e hl3
         have hl3 := row?_lt hr3
         have k2a := cell?_row (i := 0) hr2
         have k2b := cell?_row (i := 1) hr2
         have k3a := cell?_row (i := 0) hr3
         have k3b := cell?_row (i := 1) hr3
         have k3c := cell?_row (i := 2) hr3
         have k3e := cell?_row (i := 4) hr3
         simp at k2a k2b k3a k3b k3c k3e
         cases P
         · go_wp2_with fail
           refine (HH.out _).mono ?_
           rintro r w3 ⟨rfl, hb3⟩
           replace hr2 := (row?_below hb3 (by omega)).trans hr2
           replace hr3 := (row?_below hb3 hl3).trans hr3
           replace HB := Lib.hid (HB.out.trans (hb3.mono HB.out.size))
           replace hsw := HB.out.size
           clear hb3 k2a k2b k3a k3b k3c k3e hl3
           have hl3 := row?_lt hr3
           have k2a := cell?_row (i := 0) hr2
           have k2b := cell?_row (i := 1) hr2
           have k3a := cell?_row (i := 0) hr3
           have k3b := cell?_row (i := 1) hr3
           have k3c := cell?_row (i := 2) hr3
           have k3e := cell?_row (i := 4) hr3
           simp at k2a k2b k3a k3b k3c k3e
           cases Q
           · go_wp2_with fail
             go_meet
             case rel => exact ⟨by rw [HQ2.out]; first | (simp [a1, a2]; done) | (refine congrArg Value.bool ?_; rw [Bool.eq_iff_iff]; simp; omega) | (refine congrArg Value.bool ?_; rw [Bool.eq_iff_iff]; simp [a1, a2]; omega), HB.out, hr2, hr3⟩
           · by_cases b1 : wt < -1048576
             · go_wp2_with fail
               go_meet
               case rel => exact ⟨by rw [HQ2.out]; first | (simp [a1, a2, b1]; done) | (refine congrArg Value.bool ?_; rw [Bool.eq_iff_iff]; simp; omega) | (refine congrArg Value.bool ?_; rw [Bool.eq_iff_iff]; simp [a1, a2, b1]; omega), HB.out, hr2, hr3⟩
             · by_cases b2 : 1048576 < wt
               · go_wp2_with fail
                 go_meet
                 case rel => exact ⟨by rw [HQ2.out]; first | (simp [a1, a2, b1, b2]; done) | (refine congrArg Value.bool ?_; rw [Bool.eq_iff_iff]; simp; omega) | (refine congrArg Value.bool ?_; rw [Bool.eq_iff_iff]; simp [a1, a2, b1, b2]; omega), HB.out, hr2, hr3⟩
               · go_wp2_with fail
                 go_meet
                 case rel => exact ⟨by rw [HQ2.out]; first | (simp [a1, a2, b1, b2]; done) | (refine congrArg Value.bool ?_; rw [Bool.eq_iff_iff]; simp; omega) | (refine congrArg Value.bool ?_; rw [Bool.eq_iff_iff]; simp [a1, a2, b1, b2]; omega), HB.out, hr2, hr3⟩
         · by_cases a3 : v < 0
           · go_wp2_with fail
             go_meet
             case rel => exact ⟨by rw [HQ2.out]; first | (simp [a1, a2, a3]; done) | (refine congrArg Value.bool ?_; rw [Bool.eq_iff_iff]; simp; omega) | (refine congrArg Value.bool ?_; rw [Bool.eq_iff_iff]; simp [a1, a2, a3]; omega), HB.out, hr2, hr3⟩
           · by_cases a4 : 1023 < v
             · go_wp2_with fail
               go_meet
               case rel => exact ⟨by rw [HQ2.out]; first | (simp [a1, a2, a3, a4]; done) | (refine congrArg Value.bool ?_; rw [Bool.eq_iff_iff]; simp; omega) | (refine congrArg Value.bool ?_; rw [Bool.eq_iff_iff]; simp [a1, a2, a3, a4]; omega), HB.out, hr2, hr3⟩
             · go_wp2_with fail
               refine (HH.out _).mono ?_
               rintro r w3 ⟨rfl, hb3⟩
               replace hr2 := (row?_below hb3 (by omega)).trans hr2
               replace hr3 := (row?_below hb3 hl3).trans hr3
               replace HB := Lib.hid (HB.out.trans (hb3.mono HB.out.size))
               replace hsw := HB.out.size
               clear hb3 k2a k2b k3a k3b k3c k3e hl3
               have hl3 := row?_lt hr3
               have k2a := cell?_row (i := 0) hr2
               have k2b := cell?_row (i := 1) hr2
               have k3a := cell?_row (i := 0) hr3
               have k3b := cell?_row (i := 1) hr3
               have k3c := cell?_row (i := 2) hr3
               have k3e := cell?_row (i := 4) hr3
               simp at k2a k2b k3a k3b k3c k3e
               cases Q
               · go_wp2_with fail
                 go_meet
                 case rel => exact ⟨by rw [HQ2.out]; first | (simp [a1, a2, a3, a4]; done) | (refine congrArg Value.bool ?_; rw [Bool.eq_iff_iff]; simp; omega) | (refine congrArg Value.bool ?_; rw [Bool.eq_iff_iff]; simp [a1, a2, a3, a4]; omega), HB.out, hr2, hr3⟩
               · by_cases b1 : wt < -1048576
                 · go_wp2_with fail
                   go_meet
                   case rel => exact ⟨by rw [HQ2.out]; first | (simp [a1, a2, a3, a4, b1]; done) | (refine congrArg Value.bool ?_; rw [Bool.eq_iff_iff]; simp; omega) | (refine congrArg Value.bool ?_; rw [Bool.eq_iff_iff]; simp [a1, a2, a3, a4, b1]; omega), HB.out, hr2, hr3⟩
                 · by_cases b2 : 1048576 < wt
                   · go_wp2_with fail
                     go_meet
                     case rel => exact ⟨by rw [HQ2.out]; first | (simp [a1, a2, a3, a4, b1, b2]; done) | (refine congrArg Value.bool ?_; rw [Bool.eq_iff_iff]; simp; omega) | (refine congrArg Value.bool ?_; rw [Bool.eq_iff_iff]; simp [a1, a2, a3, a4, b1, b2]; omega), HB.out, hr2, hr3⟩
                   · go_wp2_with fail
                     go_meet
                     case rel => exact ⟨by rw [HQ2.out]; first | (simp [a1, a2, a3, a4, b1, b2]; done) | (refine congrArg Value.bool ?_; rw [Bool.eq_iff_iff]; simp; omega) | (refine congrArg Value.bool ?_; rw [Bool.eq_iff_iff]; simp [a1, a2, a3, a4, b1, b2]; omega), HB.out, hr2, hr3⟩
   case rest =>
     clear hr2 hr3 k2a k2b k3a k3b k3c k3e hl3 HB hsw
     obtain ⟨hcc, hB, hr2, hr3⟩ := hcut
     have HB := Lib.hid hB
     have hsw := hB.size
     clear hB
     have hl3 := row?_lt hr3
     have k2a := cell?_row (i := 0) hr2
     have k2b := cell?_row (i := 1) hr2
     have k3a := cell?_row (i := 0) hr3
     have k3b := cell?_row (i := 1) hr3
     have k3c := cell?_row (i := 2) hr3
     have k3e := cell?_row (i := 4) hr3
     simp at k2a k2b k3a k3b k3c k3e
     cases B2 with
     | true =>
       subst hcc
       go_wp2_with fail
       go_ret
       exact ⟨by rw [HW.out, if_neg C1.out, if_pos trivial]; rfl, HB.out⟩
     | false =>
     subst hcc
     go_upto_region 5 with fail
     go_cut [57] from 49 to 57 (fun c wx => c = .bool (P && decide (u = v)) ∧ Below w.heap.size w wx ∧ row? wx w.heap.size = some #[.slice aV LV cV, .slice aE LE cE] ∧ row? wx (w.heap.size + 1) = some #[.int .i64 op, .int .i64 u, .int .i64 v, .int .u8 (lab : Int), .int .i64 wt])
     case first =>
       go_wp2_with fail
       refine (HP.out _).mono ?_
       rintro r w2 ⟨rfl, hb2⟩
       replace hr2 := (row?_below hb2 (by omega)).trans hr2
       replace hr3 := (row?_below hb2 hl3).trans hr3
       replace HB := Lib.hid (HB.out.trans (hb2.mono HB.out.size))
       replace hsw := HB.out.size
       clear hb2 k2a k2b k3a k3b k3c k3e hl3
       have hl3 := row?_lt hr3
       have k2a := cell?_row (i := 0) hr2
       have k2b := cell?_row (i := 1) hr2
       have k3a := cell?_row (i := 0) hr3
       have k3b := cell?_row (i := 1) hr3
       have k3c := cell?_row (i := 2) hr3
       have k3e := cell?_row (i := 4) hr3
       simp at k2a k2b k3a k3b k3c k3e
       cases P
       · go_wp2_with fail
         go_meet
         case rel => exact ⟨by simp, HB.out, hr2, hr3⟩
       · by_cases a1 : u = v
         · have A1 : (u == v) = true := by simpa using a1
           have A2 : decide (u = v) = true := by simpa using a1
           clear a1
           go_wp2_with fail
           go_meet
           case rel => exact ⟨by simp [A2], HB.out, hr2, hr3⟩
         · have A1 : (u == v) = false := by simpa using a1
           have A2 : decide (u = v) = false := by simpa using a1
           clear a1
           go_wp2_with fail
           go_meet
           case rel => exact ⟨by simp [A2], HB.out, hr2, hr3⟩
     case rest =>
       clear hr2 hr3 k2a k2b k3a k3b k3c k3e hl3 HB hsw
       obtain ⟨hcc, hB, hr2, hr3⟩ := hcut
       have HB := Lib.hid hB
       have hsw := hB.size
       clear hB
       have hl3 := row?_lt hr3
       have k2a := cell?_row (i := 0) hr2
       have k2b := cell?_row (i := 1) hr2
       have k3a := cell?_row (i := 0) hr3
       have k3b := cell?_row (i := 1) hr3
       have k3c := cell?_row (i := 2) hr3
       have k3e := cell?_row (i := 4) hr3
       simp at k2a k2b k3a k3b k3c k3e
       cases hb3 : (P && decide (u = v)) with
       | true =>
         rw [hb3] at hcc
         subst hcc
         have H3 := Lib.hid hb3
         clear hb3
         go_wp2_with fail
         go_ret
         exact ⟨by rw [HW.out, if_neg C1.out, if_neg Bool.false_ne_true, if_pos H3.out]; rfl, HB.out⟩
       | false =>
       rw [hb3] at hcc
       subst hcc
       have H3 : Hid (¬ (P && decide (u = v)) = true) := Lib.hid (by rw [hb3]; exact Bool.false_ne_true)
       clear hb3
       by_cases c4 : op = 0
       · have c4b : (op == 0) = true := by simpa using c4
         have C4 := Lib.hid c4
         clear c4
         go_wp2_with fail
         refine (HFU.out _ HB.out).mono ?_
         rintro r w2 ⟨rfl, hb2⟩
         replace hr2 := (row?_below hb2 (by omega)).trans hr2
         replace hr3 := (row?_below hb2 hl3).trans hr3
         replace HB := Lib.hid (HB.out.trans (hb2.mono HB.out.size))
         replace hsw := HB.out.size
         clear hb2 k2a k2b k3a k3b k3c k3e hl3
         have hl3 := row?_lt hr3
         have k2a := cell?_row (i := 0) hr2
         have k2b := cell?_row (i := 1) hr2
         have k3a := cell?_row (i := 0) hr3
         have k3b := cell?_row (i := 1) hr3
         have k3c := cell?_row (i := 2) hr3
         have k3e := cell?_row (i := 4) hr3
         simp at k2a k2b k3a k3b k3c k3e
         by_cases a1 : 0 ≤ fu
         · go_wp2_with fail
           go_ret
           exact ⟨by rw [HW.out, if_neg C1.out, if_neg Bool.false_ne_true, if_neg H3.out, if_pos C4.out, if_pos a1]; rfl, HB.out⟩
         · go_wp2_with fail
           go_ret
           exact ⟨by rw [HW.out, if_neg C1.out, if_neg Bool.false_ne_true, if_neg H3.out, if_pos C4.out, if_neg (by omega)]; rfl, HB.out⟩
       · have c4b : (op == 0) = false := by simpa using c4
         have C4 := Lib.hid c4
         clear c4
         go_upto_region 11 with fail
         go_cut [82] from 66 to 82 (fun c wx => c = .bool (decide (fu < 0) || (decide (op = 2) && decide (fv < 0))) ∧ Below w.heap.size w wx ∧ row? wx w.heap.size = some #[.slice aV LV cV, .slice aE LE cE] ∧ row? wx (w.heap.size + 1) = some #[.int .i64 op, .int .i64 u, .int .i64 v, .int .u8 (lab : Int), .int .i64 wt])
         case first =>
           go_wp2_with fail
           refine (HFU.out _ HB.out).mono ?_
           rintro r w2 ⟨rfl, hb2⟩
           replace hr2 := (row?_below hb2 (by omega)).trans hr2
           replace hr3 := (row?_below hb2 hl3).trans hr3
           replace HB := Lib.hid (HB.out.trans (hb2.mono HB.out.size))
           replace hsw := HB.out.size
           clear hb2 k2a k2b k3a k3b k3c k3e hl3
           have hl3 := row?_lt hr3
           have k2a := cell?_row (i := 0) hr2
           have k2b := cell?_row (i := 1) hr2
           have k3a := cell?_row (i := 0) hr3
           have k3b := cell?_row (i := 1) hr3
           have k3c := cell?_row (i := 2) hr3
           have k3e := cell?_row (i := 4) hr3
           simp at k2a k2b k3a k3b k3c k3e
           by_cases a1 : fu < 0
           · go_wp2_with fail
             go_meet
             case rel => exact ⟨by simp [a1], HB.out, hr2, hr3⟩
           · by_cases a2 : op = 2
             · have A2 : (op == 2) = true := by simpa using a2
               have A3 : decide (op = 2) = true := by simpa using a2
               clear a2
               go_wp2_with fail
               refine (HFV.out _ HB.out).mono ?_
               rintro r w3 ⟨rfl, hb3⟩
               replace hr2 := (row?_below hb3 (by omega)).trans hr2
               replace hr3 := (row?_below hb3 hl3).trans hr3
               replace HB := Lib.hid (HB.out.trans (hb3.mono HB.out.size))
               replace hsw := HB.out.size
               clear hb3 k2a k2b k3a k3b k3c k3e hl3
               have hl3 := row?_lt hr3
               have k2a := cell?_row (i := 0) hr2
               have k2b := cell?_row (i := 1) hr2
               have k3a := cell?_row (i := 0) hr3
               have k3b := cell?_row (i := 1) hr3
               have k3c := cell?_row (i := 2) hr3
               have k3e := cell?_row (i := 4) hr3
               simp at k2a k2b k3a k3b k3c k3e
               by_cases a4 : fv < 0
               · go_wp2_with fail
                 go_meet
                 case rel => exact ⟨by simp [a1, A3, a4], HB.out, hr2, hr3⟩
               · go_wp2_with fail
                 go_meet
                 case rel => exact ⟨by simp [a1, A3, a4], HB.out, hr2, hr3⟩
             · have A2 : (op == 2) = false := by simpa using a2
               have A3 : decide (op = 2) = false := by simpa using a2
               clear a2
               go_wp2_with fail
               go_meet
               case rel => exact ⟨by simp [a1, A3], HB.out, hr2, hr3⟩
         case rest =>
           clear hr2 hr3 k2a k2b k3a k3b k3c k3e hl3 HB hsw
           obtain ⟨hcc, hB, hr2, hr3⟩ := hcut
           have HB := Lib.hid hB
           have hsw := hB.size
           clear hB
           have hl3 := row?_lt hr3
           have k2a := cell?_row (i := 0) hr2
           have k2b := cell?_row (i := 1) hr2
           have k3a := cell?_row (i := 0) hr3
           have k3b := cell?_row (i := 1) hr3
           have k3c := cell?_row (i := 2) hr3
           have k3e := cell?_row (i := 4) hr3
           simp at k2a k2b k3a k3b k3c k3e
           cases hb5 : (decide (fu < 0) || (decide (op = 2) && decide (fv < 0))) with
           | true =>
             rw [hb5] at hcc
             subst hcc
             have H5 := Lib.hid hb5
             clear hb5
             go_wp2_with fail
             go_ret
             exact ⟨by rw [HW.out, if_neg C1.out, if_neg Bool.false_ne_true, if_neg H3.out, if_neg C4.out, if_pos H5.out]; rfl, HB.out⟩
           | false =>
           rw [hb5] at hcc
           subst hcc
           have H5 : Hid (¬ (decide (fu < 0) || (decide (op = 2) && decide (fv < 0))) = true) := Lib.hid (by rw [hb5]; exact Bool.false_ne_true)
           clear hb5
           by_cases c6 : op = 2
           · have c6b : (op == 2) = true := by simpa using c6
             have C6 := Lib.hid c6
             clear c6
             go_wp2_with fail
             refine (HDE.out _ HB.out).mono ?_
             rintro r w2 ⟨rfl, hb2⟩
             replace hr2 := (row?_below hb2 (by omega)).trans hr2
             replace hr3 := (row?_below hb2 hl3).trans hr3
             replace HB := Lib.hid (HB.out.trans (hb2.mono HB.out.size))
             replace hsw := HB.out.size
             clear hb2 k2a k2b k3a k3b k3c k3e hl3
             have hl3 := row?_lt hr3
             have k2a := cell?_row (i := 0) hr2
             have k2b := cell?_row (i := 1) hr2
             have k3a := cell?_row (i := 0) hr3
             have k3b := cell?_row (i := 1) hr3
             have k3c := cell?_row (i := 2) hr3
             have k3e := cell?_row (i := 4) hr3
             simp at k2a k2b k3a k3b k3c k3e
             by_cases a1 : 0 ≤ ed
             · go_wp2_with fail
               go_ret
               exact ⟨by rw [HW.out, if_neg C1.out, if_neg Bool.false_ne_true, if_neg H3.out, if_neg C4.out, if_neg H5.out, if_pos C6.out, if_pos a1]; rfl, HB.out⟩
             · by_cases a2 : 1024 ≤ LE
               · have a2z : (1024 : Int) ≤ (LE : Int) := by omega
                 go_wp2_with fail
                 go_ret
                 exact ⟨by rw [HW.out, if_neg C1.out, if_neg Bool.false_ne_true, if_neg H3.out, if_neg C4.out, if_neg H5.out, if_pos C6.out, if_neg (by omega), if_pos a2]; rfl, HB.out⟩
               · have a2z : ¬ (1024 : Int) ≤ (LE : Int) := by omega
                 go_wp2_with fail
                 go_ret
                 exact ⟨by rw [HW.out, if_neg C1.out, if_neg Bool.false_ne_true, if_neg H3.out, if_neg C4.out, if_neg H5.out, if_pos C6.out, if_neg (by omega), if_neg (by omega)]; rfl, HB.out⟩
           · have c6b : (op == 2) = false := by simpa using c6
             have C6 := Lib.hid c6
             clear c6
             go_wp2_with fail
             refine (HP.out _).mono ?_
             rintro r w2 ⟨rfl, hb2⟩
             replace hr2 := (row?_below hb2 (by omega)).trans hr2
             replace hr3 := (row?_below hb2 hl3).trans hr3
             replace HB := Lib.hid (HB.out.trans (hb2.mono HB.out.size))
             replace hsw := HB.out.size
             clear hb2 k2a k2b k3a k3b k3c k3e hl3
             have hl3 := row?_lt hr3
             have k2a := cell?_row (i := 0) hr2
             have k2b := cell?_row (i := 1) hr2
             have k3a := cell?_row (i := 0) hr3
             have k3b := cell?_row (i := 1) hr3
             have k3c := cell?_row (i := 2) hr3
             have k3e := cell?_row (i := 4) hr3
             simp at k2a k2b k3a k3b k3c k3e
             cases P
             · go_wp2_with fail
               go_ret
               exact ⟨by rw [HW.out, if_neg C1.out, if_neg Bool.false_ne_true, if_neg H3.out, if_neg C4.out, if_neg H5.out, if_neg C6.out, if_neg (by simp)]; rfl, HB.out⟩
             · go_wp2_with fail
               refine (HDE.out _ HB.out).mono ?_
               rintro r w3 ⟨rfl, hb3⟩
               replace hr2 := (row?_below hb3 (by omega)).trans hr2
               replace hr3 := (row?_below hb3 hl3).trans hr3
               replace HB := Lib.hid (HB.out.trans (hb3.mono HB.out.size))
               replace hsw := HB.out.size
               clear hb3 k2a k2b k3a k3b k3c k3e hl3
               have hl3 := row?_lt hr3
               have k2a := cell?_row (i := 0) hr2
               have k2b := cell?_row (i := 1) hr2
               have k3a := cell?_row (i := 0) hr3
               have k3b := cell?_row (i := 1) hr3
               have k3c := cell?_row (i := 2) hr3
               have k3e := cell?_row (i := 4) hr3
               simp at k2a k2b k3a k3b k3c k3e
               by_cases a1 : ed < 0
               · go_wp2_with fail
                 go_ret
                 exact ⟨by rw [HW.out, if_neg C1.out, if_neg Bool.false_ne_true, if_neg H3.out, if_neg C4.out, if_neg H5.out, if_neg C6.out, if_pos (by simp [a1])]; rfl, HB.out⟩
               · go_wp2_with fail
                 go_ret
                 exact ⟨by rw [HW.out, if_neg C1.out, if_neg Bool.false_ne_true, if_neg H3.out, if_neg C4.out, if_neg H5.out, if_neg C6.out, if_neg (by simp; omega)]; rfl, HB.out⟩
end Go.Proofs.YtglnhnjmelilmaaGreatDoor
