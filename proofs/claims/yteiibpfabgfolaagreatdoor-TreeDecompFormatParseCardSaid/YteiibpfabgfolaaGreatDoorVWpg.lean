/- Walk of the reference of trees of bags: reading a tree. The walk of the statement .. -/
import Derived.Test.YteiibpfabgfolaaGreatDoorVWPF
import Derived.Test.YteiibpfabgfolaaGreatDoorVRef3
import Derived.Test.YteiibpfabgfolaaGreatDoorVWpb
import Derived.Test.YteiibpfabgfolaaGreatDoorVWpd
import Derived.Test.YteiibpfabgfolaaGreatDoorVGU
import Derived.Test.YteiibpfabgfolaaGreatDoorVEq
import Derived.Test.YteiibpfabgfolaaGreatDoorVVd
set_option maxHeartbeats 8000000
set_option maxRecDepth 10000
set_option linter.all false
namespace Go.Pal
open Go Go.RowKit
theorem treeR_at {s : List UInt8} {p q n : Nat} {acc : List Bg} (hpq : p ≤ q) (hq : s[q]? = some 10) (h : ∀ x ∈ (s.drop p).take (q - p), x ≠ 10) : treeR (n + 1) (s.drop p) acc = match bagR ((s.drop p).take (q - p)) with | none => none | some b => treeR n (s.drop (q + 1)) (acc ++ [b]) := by
 have hql := (List.getElem?_eq_some_iff.1 hq).1
 have e : s.drop p = (s.drop p).take (q - p) ++ 10 :: s.drop (q + 1) := by
   have h1 := drop_head hq
   have h2 : (s.drop p).drop (q - p) = s.drop q := by rw [List.drop_drop]; congr 1; omega
   calc s.drop p = (s.drop p).take (q - p) ++ (s.drop p).drop (q - p) := (List.take_append_drop _ _).symm
     _ = _ := by rw [h2, h1]
 have hc : Lib.cut (s.drop p) [10] = ((s.drop p).take (q - p), s.drop (q + 1), true) := by
   have h2 : Lib.cut ((s.drop p).take (q - p) ++ 10 :: s.drop (q + 1)) [10] = ((s.drop p).take (q - p), s.drop (q + 1), true) := cut1_at h
   rw [← e] at h2
   exact h2
 have hne : s.drop p ≠ [] := by
   intro h0
   have := congrArg List.length h0
   rw [List.length_drop] at this
   simp at this
   omega
 rw [treeR_succ, if_neg hne, hc, if_pos rfl]
 rfl
theorem treeR_no {s : List UInt8} {p n : Nat} {acc : List Bg} (hp : p < s.length) (h : ∀ x ∈ (s.drop p).take (s.length - p), x ≠ 10) : treeR (n + 1) (s.drop p) acc = none := by
 have hne : s.drop p ≠ [] := by
   intro h0
   have := congrArg List.length h0
   rw [List.length_drop] at this
   simp at this
   omega
 have hc : Lib.cut (s.drop p) [10] = (s.drop p, [], false) := cut1_no fun x hx => h x (by rw [List.take_of_length_le (by rw [List.length_drop]; exact Nat.le_refl _)]; exact hx)
 rw [treeR_succ, if_neg hne, hc, if_neg (by simp)]
theorem treeR_end {s : List UInt8} {n : Nat} {acc : List Bg} : treeR (n + 1) (s.drop s.length) acc = some acc := by
 rw [treeR_succ, List.drop_length, if_pos rfl]
end Go.Pal
namespace Go.Proofs.YteiibpfabgfolaaGreatDoor
open Go Go.RowKit Go.Pal Go.Shelf
attribute [local go_sem] Oper.semAt_some str_get str_part
theorem rtparse_any (s : List UInt8) (hs : s.length ≤ 60000) (w : World) :
   Calls Tryz.prog 11 #[.string ⟨s.toArray⟩] w fun e w' => ∃ v, e = .returned (.tuple #[v, .int .i64 (treeP s).2]) ∧ RefT w' v (treeP s).1 ∧ Below w.heap.size w w' := by
 obtain ⟨X, hX⟩ : ∃ X, X = treeP s := ⟨_, rfl⟩
 obtain ⟨R, hR⟩ : ∃ R, R = treeR (s.length + 1) s [] := ⟨_, rfl⟩
 have HX := Lib.hid (show (R = none → X = ([], 3)) ∧ (∀ T, R = some T → rCheckN T = 0 → X = (T, 0)) ∧ (∀ T, R = some T → rCheckN T ≠ 0 → X = ([], rCheckN T)) from by
   rw [hX, hR]
   unfold treeP
   exact ⟨fun h => by rw [h], fun T h h0 => by rw [h]; exact if_pos h0, fun T h h0 => by rw [h]; exact if_neg h0⟩)
 have HOk := Lib.hid (show ∀ T, R = some T → ∀ x ∈ T, BagOk x from by
   rw [hR]
   intro T h
   obtain ⟨M, e1, -, e3⟩ := treeR_inv _ _ _ _ h
   rw [List.nil_append] at e1
   rw [e1]
   exact e3)
 rw [← hX]
 have HR := Lib.hid hR
 clear hX hR
 go_enter Tryz.func11, Tryz.ntmps11
 go_wp2_with fail
 go_loopw [4, 5] (fun v at_ wr => ∃ (p : Nat) (acc : List Bg) (n : Nat), p ≤ s.length ∧ at_ = .int .i64 (p : Int) ∧ (∃ L, OwnRB w.heap.size wr v L ∧ Built (fun k => some k ≠ v.ownBlock) wr L acc) ∧ acc.length ≤ p ∧ s.length - p < n + 1 ∧ R = treeR (n + 1) (s.drop p) acc ∧ Below w.heap.size w wr) (fun _ at_ _ => s.length + 1 - (intOf at_).toNat)
 case atStart => exact ⟨0, [], s.length, by omega, rfl, ⟨[], World.ownsRow_nil _ _ _ _, rfl, fun i x y hx => by simp at hx⟩, by simp, by omega, HR.out, Below.refl _ _⟩
 case round =>
   clear HR
   obtain ⟨p, acc, n, hp, rfl, ⟨L, hO, hBu⟩, hal, hn, hr, hb⟩ := hrel
   have hsz := hb.size
   have HO := Lib.hid hO
   have HBu := Lib.hid hBu
   have HB := Lib.hid hb
   have HRt := Lib.hid hr
   have hll := hBu.1
   obtain ⟨ao, co, rfl⟩ := hO.sl
   rw [hll] at HO HBu ⊢
   have HLL := Lib.hid hll
   clear hO hBu hb hr hll
   rename World => wr
   by_cases hlt : p < s.length
   · go_wp2_with fail
     go_loopw [6] (fun en wq => ∃ q : Nat, en = .int .i64 (q : Int) ∧ p ≤ q ∧ q ≤ s.length ∧ Hid (∀ x ∈ (s.drop p).take (q - p), x ≠ 10) ∧ wq = wr) (fun en _ => s.length + 1 - (intOf en).toNat)
     case atStart => exact ⟨p, rfl, Nat.le_refl _, by omega, Lib.hid (by simp), rfl⟩
     case round =>
       obtain ⟨q, rfl, hpq, hq, HNo, rfl⟩ := hrel
       by_cases hql : q < s.length
       · obtain ⟨x, hx⟩ : ∃ x, s[q]? = some x := ⟨_, List.getElem?_eq_getElem hql⟩
         obtain ⟨hk2, hx2⟩ := List.getElem?_eq_some_iff.1 hx
         by_cases hx10 : x = 10
         · subst hx10
           have HRc := Lib.hid (HRt.out.trans (treeR_at hpq hx HNo.out))
           obtain ⟨line, hline⟩ : ∃ l, l = (s.drop p).take (q - p) := ⟨_, rfl⟩
           have HLi := Lib.hid hline
           rw [← hline] at HRc
           have HLn := Lib.hid (rline_any line (by rw [hline, List.length_take, List.length_drop]; omega) wr)
           clear hx hline
           go_wp2_with fail
           rw [← HLi.out]
           refine HLn.out.mono ?_
           rintro e w2 ⟨hres, hb2⟩
           have HB2 := Lib.hid (HB.out.trans (hb2.mono hsz))
           have hs2 := hb2.size
           have HO2 := Lib.hid (HO.out.below hb2 (Nat.le_refl _))
           have HA2 := Lib.hid (HBu.out.keep (A' := fun k => some k ≠ (Value.slice ao acc.length co).ownBlock) hs2 fun k hk hA => ⟨hb2.block k hk, hA⟩)
           clear hb2 HLn
           rcases hres with ⟨pu, S, q1, n1, c1, hbr, hS, rfl, hO1⟩ | ⟨pu, q1, n1, c1, hbr, rfl⟩
           · have HRn := Lib.hid (show R = treeR n (s.drop (q + 1)) (acc ++ [(pu, S)]) from by rw [HRc.out, hbr])
             have HS := Lib.hid hS
             have HO1 := Lib.hid hO1
             obtain ⟨n', rfl⟩ : ∃ m, n = m + 1 := ⟨n - 1, by omega⟩
             have HB3 := Lib.hid (HB2.out.alloc HB2.out.size (.cells #[.int .i64 pu, .slice q1 n1 c1] 60))
             clear hbr hS hO1
             go_wp2_with (first | (at_builtin; refine wpList_appRB rfl _ _ rfl w.heap.size _ L rfl ((HO2.out.alloc _).alloc _) _ pu q1 n1 c1 _ rfl (row?_alloc_at _ _ _ _ (by simp)) (by rw [HLL.out]; omega) (by first | omega | (simp; omega)) ?_))
             intro v4 w4 hO4 hg4 hv4 hb4
             have hu3 := HO2.out.lt
             have hrl := row?_lt (show row? (w2.alloc (.cells #[.int .i64 pu, .slice q1 n1 c1] 60)) w2.heap.size = some _ from row?_alloc_at _ _ _ _ rfl)
             have hA4 : Built (fun k => some k ≠ v4.ownBlock) w4 (L ++ [(pu, .slice q1 n1 c1)]) (acc ++ [(pu, S)]) := by
               have step : ∀ j, j < w2.heap.size → some j ≠ (Value.slice ao acc.length co).ownBlock → w4.heap[j]? = w2.heap[j]? ∧ some j ≠ v4.ownBlock := fun j hj hA => by
                 refine ⟨(hg4.block j (by simp; omega) hA).trans (((Below.heap_alloc _ _ j (by simp; omega))).trans (Below.heap_alloc _ _ j hj)), ?_⟩
                 rcases hv4 with e | e
                 · rw [e]; exact hA
                 · rw [e]; simp; omega
               have hsz4 : w2.heap.size ≤ w4.heap.size := by have := hb4.size; simp at this; omega
               refine (HA2.out.keep hsz4 step).snoc (HO1.out.rda.keep hsz4 fun j hj hA => step j hj ?_) HS.out
               intro e
               have := HO.out.lt j e.symm
               have : wr.heap.size ≤ j := hA
               omega
             have HO4 := Lib.hid hO4
             have HA4 := Lib.hid hA4
             have HB4 := Lib.hid ((HB3.out.alloc (by have := HB3.out.size; exact this) _).trans hb4)
             clear hO4 hA4 hg4 hv4 hb4 hu3 hrl
             go_wp2_with fail
             go_roundw
             case rel => exact ⟨q + 1, _, n', by omega, by go_num, ⟨_, HO4.out, HA4.out⟩, by simp; omega, by omega, HRn.out, HB4.out⟩
             case measure => simp [intOf]; omega
           · have HXe := Lib.hid (HX.out.1 (by rw [HRc.out, hbr]))
             clear hbr
             go_wp2_with fail
             go_ret2
             exact ⟨_, by rw [HXe.out]; rfl, by rw [HXe.out]; exact ⟨none, 0, rfl, .inl rfl⟩, HB2.out.alloc HB2.out.size _⟩
         · have HNx := Lib.hid (show ∀ y ∈ (s.drop p).take (q + 1 - p), y ≠ 10 from by
             rw [take_more hpq hx]
             intro y hy
             rcases List.mem_append.1 hy with hy | hy
             · exact HNo.out y hy
             · rw [List.mem_singleton.1 hy]; exact hx10)
           have hx3 : ¬ x.toNat = 10 := fun h => hx10 (UInt8.toNat_inj.1 h)
           have hx4 : ((x.toNat : Int) != 10) = true := by simp; omega
           clear hx hx10
           go_wp2_with fail
           go_roundw
           case rel => exact ⟨q + 1, by go_num, by omega, by omega, HNx, by first | trivial | rfl⟩
           case measure => simp [intOf]; omega
       · have hqn : q = s.length := by omega
         have HXe := Lib.hid (HX.out.1 (HRt.out.trans (treeR_no hlt (by rw [hqn] at HNo; exact HNo.out))))
         subst hqn
         go_wp2_with fail
         go_ret2
         exact ⟨_, by rw [HXe.out]; rfl, by rw [HXe.out]; exact ⟨none, 0, rfl, .inl rfl⟩, HB.out⟩
   · have hpn : p = s.length := by omega
     have HRe := Lib.hid (show R = some acc from by
       have h := HRt.out
       rw [hpn, treeR_end] at h
       exact h)
     have hRT := Built.ref HO.out HBu.out
     have hpr := HOk.out acc HRe.out
     have HRT := Lib.hid hRT
     have HCk := Lib.hid (rcheck_any acc _ wr HRT.out (by omega) fun x hx => by have := (hpr x hx).2; omega)
     subst hpn
     clear hpr hRT HO
     by_cases h0 : rCheckN acc = 0
     · have HXe := Lib.hid (HX.out.2.1 acc HRe.out h0)
       rw [h0] at HCk
       go_wp2_with fail
       refine HCk.out.mono ?_
       rintro e w2 ⟨rfl, hb2⟩
       have HB2 := Lib.hid (HB.out.trans (hb2.mono hsz))
       have HT2 := Lib.hid (HRT.out.below hb2)
       clear hb2
       go_wp2_with fail
       go_ret2
       exact ⟨_, by rw [HXe.out]; rfl, by rw [HXe.out]; exact HT2.out, HB2.out⟩
     · have HXe := Lib.hid (HX.out.2.2 acc HRe.out h0)
       obtain ⟨C, hC⟩ : ∃ C, C = rCheckN acc := ⟨_, rfl⟩
       rw [← hC] at HCk HXe h0
       have hc1 : (C != 0) = true := by simpa using h0
       clear hC
       go_wp2_with fail
       refine HCk.out.mono ?_
       rintro e w2 ⟨rfl, hb2⟩
       have HB2 := Lib.hid (HB.out.trans (hb2.mono hsz))
       clear hb2
       go_wp2_with fail
       go_ret2
       exact ⟨_, by rw [HXe.out]; rfl, by rw [HXe.out]; exact ⟨none, 0, rfl, .inl rfl⟩, HB2.out⟩
end Go.Proofs.YteiibpfabgfolaaGreatDoor
namespace Go.Proofs.YteiibpfabgfolaaGreatDoor
open Go Go.RowKit Go.Pal Go.Shelf
attribute [local go_sem] Oper.semAt_some
theorem fpLaw_any (T : List Bg) (hSet : ∀ x ∈ T, IsSet x.2) (hPr : ∀ x ∈ T, -9223372036854775808 ≤ x.1 ∧ x.1 ≤ 9223372036854775807) (s : List UInt8) (vt : Value) (w : World)
   (ht : Rd bagA 17 w.heap.size w vt T) (htl : T.length ≤ 9223372036854775807) (hT : Tab3 w) (hE : Errs w) (hM : Mxl w) :
   Calls Tryz.prog 3 #[vt, .string ⟨s.toArray⟩] w fun e w' => e = .returned (.bool true) ∧ Below w.heap.size w w' := by
 have HK := Lib.hid fun W (h : Below w.heap.size w W) => known26_any W (Tab2.on hT.1 h)
 have HT := Lib.hid fun W (h : Below w.heap.size w W) => (Tab2.on hT.1 h)
 have HP := Lib.hid fun W (h : Below w.heap.size w W) => hT.2.on h
 have HE := Lib.hid fun W (h : Below w.heap.size w W) => hE.on h
 have HM := Lib.hid fun W (h : Below w.heap.size w W) => hM.on h
 have HV := Lib.hid ht
 have HSet := Lib.hid hSet
 have HPr := Lib.hid hPr
 obtain ⟨a, c, rfl⟩ := ht.sl
 clear ht hSet hPr hT hE hM
 go_enter Tryz.func3, Tryz.ntmps3
 go_wp2_with fail
 refine (HK.out w (Below.refl _ _)).mono ?_
 rintro r w1 ⟨rfl, hb1⟩
 have HB1 := Lib.hid hb1
 clear hb1
 by_cases h30 : T.length ≤ 30
 · have hd30 : decide ((30 : Int) < (T.length : Int)) = false := by simp; omega
   have hd31 : decide (30 < T.length) = false := by simp; omega
   have hd32 : ¬ (30 : Int) < (T.length : Int) := by omega
   by_cases h20 : s.length ≤ 2000
   · have hd20 : decide ((2000 : Int) < (s.length : Int)) = false := by simp; omega
     have hd21 : decide (2000 < s.length) = false := by simp; omega
     have hd22 : ¬ (2000 : Int) < (s.length : Int) := by omega
     have HFm := Lib.hid fun W (h : Below w.heap.size w W) => tformat_any T HSet.out (by omega) _ W ((HV.out.below h (Nat.le_refl _)).mono h.size) (HP.out W h) (HT.out W h).1 (HT.out W h).2
     have HCk := Lib.hid fun v W (h : RefT W v T) => rcheck_any T v W h (by omega) HPr.out
     by_cases hR : rCheckN T = 0
     · have hok := bagOk_of hR HSet.out
       have hlW := treeW_le hok
       have hl2 : T.length * 5300 ≤ 30 * 5300 := Nat.mul_le_mul_right _ h30
       have HPa := Lib.hid fun W (h : Below w.heap.size w W) => tparse_any (treeW T) (by omega) (fun T' h => by
         have h2 := treeR_text T [] _ hok (Nat.lt_succ_self _)
         have h3 := h.symm.trans h2
         rw [List.nil_append] at h3
         cases h3
         omega) W (HP.out W h) (HE.out W h) (HM.out W h)
       rw [treeP_text hR HSet.out] at HPa
       have HTx := Lib.hid fun v W (h : RefT W v T) => rttext_any T hok (by omega) v W h
       rw [if_pos hR, hR] at HFm
       rw [hR] at HCk
       obtain ⟨Z, hZ⟩ : ∃ Z, Z = treeW T := ⟨_, rfl⟩
       rw [← hZ] at HPa HTx HFm
       clear hok hlW hl2 hZ hR
       go_wp2_with fail
       have HV1 := Lib.hid ((HV.out.below HB1.out (Nat.le_refl _)).mono HB1.out.size)
       refine (l26To_any T _ w1 HV1.out (by omega) HSet.out).mono ?_
       clear hd30 hd31 hd32 hd20 hd21 hd22
       rintro r w2 ⟨v2, rfl, hv2, hb2⟩
       have HB2 := Lib.hid (HB1.out.trans (hb2.mono HB1.out.size))
       have HX2 := Lib.hid hv2
       have HV2 := Lib.hid ((HV1.out.below hb2 (Nat.le_refl _)).mono hb2.size)
       obtain ⟨a2, c2, rfl, -⟩ := hv2
       clear hb2
       go_wp2_with fail
       refine (HFm.out w2 HB2.out).mono ?_
       rintro r w3 ⟨rfl, hb3⟩
       have HB3 := Lib.hid (HB2.out.trans (hb3.mono HB2.out.size))
       have HX3 := Lib.hid (HX2.out.below hb3)
       have HV3 := Lib.hid ((HV2.out.below hb3 (Nat.le_refl _)).mono hb3.size)
       clear hb3
       go_wp2_with fail
       refine (HCk.out _ w3 HX3.out).mono ?_
       rintro r w4 ⟨rfl, hb4⟩
       have HB4 := Lib.hid (HB3.out.trans (hb4.mono HB3.out.size))
       have HX4 := Lib.hid (HX3.out.below hb4)
       have HV4 := Lib.hid ((HV3.out.below hb4 (Nat.le_refl _)).mono hb4.size)
       clear hb4
       go_wp2_with fail
       refine (HPa.out w4 HB4.out).mono ?_
       rintro r w5 ⟨v5, rfl, hO5, hb5⟩
       have HB5 := Lib.hid (HB4.out.trans (hb5.mono HB4.out.size))
       have HX5 := Lib.hid (HX4.out.below hb5)
       have HV5 := Lib.hid ((HV4.out.below hb5 (Nat.le_refl _)).mono hb5.size)
       have HO5 := Lib.hid hO5
       obtain ⟨q5, c5, rfl⟩ := hO5.sl
       clear hb5 hO5
       go_wp2_with fail
       refine (HTx.out _ w5 HX5.out).mono ?_
       rintro r w6 ⟨rfl, hb6⟩
       have HB6 := Lib.hid (HB5.out.trans (hb6.mono HB5.out.size))
       have HV6 := Lib.hid ((HV5.out.below hb6 (Nat.le_refl _)).mono hb6.size)
       have HO6 := Lib.hid (HO5.out.below hb6 (Nat.le_refl _))
       clear hb6
       go_wp2_with fail
       refine (tdEqual_any T T HSet.out HSet.out _ _ w6 (HO6.out.rd elB) HV6.out (by omega) (by omega)).mono ?_
       rintro r w7 ⟨rfl, hb7⟩
       have HB7 := Lib.hid (HB6.out.trans (hb7.mono HB6.out.size))
       rw [decide_eq_true rfl]
       clear hb7
       go_wp2_with fail
       refine (tparse_any s (by omega) (fun T' h => by have := treeR_len h; omega) w7 (HP.out w7 HB7.out) (HE.out w7 HB7.out) (HM.out w7 HB7.out)).mono ?_
       rintro e w8 ⟨v8, rfl, hO8, hb8⟩
       have HB8 := Lib.hid ((HB7.out).trans (hb8.mono (HB7.out).size))
       have HUp := Lib.hid (treeP_up s)
       have HRp := Lib.hid (fun W => rtparse_any s (by omega) W)
       obtain ⟨Y, hY⟩ : ∃ Y, Y = treeP s := ⟨_, rfl⟩
       rw [← hY] at hO8 HUp HRp ⊢
       obtain ⟨T2, E⟩ := Y
       simp only at hO8 HUp HRp ⊢
       have HO8 := Lib.hid hO8
       have h2l : T2.length * 4 ≤ s.length := HUp.out.2.2.2
       obtain ⟨q8, c8, rfl⟩ := hO8.sl
       clear hb8 hO8 hY
       go_wp2_with fail
       refine (HRp.out w8).mono ?_
       rintro e w9 ⟨v9, rfl, hR9, hb9⟩
       have HB9 := Lib.hid (HB8.out.trans (hb9.mono HB8.out.size))
       have HO9 := Lib.hid (HO8.out.below hb9 (Nat.le_refl _))
       have HR9 := Lib.hid hR9
       obtain ⟨q9, c9, rfl, -⟩ := hR9
       clear hb9
       have hS2 : ∀ x ∈ T2, IsSet x.2 := fun x hx => (HUp.out.1 x hx).1
       have HS2 := Lib.hid hS2
       clear hS2
       go_wp2_with fail
       refine (l26To_any T2 _ w9 (HO9.out.rd elB) (by omega) HS2.out).mono ?_
       rintro e w10 ⟨v10, rfl, hR10, hb10⟩
       have HB10 := Lib.hid (HB9.out.trans (hb10.mono HB9.out.size))
       have HO10 := Lib.hid (HO9.out.below hb10 (Nat.le_refl _))
       have HR10 := Lib.hid hR10
       have HR9b := Lib.hid (HR9.out.below hb10)
       obtain ⟨q10, c10, rfl, -⟩ := hR10
       clear hb10
       go_wp2_with fail
       refine (r26same_any T2 T2 _ _ w10 HR10.out HR9b.out (by omega) (by omega)).mono ?_
       rintro e w11 ⟨rfl, hb11⟩
       have HB11 := Lib.hid (HB10.out.trans (hb11.mono HB10.out.size))
       have HO11 := Lib.hid (HO10.out.below hb11 (Nat.le_refl _))
       rw [decide_eq_true rfl]
       clear hb11
       by_cases hE0 : E = 0
       · subst hE0
         obtain ⟨hc2, ht2⟩ := HUp.out.2.1 rfl
         have HF := Lib.hid (tformat_any T2 HS2.out (by omega) _ w11 (HO11.out.rd elB) (HP.out w11 HB11.out) (HT.out w11 HB11.out).1 (HT.out w11 HB11.out).2)
         rw [if_pos hc2, hc2, ht2] at HF
         clear hc2 ht2
         go_wp2_with fail
         refine HF.out.mono ?_
         rintro e w12 ⟨rfl, hb12⟩
         have HB12 := Lib.hid (HB11.out.trans (hb12.mono HB11.out.size))
         clear hb12
         go_wp2_with fail
         go_ret
         exact ⟨rfl, HB12.out⟩
       · have hE1 : (E != 0) = true := by simpa using hE0
         go_wp2_with fail
         go_ret
         exact ⟨rfl, HB11.out⟩
     · rw [if_neg hR] at HFm
       obtain ⟨R, hRR⟩ : ∃ R, R = rCheckN T := ⟨_, rfl⟩
       rw [← hRR] at hR HFm HCk
       have hR1 : (R != 0) = true := by simpa using hR
       clear hRR
       go_wp2_with fail
       have HV1 := Lib.hid ((HV.out.below HB1.out (Nat.le_refl _)).mono HB1.out.size)
       refine (l26To_any T _ w1 HV1.out (by omega) HSet.out).mono ?_
       clear hd30 hd31 hd32 hd20 hd21 hd22
       rintro r w2 ⟨v2, rfl, hv2, hb2⟩
       have HB2 := Lib.hid (HB1.out.trans (hb2.mono HB1.out.size))
       have HX2 := Lib.hid hv2
       have HV2 := Lib.hid ((HV1.out.below hb2 (Nat.le_refl _)).mono hb2.size)
       obtain ⟨a2, c2, rfl, -⟩ := hv2
       clear hb2
       go_wp2_with fail
       refine (HFm.out w2 HB2.out).mono ?_
       rintro r w3 ⟨rfl, hb3⟩
       have HB3 := Lib.hid (HB2.out.trans (hb3.mono HB2.out.size))
       have HX3 := Lib.hid (HX2.out.below hb3)
       have HV3 := Lib.hid ((HV2.out.below hb3 (Nat.le_refl _)).mono hb3.size)
       clear hb3
       go_wp2_with fail
       refine (HCk.out _ w3 HX3.out).mono ?_
       rintro r w4 ⟨rfl, hb4⟩
       have HB4 := Lib.hid (HB3.out.trans (hb4.mono HB3.out.size))
       have HX4 := Lib.hid (HX3.out.below hb4)
       have HV4 := Lib.hid ((HV3.out.below hb4 (Nat.le_refl _)).mono hb4.size)
       clear hb4
       go_wp2_with fail
       refine (tparse_any s (by omega) (fun T' h => by have := treeR_len h; omega) w4 (HP.out w4 HB4.out) (HE.out w4 HB4.out) (HM.out w4 HB4.out)).mono ?_
       rintro e w8 ⟨v8, rfl, hO8, hb8⟩
       have HB8 := Lib.hid ((HB4.out).trans (hb8.mono (HB4.out).size))
       have HUp := Lib.hid (treeP_up s)
       have HRp := Lib.hid (fun W => rtparse_any s (by omega) W)
       obtain ⟨Y, hY⟩ : ∃ Y, Y = treeP s := ⟨_, rfl⟩
       rw [← hY] at hO8 HUp HRp ⊢
       obtain ⟨T2, E⟩ := Y
       simp only at hO8 HUp HRp ⊢
       have HO8 := Lib.hid hO8
       have h2l : T2.length * 4 ≤ s.length := HUp.out.2.2.2
       obtain ⟨q8, c8, rfl⟩ := hO8.sl
       clear hb8 hO8 hY
       go_wp2_with fail
       refine (HRp.out w8).mono ?_
       rintro e w9 ⟨v9, rfl, hR9, hb9⟩
       have HB9 := Lib.hid (HB8.out.trans (hb9.mono HB8.out.size))
       have HO9 := Lib.hid (HO8.out.below hb9 (Nat.le_refl _))
       have HR9 := Lib.hid hR9
       obtain ⟨q9, c9, rfl, -⟩ := hR9
       clear hb9
       have hS2 : ∀ x ∈ T2, IsSet x.2 := fun x hx => (HUp.out.1 x hx).1
       have HS2 := Lib.hid hS2
       clear hS2
       go_wp2_with fail
       refine (l26To_any T2 _ w9 (HO9.out.rd elB) (by omega) HS2.out).mono ?_
       rintro e w10 ⟨v10, rfl, hR10, hb10⟩
       have HB10 := Lib.hid (HB9.out.trans (hb10.mono HB9.out.size))
       have HO10 := Lib.hid (HO9.out.below hb10 (Nat.le_refl _))
       have HR10 := Lib.hid hR10
       have HR9b := Lib.hid (HR9.out.below hb10)
       obtain ⟨q10, c10, rfl, -⟩ := hR10
       clear hb10
       go_wp2_with fail
       refine (r26same_any T2 T2 _ _ w10 HR10.out HR9b.out (by omega) (by omega)).mono ?_
       rintro e w11 ⟨rfl, hb11⟩
       have HB11 := Lib.hid (HB10.out.trans (hb11.mono HB10.out.size))
       have HO11 := Lib.hid (HO10.out.below hb11 (Nat.le_refl _))
       rw [decide_eq_true rfl]
       clear hb11
       by_cases hE0 : E = 0
       · subst hE0
         obtain ⟨hc2, ht2⟩ := HUp.out.2.1 rfl
         have HF := Lib.hid (tformat_any T2 HS2.out (by omega) _ w11 (HO11.out.rd elB) (HP.out w11 HB11.out) (HT.out w11 HB11.out).1 (HT.out w11 HB11.out).2)
         rw [if_pos hc2, hc2, ht2] at HF
         clear hc2 ht2
         go_wp2_with fail
         refine HF.out.mono ?_
         rintro e w12 ⟨rfl, hb12⟩
         have HB12 := Lib.hid (HB11.out.trans (hb12.mono HB11.out.size))
         clear hb12
         go_wp2_with fail
         go_ret
         exact ⟨rfl, HB12.out⟩
       · have hE1 : (E != 0) = true := by simpa using hE0
         go_wp2_with fail
         go_ret
         exact ⟨rfl, HB11.out⟩
   · have hd20 : decide ((2000 : Int) < (s.length : Int)) = true := by simp; omega
     have hd21 : decide (2000 < s.length) = true := by simp; omega
     have hd22 : (2000 : Int) < (s.length : Int) := by omega
     go_wp2_with fail
     refine (HK.out _ HB1.out).mono ?_
     rintro r w3 ⟨rfl, hb3⟩
     have HB3 := Lib.hid (HB1.out.trans (hb3.mono HB1.out.size))
     clear hb3
     go_wp2_with fail
     go_ret
     exact ⟨rfl, HB3.out⟩
 · have hd30 : decide ((30 : Int) < (T.length : Int)) = true := by simp; omega
   have hd31 : decide (30 < T.length) = true := by simp; omega
   have hd32 : (30 : Int) < (T.length : Int) := by omega
   go_wp2_with fail
   refine (HK.out _ HB1.out).mono ?_
   rintro r w3 ⟨rfl, hb3⟩
   have HB3 := Lib.hid (HB1.out.trans (hb3.mono HB1.out.size))
   clear hb3
   go_wp2_with fail
   go_ret
   exact ⟨rfl, HB3.out⟩
end Go.Proofs.YteiibpfabgfolaaGreatDoor
