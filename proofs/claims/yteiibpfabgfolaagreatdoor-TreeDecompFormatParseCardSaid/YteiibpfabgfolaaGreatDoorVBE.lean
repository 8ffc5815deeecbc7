/- Walk: the reference's reading of a set. -/
import Derived.Test.YteiibpfabgfolaaGreatDoorVWpd
import Derived.Test.YteiibpfabgfolaaGreatDoorVWw
set_option linter.all false
namespace Go.Pal
open Go Go.RowKit
theorem drop_head {s : List UInt8} {q : Nat} {x : UInt8} (h : s[q]? = some x) : s.drop q = x :: s.drop (q + 1) := by
 obtain ⟨h1, h2⟩ := List.getElem?_eq_some_iff.1 h
 rw [← h2]
 exact List.drop_eq_getElem_cons h1
theorem digs_at {s : List UInt8} {p q : Nat} (hpq : p ≤ q) (hq : q ≤ s.length) (hD : ∀ x ∈ (s.drop p).take (q - p), isDig x) (hst : ∀ x, s[q]? = some x → ¬ isDig x) : digs (s.drop p) = (s.drop p).take (q - p) ∧ (digs (s.drop p)).length = q - p ∧ (s.drop p).drop (digs (s.drop p)).length = s.drop q := by
 have h1 := digs_stop (s := s.drop p) (k := q - p) hD fun x hx => by
   rw [List.getElem?_drop, show p + (q - p) = q by omega] at hx
   exact hst x hx
 have h2 : (digs (s.drop p)).length = q - p := by rw [h1, List.length_take, List.length_drop]; omega
 refine ⟨h1, h2, ?_⟩
 rw [h2, List.drop_drop]
 congr 1
 omega
theorem take_more {s : List UInt8} {p q : Nat} (hpq : p ≤ q) {x : UInt8} (h : s[q]? = some x) : (s.drop p).take (q + 1 - p) = (s.drop p).take (q - p) ++ [x] := by
 have h1 : (s.drop p)[q - p]? = some x := by rw [List.getElem?_drop, show p + (q - p) = q by omega]; exact h
 rw [show q + 1 - p = (q - p) + 1 by omega, List.take_add_one, h1]
 rfl
end Go.Pal
namespace Go.Proofs.YteiibpfabgfolaaGreatDoor
open Go Go.RowKit Go.Pal Go.Shelf
attribute [local go_sem] Oper.semAt_some str_get str_part
set_option maxRecDepth 10000 in
set_option maxHeartbeats 8000000 in
theorem rparse01_any (s : List UInt8) (hs : s.length ≤ 100000) (w : World) :
   Calls Tryz.prog 66 #[.string ⟨s.toArray⟩] w fun e w' => ∃ v, e = .returned (.tuple #[v, .int .i64 ((readSet s).2 : Nat)]) ∧ OwnI w.heap.size w' v ((readSet s).1.map fun (k : Nat) => (k : Int)) ∧ Below w.heap.size w w' := by
 obtain ⟨X, hX⟩ : ∃ X, X = readSet s := ⟨_, rfl⟩
 have HX := Lib.hid hX
 rw [← hX]
 have HEM := Lib.hid (fun (W : World) (hW : Below w.heap.size w W) => show OwnI w.heap.size (W.alloc (.cells #[] 3)) (.slice (some ⟨W.heap.size, 0, none⟩) 0 0) [] ∧ Below w.heap.size w (W.alloc (.cells #[] 3)) from ⟨OwnI.empty hW.size, hW.alloc hW.size _⟩)
 clear hX
 go_enter Tryz.func66, Tryz.ntmps66
 by_cases hs0 : s.length = 0
 · obtain rfl : s = [] := List.length_eq_zero_iff.1 hs0
   have HXe := Lib.hid (show X = ([], 3) from by rw [HX.out]; rfl)
   go_wp2_with fail
   go_ret2
   obtain ⟨h1, h2⟩ := HEM.out w (Below.refl _ _)
   exact ⟨_, by rw [HXe.out]; rfl, by rw [HXe.out]; exact h1, h2⟩
 · obtain ⟨c, hcx⟩ : ∃ c, s[0]? = some c := ⟨_, List.getElem?_eq_getElem (by omega)⟩
   have hcon : s = c :: s.drop 1 := by
     have := drop_head hcx
     rwa [List.drop_zero] at this
   have HCon := Lib.hid hcon
   obtain ⟨hk2, hx2⟩ := List.getElem?_eq_some_iff.1 hcx
   have hs1 : ((s.length : Int) == 0) = false := beq_false_of_ne (by omega)
   have hs2 : ¬ (s.length : Int) = 0 := by omega
   clear hcx hcon
   by_cases hc : c.toNat = 123
   · have hc2 : ((c.toNat : Int) != 123) = false := by simp; omega
     obtain rfl : c = 123 := UInt8.toNat_inj.1 hc
     by_cases he : s = [123, 125]
     · have HXe := Lib.hid (show X = ([], 0) from by rw [HX.out]; unfold readSet; rw [if_pos he])
       subst he
       go_wp2_with fail
       go_ret2
       obtain ⟨h1, h2⟩ := HEM.out w (Below.refl _ _)
       exact ⟨_, by rw [HXe.out]; rfl, by rw [HXe.out]; exact h1, h2⟩
     · have HXe := Lib.hid (show X = readS s.length (s.drop 1) [] from by
         rw [HX.out]
         unfold readSet
         have e : cutB 123 s = (s.drop 1, true) := by rw [HCon.out, cutB_cons, if_pos rfl]; rfl
         rw [if_neg he, e, if_pos rfl])
       by_cases h2 : s.length = 2
       · obtain ⟨d, hdx⟩ : ∃ d, s[1]? = some d := ⟨_, List.getElem?_eq_getElem (by omega)⟩
         have hd : ¬ d.toNat = 125 := by
           intro h
           apply he
           have h3 : s.drop 1 = d :: s.drop 2 := drop_head hdx
           rw [HCon.out, h3, List.drop_eq_nil_of_le (by omega)]
           congr 2
           exact UInt8.toNat_inj.1 h
         obtain ⟨hk3, hx3⟩ := List.getElem?_eq_some_iff.1 hdx
         have hd2 : ((d.toNat : Int) == 125) = false := beq_false_of_ne (by omega)
         have hl2 : ((s.length : Int) == 2) = true := by rw [h2]; rfl
         have HL2 := Lib.hid h2
         clear he h2 hdx hd
         go_wp2_with fail
         obtain ⟨W0, hW0⟩ : ∃ W0, W0 = w.alloc (.cells #[] 3) := ⟨_, rfl⟩
         have HO0 := Lib.hid (show OwnI w.heap.size W0 (.slice (some ⟨w.heap.size, 0, none⟩) 0 0) [] from by rw [hW0]; exact (HEM.out w (Below.refl _ _)).1)
         have HB0 := Lib.hid (show Below w.heap.size w W0 from by rw [hW0]; exact (HEM.out w (Below.refl _ _)).2)
         rw [← hW0]
         clear hW0
         go_loopw [4, 5] (fun ov at_ wr => ∃ (l : List Nat) (p : Nat), at_ = .int .i64 (p : Int) ∧ p ≤ s.length ∧ OwnI w.heap.size wr ov (l.map fun (k : Nat) => (k : Int)) ∧ Below w.heap.size w wr ∧ l.length ≤ p ∧ ∃ n, X = readS (n + 1) (s.drop p) l ∧ s.length - p < n + 1) (fun _ at_ _ => s.length + 1 - (intOf at_).toNat)
         case atStart => exact ⟨[], 1, rfl, by omega, HO0.out, HB0.out, by simp, s.length - 1, by rw [HXe.out]; congr 1; omega, by omega⟩
         case round =>
           obtain ⟨l, p, rfl, hp, hO, hb, hlp, n, hx, hn⟩ := hrel
           have HO := Lib.hid hO
           have HB := Lib.hid hb
           have HXn := Lib.hid (hx.trans (readS_succ n (s.drop p) l))
           rename World => Wo
           clear hO hb hx
           go_wp2_with fail
           go_loopw [5, 7] (fun at_ nv wr => ∃ q : Nat, at_ = .int .i64 (q : Int) ∧ p ≤ q ∧ q ≤ s.length ∧ (∀ x ∈ (s.drop p).take (q - p), isDig x) ∧ nv = .int .i64 (dcap ((s.drop p).take (q - p)) : Nat) ∧ wr = Wo) (fun at_ _ _ => s.length + 1 - (intOf at_).toNat)
           case atStart => exact ⟨p, rfl, Nat.le_refl _, hp, by simp, by rw [Nat.sub_self, List.take_zero]; rfl, rfl⟩
           case round =>
             obtain ⟨q, rfl, hpq, hq, hD, rfl, rfl⟩ := hrel
             have HD := Lib.hid hD
             have hcl := dcap_le ((s.drop p).take (q - p))
             obtain ⟨m, hm⟩ : ∃ m, m = dcap ((s.drop p).take (q - p)) := ⟨_, rfl⟩
             have HM := Lib.hid hm
             rw [← hm] at hcl ⊢
             clear hD hm
             by_cases hlt : q < s.length
             · obtain ⟨x, hx⟩ : ∃ x, s[q]? = some x := ⟨_, List.getElem?_eq_getElem hlt⟩
               have HXq := Lib.hid hx
               obtain ⟨hk4, hx4⟩ := List.getElem?_eq_some_iff.1 hx
               have hqi : (q : Int) < (s.length : Int) := by omega
               have hql : decide ((q : Int) < (s.length : Int)) = true := decide_eq_true hqi
               clear hx
               by_cases hd : isDig x
               · have d1 : decide ((48 : Int) ≤ (x.toNat : Int)) = true := decide_eq_true (by have := hd.1; omega)
                 have d2 : decide ((x.toNat : Int) ≤ 57) = true := decide_eq_true (by have := hd.2; omega)
                 have d3 : (48 : Int) ≤ (x.toNat : Int) := by have := hd.1; omega
                 have d4 : (x.toNat : Int) ≤ 57 := by have := hd.2; omega
                 have HT := Lib.hid (take_more hpq HXq.out)
                 have hxl : x.toNat < 256 := x.toNat_lt
                 by_cases h5 : m < 100000
                 · have d5 : decide ((m : Int) < 100000) = true := decide_eq_true (by omega)
                   have d6 : (m : Int) < 100000 := by omega
                   go_wp2_with fail
                   go_roundw
                   case rel =>
                     refine ⟨q + 1, by go_num, by omega, by omega, ?_, ?_, by first | trivial | rfl⟩
                     · intro y hy
                       rw [HT.out, List.mem_append, List.mem_singleton] at hy
                       rcases hy with hy | rfl
                       · exact HD.out y hy
                       · exact hd
                     · rw [HT.out, dcap_snoc, ← HM.out, if_pos h5]
                       refine congrArg (Value.int .i64) ?_
                       have h48 := hd.1
                       clear HD HM HT HXq HX HXn HO HB HEM
                       omega
                   case measure => simp [intOf]; omega
                 · have d5 : decide ((m : Int) < 100000) = false := decide_eq_false (by omega)
                   have d6 : ¬ (m : Int) < 100000 := by omega
                   go_wp2_with fail
                   go_roundw
                   case rel =>
                     refine ⟨q + 1, by go_num, by omega, by omega, ?_, ?_, by first | trivial | rfl⟩
                     · intro y hy
                       rw [HT.out, List.mem_append, List.mem_singleton] at hy
                       rcases hy with hy | rfl
                       · exact HD.out y hy
                       · exact hd
                     · rw [HT.out, dcap_snoc, ← HM.out, if_neg h5]
                   case measure => simp [intOf]; omega
               · have HST := Lib.hid (show ∀ y, s[q]? = some y → ¬ isDig y from fun y hy => by rw [HXq.out] at hy; cases hy; exact hd)
                 by_cases d0 : x.toNat < 48
                 · have d1 : decide ((48 : Int) ≤ (x.toNat : Int)) = false := decide_eq_false (by omega)
                   have d3 : ¬ (48 : Int) ≤ (x.toNat : Int) := by omega
                   obtain ⟨g1, g2, g3⟩ := digs_at hpq hq HD.out HST.out
                   obtain ⟨d, hd0⟩ : ∃ d, d = digs (s.drop p) := ⟨_, rfl⟩
                   have HDd := Lib.hid hd0
                   have hdl : d.length = q - p := by rw [hd0]; exact g2
                   have HDt := Lib.hid (show d = (s.drop p).take (q - p) from hd0.trans g1)
                   have HDig := Lib.hid fun c (hc : c ∈ d) => digs_mem (s := s.drop p) (by rw [← HDd.out]; exact hc)
                   have HMd := Lib.hid (show m = dcap d from by rw [HM.out, HDt.out])
                   have HXs := Lib.hid (show X = if (snum (s.drop p)).2 ≠ 0 then ([], (snum (s.drop p)).2) else if ((snum (s.drop p)).1 : Int) ≤ lastI l then ([], 3) else if s.drop q = [125] then (l ++ [(snum (s.drop p)).1], 0) else if (cutB 32 (s.drop q)).2 = true then readS n (cutB 32 (s.drop q)).1 (l ++ [(snum (s.drop p)).1]) else ([], 3) from by rw [← g3]; exact HXn.out)
                   have HBad := Lib.hid (show badDig d = true → X = ([], 3) from fun h => by rw [HXs.out, snum_none (by rw [← HDd.out]; exact h), if_pos (by decide)])
                   have HBig := Lib.hid (show badDig d = false → 1023 < m → X = ([], 2) from fun h h2 => by
                     have h3 : 1023 < dval 0 d := by have := dcap_dval d; rw [← HMd.out] at this; omega
                     rw [HXs.out, snum_big (by rw [← HDd.out]; exact h) (by rw [← HDd.out]; exact h3), if_pos (by decide)])
                   have HGood := Lib.hid (show badDig d = false → m ≤ 1023 → X = if (m : Int) ≤ lastI l then ([], 3) else if s.drop q = [125] then (l ++ [m], 0) else if (cutB 32 (s.drop q)).2 = true then readS n (cutB 32 (s.drop q)).1 (l ++ [m]) else ([], 3) from fun h h2 => by
                     have h3 : dval 0 d = m := by have := dcap_dval d; rw [← HMd.out] at this; omega
                     rw [HXs.out, snum_ok (by rw [← HDd.out]; exact h) (by rw [← HDd.out]; omega), if_neg (fun h => h rfl), ← HDd.out, h3])
                   clear g1 g2 g3 hd0
                   by_cases hj : p = q
                   · have HXe2 := Lib.hid (HBad.out (by rw [List.length_eq_zero_iff.1 (by omega : d.length = 0)]; rfl))
                     have e1 : ((q : Int) == (p : Int)) = true := by rw [beq_iff_eq]; omega
                     have e2 : (q : Int) = (p : Int) := by omega
                     subst hj
                     go_wp2_with fail
                     go_ret2
                     obtain ⟨h1, h2⟩ := HEM.out _ HB.out
                     exact ⟨_, by rw [HXe2.out]; rfl, by rw [HXe2.out]; exact h1, h2⟩
                   · have e1 : ((q : Int) == (p : Int)) = false := beq_false_of_ne (by omega)
                     have e2 : ¬ (q : Int) = (p : Int) := by omega
                     obtain ⟨c0, hc0⟩ : ∃ c0, s[p]? = some c0 := ⟨_, List.getElem?_eq_getElem (by omega)⟩
                     obtain ⟨hk5, hx5⟩ := List.getElem?_eq_some_iff.1 hc0
                     have hh : d.head? = some c0 := by
                       rw [HDt.out, drop_head hc0]
                       obtain ⟨j, hj2⟩ : ∃ j, q - p = j + 1 := ⟨q - p - 1, by omega⟩
                       rw [hj2]
                       rfl
                     have hbd : badDig d = (decide (p + 1 < q) && decide (c0 = 48)) := by
                       unfold badDig
                       have hne : d.isEmpty = false := by
                         cases d with
                         | nil => simp at hh
                         | cons _ _ => rfl
                       rw [hne, Bool.false_or, hh, hdl]
                       congr 1
                       · exact decide_eq_decide.2 (by omega)
                       · exact decide_eq_decide.2 ⟨fun h => Option.some.inj h, fun h => by rw [h]⟩
                     clear hc0 hh
                     by_cases z : c0.toNat = 48
                     · have z1 : ((c0.toNat : Int) == 48) = true := by rw [z]; rfl
                       have zc : c0 = 48 := UInt8.toNat_inj.1 z
                       by_cases z2 : p + 1 < q
                       · have HXe2 := Lib.hid (HBad.out (by rw [hbd, decide_eq_true z2, decide_eq_true zc]; rfl))
                         have z3 : (p : Int) + 1 < (q : Int) := by omega
                         have z4 : decide ((p : Int) + 1 < (q : Int)) = true := decide_eq_true z3
                         clear hbd zc
                         go_wp2_with fail
                         go_ret2
                         obtain ⟨h1, h2⟩ := HEM.out _ HB.out
                         exact ⟨_, by rw [HXe2.out]; rfl, by rw [HXe2.out]; exact h1, h2⟩
                       · have hnb : badDig d = false := by rw [hbd, decide_eq_false z2]; rfl
                         have HNb := Lib.hid hnb
                         have z3 : ¬ (p : Int) + 1 < (q : Int) := by omega
                         have z4 : decide ((p : Int) + 1 < (q : Int)) = false := decide_eq_false z3
                         clear hbd zc hnb
                         by_cases hbig : 1023 < m
                         · have HXe2 := Lib.hid (HBig.out HNb.out hbig)
                           have b1 : (1023 : Int) < (m : Int) := by omega
                           have b2 : decide ((1023 : Int) < (m : Int)) = true := decide_eq_true b1
                           go_wp2_with fail
                           go_ret2
                           obtain ⟨h1, h2⟩ := HEM.out _ HB.out
                           exact ⟨_, by rw [HXe2.out]; rfl, by rw [HXe2.out]; exact h1, h2⟩
                         · have HXg := Lib.hid (HGood.out HNb.out (by omega))
                           have b1 : ¬ (1023 : Int) < (m : Int) := by omega
                           have b2 : decide ((1023 : Int) < (m : Int)) = false := decide_eq_false b1
                           obtain ⟨qo, co, hsl⟩ := HO.out.sl
                           subst hsl
                           obtain ⟨L, hL⟩ : ∃ L, L = l.map fun (k : Nat) => (k : Int) := ⟨_, rfl⟩
                           have hLl : L.length = l.length := by rw [hL, List.length_map]
                           have HL := Lib.hid hL
                           obtain ⟨LL, hLL⟩ : ∃ n, n = L.length := ⟨_, rfl⟩
                           have hLLl : LL = l.length := hLL.trans hLl
                           have HLLl := Lib.hid hLLl
                           have HLL := Lib.hid hLL
                           have hLp : LL ≤ p := by omega
                           have hHO := HO.out
                           rw [← hL, ← hLL] at hHO
                           have HOL := Lib.hid hHO
                           rw [← hL, ← hLL]
                           have HLM := Lib.hid (show (l ++ [m]).map (fun (k : Nat) => (k : Int)) = L ++ [(m : Int)] from by rw [List.map_append, hL]; rfl)
                           have hl1 : l.length ≤ p := hlp
                           clear hL hLl hLL hLLl hHO HO
                           by_cases hl0 : l = []
                           · have HXt := Lib.hid (HXg.out.trans (if_neg (by rw [hl0, lastI_nil]; omega)))
                             have hL0 : L = [] := by rw [HL.out, hl0]; rfl
                             have hz0 : LL = 0 := by rw [HLL.out, hL0]; rfl
                             subst hz0
                             subst hL0
                             have hLlen : (([] : List Int)).length ≤ 100000 := by first | (rw [← HLL.out]; omega) | simp
                             go_wp2_with (at_builtin; refine wpList_appT rfl 57 undR _ _ rfl (w.heap.size) _ ([] : List Int) rfl (HOL.out.alloc _) _ (m : Int) _ rfl (by simp [go_sem]) (by first | omega | (simp; omega)) (by have := HB.out.size; simp; omega) ?_)
                             intro v' w2 hO2 hb2
                             have HO2 := Lib.hid hO2
                             have HB2 := Lib.hid ((HB.out.alloc HB.out.size _).trans hb2)
                             obtain ⟨qo2, co2, hsl2⟩ := hO2.sl
                             subst hsl2
                             clear hO2 hb2
                             by_cases x32 : x.toNat = 32
                             · have y1 : ((x.toNat : Int) == 32) = true := by rw [x32]; rfl
                               have hx32 : x = 32 := UInt8.toNat_inj.1 x32
                               have HXe3 := Lib.hid (show X = readS n (s.drop (q + 1)) (l ++ [m]) from by
                                 rw [HXt.out, drop_head HXq.out, hx32, if_neg (by simp), cutB_cons, if_pos rfl, if_pos rfl])
                               obtain ⟨n', hn'⟩ : ∃ n', n = n' + 1 := ⟨n - 1, by omega⟩
                               go_wp2_with fail
                               go_roundw
                               case rel => exact ⟨l ++ [m], q + 1, by go_num, by omega, by rw [HLM.out]; exact HO2.out, HB2.out, by rw [List.length_append, List.length_singleton]; omega, n', by rw [HXe3.out, hn'], by omega⟩
                               case measure => simp [intOf]; omega
                             · have y1 : ((x.toNat : Int) == 32) = false := beq_false_of_ne (by omega)
                               by_cases hend : q + 1 = s.length
                               · have y2 : ((q : Int) == (s.length : Int) - 1) = true := by rw [beq_iff_eq]; omega
                                 have y3 : decide ((q : Int) = (s.length : Int) - 1) = true := decide_eq_true (by omega)
                                 by_cases x125 : x.toNat = 125
                                 · have y4 : ((x.toNat : Int) == 125) = true := by rw [x125]; rfl
                                   have hx125 : x = 125 := UInt8.toNat_inj.1 x125
                                   have HXe3 := Lib.hid (show X = (l ++ [m], 0) from by
                                     rw [HXt.out, drop_head HXq.out, hx125, List.drop_eq_nil_of_le (by omega), if_pos rfl])
                                   go_wp2_with fail
                                   all_goals (go_ret2; exact ⟨_, by rw [HXe3.out]; rfl, by rw [HXe3.out]; show OwnI _ _ _ ((l ++ [m]).map _); rw [HLM.out]; exact HO2.out, HB2.out⟩)
                                 · have y4 : ((x.toNat : Int) == 125) = false := beq_false_of_ne (by omega)
                                   have HXe3 := Lib.hid (show X = ([], 3) from by
                                     have h1 : ¬ x = 125 := fun e => x125 (by rw [e]; rfl)
                                     have h2 : ¬ x = 32 := fun e => x32 (by rw [e]; rfl)
                                     rw [HXt.out, drop_head HXq.out, if_neg (fun e => h1 (List.cons.inj e).1), cutB_cons, if_neg h2, if_neg (by simp)])
                                   go_wp2_with fail
                                   all_goals (go_ret2; exact ⟨_, by rw [HXe3.out]; rfl, by rw [HXe3.out]; exact (HEM.out _ HB2.out).1, (HEM.out _ HB2.out).2⟩)
                               · have y2 : ((q : Int) == (s.length : Int) - 1) = false := beq_false_of_ne (by omega)
                                 have y3 : ¬ (q : Int) = (s.length : Int) - 1 := by omega
                                 have HXe3 := Lib.hid (show X = ([], 3) from by
                                   have h2 : ¬ x = 32 := fun e => x32 (by rw [e]; rfl)
                                   rw [HXt.out, drop_head HXq.out, if_neg (fun e => by
                                     have h3 := congrArg List.length (List.cons.inj e).2
                                     rw [List.length_drop] at h3
                                     simp at h3
                                     omega), cutB_cons, if_neg h2, if_neg (by simp)])
                                 go_wp2_with fail
                                 all_goals (go_ret2; exact ⟨_, by rw [HXe3.out]; rfl, by rw [HXe3.out]; exact (HEM.out _ HB2.out).1, (HEM.out _ HB2.out).2⟩)
                           · obtain ⟨k, hk1, hk2⟩ := lastI_getLast hl0
                             have hlp0 : 0 < l.length := List.length_pos_iff.2 hl0
                             obtain ⟨L1, rfl⟩ : ∃ L1, LL = L1 + 1 := ⟨LL - 1, by have := HLLl.out; omega⟩
                             have hL1 : l.length - 1 = L1 := by have := HLLl.out; omega
                             obtain ⟨gb, goff, gc, zz, h1, hzz, hcell⟩ := HOL.out.rdl.at (k := L1) (by rw [← HLL.out]; omega)
                             simp only [Value.slice.injEq] at h1
                             obtain ⟨rfl, -, rfl⟩ := h1
                             obtain rfl : zz = (k : Int) := by
                               rw [HL.out, List.getElem?_map, ← hL1, hk1] at hzz
                               exact (Option.some.inj hzz).symm
                             have cc := hcell wr (Below.refl _ _)
                             by_cases hmk : m ≤ k
                             · have HXe2 := Lib.hid (HXg.out.trans (if_pos (by rw [hk2]; omega)))
                               have m1 : (m : Int) ≤ (k : Int) := by omega
                               have m2 : decide ((m : Int) ≤ (k : Int)) = true := decide_eq_true m1
                               clear hzz hcell hk1 hk2 hL1
                               go_wp2_with fail
                               go_ret2
                               obtain ⟨h1, h2⟩ := HEM.out _ HB.out
                               exact ⟨_, by rw [HXe2.out]; rfl, by rw [HXe2.out]; exact h1, h2⟩
                             · have HXt := Lib.hid (HXg.out.trans (if_neg (by rw [hk2]; omega)))
                               have m1 : ¬ (m : Int) ≤ (k : Int) := by omega
                               have m2 : decide ((m : Int) ≤ (k : Int)) = false := decide_eq_false m1
                               clear hzz hcell hk1 hk2 hL1
                               have hLlen : (L).length ≤ 100000 := by first | (rw [← HLL.out]; omega) | simp
                               go_wp2_with (at_builtin; refine wpList_appT rfl 57 undR _ _ rfl (w.heap.size) _ L rfl (HOL.out.alloc _) _ (m : Int) _ rfl (by simp [go_sem]) (by first | omega | (simp; omega)) (by have := HB.out.size; simp; omega) ?_)
                               intro v' w2 hO2 hb2
                               have HO2 := Lib.hid hO2
                               have HB2 := Lib.hid ((HB.out.alloc HB.out.size _).trans hb2)
                               obtain ⟨qo2, co2, hsl2⟩ := hO2.sl
                               subst hsl2
                               clear hO2 hb2
                               by_cases x32 : x.toNat = 32
                               · have y1 : ((x.toNat : Int) == 32) = true := by rw [x32]; rfl
                                 have hx32 : x = 32 := UInt8.toNat_inj.1 x32
                                 have HXe3 := Lib.hid (show X = readS n (s.drop (q + 1)) (l ++ [m]) from by
                                   rw [HXt.out, drop_head HXq.out, hx32, if_neg (by simp), cutB_cons, if_pos rfl, if_pos rfl])
                                 obtain ⟨n', hn'⟩ : ∃ n', n = n' + 1 := ⟨n - 1, by omega⟩
                                 go_wp2_with fail
                                 go_roundw
                                 case rel => exact ⟨l ++ [m], q + 1, by go_num, by omega, by rw [HLM.out]; exact HO2.out, HB2.out, by rw [List.length_append, List.length_singleton]; omega, n', by rw [HXe3.out, hn'], by omega⟩
                                 case measure => simp [intOf]; omega
                               · have y1 : ((x.toNat : Int) == 32) = false := beq_false_of_ne (by omega)
                                 by_cases hend : q + 1 = s.length
                                 · have y2 : ((q : Int) == (s.length : Int) - 1) = true := by rw [beq_iff_eq]; omega
                                   have y3 : decide ((q : Int) = (s.length : Int) - 1) = true := decide_eq_true (by omega)
                                   by_cases x125 : x.toNat = 125
                                   · have y4 : ((x.toNat : Int) == 125) = true := by rw [x125]; rfl
                                     have hx125 : x = 125 := UInt8.toNat_inj.1 x125
                                     have HXe3 := Lib.hid (show X = (l ++ [m], 0) from by
                                       rw [HXt.out, drop_head HXq.out, hx125, List.drop_eq_nil_of_le (by omega), if_pos rfl])
                                     go_wp2_with fail
                                     all_goals (go_ret2; exact ⟨_, by rw [HXe3.out]; rfl, by rw [HXe3.out]; show OwnI _ _ _ ((l ++ [m]).map _); rw [HLM.out]; exact HO2.out, HB2.out⟩)
                                   · have y4 : ((x.toNat : Int) == 125) = false := beq_false_of_ne (by omega)
                                     have HXe3 := Lib.hid (show X = ([], 3) from by
                                       have h1 : ¬ x = 125 := fun e => x125 (by rw [e]; rfl)
                                       have h2 : ¬ x = 32 := fun e => x32 (by rw [e]; rfl)
                                       rw [HXt.out, drop_head HXq.out, if_neg (fun e => h1 (List.cons.inj e).1), cutB_cons, if_neg h2, if_neg (by simp)])
                                     go_wp2_with fail
                                     all_goals (go_ret2; exact ⟨_, by rw [HXe3.out]; rfl, by rw [HXe3.out]; exact (HEM.out _ HB2.out).1, (HEM.out _ HB2.out).2⟩)
                                 · have y2 : ((q : Int) == (s.length : Int) - 1) = false := beq_false_of_ne (by omega)
                                   have y3 : ¬ (q : Int) = (s.length : Int) - 1 := by omega
                                   have HXe3 := Lib.hid (show X = ([], 3) from by
                                     have h2 : ¬ x = 32 := fun e => x32 (by rw [e]; rfl)
                                     rw [HXt.out, drop_head HXq.out, if_neg (fun e => by
                                       have h3 := congrArg List.length (List.cons.inj e).2
                                       rw [List.length_drop] at h3
                                       simp at h3
                                       omega), cutB_cons, if_neg h2, if_neg (by simp)])
                                   go_wp2_with fail
                                   all_goals (go_ret2; exact ⟨_, by rw [HXe3.out]; rfl, by rw [HXe3.out]; exact (HEM.out _ HB2.out).1, (HEM.out _ HB2.out).2⟩)
                     · have z1 : ((c0.toNat : Int) == 48) = false := beq_false_of_ne (by omega)
                       have hnb : badDig d = false := by rw [hbd, decide_eq_false (fun e => z (by rw [e]; rfl) : ¬ c0 = 48)]; simp
                       have HNb := Lib.hid hnb
                       clear hbd hnb
                       by_cases hbig : 1023 < m
                       · have HXe2 := Lib.hid (HBig.out HNb.out hbig)
                         have b1 : (1023 : Int) < (m : Int) := by omega
                         have b2 : decide ((1023 : Int) < (m : Int)) = true := decide_eq_true b1
                         go_wp2_with fail
                         go_ret2
                         obtain ⟨h1, h2⟩ := HEM.out _ HB.out
                         exact ⟨_, by rw [HXe2.out]; rfl, by rw [HXe2.out]; exact h1, h2⟩
                       · have HXg := Lib.hid (HGood.out HNb.out (by omega))
                         have b1 : ¬ (1023 : Int) < (m : Int) := by omega
                         have b2 : decide ((1023 : Int) < (m : Int)) = false := decide_eq_false b1
                         obtain ⟨qo, co, hsl⟩ := HO.out.sl
                         subst hsl
                         obtain ⟨L, hL⟩ : ∃ L, L = l.map fun (k : Nat) => (k : Int) := ⟨_, rfl⟩
                         have hLl : L.length = l.length := by rw [hL, List.length_map]
                         have HL := Lib.hid hL
                         obtain ⟨LL, hLL⟩ : ∃ n, n = L.length := ⟨_, rfl⟩
                         have hLLl : LL = l.length := hLL.trans hLl
                         have HLLl := Lib.hid hLLl
                         have HLL := Lib.hid hLL
                         have hLp : LL ≤ p := by omega
                         have hHO := HO.out
                         rw [← hL, ← hLL] at hHO
                         have HOL := Lib.hid hHO
                         rw [← hL, ← hLL]
                         have HLM := Lib.hid (show (l ++ [m]).map (fun (k : Nat) => (k : Int)) = L ++ [(m : Int)] from by rw [List.map_append, hL]; rfl)
                         have hl1 : l.length ≤ p := hlp
                         clear hL hLl hLL hLLl hHO HO
                         by_cases hl0 : l = []
                         · have HXt := Lib.hid (HXg.out.trans (if_neg (by rw [hl0, lastI_nil]; omega)))
                           have hL0 : L = [] := by rw [HL.out, hl0]; rfl
                           have hz0 : LL = 0 := by rw [HLL.out, hL0]; rfl
                           subst hz0
                           subst hL0
                           have hLlen : (([] : List Int)).length ≤ 100000 := by first | (rw [← HLL.out]; omega) | simp
                           go_wp2_with (at_builtin; refine wpList_appT rfl 57 undR _ _ rfl (w.heap.size) _ ([] : List Int) rfl (HOL.out.alloc _) _ (m : Int) _ rfl (by simp [go_sem]) (by first | omega | (simp; omega)) (by have := HB.out.size; simp; omega) ?_)
                           intro v' w2 hO2 hb2
                           have HO2 := Lib.hid hO2
                           have HB2 := Lib.hid ((HB.out.alloc HB.out.size _).trans hb2)
                           obtain ⟨qo2, co2, hsl2⟩ := hO2.sl
                           subst hsl2
                           clear hO2 hb2
                           by_cases x32 : x.toNat = 32
                           · have y1 : ((x.toNat : Int) == 32) = true := by rw [x32]; rfl
                             have hx32 : x = 32 := UInt8.toNat_inj.1 x32
                             have HXe3 := Lib.hid (show X = readS n (s.drop (q + 1)) (l ++ [m]) from by
                               rw [HXt.out, drop_head HXq.out, hx32, if_neg (by simp), cutB_cons, if_pos rfl, if_pos rfl])
                             obtain ⟨n', hn'⟩ : ∃ n', n = n' + 1 := ⟨n - 1, by omega⟩
                             go_wp2_with fail
                             go_roundw
                             case rel => exact ⟨l ++ [m], q + 1, by go_num, by omega, by rw [HLM.out]; exact HO2.out, HB2.out, by rw [List.length_append, List.length_singleton]; omega, n', by rw [HXe3.out, hn'], by omega⟩
                             case measure => simp [intOf]; omega
                           · have y1 : ((x.toNat : Int) == 32) = false := beq_false_of_ne (by omega)
                             by_cases hend : q + 1 = s.length
                             · have y2 : ((q : Int) == (s.length : Int) - 1) = true := by rw [beq_iff_eq]; omega
                               have y3 : decide ((q : Int) = (s.length : Int) - 1) = true := decide_eq_true (by omega)
                               by_cases x125 : x.toNat = 125
                               · have y4 : ((x.toNat : Int) == 125) = true := by rw [x125]; rfl
                                 have hx125 : x = 125 := UInt8.toNat_inj.1 x125
                                 have HXe3 := Lib.hid (show X = (l ++ [m], 0) from by
                                   rw [HXt.out, drop_head HXq.out, hx125, List.drop_eq_nil_of_le (by omega), if_pos rfl])
                                 go_wp2_with fail
                                 all_goals (go_ret2; exact ⟨_, by rw [HXe3.out]; rfl, by rw [HXe3.out]; show OwnI _ _ _ ((l ++ [m]).map _); rw [HLM.out]; exact HO2.out, HB2.out⟩)
                               · have y4 : ((x.toNat : Int) == 125) = false := beq_false_of_ne (by omega)
                                 have HXe3 := Lib.hid (show X = ([], 3) from by
                                   have h1 : ¬ x = 125 := fun e => x125 (by rw [e]; rfl)
                                   have h2 : ¬ x = 32 := fun e => x32 (by rw [e]; rfl)
                                   rw [HXt.out, drop_head HXq.out, if_neg (fun e => h1 (List.cons.inj e).1), cutB_cons, if_neg h2, if_neg (by simp)])
                                 go_wp2_with fail
                                 all_goals (go_ret2; exact ⟨_, by rw [HXe3.out]; rfl, by rw [HXe3.out]; exact (HEM.out _ HB2.out).1, (HEM.out _ HB2.out).2⟩)
                             · have y2 : ((q : Int) == (s.length : Int) - 1) = false := beq_false_of_ne (by omega)
                               have y3 : ¬ (q : Int) = (s.length : Int) - 1 := by omega
                               have HXe3 := Lib.hid (show X = ([], 3) from by
                                 have h2 : ¬ x = 32 := fun e => x32 (by rw [e]; rfl)
                                 rw [HXt.out, drop_head HXq.out, if_neg (fun e => by
                                   have h3 := congrArg List.length (List.cons.inj e).2
                                   rw [List.length_drop] at h3
                                   simp at h3
                                   omega), cutB_cons, if_neg h2, if_neg (by simp)])
                               go_wp2_with fail
                               all_goals (go_ret2; exact ⟨_, by rw [HXe3.out]; rfl, by rw [HXe3.out]; exact (HEM.out _ HB2.out).1, (HEM.out _ HB2.out).2⟩)
                         · obtain ⟨k, hk1, hk2⟩ := lastI_getLast hl0
                           have hlp0 : 0 < l.length := List.length_pos_iff.2 hl0
                           obtain ⟨L1, rfl⟩ : ∃ L1, LL = L1 + 1 := ⟨LL - 1, by have := HLLl.out; omega⟩
                           have hL1 : l.length - 1 = L1 := by have := HLLl.out; omega
                           obtain ⟨gb, goff, gc, zz, h1, hzz, hcell⟩ := HOL.out.rdl.at (k := L1) (by rw [← HLL.out]; omega)
                           simp only [Value.slice.injEq] at h1
                           obtain ⟨rfl, -, rfl⟩ := h1
                           obtain rfl : zz = (k : Int) := by
                             rw [HL.out, List.getElem?_map, ← hL1, hk1] at hzz
                             exact (Option.some.inj hzz).symm
                           have cc := hcell wr (Below.refl _ _)
                           by_cases hmk : m ≤ k
                           · have HXe2 := Lib.hid (HXg.out.trans (if_pos (by rw [hk2]; omega)))
                             have m1 : (m : Int) ≤ (k : Int) := by omega
                             have m2 : decide ((m : Int) ≤ (k : Int)) = true := decide_eq_true m1
                             clear hzz hcell hk1 hk2 hL1
                             go_wp2_with fail
                             go_ret2
                             obtain ⟨h1, h2⟩ := HEM.out _ HB.out
                             exact ⟨_, by rw [HXe2.out]; rfl, by rw [HXe2.out]; exact h1, h2⟩
                           · have HXt := Lib.hid (HXg.out.trans (if_neg (by rw [hk2]; omega)))
                             have m1 : ¬ (m : Int) ≤ (k : Int) := by omega
                             have m2 : decide ((m : Int) ≤ (k : Int)) = false := decide_eq_false m1
                             clear hzz hcell hk1 hk2 hL1
                             have hLlen : (L).length ≤ 100000 := by first | (rw [← HLL.out]; omega) | simp
                             go_wp2_with (at_builtin; refine wpList_appT rfl 57 undR _ _ rfl (w.heap.size) _ L rfl (HOL.out.alloc _) _ (m : Int) _ rfl (by simp [go_sem]) (by first | omega | (simp; omega)) (by have := HB.out.size; simp; omega) ?_)
                             intro v' w2 hO2 hb2
                             have HO2 := Lib.hid hO2
                             have HB2 := Lib.hid ((HB.out.alloc HB.out.size _).trans hb2)
                             obtain ⟨qo2, co2, hsl2⟩ := hO2.sl
                             subst hsl2
                             clear hO2 hb2
                             by_cases x32 : x.toNat = 32
                             · have y1 : ((x.toNat : Int) == 32) = true := by rw [x32]; rfl
                               have hx32 : x = 32 := UInt8.toNat_inj.1 x32
                               have HXe3 := Lib.hid (show X = readS n (s.drop (q + 1)) (l ++ [m]) from by
                                 rw [HXt.out, drop_head HXq.out, hx32, if_neg (by simp), cutB_cons, if_pos rfl, if_pos rfl])
                               obtain ⟨n', hn'⟩ : ∃ n', n = n' + 1 := ⟨n - 1, by omega⟩
                               go_wp2_with fail
                               go_roundw
                               case rel => exact ⟨l ++ [m], q + 1, by go_num, by omega, by rw [HLM.out]; exact HO2.out, HB2.out, by rw [List.length_append, List.length_singleton]; omega, n', by rw [HXe3.out, hn'], by omega⟩
                               case measure => simp [intOf]; omega
                             · have y1 : ((x.toNat : Int) == 32) = false := beq_false_of_ne (by omega)
                               by_cases hend : q + 1 = s.length
                               · have y2 : ((q : Int) == (s.length : Int) - 1) = true := by rw [beq_iff_eq]; omega
                                 have y3 : decide ((q : Int) = (s.length : Int) - 1) = true := decide_eq_true (by omega)
                                 by_cases x125 : x.toNat = 125
                                 · have y4 : ((x.toNat : Int) == 125) = true := by rw [x125]; rfl
                                   have hx125 : x = 125 := UInt8.toNat_inj.1 x125
                                   have HXe3 := Lib.hid (show X = (l ++ [m], 0) from by
                                     rw [HXt.out, drop_head HXq.out, hx125, List.drop_eq_nil_of_le (by omega), if_pos rfl])
                                   go_wp2_with fail
                                   all_goals (go_ret2; exact ⟨_, by rw [HXe3.out]; rfl, by rw [HXe3.out]; show OwnI _ _ _ ((l ++ [m]).map _); rw [HLM.out]; exact HO2.out, HB2.out⟩)
                                 · have y4 : ((x.toNat : Int) == 125) = false := beq_false_of_ne (by omega)
                                   have HXe3 := Lib.hid (show X = ([], 3) from by
                                     have h1 : ¬ x = 125 := fun e => x125 (by rw [e]; rfl)
                                     have h2 : ¬ x = 32 := fun e => x32 (by rw [e]; rfl)
                                     rw [HXt.out, drop_head HXq.out, if_neg (fun e => h1 (List.cons.inj e).1), cutB_cons, if_neg h2, if_neg (by simp)])
                                   go_wp2_with fail
                                   all_goals (go_ret2; exact ⟨_, by rw [HXe3.out]; rfl, by rw [HXe3.out]; exact (HEM.out _ HB2.out).1, (HEM.out _ HB2.out).2⟩)
                               · have y2 : ((q : Int) == (s.length : Int) - 1) = false := beq_false_of_ne (by omega)
                                 have y3 : ¬ (q : Int) = (s.length : Int) - 1 := by omega
                                 have HXe3 := Lib.hid (show X = ([], 3) from by
                                   have h2 : ¬ x = 32 := fun e => x32 (by rw [e]; rfl)
                                   rw [HXt.out, drop_head HXq.out, if_neg (fun e => by
                                     have h3 := congrArg List.length (List.cons.inj e).2
                                     rw [List.length_drop] at h3
                                     simp at h3
                                     omega), cutB_cons, if_neg h2, if_neg (by simp)])
                                 go_wp2_with fail
                                 all_goals (go_ret2; exact ⟨_, by rw [HXe3.out]; rfl, by rw [HXe3.out]; exact (HEM.out _ HB2.out).1, (HEM.out _ HB2.out).2⟩)
                 · have d1 : decide ((48 : Int) ≤ (x.toNat : Int)) = true := decide_eq_true (by omega)
                   have d2 : decide ((x.toNat : Int) ≤ 57) = false := decide_eq_false (by unfold isDig at hd; omega)
                   have d3 : (48 : Int) ≤ (x.toNat : Int) := by omega
                   have d4 : ¬ (x.toNat : Int) ≤ 57 := by unfold isDig at hd; omega
                   obtain ⟨g1, g2, g3⟩ := digs_at hpq hq HD.out HST.out
                   obtain ⟨d, hd0⟩ : ∃ d, d = digs (s.drop p) := ⟨_, rfl⟩
                   have HDd := Lib.hid hd0
                   have hdl : d.length = q - p := by rw [hd0]; exact g2
                   have HDt := Lib.hid (show d = (s.drop p).take (q - p) from hd0.trans g1)
                   have HDig := Lib.hid fun c (hc : c ∈ d) => digs_mem (s := s.drop p) (by rw [← HDd.out]; exact hc)
                   have HMd := Lib.hid (show m = dcap d from by rw [HM.out, HDt.out])
                   have HXs := Lib.hid (show X = if (snum (s.drop p)).2 ≠ 0 then ([], (snum (s.drop p)).2) else if ((snum (s.drop p)).1 : Int) ≤ lastI l then ([], 3) else if s.drop q = [125] then (l ++ [(snum (s.drop p)).1], 0) else if (cutB 32 (s.drop q)).2 = true then readS n (cutB 32 (s.drop q)).1 (l ++ [(snum (s.drop p)).1]) else ([], 3) from by rw [← g3]; exact HXn.out)
                   have HBad := Lib.hid (show badDig d = true → X = ([], 3) from fun h => by rw [HXs.out, snum_none (by rw [← HDd.out]; exact h), if_pos (by decide)])
                   have HBig := Lib.hid (show badDig d = false → 1023 < m → X = ([], 2) from fun h h2 => by
                     have h3 : 1023 < dval 0 d := by have := dcap_dval d; rw [← HMd.out] at this; omega
                     rw [HXs.out, snum_big (by rw [← HDd.out]; exact h) (by rw [← HDd.out]; exact h3), if_pos (by decide)])
                   have HGood := Lib.hid (show badDig d = false → m ≤ 1023 → X = if (m : Int) ≤ lastI l then ([], 3) else if s.drop q = [125] then (l ++ [m], 0) else if (cutB 32 (s.drop q)).2 = true then readS n (cutB 32 (s.drop q)).1 (l ++ [m]) else ([], 3) from fun h h2 => by
                     have h3 : dval 0 d = m := by have := dcap_dval d; rw [← HMd.out] at this; omega
                     rw [HXs.out, snum_ok (by rw [← HDd.out]; exact h) (by rw [← HDd.out]; omega), if_neg (fun h => h rfl), ← HDd.out, h3])
                   clear g1 g2 g3 hd0
                   by_cases hj : p = q
                   · have HXe2 := Lib.hid (HBad.out (by rw [List.length_eq_zero_iff.1 (by omega : d.length = 0)]; rfl))
                     have e1 : ((q : Int) == (p : Int)) = true := by rw [beq_iff_eq]; omega
                     have e2 : (q : Int) = (p : Int) := by omega
                     subst hj
                     go_wp2_with fail
                     go_ret2
                     obtain ⟨h1, h2⟩ := HEM.out _ HB.out
                     exact ⟨_, by rw [HXe2.out]; rfl, by rw [HXe2.out]; exact h1, h2⟩
                   · have e1 : ((q : Int) == (p : Int)) = false := beq_false_of_ne (by omega)
                     have e2 : ¬ (q : Int) = (p : Int) := by omega
                     obtain ⟨c0, hc0⟩ : ∃ c0, s[p]? = some c0 := ⟨_, List.getElem?_eq_getElem (by omega)⟩
                     obtain ⟨hk5, hx5⟩ := List.getElem?_eq_some_iff.1 hc0
                     have hh : d.head? = some c0 := by
                       rw [HDt.out, drop_head hc0]
                       obtain ⟨j, hj2⟩ : ∃ j, q - p = j + 1 := ⟨q - p - 1, by omega⟩
                       rw [hj2]
                       rfl
                     have hbd : badDig d = (decide (p + 1 < q) && decide (c0 = 48)) := by
                       unfold badDig
                       have hne : d.isEmpty = false := by
                         cases d with
                         | nil => simp at hh
                         | cons _ _ => rfl
                       rw [hne, Bool.false_or, hh, hdl]
                       congr 1
                       · exact decide_eq_decide.2 (by omega)
                       · exact decide_eq_decide.2 ⟨fun h => Option.some.inj h, fun h => by rw [h]⟩
                     clear hc0 hh
                     by_cases z : c0.toNat = 48
                     · have z1 : ((c0.toNat : Int) == 48) = true := by rw [z]; rfl
                       have zc : c0 = 48 := UInt8.toNat_inj.1 z
                       by_cases z2 : p + 1 < q
                       · have HXe2 := Lib.hid (HBad.out (by rw [hbd, decide_eq_true z2, decide_eq_true zc]; rfl))
                         have z3 : (p : Int) + 1 < (q : Int) := by omega
                         have z4 : decide ((p : Int) + 1 < (q : Int)) = true := decide_eq_true z3
                         clear hbd zc
                         go_wp2_with fail
                         go_ret2
                         obtain ⟨h1, h2⟩ := HEM.out _ HB.out
                         exact ⟨_, by rw [HXe2.out]; rfl, by rw [HXe2.out]; exact h1, h2⟩
                       · have hnb : badDig d = false := by rw [hbd, decide_eq_false z2]; rfl
                         have HNb := Lib.hid hnb
                         have z3 : ¬ (p : Int) + 1 < (q : Int) := by omega
                         have z4 : decide ((p : Int) + 1 < (q : Int)) = false := decide_eq_false z3
                         clear hbd zc hnb
                         by_cases hbig : 1023 < m
                         · have HXe2 := Lib.hid (HBig.out HNb.out hbig)
                           have b1 : (1023 : Int) < (m : Int) := by omega
                           have b2 : decide ((1023 : Int) < (m : Int)) = true := decide_eq_true b1
                           go_wp2_with fail
                           go_ret2
                           obtain ⟨h1, h2⟩ := HEM.out _ HB.out
                           exact ⟨_, by rw [HXe2.out]; rfl, by rw [HXe2.out]; exact h1, h2⟩
                         · have HXg := Lib.hid (HGood.out HNb.out (by omega))
                           have b1 : ¬ (1023 : Int) < (m : Int) := by omega
                           have b2 : decide ((1023 : Int) < (m : Int)) = false := decide_eq_false b1
                           obtain ⟨qo, co, hsl⟩ := HO.out.sl
                           subst hsl
                           obtain ⟨L, hL⟩ : ∃ L, L = l.map fun (k : Nat) => (k : Int) := ⟨_, rfl⟩
                           have hLl : L.length = l.length := by rw [hL, List.length_map]
                           have HL := Lib.hid hL
                           obtain ⟨LL, hLL⟩ : ∃ n, n = L.length := ⟨_, rfl⟩
                           have hLLl : LL = l.length := hLL.trans hLl
                           have HLLl := Lib.hid hLLl
                           have HLL := Lib.hid hLL
                           have hLp : LL ≤ p := by omega
                           have hHO := HO.out
                           rw [← hL, ← hLL] at hHO
                           have HOL := Lib.hid hHO
                           rw [← hL, ← hLL]
                           have HLM := Lib.hid (show (l ++ [m]).map (fun (k : Nat) => (k : Int)) = L ++ [(m : Int)] from by rw [List.map_append, hL]; rfl)
                           have hl1 : l.length ≤ p := hlp
                           clear hL hLl hLL hLLl hHO HO
                           by_cases hl0 : l = []
                           · have HXt := Lib.hid (HXg.out.trans (if_neg (by rw [hl0, lastI_nil]; omega)))
                             have hL0 : L = [] := by rw [HL.out, hl0]; rfl
                             have hz0 : LL = 0 := by rw [HLL.out, hL0]; rfl
                             subst hz0
                             subst hL0
                             have hLlen : (([] : List Int)).length ≤ 100000 := by first | (rw [← HLL.out]; omega) | simp
                             go_wp2_with (at_builtin; refine wpList_appT rfl 57 undR _ _ rfl (w.heap.size) _ ([] : List Int) rfl (HOL.out.alloc _) _ (m : Int) _ rfl (by simp [go_sem]) (by first | omega | (simp; omega)) (by have := HB.out.size; simp; omega) ?_)
                             intro v' w2 hO2 hb2
                             have HO2 := Lib.hid hO2
                             have HB2 := Lib.hid ((HB.out.alloc HB.out.size _).trans hb2)
                             obtain ⟨qo2, co2, hsl2⟩ := hO2.sl
                             subst hsl2
                             clear hO2 hb2
                             by_cases x32 : x.toNat = 32
                             · have y1 : ((x.toNat : Int) == 32) = true := by rw [x32]; rfl
                               have hx32 : x = 32 := UInt8.toNat_inj.1 x32
                               have HXe3 := Lib.hid (show X = readS n (s.drop (q + 1)) (l ++ [m]) from by
                                 rw [HXt.out, drop_head HXq.out, hx32, if_neg (by simp), cutB_cons, if_pos rfl, if_pos rfl])
                               obtain ⟨n', hn'⟩ : ∃ n', n = n' + 1 := ⟨n - 1, by omega⟩
                               go_wp2_with fail
                               go_roundw
                               case rel => exact ⟨l ++ [m], q + 1, by go_num, by omega, by rw [HLM.out]; exact HO2.out, HB2.out, by rw [List.length_append, List.length_singleton]; omega, n', by rw [HXe3.out, hn'], by omega⟩
                               case measure => simp [intOf]; omega
                             · have y1 : ((x.toNat : Int) == 32) = false := beq_false_of_ne (by omega)
                               by_cases hend : q + 1 = s.length
                               · have y2 : ((q : Int) == (s.length : Int) - 1) = true := by rw [beq_iff_eq]; omega
                                 have y3 : decide ((q : Int) = (s.length : Int) - 1) = true := decide_eq_true (by omega)
                                 by_cases x125 : x.toNat = 125
                                 · have y4 : ((x.toNat : Int) == 125) = true := by rw [x125]; rfl
                                   have hx125 : x = 125 := UInt8.toNat_inj.1 x125
                                   have HXe3 := Lib.hid (show X = (l ++ [m], 0) from by
                                     rw [HXt.out, drop_head HXq.out, hx125, List.drop_eq_nil_of_le (by omega), if_pos rfl])
                                   go_wp2_with fail
                                   all_goals (go_ret2; exact ⟨_, by rw [HXe3.out]; rfl, by rw [HXe3.out]; show OwnI _ _ _ ((l ++ [m]).map _); rw [HLM.out]; exact HO2.out, HB2.out⟩)
                                 · have y4 : ((x.toNat : Int) == 125) = false := beq_false_of_ne (by omega)
                                   have HXe3 := Lib.hid (show X = ([], 3) from by
                                     have h1 : ¬ x = 125 := fun e => x125 (by rw [e]; rfl)
                                     have h2 : ¬ x = 32 := fun e => x32 (by rw [e]; rfl)
                                     rw [HXt.out, drop_head HXq.out, if_neg (fun e => h1 (List.cons.inj e).1), cutB_cons, if_neg h2, if_neg (by simp)])
                                   go_wp2_with fail
                                   all_goals (go_ret2; exact ⟨_, by rw [HXe3.out]; rfl, by rw [HXe3.out]; exact (HEM.out _ HB2.out).1, (HEM.out _ HB2.out).2⟩)
                               · have y2 : ((q : Int) == (s.length : Int) - 1) = false := beq_false_of_ne (by omega)
                                 have y3 : ¬ (q : Int) = (s.length : Int) - 1 := by omega
                                 have HXe3 := Lib.hid (show X = ([], 3) from by
                                   have h2 : ¬ x = 32 := fun e => x32 (by rw [e]; rfl)
                                   rw [HXt.out, drop_head HXq.out, if_neg (fun e => by
                                     have h3 := congrArg List.length (List.cons.inj e).2
                                     rw [List.length_drop] at h3
                                     simp at h3
                                     omega), cutB_cons, if_neg h2, if_neg (by simp)])
                                 go_wp2_with fail
                                 all_goals (go_ret2; exact ⟨_, by rw [HXe3.out]; rfl, by rw [HXe3.out]; exact (HEM.out _ HB2.out).1, (HEM.out _ HB2.out).2⟩)
                           · obtain ⟨k, hk1, hk2⟩ := lastI_getLast hl0
                             have hlp0 : 0 < l.length := List.length_pos_iff.2 hl0
                             obtain ⟨L1, rfl⟩ : ∃ L1, LL = L1 + 1 := ⟨LL - 1, by have := HLLl.out; omega⟩
                             have hL1 : l.length - 1 = L1 := by have := HLLl.out; omega
                             obtain ⟨gb, goff, gc, zz, h1, hzz, hcell⟩ := HOL.out.rdl.at (k := L1) (by rw [← HLL.out]; omega)
                             simp only [Value.slice.injEq] at h1
                             obtain ⟨rfl, -, rfl⟩ := h1
                             obtain rfl : zz = (k : Int) := by
                               rw [HL.out, List.getElem?_map, ← hL1, hk1] at hzz
                               exact (Option.some.inj hzz).symm
                             have cc := hcell wr (Below.refl _ _)
                             by_cases hmk : m ≤ k
                             · have HXe2 := Lib.hid (HXg.out.trans (if_pos (by rw [hk2]; omega)))
                               have m1 : (m : Int) ≤ (k : Int) := by omega
                               have m2 : decide ((m : Int) ≤ (k : Int)) = true := decide_eq_true m1
                               clear hzz hcell hk1 hk2 hL1
                               go_wp2_with fail
                               go_ret2
                               obtain ⟨h1, h2⟩ := HEM.out _ HB.out
                               exact ⟨_, by rw [HXe2.out]; rfl, by rw [HXe2.out]; exact h1, h2⟩
                             · have HXt := Lib.hid (HXg.out.trans (if_neg (by rw [hk2]; omega)))
                               have m1 : ¬ (m : Int) ≤ (k : Int) := by omega
                               have m2 : decide ((m : Int) ≤ (k : Int)) = false := decide_eq_false m1
                               clear hzz hcell hk1 hk2 hL1
                               have hLlen : (L).length ≤ 100000 := by first | (rw [← HLL.out]; omega) | simp
                               go_wp2_with (at_builtin; refine wpList_appT rfl 57 undR _ _ rfl (w.heap.size) _ L rfl (HOL.out.alloc _) _ (m : Int) _ rfl (by simp [go_sem]) (by first | omega | (simp; omega)) (by have := HB.out.size; simp; omega) ?_)
                               intro v' w2 hO2 hb2
                               have HO2 := Lib.hid hO2
                               have HB2 := Lib.hid ((HB.out.alloc HB.out.size _).trans hb2)
                               obtain ⟨qo2, co2, hsl2⟩ := hO2.sl
                               subst hsl2
                               clear hO2 hb2
                               by_cases x32 : x.toNat = 32
                               · have y1 : ((x.toNat : Int) == 32) = true := by rw [x32]; rfl
                                 have hx32 : x = 32 := UInt8.toNat_inj.1 x32
                                 have HXe3 := Lib.hid (show X = readS n (s.drop (q + 1)) (l ++ [m]) from by
                                   rw [HXt.out, drop_head HXq.out, hx32, if_neg (by simp), cutB_cons, if_pos rfl, if_pos rfl])
                                 obtain ⟨n', hn'⟩ : ∃ n', n = n' + 1 := ⟨n - 1, by omega⟩
                                 go_wp2_with fail
                                 go_roundw
                                 case rel => exact ⟨l ++ [m], q + 1, by go_num, by omega, by rw [HLM.out]; exact HO2.out, HB2.out, by rw [List.length_append, List.length_singleton]; omega, n', by rw [HXe3.out, hn'], by omega⟩
                                 case measure => simp [intOf]; omega
                               · have y1 : ((x.toNat : Int) == 32) = false := beq_false_of_ne (by omega)
                                 by_cases hend : q + 1 = s.length
                                 · have y2 : ((q : Int) == (s.length : Int) - 1) = true := by rw [beq_iff_eq]; omega
                                   have y3 : decide ((q : Int) = (s.length : Int) - 1) = true := decide_eq_true (by omega)
                                   by_cases x125 : x.toNat = 125
                                   · have y4 : ((x.toNat : Int) == 125) = true := by rw [x125]; rfl
                                     have hx125 : x = 125 := UInt8.toNat_inj.1 x125
                                     have HXe3 := Lib.hid (show X = (l ++ [m], 0) from by
                                       rw [HXt.out, drop_head HXq.out, hx125, List.drop_eq_nil_of_le (by omega), if_pos rfl])
                                     go_wp2_with fail
                                     all_goals (go_ret2; exact ⟨_, by rw [HXe3.out]; rfl, by rw [HXe3.out]; show OwnI _ _ _ ((l ++ [m]).map _); rw [HLM.out]; exact HO2.out, HB2.out⟩)
                                   · have y4 : ((x.toNat : Int) == 125) = false := beq_false_of_ne (by omega)
                                     have HXe3 := Lib.hid (show X = ([], 3) from by
                                       have h1 : ¬ x = 125 := fun e => x125 (by rw [e]; rfl)
                                       have h2 : ¬ x = 32 := fun e => x32 (by rw [e]; rfl)
                                       rw [HXt.out, drop_head HXq.out, if_neg (fun e => h1 (List.cons.inj e).1), cutB_cons, if_neg h2, if_neg (by simp)])
                                     go_wp2_with fail
                                     all_goals (go_ret2; exact ⟨_, by rw [HXe3.out]; rfl, by rw [HXe3.out]; exact (HEM.out _ HB2.out).1, (HEM.out _ HB2.out).2⟩)
                                 · have y2 : ((q : Int) == (s.length : Int) - 1) = false := beq_false_of_ne (by omega)
                                   have y3 : ¬ (q : Int) = (s.length : Int) - 1 := by omega
                                   have HXe3 := Lib.hid (show X = ([], 3) from by
                                     have h2 : ¬ x = 32 := fun e => x32 (by rw [e]; rfl)
                                     rw [HXt.out, drop_head HXq.out, if_neg (fun e => by
                                       have h3 := congrArg List.length (List.cons.inj e).2
                                       rw [List.length_drop] at h3
                                       simp at h3
                                       omega), cutB_cons, if_neg h2, if_neg (by simp)])
                                   go_wp2_with fail
                                   all_goals (go_ret2; exact ⟨_, by rw [HXe3.out]; rfl, by rw [HXe3.out]; exact (HEM.out _ HB2.out).1, (HEM.out _ HB2.out).2⟩)
                     · have z1 : ((c0.toNat : Int) == 48) = false := beq_false_of_ne (by omega)
                       have hnb : badDig d = false := by rw [hbd, decide_eq_false (fun e => z (by rw [e]; rfl) : ¬ c0 = 48)]; simp
                       have HNb := Lib.hid hnb
                       clear hbd hnb
                       by_cases hbig : 1023 < m
                       · have HXe2 := Lib.hid (HBig.out HNb.out hbig)
                         have b1 : (1023 : Int) < (m : Int) := by omega
                         have b2 : decide ((1023 : Int) < (m : Int)) = true := decide_eq_true b1
                         go_wp2_with fail
                         go_ret2
                         obtain ⟨h1, h2⟩ := HEM.out _ HB.out
                         exact ⟨_, by rw [HXe2.out]; rfl, by rw [HXe2.out]; exact h1, h2⟩
                       · have HXg := Lib.hid (HGood.out HNb.out (by omega))
                         have b1 : ¬ (1023 : Int) < (m : Int) := by omega
                         have b2 : decide ((1023 : Int) < (m : Int)) = false := decide_eq_false b1
                         obtain ⟨qo, co, hsl⟩ := HO.out.sl
                         subst hsl
                         obtain ⟨L, hL⟩ : ∃ L, L = l.map fun (k : Nat) => (k : Int) := ⟨_, rfl⟩
                         have hLl : L.length = l.length := by rw [hL, List.length_map]
                         have HL := Lib.hid hL
                         obtain ⟨LL, hLL⟩ : ∃ n, n = L.length := ⟨_, rfl⟩
                         have hLLl : LL = l.length := hLL.trans hLl
                         have HLLl := Lib.hid hLLl
                         have HLL := Lib.hid hLL
                         have hLp : LL ≤ p := by omega
                         have hHO := HO.out
                         rw [← hL, ← hLL] at hHO
                         have HOL := Lib.hid hHO
                         rw [← hL, ← hLL]
                         have HLM := Lib.hid (show (l ++ [m]).map (fun (k : Nat) => (k : Int)) = L ++ [(m : Int)] from by rw [List.map_append, hL]; rfl)
                         have hl1 : l.length ≤ p := hlp
                         clear hL hLl hLL hLLl hHO HO
                         by_cases hl0 : l = []
                         · have HXt := Lib.hid (HXg.out.trans (if_neg (by rw [hl0, lastI_nil]; omega)))
                           have hL0 : L = [] := by rw [HL.out, hl0]; rfl
                           have hz0 : LL = 0 := by rw [HLL.out, hL0]; rfl
                           subst hz0
                           subst hL0
                           have hLlen : (([] : List Int)).length ≤ 100000 := by first | (rw [← HLL.out]; omega) | simp
                           go_wp2_with (at_builtin; refine wpList_appT rfl 57 undR _ _ rfl (w.heap.size) _ ([] : List Int) rfl (HOL.out.alloc _) _ (m : Int) _ rfl (by simp [go_sem]) (by first | omega | (simp; omega)) (by have := HB.out.size; simp; omega) ?_)
                           intro v' w2 hO2 hb2
                           have HO2 := Lib.hid hO2
                           have HB2 := Lib.hid ((HB.out.alloc HB.out.size _).trans hb2)
                           obtain ⟨qo2, co2, hsl2⟩ := hO2.sl
                           subst hsl2
                           clear hO2 hb2
                           by_cases x32 : x.toNat = 32
                           · have y1 : ((x.toNat : Int) == 32) = true := by rw [x32]; rfl
                             have hx32 : x = 32 := UInt8.toNat_inj.1 x32
                             have HXe3 := Lib.hid (show X = readS n (s.drop (q + 1)) (l ++ [m]) from by
                               rw [HXt.out, drop_head HXq.out, hx32, if_neg (by simp), cutB_cons, if_pos rfl, if_pos rfl])
                             obtain ⟨n', hn'⟩ : ∃ n', n = n' + 1 := ⟨n - 1, by omega⟩
                             go_wp2_with fail
                             go_roundw
                             case rel => exact ⟨l ++ [m], q + 1, by go_num, by omega, by rw [HLM.out]; exact HO2.out, HB2.out, by rw [List.length_append, List.length_singleton]; omega, n', by rw [HXe3.out, hn'], by omega⟩
                             case measure => simp [intOf]; omega
                           · have y1 : ((x.toNat : Int) == 32) = false := beq_false_of_ne (by omega)
                             by_cases hend : q + 1 = s.length
                             · have y2 : ((q : Int) == (s.length : Int) - 1) = true := by rw [beq_iff_eq]; omega
                               have y3 : decide ((q : Int) = (s.length : Int) - 1) = true := decide_eq_true (by omega)
                               by_cases x125 : x.toNat = 125
                               · have y4 : ((x.toNat : Int) == 125) = true := by rw [x125]; rfl
                                 have hx125 : x = 125 := UInt8.toNat_inj.1 x125
                                 have HXe3 := Lib.hid (show X = (l ++ [m], 0) from by
                                   rw [HXt.out, drop_head HXq.out, hx125, List.drop_eq_nil_of_le (by omega), if_pos rfl])
                                 go_wp2_with fail
                                 all_goals (go_ret2; exact ⟨_, by rw [HXe3.out]; rfl, by rw [HXe3.out]; show OwnI _ _ _ ((l ++ [m]).map _); rw [HLM.out]; exact HO2.out, HB2.out⟩)
                               · have y4 : ((x.toNat : Int) == 125) = false := beq_false_of_ne (by omega)
                                 have HXe3 := Lib.hid (show X = ([], 3) from by
                                   have h1 : ¬ x = 125 := fun e => x125 (by rw [e]; rfl)
                                   have h2 : ¬ x = 32 := fun e => x32 (by rw [e]; rfl)
                                   rw [HXt.out, drop_head HXq.out, if_neg (fun e => h1 (List.cons.inj e).1), cutB_cons, if_neg h2, if_neg (by simp)])
                                 go_wp2_with fail
                                 all_goals (go_ret2; exact ⟨_, by rw [HXe3.out]; rfl, by rw [HXe3.out]; exact (HEM.out _ HB2.out).1, (HEM.out _ HB2.out).2⟩)
                             · have y2 : ((q : Int) == (s.length : Int) - 1) = false := beq_false_of_ne (by omega)
                               have y3 : ¬ (q : Int) = (s.length : Int) - 1 := by omega
                               have HXe3 := Lib.hid (show X = ([], 3) from by
                                 have h2 : ¬ x = 32 := fun e => x32 (by rw [e]; rfl)
                                 rw [HXt.out, drop_head HXq.out, if_neg (fun e => by
                                   have h3 := congrArg List.length (List.cons.inj e).2
                                   rw [List.length_drop] at h3
                                   simp at h3
                                   omega), cutB_cons, if_neg h2, if_neg (by simp)])
                               go_wp2_with fail
                               all_goals (go_ret2; exact ⟨_, by rw [HXe3.out]; rfl, by rw [HXe3.out]; exact (HEM.out _ HB2.out).1, (HEM.out _ HB2.out).2⟩)
                         · obtain ⟨k, hk1, hk2⟩ := lastI_getLast hl0
                           have hlp0 : 0 < l.length := List.length_pos_iff.2 hl0
                           obtain ⟨L1, rfl⟩ : ∃ L1, LL = L1 + 1 := ⟨LL - 1, by have := HLLl.out; omega⟩
                           have hL1 : l.length - 1 = L1 := by have := HLLl.out; omega
                           obtain ⟨gb, goff, gc, zz, h1, hzz, hcell⟩ := HOL.out.rdl.at (k := L1) (by rw [← HLL.out]; omega)
                           simp only [Value.slice.injEq] at h1
                           obtain ⟨rfl, -, rfl⟩ := h1
                           obtain rfl : zz = (k : Int) := by
                             rw [HL.out, List.getElem?_map, ← hL1, hk1] at hzz
                             exact (Option.some.inj hzz).symm
                           have cc := hcell wr (Below.refl _ _)
                           by_cases hmk : m ≤ k
                           · have HXe2 := Lib.hid (HXg.out.trans (if_pos (by rw [hk2]; omega)))
                             have m1 : (m : Int) ≤ (k : Int) := by omega
                             have m2 : decide ((m : Int) ≤ (k : Int)) = true := decide_eq_true m1
                             clear hzz hcell hk1 hk2 hL1
                             go_wp2_with fail
                             go_ret2
                             obtain ⟨h1, h2⟩ := HEM.out _ HB.out
                             exact ⟨_, by rw [HXe2.out]; rfl, by rw [HXe2.out]; exact h1, h2⟩
                           · have HXt := Lib.hid (HXg.out.trans (if_neg (by rw [hk2]; omega)))
                             have m1 : ¬ (m : Int) ≤ (k : Int) := by omega
                             have m2 : decide ((m : Int) ≤ (k : Int)) = false := decide_eq_false m1
                             clear hzz hcell hk1 hk2 hL1
                             have hLlen : (L).length ≤ 100000 := by first | (rw [← HLL.out]; omega) | simp
                             go_wp2_with (at_builtin; refine wpList_appT rfl 57 undR _ _ rfl (w.heap.size) _ L rfl (HOL.out.alloc _) _ (m : Int) _ rfl (by simp [go_sem]) (by first | omega | (simp; omega)) (by have := HB.out.size; simp; omega) ?_)
                             intro v' w2 hO2 hb2
                             have HO2 := Lib.hid hO2
                             have HB2 := Lib.hid ((HB.out.alloc HB.out.size _).trans hb2)
                             obtain ⟨qo2, co2, hsl2⟩ := hO2.sl
                             subst hsl2
                             clear hO2 hb2
                             by_cases x32 : x.toNat = 32
                             · have y1 : ((x.toNat : Int) == 32) = true := by rw [x32]; rfl
                               have hx32 : x = 32 := UInt8.toNat_inj.1 x32
                               have HXe3 := Lib.hid (show X = readS n (s.drop (q + 1)) (l ++ [m]) from by
                                 rw [HXt.out, drop_head HXq.out, hx32, if_neg (by simp), cutB_cons, if_pos rfl, if_pos rfl])
                               obtain ⟨n', hn'⟩ : ∃ n', n = n' + 1 := ⟨n - 1, by omega⟩
                               go_wp2_with fail
                               go_roundw
                               case rel => exact ⟨l ++ [m], q + 1, by go_num, by omega, by rw [HLM.out]; exact HO2.out, HB2.out, by rw [List.length_append, List.length_singleton]; omega, n', by rw [HXe3.out, hn'], by omega⟩
                               case measure => simp [intOf]; omega
                             · have y1 : ((x.toNat : Int) == 32) = false := beq_false_of_ne (by omega)
                               by_cases hend : q + 1 = s.length
                               · have y2 : ((q : Int) == (s.length : Int) - 1) = true := by rw [beq_iff_eq]; omega
                                 have y3 : decide ((q : Int) = (s.length : Int) - 1) = true := decide_eq_true (by omega)
                                 by_cases x125 : x.toNat = 125
                                 · have y4 : ((x.toNat : Int) == 125) = true := by rw [x125]; rfl
                                   have hx125 : x = 125 := UInt8.toNat_inj.1 x125
                                   have HXe3 := Lib.hid (show X = (l ++ [m], 0) from by
                                     rw [HXt.out, drop_head HXq.out, hx125, List.drop_eq_nil_of_le (by omega), if_pos rfl])
                                   go_wp2_with fail
                                   all_goals (go_ret2; exact ⟨_, by rw [HXe3.out]; rfl, by rw [HXe3.out]; show OwnI _ _ _ ((l ++ [m]).map _); rw [HLM.out]; exact HO2.out, HB2.out⟩)
                                 · have y4 : ((x.toNat : Int) == 125) = false := beq_false_of_ne (by omega)
                                   have HXe3 := Lib.hid (show X = ([], 3) from by
                                     have h1 : ¬ x = 125 := fun e => x125 (by rw [e]; rfl)
                                     have h2 : ¬ x = 32 := fun e => x32 (by rw [e]; rfl)
                                     rw [HXt.out, drop_head HXq.out, if_neg (fun e => h1 (List.cons.inj e).1), cutB_cons, if_neg h2, if_neg (by simp)])
                                   go_wp2_with fail
                                   all_goals (go_ret2; exact ⟨_, by rw [HXe3.out]; rfl, by rw [HXe3.out]; exact (HEM.out _ HB2.out).1, (HEM.out _ HB2.out).2⟩)
                               · have y2 : ((q : Int) == (s.length : Int) - 1) = false := beq_false_of_ne (by omega)
                                 have y3 : ¬ (q : Int) = (s.length : Int) - 1 := by omega
                                 have HXe3 := Lib.hid (show X = ([], 3) from by
                                   have h2 : ¬ x = 32 := fun e => x32 (by rw [e]; rfl)
                                   rw [HXt.out, drop_head HXq.out, if_neg (fun e => by
                                     have h3 := congrArg List.length (List.cons.inj e).2
                                     rw [List.length_drop] at h3
                                     simp at h3
                                     omega), cutB_cons, if_neg h2, if_neg (by simp)])
                                 go_wp2_with fail
                                 all_goals (go_ret2; exact ⟨_, by rw [HXe3.out]; rfl, by rw [HXe3.out]; exact (HEM.out _ HB2.out).1, (HEM.out _ HB2.out).2⟩)
             · have HST := Lib.hid (show ∀ y, s[q]? = some y → ¬ isDig y from fun y hy => by rw [List.getElem?_eq_none (by omega)] at hy; cases hy)
               have hqi : ¬ (q : Int) < (s.length : Int) := by omega
               have hql : decide ((q : Int) < (s.length : Int)) = false := decide_eq_false hqi
               obtain ⟨g1, g2, g3⟩ := digs_at hpq hq HD.out HST.out
               obtain ⟨d, hd0⟩ : ∃ d, d = digs (s.drop p) := ⟨_, rfl⟩
               have HDd := Lib.hid hd0
               have hdl : d.length = q - p := by rw [hd0]; exact g2
               have HDt := Lib.hid (show d = (s.drop p).take (q - p) from hd0.trans g1)
               have HDig := Lib.hid fun c (hc : c ∈ d) => digs_mem (s := s.drop p) (by rw [← HDd.out]; exact hc)
               have HMd := Lib.hid (show m = dcap d from by rw [HM.out, HDt.out])
               have HXs := Lib.hid (show X = if (snum (s.drop p)).2 ≠ 0 then ([], (snum (s.drop p)).2) else if ((snum (s.drop p)).1 : Int) ≤ lastI l then ([], 3) else if s.drop q = [125] then (l ++ [(snum (s.drop p)).1], 0) else if (cutB 32 (s.drop q)).2 = true then readS n (cutB 32 (s.drop q)).1 (l ++ [(snum (s.drop p)).1]) else ([], 3) from by rw [← g3]; exact HXn.out)
               have HBad := Lib.hid (show badDig d = true → X = ([], 3) from fun h => by rw [HXs.out, snum_none (by rw [← HDd.out]; exact h), if_pos (by decide)])
               have HBig := Lib.hid (show badDig d = false → 1023 < m → X = ([], 2) from fun h h2 => by
                 have h3 : 1023 < dval 0 d := by have := dcap_dval d; rw [← HMd.out] at this; omega
                 rw [HXs.out, snum_big (by rw [← HDd.out]; exact h) (by rw [← HDd.out]; exact h3), if_pos (by decide)])
               have HGood := Lib.hid (show badDig d = false → m ≤ 1023 → X = if (m : Int) ≤ lastI l then ([], 3) else if s.drop q = [125] then (l ++ [m], 0) else if (cutB 32 (s.drop q)).2 = true then readS n (cutB 32 (s.drop q)).1 (l ++ [m]) else ([], 3) from fun h h2 => by
                 have h3 : dval 0 d = m := by have := dcap_dval d; rw [← HMd.out] at this; omega
                 rw [HXs.out, snum_ok (by rw [← HDd.out]; exact h) (by rw [← HDd.out]; omega), if_neg (fun h => h rfl), ← HDd.out, h3])
               clear g1 g2 g3 hd0
               by_cases hj : p = q
               · have HXe2 := Lib.hid (HBad.out (by rw [List.length_eq_zero_iff.1 (by omega : d.length = 0)]; rfl))
                 have e1 : ((q : Int) == (p : Int)) = true := by rw [beq_iff_eq]; omega
                 have e2 : (q : Int) = (p : Int) := by omega
                 subst hj
                 go_wp2_with fail
                 go_ret2
                 obtain ⟨h1, h2⟩ := HEM.out _ HB.out
                 exact ⟨_, by rw [HXe2.out]; rfl, by rw [HXe2.out]; exact h1, h2⟩
               · have e1 : ((q : Int) == (p : Int)) = false := beq_false_of_ne (by omega)
                 have e2 : ¬ (q : Int) = (p : Int) := by omega
                 obtain ⟨c0, hc0⟩ : ∃ c0, s[p]? = some c0 := ⟨_, List.getElem?_eq_getElem (by omega)⟩
                 obtain ⟨hk5, hx5⟩ := List.getElem?_eq_some_iff.1 hc0
                 have hh : d.head? = some c0 := by
                   rw [HDt.out, drop_head hc0]
                   obtain ⟨j, hj2⟩ : ∃ j, q - p = j + 1 := ⟨q - p - 1, by omega⟩
                   rw [hj2]
                   rfl
                 have hbd : badDig d = (decide (p + 1 < q) && decide (c0 = 48)) := by
                   unfold badDig
                   have hne : d.isEmpty = false := by
                     cases d with
                     | nil => simp at hh
                     | cons _ _ => rfl
                   rw [hne, Bool.false_or, hh, hdl]
                   congr 1
                   · exact decide_eq_decide.2 (by omega)
                   · exact decide_eq_decide.2 ⟨fun h => Option.some.inj h, fun h => by rw [h]⟩
                 clear hc0 hh
                 by_cases z : c0.toNat = 48
                 · have z1 : ((c0.toNat : Int) == 48) = true := by rw [z]; rfl
                   have zc : c0 = 48 := UInt8.toNat_inj.1 z
                   by_cases z2 : p + 1 < q
                   · have HXe2 := Lib.hid (HBad.out (by rw [hbd, decide_eq_true z2, decide_eq_true zc]; rfl))
                     have z3 : (p : Int) + 1 < (q : Int) := by omega
                     have z4 : decide ((p : Int) + 1 < (q : Int)) = true := decide_eq_true z3
                     clear hbd zc
                     go_wp2_with fail
                     go_ret2
                     obtain ⟨h1, h2⟩ := HEM.out _ HB.out
                     exact ⟨_, by rw [HXe2.out]; rfl, by rw [HXe2.out]; exact h1, h2⟩
                   · have hnb : badDig d = false := by rw [hbd, decide_eq_false z2]; rfl
                     have HNb := Lib.hid hnb
                     have z3 : ¬ (p : Int) + 1 < (q : Int) := by omega
                     have z4 : decide ((p : Int) + 1 < (q : Int)) = false := decide_eq_false z3
                     clear hbd zc hnb
                     by_cases hbig : 1023 < m
                     · have HXe2 := Lib.hid (HBig.out HNb.out hbig)
                       have b1 : (1023 : Int) < (m : Int) := by omega
                       have b2 : decide ((1023 : Int) < (m : Int)) = true := decide_eq_true b1
                       go_wp2_with fail
                       go_ret2
                       obtain ⟨h1, h2⟩ := HEM.out _ HB.out
                       exact ⟨_, by rw [HXe2.out]; rfl, by rw [HXe2.out]; exact h1, h2⟩
                     · have HXg := Lib.hid (HGood.out HNb.out (by omega))
                       have b1 : ¬ (1023 : Int) < (m : Int) := by omega
                       have b2 : decide ((1023 : Int) < (m : Int)) = false := decide_eq_false b1
                       obtain ⟨qo, co, hsl⟩ := HO.out.sl
                       subst hsl
                       obtain ⟨L, hL⟩ : ∃ L, L = l.map fun (k : Nat) => (k : Int) := ⟨_, rfl⟩
                       have hLl : L.length = l.length := by rw [hL, List.length_map]
                       have HL := Lib.hid hL
                       obtain ⟨LL, hLL⟩ : ∃ n, n = L.length := ⟨_, rfl⟩
                       have hLLl : LL = l.length := hLL.trans hLl
                       have HLLl := Lib.hid hLLl
                       have HLL := Lib.hid hLL
                       have hLp : LL ≤ p := by omega
                       have hHO := HO.out
                       rw [← hL, ← hLL] at hHO
                       have HOL := Lib.hid hHO
                       rw [← hL, ← hLL]
                       have HLM := Lib.hid (show (l ++ [m]).map (fun (k : Nat) => (k : Int)) = L ++ [(m : Int)] from by rw [List.map_append, hL]; rfl)
                       have hl1 : l.length ≤ p := hlp
                       clear hL hLl hLL hLLl hHO HO
                       by_cases hl0 : l = []
                       · have HXt := Lib.hid (HXg.out.trans (if_neg (by rw [hl0, lastI_nil]; omega)))
                         have hL0 : L = [] := by rw [HL.out, hl0]; rfl
                         have hz0 : LL = 0 := by rw [HLL.out, hL0]; rfl
                         subst hz0
                         subst hL0
                         have hLlen : (([] : List Int)).length ≤ 100000 := by first | (rw [← HLL.out]; omega) | simp
                         go_wp2_with (at_builtin; refine wpList_appT rfl 57 undR _ _ rfl (w.heap.size) _ ([] : List Int) rfl (HOL.out.alloc _) _ (m : Int) _ rfl (by simp [go_sem]) (by first | omega | (simp; omega)) (by have := HB.out.size; simp; omega) ?_)
                         intro v' w2 hO2 hb2
                         have HO2 := Lib.hid hO2
                         have HB2 := Lib.hid ((HB.out.alloc HB.out.size _).trans hb2)
                         obtain ⟨qo2, co2, hsl2⟩ := hO2.sl
                         subst hsl2
                         clear hO2 hb2
                         have y2 : ((q : Int) == (s.length : Int) - 1) = false := beq_false_of_ne (by omega)
                         have y3 : ¬ (q : Int) = (s.length : Int) - 1 := by omega
                         have HXe3 := Lib.hid (show X = ([], 3) from by
                           rw [HXt.out, List.drop_eq_nil_of_le (by omega), if_neg (by simp)]
                           first | rfl | done)
                         go_wp2_with fail
                         go_ret2
                         obtain ⟨h1, h2⟩ := HEM.out _ HB2.out
                         exact ⟨_, by rw [HXe3.out]; rfl, by rw [HXe3.out]; exact h1, h2⟩
                       · obtain ⟨k, hk1, hk2⟩ := lastI_getLast hl0
                         have hlp0 : 0 < l.length := List.length_pos_iff.2 hl0
                         obtain ⟨L1, rfl⟩ : ∃ L1, LL = L1 + 1 := ⟨LL - 1, by have := HLLl.out; omega⟩
                         have hL1 : l.length - 1 = L1 := by have := HLLl.out; omega
                         obtain ⟨gb, goff, gc, zz, h1, hzz, hcell⟩ := HOL.out.rdl.at (k := L1) (by rw [← HLL.out]; omega)
                         simp only [Value.slice.injEq] at h1
                         obtain ⟨rfl, -, rfl⟩ := h1
                         obtain rfl : zz = (k : Int) := by
                           rw [HL.out, List.getElem?_map, ← hL1, hk1] at hzz
                           exact (Option.some.inj hzz).symm
                         have cc := hcell wr (Below.refl _ _)
                         by_cases hmk : m ≤ k
                         · have HXe2 := Lib.hid (HXg.out.trans (if_pos (by rw [hk2]; omega)))
                           have m1 : (m : Int) ≤ (k : Int) := by omega
                           have m2 : decide ((m : Int) ≤ (k : Int)) = true := decide_eq_true m1
                           clear hzz hcell hk1 hk2 hL1
                           go_wp2_with fail
                           go_ret2
                           obtain ⟨h1, h2⟩ := HEM.out _ HB.out
                           exact ⟨_, by rw [HXe2.out]; rfl, by rw [HXe2.out]; exact h1, h2⟩
                         · have HXt := Lib.hid (HXg.out.trans (if_neg (by rw [hk2]; omega)))
                           have m1 : ¬ (m : Int) ≤ (k : Int) := by omega
                           have m2 : decide ((m : Int) ≤ (k : Int)) = false := decide_eq_false m1
                           clear hzz hcell hk1 hk2 hL1
                           have hLlen : (L).length ≤ 100000 := by first | (rw [← HLL.out]; omega) | simp
                           go_wp2_with (at_builtin; refine wpList_appT rfl 57 undR _ _ rfl (w.heap.size) _ L rfl (HOL.out.alloc _) _ (m : Int) _ rfl (by simp [go_sem]) (by first | omega | (simp; omega)) (by have := HB.out.size; simp; omega) ?_)
                           intro v' w2 hO2 hb2
                           have HO2 := Lib.hid hO2
                           have HB2 := Lib.hid ((HB.out.alloc HB.out.size _).trans hb2)
                           obtain ⟨qo2, co2, hsl2⟩ := hO2.sl
                           subst hsl2
                           clear hO2 hb2
                           have y2 : ((q : Int) == (s.length : Int) - 1) = false := beq_false_of_ne (by omega)
                           have y3 : ¬ (q : Int) = (s.length : Int) - 1 := by omega
                           have HXe3 := Lib.hid (show X = ([], 3) from by
                             rw [HXt.out, List.drop_eq_nil_of_le (by omega), if_neg (by simp)]
                             first | rfl | done)
                           go_wp2_with fail
                           go_ret2
                           obtain ⟨h1, h2⟩ := HEM.out _ HB2.out
                           exact ⟨_, by rw [HXe3.out]; rfl, by rw [HXe3.out]; exact h1, h2⟩
                 · have z1 : ((c0.toNat : Int) == 48) = false := beq_false_of_ne (by omega)
                   have hnb : badDig d = false := by rw [hbd, decide_eq_false (fun e => z (by rw [e]; rfl) : ¬ c0 = 48)]; simp
                   have HNb := Lib.hid hnb
                   clear hbd hnb
                   by_cases hbig : 1023 < m
                   · have HXe2 := Lib.hid (HBig.out HNb.out hbig)
                     have b1 : (1023 : Int) < (m : Int) := by omega
                     have b2 : decide ((1023 : Int) < (m : Int)) = true := decide_eq_true b1
                     go_wp2_with fail
                     go_ret2
                     obtain ⟨h1, h2⟩ := HEM.out _ HB.out
                     exact ⟨_, by rw [HXe2.out]; rfl, by rw [HXe2.out]; exact h1, h2⟩
                   · have HXg := Lib.hid (HGood.out HNb.out (by omega))
                     have b1 : ¬ (1023 : Int) < (m : Int) := by omega
                     have b2 : decide ((1023 : Int) < (m : Int)) = false := decide_eq_false b1
                     obtain ⟨qo, co, hsl⟩ := HO.out.sl
                     subst hsl
                     obtain ⟨L, hL⟩ : ∃ L, L = l.map fun (k : Nat) => (k : Int) := ⟨_, rfl⟩
                     have hLl : L.length = l.length := by rw [hL, List.length_map]
                     have HL := Lib.hid hL
                     obtain ⟨LL, hLL⟩ : ∃ n, n = L.length := ⟨_, rfl⟩
                     have hLLl : LL = l.length := hLL.trans hLl
                     have HLLl := Lib.hid hLLl
                     have HLL := Lib.hid hLL
                     have hLp : LL ≤ p := by omega
                     have hHO := HO.out
                     rw [← hL, ← hLL] at hHO
                     have HOL := Lib.hid hHO
                     rw [← hL, ← hLL]
                     have HLM := Lib.hid (show (l ++ [m]).map (fun (k : Nat) => (k : Int)) = L ++ [(m : Int)] from by rw [List.map_append, hL]; rfl)
                     have hl1 : l.length ≤ p := hlp
                     clear hL hLl hLL hLLl hHO HO
                     by_cases hl0 : l = []
                     · have HXt := Lib.hid (HXg.out.trans (if_neg (by rw [hl0, lastI_nil]; omega)))
                       have hL0 : L = [] := by rw [HL.out, hl0]; rfl
                       have hz0 : LL = 0 := by rw [HLL.out, hL0]; rfl
                       subst hz0
                       subst hL0
                       have hLlen : (([] : List Int)).length ≤ 100000 := by first | (rw [← HLL.out]; omega) | simp
                       go_wp2_with (at_builtin; refine wpList_appT rfl 57 undR _ _ rfl (w.heap.size) _ ([] : List Int) rfl (HOL.out.alloc _) _ (m : Int) _ rfl (by simp [go_sem]) (by first | omega | (simp; omega)) (by have := HB.out.size; simp; omega) ?_)
                       intro v' w2 hO2 hb2
                       have HO2 := Lib.hid hO2
                       have HB2 := Lib.hid ((HB.out.alloc HB.out.size _).trans hb2)
                       obtain ⟨qo2, co2, hsl2⟩ := hO2.sl
                       subst hsl2
                       clear hO2 hb2
                       have y2 : ((q : Int) == (s.length : Int) - 1) = false := beq_false_of_ne (by omega)
                       have y3 : ¬ (q : Int) = (s.length : Int) - 1 := by omega
                       have HXe3 := Lib.hid (show X = ([], 3) from by
                         rw [HXt.out, List.drop_eq_nil_of_le (by omega), if_neg (by simp)]
                         first | rfl | done)
                       go_wp2_with fail
                       go_ret2
                       obtain ⟨h1, h2⟩ := HEM.out _ HB2.out
                       exact ⟨_, by rw [HXe3.out]; rfl, by rw [HXe3.out]; exact h1, h2⟩
                     · obtain ⟨k, hk1, hk2⟩ := lastI_getLast hl0
                       have hlp0 : 0 < l.length := List.length_pos_iff.2 hl0
                       obtain ⟨L1, rfl⟩ : ∃ L1, LL = L1 + 1 := ⟨LL - 1, by have := HLLl.out; omega⟩
                       have hL1 : l.length - 1 = L1 := by have := HLLl.out; omega
                       obtain ⟨gb, goff, gc, zz, h1, hzz, hcell⟩ := HOL.out.rdl.at (k := L1) (by rw [← HLL.out]; omega)
                       simp only [Value.slice.injEq] at h1
                       obtain ⟨rfl, -, rfl⟩ := h1
                       obtain rfl : zz = (k : Int) := by
                         rw [HL.out, List.getElem?_map, ← hL1, hk1] at hzz
                         exact (Option.some.inj hzz).symm
                       have cc := hcell wr (Below.refl _ _)
                       by_cases hmk : m ≤ k
                       · have HXe2 := Lib.hid (HXg.out.trans (if_pos (by rw [hk2]; omega)))
                         have m1 : (m : Int) ≤ (k : Int) := by omega
                         have m2 : decide ((m : Int) ≤ (k : Int)) = true := decide_eq_true m1
                         clear hzz hcell hk1 hk2 hL1
                         go_wp2_with fail
                         go_ret2
                         obtain ⟨h1, h2⟩ := HEM.out _ HB.out
                         exact ⟨_, by rw [HXe2.out]; rfl, by rw [HXe2.out]; exact h1, h2⟩
                       · have HXt := Lib.hid (HXg.out.trans (if_neg (by rw [hk2]; omega)))
                         have m1 : ¬ (m : Int) ≤ (k : Int) := by omega
                         have m2 : decide ((m : Int) ≤ (k : Int)) = false := decide_eq_false m1
                         clear hzz hcell hk1 hk2 hL1
                         have hLlen : (L).length ≤ 100000 := by first | (rw [← HLL.out]; omega) | simp
                         go_wp2_with (at_builtin; refine wpList_appT rfl 57 undR _ _ rfl (w.heap.size) _ L rfl (HOL.out.alloc _) _ (m : Int) _ rfl (by simp [go_sem]) (by first | omega | (simp; omega)) (by have := HB.out.size; simp; omega) ?_)
                         intro v' w2 hO2 hb2
                         have HO2 := Lib.hid hO2
                         have HB2 := Lib.hid ((HB.out.alloc HB.out.size _).trans hb2)
                         obtain ⟨qo2, co2, hsl2⟩ := hO2.sl
                         subst hsl2
                         clear hO2 hb2
                         have y2 : ((q : Int) == (s.length : Int) - 1) = false := beq_false_of_ne (by omega)
                         have y3 : ¬ (q : Int) = (s.length : Int) - 1 := by omega
                         have HXe3 := Lib.hid (show X = ([], 3) from by
                           rw [HXt.out, List.drop_eq_nil_of_le (by omega), if_neg (by simp)]
                           first | rfl | done)
                         go_wp2_with fail
                         go_ret2
                         obtain ⟨h1, h2⟩ := HEM.out _ HB2.out
                         exact ⟨_, by rw [HXe3.out]; rfl, by rw [HXe3.out]; exact h1, h2⟩
       · have hl2 : ((s.length : Int) == 2) = false := beq_false_of_ne (by omega)
         have hl3 : ¬ (s.length : Int) = 2 := by omega
         have HL2 := Lib.hid h2
         clear he h2
         go_wp2_with fail
         obtain ⟨W0, hW0⟩ : ∃ W0, W0 = w.alloc (.cells #[] 3) := ⟨_, rfl⟩
         have HO0 := Lib.hid (show OwnI w.heap.size W0 (.slice (some ⟨w.heap.size, 0, none⟩) 0 0) [] from by rw [hW0]; exact (HEM.out w (Below.refl _ _)).1)
         have HB0 := Lib.hid (show Below w.heap.size w W0 from by rw [hW0]; exact (HEM.out w (Below.refl _ _)).2)
         rw [← hW0]
         clear hW0
         go_loopw [4, 5] (fun ov at_ wr => ∃ (l : List Nat) (p : Nat), at_ = .int .i64 (p : Int) ∧ p ≤ s.length ∧ OwnI w.heap.size wr ov (l.map fun (k : Nat) => (k : Int)) ∧ Below w.heap.size w wr ∧ l.length ≤ p ∧ ∃ n, X = readS (n + 1) (s.drop p) l ∧ s.length - p < n + 1) (fun _ at_ _ => s.length + 1 - (intOf at_).toNat)
         case atStart => exact ⟨[], 1, rfl, by omega, HO0.out, HB0.out, by simp, s.length - 1, by rw [HXe.out]; congr 1; omega, by omega⟩
         case round =>
           obtain ⟨l, p, rfl, hp, hO, hb, hlp, n, hx, hn⟩ := hrel
           have HO := Lib.hid hO
           have HB := Lib.hid hb
           have HXn := Lib.hid (hx.trans (readS_succ n (s.drop p) l))
           rename World => Wo
           clear hO hb hx
           go_wp2_with fail
           go_loopw [5, 7] (fun at_ nv wr => ∃ q : Nat, at_ = .int .i64 (q : Int) ∧ p ≤ q ∧ q ≤ s.length ∧ (∀ x ∈ (s.drop p).take (q - p), isDig x) ∧ nv = .int .i64 (dcap ((s.drop p).take (q - p)) : Nat) ∧ wr = Wo) (fun at_ _ _ => s.length + 1 - (intOf at_).toNat)
           case atStart => exact ⟨p, rfl, Nat.le_refl _, hp, by simp, by rw [Nat.sub_self, List.take_zero]; rfl, rfl⟩
           case round =>
             obtain ⟨q, rfl, hpq, hq, hD, rfl, rfl⟩ := hrel
             have HD := Lib.hid hD
             have hcl := dcap_le ((s.drop p).take (q - p))
             obtain ⟨m, hm⟩ : ∃ m, m = dcap ((s.drop p).take (q - p)) := ⟨_, rfl⟩
             have HM := Lib.hid hm
             rw [← hm] at hcl ⊢
             clear hD hm
             by_cases hlt : q < s.length
             · obtain ⟨x, hx⟩ : ∃ x, s[q]? = some x := ⟨_, List.getElem?_eq_getElem hlt⟩
               have HXq := Lib.hid hx
               obtain ⟨hk4, hx4⟩ := List.getElem?_eq_some_iff.1 hx
               have hqi : (q : Int) < (s.length : Int) := by omega
               have hql : decide ((q : Int) < (s.length : Int)) = true := decide_eq_true hqi
               clear hx
               by_cases hd : isDig x
               · have d1 : decide ((48 : Int) ≤ (x.toNat : Int)) = true := decide_eq_true (by have := hd.1; omega)
                 have d2 : decide ((x.toNat : Int) ≤ 57) = true := decide_eq_true (by have := hd.2; omega)
                 have d3 : (48 : Int) ≤ (x.toNat : Int) := by have := hd.1; omega
                 have d4 : (x.toNat : Int) ≤ 57 := by have := hd.2; omega
                 have HT := Lib.hid (take_more hpq HXq.out)
                 have hxl : x.toNat < 256 := x.toNat_lt
                 by_cases h5 : m < 100000
                 · have d5 : decide ((m : Int) < 100000) = true := decide_eq_true (by omega)
                   have d6 : (m : Int) < 100000 := by omega
                   go_wp2_with fail
                   go_roundw
                   case rel =>
                     refine ⟨q + 1, by go_num, by omega, by omega, ?_, ?_, by first | trivial | rfl⟩
                     · intro y hy
                       rw [HT.out, List.mem_append, List.mem_singleton] at hy
                       rcases hy with hy | rfl
                       · exact HD.out y hy
                       · exact hd
                     · rw [HT.out, dcap_snoc, ← HM.out, if_pos h5]
                       refine congrArg (Value.int .i64) ?_
                       have h48 := hd.1
                       clear HD HM HT HXq HX HXn HO HB HEM
                       omega
                   case measure => simp [intOf]; omega
                 · have d5 : decide ((m : Int) < 100000) = false := decide_eq_false (by omega)
                   have d6 : ¬ (m : Int) < 100000 := by omega
                   go_wp2_with fail
                   go_roundw
                   case rel =>
                     refine ⟨q + 1, by go_num, by omega, by omega, ?_, ?_, by first | trivial | rfl⟩
                     · intro y hy
                       rw [HT.out, List.mem_append, List.mem_singleton] at hy
                       rcases hy with hy | rfl
                       · exact HD.out y hy
                       · exact hd
                     · rw [HT.out, dcap_snoc, ← HM.out, if_neg h5]
                   case measure => simp [intOf]; omega
               · have HST := Lib.hid (show ∀ y, s[q]? = some y → ¬ isDig y from fun y hy => by rw [HXq.out] at hy; cases hy; exact hd)
                 by_cases d0 : x.toNat < 48
                 · have d1 : decide ((48 : Int) ≤ (x.toNat : Int)) = false := decide_eq_false (by omega)
                   have d3 : ¬ (48 : Int) ≤ (x.toNat : Int) := by omega
                   obtain ⟨g1, g2, g3⟩ := digs_at hpq hq HD.out HST.out
                   obtain ⟨d, hd0⟩ : ∃ d, d = digs (s.drop p) := ⟨_, rfl⟩
                   have HDd := Lib.hid hd0
                   have hdl : d.length = q - p := by rw [hd0]; exact g2
                   have HDt := Lib.hid (show d = (s.drop p).take (q - p) from hd0.trans g1)
                   have HDig := Lib.hid fun c (hc : c ∈ d) => digs_mem (s := s.drop p) (by rw [← HDd.out]; exact hc)
                   have HMd := Lib.hid (show m = dcap d from by rw [HM.out, HDt.out])
                   have HXs := Lib.hid (show X = if (snum (s.drop p)).2 ≠ 0 then ([], (snum (s.drop p)).2) else if ((snum (s.drop p)).1 : Int) ≤ lastI l then ([], 3) else if s.drop q = [125] then (l ++ [(snum (s.drop p)).1], 0) else if (cutB 32 (s.drop q)).2 = true then readS n (cutB 32 (s.drop q)).1 (l ++ [(snum (s.drop p)).1]) else ([], 3) from by rw [← g3]; exact HXn.out)
                   have HBad := Lib.hid (show badDig d = true → X = ([], 3) from fun h => by rw [HXs.out, snum_none (by rw [← HDd.out]; exact h), if_pos (by decide)])
                   have HBig := Lib.hid (show badDig d = false → 1023 < m → X = ([], 2) from fun h h2 => by
                     have h3 : 1023 < dval 0 d := by have := dcap_dval d; rw [← HMd.out] at this; omega
                     rw [HXs.out, snum_big (by rw [← HDd.out]; exact h) (by rw [← HDd.out]; exact h3), if_pos (by decide)])
                   have HGood := Lib.hid (show badDig d = false → m ≤ 1023 → X = if (m : Int) ≤ lastI l then ([], 3) else if s.drop q = [125] then (l ++ [m], 0) else if (cutB 32 (s.drop q)).2 = true then readS n (cutB 32 (s.drop q)).1 (l ++ [m]) else ([], 3) from fun h h2 => by
                     have h3 : dval 0 d = m := by have := dcap_dval d; rw [← HMd.out] at this; omega
                     rw [HXs.out, snum_ok (by rw [← HDd.out]; exact h) (by rw [← HDd.out]; omega), if_neg (fun h => h rfl), ← HDd.out, h3])
                   clear g1 g2 g3 hd0
                   by_cases hj : p = q
                   · have HXe2 := Lib.hid (HBad.out (by rw [List.length_eq_zero_iff.1 (by omega : d.length = 0)]; rfl))
                     have e1 : ((q : Int) == (p : Int)) = true := by rw [beq_iff_eq]; omega
                     have e2 : (q : Int) = (p : Int) := by omega
                     subst hj
                     go_wp2_with fail
                     go_ret2
                     obtain ⟨h1, h2⟩ := HEM.out _ HB.out
                     exact ⟨_, by rw [HXe2.out]; rfl, by rw [HXe2.out]; exact h1, h2⟩
                   · have e1 : ((q : Int) == (p : Int)) = false := beq_false_of_ne (by omega)
                     have e2 : ¬ (q : Int) = (p : Int) := by omega
                     obtain ⟨c0, hc0⟩ : ∃ c0, s[p]? = some c0 := ⟨_, List.getElem?_eq_getElem (by omega)⟩
                     obtain ⟨hk5, hx5⟩ := List.getElem?_eq_some_iff.1 hc0
                     have hh : d.head? = some c0 := by
                       rw [HDt.out, drop_head hc0]
                       obtain ⟨j, hj2⟩ : ∃ j, q - p = j + 1 := ⟨q - p - 1, by omega⟩
                       rw [hj2]
                       rfl
                     have hbd : badDig d = (decide (p + 1 < q) && decide (c0 = 48)) := by
                       unfold badDig
                       have hne : d.isEmpty = false := by
                         cases d with
                         | nil => simp at hh
                         | cons _ _ => rfl
                       rw [hne, Bool.false_or, hh, hdl]
                       congr 1
                       · exact decide_eq_decide.2 (by omega)
                       · exact decide_eq_decide.2 ⟨fun h => Option.some.inj h, fun h => by rw [h]⟩
                     clear hc0 hh
                     by_cases z : c0.toNat = 48
                     · have z1 : ((c0.toNat : Int) == 48) = true := by rw [z]; rfl
                       have zc : c0 = 48 := UInt8.toNat_inj.1 z
                       by_cases z2 : p + 1 < q
                       · have HXe2 := Lib.hid (HBad.out (by rw [hbd, decide_eq_true z2, decide_eq_true zc]; rfl))
                         have z3 : (p : Int) + 1 < (q : Int) := by omega
                         have z4 : decide ((p : Int) + 1 < (q : Int)) = true := decide_eq_true z3
                         clear hbd zc
                         go_wp2_with fail
                         go_ret2
                         obtain ⟨h1, h2⟩ := HEM.out _ HB.out
                         exact ⟨_, by rw [HXe2.out]; rfl, by rw [HXe2.out]; exact h1, h2⟩
                       · have hnb : badDig d = false := by rw [hbd, decide_eq_false z2]; rfl
                         have HNb := Lib.hid hnb
                         have z3 : ¬ (p : Int) + 1 < (q : Int) := by omega
                         have z4 : decide ((p : Int) + 1 < (q : Int)) = false := decide_eq_false z3
                         clear hbd zc hnb
                         by_cases hbig : 1023 < m
                         · have HXe2 := Lib.hid (HBig.out HNb.out hbig)
                           have b1 : (1023 : Int) < (m : Int) := by omega
                           have b2 : decide ((1023 : Int) < (m : Int)) = true := decide_eq_true b1
                           go_wp2_with fail
                           go_ret2
                           obtain ⟨h1, h2⟩ := HEM.out _ HB.out
                           exact ⟨_, by rw [HXe2.out]; rfl, by rw [HXe2.out]; exact h1, h2⟩
                         · have HXg := Lib.hid (HGood.out HNb.out (by omega))
                           have b1 : ¬ (1023 : Int) < (m : Int) := by omega
                           have b2 : decide ((1023 : Int) < (m : Int)) = false := decide_eq_false b1
                           obtain ⟨qo, co, hsl⟩ := HO.out.sl
                           subst hsl
                           obtain ⟨L, hL⟩ : ∃ L, L = l.map fun (k : Nat) => (k : Int) := ⟨_, rfl⟩
                           have hLl : L.length = l.length := by rw [hL, List.length_map]
                           have HL := Lib.hid hL
                           obtain ⟨LL, hLL⟩ : ∃ n, n = L.length := ⟨_, rfl⟩
                           have hLLl : LL = l.length := hLL.trans hLl
                           have HLLl := Lib.hid hLLl
                           have HLL := Lib.hid hLL
                           have hLp : LL ≤ p := by omega
                           have hHO := HO.out
                           rw [← hL, ← hLL] at hHO
                           have HOL := Lib.hid hHO
                           rw [← hL, ← hLL]
                           have HLM := Lib.hid (show (l ++ [m]).map (fun (k : Nat) => (k : Int)) = L ++ [(m : Int)] from by rw [List.map_append, hL]; rfl)
                           have hl1 : l.length ≤ p := hlp
                           clear hL hLl hLL hLLl hHO HO
                           by_cases hl0 : l = []
                           · have HXt := Lib.hid (HXg.out.trans (if_neg (by rw [hl0, lastI_nil]; omega)))
                             have hL0 : L = [] := by rw [HL.out, hl0]; rfl
                             have hz0 : LL = 0 := by rw [HLL.out, hL0]; rfl
                             subst hz0
                             subst hL0
                             have hLlen : (([] : List Int)).length ≤ 100000 := by first | (rw [← HLL.out]; omega) | simp
                             go_wp2_with (at_builtin; refine wpList_appT rfl 57 undR _ _ rfl (w.heap.size) _ ([] : List Int) rfl (HOL.out.alloc _) _ (m : Int) _ rfl (by simp [go_sem]) (by first | omega | (simp; omega)) (by have := HB.out.size; simp; omega) ?_)
                             intro v' w2 hO2 hb2
                             have HO2 := Lib.hid hO2
                             have HB2 := Lib.hid ((HB.out.alloc HB.out.size _).trans hb2)
                             obtain ⟨qo2, co2, hsl2⟩ := hO2.sl
                             subst hsl2
                             clear hO2 hb2
                             by_cases x32 : x.toNat = 32
                             · have y1 : ((x.toNat : Int) == 32) = true := by rw [x32]; rfl
                               have hx32 : x = 32 := UInt8.toNat_inj.1 x32
                               have HXe3 := Lib.hid (show X = readS n (s.drop (q + 1)) (l ++ [m]) from by
                                 rw [HXt.out, drop_head HXq.out, hx32, if_neg (by simp), cutB_cons, if_pos rfl, if_pos rfl])
                               obtain ⟨n', hn'⟩ : ∃ n', n = n' + 1 := ⟨n - 1, by omega⟩
                               go_wp2_with fail
                               go_roundw
                               case rel => exact ⟨l ++ [m], q + 1, by go_num, by omega, by rw [HLM.out]; exact HO2.out, HB2.out, by rw [List.length_append, List.length_singleton]; omega, n', by rw [HXe3.out, hn'], by omega⟩
                               case measure => simp [intOf]; omega
                             · have y1 : ((x.toNat : Int) == 32) = false := beq_false_of_ne (by omega)
                               by_cases hend : q + 1 = s.length
                               · have y2 : ((q : Int) == (s.length : Int) - 1) = true := by rw [beq_iff_eq]; omega
                                 have y3 : decide ((q : Int) = (s.length : Int) - 1) = true := decide_eq_true (by omega)
                                 by_cases x125 : x.toNat = 125
                                 · have y4 : ((x.toNat : Int) == 125) = true := by rw [x125]; rfl
                                   have hx125 : x = 125 := UInt8.toNat_inj.1 x125
                                   have HXe3 := Lib.hid (show X = (l ++ [m], 0) from by
                                     rw [HXt.out, drop_head HXq.out, hx125, List.drop_eq_nil_of_le (by omega), if_pos rfl])
                                   go_wp2_with fail
                                   all_goals (go_ret2; exact ⟨_, by rw [HXe3.out]; rfl, by rw [HXe3.out]; show OwnI _ _ _ ((l ++ [m]).map _); rw [HLM.out]; exact HO2.out, HB2.out⟩)
                                 · have y4 : ((x.toNat : Int) == 125) = false := beq_false_of_ne (by omega)
                                   have HXe3 := Lib.hid (show X = ([], 3) from by
                                     have h1 : ¬ x = 125 := fun e => x125 (by rw [e]; rfl)
                                     have h2 : ¬ x = 32 := fun e => x32 (by rw [e]; rfl)
                                     rw [HXt.out, drop_head HXq.out, if_neg (fun e => h1 (List.cons.inj e).1), cutB_cons, if_neg h2, if_neg (by simp)])
                                   go_wp2_with fail
                                   all_goals (go_ret2; exact ⟨_, by rw [HXe3.out]; rfl, by rw [HXe3.out]; exact (HEM.out _ HB2.out).1, (HEM.out _ HB2.out).2⟩)
                               · have y2 : ((q : Int) == (s.length : Int) - 1) = false := beq_false_of_ne (by omega)
                                 have y3 : ¬ (q : Int) = (s.length : Int) - 1 := by omega
                                 have HXe3 := Lib.hid (show X = ([], 3) from by
                                   have h2 : ¬ x = 32 := fun e => x32 (by rw [e]; rfl)
                                   rw [HXt.out, drop_head HXq.out, if_neg (fun e => by
                                     have h3 := congrArg List.length (List.cons.inj e).2
                                     rw [List.length_drop] at h3
                                     simp at h3
                                     omega), cutB_cons, if_neg h2, if_neg (by simp)])
                                 go_wp2_with fail
                                 all_goals (go_ret2; exact ⟨_, by rw [HXe3.out]; rfl, by rw [HXe3.out]; exact (HEM.out _ HB2.out).1, (HEM.out _ HB2.out).2⟩)
                           · obtain ⟨k, hk1, hk2⟩ := lastI_getLast hl0
                             have hlp0 : 0 < l.length := List.length_pos_iff.2 hl0
                             obtain ⟨L1, rfl⟩ : ∃ L1, LL = L1 + 1 := ⟨LL - 1, by have := HLLl.out; omega⟩
                             have hL1 : l.length - 1 = L1 := by have := HLLl.out; omega
                             obtain ⟨gb, goff, gc, zz, h1, hzz, hcell⟩ := HOL.out.rdl.at (k := L1) (by rw [← HLL.out]; omega)
                             simp only [Value.slice.injEq] at h1
                             obtain ⟨rfl, -, rfl⟩ := h1
                             obtain rfl : zz = (k : Int) := by
                               rw [HL.out, List.getElem?_map, ← hL1, hk1] at hzz
                               exact (Option.some.inj hzz).symm
                             have cc := hcell wr (Below.refl _ _)
                             by_cases hmk : m ≤ k
                             · have HXe2 := Lib.hid (HXg.out.trans (if_pos (by rw [hk2]; omega)))
                               have m1 : (m : Int) ≤ (k : Int) := by omega
                               have m2 : decide ((m : Int) ≤ (k : Int)) = true := decide_eq_true m1
                               clear hzz hcell hk1 hk2 hL1
                               go_wp2_with fail
                               go_ret2
                               obtain ⟨h1, h2⟩ := HEM.out _ HB.out
                               exact ⟨_, by rw [HXe2.out]; rfl, by rw [HXe2.out]; exact h1, h2⟩
                             · have HXt := Lib.hid (HXg.out.trans (if_neg (by rw [hk2]; omega)))
                               have m1 : ¬ (m : Int) ≤ (k : Int) := by omega
                               have m2 : decide ((m : Int) ≤ (k : Int)) = false := decide_eq_false m1
                               clear hzz hcell hk1 hk2 hL1
                               have hLlen : (L).length ≤ 100000 := by first | (rw [← HLL.out]; omega) | simp
                               go_wp2_with (at_builtin; refine wpList_appT rfl 57 undR _ _ rfl (w.heap.size) _ L rfl (HOL.out.alloc _) _ (m : Int) _ rfl (by simp [go_sem]) (by first | omega | (simp; omega)) (by have := HB.out.size; simp; omega) ?_)
                               intro v' w2 hO2 hb2
                               have HO2 := Lib.hid hO2
                               have HB2 := Lib.hid ((HB.out.alloc HB.out.size _).trans hb2)
                               obtain ⟨qo2, co2, hsl2⟩ := hO2.sl
                               subst hsl2
                               clear hO2 hb2
                               by_cases x32 : x.toNat = 32
                               · have y1 : ((x.toNat : Int) == 32) = true := by rw [x32]; rfl
                                 have hx32 : x = 32 := UInt8.toNat_inj.1 x32
                                 have HXe3 := Lib.hid (show X = readS n (s.drop (q + 1)) (l ++ [m]) from by
                                   rw [HXt.out, drop_head HXq.out, hx32, if_neg (by simp), cutB_cons, if_pos rfl, if_pos rfl])
                                 obtain ⟨n', hn'⟩ : ∃ n', n = n' + 1 := ⟨n - 1, by omega⟩
                                 go_wp2_with fail
                                 go_roundw
                                 case rel => exact ⟨l ++ [m], q + 1, by go_num, by omega, by rw [HLM.out]; exact HO2.out, HB2.out, by rw [List.length_append, List.length_singleton]; omega, n', by rw [HXe3.out, hn'], by omega⟩
                                 case measure => simp [intOf]; omega
                               · have y1 : ((x.toNat : Int) == 32) = false := beq_false_of_ne (by omega)
                                 by_cases hend : q + 1 = s.length
                                 · have y2 : ((q : Int) == (s.length : Int) - 1) = true := by rw [beq_iff_eq]; omega
                                   have y3 : decide ((q : Int) = (s.length : Int) - 1) = true := decide_eq_true (by omega)
                                   by_cases x125 : x.toNat = 125
                                   · have y4 : ((x.toNat : Int) == 125) = true := by rw [x125]; rfl
                                     have hx125 : x = 125 := UInt8.toNat_inj.1 x125
                                     have HXe3 := Lib.hid (show X = (l ++ [m], 0) from by
                                       rw [HXt.out, drop_head HXq.out, hx125, List.drop_eq_nil_of_le (by omega), if_pos rfl])
                                     go_wp2_with fail
                                     all_goals (go_ret2; exact ⟨_, by rw [HXe3.out]; rfl, by rw [HXe3.out]; show OwnI _ _ _ ((l ++ [m]).map _); rw [HLM.out]; exact HO2.out, HB2.out⟩)
                                   · have y4 : ((x.toNat : Int) == 125) = false := beq_false_of_ne (by omega)
                                     have HXe3 := Lib.hid (show X = ([], 3) from by
                                       have h1 : ¬ x = 125 := fun e => x125 (by rw [e]; rfl)
                                       have h2 : ¬ x = 32 := fun e => x32 (by rw [e]; rfl)
                                       rw [HXt.out, drop_head HXq.out, if_neg (fun e => h1 (List.cons.inj e).1), cutB_cons, if_neg h2, if_neg (by simp)])
                                     go_wp2_with fail
                                     all_goals (go_ret2; exact ⟨_, by rw [HXe3.out]; rfl, by rw [HXe3.out]; exact (HEM.out _ HB2.out).1, (HEM.out _ HB2.out).2⟩)
                                 · have y2 : ((q : Int) == (s.length : Int) - 1) = false := beq_false_of_ne (by omega)
                                   have y3 : ¬ (q : Int) = (s.length : Int) - 1 := by omega
                                   have HXe3 := Lib.hid (show X = ([], 3) from by
                                     have h2 : ¬ x = 32 := fun e => x32 (by rw [e]; rfl)
                                     rw [HXt.out, drop_head HXq.out, if_neg (fun e => by
                                       have h3 := congrArg List.length (List.cons.inj e).2
                                       rw [List.length_drop] at h3
                                       simp at h3
                                       omega), cutB_cons, if_neg h2, if_neg (by simp)])
                                   go_wp2_with fail
                                   all_goals (go_ret2; exact ⟨_, by rw [HXe3.out]; rfl, by rw [HXe3.out]; exact (HEM.out _ HB2.out).1, (HEM.out _ HB2.out).2⟩)
                     · have z1 : ((c0.toNat : Int) == 48) = false := beq_false_of_ne (by omega)
                       have hnb : badDig d = false := by rw [hbd, decide_eq_false (fun e => z (by rw [e]; rfl) : ¬ c0 = 48)]; simp
                       have HNb := Lib.hid hnb
                       clear hbd hnb
                       by_cases hbig : 1023 < m
                       · have HXe2 := Lib.hid (HBig.out HNb.out hbig)
                         have b1 : (1023 : Int) < (m : Int) := by omega
                         have b2 : decide ((1023 : Int) < (m : Int)) = true := decide_eq_true b1
                         go_wp2_with fail
                         go_ret2
                         obtain ⟨h1, h2⟩ := HEM.out _ HB.out
                         exact ⟨_, by rw [HXe2.out]; rfl, by rw [HXe2.out]; exact h1, h2⟩
                       · have HXg := Lib.hid (HGood.out HNb.out (by omega))
                         have b1 : ¬ (1023 : Int) < (m : Int) := by omega
                         have b2 : decide ((1023 : Int) < (m : Int)) = false := decide_eq_false b1
                         obtain ⟨qo, co, hsl⟩ := HO.out.sl
                         subst hsl
                         obtain ⟨L, hL⟩ : ∃ L, L = l.map fun (k : Nat) => (k : Int) := ⟨_, rfl⟩
                         have hLl : L.length = l.length := by rw [hL, List.length_map]
                         have HL := Lib.hid hL
                         obtain ⟨LL, hLL⟩ : ∃ n, n = L.length := ⟨_, rfl⟩
                         have hLLl : LL = l.length := hLL.trans hLl
                         have HLLl := Lib.hid hLLl
                         have HLL := Lib.hid hLL
                         have hLp : LL ≤ p := by omega
                         have hHO := HO.out
                         rw [← hL, ← hLL] at hHO
                         have HOL := Lib.hid hHO
                         rw [← hL, ← hLL]
                         have HLM := Lib.hid (show (l ++ [m]).map (fun (k : Nat) => (k : Int)) = L ++ [(m : Int)] from by rw [List.map_append, hL]; rfl)
                         have hl1 : l.length ≤ p := hlp
                         clear hL hLl hLL hLLl hHO HO
                         by_cases hl0 : l = []
                         · have HXt := Lib.hid (HXg.out.trans (if_neg (by rw [hl0, lastI_nil]; omega)))
                           have hL0 : L = [] := by rw [HL.out, hl0]; rfl
                           have hz0 : LL = 0 := by rw [HLL.out, hL0]; rfl
                           subst hz0
                           subst hL0
                           have hLlen : (([] : List Int)).length ≤ 100000 := by first | (rw [← HLL.out]; omega) | simp
                           go_wp2_with (at_builtin; refine wpList_appT rfl 57 undR _ _ rfl (w.heap.size) _ ([] : List Int) rfl (HOL.out.alloc _) _ (m : Int) _ rfl (by simp [go_sem]) (by first | omega | (simp; omega)) (by have := HB.out.size; simp; omega) ?_)
                           intro v' w2 hO2 hb2
                           have HO2 := Lib.hid hO2
                           have HB2 := Lib.hid ((HB.out.alloc HB.out.size _).trans hb2)
                           obtain ⟨qo2, co2, hsl2⟩ := hO2.sl
                           subst hsl2
                           clear hO2 hb2
                           by_cases x32 : x.toNat = 32
                           · have y1 : ((x.toNat : Int) == 32) = true := by rw [x32]; rfl
                             have hx32 : x = 32 := UInt8.toNat_inj.1 x32
                             have HXe3 := Lib.hid (show X = readS n (s.drop (q + 1)) (l ++ [m]) from by
                               rw [HXt.out, drop_head HXq.out, hx32, if_neg (by simp), cutB_cons, if_pos rfl, if_pos rfl])
                             obtain ⟨n', hn'⟩ : ∃ n', n = n' + 1 := ⟨n - 1, by omega⟩
                             go_wp2_with fail
                             go_roundw
                             case rel => exact ⟨l ++ [m], q + 1, by go_num, by omega, by rw [HLM.out]; exact HO2.out, HB2.out, by rw [List.length_append, List.length_singleton]; omega, n', by rw [HXe3.out, hn'], by omega⟩
                             case measure => simp [intOf]; omega
                           · have y1 : ((x.toNat : Int) == 32) = false := beq_false_of_ne (by omega)
                             by_cases hend : q + 1 = s.length
                             · have y2 : ((q : Int) == (s.length : Int) - 1) = true := by rw [beq_iff_eq]; omega
                               have y3 : decide ((q : Int) = (s.length : Int) - 1) = true := decide_eq_true (by omega)
                               by_cases x125 : x.toNat = 125
                               · have y4 : ((x.toNat : Int) == 125) = true := by rw [x125]; rfl
                                 have hx125 : x = 125 := UInt8.toNat_inj.1 x125
                                 have HXe3 := Lib.hid (show X = (l ++ [m], 0) from by
                                   rw [HXt.out, drop_head HXq.out, hx125, List.drop_eq_nil_of_le (by omega), if_pos rfl])
                                 go_wp2_with fail
                                 all_goals (go_ret2; exact ⟨_, by rw [HXe3.out]; rfl, by rw [HXe3.out]; show OwnI _ _ _ ((l ++ [m]).map _); rw [HLM.out]; exact HO2.out, HB2.out⟩)
                               · have y4 : ((x.toNat : Int) == 125) = false := beq_false_of_ne (by omega)
                                 have HXe3 := Lib.hid (show X = ([], 3) from by
                                   have h1 : ¬ x = 125 := fun e => x125 (by rw [e]; rfl)
                                   have h2 : ¬ x = 32 := fun e => x32 (by rw [e]; rfl)
                                   rw [HXt.out, drop_head HXq.out, if_neg (fun e => h1 (List.cons.inj e).1), cutB_cons, if_neg h2, if_neg (by simp)])
                                 go_wp2_with fail
                                 all_goals (go_ret2; exact ⟨_, by rw [HXe3.out]; rfl, by rw [HXe3.out]; exact (HEM.out _ HB2.out).1, (HEM.out _ HB2.out).2⟩)
                             · have y2 : ((q : Int) == (s.length : Int) - 1) = false := beq_false_of_ne (by omega)
                               have y3 : ¬ (q : Int) = (s.length : Int) - 1 := by omega
                               have HXe3 := Lib.hid (show X = ([], 3) from by
                                 have h2 : ¬ x = 32 := fun e => x32 (by rw [e]; rfl)
                                 rw [HXt.out, drop_head HXq.out, if_neg (fun e => by
                                   have h3 := congrArg List.length (List.cons.inj e).2
                                   rw [List.length_drop] at h3
                                   simp at h3
                                   omega), cutB_cons, if_neg h2, if_neg (by simp)])
                               go_wp2_with fail
                               all_goals (go_ret2; exact ⟨_, by rw [HXe3.out]; rfl, by rw [HXe3.out]; exact (HEM.out _ HB2.out).1, (HEM.out _ HB2.out).2⟩)
                         · obtain ⟨k, hk1, hk2⟩ := lastI_getLast hl0
                           have hlp0 : 0 < l.length := List.length_pos_iff.2 hl0
                           obtain ⟨L1, rfl⟩ : ∃ L1, LL = L1 + 1 := ⟨LL - 1, by have := HLLl.out; omega⟩
                           have hL1 : l.length - 1 = L1 := by have := HLLl.out; omega
                           obtain ⟨gb, goff, gc, zz, h1, hzz, hcell⟩ := HOL.out.rdl.at (k := L1) (by rw [← HLL.out]; omega)
                           simp only [Value.slice.injEq] at h1
                           obtain ⟨rfl, -, rfl⟩ := h1
                           obtain rfl : zz = (k : Int) := by
                             rw [HL.out, List.getElem?_map, ← hL1, hk1] at hzz
                             exact (Option.some.inj hzz).symm
                           have cc := hcell wr (Below.refl _ _)
                           by_cases hmk : m ≤ k
                           · have HXe2 := Lib.hid (HXg.out.trans (if_pos (by rw [hk2]; omega)))
                             have m1 : (m : Int) ≤ (k : Int) := by omega
                             have m2 : decide ((m : Int) ≤ (k : Int)) = true := decide_eq_true m1
                             clear hzz hcell hk1 hk2 hL1
                             go_wp2_with fail
                             go_ret2
                             obtain ⟨h1, h2⟩ := HEM.out _ HB.out
                             exact ⟨_, by rw [HXe2.out]; rfl, by rw [HXe2.out]; exact h1, h2⟩
                           · have HXt := Lib.hid (HXg.out.trans (if_neg (by rw [hk2]; omega)))
                             have m1 : ¬ (m : Int) ≤ (k : Int) := by omega
                             have m2 : decide ((m : Int) ≤ (k : Int)) = false := decide_eq_false m1
                             clear hzz hcell hk1 hk2 hL1
                             have hLlen : (L).length ≤ 100000 := by first | (rw [← HLL.out]; omega) | simp
                             go_wp2_with (at_builtin; refine wpList_appT rfl 57 undR _ _ rfl (w.heap.size) _ L rfl (HOL.out.alloc _) _ (m : Int) _ rfl (by simp [go_sem]) (by first | omega | (simp; omega)) (by have := HB.out.size; simp; omega) ?_)
                             intro v' w2 hO2 hb2
                             have HO2 := Lib.hid hO2
                             have HB2 := Lib.hid ((HB.out.alloc HB.out.size _).trans hb2)
                             obtain ⟨qo2, co2, hsl2⟩ := hO2.sl
                             subst hsl2
                             clear hO2 hb2
                             by_cases x32 : x.toNat = 32
                             · have y1 : ((x.toNat : Int) == 32) = true := by rw [x32]; rfl
                               have hx32 : x = 32 := UInt8.toNat_inj.1 x32
                               have HXe3 := Lib.hid (show X = readS n (s.drop (q + 1)) (l ++ [m]) from by
                                 rw [HXt.out, drop_head HXq.out, hx32, if_neg (by simp), cutB_cons, if_pos rfl, if_pos rfl])
                               obtain ⟨n', hn'⟩ : ∃ n', n = n' + 1 := ⟨n - 1, by omega⟩
                               go_wp2_with fail
                               go_roundw
                               case rel => exact ⟨l ++ [m], q + 1, by go_num, by omega, by rw [HLM.out]; exact HO2.out, HB2.out, by rw [List.length_append, List.length_singleton]; omega, n', by rw [HXe3.out, hn'], by omega⟩
                               case measure => simp [intOf]; omega
                             · have y1 : ((x.toNat : Int) == 32) = false := beq_false_of_ne (by omega)
                               by_cases hend : q + 1 = s.length
                               · have y2 : ((q : Int) == (s.length : Int) - 1) = true := by rw [beq_iff_eq]; omega
                                 have y3 : decide ((q : Int) = (s.length : Int) - 1) = true := decide_eq_true (by omega)
                                 by_cases x125 : x.toNat = 125
                                 · have y4 : ((x.toNat : Int) == 125) = true := by rw [x125]; rfl
                                   have hx125 : x = 125 := UInt8.toNat_inj.1 x125
                                   have HXe3 := Lib.hid (show X = (l ++ [m], 0) from by
                                     rw [HXt.out, drop_head HXq.out, hx125, List.drop_eq_nil_of_le (by omega), if_pos rfl])
                                   go_wp2_with fail
                                   all_goals (go_ret2; exact ⟨_, by rw [HXe3.out]; rfl, by rw [HXe3.out]; show OwnI _ _ _ ((l ++ [m]).map _); rw [HLM.out]; exact HO2.out, HB2.out⟩)
                                 · have y4 : ((x.toNat : Int) == 125) = false := beq_false_of_ne (by omega)
                                   have HXe3 := Lib.hid (show X = ([], 3) from by
                                     have h1 : ¬ x = 125 := fun e => x125 (by rw [e]; rfl)
                                     have h2 : ¬ x = 32 := fun e => x32 (by rw [e]; rfl)
                                     rw [HXt.out, drop_head HXq.out, if_neg (fun e => h1 (List.cons.inj e).1), cutB_cons, if_neg h2, if_neg (by simp)])
                                   go_wp2_with fail
                                   all_goals (go_ret2; exact ⟨_, by rw [HXe3.out]; rfl, by rw [HXe3.out]; exact (HEM.out _ HB2.out).1, (HEM.out _ HB2.out).2⟩)
                               · have y2 : ((q : Int) == (s.length : Int) - 1) = false := beq_false_of_ne (by omega)
                                 have y3 : ¬ (q : Int) = (s.length : Int) - 1 := by omega
                                 have HXe3 := Lib.hid (show X = ([], 3) from by
                                   have h2 : ¬ x = 32 := fun e => x32 (by rw [e]; rfl)
                                   rw [HXt.out, drop_head HXq.out, if_neg (fun e => by
                                     have h3 := congrArg List.length (List.cons.inj e).2
                                     rw [List.length_drop] at h3
                                     simp at h3
                                     omega), cutB_cons, if_neg h2, if_neg (by simp)])
                                 go_wp2_with fail
                                 all_goals (go_ret2; exact ⟨_, by rw [HXe3.out]; rfl, by rw [HXe3.out]; exact (HEM.out _ HB2.out).1, (HEM.out _ HB2.out).2⟩)
                 · have d1 : decide ((48 : Int) ≤ (x.toNat : Int)) = true := decide_eq_true (by omega)
                   have d2 : decide ((x.toNat : Int) ≤ 57) = false := decide_eq_false (by unfold isDig at hd; omega)
                   have d3 : (48 : Int) ≤ (x.toNat : Int) := by omega
                   have d4 : ¬ (x.toNat : Int) ≤ 57 := by unfold isDig at hd; omega
                   obtain ⟨g1, g2, g3⟩ := digs_at hpq hq HD.out HST.out
                   obtain ⟨d, hd0⟩ : ∃ d, d = digs (s.drop p) := ⟨_, rfl⟩
                   have HDd := Lib.hid hd0
                   have hdl : d.length = q - p := by rw [hd0]; exact g2
                   have HDt := Lib.hid (show d = (s.drop p).take (q - p) from hd0.trans g1)
                   have HDig := Lib.hid fun c (hc : c ∈ d) => digs_mem (s := s.drop p) (by rw [← HDd.out]; exact hc)
                   have HMd := Lib.hid (show m = dcap d from by rw [HM.out, HDt.out])
                   have HXs := Lib.hid (show X = if (snum (s.drop p)).2 ≠ 0 then ([], (snum (s.drop p)).2) else if ((snum (s.drop p)).1 : Int) ≤ lastI l then ([], 3) else if s.drop q = [125] then (l ++ [(snum (s.drop p)).1], 0) else if (cutB 32 (s.drop q)).2 = true then readS n (cutB 32 (s.drop q)).1 (l ++ [(snum (s.drop p)).1]) else ([], 3) from by rw [← g3]; exact HXn.out)
                   have HBad := Lib.hid (show badDig d = true → X = ([], 3) from fun h => by rw [HXs.out, snum_none (by rw [← HDd.out]; exact h), if_pos (by decide)])
                   have HBig := Lib.hid (show badDig d = false → 1023 < m → X = ([], 2) from fun h h2 => by
                     have h3 : 1023 < dval 0 d := by have := dcap_dval d; rw [← HMd.out] at this; omega
                     rw [HXs.out, snum_big (by rw [← HDd.out]; exact h) (by rw [← HDd.out]; exact h3), if_pos (by decide)])
                   have HGood := Lib.hid (show badDig d = false → m ≤ 1023 → X = if (m : Int) ≤ lastI l then ([], 3) else if s.drop q = [125] then (l ++ [m], 0) else if (cutB 32 (s.drop q)).2 = true then readS n (cutB 32 (s.drop q)).1 (l ++ [m]) else ([], 3) from fun h h2 => by
                     have h3 : dval 0 d = m := by have := dcap_dval d; rw [← HMd.out] at this; omega
                     rw [HXs.out, snum_ok (by rw [← HDd.out]; exact h) (by rw [← HDd.out]; omega), if_neg (fun h => h rfl), ← HDd.out, h3])
                   clear g1 g2 g3 hd0
                   by_cases hj : p = q
                   · have HXe2 := Lib.hid (HBad.out (by rw [List.length_eq_zero_iff.1 (by omega : d.length = 0)]; rfl))
                     have e1 : ((q : Int) == (p : Int)) = true := by rw [beq_iff_eq]; omega
                     have e2 : (q : Int) = (p : Int) := by omega
                     subst hj
                     go_wp2_with fail
                     go_ret2
                     obtain ⟨h1, h2⟩ := HEM.out _ HB.out
                     exact ⟨_, by rw [HXe2.out]; rfl, by rw [HXe2.out]; exact h1, h2⟩
                   · have e1 : ((q : Int) == (p : Int)) = false := beq_false_of_ne (by omega)
                     have e2 : ¬ (q : Int) = (p : Int) := by omega
                     obtain ⟨c0, hc0⟩ : ∃ c0, s[p]? = some c0 := ⟨_, List.getElem?_eq_getElem (by omega)⟩
                     obtain ⟨hk5, hx5⟩ := List.getElem?_eq_some_iff.1 hc0
                     have hh : d.head? = some c0 := by
                       rw [HDt.out, drop_head hc0]
                       obtain ⟨j, hj2⟩ : ∃ j, q - p = j + 1 := ⟨q - p - 1, by omega⟩
                       rw [hj2]
                       rfl
                     have hbd : badDig d = (decide (p + 1 < q) && decide (c0 = 48)) := by
                       unfold badDig
                       have hne : d.isEmpty = false := by
                         cases d with
                         | nil => simp at hh
                         | cons _ _ => rfl
                       rw [hne, Bool.false_or, hh, hdl]
                       congr 1
                       · exact decide_eq_decide.2 (by omega)
                       · exact decide_eq_decide.2 ⟨fun h => Option.some.inj h, fun h => by rw [h]⟩
                     clear hc0 hh
                     by_cases z : c0.toNat = 48
                     · have z1 : ((c0.toNat : Int) == 48) = true := by rw [z]; rfl
                       have zc : c0 = 48 := UInt8.toNat_inj.1 z
                       by_cases z2 : p + 1 < q
                       · have HXe2 := Lib.hid (HBad.out (by rw [hbd, decide_eq_true z2, decide_eq_true zc]; rfl))
                         have z3 : (p : Int) + 1 < (q : Int) := by omega
                         have z4 : decide ((p : Int) + 1 < (q : Int)) = true := decide_eq_true z3
                         clear hbd zc
                         go_wp2_with fail
                         go_ret2
                         obtain ⟨h1, h2⟩ := HEM.out _ HB.out
                         exact ⟨_, by rw [HXe2.out]; rfl, by rw [HXe2.out]; exact h1, h2⟩
                       · have hnb : badDig d = false := by rw [hbd, decide_eq_false z2]; rfl
                         have HNb := Lib.hid hnb
                         have z3 : ¬ (p : Int) + 1 < (q : Int) := by omega
                         have z4 : decide ((p : Int) + 1 < (q : Int)) = false := decide_eq_false z3
                         clear hbd zc hnb
                         by_cases hbig : 1023 < m
                         · have HXe2 := Lib.hid (HBig.out HNb.out hbig)
                           have b1 : (1023 : Int) < (m : Int) := by omega
                           have b2 : decide ((1023 : Int) < (m : Int)) = true := decide_eq_true b1
                           go_wp2_with fail
                           go_ret2
                           obtain ⟨h1, h2⟩ := HEM.out _ HB.out
                           exact ⟨_, by rw [HXe2.out]; rfl, by rw [HXe2.out]; exact h1, h2⟩
                         · have HXg := Lib.hid (HGood.out HNb.out (by omega))
                           have b1 : ¬ (1023 : Int) < (m : Int) := by omega
                           have b2 : decide ((1023 : Int) < (m : Int)) = false := decide_eq_false b1
                           obtain ⟨qo, co, hsl⟩ := HO.out.sl
                           subst hsl
                           obtain ⟨L, hL⟩ : ∃ L, L = l.map fun (k : Nat) => (k : Int) := ⟨_, rfl⟩
                           have hLl : L.length = l.length := by rw [hL, List.length_map]
                           have HL := Lib.hid hL
                           obtain ⟨LL, hLL⟩ : ∃ n, n = L.length := ⟨_, rfl⟩
                           have hLLl : LL = l.length := hLL.trans hLl
                           have HLLl := Lib.hid hLLl
                           have HLL := Lib.hid hLL
                           have hLp : LL ≤ p := by omega
                           have hHO := HO.out
                           rw [← hL, ← hLL] at hHO
                           have HOL := Lib.hid hHO
                           rw [← hL, ← hLL]
                           have HLM := Lib.hid (show (l ++ [m]).map (fun (k : Nat) => (k : Int)) = L ++ [(m : Int)] from by rw [List.map_append, hL]; rfl)
                           have hl1 : l.length ≤ p := hlp
                           clear hL hLl hLL hLLl hHO HO
                           by_cases hl0 : l = []
                           · have HXt := Lib.hid (HXg.out.trans (if_neg (by rw [hl0, lastI_nil]; omega)))
                             have hL0 : L = [] := by rw [HL.out, hl0]; rfl
                             have hz0 : LL = 0 := by rw [HLL.out, hL0]; rfl
                             subst hz0
                             subst hL0
                             have hLlen : (([] : List Int)).length ≤ 100000 := by first | (rw [← HLL.out]; omega) | simp
                             go_wp2_with (at_builtin; refine wpList_appT rfl 57 undR _ _ rfl (w.heap.size) _ ([] : List Int) rfl (HOL.out.alloc _) _ (m : Int) _ rfl (by simp [go_sem]) (by first | omega | (simp; omega)) (by have := HB.out.size; simp; omega) ?_)
                             intro v' w2 hO2 hb2
                             have HO2 := Lib.hid hO2
                             have HB2 := Lib.hid ((HB.out.alloc HB.out.size _).trans hb2)
                             obtain ⟨qo2, co2, hsl2⟩ := hO2.sl
                             subst hsl2
                             clear hO2 hb2
                             by_cases x32 : x.toNat = 32
                             · have y1 : ((x.toNat : Int) == 32) = true := by rw [x32]; rfl
                               have hx32 : x = 32 := UInt8.toNat_inj.1 x32
                               have HXe3 := Lib.hid (show X = readS n (s.drop (q + 1)) (l ++ [m]) from by
                                 rw [HXt.out, drop_head HXq.out, hx32, if_neg (by simp), cutB_cons, if_pos rfl, if_pos rfl])
                               obtain ⟨n', hn'⟩ : ∃ n', n = n' + 1 := ⟨n - 1, by omega⟩
                               go_wp2_with fail
                               go_roundw
                               case rel => exact ⟨l ++ [m], q + 1, by go_num, by omega, by rw [HLM.out]; exact HO2.out, HB2.out, by rw [List.length_append, List.length_singleton]; omega, n', by rw [HXe3.out, hn'], by omega⟩
                               case measure => simp [intOf]; omega
                             · have y1 : ((x.toNat : Int) == 32) = false := beq_false_of_ne (by omega)
                               by_cases hend : q + 1 = s.length
                               · have y2 : ((q : Int) == (s.length : Int) - 1) = true := by rw [beq_iff_eq]; omega
                                 have y3 : decide ((q : Int) = (s.length : Int) - 1) = true := decide_eq_true (by omega)
                                 by_cases x125 : x.toNat = 125
                                 · have y4 : ((x.toNat : Int) == 125) = true := by rw [x125]; rfl
                                   have hx125 : x = 125 := UInt8.toNat_inj.1 x125
                                   have HXe3 := Lib.hid (show X = (l ++ [m], 0) from by
                                     rw [HXt.out, drop_head HXq.out, hx125, List.drop_eq_nil_of_le (by omega), if_pos rfl])
                                   go_wp2_with fail
                                   all_goals (go_ret2; exact ⟨_, by rw [HXe3.out]; rfl, by rw [HXe3.out]; show OwnI _ _ _ ((l ++ [m]).map _); rw [HLM.out]; exact HO2.out, HB2.out⟩)
                                 · have y4 : ((x.toNat : Int) == 125) = false := beq_false_of_ne (by omega)
                                   have HXe3 := Lib.hid (show X = ([], 3) from by
                                     have h1 : ¬ x = 125 := fun e => x125 (by rw [e]; rfl)
                                     have h2 : ¬ x = 32 := fun e => x32 (by rw [e]; rfl)
                                     rw [HXt.out, drop_head HXq.out, if_neg (fun e => h1 (List.cons.inj e).1), cutB_cons, if_neg h2, if_neg (by simp)])
                                   go_wp2_with fail
                                   all_goals (go_ret2; exact ⟨_, by rw [HXe3.out]; rfl, by rw [HXe3.out]; exact (HEM.out _ HB2.out).1, (HEM.out _ HB2.out).2⟩)
                               · have y2 : ((q : Int) == (s.length : Int) - 1) = false := beq_false_of_ne (by omega)
                                 have y3 : ¬ (q : Int) = (s.length : Int) - 1 := by omega
                                 have HXe3 := Lib.hid (show X = ([], 3) from by
                                   have h2 : ¬ x = 32 := fun e => x32 (by rw [e]; rfl)
                                   rw [HXt.out, drop_head HXq.out, if_neg (fun e => by
                                     have h3 := congrArg List.length (List.cons.inj e).2
                                     rw [List.length_drop] at h3
                                     simp at h3
                                     omega), cutB_cons, if_neg h2, if_neg (by simp)])
                                 go_wp2_with fail
                                 all_goals (go_ret2; exact ⟨_, by rw [HXe3.out]; rfl, by rw [HXe3.out]; exact (HEM.out _ HB2.out).1, (HEM.out _ HB2.out).2⟩)
                           · obtain ⟨k, hk1, hk2⟩ := lastI_getLast hl0
                             have hlp0 : 0 < l.length := List.length_pos_iff.2 hl0
                             obtain ⟨L1, rfl⟩ : ∃ L1, LL = L1 + 1 := ⟨LL - 1, by have := HLLl.out; omega⟩
                             have hL1 : l.length - 1 = L1 := by have := HLLl.out; omega
                             obtain ⟨gb, goff, gc, zz, h1, hzz, hcell⟩ := HOL.out.rdl.at (k := L1) (by rw [← HLL.out]; omega)
                             simp only [Value.slice.injEq] at h1
                             obtain ⟨rfl, -, rfl⟩ := h1
                             obtain rfl : zz = (k : Int) := by
                               rw [HL.out, List.getElem?_map, ← hL1, hk1] at hzz
                               exact (Option.some.inj hzz).symm
                             have cc := hcell wr (Below.refl _ _)
                             by_cases hmk : m ≤ k
                             · have HXe2 := Lib.hid (HXg.out.trans (if_pos (by rw [hk2]; omega)))
                               have m1 : (m : Int) ≤ (k : Int) := by omega
                               have m2 : decide ((m : Int) ≤ (k : Int)) = true := decide_eq_true m1
                               clear hzz hcell hk1 hk2 hL1
                               go_wp2_with fail
                               go_ret2
                               obtain ⟨h1, h2⟩ := HEM.out _ HB.out
                               exact ⟨_, by rw [HXe2.out]; rfl, by rw [HXe2.out]; exact h1, h2⟩
                             · have HXt := Lib.hid (HXg.out.trans (if_neg (by rw [hk2]; omega)))
                               have m1 : ¬ (m : Int) ≤ (k : Int) := by omega
                               have m2 : decide ((m : Int) ≤ (k : Int)) = false := decide_eq_false m1
                               clear hzz hcell hk1 hk2 hL1
                               have hLlen : (L).length ≤ 100000 := by first | (rw [← HLL.out]; omega) | simp
                               go_wp2_with (at_builtin; refine wpList_appT rfl 57 undR _ _ rfl (w.heap.size) _ L rfl (HOL.out.alloc _) _ (m : Int) _ rfl (by simp [go_sem]) (by first | omega | (simp; omega)) (by have := HB.out.size; simp; omega) ?_)
                               intro v' w2 hO2 hb2
                               have HO2 := Lib.hid hO2
                               have HB2 := Lib.hid ((HB.out.alloc HB.out.size _).trans hb2)
                               obtain ⟨qo2, co2, hsl2⟩ := hO2.sl
                               subst hsl2
                               clear hO2 hb2
                               by_cases x32 : x.toNat = 32
                               · have y1 : ((x.toNat : Int) == 32) = true := by rw [x32]; rfl
                                 have hx32 : x = 32 := UInt8.toNat_inj.1 x32
                                 have HXe3 := Lib.hid (show X = readS n (s.drop (q + 1)) (l ++ [m]) from by
                                   rw [HXt.out, drop_head HXq.out, hx32, if_neg (by simp), cutB_cons, if_pos rfl, if_pos rfl])
                                 obtain ⟨n', hn'⟩ : ∃ n', n = n' + 1 := ⟨n - 1, by omega⟩
                                 go_wp2_with fail
                                 go_roundw
                                 case rel => exact ⟨l ++ [m], q + 1, by go_num, by omega, by rw [HLM.out]; exact HO2.out, HB2.out, by rw [List.length_append, List.length_singleton]; omega, n', by rw [HXe3.out, hn'], by omega⟩
                                 case measure => simp [intOf]; omega
                               · have y1 : ((x.toNat : Int) == 32) = false := beq_false_of_ne (by omega)
                                 by_cases hend : q + 1 = s.length
                                 · have y2 : ((q : Int) == (s.length : Int) - 1) = true := by rw [beq_iff_eq]; omega
                                   have y3 : decide ((q : Int) = (s.length : Int) - 1) = true := decide_eq_true (by omega)
                                   by_cases x125 : x.toNat = 125
                                   · have y4 : ((x.toNat : Int) == 125) = true := by rw [x125]; rfl
                                     have hx125 : x = 125 := UInt8.toNat_inj.1 x125
                                     have HXe3 := Lib.hid (show X = (l ++ [m], 0) from by
                                       rw [HXt.out, drop_head HXq.out, hx125, List.drop_eq_nil_of_le (by omega), if_pos rfl])
                                     go_wp2_with fail
                                     all_goals (go_ret2; exact ⟨_, by rw [HXe3.out]; rfl, by rw [HXe3.out]; show OwnI _ _ _ ((l ++ [m]).map _); rw [HLM.out]; exact HO2.out, HB2.out⟩)
                                   · have y4 : ((x.toNat : Int) == 125) = false := beq_false_of_ne (by omega)
                                     have HXe3 := Lib.hid (show X = ([], 3) from by
                                       have h1 : ¬ x = 125 := fun e => x125 (by rw [e]; rfl)
                                       have h2 : ¬ x = 32 := fun e => x32 (by rw [e]; rfl)
                                       rw [HXt.out, drop_head HXq.out, if_neg (fun e => h1 (List.cons.inj e).1), cutB_cons, if_neg h2, if_neg (by simp)])
                                     go_wp2_with fail
                                     all_goals (go_ret2; exact ⟨_, by rw [HXe3.out]; rfl, by rw [HXe3.out]; exact (HEM.out _ HB2.out).1, (HEM.out _ HB2.out).2⟩)
                                 · have y2 : ((q : Int) == (s.length : Int) - 1) = false := beq_false_of_ne (by omega)
                                   have y3 : ¬ (q : Int) = (s.length : Int) - 1 := by omega
                                   have HXe3 := Lib.hid (show X = ([], 3) from by
                                     have h2 : ¬ x = 32 := fun e => x32 (by rw [e]; rfl)
                                     rw [HXt.out, drop_head HXq.out, if_neg (fun e => by
                                       have h3 := congrArg List.length (List.cons.inj e).2
                                       rw [List.length_drop] at h3
                                       simp at h3
                                       omega), cutB_cons, if_neg h2, if_neg (by simp)])
                                   go_wp2_with fail
                                   all_goals (go_ret2; exact ⟨_, by rw [HXe3.out]; rfl, by rw [HXe3.out]; exact (HEM.out _ HB2.out).1, (HEM.out _ HB2.out).2⟩)
                     · have z1 : ((c0.toNat : Int) == 48) = false := beq_false_of_ne (by omega)
                       have hnb : badDig d = false := by rw [hbd, decide_eq_false (fun e => z (by rw [e]; rfl) : ¬ c0 = 48)]; simp
                       have HNb := Lib.hid hnb
                       clear hbd hnb
                       by_cases hbig : 1023 < m
                       · have HXe2 := Lib.hid (HBig.out HNb.out hbig)
                         have b1 : (1023 : Int) < (m : Int) := by omega
                         have b2 : decide ((1023 : Int) < (m : Int)) = true := decide_eq_true b1
                         go_wp2_with fail
                         go_ret2
                         obtain ⟨h1, h2⟩ := HEM.out _ HB.out
                         exact ⟨_, by rw [HXe2.out]; rfl, by rw [HXe2.out]; exact h1, h2⟩
                       · have HXg := Lib.hid (HGood.out HNb.out (by omega))
                         have b1 : ¬ (1023 : Int) < (m : Int) := by omega
                         have b2 : decide ((1023 : Int) < (m : Int)) = false := decide_eq_false b1
                         obtain ⟨qo, co, hsl⟩ := HO.out.sl
                         subst hsl
                         obtain ⟨L, hL⟩ : ∃ L, L = l.map fun (k : Nat) => (k : Int) := ⟨_, rfl⟩
                         have hLl : L.length = l.length := by rw [hL, List.length_map]
                         have HL := Lib.hid hL
                         obtain ⟨LL, hLL⟩ : ∃ n, n = L.length := ⟨_, rfl⟩
                         have hLLl : LL = l.length := hLL.trans hLl
                         have HLLl := Lib.hid hLLl
                         have HLL := Lib.hid hLL
                         have hLp : LL ≤ p := by omega
                         have hHO := HO.out
                         rw [← hL, ← hLL] at hHO
                         have HOL := Lib.hid hHO
                         rw [← hL, ← hLL]
                         have HLM := Lib.hid (show (l ++ [m]).map (fun (k : Nat) => (k : Int)) = L ++ [(m : Int)] from by rw [List.map_append, hL]; rfl)
                         have hl1 : l.length ≤ p := hlp
                         clear hL hLl hLL hLLl hHO HO
                         by_cases hl0 : l = []
                         · have HXt := Lib.hid (HXg.out.trans (if_neg (by rw [hl0, lastI_nil]; omega)))
                           have hL0 : L = [] := by rw [HL.out, hl0]; rfl
                           have hz0 : LL = 0 := by rw [HLL.out, hL0]; rfl
                           subst hz0
                           subst hL0
                           have hLlen : (([] : List Int)).length ≤ 100000 := by first | (rw [← HLL.out]; omega) | simp
                           go_wp2_with (at_builtin; refine wpList_appT rfl 57 undR _ _ rfl (w.heap.size) _ ([] : List Int) rfl (HOL.out.alloc _) _ (m : Int) _ rfl (by simp [go_sem]) (by first | omega | (simp; omega)) (by have := HB.out.size; simp; omega) ?_)
                           intro v' w2 hO2 hb2
                           have HO2 := Lib.hid hO2
                           have HB2 := Lib.hid ((HB.out.alloc HB.out.size _).trans hb2)
                           obtain ⟨qo2, co2, hsl2⟩ := hO2.sl
                           subst hsl2
                           clear hO2 hb2
                           by_cases x32 : x.toNat = 32
                           · have y1 : ((x.toNat : Int) == 32) = true := by rw [x32]; rfl
                             have hx32 : x = 32 := UInt8.toNat_inj.1 x32
                             have HXe3 := Lib.hid (show X = readS n (s.drop (q + 1)) (l ++ [m]) from by
                               rw [HXt.out, drop_head HXq.out, hx32, if_neg (by simp), cutB_cons, if_pos rfl, if_pos rfl])
                             obtain ⟨n', hn'⟩ : ∃ n', n = n' + 1 := ⟨n - 1, by omega⟩
                             go_wp2_with fail
                             go_roundw
                             case rel => exact ⟨l ++ [m], q + 1, by go_num, by omega, by rw [HLM.out]; exact HO2.out, HB2.out, by rw [List.length_append, List.length_singleton]; omega, n', by rw [HXe3.out, hn'], by omega⟩
                             case measure => simp [intOf]; omega
                           · have y1 : ((x.toNat : Int) == 32) = false := beq_false_of_ne (by omega)
                             by_cases hend : q + 1 = s.length
                             · have y2 : ((q : Int) == (s.length : Int) - 1) = true := by rw [beq_iff_eq]; omega
                               have y3 : decide ((q : Int) = (s.length : Int) - 1) = true := decide_eq_true (by omega)
                               by_cases x125 : x.toNat = 125
                               · have y4 : ((x.toNat : Int) == 125) = true := by rw [x125]; rfl
                                 have hx125 : x = 125 := UInt8.toNat_inj.1 x125
                                 have HXe3 := Lib.hid (show X = (l ++ [m], 0) from by
                                   rw [HXt.out, drop_head HXq.out, hx125, List.drop_eq_nil_of_le (by omega), if_pos rfl])
                                 go_wp2_with fail
                                 all_goals (go_ret2; exact ⟨_, by rw [HXe3.out]; rfl, by rw [HXe3.out]; show OwnI _ _ _ ((l ++ [m]).map _); rw [HLM.out]; exact HO2.out, HB2.out⟩)
                               · have y4 : ((x.toNat : Int) == 125) = false := beq_false_of_ne (by omega)
                                 have HXe3 := Lib.hid (show X = ([], 3) from by
                                   have h1 : ¬ x = 125 := fun e => x125 (by rw [e]; rfl)
                                   have h2 : ¬ x = 32 := fun e => x32 (by rw [e]; rfl)
                                   rw [HXt.out, drop_head HXq.out, if_neg (fun e => h1 (List.cons.inj e).1), cutB_cons, if_neg h2, if_neg (by simp)])
                                 go_wp2_with fail
                                 all_goals (go_ret2; exact ⟨_, by rw [HXe3.out]; rfl, by rw [HXe3.out]; exact (HEM.out _ HB2.out).1, (HEM.out _ HB2.out).2⟩)
                             · have y2 : ((q : Int) == (s.length : Int) - 1) = false := beq_false_of_ne (by omega)
                               have y3 : ¬ (q : Int) = (s.length : Int) - 1 := by omega
                               have HXe3 := Lib.hid (show X = ([], 3) from by
                                 have h2 : ¬ x = 32 := fun e => x32 (by rw [e]; rfl)
                                 rw [HXt.out, drop_head HXq.out, if_neg (fun e => by
                                   have h3 := congrArg List.length (List.cons.inj e).2
                                   rw [List.length_drop] at h3
                                   simp at h3
                                   omega), cutB_cons, if_neg h2, if_neg (by simp)])
                               go_wp2_with fail
                               all_goals (go_ret2; exact ⟨_, by rw [HXe3.out]; rfl, by rw [HXe3.out]; exact (HEM.out _ HB2.out).1, (HEM.out _ HB2.out).2⟩)
                         · obtain ⟨k, hk1, hk2⟩ := lastI_getLast hl0
                           have hlp0 : 0 < l.length := List.length_pos_iff.2 hl0
                           obtain ⟨L1, rfl⟩ : ∃ L1, LL = L1 + 1 := ⟨LL - 1, by have := HLLl.out; omega⟩
                           have hL1 : l.length - 1 = L1 := by have := HLLl.out; omega
                           obtain ⟨gb, goff, gc, zz, h1, hzz, hcell⟩ := HOL.out.rdl.at (k := L1) (by rw [← HLL.out]; omega)
                           simp only [Value.slice.injEq] at h1
                           obtain ⟨rfl, -, rfl⟩ := h1
                           obtain rfl : zz = (k : Int) := by
                             rw [HL.out, List.getElem?_map, ← hL1, hk1] at hzz
                             exact (Option.some.inj hzz).symm
                           have cc := hcell wr (Below.refl _ _)
                           by_cases hmk : m ≤ k
                           · have HXe2 := Lib.hid (HXg.out.trans (if_pos (by rw [hk2]; omega)))
                             have m1 : (m : Int) ≤ (k : Int) := by omega
                             have m2 : decide ((m : Int) ≤ (k : Int)) = true := decide_eq_true m1
                             clear hzz hcell hk1 hk2 hL1
                             go_wp2_with fail
                             go_ret2
                             obtain ⟨h1, h2⟩ := HEM.out _ HB.out
                             exact ⟨_, by rw [HXe2.out]; rfl, by rw [HXe2.out]; exact h1, h2⟩
                           · have HXt := Lib.hid (HXg.out.trans (if_neg (by rw [hk2]; omega)))
                             have m1 : ¬ (m : Int) ≤ (k : Int) := by omega
                             have m2 : decide ((m : Int) ≤ (k : Int)) = false := decide_eq_false m1
                             clear hzz hcell hk1 hk2 hL1
                             have hLlen : (L).length ≤ 100000 := by first | (rw [← HLL.out]; omega) | simp
                             go_wp2_with (at_builtin; refine wpList_appT rfl 57 undR _ _ rfl (w.heap.size) _ L rfl (HOL.out.alloc _) _ (m : Int) _ rfl (by simp [go_sem]) (by first | omega | (simp; omega)) (by have := HB.out.size; simp; omega) ?_)
                             intro v' w2 hO2 hb2
                             have HO2 := Lib.hid hO2
                             have HB2 := Lib.hid ((HB.out.alloc HB.out.size _).trans hb2)
                             obtain ⟨qo2, co2, hsl2⟩ := hO2.sl
                             subst hsl2
                             clear hO2 hb2
                             by_cases x32 : x.toNat = 32
                             · have y1 : ((x.toNat : Int) == 32) = true := by rw [x32]; rfl
                               have hx32 : x = 32 := UInt8.toNat_inj.1 x32
                               have HXe3 := Lib.hid (show X = readS n (s.drop (q + 1)) (l ++ [m]) from by
                                 rw [HXt.out, drop_head HXq.out, hx32, if_neg (by simp), cutB_cons, if_pos rfl, if_pos rfl])
                               obtain ⟨n', hn'⟩ : ∃ n', n = n' + 1 := ⟨n - 1, by omega⟩
                               go_wp2_with fail
                               go_roundw
                               case rel => exact ⟨l ++ [m], q + 1, by go_num, by omega, by rw [HLM.out]; exact HO2.out, HB2.out, by rw [List.length_append, List.length_singleton]; omega, n', by rw [HXe3.out, hn'], by omega⟩
                               case measure => simp [intOf]; omega
                             · have y1 : ((x.toNat : Int) == 32) = false := beq_false_of_ne (by omega)
                               by_cases hend : q + 1 = s.length
                               · have y2 : ((q : Int) == (s.length : Int) - 1) = true := by rw [beq_iff_eq]; omega
                                 have y3 : decide ((q : Int) = (s.length : Int) - 1) = true := decide_eq_true (by omega)
                                 by_cases x125 : x.toNat = 125
                                 · have y4 : ((x.toNat : Int) == 125) = true := by rw [x125]; rfl
                                   have hx125 : x = 125 := UInt8.toNat_inj.1 x125
                                   have HXe3 := Lib.hid (show X = (l ++ [m], 0) from by
                                     rw [HXt.out, drop_head HXq.out, hx125, List.drop_eq_nil_of_le (by omega), if_pos rfl])
                                   go_wp2_with fail
                                   all_goals (go_ret2; exact ⟨_, by rw [HXe3.out]; rfl, by rw [HXe3.out]; show OwnI _ _ _ ((l ++ [m]).map _); rw [HLM.out]; exact HO2.out, HB2.out⟩)
                                 · have y4 : ((x.toNat : Int) == 125) = false := beq_false_of_ne (by omega)
                                   have HXe3 := Lib.hid (show X = ([], 3) from by
                                     have h1 : ¬ x = 125 := fun e => x125 (by rw [e]; rfl)
                                     have h2 : ¬ x = 32 := fun e => x32 (by rw [e]; rfl)
                                     rw [HXt.out, drop_head HXq.out, if_neg (fun e => h1 (List.cons.inj e).1), cutB_cons, if_neg h2, if_neg (by simp)])
                                   go_wp2_with fail
                                   all_goals (go_ret2; exact ⟨_, by rw [HXe3.out]; rfl, by rw [HXe3.out]; exact (HEM.out _ HB2.out).1, (HEM.out _ HB2.out).2⟩)
                               · have y2 : ((q : Int) == (s.length : Int) - 1) = false := beq_false_of_ne (by omega)
                                 have y3 : ¬ (q : Int) = (s.length : Int) - 1 := by omega
                                 have HXe3 := Lib.hid (show X = ([], 3) from by
                                   have h2 : ¬ x = 32 := fun e => x32 (by rw [e]; rfl)
                                   rw [HXt.out, drop_head HXq.out, if_neg (fun e => by
                                     have h3 := congrArg List.length (List.cons.inj e).2
                                     rw [List.length_drop] at h3
                                     simp at h3
                                     omega), cutB_cons, if_neg h2, if_neg (by simp)])
                                 go_wp2_with fail
                                 all_goals (go_ret2; exact ⟨_, by rw [HXe3.out]; rfl, by rw [HXe3.out]; exact (HEM.out _ HB2.out).1, (HEM.out _ HB2.out).2⟩)
             · have HST := Lib.hid (show ∀ y, s[q]? = some y → ¬ isDig y from fun y hy => by rw [List.getElem?_eq_none (by omega)] at hy; cases hy)
               have hqi : ¬ (q : Int) < (s.length : Int) := by omega
               have hql : decide ((q : Int) < (s.length : Int)) = false := decide_eq_false hqi
               obtain ⟨g1, g2, g3⟩ := digs_at hpq hq HD.out HST.out
               obtain ⟨d, hd0⟩ : ∃ d, d = digs (s.drop p) := ⟨_, rfl⟩
               have HDd := Lib.hid hd0
               have hdl : d.length = q - p := by rw [hd0]; exact g2
               have HDt := Lib.hid (show d = (s.drop p).take (q - p) from hd0.trans g1)
               have HDig := Lib.hid fun c (hc : c ∈ d) => digs_mem (s := s.drop p) (by rw [← HDd.out]; exact hc)
               have HMd := Lib.hid (show m = dcap d from by rw [HM.out, HDt.out])
               have HXs := Lib.hid (show X = if (snum (s.drop p)).2 ≠ 0 then ([], (snum (s.drop p)).2) else if ((snum (s.drop p)).1 : Int) ≤ lastI l then ([], 3) else if s.drop q = [125] then (l ++ [(snum (s.drop p)).1], 0) else if (cutB 32 (s.drop q)).2 = true then readS n (cutB 32 (s.drop q)).1 (l ++ [(snum (s.drop p)).1]) else ([], 3) from by rw [← g3]; exact HXn.out)
               have HBad := Lib.hid (show badDig d = true → X = ([], 3) from fun h => by rw [HXs.out, snum_none (by rw [← HDd.out]; exact h), if_pos (by decide)])
               have HBig := Lib.hid (show badDig d = false → 1023 < m → X = ([], 2) from fun h h2 => by
                 have h3 : 1023 < dval 0 d := by have := dcap_dval d; rw [← HMd.out] at this; omega
                 rw [HXs.out, snum_big (by rw [← HDd.out]; exact h) (by rw [← HDd.out]; exact h3), if_pos (by decide)])
               have HGood := Lib.hid (show badDig d = false → m ≤ 1023 → X = if (m : Int) ≤ lastI l then ([], 3) else if s.drop q = [125] then (l ++ [m], 0) else if (cutB 32 (s.drop q)).2 = true then readS n (cutB 32 (s.drop q)).1 (l ++ [m]) else ([], 3) from fun h h2 => by
                 have h3 : dval 0 d = m := by have := dcap_dval d; rw [← HMd.out] at this; omega
                 rw [HXs.out, snum_ok (by rw [← HDd.out]; exact h) (by rw [← HDd.out]; omega), if_neg (fun h => h rfl), ← HDd.out, h3])
               clear g1 g2 g3 hd0
               by_cases hj : p = q
               · have HXe2 := Lib.hid (HBad.out (by rw [List.length_eq_zero_iff.1 (by omega : d.length = 0)]; rfl))
                 have e1 : ((q : Int) == (p : Int)) = true := by rw [beq_iff_eq]; omega
                 have e2 : (q : Int) = (p : Int) := by omega
                 subst hj
                 go_wp2_with fail
                 go_ret2
                 obtain ⟨h1, h2⟩ := HEM.out _ HB.out
                 exact ⟨_, by rw [HXe2.out]; rfl, by rw [HXe2.out]; exact h1, h2⟩
               · have e1 : ((q : Int) == (p : Int)) = false := beq_false_of_ne (by omega)
                 have e2 : ¬ (q : Int) = (p : Int) := by omega
                 obtain ⟨c0, hc0⟩ : ∃ c0, s[p]? = some c0 := ⟨_, List.getElem?_eq_getElem (by omega)⟩
                 obtain ⟨hk5, hx5⟩ := List.getElem?_eq_some_iff.1 hc0
                 have hh : d.head? = some c0 := by
                   rw [HDt.out, drop_head hc0]
                   obtain ⟨j, hj2⟩ : ∃ j, q - p = j + 1 := ⟨q - p - 1, by omega⟩
                   rw [hj2]
                   rfl
                 have hbd : badDig d = (decide (p + 1 < q) && decide (c0 = 48)) := by
                   unfold badDig
                   have hne : d.isEmpty = false := by
                     cases d with
                     | nil => simp at hh
                     | cons _ _ => rfl
                   rw [hne, Bool.false_or, hh, hdl]
                   congr 1
                   · exact decide_eq_decide.2 (by omega)
                   · exact decide_eq_decide.2 ⟨fun h => Option.some.inj h, fun h => by rw [h]⟩
                 clear hc0 hh
                 by_cases z : c0.toNat = 48
                 · have z1 : ((c0.toNat : Int) == 48) = true := by rw [z]; rfl
                   have zc : c0 = 48 := UInt8.toNat_inj.1 z
                   by_cases z2 : p + 1 < q
                   · have HXe2 := Lib.hid (HBad.out (by rw [hbd, decide_eq_true z2, decide_eq_true zc]; rfl))
                     have z3 : (p : Int) + 1 < (q : Int) := by omega
                     have z4 : decide ((p : Int) + 1 < (q : Int)) = true := decide_eq_true z3
                     clear hbd zc
                     go_wp2_with fail
                     go_ret2
                     obtain ⟨h1, h2⟩ := HEM.out _ HB.out
                     exact ⟨_, by rw [HXe2.out]; rfl, by rw [HXe2.out]; exact h1, h2⟩
                   · have hnb : badDig d = false := by rw [hbd, decide_eq_false z2]; rfl
                     have HNb := Lib.hid hnb
                     have z3 : ¬ (p : Int) + 1 < (q : Int) := by omega
                     have z4 : decide ((p : Int) + 1 < (q : Int)) = false := decide_eq_false z3
                     clear hbd zc hnb
                     by_cases hbig : 1023 < m
                     · have HXe2 := Lib.hid (HBig.out HNb.out hbig)
                       have b1 : (1023 : Int) < (m : Int) := by omega
                       have b2 : decide ((1023 : Int) < (m : Int)) = true := decide_eq_true b1
                       go_wp2_with fail
                       go_ret2
                       obtain ⟨h1, h2⟩ := HEM.out _ HB.out
                       exact ⟨_, by rw [HXe2.out]; rfl, by rw [HXe2.out]; exact h1, h2⟩
                     · have HXg := Lib.hid (HGood.out HNb.out (by omega))
                       have b1 : ¬ (1023 : Int) < (m : Int) := by omega
                       have b2 : decide ((1023 : Int) < (m : Int)) = false := decide_eq_false b1
                       obtain ⟨qo, co, hsl⟩ := HO.out.sl
                       subst hsl
                       obtain ⟨L, hL⟩ : ∃ L, L = l.map fun (k : Nat) => (k : Int) := ⟨_, rfl⟩
                       have hLl : L.length = l.length := by rw [hL, List.length_map]
                       have HL := Lib.hid hL
                       obtain ⟨LL, hLL⟩ : ∃ n, n = L.length := ⟨_, rfl⟩
                       have hLLl : LL = l.length := hLL.trans hLl
                       have HLLl := Lib.hid hLLl
                       have HLL := Lib.hid hLL
                       have hLp : LL ≤ p := by omega
                       have hHO := HO.out
                       rw [← hL, ← hLL] at hHO
                       have HOL := Lib.hid hHO
                       rw [← hL, ← hLL]
                       have HLM := Lib.hid (show (l ++ [m]).map (fun (k : Nat) => (k : Int)) = L ++ [(m : Int)] from by rw [List.map_append, hL]; rfl)
                       have hl1 : l.length ≤ p := hlp
                       clear hL hLl hLL hLLl hHO HO
                       by_cases hl0 : l = []
                       · have HXt := Lib.hid (HXg.out.trans (if_neg (by rw [hl0, lastI_nil]; omega)))
                         have hL0 : L = [] := by rw [HL.out, hl0]; rfl
                         have hz0 : LL = 0 := by rw [HLL.out, hL0]; rfl
                         subst hz0
                         subst hL0
                         have hLlen : (([] : List Int)).length ≤ 100000 := by first | (rw [← HLL.out]; omega) | simp
                         go_wp2_with (at_builtin; refine wpList_appT rfl 57 undR _ _ rfl (w.heap.size) _ ([] : List Int) rfl (HOL.out.alloc _) _ (m : Int) _ rfl (by simp [go_sem]) (by first | omega | (simp; omega)) (by have := HB.out.size; simp; omega) ?_)
                         intro v' w2 hO2 hb2
                         have HO2 := Lib.hid hO2
                         have HB2 := Lib.hid ((HB.out.alloc HB.out.size _).trans hb2)
                         obtain ⟨qo2, co2, hsl2⟩ := hO2.sl
                         subst hsl2
                         clear hO2 hb2
                         have y2 : ((q : Int) == (s.length : Int) - 1) = false := beq_false_of_ne (by omega)
                         have y3 : ¬ (q : Int) = (s.length : Int) - 1 := by omega
                         have HXe3 := Lib.hid (show X = ([], 3) from by
                           rw [HXt.out, List.drop_eq_nil_of_le (by omega), if_neg (by simp)]
                           first | rfl | done)
                         go_wp2_with fail
                         go_ret2
                         obtain ⟨h1, h2⟩ := HEM.out _ HB2.out
                         exact ⟨_, by rw [HXe3.out]; rfl, by rw [HXe3.out]; exact h1, h2⟩
                       · obtain ⟨k, hk1, hk2⟩ := lastI_getLast hl0
                         have hlp0 : 0 < l.length := List.length_pos_iff.2 hl0
                         obtain ⟨L1, rfl⟩ : ∃ L1, LL = L1 + 1 := ⟨LL - 1, by have := HLLl.out; omega⟩
                         have hL1 : l.length - 1 = L1 := by have := HLLl.out; omega
                         obtain ⟨gb, goff, gc, zz, h1, hzz, hcell⟩ := HOL.out.rdl.at (k := L1) (by rw [← HLL.out]; omega)
                         simp only [Value.slice.injEq] at h1
                         obtain ⟨rfl, -, rfl⟩ := h1
                         obtain rfl : zz = (k : Int) := by
                           rw [HL.out, List.getElem?_map, ← hL1, hk1] at hzz
                           exact (Option.some.inj hzz).symm
                         have cc := hcell wr (Below.refl _ _)
                         by_cases hmk : m ≤ k
                         · have HXe2 := Lib.hid (HXg.out.trans (if_pos (by rw [hk2]; omega)))
                           have m1 : (m : Int) ≤ (k : Int) := by omega
                           have m2 : decide ((m : Int) ≤ (k : Int)) = true := decide_eq_true m1
                           clear hzz hcell hk1 hk2 hL1
                           go_wp2_with fail
                           go_ret2
                           obtain ⟨h1, h2⟩ := HEM.out _ HB.out
                           exact ⟨_, by rw [HXe2.out]; rfl, by rw [HXe2.out]; exact h1, h2⟩
                         · have HXt := Lib.hid (HXg.out.trans (if_neg (by rw [hk2]; omega)))
                           have m1 : ¬ (m : Int) ≤ (k : Int) := by omega
                           have m2 : decide ((m : Int) ≤ (k : Int)) = false := decide_eq_false m1
                           clear hzz hcell hk1 hk2 hL1
                           have hLlen : (L).length ≤ 100000 := by first | (rw [← HLL.out]; omega) | simp
                           go_wp2_with (at_builtin; refine wpList_appT rfl 57 undR _ _ rfl (w.heap.size) _ L rfl (HOL.out.alloc _) _ (m : Int) _ rfl (by simp [go_sem]) (by first | omega | (simp; omega)) (by have := HB.out.size; simp; omega) ?_)
                           intro v' w2 hO2 hb2
                           have HO2 := Lib.hid hO2
                           have HB2 := Lib.hid ((HB.out.alloc HB.out.size _).trans hb2)
                           obtain ⟨qo2, co2, hsl2⟩ := hO2.sl
                           subst hsl2
                           clear hO2 hb2
                           have y2 : ((q : Int) == (s.length : Int) - 1) = false := beq_false_of_ne (by omega)
                           have y3 : ¬ (q : Int) = (s.length : Int) - 1 := by omega
                           have HXe3 := Lib.hid (show X = ([], 3) from by
                             rw [HXt.out, List.drop_eq_nil_of_le (by omega), if_neg (by simp)]
                             first | rfl | done)
                           go_wp2_with fail
                           go_ret2
                           obtain ⟨h1, h2⟩ := HEM.out _ HB2.out
                           exact ⟨_, by rw [HXe3.out]; rfl, by rw [HXe3.out]; exact h1, h2⟩
                 · have z1 : ((c0.toNat : Int) == 48) = false := beq_false_of_ne (by omega)
                   have hnb : badDig d = false := by rw [hbd, decide_eq_false (fun e => z (by rw [e]; rfl) : ¬ c0 = 48)]; simp
                   have HNb := Lib.hid hnb
                   clear hbd hnb
                   by_cases hbig : 1023 < m
                   · have HXe2 := Lib.hid (HBig.out HNb.out hbig)
                     have b1 : (1023 : Int) < (m : Int) := by omega
                     have b2 : decide ((1023 : Int) < (m : Int)) = true := decide_eq_true b1
                     go_wp2_with fail
                     go_ret2
                     obtain ⟨h1, h2⟩ := HEM.out _ HB.out
                     exact ⟨_, by rw [HXe2.out]; rfl, by rw [HXe2.out]; exact h1, h2⟩
                   · have HXg := Lib.hid (HGood.out HNb.out (by omega))
                     have b1 : ¬ (1023 : Int) < (m : Int) := by omega
                     have b2 : decide ((1023 : Int) < (m : Int)) = false := decide_eq_false b1
                     obtain ⟨qo, co, hsl⟩ := HO.out.sl
                     subst hsl
                     obtain ⟨L, hL⟩ : ∃ L, L = l.map fun (k : Nat) => (k : Int) := ⟨_, rfl⟩
                     have hLl : L.length = l.length := by rw [hL, List.length_map]
                     have HL := Lib.hid hL
                     obtain ⟨LL, hLL⟩ : ∃ n, n = L.length := ⟨_, rfl⟩
                     have hLLl : LL = l.length := hLL.trans hLl
                     have HLLl := Lib.hid hLLl
                     have HLL := Lib.hid hLL
                     have hLp : LL ≤ p := by omega
                     have hHO := HO.out
                     rw [← hL, ← hLL] at hHO
                     have HOL := Lib.hid hHO
                     rw [← hL, ← hLL]
                     have HLM := Lib.hid (show (l ++ [m]).map (fun (k : Nat) => (k : Int)) = L ++ [(m : Int)] from by rw [List.map_append, hL]; rfl)
                     have hl1 : l.length ≤ p := hlp
                     clear hL hLl hLL hLLl hHO HO
                     by_cases hl0 : l = []
                     · have HXt := Lib.hid (HXg.out.trans (if_neg (by rw [hl0, lastI_nil]; omega)))
                       have hL0 : L = [] := by rw [HL.out, hl0]; rfl
                       have hz0 : LL = 0 := by rw [HLL.out, hL0]; rfl
                       subst hz0
                       subst hL0
                       have hLlen : (([] : List Int)).length ≤ 100000 := by first | (rw [← HLL.out]; omega) | simp
                       go_wp2_with (at_builtin; refine wpList_appT rfl 57 undR _ _ rfl (w.heap.size) _ ([] : List Int) rfl (HOL.out.alloc _) _ (m : Int) _ rfl (by simp [go_sem]) (by first | omega | (simp; omega)) (by have := HB.out.size; simp; omega) ?_)
                       intro v' w2 hO2 hb2
                       have HO2 := Lib.hid hO2
                       have HB2 := Lib.hid ((HB.out.alloc HB.out.size _).trans hb2)
                       obtain ⟨qo2, co2, hsl2⟩ := hO2.sl
                       subst hsl2
                       clear hO2 hb2
                       have y2 : ((q : Int) == (s.length : Int) - 1) = false := beq_false_of_ne (by omega)
                       have y3 : ¬ (q : Int) = (s.length : Int) - 1 := by omega
                       have HXe3 := Lib.hid (show X = ([], 3) from by
                         rw [HXt.out, List.drop_eq_nil_of_le (by omega), if_neg (by simp)]
                         first | rfl | done)
                       go_wp2_with fail
                       go_ret2
                       obtain ⟨h1, h2⟩ := HEM.out _ HB2.out
                       exact ⟨_, by rw [HXe3.out]; rfl, by rw [HXe3.out]; exact h1, h2⟩
                     · obtain ⟨k, hk1, hk2⟩ := lastI_getLast hl0
                       have hlp0 : 0 < l.length := List.length_pos_iff.2 hl0
                       obtain ⟨L1, rfl⟩ : ∃ L1, LL = L1 + 1 := ⟨LL - 1, by have := HLLl.out; omega⟩
                       have hL1 : l.length - 1 = L1 := by have := HLLl.out; omega
                       obtain ⟨gb, goff, gc, zz, h1, hzz, hcell⟩ := HOL.out.rdl.at (k := L1) (by rw [← HLL.out]; omega)
                       simp only [Value.slice.injEq] at h1
                       obtain ⟨rfl, -, rfl⟩ := h1
                       obtain rfl : zz = (k : Int) := by
                         rw [HL.out, List.getElem?_map, ← hL1, hk1] at hzz
                         exact (Option.some.inj hzz).symm
                       have cc := hcell wr (Below.refl _ _)
                       by_cases hmk : m ≤ k
                       · have HXe2 := Lib.hid (HXg.out.trans (if_pos (by rw [hk2]; omega)))
                         have m1 : (m : Int) ≤ (k : Int) := by omega
                         have m2 : decide ((m : Int) ≤ (k : Int)) = true := decide_eq_true m1
                         clear hzz hcell hk1 hk2 hL1
                         go_wp2_with fail
                         go_ret2
                         obtain ⟨h1, h2⟩ := HEM.out _ HB.out
                         exact ⟨_, by rw [HXe2.out]; rfl, by rw [HXe2.out]; exact h1, h2⟩
                       · have HXt := Lib.hid (HXg.out.trans (if_neg (by rw [hk2]; omega)))
                         have m1 : ¬ (m : Int) ≤ (k : Int) := by omega
                         have m2 : decide ((m : Int) ≤ (k : Int)) = false := decide_eq_false m1
                         clear hzz hcell hk1 hk2 hL1
                         have hLlen : (L).length ≤ 100000 := by first | (rw [← HLL.out]; omega) | simp
                         go_wp2_with (at_builtin; refine wpList_appT rfl 57 undR _ _ rfl (w.heap.size) _ L rfl (HOL.out.alloc _) _ (m : Int) _ rfl (by simp [go_sem]) (by first | omega | (simp; omega)) (by have := HB.out.size; simp; omega) ?_)
                         intro v' w2 hO2 hb2
                         have HO2 := Lib.hid hO2
                         have HB2 := Lib.hid ((HB.out.alloc HB.out.size _).trans hb2)
                         obtain ⟨qo2, co2, hsl2⟩ := hO2.sl
                         subst hsl2
                         clear hO2 hb2
                         have y2 : ((q : Int) == (s.length : Int) - 1) = false := beq_false_of_ne (by omega)
                         have y3 : ¬ (q : Int) = (s.length : Int) - 1 := by omega
                         have HXe3 := Lib.hid (show X = ([], 3) from by
                           rw [HXt.out, List.drop_eq_nil_of_le (by omega), if_neg (by simp)]
                           first | rfl | done)
                         go_wp2_with fail
                         go_ret2
                         obtain ⟨h1, h2⟩ := HEM.out _ HB2.out
                         exact ⟨_, by rw [HXe3.out]; rfl, by rw [HXe3.out]; exact h1, h2⟩
   · have hc2 : ((c.toNat : Int) != 123) = true := by simp; omega
     have HXe := Lib.hid (show X = ([], 3) from by
       rw [HX.out]
       unfold readSet
       have hc3 : ¬ c = 123 := fun e => hc (by rw [e]; rfl)
       have e : cutB 123 s = (s, false) := by rw [HCon.out, cutB_cons, if_neg hc3]
       rw [e, if_neg (fun e2 => hc3 (by have := HCon.out.symm.trans e2; exact (List.cons.inj this).1)), if_neg (by simp)])
     go_wp2_with fail
     go_ret2
     obtain ⟨h1, h2⟩ := HEM.out w (Below.refl _ _)
     exact ⟨_, by rw [HXe.out]; rfl, by rw [HXe.out]; exact h1, h2⟩
end Go.Proofs.YteiibpfabgfolaaGreatDoor
