/- Walks of the reference's polynomials: Parse. -/
import Derived.Test.YtgnlebnpnpjfmaaGreatDoorUQW1
import Derived.Test.YtgnlebnpnpjfmaaGreatDoorUQW2
import Derived.Test.YtgnlebnpnpjfmaaGreatDoorUPD
import Derived.Test.YtgnlebnpnpjfmaaGreatDoorUQX
set_option linter.all false
namespace Go.Pal
def lenS : Value → Nat
 | .string b => b.size
 | _ => 0
theorem lenS_str (l : List UInt8) : lenS (.string ⟨l.toArray⟩) = l.length := by simp [lenS, ByteArray.size]
theorem rp_none {n : Nat} {acc : Pol} {S : List UInt8} (hs : rstep S = none) : rparse (n + 1) acc S = none := by rw [rparse, hs]
theorem rp_ord {n : Nat} {acc : Pol} {S r : List UInt8} {x : Ex × Nat} (hs : rstep S = some (x, r)) (ho : nextP acc x = false) : rparse (n + 1) acc S = none := by
 rw [rparse, hs]
 simp [ho]
theorem rp_end {n : Nat} {acc : Pol} {S : List UInt8} {x : Ex × Nat} (hs : rstep S = some (x, [])) (ho : nextP acc x = true) : rparse (n + 1) acc S = some (acc ++ [x]) := by
 rw [rparse, hs]
 simp [ho]
theorem rp_cut {n : Nat} {acc : Pol} {S r : List UInt8} {x : Ex × Nat} (hs : rstep S = some (x, r)) (ho : nextP acc x = true) (hr : r ≠ []) (hc : [32, 43, 32].isPrefixOf r = false) : rparse (n + 1) acc S = none := by
 rw [rparse, hs]
 simp only [ho, if_true]
 rw [if_neg hr, hc]
 rfl
theorem rp_next {n : Nat} {acc : Pol} {S r : List UInt8} {x : Ex × Nat} (hs : rstep S = some (x, r)) (ho : nextP acc x = true) (hr : r ≠ []) (hc : [32, 43, 32].isPrefixOf r = true) : rparse (n + 1) acc S = rparse n (acc ++ [x]) (r.drop 3) := by
 rw [rparse, hs]
 simp only [ho, if_true]
 rw [if_neg hr, hc]
 rfl
theorem parse_none {s : List UInt8} (h0 : s ≠ [48]) (h : foldP [] (parts3 [] s) = none) : parseP s = ([], 3) := by
 unfold parseP
 rw [if_neg h0, h]
theorem parse_some {s : List UInt8} {l : Pol} (h0 : s ≠ [48]) (h : foldP [] (parts3 [] s) = some l) : parseP s = if farP l then ([], 2) else (l, 0) := by
 unfold parseP
 rw [if_neg h0, h]
theorem farP_snoc (acc : Pol) (x : Ex × Nat) : farP (acc ++ [x]) = (farP acc || (decide (2048 < x.1.1) || decide (2048 < x.1.2))) := by
 unfold farP
 rw [List.any_append]
 simp
theorem nextP_last {acc : Pol} {y x : Ex × Nat} (h : acc.getLast? = some y) : nextP acc x = ltX y.1 x.1 := by
 unfold nextP
 rw [h]
theorem num_ok {s : List UInt8} {most : Nat} (h : (rnumP s most).2.2 = true) (h0 : digP s ≠ [48]) : numS (digP s) = true := by
 unfold rnumP at h
 simp only [Bool.and_eq_true, Bool.or_eq_true, decide_eq_true_eq] at h
 obtain ⟨⟨h1, -⟩, h2⟩ := h
 have hd := digP_all s
 have hdr := digP_drop s
 rw [numS_iff]
 refine ⟨List.length_pos_iff.1 h1, fun e => ?_, hd⟩
 cases hc : digP s with
 | nil => rw [hc] at h1; simp at h1
 | cons c r =>
   rw [hc] at e h2 h0 hdr
   simp at e
   subst e
   rcases h2 with h2 | h2
   · simp at h2
     subst h2
     exact h0 rfl
   · rw [hdr] at h2
     simp at h2
theorem rstep_of {S : List UInt8} (h1 : (rnumP S 65536).2.2 = true) (h0 : digP S ≠ [48]) {a b : Nat} {R2 R3 : List UInt8} (hp : rpowP 120 (S.drop (digP S).length) = (a, R2, true)) (hq : rpowP 121 R2 = (b, R3, true)) : rstep S = some (((a, b), dval 0 (digP S)), R3) := by
 unfold rstep
 rw [h1, hp]
 simp only [hq]
 rw [decide_eq_true h0]
 rfl
theorem rstep_n1 {S : List UInt8} (h1 : (rnumP S 65536).2.2 = false) : rstep S = none := by
 unfold rstep
 rw [h1]
 rfl
theorem rstep_n2 {S : List UInt8} (h0 : digP S = [48]) : rstep S = none := by
 unfold rstep
 rw [h0]
 simp
theorem rstep_n3 {S : List UInt8} {a : Nat} {R2 : List UInt8} (hp : rpowP 120 (S.drop (digP S).length) = (a, R2, false)) : rstep S = none := by
 unfold rstep
 rw [hp]
 simp
theorem rstep_n4 {S : List UInt8} {a b : Nat} {R2 R3 : List UInt8} (hp : rpowP 120 (S.drop (digP S).length) = (a, R2, true)) (hq : rpowP 121 R2 = (b, R3, false)) : rstep S = none := by
 unfold rstep
 rw [hp]
 simp [hq]
end Go.Pal
namespace Go.Proofs.YtgnlebnpnpjfmaaGreatDoor
open Go Go.RowKit Go.Pal
attribute [local go_sem] Oper.semAt_some str_get str_upto str_from
theorem own_nointT {B : Nat} {w : World} {v : Value} {L : List (Sl × Ex)} (h : OwnT B w v L) (h0 : L = [] → v = .slice none 0 0) : ∀ j, v.ownBlock = some j → ∀ x : Int, w.cell? ⟨j, 0, none⟩ ≠ some (.int .i64 x) := by
 intro j hj x e
 cases L with
 | nil =>
   rw [h0 rfl] at hj
   cases hj
 | cons s r =>
   obtain ⟨b, c, rfl, -, -⟩ := h.addr (by simp)
   have hjb : b = j := Option.some.inj hj
   subst hjb
   have hc := OwnR.cellAt elT h (i := 0) (j := 0) (x := s) (u := slV s.1) rfl rfl
   simp only [Nat.zero_mul, Nat.add_zero] at hc
   rw [hc] at e
   simp [slV] at e
theorem tells_same {w w' : World} {L : List (Sl × Ex)} {p : Pol} {o : Option Nat} (h : Tells w L p) (hs : Same (fun j => o ≠ some j) w w') (hn : ∀ j, o = some j → ∀ x : Int, w.cell? ⟨j, 0, none⟩ ≠ some (.int .i64 x)) : Tells w' L p :=
 ⟨h.1, fun i x y hx hy => RdN.same (h.2 i x y hx hy) hs hn⟩
theorem tells_snoc {w : World} {L : List (Sl × Ex)} {p : Pol} (h : Tells w L p) {s : Sl} {k : Ex} {m : Nat} (hv : RefV w (slV s) m) : Tells w (L ++ [(s, k)]) (p ++ [(k, m)]) := by
 have hl := h.len
 refine ⟨by rw [List.map_append, List.map_append, h.1]; rfl, fun i x y hx hy => ?_⟩
 rcases Nat.lt_or_ge i L.length with hi | hi
 · rw [List.getElem?_append_left hi] at hx
   rw [List.getElem?_append_left (by omega)] at hy
   exact h.2 i x y hx hy
 · rw [List.getElem?_append_right hi] at hx
   rw [List.getElem?_append_right (by omega)] at hy
   have h0 : i - L.length = 0 := by
     have := (List.getElem?_eq_some_iff.1 hx).1
     simp at this
     omega
   rw [h0] at hx
   rw [show i - p.length = 0 by omega] at hy
   simp at hx hy
   subst hx hy
   exact hv
set_option maxRecDepth 100000 in
set_option maxHeartbeats 8000000 in
theorem qparse_any (s : List UInt8) (hl : s.length ≤ 60000) (w : World) :
   Calls Tryz.prog 13 #[.string ⟨s.toArray⟩] w fun e w' => ∃ v', e = .returned (.tuple #[v', .int .i64 ((parseP s).2 : Int)]) ∧ RefP w' v' (parseP s).1 ∧ Below w.heap.size w w' := by
 have d0 : decide (65536 < s.length) = false := decide_eq_false (by omega)
 have d0' : decide ((65536 : Int) < (s.length : Int)) = false := decide_eq_false (by omega)
 by_cases hz : s = [48]
 · have HP := Lib.hid (show parseP s = ([], 0) from by rw [hz]; unfold parseP; rw [if_pos rfl])
   have e1 : (s == [48]) = true := by rw [beq_iff_eq]; exact hz
   clear hz
   go_enter Tryz.func13, Tryz.ntmps13
   go_wp2_with fail
   go_ret2
   exact ⟨_, by rw [HP.out]; first | rfl | simp [go_sem], by rw [HP.out]; exact refP_nil _, Below.refl _ _⟩
 · have e1 : (s == [48]) = false := by rw [beq_eq_false_iff_ne]; exact hz
   have HZ := Lib.hid hz
   have HRP := Lib.hid (rparse_eq (s.length + 1) s [] (by omega) (by omega))
   clear hz
   go_enter Tryz.func13, Tryz.ntmps13
   go_wp2_with fail
   go_loopw [0, 4, 5] (fun sv out fv wr => ∃ (S : List UInt8) (acc : Pol) (L : List (Sl × Ex)) (n : Nat), sv = .string ⟨S.toArray⟩ ∧ OwnT w.heap.size wr out L ∧ (L = [] → out = .slice none 0 0) ∧ Tells wr L acc ∧ fv = .bool (farP acc) ∧ Below w.heap.size w wr ∧ S.length + acc.length ≤ 60000 ∧ S.length < n ∧ rparse n acc S = foldP [] (parts3 [] s)) (fun sv _ _ _ => lenS sv)
   case atStart => exact ⟨s, [], [], s.length + 1, rfl, OwnR.nil _ _, fun _ => rfl, Tells.nil _, rfl, Below.refl _ _, by simpa using hl, by omega, HRP.out⟩
   case round =>
     obtain ⟨S, acc, L, n, rfl, hO, hLn, hT, rfl, hb, hSl, hn, hrp⟩ := hrel
     obtain ⟨oa, oc, rfl⟩ := hO.sl
     have hLl := hT.len
     obtain ⟨n', rfl⟩ : ∃ m, n = m + 1 := ⟨n - 1, by omega⟩
     have HO := Lib.hid hO
     have HLN := Lib.hid hLn
     have HT := Lib.hid hT
     have HB := Lib.hid hb
     have HRQ := Lib.hid hrp
     have hsz := hb.size
     rw [hLl] at HO HLN ⊢
     have HBAD := Lib.hid fun (h : rparse (n' + 1) acc S = none) => show parseP s = ([], 3) from parse_none HZ.out (by rw [← HRQ.out]; exact h)
     clear hO hLn hT hb hrp e1 d0 d0' HRP
     go_wp2_with fail
     refine (qnumber_any S 65536 (by omega) (by decide) wr).mono ?_
     rintro e w1 ⟨rfl, b1⟩
     have B1 := Lib.hid b1
     obtain ⟨F, hF⟩ : ∃ F, F = (rnumP S 65536).2.2 := ⟨_, rfl⟩
     obtain ⟨D, hD⟩ : ∃ D, D = digP S := ⟨_, rfl⟩
     obtain ⟨R1, hR1⟩ : ∃ R, R = S.drop D.length := ⟨_, rfl⟩
     rw [← hF, ← hD, ← hR1]
     have hR1l : R1.length ≤ S.length := by rw [hR1, List.length_drop]; omega
     have HFD := Lib.hid (And.intro hF (And.intro hD hR1))
     clear b1 hF hD hR1
     cases F with
     | false =>
       have HP3 := Lib.hid (HBAD.out (rp_none (rstep_n1 HFD.out.1.symm)))
       go_wp2_with fail
       go_ret2
       exact ⟨_, by rw [HP3.out]; first | rfl | simp [go_sem], by rw [HP3.out]; exact refP_nil _, HB.out.trans (B1.out.mono hsz)⟩
     | true =>
       by_cases hD48 : D = [48]
       · have e2 : (D == [48]) = true := by rw [beq_iff_eq]; exact hD48
         have HP3 := Lib.hid (HBAD.out (rp_none (rstep_n2 (by rw [← HFD.out.2.1]; exact hD48))))
         clear hD48
         go_wp2_with fail
         go_ret2
         exact ⟨_, by rw [HP3.out]; first | rfl | simp [go_sem], by rw [HP3.out]; exact refP_nil _, HB.out.trans (B1.out.mono hsz)⟩
       · have e2 : (D == [48]) = false := by rw [beq_eq_false_iff_ne]; exact hD48
         have HDN := Lib.hid hD48
         clear hD48
         go_wp2_with fail
         refine (qpower_any 120 R1 (by omega) w1).mono ?_
         rintro e w2 ⟨rfl, b2⟩
         have B2 := Lib.hid (B1.out.trans (b2.mono B1.out.size))
         obtain ⟨a, ha⟩ : ∃ a, a = (rpowP 120 R1).1 := ⟨_, rfl⟩
         obtain ⟨R2, hR2⟩ : ∃ R, R = (rpowP 120 R1).2.1 := ⟨_, rfl⟩
         obtain ⟨F2, hF2⟩ : ∃ F, F = (rpowP 120 R1).2.2 := ⟨_, rfl⟩
         have HP2 := Lib.hid (show rpowP 120 R1 = (a, R2, F2) from by rw [ha, hR2, hF2])
         rw [← ha, ← hR2, ← hF2]
         clear b2 ha hR2 hF2
         cases F2 with
         | false =>
           have HP3 := Lib.hid (HBAD.out (rp_none (rstep_n3 (by rw [← HFD.out.2.1, ← HFD.out.2.2]; exact HP2.out))))
           go_wp2_with fail
           go_ret2
           exact ⟨_, by rw [HP3.out]; first | rfl | simp [go_sem], by rw [HP3.out]; exact refP_nil _, HB.out.trans (B2.out.mono hsz)⟩
         | true =>
           have hp2 := rpow_inv HP2.out
           have hR2l : R2.length ≤ R1.length := by rw [hp2.1, List.length_append]; omega
           have ha9 := hp2.2
           clear hp2
           go_wp2_with fail
           refine (qpower_any 121 R2 (by omega) w2).mono ?_
           rintro e w3 ⟨rfl, b3⟩
           have B3 := Lib.hid (B2.out.trans (b3.mono B2.out.size))
           obtain ⟨b, hb⟩ : ∃ a, a = (rpowP 121 R2).1 := ⟨_, rfl⟩
           obtain ⟨R3, hR3⟩ : ∃ R, R = (rpowP 121 R2).2.1 := ⟨_, rfl⟩
           obtain ⟨F3, hF3⟩ : ∃ F, F = (rpowP 121 R2).2.2 := ⟨_, rfl⟩
           have HP4 := Lib.hid (show rpowP 121 R2 = (b, R3, F3) from by rw [hb, hR3, hF3])
           rw [← hb, ← hR3, ← hF3]
           clear b3 hb hR3 hF3
           cases F3 with
           | false =>
             have HP3 := Lib.hid (HBAD.out (rp_none (rstep_n4 (by rw [← HFD.out.2.1, ← HFD.out.2.2]; exact HP2.out) HP4.out)))
             go_wp2_with fail
             go_ret2
             exact ⟨_, by rw [HP3.out]; first | rfl | simp [go_sem], by rw [HP3.out]; exact refP_nil _, HB.out.trans (B3.out.mono hsz)⟩
           | true =>
             have hp4 := rpow_inv HP4.out
             have hb9 := hp4.2
             have HST := Lib.hid (show rstep S = some (((a, b), dval 0 D), R3) from by
               have h := rstep_of (S := S) HFD.out.1.symm (by rw [← HFD.out.2.1]; exact HDN.out) (by rw [← HFD.out.2.1, ← HFD.out.2.2]; exact HP2.out) HP4.out
               rw [← HFD.out.2.1] at h
               exact h)
             have hst := rstep_inv HST.out
             obtain ⟨ct, rt, hct, -⟩ := termT_head ((a, b), dval 0 D) hst.2.1
             have hR3l : R3.length + 1 ≤ S.length := by rw [hst.1, hct, List.length_append, List.length_cons]; omega
             have HNUM := Lib.hid (show numS D = true from by rw [HFD.out.2.1]; exact num_ok HFD.out.1.symm (by rw [← HFD.out.2.1]; exact HDN.out))
             have hDl : D.length ≤ S.length := by rw [HFD.out.2.1]; exact (List.takeWhile_sublist _).length_le
             have HOB := Lib.hid (HO.out.below B1.out (Nat.le_refl _))
             clear hp4 hst hct HP2 HP4 B2 B1
             rcases Nat.eq_zero_or_pos acc.length with h0 | h0
             · have hd0 : decide (0 < acc.length) = false := decide_eq_false (by omega)
               have HOR := Lib.hid (show nextP acc ((a, b), dval 0 D) = true from by rw [List.length_eq_zero_iff.1 h0]; rfl)
               have BC := B3
               clear h0
               go_upto_region 20 with fail
               go_cut [5] from 74 to 82 (fun c wx => c = .bool (farP (acc ++ [((a, b), dval 0 D)])) ∧ wx = w3)
               case first =>
                 have HFS := Lib.hid (farP_snoc acc ((a, b), dval 0 D))
                 obtain ⟨FA, hFA⟩ : ∃ F, F = farP acc := ⟨_, rfl⟩
                 rw [← hFA] at HFS ⊢
                 clear hFA
                 cases FA with
                 | true =>
                   go_wp2_with fail
                   go_meet
                   case rel => exact ⟨by rw [HFS.out]; rfl, rfl⟩
                 | false =>
                   by_cases y1 : 2048 < a
                   · have z1 : decide (2048 < a) = true := decide_eq_true y1
                     have z2 : decide ((2048 : Int) < (a : Int)) = true := decide_eq_true (by omega)
                     have Z1 := Lib.hid z1
                     go_wp2_with fail
                     go_meet
                     case rel => exact ⟨by rw [HFS.out, Z1.out]; rfl, rfl⟩
                   · have z1 : decide (2048 < a) = false := decide_eq_false y1
                     have z2 : decide ((2048 : Int) < (a : Int)) = false := decide_eq_false (by omega)
                     have Z1 := Lib.hid z1
                     by_cases y2 : 2048 < b
                     · have z3 : decide (2048 < b) = true := decide_eq_true y2
                       have z4 : decide ((2048 : Int) < (b : Int)) = true := decide_eq_true (by omega)
                       have Z3 := Lib.hid z3
                       go_wp2_with fail
                       go_meet
                       case rel => exact ⟨by rw [HFS.out, Z1.out, Z3.out]; rfl, rfl⟩
                     · have z3 : decide (2048 < b) = false := decide_eq_false y2
                       have z4 : decide ((2048 : Int) < (b : Int)) = false := decide_eq_false (by omega)
                       have Z3 := Lib.hid z3
                       go_wp2_with fail
                       go_meet
                       case rel => exact ⟨by rw [HFS.out, Z1.out, Z3.out]; rfl, rfl⟩
               case rest =>
                 obtain ⟨rfl, hwc⟩ := hcut
                 rw [hwc]
                 clear hwc
                 go_wp2_with fail
                 refine (dparse_any D HNUM.out (by omega) _).mono ?_
                 rintro e w5 ⟨v5, rfl, h5, b5⟩
                 obtain ⟨na, nc, rfl, -, -⟩ := id h5
                 obtain ⟨nl, hnl⟩ : ∃ l, l = (digB 10 (dval 0 D)).length := ⟨_, rfl⟩
                 rw [← hnl] at h5 ⊢
                 have hbA : Below w5.heap.size w5 (w5.alloc (.cells #[.slice na nl nc, .int .i64 (a : Int), .int .i64 (b : Int)] 104)) := (Below.refl _ _).alloc (Nat.le_refl _) _
                 have BB5 := BC.out.trans (b5.mono BC.out.size)
                 have BA := BB5.trans (hbA.mono BB5.size)
                 have HOA := Lib.hid (HO.out.below BA (Nat.le_refl _))
                 have HNI := Lib.hid (own_nointT HOA.out HLN.out)
                 have HTA := Lib.hid (tells_snoc (s := (na, nl, nc)) (k := (a, b)) (m := dval 0 D) (HT.out.below BA) (RefV.below h5 hbA))
                 have BWA := Lib.hid (HB.out.trans (BA.mono hsz))
                 have hs5 : wr.heap.size ≤ w5.heap.size := BB5.size
                 clear h5 b5 hnl hbA BB5 BA
                 go_wp2_with (at_builtin; refine wpList_appO elT 29 Tryz.underlying29 rfl _ _ rfl w.heap.size _ L rfl HOA.out _ ((na, nl, nc), (a, b)) _ rfl (row?_alloc_at _ _ _ _ (by simp)) (by omega) (by simp; omega) ?_)
                 intro v6 w6 hO6 hb6 hg6 hl6
                 have HT6 := Lib.hid (tells_same HTA.out (same_grown hg6) HNI.out)
                 have HO6 := Lib.hid hO6
                 have B6 := Lib.hid (BWA.out.trans hb6)
                 have HLEN6 := Lib.hid (show (L ++ [(((na, nl, nc), (a, b)) : Sl × Ex)]).length = acc.length + 1 from by rw [List.length_append, hLl]; rfl)
                 obtain ⟨oa6, oc6, rfl⟩ := hO6.sl
                 clear hO6 hb6 hg6 hl6 HOA HNI HTA BWA
                 by_cases hr : R3 = []
                 · have r1 : (R3 == []) = true := by rw [beq_iff_eq]; exact hr
                   have HPS := Lib.hid (parse_some HZ.out (by rw [← HRQ.out]; exact rp_end (by rw [← hr]; exact HST.out) HOR.out))
                   obtain ⟨FZ, hFZ⟩ : ∃ F, F = farP (acc ++ [((a, b), dval 0 D)]) := ⟨_, rfl⟩
                   rw [← hFZ] at HPS ⊢
                   clear hFZ
                   cases FZ with
                   | true =>
                     have HP3 := Lib.hid (show parseP s = ([], 2) from HPS.out)
                     go_wp2_with fail
                     go_ret2
                     exact ⟨_, by rw [HP3.out]; first | rfl | simp [go_sem], by rw [HP3.out]; exact refP_nil _, B6.out⟩
                   | false =>
                     have HP3 := Lib.hid (show parseP s = (acc ++ [((a, b), dval 0 D)], 0) from HPS.out)
                     go_wp2_with fail
                     go_ret2
                     exact ⟨_, by rw [HP3.out]; first | rfl | simp [go_sem], by rw [HP3.out]; exact own_ref HO6.out HT6.out, B6.out⟩
                 · have r1 : (R3 == []) = false := by rw [beq_eq_false_iff_ne]; exact hr
                   have HRN := Lib.hid hr
                   go_wp2_with fail
                   refine (qcut_any R3 [32, 43, 32] (by omega) w6).mono ?_
                   rintro e w7 ⟨rfl, b7⟩
                   have B7 := Lib.hid (B6.out.trans (b7.mono B6.out.size))
                   have HO7 := Lib.hid (HO6.out.below b7 (Nat.le_refl _))
                   have HT7 := Lib.hid (HT6.out.below b7)
                   by_cases hp : [32, 43, 32].isPrefixOf R3 = true
                   · have HC := Lib.hid (show rcutP [32, 43, 32] R3 = (R3.drop 3, true) from by unfold rcutP; rw [if_pos hp]; rfl)
                     rw [HC.out]
                     have HNX := Lib.hid (show rparse n' (acc ++ [((a, b), dval 0 D)]) (R3.drop 3) = foldP [] (parts3 [] s) from by rw [← HRQ.out, rp_next HST.out HOR.out HRN.out hp])
                     have hdl : (R3.drop 3).length + 1 ≤ S.length := by rw [List.length_drop]; omega
                     have HDL := Lib.hid hdl
                     clear hp HC b7 hdl hr
                     go_wp2_with fail
                     go_roundw
                     case rel => exact ⟨R3.drop 3, _, _, n', rfl, by first | exact HO7.out | (have h := HO7.out; rw [HLEN6.out] at h; exact h), fun e => by simp at e, HT7.out, rfl, B7.out, by have := HDL.out; rw [List.length_append, List.length_singleton]; omega, by have := HDL.out; omega, HNX.out⟩
                     case measure => rw [lenS_str, lenS_str]; have := HDL.out; omega
                   · have HC := Lib.hid (show rcutP [32, 43, 32] R3 = (R3, false) from by unfold rcutP; rw [if_neg hp])
                     rw [HC.out]
                     have HP3 := Lib.hid (HBAD.out (rp_cut HST.out HOR.out HRN.out (Bool.eq_false_iff.2 hp)))
                     clear hp HC b7 hr
                     go_wp2_with fail
                     go_ret2
                     exact ⟨_, by rw [HP3.out]; first | rfl | simp [go_sem], by rw [HP3.out]; exact refP_nil _, B7.out⟩
             · have hd0 : decide (0 < acc.length) = true := decide_eq_true h0
               obtain ⟨q, hq⟩ : ∃ q, q = acc.length - 1 := ⟨_, rfl⟩
               have hq1 : (acc.length : Int) - 1 = (q : Int) := by omega
               have hq2 : q < acc.length := by omega
               have hq3 : (q : Int) < (acc.length : Int) := by omega
               obtain ⟨⟨ky, my⟩, hy⟩ : ∃ y, acc[q]? = some y := ⟨_, List.getElem?_eq_getElem hq2⟩
               obtain ⟨⟨sy, ky2⟩, hLy⟩ : ∃ y, L[q]? = some y := ⟨_, List.getElem?_eq_getElem (by omega)⟩
               have hky : ky2 = ky := by
                 have h3 := congrArg (fun l : List Ex => l[q]?) HT.out.1
                 simp only [List.getElem?_map, hLy, hy] at h3
                 exact Option.some.inj h3
               subst hky
               have hlast : acc.getLast? = some (ky2, my) := by rw [List.getLast?_eq_getElem?, ← hq]; exact hy
               have HLS := Lib.hid (nextP_last (x := ((a, b), dval 0 D)) hlast)
               have ho3 := HO.out.below B3.out (Nat.le_refl _)
               have hLne : L ≠ [] := fun e => by rw [e] at hLy; simp at hLy
               obtain ⟨bb, cc, hsl, -, -⟩ := OwnR.addr (by rw [← hLl] at ho3; exact ho3) hLne
               simp only [Value.slice.injEq] at hsl
               obtain ⟨rfl, -, rfl⟩ := hsl
               have jl : rowLoad Tryz.prog 104 ⟨bb, q * 3, none⟩ w3 = .ok (.agg #[.slice sy.1 sy.2.1 sy.2.2, .int .i64 (ky2.1 : Int), .int .i64 (ky2.2 : Int)]) w3 := load_cells Tryz.isAgg104 Tryz.sizeOf104 w3 bb _ (tA (sy, ky2)) rfl fun j u hu => OwnR.cellAt elT (by rw [← hLl] at ho3; exact ho3) hLy hu
               have g1 : (w3.alloc (.cells #[.slice sy.1 sy.2.1 sy.2.2, .int .i64 (ky2.1 : Int), .int .i64 (ky2.2 : Int)] 104)).cell? ⟨w3.heap.size, 1, none⟩ = some (.int .i64 (ky2.1 : Int)) := (cell?_row (i := 1) (row?_alloc_at _ _ _ _ rfl)).trans rfl
               have g2 : (w3.alloc (.cells #[.slice sy.1 sy.2.1 sy.2.2, .int .i64 (ky2.1 : Int), .int .i64 (ky2.2 : Int)] 104)).cell? ⟨w3.heap.size, 2, none⟩ = some (.int .i64 (ky2.2 : Int)) := (cell?_row (i := 2) (row?_alloc_at _ _ _ _ rfl)).trans rfl
               have BC := Lib.hid (B3.out.trans ((Below.refl w3.heap.size w3).alloc (Nat.le_refl _) (.cells #[.slice sy.1 sy.2.1 sy.2.2, .int .i64 (ky2.1 : Int), .int .i64 (ky2.2 : Int)] 104) |>.mono B3.out.size))
               clear hq hy hLy hlast ho3 hLne h0
               rcases Nat.lt_trichotomy a ky2.1 with h1 | h1 | h1
               · have x1 : decide (a < ky2.1) = true := decide_eq_true h1
                 have HP3 := Lib.hid (HBAD.out (rp_ord HST.out (by
                   rw [HLS.out]
                   have : ¬ (ltX ky2 (a, b) = true) := by rw [ltX_iff]; simp only; omega
                   simpa using this)))
                 go_wp2_with fail
                 go_ret2
                 exact ⟨_, by rw [HP3.out]; first | rfl | simp [go_sem], by rw [HP3.out]; exact refP_nil _, HB.out.trans (BC.out.mono hsz)⟩
               · have x1 : decide (a < ky2.1) = false := decide_eq_false (by omega)
                 have x2 : ((a : Int) == (ky2.1 : Int)) = true := by rw [beq_iff_eq]; omega
                 by_cases h2 : b ≤ ky2.2
                 · have x3 : decide (b ≤ ky2.2) = true := decide_eq_true h2
                   have HP3 := Lib.hid (HBAD.out (rp_ord HST.out (by
                     rw [HLS.out]
                     have : ¬ (ltX ky2 (a, b) = true) := by rw [ltX_iff]; simp only; omega
                     simpa using this)))
                   clear h1
                   go_wp2_with fail
                   go_ret2
                   exact ⟨_, by rw [HP3.out]; first | rfl | simp [go_sem], by rw [HP3.out]; exact refP_nil _, HB.out.trans (BC.out.mono hsz)⟩
                 · have x3 : decide (b ≤ ky2.2) = false := decide_eq_false h2
                   have HOR := Lib.hid (show nextP acc ((a, b), dval 0 D) = true from by rw [HLS.out, ltX_iff]; simp only; omega)
                   clear h1
                   go_upto_region 20 with fail
                   go_cut [5] from 74 to 82 (fun c wx => c = .bool (farP (acc ++ [((a, b), dval 0 D)])) ∧ wx = w3.alloc (.cells #[.slice sy.1 sy.2.1 sy.2.2, .int .i64 (ky2.1 : Int), .int .i64 (ky2.2 : Int)] 104))
                   case first =>
                     have HFS := Lib.hid (farP_snoc acc ((a, b), dval 0 D))
                     obtain ⟨FA, hFA⟩ : ∃ F, F = farP acc := ⟨_, rfl⟩
                     rw [← hFA] at HFS ⊢
                     clear hFA
                     cases FA with
                     | true =>
                       go_wp2_with fail
                       go_meet
                       case rel => exact ⟨by rw [HFS.out]; rfl, rfl⟩
                     | false =>
                       by_cases y1 : 2048 < a
                       · have z1 : decide (2048 < a) = true := decide_eq_true y1
                         have z2 : decide ((2048 : Int) < (a : Int)) = true := decide_eq_true (by omega)
                         have Z1 := Lib.hid z1
                         go_wp2_with fail
                         go_meet
                         case rel => exact ⟨by rw [HFS.out, Z1.out]; rfl, rfl⟩
                       · have z1 : decide (2048 < a) = false := decide_eq_false y1
                         have z2 : decide ((2048 : Int) < (a : Int)) = false := decide_eq_false (by omega)
                         have Z1 := Lib.hid z1
                         by_cases y2 : 2048 < b
                         · have z3 : decide (2048 < b) = true := decide_eq_true y2
                           have z4 : decide ((2048 : Int) < (b : Int)) = true := decide_eq_true (by omega)
                           have Z3 := Lib.hid z3
                           go_wp2_with fail
                           go_meet
                           case rel => exact ⟨by rw [HFS.out, Z1.out, Z3.out]; rfl, rfl⟩
                         · have z3 : decide (2048 < b) = false := decide_eq_false y2
                           have z4 : decide ((2048 : Int) < (b : Int)) = false := decide_eq_false (by omega)
                           have Z3 := Lib.hid z3
                           go_wp2_with fail
                           go_meet
                           case rel => exact ⟨by rw [HFS.out, Z1.out, Z3.out]; rfl, rfl⟩
                   case rest =>
                     obtain ⟨rfl, hwc⟩ := hcut
                     rw [hwc]
                     clear hwc
                     go_wp2_with fail
                     refine (dparse_any D HNUM.out (by omega) _).mono ?_
                     rintro e w5 ⟨v5, rfl, h5, b5⟩
                     obtain ⟨na, nc, rfl, -, -⟩ := id h5
                     obtain ⟨nl, hnl⟩ : ∃ l, l = (digB 10 (dval 0 D)).length := ⟨_, rfl⟩
                     rw [← hnl] at h5 ⊢
                     have hbA : Below w5.heap.size w5 (w5.alloc (.cells #[.slice na nl nc, .int .i64 (a : Int), .int .i64 (b : Int)] 104)) := (Below.refl _ _).alloc (Nat.le_refl _) _
                     have BB5 := BC.out.trans (b5.mono BC.out.size)
                     have BA := BB5.trans (hbA.mono BB5.size)
                     have HOA := Lib.hid (HO.out.below BA (Nat.le_refl _))
                     have HNI := Lib.hid (own_nointT HOA.out HLN.out)
                     have HTA := Lib.hid (tells_snoc (s := (na, nl, nc)) (k := (a, b)) (m := dval 0 D) (HT.out.below BA) (RefV.below h5 hbA))
                     have BWA := Lib.hid (HB.out.trans (BA.mono hsz))
                     have hs5 : wr.heap.size ≤ w5.heap.size := BB5.size
                     clear h5 b5 hnl hbA BB5 BA
                     go_wp2_with (at_builtin; refine wpList_appO elT 29 Tryz.underlying29 rfl _ _ rfl w.heap.size _ L rfl HOA.out _ ((na, nl, nc), (a, b)) _ rfl (row?_alloc_at _ _ _ _ (by simp)) (by omega) (by simp; omega) ?_)
                     intro v6 w6 hO6 hb6 hg6 hl6
                     have HT6 := Lib.hid (tells_same HTA.out (same_grown hg6) HNI.out)
                     have HO6 := Lib.hid hO6
                     have B6 := Lib.hid (BWA.out.trans hb6)
                     have HLEN6 := Lib.hid (show (L ++ [(((na, nl, nc), (a, b)) : Sl × Ex)]).length = acc.length + 1 from by rw [List.length_append, hLl]; rfl)
                     obtain ⟨oa6, oc6, rfl⟩ := hO6.sl
                     clear hO6 hb6 hg6 hl6 HOA HNI HTA BWA
                     by_cases hr : R3 = []
                     · have r1 : (R3 == []) = true := by rw [beq_iff_eq]; exact hr
                       have HPS := Lib.hid (parse_some HZ.out (by rw [← HRQ.out]; exact rp_end (by rw [← hr]; exact HST.out) HOR.out))
                       obtain ⟨FZ, hFZ⟩ : ∃ F, F = farP (acc ++ [((a, b), dval 0 D)]) := ⟨_, rfl⟩
                       rw [← hFZ] at HPS ⊢
                       clear hFZ
                       cases FZ with
                       | true =>
                         have HP3 := Lib.hid (show parseP s = ([], 2) from HPS.out)
                         go_wp2_with fail
                         go_ret2
                         exact ⟨_, by rw [HP3.out]; first | rfl | simp [go_sem], by rw [HP3.out]; exact refP_nil _, B6.out⟩
                       | false =>
                         have HP3 := Lib.hid (show parseP s = (acc ++ [((a, b), dval 0 D)], 0) from HPS.out)
                         go_wp2_with fail
                         go_ret2
                         exact ⟨_, by rw [HP3.out]; first | rfl | simp [go_sem], by rw [HP3.out]; exact own_ref HO6.out HT6.out, B6.out⟩
                     · have r1 : (R3 == []) = false := by rw [beq_eq_false_iff_ne]; exact hr
                       have HRN := Lib.hid hr
                       go_wp2_with fail
                       refine (qcut_any R3 [32, 43, 32] (by omega) w6).mono ?_
                       rintro e w7 ⟨rfl, b7⟩
                       have B7 := Lib.hid (B6.out.trans (b7.mono B6.out.size))
                       have HO7 := Lib.hid (HO6.out.below b7 (Nat.le_refl _))
                       have HT7 := Lib.hid (HT6.out.below b7)
                       by_cases hp : [32, 43, 32].isPrefixOf R3 = true
                       · have HC := Lib.hid (show rcutP [32, 43, 32] R3 = (R3.drop 3, true) from by unfold rcutP; rw [if_pos hp]; rfl)
                         rw [HC.out]
                         have HNX := Lib.hid (show rparse n' (acc ++ [((a, b), dval 0 D)]) (R3.drop 3) = foldP [] (parts3 [] s) from by rw [← HRQ.out, rp_next HST.out HOR.out HRN.out hp])
                         have hdl : (R3.drop 3).length + 1 ≤ S.length := by rw [List.length_drop]; omega
                         have HDL := Lib.hid hdl
                         clear hp HC b7 hdl hr
                         go_wp2_with fail
                         go_roundw
                         case rel => exact ⟨R3.drop 3, _, _, n', rfl, by first | exact HO7.out | (have h := HO7.out; rw [HLEN6.out] at h; exact h), fun e => by simp at e, HT7.out, rfl, B7.out, by have := HDL.out; rw [List.length_append, List.length_singleton]; omega, by have := HDL.out; omega, HNX.out⟩
                         case measure => rw [lenS_str, lenS_str]; have := HDL.out; omega
                       · have HC := Lib.hid (show rcutP [32, 43, 32] R3 = (R3, false) from by unfold rcutP; rw [if_neg hp])
                         rw [HC.out]
                         have HP3 := Lib.hid (HBAD.out (rp_cut HST.out HOR.out HRN.out (Bool.eq_false_iff.2 hp)))
                         clear hp HC b7 hr
                         go_wp2_with fail
                         go_ret2
                         exact ⟨_, by rw [HP3.out]; first | rfl | simp [go_sem], by rw [HP3.out]; exact refP_nil _, B7.out⟩
               · have x1 : decide (a < ky2.1) = false := decide_eq_false (by omega)
                 have x2 : ((a : Int) == (ky2.1 : Int)) = false := by rw [beq_eq_false_iff_ne]; omega
                 have HOR := Lib.hid (show nextP acc ((a, b), dval 0 D) = true from by rw [HLS.out, ltX_iff]; simp only; omega)
                 go_upto_region 20 with fail
                 go_cut [5] from 74 to 82 (fun c wx => c = .bool (farP (acc ++ [((a, b), dval 0 D)])) ∧ wx = w3.alloc (.cells #[.slice sy.1 sy.2.1 sy.2.2, .int .i64 (ky2.1 : Int), .int .i64 (ky2.2 : Int)] 104))
                 case first =>
                   have HFS := Lib.hid (farP_snoc acc ((a, b), dval 0 D))
                   obtain ⟨FA, hFA⟩ : ∃ F, F = farP acc := ⟨_, rfl⟩
                   rw [← hFA] at HFS ⊢
                   clear hFA
                   cases FA with
                   | true =>
                     go_wp2_with fail
                     go_meet
                     case rel => exact ⟨by rw [HFS.out]; rfl, rfl⟩
                   | false =>
                     by_cases y1 : 2048 < a
                     · have z1 : decide (2048 < a) = true := decide_eq_true y1
                       have z2 : decide ((2048 : Int) < (a : Int)) = true := decide_eq_true (by omega)
                       have Z1 := Lib.hid z1
                       go_wp2_with fail
                       go_meet
                       case rel => exact ⟨by rw [HFS.out, Z1.out]; rfl, rfl⟩
                     · have z1 : decide (2048 < a) = false := decide_eq_false y1
                       have z2 : decide ((2048 : Int) < (a : Int)) = false := decide_eq_false (by omega)
                       have Z1 := Lib.hid z1
                       by_cases y2 : 2048 < b
                       · have z3 : decide (2048 < b) = true := decide_eq_true y2
                         have z4 : decide ((2048 : Int) < (b : Int)) = true := decide_eq_true (by omega)
                         have Z3 := Lib.hid z3
                         go_wp2_with fail
                         go_meet
                         case rel => exact ⟨by rw [HFS.out, Z1.out, Z3.out]; rfl, rfl⟩
                       · have z3 : decide (2048 < b) = false := decide_eq_false y2
                         have z4 : decide ((2048 : Int) < (b : Int)) = false := decide_eq_false (by omega)
                         have Z3 := Lib.hid z3
                         go_wp2_with fail
                         go_meet
                         case rel => exact ⟨by rw [HFS.out, Z1.out, Z3.out]; rfl, rfl⟩
                 case rest =>
                   obtain ⟨rfl, hwc⟩ := hcut
                   rw [hwc]
                   clear hwc
                   go_wp2_with fail
                   refine (dparse_any D HNUM.out (by omega) _).mono ?_
                   rintro e w5 ⟨v5, rfl, h5, b5⟩
                   obtain ⟨na, nc, rfl, -, -⟩ := id h5
                   obtain ⟨nl, hnl⟩ : ∃ l, l = (digB 10 (dval 0 D)).length := ⟨_, rfl⟩
                   rw [← hnl] at h5 ⊢
                   have hbA : Below w5.heap.size w5 (w5.alloc (.cells #[.slice na nl nc, .int .i64 (a : Int), .int .i64 (b : Int)] 104)) := (Below.refl _ _).alloc (Nat.le_refl _) _
                   have BB5 := BC.out.trans (b5.mono BC.out.size)
                   have BA := BB5.trans (hbA.mono BB5.size)
                   have HOA := Lib.hid (HO.out.below BA (Nat.le_refl _))
                   have HNI := Lib.hid (own_nointT HOA.out HLN.out)
                   have HTA := Lib.hid (tells_snoc (s := (na, nl, nc)) (k := (a, b)) (m := dval 0 D) (HT.out.below BA) (RefV.below h5 hbA))
                   have BWA := Lib.hid (HB.out.trans (BA.mono hsz))
                   have hs5 : wr.heap.size ≤ w5.heap.size := BB5.size
                   clear h5 b5 hnl hbA BB5 BA
                   go_wp2_with (at_builtin; refine wpList_appO elT 29 Tryz.underlying29 rfl _ _ rfl w.heap.size _ L rfl HOA.out _ ((na, nl, nc), (a, b)) _ rfl (row?_alloc_at _ _ _ _ (by simp)) (by omega) (by simp; omega) ?_)
                   intro v6 w6 hO6 hb6 hg6 hl6
                   have HT6 := Lib.hid (tells_same HTA.out (same_grown hg6) HNI.out)
                   have HO6 := Lib.hid hO6
                   have B6 := Lib.hid (BWA.out.trans hb6)
                   have HLEN6 := Lib.hid (show (L ++ [(((na, nl, nc), (a, b)) : Sl × Ex)]).length = acc.length + 1 from by rw [List.length_append, hLl]; rfl)
                   obtain ⟨oa6, oc6, rfl⟩ := hO6.sl
                   clear hO6 hb6 hg6 hl6 HOA HNI HTA BWA
                   by_cases hr : R3 = []
                   · have r1 : (R3 == []) = true := by rw [beq_iff_eq]; exact hr
                     have HPS := Lib.hid (parse_some HZ.out (by rw [← HRQ.out]; exact rp_end (by rw [← hr]; exact HST.out) HOR.out))
                     obtain ⟨FZ, hFZ⟩ : ∃ F, F = farP (acc ++ [((a, b), dval 0 D)]) := ⟨_, rfl⟩
                     rw [← hFZ] at HPS ⊢
                     clear hFZ
                     cases FZ with
                     | true =>
                       have HP3 := Lib.hid (show parseP s = ([], 2) from HPS.out)
                       go_wp2_with fail
                       go_ret2
                       exact ⟨_, by rw [HP3.out]; first | rfl | simp [go_sem], by rw [HP3.out]; exact refP_nil _, B6.out⟩
                     | false =>
                       have HP3 := Lib.hid (show parseP s = (acc ++ [((a, b), dval 0 D)], 0) from HPS.out)
                       go_wp2_with fail
                       go_ret2
                       exact ⟨_, by rw [HP3.out]; first | rfl | simp [go_sem], by rw [HP3.out]; exact own_ref HO6.out HT6.out, B6.out⟩
                   · have r1 : (R3 == []) = false := by rw [beq_eq_false_iff_ne]; exact hr
                     have HRN := Lib.hid hr
                     go_wp2_with fail
                     refine (qcut_any R3 [32, 43, 32] (by omega) w6).mono ?_
                     rintro e w7 ⟨rfl, b7⟩
                     have B7 := Lib.hid (B6.out.trans (b7.mono B6.out.size))
                     have HO7 := Lib.hid (HO6.out.below b7 (Nat.le_refl _))
                     have HT7 := Lib.hid (HT6.out.below b7)
                     by_cases hp : [32, 43, 32].isPrefixOf R3 = true
                     · have HC := Lib.hid (show rcutP [32, 43, 32] R3 = (R3.drop 3, true) from by unfold rcutP; rw [if_pos hp]; rfl)
                       rw [HC.out]
                       have HNX := Lib.hid (show rparse n' (acc ++ [((a, b), dval 0 D)]) (R3.drop 3) = foldP [] (parts3 [] s) from by rw [← HRQ.out, rp_next HST.out HOR.out HRN.out hp])
                       have hdl : (R3.drop 3).length + 1 ≤ S.length := by rw [List.length_drop]; omega
                       have HDL := Lib.hid hdl
                       clear hp HC b7 hdl hr
                       go_wp2_with fail
                       go_roundw
                       case rel => exact ⟨R3.drop 3, _, _, n', rfl, by first | exact HO7.out | (have h := HO7.out; rw [HLEN6.out] at h; exact h), fun e => by simp at e, HT7.out, rfl, B7.out, by have := HDL.out; rw [List.length_append, List.length_singleton]; omega, by have := HDL.out; omega, HNX.out⟩
                       case measure => rw [lenS_str, lenS_str]; have := HDL.out; omega
                     · have HC := Lib.hid (show rcutP [32, 43, 32] R3 = (R3, false) from by unfold rcutP; rw [if_neg hp])
                       rw [HC.out]
                       have HP3 := Lib.hid (HBAD.out (rp_cut HST.out HOR.out HRN.out (Bool.eq_false_iff.2 hp)))
                       clear hp HC b7 hr
                       go_wp2_with fail
                       go_ret2
                       exact ⟨_, by rw [HP3.out]; first | rfl | simp [go_sem], by rw [HP3.out]; exact refP_nil _, B7.out⟩
end Go.Proofs.YtgnlebnpnpjfmaaGreatDoor
