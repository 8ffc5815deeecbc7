/- Walks of the reference's polynomials: power. -/
import Derived.Test.YtgnlebnpnpjfmaaGreatDoorUQV
import Derived.Test.YtgnlebnpnpjfmaaGreatDoorUQG
set_option linter.all false
namespace Go.Proofs.YtgnlebnpnpjfmaaGreatDoor
open Go Go.RowKit Go.Pal
attribute [local go_sem] Oper.semAt_some str_get str_upto str_from
theorem app_x (c : UInt8) : (⟨#[32]⟩ : ByteArray) ++ ⟨#[c]⟩ ++ ⟨#[94]⟩ = ⟨[32, c, 94].toArray⟩ := by
 rw [show (⟨#[32]⟩ : ByteArray) = ⟨[32].toArray⟩ from rfl, show (⟨#[c]⟩ : ByteArray) = ⟨[c].toArray⟩ from rfl, show (⟨#[94]⟩ : ByteArray) = ⟨[94].toArray⟩ from rfl, app_str, app_str]
 rfl
set_option maxRecDepth 100000 in
set_option maxHeartbeats 4000000 in
theorem qpower_any (c : UInt8) (s : List UInt8) (hl : s.length ≤ 70000) (w : World) :
   Calls Tryz.prog 60 #[.string ⟨s.toArray⟩, .string ⟨#[c]⟩] w fun e w' => e = .returned (.tuple #[.int .i64 ((rpowP c s).1 : Int), .string ⟨(rpowP c s).2.1.toArray⟩, .bool (rpowP c s).2.2]) ∧ Below w.heap.size w w' := by
 have happ := app_x c
 have HAPP := Lib.hid (app_x c)
 go_enter Tryz.func60, Tryz.ntmps60
 go_wp2_with fail
 try rw [HAPP.out]
 clear happ
 refine (qcut_any s [32, c, 94] hl w).mono ?_
 rintro e w1 ⟨rfl, b1⟩
 have B1 := Lib.hid b1
 clear b1
 by_cases hp : [32, c, 94].isPrefixOf s = true
 · have HC := Lib.hid (show rcutP [32, c, 94] s = (s.drop 3, true) from by unfold rcutP; rw [if_pos hp]; rfl)
   rw [HC.out]
   have HR := Lib.hid (show rpowP c s = (dval 0 ((digP (s.drop 3)).take 9), (s.drop 3).drop (digP (s.drop 3)).length, (rnumP (s.drop 3) 9).2.2 && decide (0 < dval 0 ((digP (s.drop 3)).take 9))) from by unfold rpowP; rw [if_pos hp])
   obtain ⟨r, hr⟩ : ∃ r, r = s.drop 3 := ⟨_, rfl⟩
   rw [← hr] at HR ⊢
   have hrl : r.length ≤ 70000 := by rw [hr, List.length_drop]; omega
   clear hr hp HC
   go_wp2_with fail
   refine (qnumber_any r 9 hrl (by decide) w1).mono ?_
   rintro e w2 ⟨rfl, b2⟩
   have B2 := Lib.hid (B1.out.trans (b2.mono B1.out.size))
   have HDA := Lib.hid (digP_all r)
   obtain ⟨D, hD⟩ : ∃ D, D = digP r := ⟨_, rfl⟩
   obtain ⟨F, hF⟩ : ∃ F, F = (rnumP r 9).2.2 := ⟨_, rfl⟩
   have hDl : D.length ≤ r.length := by rw [hD]; exact (List.takeWhile_sublist _).length_le
   rw [← hD] at HDA
   rw [← hD, ← hF] at HR ⊢
   clear b2 hD hF B1
   go_wp2_with fail
   go_loopw [12, 13] (fun n i wr => ∃ j : Nat, j ≤ 9 ∧ j ≤ D.length ∧ i = .int .i64 (j : Int) ∧ n = .int .i64 (dval 0 (D.take j) : Int) ∧ Below w.heap.size w wr) (fun _ i _ => 9 - (intOf i).toNat)
   case atStart => exact ⟨0, by omega, by omega, rfl, rfl, B2.out⟩
   case round =>
     obtain ⟨j, hj9, hjl, rfl, rfl, hb⟩ := hrel
     have HB := Lib.hid hb
     clear hb B2
     rcases Nat.lt_or_ge j D.length with hj | hj
     · have hdj : decide (j < D.length) = true := decide_eq_true hj
       rcases Nat.lt_or_ge j 9 with hj2 | hj2
       · have hd9 : decide (j < 9) = true := decide_eq_true hj2
         have hd9' : decide ((j : Int) < 9) = true := decide_eq_true (by omega)
         obtain ⟨x, hx⟩ : ∃ x, D[j]? = some x := ⟨_, List.getElem?_eq_getElem hj⟩
         obtain ⟨hj3, hx2⟩ := List.getElem?_eq_some_iff.1 hx
         obtain ⟨hx48, hx57⟩ := HDA.out x (List.mem_of_getElem? hx)
         have hlt : dval 0 (D.take j) < 1000000000 := Nat.lt_of_lt_of_le (dval_lt _ (fun c hc => HDA.out c (List.mem_of_mem_take hc))) (by
           rw [List.length_take]
           exact Nat.le_trans (Nat.pow_le_pow_right (by decide) (show min j D.length ≤ 9 by omega)) (by decide))
         have HN := Lib.hid (show dval 0 (D.take (j + 1)) = dval 0 (D.take j) * 10 + (x.toNat - 48) from by rw [take_snoc hx, dval_snoc])
         obtain ⟨d, hd⟩ : ∃ d, d = dval 0 (D.take j) := ⟨_, rfl⟩
         rw [← hd] at HN hlt ⊢
         have HNI := Lib.hid (show 10 * (d : Int) + (x.toNat : Int) - 48 = ((dval 0 (D.take (j + 1)) : Nat) : Int) from by rw [HN.out]; omega)
         clear hx hd
         go_wp2_with fail
         go_roundw
         case rel => exact ⟨j + 1, by omega, by omega, by go_num, by rw [← HNI.out], HB.out⟩
         case measure => simp [intOf]; omega
       · have hd9 : decide (j < 9) = false := decide_eq_false (by omega)
         have hd9' : decide ((j : Int) < 9) = false := decide_eq_false (by omega)
         have HT := Lib.hid (show D.take j = D.take 9 from by rw [show j = 9 by omega])
         rw [HT.out]
         obtain ⟨d, hd⟩ : ∃ d, d = dval 0 (D.take 9) := ⟨_, rfl⟩
         rw [← hd] at HR ⊢
         clear hd
         cases F with
         | true =>
           rcases Nat.eq_zero_or_pos d with h0 | h0
           · have hd0 : decide (0 < d) = false := decide_eq_false (by omega)
             have HD0 := Lib.hid hd0
             go_wp2_with fail
             go_ret3
             exact ⟨by rw [HR.out, HD0.out]; rfl, HB.out⟩
           · have hd0 : decide (0 < d) = true := decide_eq_true h0
             have HD0 := Lib.hid hd0
             go_wp2_with fail
             go_ret3
             exact ⟨by rw [HR.out, HD0.out]; rfl, HB.out⟩
         | false =>
           go_wp2_with fail
           go_ret3
           exact ⟨by rw [HR.out]; rfl, HB.out⟩
     · have hdj : decide (j < D.length) = false := decide_eq_false (by omega)
       have HT := Lib.hid (show D.take j = D.take 9 from by rw [List.take_of_length_le hj, List.take_of_length_le (by omega)])
       rw [HT.out]
       obtain ⟨d, hd⟩ : ∃ d, d = dval 0 (D.take 9) := ⟨_, rfl⟩
       rw [← hd] at HR ⊢
       clear hd
       cases F with
       | true =>
         rcases Nat.eq_zero_or_pos d with h0 | h0
         · have hd0 : decide (0 < d) = false := decide_eq_false (by omega)
           have HD0 := Lib.hid hd0
           go_wp2_with fail
           go_ret3
           exact ⟨by rw [HR.out, HD0.out]; rfl, HB.out⟩
         · have hd0 : decide (0 < d) = true := decide_eq_true h0
           have HD0 := Lib.hid hd0
           go_wp2_with fail
           go_ret3
           exact ⟨by rw [HR.out, HD0.out]; rfl, HB.out⟩
       | false =>
         go_wp2_with fail
         go_ret3
         exact ⟨by rw [HR.out]; rfl, HB.out⟩
 · have HC := Lib.hid (show rcutP [32, c, 94] s = (s, false) from by unfold rcutP; rw [if_neg hp])
   rw [HC.out]
   have HR := Lib.hid (show rpowP c s = (0, s, true) from by unfold rpowP; rw [if_neg hp])
   clear hp HC
   go_wp2_with fail
   go_ret3
   exact ⟨by rw [HR.out]; rfl, B1.out⟩
end Go.Proofs.YtgnlebnpnpjfmaaGreatDoor
