/- Walks of the reference's numbers: Parse. -/
import Derived.Test.YtgnlebnpnpjfmaaGreatDoorUQV
import Derived.Test.YtgnlebnpnpjfmaaGreatDoorUNJ
set_option linter.all false
namespace Go.Pal
def pdS (s : List UInt8) (k : Nat) : List Nat := List.replicate (s.length - k) 0 ++ ((s.take k).map fun c => c.toNat - 48).reverse
theorem pdS_len (s : List UInt8) {k : Nat} (h : k ≤ s.length) : (pdS s k).length = s.length := by
 unfold pdS
 rw [List.length_append, List.length_replicate, List.length_reverse, List.length_map, List.length_take]
 omega
theorem pdS_step {s : List UInt8} {k : Nat} {x : UInt8} (hx : s[k]? = some x) : pdS s (k + 1) = (pdS s k).set (s.length - 1 - k) (x.toNat - 48) := by
 have hk := (List.getElem?_eq_some_iff.1 hx).1
 unfold pdS
 obtain ⟨r, hr⟩ : ∃ r, s.length - k = r + 1 := ⟨s.length - k - 1, by omega⟩
 rw [take_snoc hx, List.map_append, List.reverse_append, hr, show s.length - (k + 1) = r by omega, show s.length - 1 - k = r by omega, List.replicate_succ', List.append_assoc, List.set_append, if_neg (by simp), List.length_replicate, Nat.sub_self]
 rfl
theorem pd_val : ∀ t : List UInt8, valB 10 (t.map fun c => c.toNat - 48) = dval 0 t.reverse
 | [] => by rw [List.reverse_nil, dval_nil]; rfl
 | c :: r => by
   rw [List.map_cons, valB_cons, pd_val r, List.reverse_cons, dval_snoc]
   omega
theorem pdS_val (s : List UInt8) : valB 10 (pdS s s.length) = dval 0 s := by
 unfold pdS
 rw [Nat.sub_self, List.replicate_zero, List.nil_append, List.take_length, ← List.map_reverse, pd_val, List.reverse_reverse]
theorem pdS_ok {s : List UInt8} (h : ∀ c ∈ s, isDig c) : DigOk 10 (pdS s s.length) := by
 unfold pdS
 rw [Nat.sub_self, List.replicate_zero, List.nil_append, List.take_length]
 intro x hx
 rw [List.mem_reverse, List.mem_map] at hx
 obtain ⟨c, hc, rfl⟩ := hx
 have h1 := (h c hc).2
 omega
end Go.Pal
namespace Go.Proofs.YtgnlebnpnpjfmaaGreatDoor
open Go Go.RowKit Go.Pal
attribute [local go_sem] Oper.semAt_some str_get str_upto str_from
set_option maxRecDepth 100000 in
set_option maxHeartbeats 4000000 in
theorem dparse_any (s : List UInt8) (hs : numS s = true) (hl : s.length ≤ 70000) (w : World) :
   Calls Tryz.prog 61 #[.string ⟨s.toArray⟩] w fun e w' => ∃ v', e = .returned (.tuple #[v', .bool true]) ∧ RefV w' v' (dval 0 s) ∧ Below w.heap.size w w' := by
 obtain ⟨hne, hh, hall⟩ := numS_iff.1 hs
 have hpos : 0 < s.length := List.length_pos_iff.2 hne
 obtain ⟨x0, hx0⟩ : ∃ x, s[0]? = some x := ⟨_, List.getElem?_eq_getElem hpos⟩
 obtain ⟨hz0, hz1⟩ := List.getElem?_eq_some_iff.1 hx0
 have hx48 : ¬ x0.toNat = 48 := fun e => hh (by rw [List.head?_eq_getElem?, hx0]; exact congrArg some (UInt8.toNat_inj.1 e))
 have d0 : ((x0.toNat : Int) == 48) = false := by rw [beq_eq_false_iff_ne]; omega
 have d1 : ¬ (x0.toNat : Int) = 48 := by omega
 have dne : (s == []) = false := by rw [beq_eq_false_iff_ne]; exact hne
 have dnil : ¬ s = [] := hne
 have HALL := Lib.hid hall
 have hmk := make_D s.length (by omega)
 obtain ⟨W0, hW0⟩ : ∃ W0, w.alloc (.cells (digsA (List.replicate s.length 0)) 3) = W0 := ⟨_, rfl⟩
 have hb0 : Below w.heap.size w W0 := by rw [← hW0]; exact (Below.refl _ _).alloc (Nat.le_refl _) _
 have e0 : row? W0 w.heap.size = some (digsA (pdS s 0)) := by rw [← hW0]; simp [go_sem, pdS]
 have HB0 := Lib.hid hb0
 have HE := Lib.hid e0
 have HS0 := Lib.hid (row?_lt e0)
 clear hs hh hall hx0 hx48 hb0 e0
 by_cases h1 : 1 < s.length
 · have d2 : decide (1 < s.length) = true := decide_eq_true h1
   have d2' : decide ((1 : Int) < (s.length : Int)) = true := decide_eq_true (by omega)
   go_enter Tryz.func61, Tryz.ntmps61
   go_wp2_with fail
   try rw [hW0]
   clear hW0 hmk
   go_loopw [5] (fun i wr => ∃ k : Nat, k ≤ s.length ∧ i = .int .i64 (k : Int) ∧ row? wr w.heap.size = some (digsA (pdS s k)) ∧ Same (fun j => j ≠ w.heap.size) W0 wr) (fun i _ => s.length - (intOf i).toNat)
   case atStart => exact ⟨0, by omega, rfl, HE.out, Same.refl _ _⟩
   case round =>
     obtain ⟨k, hk, rfl, hr, hss⟩ := hrel
     have hb : Below w.heap.size w wr := HB0.out.trans (hss.below (by have := HS0.out; omega) fun j hj => by omega)
     have HR := Lib.hid hr
     have HS := Lib.hid hss
     have HB := Lib.hid hb
     have htl := pdS_len s hk
     clear hr hss hb
     by_cases hlt : k < s.length
     · obtain ⟨x, hx⟩ : ∃ x, s[k]? = some x := ⟨_, List.getElem?_eq_getElem hlt⟩
       obtain ⟨hk2, hx2⟩ := List.getElem?_eq_some_iff.1 hx
       obtain ⟨hx48, hx57⟩ := HALL.out x (List.mem_of_getElem? hx)
       have hd : decide (k < s.length) = true := decide_eq_true hlt
       have e48 : decide ((x.toNat : Int) < 48) = false := decide_eq_false (by omega)
       have e57 : decide ((57 : Int) < (x.toNat : Int)) = false := decide_eq_false (by omega)
       have f48 : ¬ (x.toNat : Int) < 48 := by omega
       have f57 : ¬ (57 : Int) < (x.toNat : Int) := by omega
       have HST := Lib.hid (pdS_step hx)
       obtain ⟨Z, hZ⟩ : ∃ Z, (pdS s k)[s.length - 1 - k]? = some Z := ⟨_, List.getElem?_eq_getElem (by omega)⟩
       have c3 : wr.cell? ⟨w.heap.size, s.length - 1 - k, none⟩ = some (.int .i64 (Z : Int)) := (cell?_row HR.out).trans (digsA_get hZ)
       have c4 : wr.frozen? ⟨w.heap.size, s.length - 1 - k, none⟩ = false := frozen?_row HR.out
       obtain ⟨j, hj⟩ : ∃ j, j = s.length - 1 - k := ⟨_, rfl⟩
       rw [← hj] at c3 c4 HST
       have e1 : (s.length : Int) - 1 - (k : Int) = (j : Int) := by omega
       have e2 : (j : Int) < (s.length : Int) := by omega
       have HU8 := Lib.hid (show (x.toNat : Int) - 48 = ((x.toNat - 48 : Nat) : Int) by omega)
       clear hx hZ hj
       go_wp2_with fail
       go_roundw
       case rel =>
         refine ⟨k + 1, by omega, by go_num, ?_, HS.out.trans (Same.setCell _ _ _ _ (by simp))⟩
         rw [row?_setCell_same, HR.out, HST.out, ← digsA_set, ← HU8.out]
         rfl
       case measure => simp [intOf]; omega
     · have hkn : k = s.length := by omega
       have hd : decide (k < s.length) = false := decide_eq_false hlt
       have hrd : RdN .i64 wr (.slice (some ⟨w.heap.size, 0, none⟩) (pdS s s.length).length s.length) (pdS s s.length) := digsA_rdn (by rw [← hkn]; exact HR.out) (by rw [pdS_len s (Nat.le_refl _)]; exact Nat.le_refl _)
       have HT := Lib.hid (dtrim_any _ _ wr hrd (pdS_ok HALL.out) (by rw [pdS_len s (Nat.le_refl _)]; omega))
       rw [pdS_len s (Nat.le_refl _), pdS_val] at HT
       clear hrd hkn htl
       go_wp2_with fail
       refine HT.out.mono ?_
       rintro e w2 ⟨v2, rfl, h2, rfl⟩
       obtain ⟨na, nc, rfl, -, -⟩ := id h2
       have H2 := Lib.hid h2
       clear h2
       go_wp2_with fail
       go_ret2
       exact ⟨_, rfl, H2.out, HB.out⟩
 · have d2 : decide (1 < s.length) = false := decide_eq_false h1
   have d2' : decide ((1 : Int) < (s.length : Int)) = false := decide_eq_false (by omega)
   go_enter Tryz.func61, Tryz.ntmps61
   go_wp2_with fail
   try rw [hW0]
   clear hW0 hmk
   go_loopw [5] (fun i wr => ∃ k : Nat, k ≤ s.length ∧ i = .int .i64 (k : Int) ∧ row? wr w.heap.size = some (digsA (pdS s k)) ∧ Same (fun j => j ≠ w.heap.size) W0 wr) (fun i _ => s.length - (intOf i).toNat)
   case atStart => exact ⟨0, by omega, rfl, HE.out, Same.refl _ _⟩
   case round =>
     obtain ⟨k, hk, rfl, hr, hss⟩ := hrel
     have hb : Below w.heap.size w wr := HB0.out.trans (hss.below (by have := HS0.out; omega) fun j hj => by omega)
     have HR := Lib.hid hr
     have HS := Lib.hid hss
     have HB := Lib.hid hb
     have htl := pdS_len s hk
     clear hr hss hb
     by_cases hlt : k < s.length
     · obtain ⟨x, hx⟩ : ∃ x, s[k]? = some x := ⟨_, List.getElem?_eq_getElem hlt⟩
       obtain ⟨hk2, hx2⟩ := List.getElem?_eq_some_iff.1 hx
       obtain ⟨hx48, hx57⟩ := HALL.out x (List.mem_of_getElem? hx)
       have hd : decide (k < s.length) = true := decide_eq_true hlt
       have e48 : decide ((x.toNat : Int) < 48) = false := decide_eq_false (by omega)
       have e57 : decide ((57 : Int) < (x.toNat : Int)) = false := decide_eq_false (by omega)
       have f48 : ¬ (x.toNat : Int) < 48 := by omega
       have f57 : ¬ (57 : Int) < (x.toNat : Int) := by omega
       have HST := Lib.hid (pdS_step hx)
       obtain ⟨Z, hZ⟩ : ∃ Z, (pdS s k)[s.length - 1 - k]? = some Z := ⟨_, List.getElem?_eq_getElem (by omega)⟩
       have c3 : wr.cell? ⟨w.heap.size, s.length - 1 - k, none⟩ = some (.int .i64 (Z : Int)) := (cell?_row HR.out).trans (digsA_get hZ)
       have c4 : wr.frozen? ⟨w.heap.size, s.length - 1 - k, none⟩ = false := frozen?_row HR.out
       obtain ⟨j, hj⟩ : ∃ j, j = s.length - 1 - k := ⟨_, rfl⟩
       rw [← hj] at c3 c4 HST
       have e1 : (s.length : Int) - 1 - (k : Int) = (j : Int) := by omega
       have e2 : (j : Int) < (s.length : Int) := by omega
       have HU8 := Lib.hid (show (x.toNat : Int) - 48 = ((x.toNat - 48 : Nat) : Int) by omega)
       clear hx hZ hj
       go_wp2_with fail
       go_roundw
       case rel =>
         refine ⟨k + 1, by omega, by go_num, ?_, HS.out.trans (Same.setCell _ _ _ _ (by simp))⟩
         rw [row?_setCell_same, HR.out, HST.out, ← digsA_set, ← HU8.out]
         rfl
       case measure => simp [intOf]; omega
     · have hkn : k = s.length := by omega
       have hd : decide (k < s.length) = false := decide_eq_false hlt
       have hrd : RdN .i64 wr (.slice (some ⟨w.heap.size, 0, none⟩) (pdS s s.length).length s.length) (pdS s s.length) := digsA_rdn (by rw [← hkn]; exact HR.out) (by rw [pdS_len s (Nat.le_refl _)]; exact Nat.le_refl _)
       have HT := Lib.hid (dtrim_any _ _ wr hrd (pdS_ok HALL.out) (by rw [pdS_len s (Nat.le_refl _)]; omega))
       rw [pdS_len s (Nat.le_refl _), pdS_val] at HT
       clear hrd hkn htl
       go_wp2_with fail
       refine HT.out.mono ?_
       rintro e w2 ⟨v2, rfl, h2, rfl⟩
       obtain ⟨na, nc, rfl, -, -⟩ := id h2
       have H2 := Lib.hid h2
       clear h2
       go_wp2_with fail
       go_ret2
       exact ⟨_, rfl, H2.out, HB.out⟩
end Go.Proofs.YtgnlebnpnpjfmaaGreatDoor
