/- Walks: the reference's text of a set and its reading of one. -/
import Derived.Test.YtglnhnjmelilmaaGreatDoorSBB
import Derived.Test.YtglnhnjmelilmaaGreatDoorSWf
set_option linter.all false
namespace Go.Pal
open Go Go.RowKit
def refS (S k : Nat) : List UInt8 := [123] ++ Lib.join (((elems S).take k).map Lib.decDigits) [32]
theorem refS_zero (S : Nat) : refS S 0 = [123] := by
 unfold refS
 rw [List.take_zero, List.map_nil, join_nil, List.append_nil]
theorem refS_succ {S k j : Nat} (h : (elems S)[k]? = some j) : refS S (k + 1) = (if k = 0 then refS S k else refS S k ++ [32]) ++ Lib.decDigits j := by
 unfold refS
 rw [take_snoc h, List.map_append]
 by_cases hk : k = 0
 · subst hk
   rw [if_pos rfl, List.take_zero, List.map_nil, join_nil]
   show [123] ++ Lib.join [Lib.decDigits j] [32] = _
   rw [join_one]
   simp
 · rw [if_neg hk]
   have hne : ((elems S).take k).map Lib.decDigits ≠ [] := by
     intro e
     rw [List.map_eq_nil_iff, List.take_eq_nil_iff] at e
     rcases e with e | e
     · exact hk e
     · rw [e] at h
       simp at h
   obtain ⟨a, r, e⟩ : ∃ a r, ((elems S).take k).map Lib.decDigits = a :: r := by
     cases hh : ((elems S).take k).map Lib.decDigits with
     | nil => exact absurd hh hne
     | cons a r => exact ⟨a, r, rfl⟩
   rw [e]
   show [123] ++ Lib.join (a :: r ++ [Lib.decDigits j]) [32] = _
   rw [join_snoc]
   simp
theorem refS_all (S : Nat) : refS S (elems S).length ++ [125] = setT S := by
 unfold refS setT
 rw [List.take_length]
def dcap (l : List UInt8) : Nat := l.foldl (fun a c => if a < 100000 then 10 * a + (c.toNat - 48) else a) 0
theorem dcap_nil : dcap [] = 0 := rfl
theorem dcap_snoc (l : List UInt8) (c : UInt8) : dcap (l ++ [c]) = if dcap l < 100000 then 10 * dcap l + (c.toNat - 48) else dcap l := by
 unfold dcap
 rw [List.foldl_append, List.foldl_cons, List.foldl_nil]
theorem dcap_dval (l : List UInt8) : dcap l = dval 0 l ∨ (100000 ≤ dcap l ∧ 100000 ≤ dval 0 l) := by
 have key : ∀ n (l : List UInt8), l.length = n → (dcap l = dval 0 l ∨ (100000 ≤ dcap l ∧ 100000 ≤ dval 0 l)) := by
   intro n
   induction n with
   | zero =>
     intro l hl
     rw [List.length_eq_zero_iff.1 hl, dcap_nil, dval_nil]
     exact .inl rfl
   | succ n ih =>
     intro l hl
     obtain ⟨m, c, rfl⟩ : ∃ m c, l = m ++ [c] := ⟨l.dropLast, l.getLast (by intro e; rw [e] at hl; simp at hl), (List.dropLast_concat_getLast _).symm⟩
     have hi := ih m (by rw [List.length_append] at hl; simp at hl; exact hl)
     rw [dcap_snoc, dval_snoc]
     split
     · rename_i h
       rcases hi with hi | hi
       · left; omega
       · omega
     · rename_i h
       rcases hi with hi | hi
       · right; omega
       · right; omega
 exact key l.length l rfl
theorem dcap_le (l : List UInt8) : dcap l ≤ 2000000 := by
 have key : ∀ n (l : List UInt8), l.length = n → dcap l ≤ 2000000 := by
   intro n
   induction n with
   | zero => intro l hl; rw [List.length_eq_zero_iff.1 hl, dcap_nil]; omega
   | succ n ih =>
     intro l hl
     obtain ⟨m, c, rfl⟩ : ∃ m c, l = m ++ [c] := ⟨l.dropLast, l.getLast (by intro e; rw [e] at hl; simp at hl), (List.dropLast_concat_getLast _).symm⟩
     have hi := ih m (by rw [List.length_append] at hl; simp at hl; exact hl)
     have hc := c.toNat_lt
     rw [dcap_snoc]
     split <;> omega
 exact key l.length l rfl
theorem lastI_getLast {l : List Nat} (h : l ≠ []) : ∃ k, l[l.length - 1]? = some k ∧ lastI l = (k : Int) := by
 obtain ⟨m, k, rfl⟩ : ∃ m k, l = m ++ [k] := ⟨l.dropLast, l.getLast h, (List.dropLast_concat_getLast _).symm⟩
 exact ⟨k, by simp, lastI_snoc m k⟩
end Go.Pal
namespace Go.Proofs.YtglnhnjmelilmaaGreatDoor
open Go Go.RowKit Go.Pal Go.Shelf
attribute [local go_sem] Oper.semAt_some str_get str_part
set_option maxRecDepth 10000 in
set_option maxHeartbeats 1000000 in
theorem rtext_any (S : Nat) (v : Value) (w : World) (hv : RdL w v (elemsI S)) :
   Calls Tryz.prog 73 #[v] w fun e w' => e = .returned (.string ⟨(setT S).toArray⟩) ∧ Below w.heap.size w w' := by
 have HL := Lib.hid hv
 have hel : (elems S).length ≤ 1024 := elems_len2 S
 have hlt0 := fun k (hk : k ∈ elems S) => elems_lt hk
 have HLT := Lib.hid hlt0
 obtain ⟨aS, cS, rfl, -⟩ := hv
 have hli : (elemsI S).length = (elems S).length := by simp [elemsI]
 obtain ⟨LS, hLS⟩ : ∃ n, n = (elems S).length := ⟨_, rfl⟩
 have HLS := Lib.hid hLS
 rw [← hLS] at hel
 rw [hli, ← hLS] at HL ⊢
 clear hlt0 hli hLS
 go_enter Tryz.func73, Tryz.ntmps73
 go_wp2_with fail
 go_loopw [3, 4] (fun o i wr => ∃ k : Nat, k ≤ LS ∧ i = .int .i64 (k : Int) ∧ (∃ t : List UInt8, o = .string ⟨t.toArray⟩ ∧ t = refS S k ∧ t.length ≤ 1 + 6 * k) ∧ Below w.heap.size w wr) (fun _ i _ => LS - (intOf i).toNat)
 case atStart => exact ⟨0, by omega, rfl, ⟨[123], rfl, (refS_zero S).symm, by simp⟩, Below.refl _ _⟩
 case round =>
   obtain ⟨k, hk, rfl, ⟨t, rfl, ht, htl⟩, hb⟩ := hrel
   have HTk := Lib.hid ht
   have HB := Lib.hid hb
   clear ht hb
   by_cases hlt : k < LS
   · obtain ⟨b, off, c', z, h1, hz, hc⟩ := HL.out.at (by rw [show (elemsI S).length = LS by rw [HLS.out]; simp [elemsI]]; exact hlt)
     simp only [Value.slice.injEq] at h1
     obtain ⟨rfl, -, rfl⟩ := h1
     obtain ⟨j, hj⟩ : ∃ j, (elems S)[k]? = some j := ⟨_, List.getElem?_eq_getElem (by rw [← HLS.out]; exact hlt)⟩
     obtain rfl : z = (j : Int) := by
       rw [elemsI, List.getElem?_map, hj] at hz
       exact (Option.some.inj hz).symm
     have hj1 := HLT.out j (List.mem_of_getElem? hj)
     have c0 := hc wr HB.out
     have HSucc := Lib.hid (refS_succ hj)
     have hdl := dec_len (u := j) (k := 4) (by omega) (by omega)
     have HDg := Lib.hid fun W => rdigits_any j (by omega) W
     obtain ⟨A, hA⟩ : ∃ A, A = Lib.decDigits j := ⟨_, rfl⟩
     rw [← hA] at HSucc HDg hdl
     have hki : (k : Int) < (LS : Int) := by omega
     clear hz hj hc hA
     by_cases hk0 : k = 0
     · have hd3 : decide ((0 : Int) < (k : Int)) = false := decide_eq_false (by omega)
       have hd4 : ¬ 0 < k := by omega
       have HK0 := Lib.hid hk0
       clear hk0
       have n1 : ¬ 9223372036854775807 < t.length + A.length := by omega
       go_wp2_with fail
       refine (HDg.out wr).mono ?_
       rintro e w2 ⟨rfl, hb2⟩
       have HB2 := Lib.hid (HB.out.trans (hb2.mono HB.out.size))
       clear hb2 c0
       go_wp2_with fail
       go_roundw
       case rel =>
         refine ⟨k + 1, by omega, by go_num, ⟨t ++ A, ?_, ?_, by simp; omega⟩, HB2.out⟩
         · show Value.string (⟨t.toArray⟩ ++ ⟨A.toArray⟩) = _
           rw [str_app]
         · rw [HSucc.out, if_pos HK0.out, ← HTk.out]
       case measure => simp [intOf]; omega
     · have hd3 : decide ((0 : Int) < (k : Int)) = true := decide_eq_true (by omega)
       have hd4 : 0 < k := by omega
       have n0 : ¬ 9223372036854775807 < t.length + 1 := by omega
       have n1 : ¬ 9223372036854775807 < t.length + 1 + A.length := by omega
       go_wp2_with fail
       refine (HDg.out wr).mono ?_
       rintro e w2 ⟨rfl, hb2⟩
       have HB2 := Lib.hid (HB.out.trans (hb2.mono HB.out.size))
       clear hb2 c0
       go_wp2_with fail
       go_roundw
       case rel =>
         refine ⟨k + 1, by omega, by go_num, ⟨t ++ [32] ++ A, ?_, ?_, by simp; omega⟩, HB2.out⟩
         · show Value.string ((⟨t.toArray⟩ ++ (⟨([32] : List UInt8).toArray⟩ : ByteArray)) ++ ⟨A.toArray⟩) = _
           rw [str_app, str_app]
         · rw [HSucc.out, if_neg hk0, ← HTk.out]
       case measure => simp [intOf]; omega
   · have hkn : k = LS := by omega
     subst hkn
     have n0 : ¬ 9223372036854775807 < t.length + 1 := by omega
     go_wp2_with fail
     go_ret
     refine ⟨?_, HB.out⟩
     show Ending.returned (.string ((⟨t.toArray⟩ : ByteArray) ++ ⟨([125] : List UInt8).toArray⟩)) = _
     rw [str_app, HTk.out, HLS.out, refS_all]
end Go.Proofs.YtglnhnjmelilmaaGreatDoor
