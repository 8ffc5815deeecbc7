/- Walk of package treedecomp: Format. Walks: the reference's text of a set and its reading .. -/
import Derived.Test.YteiibpfabgfolaaGreatDoorVIa
import Derived.Test.YteiibpfabgfolaaGreatDoorVBf
import Derived.Test.YteiibpfabgfolaaGreatDoorVKW
import Derived.Test.YteiibpfabgfolaaGreatDoorVGrM
import Derived.Test.YteiibpfabgfolaaGreatDoorVMx
import Derived.Test.YteiibpfabgfolaaGreatDoorVBb
import Derived.Test.YteiibpfabgfolaaGreatDoorVWf
import Derived.Test.YteiibpfabgfolaaGreatDoorVRef3
set_option maxHeartbeats 4000000
set_option maxRecDepth 10000
set_option linter.all false
namespace Go.Pal
open Go Go.RowKit
theorem itoa_len4 {n : Int} (h0 : -1 ≤ n) (h1 : n < 4096) : (Lib.itoa n).length ≤ 4 := by
 by_cases hn : n = -1
 · subst hn
   rw [itoa_m1]
   decide
 · obtain ⟨u, rfl⟩ : ∃ u : Nat, n = (u : Int) := ⟨n.toNat, by omega⟩
   rw [Lib.itoa_nonneg]
   exact dec_len (by decide) (by omega)
theorem treeW_snoc {T : List Bg} {k : Nat} {x : Bg} (h : T[k]? = some x) : treeW (T.take (k + 1)) = treeW (T.take k) ++ (Lib.itoa x.1 ++ 32 :: (setT x.2 ++ [10])) := by
 unfold treeW
 rw [take_snoc h, List.flatMap_append, List.flatMap_cons, List.flatMap_nil]
 simp [bagW]
theorem treeW_le {T : List Bg} (h : ∀ x ∈ T, BagOk x) : (treeW T).length ≤ T.length * 5300 := by
 induction T with
 | nil => simp [treeW]
 | cons x T ih =>
   have h1 := ih fun y hy => h y (List.mem_cons_of_mem _ hy)
   have hx := h x (by simp)
   have h2 := itoa_len4 hx.2.1 hx.2.2
   have h3 := setT_len x.2
   rw [treeW_cons, List.length_append, List.length_cons, List.length_cons]
   unfold bagW
   rw [List.length_append, List.length_cons]
   omega
end Go.Pal
namespace Go.Proofs.YteiibpfabgfolaaGreatDoor
open Go Go.RowKit Go.Pal Go.Shelf
attribute [local go_sem] Oper.semAt_some
theorem bag_row {W : World} {b : Nat} {x : Bg} (h : row? W b = some (bagA x)) : W.cell? ⟨b, 0, none⟩ = some (.int .i64 x.1) ∧ rowLoad Tryz.prog 51 ⟨b, 1, none⟩ W = .ok (.agg (words x.2)) W := by
 refine ⟨(cell?_row (i := 0) h).trans (by obtain ⟨p, S⟩ := x; exact bagA_zero (p, S)), load_cells Tryz.isAgg51 Tryz.sizeOf51 W b 1 (words x.2) (words_size x.2) fun j u hu => ?_⟩
 rw [cell?_row h, Nat.add_comm 1 j, bagA_succ]
 exact hu
theorem tformat_any (T : List Bg) (hSet : ∀ x ∈ T, IsSet x.2) (hle : T.length ≤ 600) (v : Value) (w : World) (hv : Rd bagA 17 w.heap.size w v T) (hP : Pow w) (hT : TabOk w) (hg : 1 < w.heap.size) :
   Calls Tryz.prog 6 #[v] w fun e w' => e = .returned (.tuple #[.string ⟨(if rCheckN T = 0 then treeW T else []).toArray⟩, .int .i64 (rCheckN T)]) ∧ Below w.heap.size w w' := by
 have HCk := Lib.hid (tcheck_any T hSet v w hv (by omega))
 have HP := Lib.hid hP
 have HT := Lib.hid fun W (h : Below w.heap.size w W) => hT.below h hg
 have HV := Lib.hid hv
 obtain ⟨a, c, rfl, hr⟩ := hv
 by_cases h0 : rCheckN T = 0
 · have HOk := Lib.hid (bagOk_of h0 hSet)
   have HTl := Lib.hid (fun k => treeW_le (T := T.take k) fun x hx => bagOk_of h0 hSet x (List.mem_of_mem_take hx))
   have HR := Lib.hid hr
   rw [if_pos h0, h0]
   rw [h0] at HCk
   obtain ⟨N, hN⟩ : ∃ N, N = T.length := ⟨_, rfl⟩
   have HN := Lib.hid hN
   rw [← hN] at HCk hle ⊢
   clear hSet hP hT hr h0 hN
   go_enter Tryz.func6, Tryz.ntmps6
   go_wp2_with fail
   refine HCk.out.mono ?_
   rintro e w1 ⟨rfl, hb1⟩
   have HB1 := Lib.hid hb1
   have hs1 := hb1.size
   clear hb1 HCk
   go_wp2_with fail
   obtain ⟨W0, hW0⟩ : ∃ W0, W0 = w1.alloc (.cells #[.pointer none, .slice none 0 0] 65) := ⟨_, rfl⟩
   have HI0 := Lib.hid (show IsB w1.heap.size w1.heap.size [] W0 from by rw [hW0]; exact isB_fresh w1)
   have HB0 := Lib.hid (show Below w1.heap.size w1 W0 from by rw [hW0]; exact (Below.refl _ w1).alloc (Nat.le_refl _) _)
   rw [← hW0]
   clear hW0
   go_loopw [15] (fun i wr => ∃ k : Nat, k ≤ N ∧ i = .int .i64 (k : Int) ∧ IsB w1.heap.size w1.heap.size (treeW (T.take k)) wr ∧ Below w1.heap.size w1 wr) (fun i _ => N - (intOf i).toNat)
   case atStart => exact ⟨0, by omega, rfl, by rw [List.take_zero]; exact HI0.out, HB0.out⟩
   case round =>
     obtain ⟨k, hk, rfl, hI, hb⟩ := hrel
     have HI := Lib.hid hI
     have HB := Lib.hid hb
     have hs := hb.size
     clear hI hb
     by_cases hlt : k < N
     · obtain ⟨x, hx⟩ : ∃ x, T[k]? = some x := ⟨_, List.getElem?_eq_getElem (by rw [← HN.out]; exact hlt)⟩
       rcases HR.out with h | ⟨b, off, rfl, hbB, hc⟩
       · rw [h] at hx; simp at hx
       obtain ⟨hl, -, -⟩ := tree_load hc (HB1.out.trans (HB.out.mono hs1)) hbB hx
       have hok := HOk.out x (List.mem_of_getElem? hx)
       have hi4 := itoa_len4 hok.2.1 hok.2.2
       have hsl := setT_len x.2
       have hk0 := HTl.out k
       rw [List.length_take, Nat.min_eq_left (by rw [← HN.out]; exact hk)] at hk0
       have hk1 : k * 5300 ≤ 600 * 5300 := Nat.mul_le_mul_right _ (by omega)
       have HE := Lib.hid (treeW_snoc hx)
       have HIt := Lib.hid fun W (hW : Below w.heap.size w W) => itoa_any x.1 ⟨by have := hok.2.1; omega, by have := hok.2.2; omega⟩ W (HP.out.on hW)
       have HSt := Lib.hid fun W (hW : Below w.heap.size w W) => bstring_any x.2 hok.1 W (HP.out.on hW) (HT.out W hW) (by have := hW.size; omega)
       obtain ⟨px, S⟩ := x
       simp only at hi4 hsl HE HIt HSt
       obtain ⟨A, hA⟩ : ∃ A, A = Lib.itoa px := ⟨_, rfl⟩
       obtain ⟨C, hC⟩ : ∃ C, C = setT S := ⟨_, rfl⟩
       rw [← hA] at HE HIt hi4
       rw [← hC] at HE HSt hsl
       have b1 : A.length ≤ 8388608 := by omega
       have b2 : C.length ≤ 8388608 := by omega
       have b3 : ([32] : List UInt8).length ≤ 8388608 := by decide
       have b4 : ([10] : List UInt8).length ≤ 8388608 := by decide
       have b5 : (A ++ [32]).length ≤ 8388608 := by simp; omega
       have b7 : A.length + 1 ≤ 8388608 := by omega
       have b8 : A.length + 1 + C.length ≤ 8388608 := by omega
       have b9 : A.length + (C.length + 1) ≤ 8388608 := by omega
       have b6 : (A ++ [32] ++ C).length ≤ 8388608 := by simp; omega
       clear hx hc hok hA hC
       go_wp2_with fail
       generalize hW2 : World.alloc wr _ = W2
       have hr2 : row? W2 wr.heap.size = some (bagA (px, S)) := by rw [← hW2]; exact row?_alloc_at _ _ _ _ rfl
       have hB2 : Below wr.heap.size wr W2 := by rw [← hW2]; exact (Below.refl _ wr).alloc (Nat.le_refl _) _
       have hl2 : wr.heap.size < W2.heap.size := by rw [← hW2]; simp
       have HB2 := Lib.hid (HB.out.trans (hB2.mono hs))
       have HI2 := Lib.hid (HI.out.below hB2 (Nat.le_refl _))
       have HF := Lib.hid fun W (hWb : Below W2.heap.size W2 W) => bag_row ((row?_below hWb hl2).trans hr2)
       have HC2 := Lib.hid (HB1.out.trans (HB2.out.mono hs1))
       have hs2 := HC2.out.size
       clear hW2 hr2 hB2 hl
       refine wp_region_mix (fun W => Below W2.heap.size W2 W) 9 [(0, true), (1, true), (4, true), (5, true), (2, false), (3, true), (6, false), (7, true), (8, true)] (by kernel_rfl) (by kernel_rfl) (Below.refl _ _).drew ?_
       have HD0 := Lib.hid (Below.refl W2.heap.size W2).drew
       repeat ((first | apply wpPlan_still rfl rfl | apply wpPlan_stillG rfl rfl); (intro w hw; obtain ⟨k0, k1⟩ := HF.out _ hw; clear hw; go_simp; (try go_ints); (first | with_reducible rfl | (go_simp; with_reducible rfl))); (intro K hK; go_simp; (try go_ints); refine hK _ _ ?_; clear hK K))
       apply wpPlan_actG (by simp only [List.getElem?_toArray, List.getElem?_cons_succ, List.getElem?_cons_zero]; rfl) (by rfl)
       intro K hK
       unfold Oper.wp
       go_simp
       refine (HIt.out _ (HC2.out.trans (HD0.out.mono hs2))).mono ?_
       rintro e Wa ⟨rfl, hbz⟩
       have HDa := Lib.hid ((HD0.out).trans (hbz.mono (HD0.out).size))
       refine hK _ _ (HDa).out ?_
       clear hK K hbz
       repeat ((first | apply wpPlan_still rfl rfl | apply wpPlan_stillG rfl rfl); (intro w hw; clear hw; go_simp; (try go_ints); (first | with_reducible rfl | (go_simp; with_reducible rfl))); (intro K hK; go_simp; (try go_ints); refine hK _ _ ?_; clear hK K))
       apply wpPlan_actG (by simp only [List.getElem?_toArray, List.getElem?_cons_succ, List.getElem?_cons_zero]; rfl) (by rfl)
       intro K hK
       unfold Oper.wp
       go_simp
       refine (HSt.out _ (HC2.out.trans (HDa.out.mono hs2))).mono ?_
       rintro e Wb ⟨rfl, hbz⟩
       have HDb := Lib.hid ((HDa.out).trans (hbz.mono (HDa.out).size))
       refine hK _ _ (HDb).out ?_
       clear hK K hbz
       repeat ((first | apply wpPlan_still rfl rfl | apply wpPlan_stillG rfl rfl); (intro w hw; clear hw; go_simp; (try go_ints); (first | with_reducible rfl | (go_simp; with_reducible rfl))); (intro K hK; go_simp; (try go_ints); refine hK _ _ ?_; clear hK K))
       refine wpPlan_nil ?_
       simp only [List.drop_succ_cons, List.drop_zero]
       have hwr : (A ++ 32 :: (C ++ [10])).length ≤ 10000 := by simp; omega
       go_wp2_with fail
       refine (write_any w1.heap.size w1.heap.size (treeW (T.take k)) (A ++ 32 :: (C ++ [10])) Wb (HI2.out.below HDb.out (Nat.le_refl _)) (by omega) ((HB2.out.trans (HDb.out.mono HB2.out.size)).size)).mono ?_
       rintro r w4 ⟨rfl, hI4, hb4, -⟩
       have HI4 := Lib.hid hI4
       have HB4 := Lib.hid ((HB2.out.trans (HDb.out.mono HB2.out.size)).trans hb4)
       clear hI4 hb4
       go_wp2_with fail
       go_roundw
       case rel => exact ⟨k + 1, by omega, by go_num, by rw [HE.out]; exact HI4.out, HB4.out⟩
       case measure => simp [intOf]; omega
     · have hkn : k = N := by omega
       subst hkn
       rw [HN.out, List.take_length] at HI
       go_wp2_with fail
       refine (built_any w1.heap.size w1.heap.size (treeW T) wr HI.out hs).mono ?_
       rintro r w6 ⟨rfl, hb6⟩
       have HB6 := Lib.hid ((HB1.out.trans (HB.out.mono hs1)).trans (hb6.mono hs1))
       clear hb6
       go_wp2_with fail
       go_ret2
       exact ⟨rfl, HB6.out⟩
 · rw [if_neg h0]
   obtain ⟨R, hR⟩ : ∃ R, R = rCheckN T := ⟨_, rfl⟩
   rw [← hR] at HCk h0 ⊢
   have hc1 : (R != 0) = true := by simpa using h0
   clear hSet hP hT hr hR
   go_enter Tryz.func6, Tryz.ntmps6
   go_wp2_with fail
   refine HCk.out.mono ?_
   rintro e w1 ⟨rfl, hb1⟩
   have HB1 := Lib.hid hb1
   clear hb1 HCk
   go_wp2_with fail
   go_ret2
   exact ⟨rfl, HB1.out⟩
end Go.Proofs.YteiibpfabgfolaaGreatDoor
namespace Go.Pal
open Go Go.RowKit
def refS (S k : Nat) : List UInt8 := [123] ++ Lib.join (((elems S).take k).map Lib.decDigits) [32]
theorem refS_zero (S : Nat) : refS S 0 = [123] := by
 unfold refS
 rw [List.take_zero, List.map_nil, join_nil, List.append_nil]
theorem refS_succ {S k j : Nat} (h : (elems S)[k]? = some j) : refS S (k + 1) = (if k = 0 then refS S k else refS S k ++ [32]) ++ Lib.decDigits j := by
 unfold refS
 rw [take_snoc h, List.map_append]
 by_cases hk : k = 0
 · subst hk
   rw [if_pos rfl, List.take_zero, List.map_nil, join_nil]
   show [123] ++ Lib.join [Lib.decDigits j] [32] = _
   rw [join_one]
   simp
 · rw [if_neg hk]
   have hne : ((elems S).take k).map Lib.decDigits ≠ [] := by
     intro e
     rw [List.map_eq_nil_iff, List.take_eq_nil_iff] at e
     rcases e with e | e
     · exact hk e
     · rw [e] at h
       simp at h
   obtain ⟨a, r, e⟩ : ∃ a r, ((elems S).take k).map Lib.decDigits = a :: r := by
     cases hh : ((elems S).take k).map Lib.decDigits with
     | nil => exact absurd hh hne
     | cons a r => exact ⟨a, r, rfl⟩
   rw [e]
   show [123] ++ Lib.join (a :: r ++ [Lib.decDigits j]) [32] = _
   rw [join_snoc]
   simp
theorem refS_all (S : Nat) : refS S (elems S).length ++ [125] = setT S := by
 unfold refS setT
 rw [List.take_length]
def dcap (l : List UInt8) : Nat := l.foldl (fun a c => if a < 100000 then 10 * a + (c.toNat - 48) else a) 0
theorem dcap_nil : dcap [] = 0 := rfl
theorem dcap_snoc (l : List UInt8) (c : UInt8) : dcap (l ++ [c]) = if dcap l < 100000 then 10 * dcap l + (c.toNat - 48) else dcap l := by
 unfold dcap
 rw [List.foldl_append, List.foldl_cons, List.foldl_nil]
theorem dcap_dval (l : List UInt8) : dcap l = dval 0 l ∨ (100000 ≤ dcap l ∧ 100000 ≤ dval 0 l) := by
 have key : ∀ n (l : List UInt8), l.length = n → (dcap l = dval 0 l ∨ (100000 ≤ dcap l ∧ 100000 ≤ dval 0 l)) := by
   intro n
   induction n with
   | zero =>
     intro l hl
     rw [List.length_eq_zero_iff.1 hl, dcap_nil, dval_nil]
     exact .inl rfl
   | succ n ih =>
     intro l hl
     obtain ⟨m, c, rfl⟩ : ∃ m c, l = m ++ [c] := ⟨l.dropLast, l.getLast (by intro e; rw [e] at hl; simp at hl), (List.dropLast_concat_getLast _).symm⟩
     have hi := ih m (by rw [List.length_append] at hl; simp at hl; exact hl)
     rw [dcap_snoc, dval_snoc]
     split
     · rename_i h
       rcases hi with hi | hi
       · left; omega
       · omega
     · rename_i h
       rcases hi with hi | hi
       · right; omega
       · right; omega
 exact key l.length l rfl
theorem dcap_le (l : List UInt8) : dcap l ≤ 2000000 := by
 have key : ∀ n (l : List UInt8), l.length = n → dcap l ≤ 2000000 := by
   intro n
   induction n with
   | zero => intro l hl; rw [List.length_eq_zero_iff.1 hl, dcap_nil]; omega
   | succ n ih =>
     intro l hl
     obtain ⟨m, c, rfl⟩ : ∃ m c, l = m ++ [c] := ⟨l.dropLast, l.getLast (by intro e; rw [e] at hl; simp at hl), (List.dropLast_concat_getLast _).symm⟩
     have hi := ih m (by rw [List.length_append] at hl; simp at hl; exact hl)
     have hc := c.toNat_lt
     rw [dcap_snoc]
     split <;> omega
 exact key l.length l rfl
theorem lastI_getLast {l : List Nat} (h : l ≠ []) : ∃ k, l[l.length - 1]? = some k ∧ lastI l = (k : Int) := by
 obtain ⟨m, k, rfl⟩ : ∃ m k, l = m ++ [k] := ⟨l.dropLast, l.getLast h, (List.dropLast_concat_getLast _).symm⟩
 exact ⟨k, by simp, lastI_snoc m k⟩
end Go.Pal
namespace Go.Proofs.YteiibpfabgfolaaGreatDoor
open Go Go.RowKit Go.Pal Go.Shelf
attribute [local go_sem] Oper.semAt_some str_get str_part
theorem rtext_any (S : Nat) (v : Value) (w : World) (hv : RdL w v (elemsI S)) :
   Calls Tryz.prog 32 #[v] w fun e w' => e = .returned (.string ⟨(setT S).toArray⟩) ∧ Below w.heap.size w w' := by
 have HL := Lib.hid hv
 have hel : (elems S).length ≤ 1024 := elems_len2 S
 have hlt0 := fun k (hk : k ∈ elems S) => elems_lt hk
 have HLT := Lib.hid hlt0
 obtain ⟨aS, cS, rfl, -⟩ := hv
 have hli : (elemsI S).length = (elems S).length := by simp [elemsI]
 obtain ⟨LS, hLS⟩ : ∃ n, n = (elems S).length := ⟨_, rfl⟩
 have HLS := Lib.hid hLS
 rw [← hLS] at hel
 rw [hli, ← hLS] at HL ⊢
 clear hlt0 hli hLS
 go_enter Tryz.func32, Tryz.ntmps32
 go_wp2_with fail
 go_loopw [3, 4] (fun o i wr => ∃ k : Nat, k ≤ LS ∧ i = .int .i64 (k : Int) ∧ (∃ t : List UInt8, o = .string ⟨t.toArray⟩ ∧ t = refS S k ∧ t.length ≤ 1 + 6 * k) ∧ Below w.heap.size w wr) (fun _ i _ => LS - (intOf i).toNat)
 case atStart => exact ⟨0, by omega, rfl, ⟨[123], rfl, (refS_zero S).symm, by simp⟩, Below.refl _ _⟩
 case round =>
   obtain ⟨k, hk, rfl, ⟨t, rfl, ht, htl⟩, hb⟩ := hrel
   have HTk := Lib.hid ht
   have HB := Lib.hid hb
   clear ht hb
   by_cases hlt : k < LS
   · obtain ⟨b, off, c', z, h1, hz, hc⟩ := HL.out.at (by rw [show (elemsI S).length = LS by rw [HLS.out]; simp [elemsI]]; exact hlt)
     simp only [Value.slice.injEq] at h1
     obtain ⟨rfl, -, rfl⟩ := h1
     obtain ⟨j, hj⟩ : ∃ j, (elems S)[k]? = some j := ⟨_, List.getElem?_eq_getElem (by rw [← HLS.out]; exact hlt)⟩
     obtain rfl : z = (j : Int) := by
       rw [elemsI, List.getElem?_map, hj] at hz
       exact (Option.some.inj hz).symm
     have hj1 := HLT.out j (List.mem_of_getElem? hj)
     have c0 := hc wr HB.out
     have HSucc := Lib.hid (refS_succ hj)
     have hdl := dec_len (u := j) (k := 4) (by omega) (by omega)
     have HDg := Lib.hid fun W => rdigits_any j (by omega) W
     obtain ⟨A, hA⟩ : ∃ A, A = Lib.decDigits j := ⟨_, rfl⟩
     rw [← hA] at HSucc HDg hdl
     have hki : (k : Int) < (LS : Int) := by omega
     clear hz hj hc hA
     by_cases hk0 : k = 0
     · have hd3 : decide ((0 : Int) < (k : Int)) = false := decide_eq_false (by omega)
       have hd4 : ¬ 0 < k := by omega
       have HK0 := Lib.hid hk0
       clear hk0
       have n1 : ¬ 9223372036854775807 < t.length + A.length := by omega
       go_wp2_with fail
       refine (HDg.out wr).mono ?_
       rintro e w2 ⟨rfl, hb2⟩
       have HB2 := Lib.hid (HB.out.trans (hb2.mono HB.out.size))
       clear hb2 c0
       go_wp2_with fail
       go_roundw
       case rel =>
         refine ⟨k + 1, by omega, by go_num, ⟨t ++ A, ?_, ?_, by simp; omega⟩, HB2.out⟩
         · show Value.string (⟨t.toArray⟩ ++ ⟨A.toArray⟩) = _
           rw [str_app]
         · rw [HSucc.out, if_pos HK0.out, ← HTk.out]
       case measure => simp [intOf]; omega
     · have hd3 : decide ((0 : Int) < (k : Int)) = true := decide_eq_true (by omega)
       have hd4 : 0 < k := by omega
       have n0 : ¬ 9223372036854775807 < t.length + 1 := by omega
       have n1 : ¬ 9223372036854775807 < t.length + 1 + A.length := by omega
       go_wp2_with fail
       refine (HDg.out wr).mono ?_
       rintro e w2 ⟨rfl, hb2⟩
       have HB2 := Lib.hid (HB.out.trans (hb2.mono HB.out.size))
       clear hb2 c0
       go_wp2_with fail
       go_roundw
       case rel =>
         refine ⟨k + 1, by omega, by go_num, ⟨t ++ [32] ++ A, ?_, ?_, by simp; omega⟩, HB2.out⟩
         · show Value.string ((⟨t.toArray⟩ ++ (⟨([32] : List UInt8).toArray⟩ : ByteArray)) ++ ⟨A.toArray⟩) = _
           rw [str_app, str_app]
         · rw [HSucc.out, if_neg hk0, ← HTk.out]
       case measure => simp [intOf]; omega
   · have hkn : k = LS := by omega
     subst hkn
     have n0 : ¬ 9223372036854775807 < t.length + 1 := by omega
     go_wp2_with fail
     go_ret
     refine ⟨?_, HB.out⟩
     show Ending.returned (.string ((⟨t.toArray⟩ : ByteArray) ++ ⟨([125] : List UInt8).toArray⟩)) = _
     rw [str_app, HTk.out, HLS.out, refS_all]
end Go.Proofs.YteiibpfabgfolaaGreatDoor
namespace Go.Proofs.YteiibpfabgfolaaGreatDoor
open Go Go.RowKit Go.Pal Go.Shelf
attribute [local go_sem] Oper.semAt_some
theorem rttext_any (T : List Bg) (hok : ∀ x ∈ T, BagOk x) (hle : T.length ≤ 600) (v : Value) (w : World) (hv : RefT w v T) :
   Calls Tryz.prog 9 #[v] w fun e w' => e = .returned (.string ⟨(treeW T).toArray⟩) ∧ Below w.heap.size w w' := by
 have HV := Lib.hid hv
 have HOk := Lib.hid hok
 have HTl := Lib.hid (fun k => treeW_le (T := T.take k) fun x hx => hok x (List.mem_of_mem_take hx))
 obtain ⟨a, c, rfl, -⟩ := hv
 obtain ⟨N, hN⟩ : ∃ N, N = T.length := ⟨_, rfl⟩
 have HN := Lib.hid hN
 rw [← hN] at HV hle ⊢
 clear hok hN
 go_enter Tryz.func9, Tryz.ntmps9
 go_wp2_with fail
 go_loopw [3, 4] (fun o i wr => ∃ k : Nat, k ≤ N ∧ i = .int .i64 (k : Int) ∧ o = .string ⟨(treeW (T.take k)).toArray⟩ ∧ Below w.heap.size w wr) (fun _ i _ => N - (intOf i).toNat)
 case atStart => exact ⟨0, by omega, rfl, by rw [List.take_zero]; rfl, Below.refl _ _⟩
 case round =>
   obtain ⟨k, hk, rfl, rfl, hb⟩ := hrel
   have HB := Lib.hid hb
   clear hb
   by_cases hlt : k < N
   · obtain ⟨b, off, c', p, S, q0, cap0, hv', hx, hSx, hc⟩ := HV.out.at (k := k) (by rw [← HN.out]; exact hlt)
     simp only [Value.slice.injEq] at hv'
     obtain ⟨rfl, -, rfl⟩ := hv'
     have hokx := HOk.out _ (List.mem_of_getElem? hx)
     have hi4 := itoa_len4 hokx.2.1 hokx.2.2
     have hsl := setT_len S
     have hk0 := HTl.out k
     rw [List.length_take, Nat.min_eq_left (by rw [← HN.out]; exact hk)] at hk0
     have hk1 : k * 5300 ≤ 600 * 5300 := Nat.mul_le_mul_right _ (by omega)
     have HE := Lib.hid (treeW_snoc hx)
     have hp0 : -1 ≤ p := hokx.2.1
     have hp1 : p < 4096 := hokx.2.2
     obtain ⟨c0, c1, c2⟩ := hc wr HB.out
     have HTx := Lib.hid (rtext_any S (.slice q0 (elemsI S).length cap0))
     have HRd := Lib.hid fun W (hW : Below w.heap.size w W) => (hc W hW).2.2.1
     obtain ⟨A, hA⟩ : ∃ A, A = Lib.itoa p := ⟨_, rfl⟩
     obtain ⟨C, hC⟩ : ∃ C, C = setT S := ⟨_, rfl⟩
     obtain ⟨Z, hZ⟩ : ∃ Z, Z = treeW (T.take k) := ⟨_, rfl⟩
     simp only at hi4 hsl HE
     rw [← hA] at HE hi4
     rw [← hC] at HE HTx hsl
     rw [← hZ] at HE hk0 ⊢
     have HA := Lib.hid hA
     have b0 : Z.length ≤ 8388608 := by omega
     have b1 : A.length ≤ 8388608 := by omega
     have b2 : C.length ≤ 8388608 := by omega
     have b3 : ([32] : List UInt8).length ≤ 8388608 := by decide
     have b4 : ([10] : List UInt8).length ≤ 8388608 := by decide
     have b5 : (Z ++ A).length ≤ 8388608 := by simp; omega
     have b6 : (Z ++ A ++ [32]).length ≤ 8388608 := by simp; omega
     have b7 : (Z ++ A ++ [32] ++ C).length ≤ 8388608 := by simp; omega
     have HF := Lib.hid (fun W (hW : Below w.heap.size w W) => hc W hW)
     clear hx hc hokx hA hC hZ hi4 hk0
     by_cases hp : p < 0
     · have hpm : p = -1 := by omega
       subst hpm
       have hA1 : A = [45, 49] := HA.out.trans itoa_m1
       subst hA1
       go_wp2_with fail
       refine (HTx.out wr (HRd.out wr HB.out)).mono ?_
       rintro e w2 ⟨rfl, hb2⟩
       have HB2 := Lib.hid (HB.out.trans (hb2.mono HB.out.size))
       clear hb2
       go_wp2_with fail
       go_roundw
       case rel => exact ⟨k + 1, by omega, by go_num, by
         rw [HE.out]
         show Value.string (((⟨(Z ++ [45, 49]).toArray⟩ ++ (⟨([32] : List UInt8).toArray⟩ : ByteArray)) ++ ⟨C.toArray⟩) ++ (⟨([10] : List UInt8).toArray⟩ : ByteArray)) = _
         rw [str_app, str_app, str_app]
         simp, HB2.out⟩
       case measure => simp [intOf]; omega
     · obtain ⟨u, rfl⟩ : ∃ u : Nat, p = (u : Int) := ⟨p.toNat, by omega⟩
       have HDg := Lib.hid fun W => rdigits_any u (by omega) W
       rw [show Lib.decDigits u = A from (HA.out.trans (Lib.itoa_nonneg u)).symm] at HDg
       go_wp2_with fail
       refine (HDg.out wr).mono ?_
       rintro e w2 ⟨rfl, hb2⟩
       have HB2 := Lib.hid (HB.out.trans (hb2.mono HB.out.size))
       obtain ⟨d0, d1, d2⟩ := HF.out w2 HB2.out
       clear hb2
       go_wp2_with fail
       refine (HTx.out w2 (HRd.out w2 HB2.out)).mono ?_
       rintro e w3 ⟨rfl, hb3⟩
       have HB3 := Lib.hid (HB2.out.trans (hb3.mono HB2.out.size))
       clear hb3
       go_wp2_with fail
       go_roundw
       case rel => exact ⟨k + 1, by omega, by go_num, by
         rw [HE.out]
         show Value.string (((⟨(Z ++ A).toArray⟩ ++ (⟨([32] : List UInt8).toArray⟩ : ByteArray)) ++ ⟨C.toArray⟩) ++ (⟨([10] : List UInt8).toArray⟩ : ByteArray)) = _
         rw [str_app, str_app, str_app]
         simp, HB3.out⟩
       case measure => simp [intOf]; omega
   · have hkn : k = N := by omega
     subst hkn
     rw [HN.out, List.take_length]
     go_wp2_with fail
     go_ret
     exact ⟨rfl, HB.out⟩
end Go.Proofs.YteiibpfabgfolaaGreatDoor
