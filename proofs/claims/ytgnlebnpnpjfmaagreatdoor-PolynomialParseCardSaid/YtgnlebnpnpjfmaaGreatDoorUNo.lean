/- Walks: bignat's Equal, BitLen; the library's FormatUint at base 10. Walk: .. -/
import Derived.Test.YtgnlebnpnpjfmaaGreatDoorUNM
import Derived.Test.YtgnlebnpnpjfmaaGreatDoorUNl
import Derived.Shelf.Strconv.Itoa3
set_option maxHeartbeats 2000000
set_option maxRecDepth 100000
set_option linter.all false
namespace Go.Proofs.YtgnlebnpnpjfmaaGreatDoor
open Go Go.RowKit Go.Pal Go.Shelf
theorem equalW_any (x y : List Nat) (vx vy : Value) (w : World) (hx : RdN .u32 w vx x) (hy : RdN .u32 w vy y) (hl : x.length ≤ 1000000) :
   Calls Tryz.prog 80 #[vx, vy] w fun e w' => e = .returned (.bool (decide (x = y))) ∧ Below w.heap.size w w' := by
 have HX := Lib.hid hx
 have HY := Lib.hid hy
 obtain ⟨a, c, rfl, -⟩ := hx
 obtain ⟨b, d, rfl, -⟩ := hy
 by_cases hne : x.length = y.length
 · have HNE := Lib.hid hne
   rw [← hne] at HY ⊢
   clear hne
   go_enter Tryz.func80, Tryz.ntmps80
   go_wp2_with fail
   go_loopw [13] (fun i wr => ∃ k : Nat, k ≤ x.length ∧ i = .int .i64 (k : Int) ∧ (∀ j, j < k → x[j]? = y[j]?) ∧ Below w.heap.size w wr) (fun i _ => x.length - (intOf i).toNat)
   case atStart => exact ⟨0, by omega, rfl, by omega, Below.refl _ _⟩
   case round =>
     obtain ⟨k, hk, rfl, he, hb⟩ := hrel
     have HEQ := Lib.hid he
     have HB := Lib.hid hb
     by_cases hlt : k < x.length
     · obtain ⟨b1, o1, c1, X, h1, -, hX, hc1⟩ := HX.out.at hlt
       simp only [Value.slice.injEq] at h1
       obtain ⟨rfl, -, rfl⟩ := h1
       have hly : k < y.length := by have := HNE.out; omega
       obtain ⟨a2, c2', h2, -, h3⟩ := HY.out
       simp only [Value.slice.injEq] at h2
       obtain ⟨rfl, -, rfl⟩ := h2
       rcases h3 with h3 | ⟨b2, o2, rfl, hb2, hc2, -⟩
       · rw [h3] at hly; simp at hly
       obtain ⟨Y, hY⟩ : ∃ Y, y[k]? = some Y := ⟨_, List.getElem?_eq_getElem hly⟩
       have hc2' := hc2 k Y hY
       have d1 := hc1 wr hb
       have d2 : wr.cell? ⟨b2, o2 + k, none⟩ = some (.int .u32 (Y : Int)) := (hb.cell (p := ⟨b2, o2 + k, none⟩) hb2).trans hc2'
       have HC := Lib.hid (And.intro d1 d2)
       have HXY := Lib.hid (And.intro hX hY)
       clear he hb hX hY hc1 hc2 hc2' HY
       by_cases hXY : X = Y
       · subst hXY
         have c0 := HC.out.1
         have c1 := HC.out.2
         go_wp2_with fail
         refine wp_region_free_tail (fun W => W = wr.drew) 8 (by kernel_rfl) (by kernel_rfl) rfl ?_
         simp only [List.take_succ_cons, List.take_zero, List.drop_succ_cons, List.drop_zero]
         repeat (apply wpFree_still; (intro w hw; subst hw; go_simp; (try go_ints); (first | with_reducible rfl | (go_simp; with_reducible rfl))); with_reducible rfl; (intro K hK; go_simp; (try go_ints); refine hK _ ?_; clear hK K))
         with_reducible refine wpFree_nil ?_
         rintro w' rfl
         go_wp2_with fail
         go_roundw
         case rel =>
           refine ⟨k + 1, by omega, by go_num, fun j hj => ?_, HB.out.drew⟩
           rcases Nat.lt_or_eq_of_le (Nat.le_of_lt_succ hj) with h | rfl
           · exact HEQ.out j h
           · rw [HXY.out.1, HXY.out.2]
         case measure => simp [intOf]; omega
       · have c0 := HC.out.1
         have c1 := HC.out.2
         have d3 : ((X : Int) != (Y : Int)) = true := by have h : ¬ (X : Int) = (Y : Int) := (by omega); simpa using h
         go_wp2_with fail
         refine wp_region_free_tail (fun W => W = wr.drew) 8 (by kernel_rfl) (by kernel_rfl) rfl ?_
         simp only [List.take_succ_cons, List.take_zero, List.drop_succ_cons, List.drop_zero]
         repeat (apply wpFree_still; (intro w hw; subst hw; go_simp; (try go_ints); (first | with_reducible rfl | (go_simp; with_reducible rfl))); with_reducible rfl; (intro K hK; go_simp; (try go_ints); refine hK _ ?_; clear hK K))
         with_reducible refine wpFree_nil ?_
         rintro w' rfl
         go_wp2_with fail
         go_ret
         exact ⟨by rw [decide_eq_false fun e => hXY (by have h := HXY.out; rw [e, h.2] at h; exact (Option.some.inj h.1).symm)]; rfl, HB.out.drew⟩
     · have hkx : k = x.length := by omega
       subst hkx
       go_wp2_with fail
       go_ret
       have hxy : x = y := List.ext_getElem? fun j => by
         by_cases h : j < x.length
         · exact HEQ.out j h
         · rw [List.getElem?_eq_none (by omega), List.getElem?_eq_none (by have := HNE.out; omega)]
       exact ⟨by rw [decide_eq_true hxy]; rfl, HB.out⟩
 · have d0 : ((x.length : Int) != (y.length : Int)) = true := by have h : ¬ (x.length : Int) = (y.length : Int) := (by omega); simpa using h
   go_enter Tryz.func80, Tryz.ntmps80
   go_wp2_with fail
   go_ret
   exact ⟨by rw [decide_eq_false fun e => hne (by rw [e])]; rfl, Below.refl _ _⟩
theorem nequal_any (m n : Nat) (va vb : Value) (w : World) (ha : NatV w va m) (hb : NatV w vb n) (hm : Fit m) :
   Calls Tryz.prog 31 #[va, vb] w fun e w' => e = .returned (.bool (decide (m = n))) ∧ Below w.heap.size w w' := by
 obtain ⟨sa, sc, rfl, hra⟩ := natV_sl ha
 obtain ⟨ta, tc, rfl, hrb⟩ := natV_sl hb
 have hlm := natLen hm
 have hB : Below w.heap.size w ((w.alloc (.cells #[.slice sa (digB 4294967296 m).length sc] 49)).alloc (.cells #[.slice ta (digB 4294967296 n).length tc] 49)) := ((Below.refl _ _).alloc (Nat.le_refl _) _).alloc (by simp) _
 have HE := Lib.hid (equalW_any _ _ _ _ _ (hra.below hB) (hrb.below hB) (by omega))
 have hd : decide (digB 4294967296 m = digB 4294967296 n) = decide (m = n) := by
   rw [decide_eq_decide]
   exact ⟨digB_inj (by decide), fun h => by rw [h]⟩
 rw [hd] at HE
 obtain ⟨x, hx⟩ : ∃ x, x = (digB 4294967296 m).length := ⟨_, rfl⟩
 obtain ⟨y, hy⟩ : ∃ y, y = (digB 4294967296 n).length := ⟨_, rfl⟩
 rw [← hx, ← hy] at HE hB ⊢
 obtain ⟨bb, hbb⟩ : ∃ bb, bb = decide (m = n) := ⟨_, rfl⟩
 rw [← hbb] at HE ⊢
 have HB := Lib.hid hB
 clear hx hy hra hrb ha hb hd hbb hB
 go_enter Tryz.func31, Tryz.ntmps31
 go_wp2_with fail
 refine HE.out.mono ?_
 rintro r w2 ⟨rfl, hb2⟩
 have HB2 := Lib.hid (HB.out.trans (hb2.mono HB.out.size))
 clear hb2 HE HB
 go_wp2_with fail
 go_ret
 exact ⟨rfl, HB2.out⟩
theorem nbitLen_any (m : Nat) (va : Value) (w : World) (ha : NatV w va m) (hm : Fit m) :
   Calls Tryz.prog 93 #[va] w fun e w' => ∃ k : Nat, e = .returned (.int .i64 (k : Int)) ∧ k ≤ 32064 ∧ Below w.heap.size w w' := by
 obtain ⟨sa, sc, rfl, hra⟩ := natV_sl ha
 have hlm := natLen hm
 have hB : Below w.heap.size w (w.alloc (.cells #[.slice sa (digB 4294967296 m).length sc] 49)) := (Below.refl _ _).alloc (Nat.le_refl _) _
 have HZ := Lib.hid (nisZero_any m _ _ (ha.below hB))
 have hd : m = 0 ↔ digB 4294967296 m = [] := (digB_nil (by decide)).symm
 have hok := digB_ok (b := 4294967296) (by decide) m
 obtain ⟨x, hx⟩ : ∃ x, x = digB 4294967296 m := ⟨_, rfl⟩
 rw [← hx] at HZ hB hra hlm hd hok ⊢
 have HB := Lib.hid hB
 have HRA := Lib.hid hra
 have hr0 : row? (w.alloc (.cells #[.slice sa x.length sc] 49)) w.heap.size = some #[.slice sa x.length sc] := row?_alloc_at _ _ _ _ rfl
 have HR0 := Lib.hid hr0
 have HOK := Lib.hid hok
 clear hB hx hra hr0 ha hok
 by_cases h0 : m = 0
 · have hz : decide (m = 0) = true := decide_eq_true h0
   rw [hz] at HZ
   clear h0 hz
   go_enter Tryz.func93, Tryz.ntmps93
   go_wp2_with fail
   refine HZ.out.mono ?_
   rintro r w2 ⟨rfl, hb2⟩
   have HB2 := Lib.hid (HB.out.trans (hb2.mono HB.out.size))
   clear hb2 HZ HB
   go_wp2_with fail
   go_ret
   exact ⟨0, rfl, by omega, HB2.out⟩
 · have hz : decide (m = 0) = false := decide_eq_false h0
   rw [hz] at HZ
   have hne : x ≠ [] := fun e => h0 (hd.2 e)
   obtain ⟨j, hj⟩ : ∃ j, x.length = j + 1 := ⟨x.length - 1, by have := List.length_pos_iff.2 hne; omega⟩
   obtain ⟨b, off, c, X, hsl, -, hX, hc⟩ := HRA.out.at (i := j) (by omega)
   simp only [Value.slice.injEq] at hsl
   obtain ⟨rfl, -, rfl⟩ := hsl
   have hXl := HOK.out X (List.mem_of_getElem? hX)
   have HJ := Lib.hid hj
   obtain ⟨L, hL⟩ : ∃ L, L = x.length := ⟨_, rfl⟩
   rw [← hL] at HZ HB HR0 hlm hj ⊢
   subst hj
   have HC := Lib.hid hc
   have HL32 := Lib.hid fun W => len32_any X hXl W
   have hbl := bitLen_le X
   obtain ⟨K, hK⟩ : ∃ K, K = Lib.bitLen X := ⟨_, rfl⟩
   rw [← hK] at HL32 hbl
   clear h0 hz hne hX hc hL hd hK HRA
   go_enter Tryz.func93, Tryz.ntmps93
   go_wp2_with fail
   refine HZ.out.mono ?_
   rintro r w2 ⟨rfl, hb2⟩
   have HB2 := Lib.hid (HB.out.trans (hb2.mono HB.out.size))
   have k0 : w2.cell? ⟨w.heap.size, 0, none⟩ = some (.slice (some ⟨b, off, none⟩) (j + 1) sc) := cell?_row (i := 0) ((row?_below hb2 (by simp)).trans HR0.out)
   have k1 := HC.out w2 HB2.out
   have e1 : ((j + 1 : Nat) : Int) - 1 = (j : Int) := by omega
   clear hb2 HZ HB HR0 HC
   go_wp2_with fail
   refine (HL32.out _).mono ?_
   rintro r w3 ⟨rfl, rfl⟩
   go_wp2_with fail
   go_ret
   refine ⟨j * 32 + K, by simp, by omega, HB2.out⟩
end Go.Proofs.YtgnlebnpnpjfmaaGreatDoor
namespace Go.Proofs.YtgnlebnpnpjfmaaGreatDoor
open Go Go.RowKit Go.Pal Go.Shelf Go.Sort
theorem ifmtu_any (u : Nat) (hu64 : u < 18446744073709551616) (w : World) (ht : Env w) :
   Calls Tryz.prog 103 #[.int .u64 (u : Int), .int .i64 10] w fun e w' => e = .returned (.string ⟨(Lib.decDigits u).toArray⟩) ∧ Below w.heap.size w w' := by
 have htab := ht.pow w (Below.refl _ _)
 by_cases hs : u < 100
 · have HS := Lib.hid (Any.internal_strconv_small (ρ := Tryz.laysItoa_ren) { Tryz.laysItoa with } u hs w)
   clear htab ht
   go_enter Tryz.func103, Tryz.ntmps103
   go_wp2_with fail
   refine HS.out.mono ?_
   rintro e w1 ⟨rfl, rfl⟩
   go_wp2_with fail
   go_ret
   exact ⟨rfl, Below.refl _ _⟩
 · have hu1 : 1 ≤ u := by omega
   have hnd20 : Lib.nDigits u ≤ 20 := by have := Lib.numDigits_eq u hu1 hu64; split at this <;> omega
   have hal : Tryz.prog.arrayLen 174 = 24 := by simp [Program.arrayLen, Tryz.underlying174]
   have hsl1 : ∀ W, (Instr.sliceAt 174 (.pointer (some ⟨w.heap.size, 0, none⟩)) none (some (.int .i64 (Lib.nDigits u : Int))) none).run Tryz.prog W = .ok (.slice (some ⟨w.heap.size, 0, none⟩) (Lib.nDigits u) 24) W := fun W => by
     rw [run_sliceAt_array_h W 174 ⟨w.heap.size, 0, none⟩ (by simp [Program.arrayLen, Program.elem, Tryz.underlying174]) .i64 (Lib.nDigits u : Int) (by omega) (by rw [hal]; omega)]
     go_simp
   have hH0 := Lib.holds_zero0 w 174 (Lib.nDigits u) (by omega)
   have hfmt := Any.internal_strconv_formatBase10 (ρ := Tryz.laysItoa_ren) { Tryz.laysItoa with } w.heap.size 0 24 u (Array.replicate (Lib.nDigits u) 0) (w.alloc (.cells Lib.zeros24 174)) hH0 (by rw [Array.size_replicate]; exact Lib.lt_pow_nDigits u) hu64 (by rw [Array.size_replicate]; omega)
   rw [Array.size_replicate] at hfmt
   have HND := Lib.hid (Any.internal_strconv_numDigits (ρ := Tryz.laysItoa_ren) { Tryz.laysItoa with } u hu1 hu64 (w.alloc (.cells Lib.zeros24 174)) (Lib.tabIs_alloc htab _))
   have HH0 := Lib.hid hH0
   have HF := Lib.hid hfmt
   have d0 : decide ((u : Int) < 100) = false := decide_eq_false (by omega)
   clear hH0 hal hfmt htab ht
   go_enter Tryz.func103, Tryz.ntmps103
   go_wp2_with fail
   refine HND.out.mono ?_
   rintro e w1 ⟨rfl, rfl⟩
   clear HND
   go_wp2_with fail
   refine HF.out.mono ?_
   rintro e w2 ⟨rfl, k, v', dk, rfl, hF⟩
   have hcv : (convert 124 9 (.slice (some ⟨w.heap.size, 0, none⟩) (Lib.nDigits u) 24)).run Tryz.prog ((putRow (fun (b : UInt8) => Value.int .u8 (b.toNat : Int)) (w.alloc (.cells Lib.zeros24 174)) w.heap.size 0 dk).drewN k) = .ok (.string ⟨(Lib.decDigits u).toArray⟩) ((putRow (fun (b : UInt8) => Value.int .u8 (b.toNat : Int)) (w.alloc (.cells Lib.zeros24 174)) w.heap.size 0 dk).drewN k) := by
     have h := run_convert_bytes_back (P := Tryz.prog) ((putRow (fun (b : UInt8) => Value.int .u8 (b.toNat : Int)) (w.alloc (.cells Lib.zeros24 174)) w.heap.size 0 dk).drewN k) 124 9 5 ⟨w.heap.size, 0, none⟩ 24 (Lib.decDigits u) Tryz.underlying124 Tryz.underlying5 Tryz.underlying9 (fun j hj => by
       rw [Lib.row_is_numeral hF j hj, Lib.add_plain, World.cell?_drewN]
       exact cell?_putRow (fun (b : UInt8) => Value.int .u8 (b.toNat : Int)) _ w.heap.size 0 _ dk HH0.out (by rw [hF.size, Array.size_replicate]) j (by rw [hF.size]; rw [Lib.decDigits_length] at hj; exact hj))
     rw [Lib.decDigits_length] at h
     exact h
   obtain ⟨os, eo⟩ := Lib.fin_at w (.cells Lib.zeros24 174) dk k 0
   have HB := Lib.hid (show Below w.heap.size w ((putRow (fun (b : UInt8) => Value.int .u8 (b.toNat : Int)) (w.alloc (.cells Lib.zeros24 174)) w.heap.size 0 dk).drewN k) by rw [eo]; exact Lib.below_grow _ w (Nat.le_refl _) k os)
   clear eo hF HF HH0
   go_wp2_with fail
   go_ret
   exact ⟨rfl, HB.out⟩
theorem fmtu_any (u : Nat) (hu64 : u < 18446744073709551616) (w : World) (ht : Env w) :
   Calls Tryz.prog 76 #[.int .u64 (u : Int), .int .i64 10] w fun e w' => e = .returned (.string ⟨(Lib.decDigits u).toArray⟩) ∧ Below w.heap.size w w' := by
 have HF := Lib.hid (ifmtu_any u hu64 w ht)
 clear ht
 go_enter Tryz.func76, Tryz.ntmps76
 go_wp2_with fail
 refine HF.out.mono ?_
 rintro e w1 ⟨rfl, hb⟩
 have HB := Lib.hid hb
 clear hb
 go_wp2_with fail
 go_ret
 exact ⟨rfl, HB.out⟩
end Go.Proofs.YtgnlebnpnpjfmaaGreatDoor
