/- Walk of package bignat: Mul. -/
import Derived.Test.YtgnlebnpnpjfmaaGreatDoorUNG
set_option linter.all false
namespace Go.Proofs.YtgnlebnpnpjfmaaGreatDoor
open Go Go.RowKit Go.Pal
def wordsA (l : List Nat) : Array Value := (l.map fun x : Nat => Value.int .u32 (x : Int)).toArray
theorem wordsA_size (l : List Nat) : (wordsA l).size = l.length := by simp [wordsA]
theorem wordsA_get {l : List Nat} {i x : Nat} (h : l[i]? = some x) : (wordsA l)[i]? = some (.int .u32 (x : Int)) := by simp [wordsA, h]
theorem wordsA_set (l : List Nat) (i x : Nat) : (wordsA l).setIfInBounds i (.int .u32 (x : Int)) = wordsA (l.set i x) := by
 apply Array.ext'
 simp [wordsA, Array.toList_setIfInBounds, List.map_set]
theorem wordsA_zeros (n : Nat) : Array.replicate n (Value.int .u32 0) = wordsA (List.replicate n 0) := by
 apply Array.ext'
 simp [wordsA]
theorem wordsA_rdn {w : World} {g : Nat} {l : List Nat} {c : Nat} (h : row? w g = some (wordsA l)) (hc : l.length ≤ c) : RdN .u32 w (.slice (some ⟨g, 0, none⟩) l.length c) l :=
 ⟨_, c, rfl, hc, .inr ⟨g, 0, rfl, row?_lt h, fun i x hx => by rw [Nat.zero_add, cell?_row h]; exact wordsA_get hx, rfl⟩⟩
theorem make_W (n : Nat) (hn : n ≤ 1000000) (W : World) : (Instr.makeSlice 47 (.int .i64 (n : Int)) (.int .i64 (n : Int))).run Tryz.prog W = .ok (.slice (some ⟨W.heap.size, 0, none⟩) n n) (W.alloc (.cells (wordsA (List.replicate n 0)) 68)) := by
 rw [run_make1 (P := Tryz.prog) Tryz.underlying47 elW.info rfl n (by show 4 * n ≤ _; omega) (by omega) W]
 show Result.ok _ (World.alloc W (.cells (Array.replicate n (.int .u32 0)) 68)) = _
 rw [wordsA_zeros]
set_option maxRecDepth 10000 in
set_option maxHeartbeats 2000000 in
theorem nmul_any (m n : Nat) (va vb : Value) (w : World) (ha : NatV w va m) (hb : NatV w vb n) (hm : Fit m) (hn : Fit n) :
   Calls Tryz.prog 33 #[va, vb] w fun e w' => ∃ v', e = .returned v' ∧ NatV w' v' (m * n) ∧ Below w.heap.size w w' := by
 obtain ⟨sa, sc, rfl, hra⟩ := natV_sl ha
 obtain ⟨ta, tc, rfl, hrb⟩ := natV_sl hb
 have hlm := natLen hm
 have hln := natLen hn
 have hprod := Lib.hid (mul_digits (b := 4294967296) (by decide) m n)
 obtain ⟨x, hx⟩ : ∃ x, x = digB 4294967296 m := ⟨_, rfl⟩
 obtain ⟨y, hy⟩ : ∃ y, y = digB 4294967296 n := ⟨_, rfl⟩
 have hxo : DigOk 4294967296 x := by rw [hx]; exact digB_ok (by decide) m
 have hyo : DigOk 4294967296 y := by rw [hy]; exact digB_ok (by decide) n
 rw [← hx] at hra hlm hprod ⊢
 rw [← hy] at hrb hln hprod ⊢
 have hmk := make_W (x.length + y.length) (by omega)
 rw [Int.natCast_add] at hmk
 obtain ⟨W0, hW0⟩ : ∃ W0, (((w.alloc (.cells #[.slice sa x.length sc] 49)).alloc (.cells #[.slice ta y.length tc] 49)).alloc (.cells #[.slice none 0 0] 49)).alloc (.cells (wordsA (List.replicate (x.length + y.length) 0)) 68) = W0 := ⟨_, rfl⟩
 have hb0 : Below w.heap.size w W0 := by
   rw [← hW0]
   exact ((((Below.refl _ _).alloc (Nat.le_refl _) _).alloc (by simp) _).alloc (by simp; omega) _).alloc (by simp; omega) _
 have e0 : row? W0 w.heap.size = some #[.slice sa x.length sc] := by rw [← hW0]; simp [go_sem]
 have e1 : row? W0 (w.heap.size + 1) = some #[.slice ta y.length tc] := by rw [← hW0]; simp [go_sem]
 have e2 : row? W0 (w.heap.size + 1 + 1) = some #[.slice none 0 0] := by rw [← hW0]; simp [go_sem]
 have e3 : row? W0 (w.heap.size + 1 + 1 + 1) = some (wordsA (mulAll 4294967296 x y 0)) := by rw [← hW0]; simp [go_sem, mulAll]
 have hs0 : W0.heap.size = w.heap.size + 1 + 1 + 1 + 1 := by rw [← hW0]; simp
 -- what lasts in the loops: all blocks of W0 but that of the product
 have k0 : W0.cell? ⟨w.heap.size, 0, none⟩ = some (.slice sa x.length sc) := cell?_row (i := 0) e0
 have k1 : W0.cell? ⟨w.heap.size + 1, 0, none⟩ = some (.slice ta y.length tc) := cell?_row (i := 0) e1
 obtain ⟨g, hg⟩ : ∃ g, g = w.heap.size + 1 + 1 + 1 := ⟨_, rfl⟩
 have HA := Lib.hid hra
 have HBY := Lib.hid hrb
 have HX := Lib.hid hxo
 have HY := Lib.hid hyo
 have HB0 := Lib.hid hb0
 rw [← hg] at e3
 have HE := Lib.hid (And.intro e0 (And.intro e1 (And.intro e2 e3)))
 have HG := Lib.hid (And.intro hg hs0)
 have HOUT := Lib.hid fun W (hs : Same (fun k => k ≠ g) W0 W) => show Below w.heap.size w W from hb0.trans (hs.below (by omega) fun j hj => by omega)
 have HCL := Lib.hid fun W (hs : Same (fun k => k ≠ g) W0 W) => show W.cell? ⟨w.heap.size, 0, none⟩ = some (.slice sa x.length sc) ∧ W.cell? ⟨w.heap.size + 1, 0, none⟩ = some (.slice ta y.length tc) from
   ⟨(World.cell?_of_block (hs.block w.heap.size (by omega) (by omega))).trans k0, (World.cell?_of_block (hs.block (w.heap.size + 1) (by omega) (by omega))).trans k1⟩
 clear ha hb hm hn hx hy hxo hyo hb0 e0 e1 e2 e3 hs0 hra hrb
 go_enter Tryz.func33, Tryz.ntmps33
 go_wp2_with fail
 rw [← hg]
 clear hg hmk hW0
 go_loopw [23] (fun i wr => ∃ k : Nat, k ≤ x.length ∧ i = .int .i64 (k : Int) ∧ row? wr g = some (wordsA (mulAll 4294967296 x y k)) ∧ Same (fun j => j ≠ g) W0 wr) (fun i _ => x.length - (intOf i).toNat)
 case atStart => exact ⟨0, by omega, rfl, HE.out.2.2.2, Same.refl _ _⟩
 case round =>
   obtain ⟨k, hk, rfl, hr, hs⟩ := hrel
   clear k0 k1
   obtain ⟨k0, k1⟩ := HCL.out wr hs
   have HR := Lib.hid hr
   have HSm := Lib.hid hs
   have hb := HOUT.out wr hs
   have hml := mulAll_len 4294967296 x y k
   clear hr hs
   by_cases hlt : k < x.length
   · obtain ⟨b1, o1, c1, X, hsl, -, hX, hc⟩ := HA.out.at hlt
     simp only [Value.slice.injEq] at hsl
     obtain ⟨rfl, -, rfl⟩ := hsl
     have c0 := hc wr hb
     have hXl := HX.out X (List.mem_of_getElem? hX)
     have HXA := Lib.hid (atB_of hX)
     have HKL := Lib.hid hlt
     obtain ⟨P0, hP0⟩ : ∃ P0, P0 = mulAll 4294967296 x y k := ⟨_, rfl⟩
     rw [← hP0] at HR hml
     have HP0 := Lib.hid hP0
     have hinv0 := mulAll_inv (b := 4294967296) (by decide) HX.out HY.out k hk
     rw [← hP0] at hinv0
     have HI0 := Lib.hid hinv0
     clear hc hX hb hP0 hinv0
     go_wp2_with fail
     clear c0 k0
     rename World => Wo
     go_loopw [8, 31] (fun c i wr => ∃ j : Nat, j ≤ y.length ∧ i = .int .i64 (j : Int) ∧ c = .int .u64 ((mulK 4294967296 X k y P0 j).2 : Int) ∧ row? wr g = some (wordsA (mulK 4294967296 X k y P0 j).1) ∧ Same (fun j => j ≠ g) W0 wr) (fun _ i _ => y.length - (intOf i).toNat)
     case atStart => exact ⟨0, by omega, rfl, rfl, HR.out, HSm.out⟩
     case round =>
       obtain ⟨j, hj, rfl, rfl, hr, hs⟩ := hrel
       clear k1
       obtain ⟨k0, k1⟩ := HCL.out wr hs
       have hinv := mulK_inv (b := 4294967296) (i := k) (by decide) hXl HY.out HI0.out.2.1 j (by omega)
       have hkl := mulK_len 4294967296 X k y P0 j
       have HRj := Lib.hid hr
       have HSj := Lib.hid hs
       have hb := HOUT.out wr hs
       obtain ⟨C, hC⟩ : ∃ C, C = (mulK 4294967296 X k y P0 j).2 := ⟨_, rfl⟩
       obtain ⟨O, hO⟩ : ∃ O, O = (mulK 4294967296 X k y P0 j).1 := ⟨_, rfl⟩
       have HCO := Lib.hid (And.intro hC hO)
       rw [← hC] at hinv ⊢
       rw [← hO] at HRj hinv hkl
       obtain ⟨-, hCl, hOo, hOz⟩ := hinv
       have HOO := Lib.hid hOo
       have HOZ := Lib.hid hOz
       clear hr hs hC hO hOo hOz
       by_cases hjt : j < y.length
       · obtain ⟨b2, o2, c2, Y, hsl, -, hY, hc⟩ := HBY.out.at hjt
         simp only [Value.slice.injEq] at hsl
         obtain ⟨rfl, -, rfl⟩ := hsl
         have c0 := hc wr hb
         have hYl := HY.out Y (List.mem_of_getElem? hY)
         have hYA := atB_of hY
         have hZl := atB_lt (by decide) HOO.out (k + j)
         have hZg : O[k + j]? = some (atB O (k + j)) := by rw [List.getElem?_eq_getElem (by omega)]; simp [atB, List.getElem?_eq_getElem (show k + j < O.length by omega)]
         obtain ⟨Z, hZ⟩ : ∃ Z, Z = atB O (k + j) := ⟨_, rfl⟩
         rw [← hZ] at hZl hZg
         have c3 : wr.cell? ⟨g, k + j, none⟩ = some (.int .u32 (Z : Int)) := (cell?_row HRj.out).trans (wordsA_get hZg)
         have c4 : wr.frozen? ⟨g, k + j, none⟩ = false := frozen?_row HRj.out
         have hpl := mul_car hXl hYl hZl hCl
         obtain ⟨p, hpp⟩ : ∃ p, p = X * Y := ⟨_, rfl⟩
         have hmi : ((X : Int) * (Y : Int)) = (p : Int) := by rw [hpp]; simp
         rw [← hpp] at hpl
         have hst : mulK 4294967296 X k y P0 (j + 1) = (O.set (k + j) ((p + Z + C) % 4294967296), (p + Z + C) / 4294967296) := by
           rw [mulK, hYA, ← HCO.out.1, ← HCO.out.2, ← hZ, ← hpp]
         have HST := Lib.hid hst
         have hp1 : (p : Int) ≤ 18446744073709551615 := by omega
         have hp2 : (p : Int) + (Z : Int) ≤ 18446744073709551615 := by omega
         have hp3 : (p : Int) + (Z : Int) + (C : Int) ≤ 18446744073709551615 := by omega
         clear hc hY hb hYA hZg hZ hpp hst k0
         go_wp2_with fail
         go_roundw
         case rel =>
           refine ⟨j + 1, by omega, by go_num, by rw [HST.out]; rfl, ?_, HSj.out.trans (Same.setCell _ _ _ _ (by simp))⟩
           rw [HST.out, row?_setCell_same, HRj.out, ← wordsA_set]
           rfl
         case measure => simp [intOf]; omega
       · have hjn : j = y.length := by omega
         subst hjn
         have hzg : k + y.length < O.length := by omega
         have c4 : wr.frozen? ⟨g, k + y.length, none⟩ = false := frozen?_row HRj.out
         obtain ⟨Z, hZg⟩ : ∃ Z, O[k + y.length]? = some Z := ⟨_, List.getElem?_eq_getElem hzg⟩
         have c3 : wr.cell? ⟨g, k + y.length, none⟩ = some (.int .u32 (Z : Int)) := (cell?_row HRj.out).trans (wordsA_get hZg)
         clear hZg
         go_wp2_with fail
         refine ⟨⟨k + 1, by omega, by go_num, ?_, HSj.out.trans (Same.setCell _ _ _ _ (by simp))⟩, by simp [intOf]; omega⟩
         rw [row?_setCell_same, HRj.out, mulAll, HXA.out, ← HP0.out, mulRow, ← HCO.out.1, ← HCO.out.2, ← wordsA_set]
         rfl
   · have hkn : k = x.length := by omega
     subst hkn
     have hrd := wordsA_rdn HR.out (c := x.length + y.length) (by omega)
     rw [hml] at hrd
     have HT := Lib.hid (ntrim_any _ _ wr hrd hprod.out.2 (by omega))
     have HR2 := Lib.hid (show row? wr (w.heap.size + 1 + 1) = some #[.slice none 0 0] from (row?_congr (HSm.out.block (w.heap.size + 1 + 1) (by have := HG.out.2; omega) (by have := HG.out.1; omega))).trans HE.out.2.2.1)
     have HB2 := Lib.hid hb
     clear hrd k0 k1 hb hml
     go_wp2_with fail
     refine HT.out.mono ?_
     rintro r w3 ⟨v3, rfl, hv3, hb3⟩
     rw [hprod.out.1] at hv3
     obtain ⟨a3, c3, rfl, hr3⟩ := natV_sl hv3
     have HR3 := Lib.hid hr3
     have hrw3 := (row?_below hb3 (row?_lt HR2.out)).trans HR2.out
     have HRW3 := Lib.hid hrw3
     have HB3 := Lib.hid (HB2.out.trans (hb3.mono HB2.out.size))
     clear hr3 hb3 hv3
     go_wp2_with fail
     refine ret_row (w.heap.size + 1 + 1) #[.slice a3 (digB 4294967296 (m * n)).length c3] rfl Tryz.isAgg49 Tryz.sizeOf49 rfl rfl ?_ rfl ?_
     · simp [go_sem, hrw3]
     · exact ⟨_, rfl, ⟨_, rfl, HR3.out.setRow HRW3.out (noInt1 _ _ _) _⟩, below_setRow HB3.out (by omega) _⟩
end Go.Proofs.YtgnlebnpnpjfmaaGreatDoor
