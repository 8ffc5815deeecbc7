/-
  The walk of the statement TopTreeDepth.
-/
import Derived.Test.YtkoeeabeoefggaaDoorQTop20
import Derived.Test.YtkoeeabeoefggaaDoorQTo16
import Derived.Deep.DeepCutAuto
import Derived.Deep.CutBlock
namespace Go.Proofs.YtkoeeabeoefggaaDoor
open Go Go.RowKit Go.Pal Go.Shelf

theorem dg_le_self (n : Nat) : dg n ≤ n := by
  induction n using Nat.strongRecOn with
  | ind n ih =>
    by_cases h : n = 0
    · subst h; rw [dg_zero]; exact Nat.le_refl _
    · rw [dg_pos (by omega)]
      have := ih (n / 2) (by omega)
      omega
def encU (x : Nat) : Array Value := #[.int .u16 (x : Int)]
set_option maxRecDepth 10000 in
set_option maxHeartbeats 40000000 in
theorem main_any (hKnown : ∀ w, Tabs w → Calls Tryd.prog 4 #[] w fun e w' => e = .returned (.bool true) ∧ Below w.heap.size w w') (n f : Nat) (hn : n < 65536) (hf : f < 256) (us : List Nat) (hus : ∀ x ∈ us, x < 65536) (v : Value) (w : World) (hv : Rd encU 1 w.heap.size w v us) (hul : us.length ≤ 9223372036854775807) (hT : Tabs w) :
    Calls Tryd.prog 3 #[.int .u16 (n : Int), .int .u8 (f : Int), v] w fun e w' => e = .returned (.bool true) ∧ Below w.heap.size w w' := by
  obtain ⟨ua, uc, rfl, hu⟩ := hv
  obtain ⟨many, hmany⟩ : ∃ m, m = 1 + n % 1000 := ⟨_, rfl⟩
  have hm1 : many ≤ 1000 := by omega
  have hm0 : 1 ≤ many := by omega
  have hmz : (1 : Int) + (n : Int) % 1000 = (many : Int) := by omega
  have HK := Lib.hid hKnown
  have HT := Lib.hid hT
  have HU := Lib.hid hu
  have HUS := Lib.hid hus
  have HM := Lib.hid hmany
  clear hKnown hT hu hus hmany
  go_enter Tryd.func3, Tryd.ntmps3
  go_wp2_with fail
  refine (HK.out w HT.out).mono ?_
  rintro e w1 ⟨rfl, hb1⟩
  have HB1 := Lib.hid hb1
  have HT1 := Lib.hid (HT.out.on hb1)
  clear hb1
  by_cases h200 : 200 < us.length
  · have h200z : (200 : Int) < (us.length : Int) := by omega
    go_wp2_with fail
    refine (HK.out w1 HT1.out).mono ?_
    rintro e w2 ⟨rfl, hb2⟩
    have hb3 := HB1.out.trans (hb2.mono HB1.out.size)
    clear hb2
    go_wp2_with fail
    go_ret
    exact ⟨rfl, hb3⟩
  · have h200z : ¬ ((200 : Int) < (us.length : Int)) := by omega
    go_wp2_with (first | (refine wpList_bBag1 rfl _ rfl (-1) rfl ?_) | (refine wpList_bBags1 rfl _ rfl (-1) 0 rfl ?_))
    obtain ⟨W2, hW2⟩ : ∃ W2, W2 = w1.alloc (Obj.cells (bagA (-1, 0)) 29) := ⟨_, rfl⟩
    have hB2 : Below w.heap.size w W2 := by rw [hW2]; exact HB1.out.alloc HB1.out.size _
    have hg2 : W2.heap[w1.heap.size]? = some (.cells (bagA (-1, 0)) 29 (0, 0)) := by rw [hW2]; exact heap_alloc_new _ _
    have hO2 : OwnB w.heap.size W2 (.slice (some ⟨w1.heap.size, 0, none⟩) 1 1) [(-1, 0)] := ownB_one hg2 HB1.out.size
    rw [← hW2]
    clear hW2 hg2
    go_wp2_with fail
    go_loopw [8, 9] (fun vT iv wr => ∃ (i : Nat) (T : List Bg), i ≤ many ∧ iv = .int .i64 (i : Int) ∧ OwnB w.heap.size wr vT T ∧ ParOk T ∧ T.length = i ∧ Below w.heap.size w wr) (fun _ iv _ => many - (intOf iv).toNat)
    case atStart => exact ⟨1, _, hm0, rfl, hO2, parOk_one, rfl, hB2⟩
    case round =>
      obtain ⟨i, T, him, rfl, hO, hP, hlT, hb⟩ := hrel
      have HO := Lib.hid hO
      have HP := Lib.hid hP
      have HB := Lib.hid hb
      have hpos := hP.pos
      have hsz := hb.size
      clear hO hP hb
      by_cases hlt : i < many
      · go_upto_block 2 with fail
        go_cut [10] from 37 to 77 (fun v wx => ∃ p : Nat, p < i ∧ v = .int .i64 (p : Int) ∧ wx = wr)
        case first =>
          have hd : f % 6 = 0 ∨ f % 6 = 1 ∨ f % 6 = 2 ∨ f % 6 = 3 ∨ f % 6 = 4 ∨ f % 6 = 5 := by omega
          rcases hd with hd | hd | hd | hd | hd | hd
          · have hfz : (f : Int) % 6 = 0 := by omega
            clear hd
            go_wp2_with fail
            go_meet
            case rel => exact ⟨i - 1, by omega, by go_num, rfl⟩
          · have hfz : (f : Int) % 6 = 1 := by omega
            obtain ⟨q, hq⟩ : ∃ p : Nat, (i : Int) - 1 = (p : Int) := ⟨i - 1, by omega⟩
            clear hd
            go_wp2_with fail
            go_meet
            case rel => exact ⟨q / 2, by omega, by go_num, rfl⟩
          · have hfz : (f : Int) % 6 = 2 := by omega
            clear hd
            go_wp2_with fail
            go_meet
            case rel => exact ⟨i - 2, by omega, by go_num, rfl⟩
          · have hfz : (f : Int) % 6 = 3 := by omega
            clear hd
            by_cases h7 : i % 7 ≤ i - 1
            · have h7z : ¬ ((i : Int) - 1 - (i : Int) % 7 < 0) := by omega
              have h70 : 0 ≤ (i : Int) - 1 - (i : Int) % 7 := by omega
              go_wp2_with fail
              go_meet
              case rel => exact ⟨i - 1 - i % 7, by omega, by go_num, rfl⟩
            · have h7z : (i : Int) - 1 - (i : Int) % 7 < 0 := by omega
              go_wp2_with fail
              go_meet
              case rel => exact ⟨0, by omega, rfl, rfl⟩
          · have hfz : (f : Int) % 6 = 4 := by omega
            clear hd
            by_cases hu0 : us.length = 0
            · have hu1 : ¬ (0 < us.length) := by omega
              have hu2 : ¬ ((0 : Int) < (us.length : Int)) := by omega
              clear hu0
              go_wp2_with fail
              go_meet
              case rel => exact ⟨0, by omega, rfl, rfl⟩
            · obtain ⟨r, hr, hrl⟩ : ∃ r : Nat, (i : Int) % (us.length : Int) = (r : Int) ∧ r < us.length := ⟨i % us.length, by omega, Nat.mod_lt _ (by omega)⟩
              obtain ⟨x, hx⟩ : ∃ x, us[r]? = some x := ⟨_, List.getElem?_eq_getElem hrl⟩
              have hx16 := HUS.out x (List.mem_of_getElem? hx)
              rcases HU.out with hn0 | ⟨b, off, rfl, hbB, hc⟩
              · rw [hn0] at hu0; exact absurd rfl hu0
              have hcell := (HB.out.cell (p := ⟨b, off + r * 1 + 0, none⟩) hbB).trans (hc r x hx 0 (.int .u16 (x : Int)) rfl)
              rw [Nat.mul_one, Nat.add_zero] at hcell
              have hup0 : 0 < us.length := by omega
              have hupos : (0 : Int) < (us.length : Int) := by omega
              have hlz : ¬ ((us.length : Int) = 0) := by omega
              have hi0 : ¬ ((i : Int) = 0) := by omega
              clear hc hx
              go_wp2_with fail
              go_meet
              case rel => exact ⟨x % i, Nat.mod_lt _ (by omega), by go_num, rfl⟩
          · have hfz : (f : Int) % 6 = 5 := by omega
            clear hd
            go_wp2_with fail
            go_meet
            case rel => exact ⟨0, by omega, rfl, rfl⟩
        case rest =>
          obtain ⟨p, hpl, rfl, rfl⟩ := hcut
          go_wp2_with (first | (refine wpList_bBag1 rfl _ rfl (p : Int) rfl ?_) | (refine wpList_bBags1 rfl _ rfl (p : Int) 0 rfl ?_) | (at_builtin; refine wpList_appB rfl _ _ rfl w.heap.size _ _ rfl (HO.out.alloc _) _ ((p : Int), 0) _ rfl ?d1 ?d2 ?d3 ?_))
          case d1 => exact row?_alloc_at _ _ _ _ rfl
          case d2 => omega
          case d3 => simp; omega
          intro vT' w2 hO2 hb2
          have HO2 := Lib.hid hO2
          have HB2 := Lib.hid ((HB.out.alloc HB.out.size _).trans hb2)
          have HP2 := Lib.hid (parOk_snoc HP.out (p := p) (by omega))
          clear hO2 hb2
          go_wp2_with fail
          go_roundw
          case rel => exact ⟨i + 1, T ++ [(((p : Nat) : Int), 0)], by omega, by go_num, HO2.out, HP2.out, by simp; omega, HB2.out⟩
          case measure => simp [intOf]; omega
      · have hin : i = many := by omega
        subst hin
        obtain ⟨t, hV, hnd⟩ := HP.out.valid (by omega)
        have hts : t.sz ≤ 65536 := by have := hV.all; omega
        have hne : T ≠ [] := fun e => by rw [e] at hpos; simp at hpos
        go_wp2_with fail
        refine (new_any T t hV hnd _ wr (HO.out.rd hne) (HT.out.on HB.out).1 (HT.out.on HB.out).2).mono ?_
        rintro e w3 ⟨gf, rfl, hF3, hb3⟩
        have hB3 := HB.out.trans (hb3.mono hsz)
        obtain ⟨l, hl⟩ := HPath.ex t
        obtain ⟨c, hc⟩ := Cl.ex T (l := l) (fun e => by subst e; cases hl)
        have hct := (Cl.count hc (fun r hr u hu => labs_nodup_ks (labs_nodup_sub ((hpath_sub hl .self r hr).trans hu) hnd))).1 rfl
        rw [hl.sumW, hV.all, hlT] at hct
        have hdp := Cl.depth_le hl hc
        rw [hV.all, hlT] at hdp
        have hUp := c.upTree
        have hfl := Ct.flat_length 0 c
        have HF3 := Lib.hid hF3
        have HB3 := Lib.hid hB3
        have HV := Lib.hid hV
        have HL := Lib.hid hl
        have HC := Lib.hid hc
        have HUp := Lib.hid hUp
        have HCT := Lib.hid hct
        have HFL := Lib.hid hfl
        have HDP := Lib.hid hdp
        clear hF3 hb3 hB3 hV hl hc hUp hct hfl hdp hnd
        go_wp2_with fail
        refine (ttNew_any T t HV.out hts gf w3 HF3.out l HL.out c HC.out (by have := HCT.out; omega)).mono ?_
        rintro e w4 ⟨gt, rfl, hO4, hb4⟩
        have HO4 := Lib.hid hO4
        have HB4 := Lib.hid (HB3.out.trans (hb4.mono HB3.out.size))
        have hn4 : (c.flat 0).length ≤ 100000 := by rw [HFL.out]; have := HCT.out; omega
        clear hO4 hb4 HF3 HB3 HL HC HO HP HB
        go_wp2_with fail
        refine (digits_any i (by omega) w4).mono ?_
        rintro e w5 ⟨rfl, rfl⟩
        have hdg : dg i ≤ 1000 := by
          have := dg_le_self i
          omega
        go_wp2_with fail
        refine (tdepth_any gt gf T t _ w5 HO4.out hn4 _ HUp.out).mono ?_
        rintro e w6 ⟨rfl, hb6⟩
        obtain ⟨M, hM⟩ : ∃ M, M = mxF (upsTo (c.flat 0) (c.flat 0).length) (c.flat 0).length (c.flat 0).length := ⟨_, rfl⟩
        rw [← hM]
        have hMd : M ≤ 10 * dg i + 10 := by rw [hM]; exact Nat.le_trans (HUp.out.mxF_le _) HDP.out
        have HMM := Lib.hid hM
        clear hM
        have hMz : ¬ ((10 : Int) * (dg i : Int) + 10 < (M : Int)) := by omega
        have HO6 := Lib.hid (HO4.out.below hb6)
        have HB6 := Lib.hid (HB4.out.trans (hb6.mono HB4.out.size))
        clear hb6 HO4 HB4
        go_wp2_with fail
        refine (tlen_any gt gf T t _ w6 HO6.out).mono ?_
        rintro e w7 ⟨rfl, rfl⟩
        have hlen1 : ¬ (((c.flat 0).length : Int) < 2 * (i : Int)) := by rw [HFL.out]; have := HCT.out; omega
        have hlen2 : ¬ ((4 : Int) * (i : Int) < ((c.flat 0).length : Int)) := by rw [HFL.out]; have := HCT.out; omega
        go_wp2_with fail
        refine (tlen_any gt gf T t _ w7 HO6.out).mono ?_
        rintro e w8 ⟨rfl, rfl⟩
        go_wp2_with fail
        go_loopw [16] (fun iv wr => ∃ k : Nat, k ≤ 20 ∧ iv = .int .i64 (k : Int) ∧ TtOk wr gt gf T t (c.flat 0) ∧ Below w.heap.size w wr) (fun iv _ => 20 - (intOf iv).toNat)
        case atStart => exact ⟨0, by omega, rfl, HO6.out, HB6.out⟩
        case round =>
          obtain ⟨k, hk, rfl, hOk, hb⟩ := hrel
          have HOk := Lib.hid hOk
          have HB := Lib.hid hb
          have hsz := hb.size
          clear hOk hb
          by_cases hku : k < us.length
          · by_cases hk20 : k < 20
            · obtain ⟨x, hx⟩ : ∃ x, us[k]? = some x := ⟨_, List.getElem?_eq_getElem hku⟩
              have hx16 := HUS.out x (List.mem_of_getElem? hx)
              rcases HU.out with hn0 | ⟨b, off, rfl, hbB, hc⟩
              · rw [hn0] at hku; simp at hku
              have hcell := (HB.out.cell (p := ⟨b, off + k * 1 + 0, none⟩) hbB).trans (hc k x hx 0 (.int .u16 (x : Int)) rfl)
              rw [Nat.mul_one, Nat.add_zero] at hcell
              obtain ⟨p, hp, hpl⟩ : ∃ p : Nat, (x : Int) % (i : Int) = (p : Int) ∧ p < i := ⟨x % i, by omega, Nat.mod_lt _ (by omega)⟩
              have hi0 : ¬ ((i : Int) = 0) := by omega
              clear hc hx
              go_wp2_with fail
              obtain ⟨j, hj1, hj2⟩ := leafsTo_ok (c.flat 0) p HUp.out.pos (c.flat 0).length (Nat.le_refl _)
              obtain ⟨pl, hpl1, hpl2, hpl3⟩ := HUp.out.path_ex hj2
              have hdj := HUp.out.dpt_le hj2
              have hMj : pl.length ≤ M := by rw [hpl2, HMM.out]; exact mxF_ge (by omega) hj2
              refine (tpath_any gt gf T t (c.flat 0) wr HOk.out p (by omega) j hj1 pl hpl1 (by omega)).mono ?_
              rintro e w9 ⟨pv, rfl, hO9, hb9⟩
              obtain ⟨q9, n9, c9, rfl⟩ := hO9.slice
              have hn9 := hO9.len
              rw [List.length_map] at hn9
              subst hn9
              have hp0 : 0 < pl.length := by omega
              have hlast : (pl.map fun i : Nat => (i : Int))[pl.length - 1]? = some (((c.flat 0).length - 1 : Nat) : Int) := by
                rw [List.getElem?_map, ← List.getLast?_eq_getElem?, hpl3]; rfl
              obtain ⟨gp, rfl, -, hgp, hcp⟩ := hO9.cell hlast
              have HOk9 := Lib.hid (HOk.out.below hb9)
              have HB9 := Lib.hid (HB.out.trans (hb9.mono hsz))
              clear hj1 hpl1 hpl2 hpl3 hlast hO9 hb9 HOk
              have e1 : ¬ pl.length = 0 := by omega
              have e2 : ¬ ((pl.length : Int) = 0) := by omega
              have e3 : ((pl.length : Int) - 1) = ((pl.length - 1 : Nat) : Int) := by omega
              have e4 : ¬ ((M : Int) < (pl.length : Int)) := by omega
              have e5 : pl.length - 1 < pl.length := by omega
              have e6 : ((pl.length : Int) == 0) = false := by simpa using e2
              have e7 : decide ((M : Int) < (pl.length : Int)) = false := by simpa using e4
              have e10 : decide (M < pl.length) = false := by simp; omega
              have e8 : decide ((pl.length : Int) = 0) = false := by simpa using e2
              have e9 : (pl.length == 0) = false := by simpa using e1
              go_wp2_with fail
              have F : ∀ W', Below w9.heap.size w9 W' → W'.cell? ⟨gp, pl.length - 1, none⟩ = some (.int .i64 (((c.flat 0).length - 1 : Nat) : Int)) := fun W' h => (h.cell (p := ⟨gp, pl.length - 1, none⟩) hgp).trans hcp
              have HFF := Lib.hid F
              clear F
              have hcd : ∀ W', Below w9.heap.size w9 W' → Calls Tryd.prog 8 #[.pointer (some ⟨gt, 0, none⟩)] W' fun e w' => e = .returned (.int .i64 (M : Int)) ∧ Below w9.heap.size w9 w' := fun W' h => by
                rw [HMM.out]
                exact (tdepth_any gt gf T t _ W' (HOk9.out.below h) hn4 _ HUp.out).mono fun e w' ⟨h1, h2⟩ => ⟨h1, h.trans (h2.mono h.size)⟩
              have hcr : ∀ W', Below w9.heap.size w9 W' → Calls Tryd.prog 11 #[.pointer (some ⟨gt, 0, none⟩)] W' fun e w' => e = .returned (.int .i64 (((c.flat 0).length - 1 : Nat) : Int)) ∧ Below w9.heap.size w9 w' := fun W' h =>
                (troot_any gt gf T t _ W' (HOk9.out.below h) HUp.out.pos hn4).mono fun e w' ⟨h1, h2⟩ => ⟨h1, by rw [h2]; exact h⟩
              have CD := Lib.hid hcd
              have CR := Lib.hid hcr
              clear hcd hcr
              refine wp_region_free (fun W' => Below w9.heap.size w9 W') (by kernel_rfl) (by kernel_rfl) (Below.refl _ _).drew ?_
              repeat (first | (apply wpFree_still; (intro w hw; skip; go_simp; (try go_ints); (first | with_reducible rfl | (go_simp; with_reducible rfl))); with_reducible rfl; (intro K hK; go_simp; (try go_ints); refine hK _ ?_; clear hK K)) | (apply wpFree_stillG rfl; (intro w hw; skip; go_simp; (try go_ints); (first | with_reducible rfl | (go_simp; with_reducible rfl))); (intro K hK; go_simp; (try go_ints); refine hK _ ?_; clear hK K)))
              apply wpFree_callG rfl
              · intro w hw; go_simp; first | with_reducible rfl | with_reducible exact ⟨rfl, rfl⟩
              · intro w hw; exact CD.out w hw
              intro K hK; go_simp; (try go_ints); refine hK _ ?_; clear hK K
              repeat (first | (apply wpFree_still; (intro w hw; have k1 := HFF.out _ hw; go_simp; (try go_ints); (first | with_reducible rfl | (go_simp; with_reducible rfl))); with_reducible rfl; (intro K hK; go_simp; (try go_ints); refine hK _ ?_; clear hK K)) | (apply wpFree_stillG rfl; (intro w hw; have k1 := HFF.out _ hw; go_simp; (try go_ints); (first | with_reducible rfl | (go_simp; with_reducible rfl))); (intro K hK; go_simp; (try go_ints); refine hK _ ?_; clear hK K)))
              apply wpFree_callG rfl
              · intro w hw; go_simp; first | with_reducible rfl | with_reducible exact ⟨rfl, rfl⟩
              · intro w hw; exact CR.out w hw
              intro K hK; go_simp; (try go_ints); refine hK _ ?_; clear hK K
              repeat (first | (apply wpFree_still; (intro w hw; skip; go_simp; (try go_ints); (first | with_reducible rfl | (go_simp; with_reducible rfl))); with_reducible rfl; (intro K hK; go_simp; (try go_ints); refine hK _ ?_; clear hK K)) | (apply wpFree_stillG rfl; (intro w hw; skip; go_simp; (try go_ints); (first | with_reducible rfl | (go_simp; with_reducible rfl))); (intro K hK; go_simp; (try go_ints); refine hK _ ?_; clear hK K)))
              with_reducible refine wpFree_nil ?_
              intro wx hbx
              have HOkx := Lib.hid (HOk9.out.below hbx)
              have HBx := Lib.hid (HB9.out.trans (hbx.mono HB9.out.size))
              clear hbx HOk9 HB9 CD CR HFF
              go_wp2_with fail
              go_roundw
              case rel => exact ⟨k + 1, by omega, by go_num, HOkx.out, HBx.out⟩
              case measure => simp [intOf]; omega
            · have hkz : ¬ ((k : Int) < 20) := by omega
              go_wp2_with fail
              go_ret
              exact ⟨rfl, HB.out⟩
          · have hkz : ¬ ((k : Int) < (us.length : Int)) := by omega
            go_wp2_with fail
            go_ret
            exact ⟨rfl, HB.out⟩
end Go.Proofs.YtkoeeabeoefggaaDoor
