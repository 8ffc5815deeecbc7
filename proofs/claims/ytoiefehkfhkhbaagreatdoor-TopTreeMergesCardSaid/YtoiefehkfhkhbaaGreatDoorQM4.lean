/-
  Walks of the reference of merges: Of.
  The walk of the statement TopTreeMerges.
-/
import Derived.Test.YtoiefehkfhkhbaaGreatDoorQMD
import Derived.Test.YtoiefehkfhkhbaaGreatDoorQRefM
import Derived.Test.YtoiefehkfhkhbaaGreatDoorQM2
import Derived.Test.YtoiefehkfhkhbaaGreatDoorQM3
namespace Go.Pal
open Go
theorem i64_bitm {m p : Nat} (hm : m < 65536) : (bits .and .i64 ((m : Int) / 2 ^ min p 64) 1 == 1) = m.testBit p := by
  rw [i64_bit hm]
  rcases Nat.le_total p 64 with h | h
  · rw [Nat.min_eq_left h]
  · rw [Nat.min_eq_right h]
    have hz : ∀ q, 64 ≤ q → m.testBit q = false := fun q hq => Nat.testBit_lt_two_pow (Nat.lt_of_lt_of_le hm (by have := Nat.pow_le_pow_right (n := 2) (by omega) (show 16 ≤ q by omega); omega))
    rw [hz 64 (by omega), hz p h]
/-- A row of truth values. -/
def rowB (U : Nat → Bool) (n : Nat) : Array Value := Array.ofFn (n := n) fun i => .bool (U i.val)
theorem rowB_size (U : Nat → Bool) (n : Nat) : (rowB U n).size = n := by simp [rowB]
theorem rowB_get (U : Nat → Bool) {n i : Nat} (h : i < n) : (rowB U n)[i]? = some (.bool (U i)) := by rw [rowB, Array.getElem?_ofFn, dif_pos h]
theorem rowB_set (U : Nat → Bool) (n p : Nat) (v : Bool) : (rowB U n).setIfInBounds p (.bool v) = rowB (fun q => if q = p then v else U q) n := by
  apply Array.ext_getElem?
  intro i
  by_cases hi : i < n
  · rw [Array.getElem?_setIfInBounds, rowB_get _ hi, rowB_get _ hi]
    by_cases hp : p = i
    · subst hp
      simp [rowB_size, hi]
    · rw [if_neg hp, if_neg fun e => hp e.symm]
  · rw [Array.getElem?_eq_none (by rw [Array.size_setIfInBounds, rowB_size]; omega), Array.getElem?_eq_none (by rw [rowB_size]; omega)]
theorem rowB_const (v : Bool) (n : Nat) : rowB (fun _ => v) n = Array.replicate n (.bool v) := by
  apply Array.ext_getElem?
  intro i
  by_cases hi : i < n
  · rw [rowB_get _ hi]; simp [hi]
  · rw [Array.getElem?_eq_none (by rw [rowB_size]; omega), Array.getElem?_eq_none (by rw [Array.size_replicate]; omega)]
theorem rowB_congr {U V : Nat → Bool} {n : Nat} (h : ∀ i, i < n → U i = V i) : rowB U n = rowB V n := by
  apply Array.ext_getElem?
  intro i
  by_cases hi : i < n
  · rw [rowB_get _ hi, rowB_get _ hi, h i hi]
  · rw [Array.getElem?_eq_none (by rw [rowB_size]; omega), Array.getElem?_eq_none (by rw [rowB_size]; omega)]
end Go.Pal
namespace Go.Proofs.YtoiefehkfhkhbaaGreatDoor
open Go Go.RowKit Go.Pal

theorem infoBool : (Tryz.prog.info? 4).map (fun i => (i.zero, i.size, i.bytes)) = some (some (.bool false), 1, 1) := by kernel_rfl

set_option maxRecDepth 10000 in
set_option maxHeartbeats 2000000 in
theorem rof_any (LL LR LF LS : List Int) (vl vr vf vs : Value) (m1 m2 : Nat) (w : World) (hl : RdL w vl LL) (hr : RdL w vr LR) (hf : RdL w vf LF) (hs : RdL w vs LS) (hm1 : m1 < 65536) (hm2 : m2 < 65536) (hll : LL.length ≤ 1024) (hlr : LR.length ≤ 1024) (hls : LS.length ≤ 2048)
    (hL : ∀ x ∈ LL, 0 ≤ x ∧ x < (LS.length : Int)) (hR : ∀ x ∈ LR, 0 ≤ x ∧ x < (LS.length : Int)) :
    Calls Tryz.prog 11 #[.agg #[vl, vr, vf, vs], .int .i64 (m1 : Int), .int .i64 (m2 : Int)] w fun e w' => ∃ p q r v, e = .returned (.tuple #[p, q, r, v]) ∧ RdL w' p (maskTo m1 LL LL.length) ∧ RdL w' q (maskTo m2 LR LR.length) ∧
      RdL w' r (goneTo (maskTo m1 LL LL.length) (maskTo m2 LR LR.length) LS LS.length) ∧ RdL w' v (keptTo (maskTo m1 LL LL.length) (maskTo m2 LR LR.length) LS LS.length) ∧ Below w.heap.size w w' := by
  have HVLw := Lib.hid hl
  have HVRw := Lib.hid hr
  have HVSw := Lib.hid hs
  obtain ⟨al, cl, rfl⟩ := hl.sl
  obtain ⟨ar, cr, rfl⟩ := hr.sl
  obtain ⟨af, cf, rfl⟩ := hf.sl
  obtain ⟨ax, cs, rfl⟩ := hs.sl
  obtain ⟨nS, hnS⟩ : ∃ nS, nS = LS.length := ⟨_, rfl⟩
  have HNS := Lib.hid hnS
  rw [← hnS] at hL hR hls
  have HL := Lib.hid hL
  have HR0 := Lib.hid hR
  have hmk := run_make1 (P := Tryz.prog) (t := 85) Tryz.underlying85 infoBool rfl LS.length (by omega) (by omega)
  clear hl hr hf hs hL hR
  rw [← hnS] at hmk
  clear hnS
  go_enter Tryz.func11, Tryz.ntmps11
  rw [← HNS.out]
  go_wp2_with fail
  obtain ⟨W1, hW1⟩ : ∃ W1, W1 = w.alloc (Obj.cells #[.slice al LL.length cl, .slice ar LR.length cr, .slice af LF.length cf, .slice ax nS cs] 43) := ⟨_, rfl⟩
  have hB1 : Below w.heap.size w W1 := by rw [hW1]; exact (Below.refl _ w).alloc (Nat.le_refl _) _
  have hs1 : W1.heap.size = w.heap.size + 1 := by rw [hW1]; simp
  have hr1 : row? W1 w.heap.size = some #[.slice al LL.length cl, .slice ar LR.length cr, .slice af LF.length cf, .slice ax nS cs] := by rw [hW1]; exact row?_alloc_at _ _ _ _ rfl
  rw [← hW1, ← hs1]
  obtain ⟨W2, hW2⟩ : ∃ W2, W2 = W1.alloc (Obj.cells (Array.replicate nS (.bool false)) 4) := ⟨_, rfl⟩
  have hB2 : Below W1.heap.size W1 W2 := by rw [hW2]; exact (Below.refl _ W1).alloc (Nat.le_refl _) _
  have hs2 : W2.heap.size = W1.heap.size + 1 := by rw [hW2]; simp
  have hr2 : row? W2 W1.heap.size = some (rowB (fun j => decide ((j : Int) ∈ maskTo m1 LL 0)) nS) := by
    rw [hW2, maskTo_zero]
    have : rowB (fun j : Nat => decide ((j : Int) ∈ ([] : List Int))) nS = Array.replicate nS (.bool false) := by
      rw [← rowB_const]
      exact rowB_congr fun i hi => by simp
    rw [this]
    exact row?_alloc_at _ _ _ _ rfl
  rw [← hW2]
  have hsa : w.heap.size < W1.heap.size := by omega
  have hsb : W1.heap.size < W2.heap.size := by omega
  have HB1 := Lib.hid hB1
  have HVL := Lib.hid (HVLw.out.below hB1)
  have HVR := Lib.hid (HVRw.out.below hB1)
  have HVS := Lib.hid (by have := HVSw.out.below hB1; rw [← HNS.out] at this; exact this)
  have HR1 := Lib.hid hr1
  have HBB := Lib.hid hB2
  have HR2 := Lib.hid hr2
  clear hW1 hB1 hs1 hr1 hW2 hB2 hs2 hr2 hmk HVLw HVRw HVSw
  go_loopw [11, 15] (fun a i wr => ∃ k : Nat, k ≤ LL.length ∧ i = .int .i64 (k : Int) ∧ OwnI W2.heap.size wr a (maskTo m1 LL k) ∧ row? wr W1.heap.size = some (rowB (fun j => decide ((j : Int) ∈ maskTo m1 LL k)) nS) ∧ Same (fun x => x < W2.heap.size ∧ x ≠ W1.heap.size) W2 wr) (fun _ i _ => LL.length - (intOf i).toNat)
  case atStart => exact ⟨0, by omega, rfl, OwnI.nil _ _, HR2.out, Same.refl _ _⟩
  case round =>
    obtain ⟨k, hk, rfl, hO, hr, hS⟩ := hrel
    have hsz := hS.size
    have hml := maskTo_length m1 LL k
    have HST := Lib.hid (maskTo_succ m1 LL k)
    obtain ⟨acc, hacc⟩ : ∃ acc, acc = maskTo m1 LL k := ⟨_, rfl⟩
    rw [← hacc] at hO hml HST hr
    have HACC := Lib.hid hacc
    have HO := Lib.hid hO
    have HR := Lib.hid hr
    have HS := Lib.hid hS
    have hown := hO.block
    obtain ⟨qa, cqa, rfl⟩ := hO.sl
    have hBB : Below W1.heap.size W1 wr := HBB.out.trans (hS.below (by omega) fun k hk => by omega)
    have hr3 := (row?_below hBB (by omega)).trans HR1.out
    have kf := cell?_row (i := 0) hr3
    simp at kf
    have HR3 := Lib.hid hr3
    have HBBr := Lib.hid hBB
    have hbit := i64_bitm (p := k) hm1
    clear hacc hO hS hr3
    by_cases hlt : k < (LL).length
    · obtain ⟨bl, offl, cl', e, h1, hz, hcc⟩ := (HVL).out.at hlt
      simp only [Value.slice.injEq] at h1
      obtain ⟨rfl, -, rfl⟩ := h1
      have hbl := RdL.lt (HVL).out (by omega)
      have hce := hcc wr hBB
      obtain ⟨he0, he1⟩ := (HL).out e (List.mem_of_getElem? hz)
      obtain ⟨j, rfl⟩ : ∃ j : Nat, e = (j : Int) := ⟨e.toNat, by omega⟩
      have hgd : (LL).getD k 0 = (j : Int) := by rw [List.getD_eq_getElem?_getD, hz]; rfl
      cases hbt : (m1).testBit k with
      | true =>
        rw [hbt] at hbit
        have hst := HST.out
        rw [hbt, if_pos rfl, hgd] at hst
        have HST2 := Lib.hid hst
        have HCC := Lib.hid hcc
        clear hst hz hcc hgd HST
        go_wp2_with (at_builtin; refine wpList_appT2 rfl 34 undI _ _ rfl (W2).heap.size _ acc rfl (HO.out.alloc _) _ (j : Int) _ rfl (by simp [go_sem]) (by omega) (by simp; omega) ?_)
        intro v5 w5 hO5 hb5 hg5 hl5
        have hs5 : wr.heap.size ≤ w5.heap.size := by have := hb5.size; simp at this; omega
        have hneB : some W1.heap.size ≠ (Value.slice qa acc.length cqa).ownBlock := fun e => by have := hown _ e.symm; omega
        have hr5 := (row?_congr ((hg5.block W1.heap.size (by simp; omega) hneB).trans (Below.heap_alloc _ _ _ (by omega)))).trans HR.out
        have hk5 : ∀ j, j < (W2).heap.size → w5.heap[j]? = wr.heap[j]? := fun j hj => (hb5.block j hj).trans (Below.heap_alloc _ _ _ (by omega))
        have hS5 := HS.out.trans ⟨hb5.os, hb5.tape, hb5.output, hs5, fun k hk h => hk5 k h.1⟩
        have hBB5 : Below W1.heap.size W1 w5 := HBB.out.trans (hS5.below (by omega) fun k hk => by omega)
        have kf5 := cell?_row (i := 0) ((row?_below hBB5 (by omega)).trans HR1.out)
        simp at kf5
        have hce5 := HCC.out w5 hBB5
        have hfz5 := frozen?_row (i := j) hr5
        have hltB := row?_lt hr5
        have kB5 := cell?_row (i := j) hr5
        rw [rowB_get _ (show j < nS by omega)] at kB5
        obtain ⟨q5, c5, rfl⟩ := hO5.sl
        have HO5 := Lib.hid hO5
        have HS5 := Lib.hid hS5
        have HR5 := Lib.hid hr5
        clear hO5 hb5 hg5 hl5 hr5 hk5 hS5 hBB5 hce kf hBB hneB
        rw [List.length_append] at HO5 ⊢
        go_wp2_with fail
        go_roundw
        case rel =>
          refine ⟨k + 1, by omega, by go_num, ?_, ?_, ?_⟩
          · rw [HST2.out]
            exact HO5.out.same fun g hg => heap_setCell_other _ _ g _ (by have := HO5.out.block g hg; show g ≠ W1.heap.size; omega)
          · rw [row?_setCell_same, HR5.out, Option.map_some, rowB_set]
            congr 1
            apply rowB_congr
            intro i hi
            rw [HST2.out]
            (simp only [List.mem_append, List.mem_singleton]; by_cases hij : i = j; (simp [hij]); (have hne : ¬ ((i : Int) = (j : Int)) := by omega); simp [hij, hne])
          · exact HS5.out.trans (Same.setCell _ _ _ _ (by show ¬ (W1.heap.size < _ ∧ W1.heap.size ≠ W1.heap.size); omega))
        case measure => simp [intOf]; omega
      | false =>
        rw [hbt] at hbit
        have hst := HST.out
        rw [hbt, if_neg (by simp), List.append_nil] at hst
        have HST2 := Lib.hid hst
        clear hst hz hcc hgd HST
        go_wp2_with fail
        go_roundw
        case rel => exact ⟨k + 1, by omega, by go_num, by rw [HST2.out]; exact HO.out, by rw [HST2.out]; exact HR.out, HS.out⟩
        case measure => simp [intOf]; omega
    · have hAd : acc = maskTo m1 LL LL.length := by rw [HACC.out, show k = LL.length by omega]
      have HAD := Lib.hid hAd
      obtain ⟨A, rfl⟩ : ∃ A, A = acc := ⟨acc, rfl⟩
      obtain ⟨W3, rfl⟩ : ∃ W3, W3 = wr := ⟨wr, rfl⟩
      have hA1 : A.length ≤ 1024 := by omega
      have HVA := Lib.hid (HO.out.rda.mono (A' := fun x => x ≠ W1.heap.size) fun x hx => by omega)
      have HBB := HBBr
      have HRB := Lib.hid HR.out
      have hsc : W1.heap.size < W3.heap.size := by omega
      obtain ⟨va, hva⟩ : ∃ va, va = Value.slice qa A.length cqa := ⟨_, rfl⟩
      rw [← hva] at HVA ⊢
      clear hAd HACC HO HS hown HBBr HR2 hbit hva hBB hml HST hr HR hsz
      go_wp2_with fail
      clear hk hlt kf
      go_loopw [12, 16] (fun a i wr => ∃ k : Nat, k ≤ LR.length ∧ i = .int .i64 (k : Int) ∧ OwnI W3.heap.size wr a (maskTo m2 LR k) ∧ row? wr W1.heap.size = some (rowB (fun j => decide ((j : Int) ∈ A ++ maskTo m2 LR k)) nS) ∧ Same (fun x => x < W3.heap.size ∧ x ≠ W1.heap.size) W3 wr) (fun _ i _ => LR.length - (intOf i).toNat)
      case atStart => exact ⟨0, by omega, rfl, OwnI.nil _ _, by rw [maskTo_zero, List.append_nil]; exact HRB.out, Same.refl _ _⟩
      case round =>
        obtain ⟨k, hk, rfl, hO, hr, hS⟩ := hrel
        have hsz := hS.size
        have hml := maskTo_length m2 LR k
        have HST := Lib.hid (maskTo_succ m2 LR k)
        obtain ⟨acc, hacc⟩ : ∃ acc, acc = maskTo m2 LR k := ⟨_, rfl⟩
        rw [← hacc] at hO hml HST hr
        have HACC := Lib.hid hacc
        have HO := Lib.hid hO
        have HR := Lib.hid hr
        have HS := Lib.hid hS
        have hown := hO.block
        obtain ⟨qa, cqa, rfl⟩ := hO.sl
        have hBB : Below W1.heap.size W1 wr := HBB.out.trans (hS.below (by omega) fun k hk => by omega)
        have hr3 := (row?_below hBB (by omega)).trans HR1.out
        have kf := cell?_row (i := 1) hr3
        simp at kf
        have HR3 := Lib.hid hr3
        have HBBr := Lib.hid hBB
        have hbit := i64_bitm (p := k) hm2
        clear hacc hO hS hr3
        by_cases hlt : k < (LR).length
        · obtain ⟨bl, offl, cl', e, h1, hz, hcc⟩ := (HVR).out.at hlt
          simp only [Value.slice.injEq] at h1
          obtain ⟨rfl, -, rfl⟩ := h1
          have hbl := RdL.lt (HVR).out (by omega)
          have hce := hcc wr hBB
          obtain ⟨he0, he1⟩ := (HR0).out e (List.mem_of_getElem? hz)
          obtain ⟨j, rfl⟩ : ∃ j : Nat, e = (j : Int) := ⟨e.toNat, by omega⟩
          have hgd : (LR).getD k 0 = (j : Int) := by rw [List.getD_eq_getElem?_getD, hz]; rfl
          cases hbt : (m2).testBit k with
          | true =>
            rw [hbt] at hbit
            have hst := HST.out
            rw [hbt, if_pos rfl, hgd] at hst
            have HST2 := Lib.hid hst
            have HCC := Lib.hid hcc
            clear hst hz hcc hgd HST
            go_wp2_with (at_builtin; refine wpList_appT2 rfl 34 undI _ _ rfl (W3).heap.size _ acc rfl (HO.out.alloc _) _ (j : Int) _ rfl (by simp [go_sem]) (by omega) (by simp; omega) ?_)
            intro v5 w5 hO5 hb5 hg5 hl5
            have hs5 : wr.heap.size ≤ w5.heap.size := by have := hb5.size; simp at this; omega
            have hneB : some W1.heap.size ≠ (Value.slice qa acc.length cqa).ownBlock := fun e => by have := hown _ e.symm; omega
            have hr5 := (row?_congr ((hg5.block W1.heap.size (by simp; omega) hneB).trans (Below.heap_alloc _ _ _ (by omega)))).trans HR.out
            have hk5 : ∀ j, j < (W3).heap.size → w5.heap[j]? = wr.heap[j]? := fun j hj => (hb5.block j hj).trans (Below.heap_alloc _ _ _ (by omega))
            have hS5 := HS.out.trans ⟨hb5.os, hb5.tape, hb5.output, hs5, fun k hk h => hk5 k h.1⟩
            have hBB5 : Below W1.heap.size W1 w5 := HBB.out.trans (hS5.below (by omega) fun k hk => by omega)
            have kf5 := cell?_row (i := 1) ((row?_below hBB5 (by omega)).trans HR1.out)
            simp at kf5
            have hce5 := HCC.out w5 hBB5
            have hfz5 := frozen?_row (i := j) hr5
            have hltB := row?_lt hr5
            have kB5 := cell?_row (i := j) hr5
            rw [rowB_get _ (show j < nS by omega)] at kB5
            obtain ⟨q5, c5, rfl⟩ := hO5.sl
            have HO5 := Lib.hid hO5
            have HS5 := Lib.hid hS5
            have HR5 := Lib.hid hr5
            clear hO5 hb5 hg5 hl5 hr5 hk5 hS5 hBB5 hce kf hBB hneB
            rw [List.length_append] at HO5 ⊢
            go_wp2_with fail
            go_roundw
            case rel =>
              refine ⟨k + 1, by omega, by go_num, ?_, ?_, ?_⟩
              · rw [HST2.out]
                exact HO5.out.same fun g hg => heap_setCell_other _ _ g _ (by have := HO5.out.block g hg; show g ≠ W1.heap.size; omega)
              · rw [row?_setCell_same, HR5.out, Option.map_some, rowB_set]
                congr 1
                apply rowB_congr
                intro i hi
                rw [HST2.out]
                (simp only [List.mem_append, List.mem_singleton]; by_cases hij : i = j; (simp [hij]); (have hne : ¬ ((i : Int) = (j : Int)) := by omega); simp [hij, hne])
              · exact HS5.out.trans (Same.setCell _ _ _ _ (by show ¬ (W1.heap.size < _ ∧ W1.heap.size ≠ W1.heap.size); omega))
            case measure => simp [intOf]; omega
          | false =>
            rw [hbt] at hbit
            have hst := HST.out
            rw [hbt, if_neg (by simp), List.append_nil] at hst
            have HST2 := Lib.hid hst
            clear hst hz hcc hgd HST
            go_wp2_with fail
            go_roundw
            case rel => exact ⟨k + 1, by omega, by go_num, by rw [HST2.out]; exact HO.out, by rw [HST2.out]; exact HR.out, HS.out⟩
            case measure => simp [intOf]; omega
        · have hAd : acc = maskTo m2 LR LR.length := by rw [HACC.out, show k = LR.length by omega]
          have HAD2 := Lib.hid hAd
          obtain ⟨B, rfl⟩ : ∃ B, B = acc := ⟨acc, rfl⟩
          obtain ⟨W4, rfl⟩ : ∃ W4, W4 = wr := ⟨wr, rfl⟩
          have HVA4 := Lib.hid (HVA.out.keep (A' := fun _ => True) HS.out.size fun x hx hA => ⟨HS.out.block x hx ⟨hx, hA⟩, trivial⟩).rdl
          have HVB4 := Lib.hid HO.out.rdl
          have HB4 := HBBr
          have HRB4 := Lib.hid HR.out
          have HR4 := HR3
          have hsd : W1.heap.size < W4.heap.size := by omega
          obtain ⟨vb, hvb⟩ : ∃ vb, vb = Value.slice qa B.length cqa := ⟨_, rfl⟩
          rw [← hvb] at HVB4 ⊢
          clear hAd HACC HO HS hown HBBr hbit hvb hBB hml HST hr HR hsz HR3 HVA HRB HVL HVR HBB
          go_wp2_with fail
          clear hk hlt kf
          go_loopw [13, 14, 17] (fun f l i wr => ∃ k : Nat, k ≤ nS ∧ i = .int .i64 (k : Int) ∧ OwnI W4.heap.size wr f (goneTo A B LS k) ∧ OwnI W4.heap.size wr l (keptTo A B LS k) ∧ (∀ g, f.ownBlock = some g → l.ownBlock ≠ some g) ∧ Below W4.heap.size W4 wr) (fun _ _ i _ => nS - (intOf i).toNat)
          case atStart => exact ⟨0, by omega, rfl, OwnI.nil _ _, OwnI.nil _ _, (fun g h => by cases h), Below.refl _ _⟩
          case round =>
            obtain ⟨k, hk, rfl, hF, hO, hsep, hb⟩ := hrel
            have hsz := hb.size
            have hlF := goneTo_length A B LS k
            have hlO := keptTo_length A B LS k
            have HSF := Lib.hid (goneTo_succ A B LS k)
            have HSO := Lib.hid (keptTo_succ A B LS k)
            obtain ⟨F, hFd⟩ : ∃ F, F = goneTo A B LS k := ⟨_, rfl⟩
            obtain ⟨O, hOd⟩ : ∃ O, O = keptTo A B LS k := ⟨_, rfl⟩
            rw [← hFd] at hF hlF HSF
            rw [← hOd] at hO hlO HSO
            have HF := Lib.hid hF
            have HO := Lib.hid hO
            have HSep := Lib.hid hsep
            have HB := Lib.hid hb
            have HFD := Lib.hid hFd
            have HOD := Lib.hid hOd
            have hltF := hF.lt
            have hltO := hO.lt
            obtain ⟨qf, cqf, rfl⟩ := hF.sl
            obtain ⟨qo, cqo, rfl⟩ := hO.sl
            have hBw : Below W1.heap.size W1 wr := HB4.out.trans (hb.mono (by omega))
            have HBw := Lib.hid hBw
            clear hF hO hsep hFd hOd hb
            by_cases hlt : k < nS
            · have kB := cell?_row (i := k) ((row?_below HB.out (show W1.heap.size < W4.heap.size by omega)).trans HRB4.out)
              rw [rowB_get _ hlt] at kB
              obtain ⟨bl, offl, cl', y, h1, hy, hcy⟩ := HVS.out.at (show k < LS.length by rw [← HNS.out]; exact hlt)
              rw [← HNS.out] at h1
              simp only [Value.slice.injEq] at h1
              obtain ⟨rfl, -, rfl⟩ := h1
              have hcs := hcy wr hBw
              have k3 := cell?_row (i := 3) ((row?_below HB.out (show w.heap.size < W4.heap.size by omega)).trans HR4.out)
              simp at k3
              have hgd : LS.getD k 0 = y := by rw [List.getD_eq_getElem?_getD, hy]; rfl
              have hsf := HSF.out
              have hso := HSO.out
              rw [hgd] at hsf hso
              have HCY := Lib.hid hcy
              clear hy hcy hgd HSF HSO
              cases htb : decide ((k : Int) ∈ A ++ B) with
              | false =>
                rw [htb] at kB hsf hso
                simp only [Bool.false_and, Bool.false_eq_true, if_false, List.append_nil] at hsf hso
                have HSF := Lib.hid hsf
                have HSO := Lib.hid hso
                clear hsf hso
                go_wp2_with fail
                go_roundw
                case rel => exact ⟨k + 1, by omega, by go_num, by rw [HSF.out]; exact HF.out, by rw [HSO.out]; exact HO.out, HSep.out, HB.out⟩
                case measure => simp [intOf]; omega
              | true =>
                rw [htb] at kB hsf hso
                by_cases hy0 : y < 0
                · have hy1 : ¬ (0 ≤ y) := by omega
                  rw [decide_eq_true hy0] at hsf
                  rw [decide_eq_false hy1] at hso
                  simp only [Bool.and_self, Bool.and_false, Bool.false_eq_true, if_false, if_true, List.append_nil] at hsf hso
                  have HSF := Lib.hid hsf
                  have HSO := Lib.hid hso
                  clear hsf hso
                  go_wp2_with (at_builtin; refine wpList_appT2 rfl 34 undI _ _ rfl W4.heap.size _ F rfl (HF.out.alloc _) _ (k : Int) _ rfl (by simp [go_sem]) (by omega) (by simp; omega) ?_)
                  intro v5 w5 hO5 hb5 hg5 hl5
                  have hs5 : wr.heap.size ≤ w5.heap.size := by have := hb5.size; simp at this; omega
                  have hO5' : OwnI W4.heap.size w5 (.slice qo O.length cqo) O := HO.out.same fun g hg' => (hg5.block g (by simp; have := hltO g hg'; omega) (fun e => HSep.out g e.symm hg')).trans (Below.heap_alloc _ _ _ (hltO g hg'))
                  have hsep5 : ∀ g, v5.ownBlock = some g → (Value.slice qo O.length cqo).ownBlock ≠ some g := fun g hg' h2 => by
                    rcases hl5 with e | e
                    · exact HSep.out g (e ▸ hg') h2
                    · rw [e] at hg'
                      have := hltO g h2
                      simp at hg'
                      omega
                  have hB5 : Below W4.heap.size W4 w5 := (HB.out.alloc hsz _).trans hb5
                  have kB5 := cell?_row (i := k) ((row?_below hB5 (show W1.heap.size < W4.heap.size by omega)).trans HRB4.out)
                  rw [rowB_get _ hlt, htb] at kB5
                  have hcs5 := HCY.out w5 (HB4.out.trans (hB5.mono (by omega)))
                  have k35 := cell?_row (i := 3) ((row?_below hB5 (show w.heap.size < W4.heap.size by omega)).trans HR4.out)
                  simp at k35
                  obtain ⟨q5, c5, rfl⟩ := hO5.sl
                  have HF5 := Lib.hid hO5
                  have HO5 := Lib.hid hO5'
                  have HSep5 := Lib.hid hsep5
                  have HB5 := Lib.hid hB5
                  clear hO5 hb5 hg5 hl5 hO5' hsep5 hltF hltO hB5 kB hcs k3
                  rw [List.length_append] at HF5 HSep5 ⊢
                  go_wp2_with fail
                  go_roundw
                  case rel => exact ⟨k + 1, by omega, by go_num, by rw [HSF.out]; exact HF5.out, by rw [HSO.out]; exact HO5.out, HSep5.out, HB5.out⟩
                  case measure => simp [intOf]; omega
                · have hy1 : 0 ≤ y := by omega
                  rw [decide_eq_false hy0] at hsf
                  rw [decide_eq_true hy1] at hso
                  simp only [Bool.and_self, Bool.and_false, Bool.false_eq_true, if_false, if_true, List.append_nil] at hsf hso
                  have HSF := Lib.hid hsf
                  have HSO := Lib.hid hso
                  clear hsf hso
                  go_wp2_with (at_builtin; refine wpList_appT2 rfl 34 undI _ _ rfl W4.heap.size _ O rfl (HO.out.alloc _) _ y _ rfl (by simp [go_sem]) (by omega) (by simp; omega) ?_)
                  intro v5 w5 hO5 hb5 hg5 hl5
                  have hs5 : wr.heap.size ≤ w5.heap.size := by have := hb5.size; simp at this; omega
                  have hO5' : OwnI W4.heap.size w5 (.slice qf F.length cqf) F := HF.out.same fun g hg' => (hg5.block g (by simp; have := hltF g hg'; omega) (fun e => HSep.out g hg' e.symm)).trans (Below.heap_alloc _ _ _ (hltF g hg'))
                  have hsep5 : ∀ g, (Value.slice qf F.length cqf).ownBlock = some g → v5.ownBlock ≠ some g := fun g hg' h2 => by
                    rcases hl5 with e | e
                    · exact HSep.out g hg' (e ▸ h2)
                    · rw [e] at h2
                      have := hltF g hg'
                      simp at h2
                      omega
                  have hB5 : Below W4.heap.size W4 w5 := (HB.out.alloc hsz _).trans hb5
                  obtain ⟨q5, c5, rfl⟩ := hO5.sl
                  have HO5 := Lib.hid hO5
                  have HF5 := Lib.hid hO5'
                  have HSep5 := Lib.hid hsep5
                  have HB5 := Lib.hid hB5
                  clear hO5 hb5 hg5 hl5 hO5' hsep5 hltF hltO hB5 kB hcs k3
                  rw [List.length_append] at HO5 HSep5 ⊢
                  go_wp2_with fail
                  go_roundw
                  case rel => exact ⟨k + 1, by omega, by go_num, by rw [HSF.out]; exact HF5.out, by rw [HSO.out]; exact HO5.out, HSep5.out, HB5.out⟩
                  case measure => simp [intOf]; omega
            · have HKE := Lib.hid (show k = LS.length by rw [← HNS.out]; omega)
              have HVF := Lib.hid HF.out.rdl
              have HVO := Lib.hid HO.out.rdl
              have HVA5 := Lib.hid (HVA4.out.below HB.out)
              have HVB5 := Lib.hid (HVB4.out.below HB.out)
              have HBF := Lib.hid (HB1.out.trans (HBw.out.mono (by omega)))
              clear hltF hltO HVA4 HVB4 HSep HO HF
              go_wp2_with fail
              refine bodyPost_ret (v := .tuple #[va, vb, .slice qf F.length cqf, .slice qo O.length cqo]) (by simp [results, Tryz.results11, go_sem]) rfl ?_
              refine ⟨_, _, _, _, rfl, ?_, ?_, ?_, ?_, HBF.out⟩
              · rw [← HAD.out]; exact HVA5.out
              · rw [← HAD2.out]; exact HVB5.out
              · have := HVF.out
                rw [HFD.out, HKE.out] at this
                rw [HFD.out, HKE.out, ← HAD.out, ← HAD2.out, HNS.out]
                exact this
              · have := HVO.out
                rw [HOD.out, HKE.out] at this
                rw [HOD.out, HKE.out, ← HAD.out, ← HAD2.out, HNS.out]
                exact this
end Go.Proofs.YtoiefehkfhkhbaaGreatDoor
namespace Go.Pal
open Go
/-- A cluster has no parts just if it is a leaf; else one or two. -/
def Knd (x : TNd) : Prop := (x.kind = 0 ∧ x.kids = []) ∨ (x.kind ≠ 0 ∧ ∃ p rest, x.kids = p :: rest ∧ rest.length ≤ 1)
theorem Cl.knd {T : List Bg} {m : Md} {l : List Tr} {c : Ct} (h : Cl T m l c) : ∀ b, ∀ x ∈ c.flat b, Knd x := by
  induction h with
  | item0 _ =>
    intro b x hx
    simp only [Ct.flat, Ct.flats, Ct.tops, List.nil_append, List.append_nil, List.mem_append, List.mem_singleton] at hx
    rcases hx with rfl | rfl
    · exact .inl ⟨rfl, rfl⟩
    · exact .inr ⟨by simp, _, _, rfl, by simp⟩
  | item1 _ _ ih =>
    intro b x hx
    simp only [Ct.flat, Ct.flats, Ct.tops, List.nil_append, List.append_nil, List.mem_append, List.mem_singleton] at hx
    rcases hx with (rfl | hx) | rfl
    · exact .inl ⟨rfl, rfl⟩
    · exact ih _ x hx
    · exact .inr ⟨by simp, _, _, rfl, by simp⟩
  | path _ _ _ ih1 ih2 =>
    intro b x hx
    simp only [Ct.flat, Ct.flats, Ct.tops, List.append_nil, List.mem_append, List.mem_singleton] at hx
    rcases hx with (hx | hx) | rfl
    · exact ih1 _ x hx
    · exact ih2 _ x hx
    · exact .inr ⟨by simp, _, _, rfl, by simp⟩
  | single _ _ ih => exact ih
  | rake _ _ ih1 ih2 =>
    intro b x hx
    simp only [Ct.flat, Ct.flats, Ct.tops, List.append_nil, List.mem_append, List.mem_singleton] at hx
    rcases hx with (hx | hx) | rfl
    · exact ih1 _ x hx
    · exact ih2 _ x hx
    · exact .inr ⟨by simp, _, _, rfl, by simp⟩
theorem kids_two {fl : List TNd} {c : Ct} (hfl : fl = c.flat 0) {i : Nat} {x : TNd} (hx : fl[i]? = some x) (hK : Knd x) (h0 : x.kind ≠ 0) :
    ∃ p rest y B, x.kids = p :: rest ∧ fl[p]? = some y ∧ ((rest = [] ∧ B = 0) ∨ ∃ q z, rest = [q] ∧ fl[q]? = some z ∧ B = z.bnd) := by
  obtain ⟨p, rest, hk, hr⟩ : ∃ p rest, x.kids = p :: rest ∧ rest.length ≤ 1 := by
    rcases hK with ⟨h, _⟩ | ⟨_, h⟩
    · exact absurd h h0
    · exact h
  have hil := (List.getElem?_eq_some_iff.1 hx).1
  have hkid : ∀ j ∈ x.kids, ∃ y, fl[j]? = some y := fun j hj => by
    have := Ct.flat_kids 0 c i x (by rw [← hfl]; exact hx) j hj
    exact ⟨_, List.getElem?_eq_getElem (by omega)⟩
  obtain ⟨y, hy⟩ := hkid p (by rw [hk]; simp)
  match rest, hr with
  | [], _ => exact ⟨p, [], y, 0, hk, hy, .inl ⟨rfl, rfl⟩⟩
  | [q], _ =>
    obtain ⟨z, hz⟩ := hkid q (by rw [hk]; simp)
    exact ⟨p, [q], y, z.bnd, hk, hy, .inr ⟨q, z, rfl, hz, rfl⟩⟩
theorem pl_in {A U : Nat} (hU : IsSet U) (h : ∀ n, A.testBit n = true → U.testBit n = true) : ∀ x ∈ (elemsI A).map (plI (elemsI U)), 0 ≤ x ∧ x < ((elemsI U).length : Int) := by
  intro x hx
  obtain ⟨e, he, rfl⟩ := List.mem_map.1 hx
  obtain ⟨n, rfl, _, hb⟩ := elemsI_nat he
  obtain ⟨h1, h2, h3⟩ := plI_lt (elemsI U) (n : Int)
  refine ⟨?_, h1⟩
  rcases Int.lt_or_le (plI (elemsI U) (n : Int)) 0 with h4 | h4
  · exact absurd ((mem_elemsI hU).2 (h n hb)) (h3.1 h4)
  · exact h4
end Go.Pal
namespace Go.Proofs.YtoiefehkfhkhbaaGreatDoor
open Go Go.RowKit Go.Pal Go.Shelf

set_option maxRecDepth 20000 in
set_option maxHeartbeats 10000000 in
theorem merges_any (hKnown : ∀ w, Tabs w → Calls Tryz.prog 5 #[] w fun e w' => e = .returned (.bool true) ∧ Below w.heap.size w w') (T : List Bg) (v : Value) (m1 m2 : Nat) (hm1 : m1 < 65536) (hm2 : m2 < 65536) (w : World) (hv : Rd bagA 17 w.heap.size w v T) (hcap : capOk v) (hlen : T.length ≤ 9223372036854775807) (hS : ∀ x ∈ T, IsSet x.2) (hp : ∀ x ∈ T, -9223372036854775808 ≤ x.1 ∧ x.1 ≤ 9223372036854775807) (hT : Tabs w) :
    Calls Tryz.prog 3 #[v, .int .u16 (m1 : Int), .int .u16 (m2 : Int)] w fun e w' => e = .returned (.bool true) ∧ Below w.heap.size w w' := by
  have HM := Lib.hid (made_any T v w hv hcap hlen hS hp hT)
  have HK := Lib.hid hKnown
  have HT := Lib.hid hT
  have HS := Lib.hid hS
  obtain ⟨va, vc, rfl, -⟩ := hv
  clear hcap hS hp hT hKnown
  go_enter Tryz.func3, Tryz.ntmps3
  go_wp2_with fail
  refine HM.out.mono ?_
  rintro e w1 ⟨hM1, hb1⟩
  have HB1 := Lib.hid hb1
  have HT1 := Lib.hid (HT.out.on hb1)
  clear hb1 HM
  rcases hM1 with ⟨tv, rfl⟩ | ⟨gf, gt, tv, t, l, c, rfl, h24, hVal, hnd, hl, hc, hcs, hF, hO, hR⟩
  · go_wp2_with fail
    refine (HK.out w1 HT1.out).mono ?_
    rintro e w2 ⟨rfl, hb2⟩
    have HB2 := Lib.hid (HB1.out.trans (hb2.mono HB1.out.size))
    have HT2 := Lib.hid (HT1.out.on hb2)
    clear hb2 HB1
    go_wp2_with fail
    refine (HK.out w2 HT2.out).mono ?_
    rintro e w3 ⟨rfl, hb3⟩
    have HB3 := Lib.hid (HB2.out.trans (hb3.mono HB2.out.size))
    clear hb3 HB2
    go_wp2_with fail
    go_ret
    exact ⟨rfl, HB3.out⟩
  · have HVal := Lib.hid hVal
    have HND := Lib.hid hnd
    have HL := Lib.hid hl
    have HC := Lib.hid hc
    have HF := Lib.hid hF
    have HO := Lib.hid hO
    have HR := Lib.hid hR
    obtain ⟨ta, tc, rfl⟩ : ∃ a c, tv = .slice a T.length c := by obtain ⟨a, c, h, -⟩ := hR; exact ⟨a, c, h⟩
    clear hVal hnd hl hc hF hO hR
    go_wp2_with fail
    refine (HK.out w1 HT1.out).mono ?_
    rintro e w2 ⟨rfl, hb2⟩
    have HB2 := Lib.hid (HB1.out.trans (hb2.mono HB1.out.size))
    have HO2 := Lib.hid (HO.out.below hb2)
    have HR2 := Lib.hid (HR.out.below hb2)
    clear hb2 HB1 HO HR HF
    go_wp2_with fail
    refine (r46new_any T t HVal.out _ w2 HR2.out l HL.out c HC.out hcs).mono ?_
    rintro e w3 ⟨lv, M, rfl, hN3, hM3, hb3⟩
    obtain ⟨fl, hfl⟩ : ∃ fl, fl = c.flat 0 := ⟨_, rfl⟩
    have hflen : fl.length = c.sz := by rw [hfl, Ct.flat_length]
    have hRN : RefN w3 lv fl := ⟨_, M, hN3, by rw [hM3, hfl]⟩
    have hO3 := HO2.out.below hb3
    rw [← hfl] at hO3
    have hKND : ∀ x ∈ fl, Knd x := by rw [hfl]; exact HC.out.knd 0
    have hn100 : fl.length ≤ 100000 := by omega
    have HTW := fun (i : Nat) (x : TNd) (hx : fl[i]? = some x) (h0 : x.kind ≠ 0) => kids_two hfl hx (hKND x (List.mem_of_getElem? hx)) h0
    have HTWO := Lib.hid HTW
    obtain ⟨la, lc, rfl⟩ := hRN.sl
    have HRN := Lib.hid hRN
    have HO3 := Lib.hid hO3
    have HKND := Lib.hid hKND
    have HB3 := Lib.hid (HB2.out.trans (hb3.mono HB2.out.size))
    have HT3 := Lib.hid (HT.out.on HB3.out)
    clear hN3 hM3 hb3 hfl hflen hRN hO3 hKND HTW HB2 HO2 HR2 HT1 HT HK HS HVal HND HL HC hcs
    go_wp2_with fail
    go_loopw [12] (fun i wr => ∃ k : Nat, k ≤ fl.length + 2 ∧ i = .int .i64 ((k : Int) - 1) ∧ TtOk wr gt gf T t fl ∧ RefN wr (.slice la fl.length lc) fl ∧ Tabs wr ∧ Below w.heap.size w wr) (fun i _ => fl.length + 2 - (intOf i + 1).toNat)
    case atStart => exact ⟨0, by omega, rfl, HO3.out, HRN.out, HT3.out, HB3.out⟩
    case round =>
      obtain ⟨k, hk, rfl, hO, hRN, hT, hb⟩ := hrel
      have hsz := hb.size
      have HOr := Lib.hid hO
      have HRr := Lib.hid hRN
      have HBr := Lib.hid hb
      have HTr := Lib.hid hT
      clear hO hRN hb hT HO3 HRN HB3 HT3
      by_cases hlt : k < fl.length + 2
      · by_cases hin : 1 ≤ k ∧ k - 1 < fl.length
        · obtain ⟨i, rfl⟩ : ∃ i, k = i + 1 := ⟨k - 1, by omega⟩
          have hil : i < fl.length := by omega
          rw [show (((i + 1 : Nat) : Int) - 1) = (i : Int) by omega]
          obtain ⟨gr, cr, x, qp, cp, qh, ch, hv2, hx, hcc⟩ := HRr.out.at hil
          simp only [Value.slice.injEq] at hv2
          obtain ⟨rfl, -, rfl⟩ := hv2
          have HX := Lib.hid hx
          have HCC := Lib.hid hcc
          by_cases hk0 : x.kind = 0
          · have hkids : x.kids = [] := by
              rcases HKND.out x (List.mem_of_getElem? hx) with ⟨_, h⟩ | ⟨h, _⟩
              · exact h
              · exact absurd hk0 h
            have hM := Lib.hid (tmerge_bad gt gf T t fl wr HOr.out (i : Int) (.inr ⟨i, x, rfl, hx, hkids⟩))
            have hk0' : (x.kind : Int) = 0 := by rw [hk0]; rfl
            clear hx hcc hkids hk0
            go_wp2_with fail
            refine hM.out.mono ?_
            rintro e w2 ⟨rfl, hb2⟩
            have hs2 := hb2.size
            have HO2 := Lib.hid (HOr.out.below hb2)
            have HR2 := Lib.hid (HRr.out.below hb2)
            have HB2 := Lib.hid (HBr.out.trans (hb2.mono hsz))
            have HT2 := Lib.hid (HTr.out.on hb2)
            have kk := (HCC.out (w2.alloc (Obj.cells #[.slice none 0 0, .slice none 0 0, .slice none 0 0, .slice none 0 0] 36)) (hb2.alloc hs2 _)).1
            rw [hk0'] at kk
            clear hb2 hM HOr HRr HBr HTr HCC
            have HB2a := Lib.hid ((Below.refl _ w2).alloc (Nat.le_refl _) (Obj.cells #[.slice none 0 0, .slice none 0 0, .slice none 0 0, .slice none 0 0] 36))
            have hsw := HB2.out.size
            clear hk0'
            go_wp2_with fail
            go_roundw
            case rel => exact ⟨i + 2, by omega, by go_num, HO2.out.below HB2a.out, HR2.out.below HB2a.out, HT2.out.on HB2a.out, HB2.out.trans (HB2a.out.mono hsw)⟩
            case measure => simp [intOf]; omega
          · obtain ⟨p, rest, y, B, hkids, hy, hrest⟩ := HTWO.out i x hx hk0
            have hzS := fun (j : Nat) (z : TNd) (hz : fl[j]? = some z) => (show IsSet z.bnd by
              obtain ⟨_, _, z', _, _, _, _, -, hz', hcz⟩ := HRr.out.at (List.getElem?_eq_some_iff.1 hz).1
              rw [hz] at hz'
              cases hz'
              exact (hcz wr (Below.refl _ _)).2.2.2.2.2.2)
            have hset : ∀ x ∈ fl, IsSet x.bnd := fun z hz => by
              obtain ⟨j, hj⟩ := List.mem_iff_getElem?.1 hz
              exact hzS j z hj
            have hxS := hzS i x hx
            have hyS := hzS p y hy
            have hBS : IsSet B := by
              rcases hrest with ⟨-, rfl⟩ | ⟨q, z, -, hz, rfl⟩
              · exact isSet_zero
              · exact hzS q z hz
            have hM := Lib.hid (tmerge_any gt gf T t fl wr HOr.out HTr.out.1 HTr.out.2 hset i p rest x y hx hkids hy B hrest)
            have HStep := Lib.hid fun W (h : RefN W (.slice (some ⟨gr, 0, none⟩) fl.length lc) fl) => rstep_any fl _ W h i p rest x y hx hkids hy B hrest
            obtain ⟨U, hU⟩ : ∃ U, U = y.bnd ||| B := ⟨_, rfl⟩
            have hUS : IsSet U := by rw [hU]; exact isSet_or hyS hBS
            have hyU : ∀ n, y.bnd.testBit n = true → U.testBit n = true := fun n hn => by rw [hU, Nat.testBit_or, hn]; rfl
            have hBU : ∀ n, B.testBit n = true → U.testBit n = true := fun n hn => by rw [hU, Nat.testBit_or, hn]; simp
            rw [← hU] at hM HStep
            have hin1 := pl_in hUS hyU
            have hin2 := pl_in hUS hBU
            obtain ⟨LL, hLL⟩ : ∃ LL, LL = (elemsI y.bnd).map (plI (elemsI U)) := ⟨_, rfl⟩
            obtain ⟨LR, hLR⟩ : ∃ LR, LR = (elemsI B).map (plI (elemsI U)) := ⟨_, rfl⟩
            obtain ⟨LS, hLS⟩ : ∃ LS, LS = (elemsI U).map (plI (elemsI x.bnd)) := ⟨_, rfl⟩
            have hll : LL.length ≤ 1024 := by rw [hLL, List.length_map]; exact elemsI_length _
            have hlr : LR.length ≤ 1024 := by rw [hLR, List.length_map]; exact elemsI_length _
            have hlse : LS.length = (elemsI U).length := by rw [hLS, List.length_map]
            have hls : LS.length ≤ 2048 := by rw [hlse]; exact Nat.le_trans (elemsI_length _) (by omega)
            rw [← hLL, ← hlse] at hin1
            rw [← hLR, ← hlse] at hin2
            rw [← hLL, ← hLR, ← hLS, ← hlse] at hM HStep
            have HIN1 := Lib.hid hin1
            have HIN2 := Lib.hid hin2
            have hkn : ((x.kind : Int) == 0) = false := by simp; omega
            have hkn2 : ((x.kind : Int) != 0) = true := by simp [bne]; omega
            clear hx hcc hy hkids hrest hzS hset hxS hyS hBS hU hUS hyU hBU hLL hLR hLS hlse hin1 hin2 hk0
            go_wp2_with fail
            refine hM.out.mono ?_
            rintro e w2 ⟨u1, u2, u3, u4, rfl, hu1, hu2, hu3, hu4, hb2⟩
            have hs2 := hb2.size
            have HU1 := Lib.hid hu1
            have HU2 := Lib.hid hu2
            have HU3 := Lib.hid hu3
            have HU4 := Lib.hid hu4
            obtain ⟨p1, c1, rfl⟩ := hu1.sl
            obtain ⟨p2, c2, rfl⟩ := hu2.sl
            obtain ⟨p3, c3, rfl⟩ := hu3.sl
            obtain ⟨p4, c4, rfl⟩ := hu4.sl
            have HO2 := Lib.hid (HOr.out.below hb2)
            have HR2 := Lib.hid (HRr.out.below hb2)
            have HB2 := Lib.hid (HBr.out.trans (hb2.mono hsz))
            have HT2 := Lib.hid (HTr.out.on hb2)
            obtain ⟨nf, hnf⟩ : ∃ nf, nf = (negsTo LS LS.length).length := ⟨_, rfl⟩
            rw [← hnf] at HU3 ⊢
            have kk := (HCC.out (w2.alloc (Obj.cells #[.slice p1 LL.length c1, .slice p2 LR.length c2, .slice p3 nf c3, .slice p4 LS.length c4] 36)) (hb2.alloc hs2 _)).1
            have HNF0 := Lib.hid hnf
            clear hu1 hu2 hu3 hu4 hb2 hM HOr HRr HBr HTr hnf
            go_wp2_with fail
            obtain ⟨Wa, hWa⟩ : ∃ Wa, Wa = w2.alloc (Obj.cells #[.slice p1 LL.length c1, .slice p2 LR.length c2, .slice p3 nf c3, .slice p4 LS.length c4] 36) := ⟨_, rfl⟩
            have hba : Below w2.heap.size w2 Wa := by rw [hWa]; exact (Below.refl _ _).alloc (Nat.le_refl _) _
            have hsa : w2.heap.size < Wa.heap.size := by rw [hWa]; simp
            have hra : row? Wa w2.heap.size = some #[.slice p1 LL.length c1, .slice p2 LR.length c2, .slice p3 nf c3, .slice p4 LS.length c4] := by rw [hWa]; exact row?_alloc_at _ _ _ _ rfl
            rw [← hWa]
            have HBa := Lib.hid hba
            have HRa := Lib.hid hra
            clear hWa hba hra kk
            refine (HStep.out Wa (HR2.out.below HBa.out)).mono ?_
            rintro e w3 ⟨s1, s2, s3, s4, rfl, hv1, hv2, hv3, hv4, hb3⟩
            have hs3 := hb3.size
            obtain ⟨r1, d1, rfl⟩ := hv1.sl
            obtain ⟨r2, d2, rfl⟩ := hv2.sl
            obtain ⟨r3, d3, rfl⟩ := hv3.sl
            obtain ⟨r4, d4, rfl⟩ := hv4.sl
            obtain ⟨LF, hLF⟩ : ∃ LF, LF = negsTo LS LS.length := ⟨_, rfl⟩
            have hlf : LF.length ≤ 2048 := by rw [hLF]; exact Nat.le_trans (negsTo_length _ _) hls
            have hnf : nf = LF.length := by rw [HNF0.out, hLF]
            rw [← hLF] at hv3 HU3 ⊢
            subst hnf
            obtain ⟨Wb, hWb⟩ : ∃ Wb, Wb = w3.alloc (Obj.cells #[.slice r1 LL.length d1, .slice r2 LR.length d2, .slice r3 LF.length d3, .slice r4 LS.length d4] 43) := ⟨_, rfl⟩
            have hbb : Below w3.heap.size w3 Wb := by rw [hWb]; exact (Below.refl _ _).alloc (Nat.le_refl _) _
            have hsb : w3.heap.size < Wb.heap.size := by rw [hWb]; simp
            have hrb : row? Wb w3.heap.size = some #[.slice r1 LL.length d1, .slice r2 LR.length d2, .slice r3 LF.length d3, .slice r4 LS.length d4] := by rw [hWb]; exact row?_alloc_at _ _ _ _ rfl
            have hab : Below Wa.heap.size Wa Wb := hb3.trans (hbb.mono hs3)
            have hraW : ∀ W, Below Wb.heap.size Wb W → row? W w2.heap.size = some #[.slice p1 LL.length c1, .slice p2 LR.length c2, .slice p3 LF.length c3, .slice p4 LS.length c4] := fun W h => (row?_below h (by omega)).trans ((row?_below hab (by omega)).trans HRa.out)
            have hrbW : ∀ W, Below Wb.heap.size Wb W → row? W w3.heap.size = some #[.slice r1 LL.length d1, .slice r2 LR.length d2, .slice r3 LF.length d3, .slice r4 LS.length d4] := fun W h => (row?_below h (by omega)).trans hrb
            have hF : ∀ W, Below Wb.heap.size Wb W → W.cell? ⟨w2.heap.size, 0, none⟩ = some (.slice p1 LL.length c1) ∧ W.cell? ⟨w2.heap.size, 1, none⟩ = some (.slice p2 LR.length c2) ∧ W.cell? ⟨w2.heap.size, 2, none⟩ = some (.slice p3 LF.length c3) ∧ W.cell? ⟨w2.heap.size, 3, none⟩ = some (.slice p4 LS.length c4) ∧
                W.cell? ⟨w3.heap.size, 0, none⟩ = some (.slice r1 LL.length d1) ∧ W.cell? ⟨w3.heap.size, 1, none⟩ = some (.slice r2 LR.length d2) ∧ W.cell? ⟨w3.heap.size, 2, none⟩ = some (.slice r3 LF.length d3) ∧ W.cell? ⟨w3.heap.size, 3, none⟩ = some (.slice r4 LS.length d4) := fun W h =>
              ⟨(cell?_row (hraW W h)).trans rfl, (cell?_row (hraW W h)).trans rfl, (cell?_row (hraW W h)).trans rfl, (cell?_row (hraW W h)).trans rfl, (cell?_row (hrbW W h)).trans rfl, (cell?_row (hrbW W h)).trans rfl, (cell?_row (hrbW W h)).trans rfl, (cell?_row (hrbW W h)).trans rfl⟩
            have h2b : Below w2.heap.size w2 Wb := HBa.out.trans (hab.mono (by omega))
            have HL1 := Lib.hid fun W (h : Below Wb.heap.size Wb W) => HU1.out.below (h2b.trans (h.mono (by omega)))
            have HL2 := Lib.hid fun W (h : Below Wb.heap.size Wb W) => HU2.out.below (h2b.trans (h.mono (by omega)))
            have HL3 := Lib.hid fun W (h : Below Wb.heap.size Wb W) => HU3.out.below (h2b.trans (h.mono (by omega)))
            have HL4 := Lib.hid fun W (h : Below Wb.heap.size Wb W) => HU4.out.below (h2b.trans (h.mono (by omega)))
            have HS1 := Lib.hid fun W (h : Below Wb.heap.size Wb W) => hv1.below (hbb.trans (h.mono (by omega)))
            have HS2 := Lib.hid fun W (h : Below Wb.heap.size Wb W) => hv2.below (hbb.trans (h.mono (by omega)))
            have HS3 := Lib.hid fun W (h : Below Wb.heap.size Wb W) => hv3.below (hbb.trans (h.mono (by omega)))
            have HS4 := Lib.hid fun W (h : Below Wb.heap.size Wb W) => hv4.below (hbb.trans (h.mono (by omega)))
            have HOb := Lib.hid (HO2.out.below h2b)
            have HRb := Lib.hid (HR2.out.below h2b)
            have HTb := Lib.hid (HT2.out.on h2b)
            have HBb := Lib.hid (HB2.out.trans (h2b.mono HB2.out.size))
            have HFF := Lib.hid hF
            have HRAW := Lib.hid hraW
            have HRBW := Lib.hid hrbW
            have HLF := Lib.hid hLF
            have HB0 := Lib.hid (Below.refl Wb.heap.size Wb)
            have hk := hF Wb (Below.refl _ _)
            rw [hWb] at hk
            obtain ⟨k1, k2, k3, k4, -⟩ := hk
            have HWB := Lib.hid hWb
            have hsw := HBb.out.size
            clear hv1 hv2 hv3 hv4 hb3 hbb hrb hab hraW hrbW hF h2b HU1 HU2 HU3 HU4 HO2 HR2 HT2 HB2 HBa HRa HStep hLF hWb
            go_wp2_with fail
            rw [← HWB.out]
            clear k1 k2 k3 k4 HWB
            refine (ints_any _ _ _ _ _ (HL1.out _ HB0.out) (HS1.out _ HB0.out) (by omega)).mono ?_
            rintro e w4 ⟨rfl, hbx⟩
            rw [decide_eq_true rfl]
            have HB4 := Lib.hid (HB0.out.trans (hbx.mono HB0.out.size))
            clear hbx
            obtain ⟨k1, k2, k3, k4, k5, k6, k7, k8⟩ := HFF.out _ HB4.out
            go_wp2_with fail
            clear k1 k2 k3 k4 k5 k6 k7 k8
            refine (ints_any _ _ _ _ _ (HL2.out _ HB4.out) (HS2.out _ HB4.out) (by omega)).mono ?_
            rintro e w5 ⟨rfl, hbx⟩
            rw [decide_eq_true rfl]
            have HB5 := Lib.hid (HB4.out.trans (hbx.mono HB4.out.size))
            clear hbx
            obtain ⟨k1, k2, k3, k4, k5, k6, k7, k8⟩ := HFF.out _ HB5.out
            go_wp2_with fail
            clear k1 k2 k3 k4 k5 k6 k7 k8
            refine (ints_any _ _ _ _ _ (HL3.out _ HB5.out) (HS3.out _ HB5.out) (by omega)).mono ?_
            rintro e w6 ⟨rfl, hbx⟩
            rw [decide_eq_true rfl]
            have HB6 := Lib.hid (HB5.out.trans (hbx.mono HB5.out.size))
            clear hbx
            obtain ⟨k1, k2, k3, k4, k5, k6, k7, k8⟩ := HFF.out _ HB6.out
            go_wp2_with fail
            clear k1 k2 k3 k4 k5 k6 k7 k8
            refine (ints_any _ _ _ _ _ (HL4.out _ HB6.out) (HS4.out _ HB6.out) (by omega)).mono ?_
            rintro e w7 ⟨rfl, hbx⟩
            rw [decide_eq_true rfl]
            have HB7 := Lib.hid (HB6.out.trans (hbx.mono HB6.out.size))
            clear hbx
            have hrm := HRAW.out _ HB7.out
            go_wp2_with fail
            clear hrm
            have hf7 : RdL w7 (.slice p3 LF.length c3) (negsTo LS LS.length) := by rw [← HLF.out]; exact HL3.out _ HB7.out
            refine (lists_any LL LR LS _ _ _ _ m1 m2 w7 (HL1.out _ HB7.out) (HL2.out _ HB7.out) hf7 (HL4.out _ HB7.out) hm1 hm2 hll hlr hls HIN1.out HIN2.out).mono ?_
            clear hf7
            rintro e w8 ⟨t1, t2, t3, t4, rfl, ht1, ht2, ht3, ht4, hb8⟩
            have HB8 := Lib.hid (HB7.out.trans (hb8.mono HB7.out.size))
            have HT1 := Lib.hid ht1
            have HT2 := Lib.hid ht2
            have HT3 := Lib.hid ht3
            have HT4 := Lib.hid ht4
            have hrm := HRBW.out _ HB8.out
            clear ht1 ht2 ht3 ht4 hb8
            go_wp2_with fail
            clear hrm
            refine (rof_any LL LR LF LS _ _ _ _ m1 m2 w8 (HS1.out _ HB8.out) (HS2.out _ HB8.out) (HS3.out _ HB8.out) (HS4.out _ HB8.out) hm1 hm2 hll hlr hls HIN1.out HIN2.out).mono ?_
            rintro e w9 ⟨y1, y2, y3, y4, rfl, hy1, hy2, hy3, hy4, hb9⟩
            have HB9 := Lib.hid (HB8.out.trans (hb9.mono HB8.out.size))
            have HT1 := Lib.hid (HT1.out.below hb9)
            have HT2 := Lib.hid (HT2.out.below hb9)
            have HT3 := Lib.hid (HT3.out.below hb9)
            have HT4 := Lib.hid (HT4.out.below hb9)
            have HY1 := Lib.hid hy1
            have HY2 := Lib.hid hy2
            have HY3 := Lib.hid hy3
            have HY4 := Lib.hid hy4
            have m1l := maskTo_length m1 LL LL.length
            have m2l := maskTo_length m2 LR LR.length
            have m3l := goneTo_length (maskTo m1 LL LL.length) (maskTo m2 LR LR.length) LS LS.length
            have m4l := keptTo_length (maskTo m1 LL LL.length) (maskTo m2 LR LR.length) LS LS.length
            have HC9 := Lib.hid (Below.refl w9.heap.size w9)
            clear hy1 hy2 hy3 hy4 hb9 HL1 HL2 HL3 HL4 HS1 HS2 HS3 HS4 HFF HRAW HRBW HB0 HB4 HB5 HB6 HB7 HB8
            go_wp2_with fail
            refine (ints_any _ _ _ _ _ (HT1.out) (HY1.out) (by omega)).mono ?_
            rintro e wi ⟨rfl, hbx⟩
            rw [decide_eq_true rfl]
            have HCi := Lib.hid (HC9.out.trans (hbx.mono HC9.out.size))
            clear hbx
            skip
            go_wp2_with fail
            refine (ints_any _ _ _ _ _ (HT2.out.below HCi.out) (HY2.out.below HCi.out) (by omega)).mono ?_
            rintro e wj ⟨rfl, hbx⟩
            rw [decide_eq_true rfl]
            have HCj := Lib.hid (HCi.out.trans (hbx.mono HCi.out.size))
            clear hbx
            skip
            go_wp2_with fail
            refine (ints_any _ _ _ _ _ (HT3.out.below HCj.out) (HY3.out.below HCj.out) (by omega)).mono ?_
            rintro e wk ⟨rfl, hbx⟩
            rw [decide_eq_true rfl]
            have HCk := Lib.hid (HCj.out.trans (hbx.mono HCj.out.size))
            clear hbx
            skip
            go_wp2_with fail
            refine (ints_any _ _ _ _ _ (HT4.out.below HCk.out) (HY4.out.below HCk.out) (by omega)).mono ?_
            rintro e wl ⟨rfl, hbx⟩
            rw [decide_eq_true rfl]
            have HCl := Lib.hid (HCk.out.trans (hbx.mono HCk.out.size))
            clear hbx
            skip
            go_wp2_with fail
            have HBl := Lib.hid (HB9.out.trans (HCl.out.mono HB9.out.size))
            go_roundw
            case rel => exact ⟨i + 2, by omega, by go_num, HOb.out.below HBl.out, HRb.out.below HBl.out, HTb.out.on HBl.out, HBb.out.trans (HBl.out.mono hsw)⟩
            case measure => simp [intOf]; omega
        · have hbad : ¬ (0 ≤ (k : Int) - 1 ∧ (k : Int) - 1 < (fl.length : Int)) := by omega
          have hM := Lib.hid (tmerge_bad gt gf T t fl wr HOr.out ((k : Int) - 1) (.inl hbad))
          have hlt' : (k : Int) - 1 ≤ (fl.length : Int) := by omega
          go_wp2_with fail
          refine hM.out.mono ?_
          rintro e w2 ⟨rfl, hb2⟩
          have hs2 := hb2.size
          have HO2 := Lib.hid (HOr.out.below hb2)
          have HR2 := Lib.hid (HRr.out.below hb2)
          have HB2 := Lib.hid (HBr.out.trans (hb2.mono hsz))
          have HT2 := Lib.hid (HTr.out.on hb2)
          have HB2a := Lib.hid ((Below.refl _ w2).alloc (Nat.le_refl _) (Obj.cells #[.slice none 0 0, .slice none 0 0, .slice none 0 0, .slice none 0 0] 36))
          have hsw := HB2.out.size
          clear hb2 hM HOr HRr HBr HTr
          rcases Nat.eq_zero_or_pos k with hk0 | hk0
          · subst hk0
            go_wp2_with fail
            go_roundw
            case rel => exact ⟨1, by omega, by simp, HO2.out.below HB2a.out, HR2.out.below HB2a.out, HT2.out.on HB2a.out, HB2.out.trans (HB2a.out.mono hsw)⟩
            case measure => simp [intOf]
          · have h5 : (0 : Int) ≤ (k : Int) - 1 := by omega
            have h6 : ¬ ((k : Int) - 1 < (fl.length : Int)) := by omega
            go_wp2_with fail
            go_roundw
            case rel => exact ⟨k + 1, by omega, by go_num, HO2.out.below HB2a.out, HR2.out.below HB2a.out, HT2.out.on HB2a.out, HB2.out.trans (HB2a.out.mono hsw)⟩
            case measure => simp [intOf]; omega
      · have hgt : ¬ ((k : Int) - 1 ≤ (fl.length : Int)) := by omega
        go_wp2_with fail
        go_ret
        exact ⟨rfl, HBr.out⟩
end Go.Proofs.YtoiefehkfhkhbaaGreatDoor
