/-
  Walks of package toptree: Depth.
-/
import Derived.Test.YtoboncfgogjllaaGreatDoorQTo13
namespace Go.Proofs.YtoboncfgogjllaaGreatDoor
open Go Go.RowKit Go.Pal Go.Shelf

/-- The depths of the last k clusters. -/
def dpK (U : Nat → Int) (n k : Nat) : Nat → Int := fun q => if n - k ≤ q then (dpt U n q : Int) else 0
theorem dpK_zero (U : Nat → Int) (n : Nat) : rowI (dpK U n 0) n = Array.replicate n (.int .i64 0) := by
  rw [← rowI_const]
  unfold rowI
  congr 1
  funext i
  have := i.isLt
  simp [dpK]
  omega
theorem dpK_succ {U : Nat → Int} {n k : Nat} (hk : k < n) : rowI (updI (dpK U n k) (n - 1 - k) (dpt U n (n - 1 - k) : Int)) n = rowI (dpK U n (k + 1)) n := by
  unfold rowI
  congr 1
  funext i
  have := i.isLt
  simp only [updI, dpK]
  by_cases h1 : i.val = n - 1 - k
  · rw [if_pos h1, if_pos (by omega), h1]
  · rw [if_neg h1]
    by_cases h2 : n - k ≤ i.val
    · rw [if_pos h2, if_pos (by omega)]
    · rw [if_neg h2, if_neg (by omega)]

set_option maxRecDepth 10000 in
set_option maxHeartbeats 1000000 in
theorem tdepth_any (gt gf : Nat) (T : List Bg) (t : Tr) (fl : List TNd) (w : World) (h : TtOk w gt gf T t fl) (hn : fl.length ≤ 100000) (d : Nat) (hU : UpTree (upsTo fl fl.length) fl.length d) :
    Calls Tryz.prog 19 #[.pointer (some ⟨gt, 0, none⟩)] w fun e w' => e = .returned (.int .i64 (mxF (upsTo fl fl.length) fl.length fl.length : Int)) ∧ Below w.heap.size w w' := by
  have hlen := tlen_any gt gf T t fl
  have HH := Lib.hid h
  obtain ⟨q, cap, gu, gl, N, -, h2, -, h4, -, -, -⟩ := h
  have hgt := row?_lt h2
  have hgu := row?_lt h4
  have hpos := hU.pos
  have HU := Lib.hid hU
  have HLen := Lib.hid hlen
  have H2 := Lib.hid h2
  have H4 := Lib.hid h4
  obtain ⟨U, hUd⟩ : ∃ U, U = upsTo fl fl.length := ⟨_, rfl⟩
  rw [← hUd] at HU H4 ⊢
  obtain ⟨n, hnd⟩ : ∃ n, n = fl.length := ⟨_, rfl⟩
  rw [← hnd] at HU H2 H4 hn hpos HLen ⊢
  have hmk := run_make1 (P := Tryz.prog) (t := 31) Tryz.underlying31 infoInt rfl n (by omega) (by omega)
  clear hlen h2 h4 hU hUd hnd
  go_enter Tryz.func19, Tryz.ntmps19
  go_wp2_with fail
  refine (HLen.out w HH.out).mono ?_
  rintro e w1 ⟨rfl, rfl⟩
  go_wp2_with fail
  obtain ⟨W, hW⟩ : ∃ W, W = w1.alloc (Obj.cells (Array.replicate n (.int .i64 0)) 3) := ⟨_, rfl⟩
  have hBW : Below w1.heap.size w1 W := by rw [hW]; exact (Below.refl _ w1).alloc (Nat.le_refl _) _
  have hrW : row? W w1.heap.size = some (rowI (dpK U n 0) n) := by rw [hW, dpK_zero]; exact row?_alloc_at _ _ _ _ rfl
  rw [← hW]
  refine (HLen.out W (HH.out.below hBW)).mono ?_
  rintro e w2 ⟨rfl, rfl⟩
  have HBW := Lib.hid hBW
  clear hW hBW hmk HLen HH
  go_wp2_with fail
  go_loopw [3, 5] (fun m i wr => ∃ k : Nat, k ≤ n ∧ i = .int .i64 ((n : Int) - 1 - k) ∧ m = .int .i64 (mxF U n k : Int) ∧ row? wr w1.heap.size = some (rowI (dpK U n k) n) ∧ Below w1.heap.size w1 wr) (fun _ i _ => (intOf i + 1).toNat)
  case atStart => exact ⟨0, by omega, by simp, rfl, hrW, HBW.out⟩
  case round =>
    obtain ⟨k, hk, rfl, rfl, hr, hb⟩ := hrel
    have HB := Lib.hid hb
    have hsz := hb.size
    have k2 := cell?_row (i := 2) ((row?_below hb hgt).trans H2.out)
    simp at k2
    have H4r := Lib.hid ((row?_below hb hgu).trans H4.out)
    clear hb
    by_cases hlt : k < n
    · obtain ⟨i, hi⟩ : ∃ i, i = n - 1 - k := ⟨_, rfl⟩
      have hin : i < n := by omega
      have hiz : (n : Int) - 1 - k = (i : Int) := by omega
      rw [hiz]
      have HI := Lib.hid hi
      have hfz := frozen?_row (i := i) hr
      have kd := cell?_row (i := i) hr
      rw [rowI_get _ hin] at kd
      have ku := cell?_row (i := i) H4r.out
      rw [rowI_get _ hin] at ku
      have hmx : mxF U n (k + 1) = max (mxF U n k) (dpt U n i) := by rw [mxF, ← hi]
      have HMX := Lib.hid hmx
      have hml := HU.out.mxF_le k
      have hdl := HU.out.dpt_le hin
      by_cases hroot : i = n - 1
      · have hui : U i = -1 := by rw [hroot]; exact HU.out.root
        have hd1 : dpt U n i = 1 := by rw [hroot]; exact HU.out.dpt_root
        rw [hui] at ku
        have HD1 := Lib.hid hd1
        clear hi hiz hmx hroot hd1 hui
        go_wp2_with fail
        go_roundw
        case rel =>
          refine ⟨k + 1, by omega, by have := HI.out; go_num, by rw [HMX.out, HD1.out]; go_num, ?_, Below.setCell HB.out (Nat.le_refl _) _⟩
          rw [row?_setCell_same, hr, ← dpK_succ hlt, ← HI.out, HD1.out]
          exact congrArg some (rowI_set _ _ _ _)
        case measure => simp [intOf]
      · obtain ⟨p, hp, hip, hpn⟩ := HU.out.up i hin hroot
        rw [hp] at ku
        have hdp := HU.out.dpt_up hin hp hpn
        obtain ⟨W', hW'⟩ : ∃ W', W' = wr.setCell ⟨w1.heap.size, i, none⟩ (.int .i64 1) := ⟨_, rfl⟩
        have hr' : row? W' w1.heap.size = some (rowI (updI (dpK U n k) i 1) n) := by
          rw [hW', row?_setCell_same, hr]
          exact congrArg some (rowI_set _ _ _ _)
        have hB' : Below w1.heap.size w1 W' := by rw [hW']; exact Below.setCell HB.out (Nat.le_refl _) _
        have kdp : W'.cell? ⟨w1.heap.size, p, none⟩ = some (.int .i64 (dpt U n p : Int)) := by
          rw [cell?_row hr', rowI_get _ hpn]
          simp only [updI, dpK]
          rw [if_neg (by omega), if_pos (by omega)]
        have kdi : W'.cell? ⟨w1.heap.size, i, none⟩ = some (.int .i64 1) := by
          rw [cell?_row hr', rowI_get _ hin]
          simp [updI]
        have k2' := cell?_row (i := 2) ((row?_below hB' hgt).trans H2.out)
        simp at k2'
        have ku' := cell?_row (i := i) ((row?_below hB' hgu).trans H4.out)
        rw [rowI_get _ hin, hp] at ku'
        have hfz' := frozen?_row (i := i) hr'
        have HDP := Lib.hid hdp
        have hdpl := (HU.out.dpt_le hpn).2.2
        have hpne : ¬ ((p : Int) = -1) := by omega
        have HB' := Lib.hid hB'
        clear hi hiz hmx hroot hp hdp hB'
        go_wp2_with fail
        rw [← hW']
        have HW' := Lib.hid hW'
        clear hW'
        refine wp_region_free_tail (fun w' => w' = W'.drew) 15 (by kernel_rfl) (by kernel_rfl) rfl ?_
        simp only [List.take_succ_cons, List.take_zero, List.drop_succ_cons, List.drop_zero]
        repeat (apply wpFree_still; (intro w hw; subst hw; go_simp; (try go_ints); (first | with_reducible rfl | (go_simp; with_reducible rfl))); with_reducible rfl; (intro K hK; go_simp; (try go_ints); refine hK _ ?_; clear hK K))
        with_reducible refine wpFree_nil ?_
        rintro w' rfl
        go_wp2_with fail
        go_roundw
        case rel =>
          refine ⟨k + 1, by omega, by have := HI.out; go_num, by rw [HMX.out, HDP.out]; go_num, ?_, (Below.setCell HB'.out (Nat.le_refl _) _).drew⟩
          have e1 : (1 : Int) + (dpt U n p : Int) = (dpt U n i : Int) := by rw [HDP.out]; omega
          have e2 : updI (updI (dpK U n k) i 1) i (dpt U n i : Int) = updI (dpK U n k) i (dpt U n i : Int) := by
            funext q
            by_cases hq : q = i <;> simp [updI, hq]
          rw [row?_drew, row?_setCell_same, hr', ← dpK_succ hlt, ← HI.out, e1, ← e2]
          exact congrArg some (rowI_set _ _ _ _)
        case measure => simp [intOf]
    · have hkn : k = n := by omega
      subst hkn
      have hiz : (k : Int) - 1 - k = -1 := by omega
      rw [hiz]
      go_wp2_with fail
      go_ret
      exact ⟨rfl, HB.out⟩
end Go.Proofs.YtoboncfgogjllaaGreatDoor
