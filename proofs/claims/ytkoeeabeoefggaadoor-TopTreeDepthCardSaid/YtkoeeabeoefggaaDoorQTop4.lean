/-
  Walks of package toptree: below, chain$1.
-/
import Derived.Test.YtkoeeabeoefggaaDoorQTop3
namespace Go.Proofs.YtkoeeabeoefggaaDoor
open Go Go.RowKit Go.Pal Go.Shelf

theorem sub_sz {t u : Tr} (h : Sub t u) : u.sz ≤ t.sz := by
  induction h with
  | self => exact Nat.le_refl _
  | @kid u k _ hk ih =>
    have := Tr.szs_le hk
    cases u
    simp only [Tr.ks, Tr.sz] at *
    omega
theorem hsize_le {t : Tr} : (match Tr.hvL t.ks with | none => 0 | some h => h.sz) ≤ t.sz := by
  cases h : Tr.hvL t.ks with
  | none => simp
  | some x =>
    have := Tr.szs_le (Tr.hvL_mem h)
    cases t
    simp only [Tr.ks, Tr.sz] at *
    omega

set_option maxRecDepth 10000 in
set_option maxHeartbeats 400000 in
theorem below_of (gf gb : Nat) (T : List Bg) (t : Tr) (hV : Valid T t) (w : World) (hF : FrameOk w gf T t) (hp : w.cell? ⟨gb, 0, none⟩ = some (.pointer (some ⟨gf, 0, none⟩))) (hgb : gb < w.heap.size) (u : Tr) (hu : Sub t u) :
    Calls Tryd.prog 60 #[.pointer (some ⟨gb, 0, none⟩), .int .i64 (u.lab : Int)] w fun e w' => e = .returned (.agg (words (belS T u))) ∧ Below w.heap.size w w' := by
  have hb0 := (Below.refl w.heap.size w).alloc (Nat.le_refl _) (.cells (words 0) 27)
  have hF0 := hF.below hb0
  have hp0 := (hb0.cell (p := ⟨gb, 0, none⟩) hgb).trans hp
  have HF0 := Lib.hid hF0
  have HV := Lib.hid hV
  have HU := Lib.hid hu
  clear hF hp hF0 hV hu
  go_enter Tryd.func60, Tryd.ntmps60
  go_wp2_with fail
  refine (heavy_any gf T t _ HF0.out HV.out.fits u HU.out).mono ?_
  rintro e w1 ⟨rfl, hb1⟩
  have hs1 := hb1.size
  simp only [World.size_alloc] at hs1
  have hr1 : row? w1 w.heap.size = some (words 0) := (row?_below hb1 (by simp)).trans (row?_alloc_at _ _ _ _ rfl)
  have hp1 := (hb1.cell (p := ⟨gb, 0, none⟩) (by simp; omega)).trans hp0
  have HF1 := Lib.hid (HF0.out.below hb1)
  have HB1 := Lib.hid (hb0.trans (hb1.mono (by simp)))
  clear hb1 hp0 hb0 HF0
  cases hh : Tr.hvL u.ks with
  | none =>
    have hbel : belS T u = 0 := by unfold belS; rw [hh]
    simp only [Tr.hLab]
    go_wp2_with fail
    refine ret_row _ (words 0) rfl Tryd.isAgg27 Tryd.sizeOf27 rfl rfl ?_ (by simp only [words_size]) ?_
    · first | (simp [go_sem]; done) | (simp [go_sem, *]; done)
    exact ⟨by rw [hbel], below_setRow HB1.out (Nat.le_refl _) _⟩
  | some x =>
    have hbel : belS T u = adhS T x.lab := by unfold belS; rw [hh]
    simp only [Tr.hLab]
    have hx := HU.out.kid (Tr.hvL_mem hh)
    have hxl := (HV.out.fits.sub hx).lab
    have hcond : ¬ ((x.lab : Int) < 0) := by omega
    clear hh hx
    go_wp2_with fail
    refine (adhesion_any gf T t HV.out w1 HF1.out x.lab hxl).mono ?_
    rintro e w2 ⟨rfl, hb2⟩
    have hs2 := hb2.size
    have hr2 := (row?_below hb2 (by omega)).trans hr1
    have HB2 := Lib.hid (HB1.out.trans (hb2.mono (by omega)))
    clear hb2 hr1
    go_wp2_with fail
    refine ret_row _ (words (adhS T x.lab)) rfl Tryd.isAgg27 Tryd.sizeOf27 rfl rfl ?_ (by simp only [words_size]) ?_
    · first | (simp [go_sem]; done) | (simp [go_sem, *]; done)
    exact ⟨by rw [hbel], below_setRow HB2.out (Nat.le_refl _) _⟩

set_option maxRecDepth 10000 in
set_option maxHeartbeats 400000 in
theorem chain1_any (gf gb g1 : Nat) (T : List Bg) (t : Tr) (hV : Valid T t) (w : World) (hF : FrameOk w gf T t) (hp : w.cell? ⟨gb, 0, none⟩ = some (.pointer (some ⟨gf, 0, none⟩))) (hgb : gb < w.heap.size) (hq : w.cell? ⟨g1, 0, none⟩ = some (.pointer (some ⟨gb, 0, none⟩))) (hg1 : g1 < w.heap.size) (u : Tr) (hu : Sub t u) (hts : t.sz ≤ 65536) :
    Calls Tryd.prog 55 #[.int .i64 (u.lab : Int), .pointer (some ⟨g1, 0, none⟩)] w fun e w' => e = .returned (.int .i64 (u.wt : Int)) ∧ Below w.heap.size w w' := by
  have F : ∀ W, Below w.heap.size w W → W.cell? ⟨gb, 0, none⟩ = some (.pointer (some ⟨gf, 0, none⟩)) ∧ W.cell? ⟨g1, 0, none⟩ = some (.pointer (some ⟨gb, 0, none⟩)) ∧ FrameOk W gf T t := fun W h => ⟨(h.cell (p := ⟨gb, 0, none⟩) hgb).trans hp, (h.cell (p := ⟨g1, 0, none⟩) hg1).trans hq, hF.below h⟩
  obtain ⟨hs, hhs⟩ : ∃ n, n = (match Tr.hvL u.ks with | none => 0 | some h => h.sz) := ⟨_, rfl⟩
  have hle : hs ≤ u.sz := by rw [hhs]; exact hsize_le
  have hwt : u.wt = u.sz - hs := by rw [hhs]; rfl
  have hsz := sub_sz hu
  have c1 : ∀ W, Below w.heap.size w W → Calls Tryd.prog 56 #[.pointer (some ⟨gf, 0, none⟩), .int .i64 (u.lab : Int)] W fun e w' => e = .returned (.int .i64 (u.sz : Int)) ∧ Below w.heap.size w w' := fun W h =>
    (size_any gf T t W (F W h).2.2 hV.fits u hu).mono fun e w' ⟨h1, h2⟩ => ⟨h1, h.trans (h2.mono h.size)⟩
  have c2 : ∀ W, Below w.heap.size w W → Calls Tryd.prog 57 #[.pointer (some ⟨gf, 0, none⟩), .int .i64 (u.lab : Int)] W fun e w' => e = .returned (.int .i64 (Tr.hLab (Tr.hvL u.ks))) ∧ Below w.heap.size w w' := fun W h =>
    (heavy_any gf T t W (F W h).2.2 hV.fits u hu).mono fun e w' ⟨h1, h2⟩ => ⟨h1, h.trans (h2.mono h.size)⟩
  have c3 : ∀ W, Below w.heap.size w W → Calls Tryd.prog 56 #[.pointer (some ⟨gf, 0, none⟩), .int .i64 (Tr.hLab (Tr.hvL u.ks))] W fun e w' => e = .returned (.int .i64 (hs : Int)) ∧ Below w.heap.size w w' := fun W h => by
    rw [hhs]
    cases hh : Tr.hvL u.ks with
    | none => exact (size_none gf T t W (F W h).2.2).mono fun e w' ⟨h1, h2⟩ => ⟨h1, h.trans (h2.mono h.size)⟩
    | some x => exact (size_any gf T t W (F W h).2.2 hV.fits x (hu.kid (Tr.hvL_mem hh))).mono fun e w' ⟨h1, h2⟩ => ⟨h1, h.trans (h2.mono h.size)⟩
  have HFF := Lib.hid F
  have C1 := Lib.hid c1
  have C2 := Lib.hid c2
  have C3 := Lib.hid c3
  clear F c1 c2 c3 hF hp hq hV hhs
  go_enter Tryd.func55, Tryd.ntmps55
  go_wp2_with fail
  refine wp_region_free_tail (fun W => Below w.heap.size w W) 18 (by kernel_rfl) (by kernel_rfl) (Below.refl _ _).drew ?_
  simp only [List.take_succ_cons, List.take_zero, List.drop_succ_cons, List.drop_zero]
  repeat (apply wpFree_still; (intro w hw; obtain ⟨k1, k2, -⟩ := HFF.out _ hw; clear hw; go_simp; (try go_ints); (first | with_reducible rfl | (go_simp; with_reducible rfl))); with_reducible rfl; (intro K hK; go_simp; (try go_ints); refine hK _ ?_; clear hK K))
  apply wpFree_call
  · intro w hw; go_simp; first | with_reducible rfl | with_reducible exact ⟨rfl, rfl⟩
  · with_reducible rfl
  · intro w hw; exact C1.out w hw
  intro K hK; go_simp; (try go_ints); refine hK _ ?_; clear hK K
  repeat (apply wpFree_still; (intro w hw; obtain ⟨k1, k2, -⟩ := HFF.out _ hw; clear hw; go_simp; (try go_ints); (first | with_reducible rfl | (go_simp; with_reducible rfl))); with_reducible rfl; (intro K hK; go_simp; (try go_ints); refine hK _ ?_; clear hK K))
  apply wpFree_call
  · intro w hw; go_simp; first | with_reducible rfl | with_reducible exact ⟨rfl, rfl⟩
  · with_reducible rfl
  · intro w hw; exact C2.out w hw
  intro K hK; go_simp; (try go_ints); refine hK _ ?_; clear hK K
  repeat (apply wpFree_still; (intro w hw; obtain ⟨k1, k2, -⟩ := HFF.out _ hw; clear hw; go_simp; (try go_ints); (first | with_reducible rfl | (go_simp; with_reducible rfl))); with_reducible rfl; (intro K hK; go_simp; (try go_ints); refine hK _ ?_; clear hK K))
  apply wpFree_call
  · intro w hw; go_simp; first | with_reducible rfl | with_reducible exact ⟨rfl, rfl⟩
  · with_reducible rfl
  · intro w hw; exact C3.out w hw
  intro K hK; go_simp; (try go_ints); refine hK _ ?_; clear hK K
  repeat (apply wpFree_still; (intro w hw; obtain ⟨k1, k2, -⟩ := HFF.out _ hw; clear hw; go_simp; (try go_ints); (first | with_reducible rfl | (go_simp; with_reducible rfl))); with_reducible rfl; (intro K hK; go_simp; (try go_ints); refine hK _ ?_; clear hK K))
  with_reducible refine wpFree_nil ?_
  intro w' hw'
  go_wp2_with fail
  go_ret
  refine ⟨?_, hw'⟩
  rw [hwt]
  go_num
end Go.Proofs.YtkoeeabeoefggaaDoor
