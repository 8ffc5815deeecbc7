/-
  Walks of package frame: Adhesion.
  Walks of package frame: Root.
  Walks of package frame: HeavyPath.
-/
import Derived.Test.YtoboncfgogjllaaGreatDoorQFr6
namespace Go.Proofs.YtoboncfgogjllaaGreatDoor
open Go Go.RowKit Go.Pal Go.Shelf

set_option maxRecDepth 10000 in
set_option maxHeartbeats 400000 in
theorem adhesion_any (gf : Nat) (T : List Bg) (t : Tr) (hV : Valid T t) (w : World) (h : FrameOk w gf T t) (b : Nat) (hbl : b < T.length) :
    Calls Tryz.prog 62 #[.pointer (some ⟨gf, 0, none⟩), .int .i64 (b : Int)] w fun e w' => e = .returned (.agg (words (adhS T b))) ∧ Below w.heap.size w w' := by
  obtain ⟨x, hx⟩ : ∃ x, T[b]? = some x := ⟨_, List.getElem?_eq_getElem hbl⟩
  have hb := (Below.refl w.heap.size w).alloc (Nat.le_refl _) (.cells (words 0) 40)
  have hW := h.below hb
  have H1 := Lib.hid (bag_any gf T t _ hW b x hx)
  have HW := Lib.hid hW
  have HB := Lib.hid hb
  have HX := Lib.hid hx
  have hpar : (x.1 = -1 ∧ adhS T b = 0) ∨ ∃ p y, x.1 = (p : Nat) ∧ T[p]? = some y ∧ adhS T b = x.2 &&& y.2 := by
    rcases hV.par b x hx with hp | ⟨p, hp, hpl⟩
    · exact .inl ⟨hp, adhS_root hx hp⟩
    · obtain ⟨y, hy⟩ : ∃ y, T[p]? = some y := ⟨_, List.getElem?_eq_getElem hpl⟩
      exact .inr ⟨p, y, hp, hy, adhS_other hx hp hy⟩
  clear h hb hW hx hV
  go_enter Tryz.func62, Tryz.ntmps62
  go_wp2_with fail
  refine H1.out.mono ?_
  rintro e w1 ⟨rfl, hb1⟩
  have hW1 := HW.out.below hb1
  have hr1 : row? w1 w.heap.size = some (words 0) := (row?_below hb1 (by simp)).trans (by simp [go_sem])
  have HB1 := Lib.hid (HB.out.trans (hb1.mono (by simp)))
  have hs1 := hb1.size
  simp only [World.size_alloc] at hs1
  clear hb1
  go_wp2_with fail
  refine (parent_any gf T t w1 hW1 b x HX.out).mono ?_
  rintro e w2 ⟨rfl, rfl⟩
  rcases hpar with ⟨hp, he⟩ | ⟨p, y, hp, hy, he⟩
  · rw [hp]
    go_wp2_with fail
    refine (bag_none gf T t w2 hW1).mono ?_
    rintro e w3 ⟨rfl, hb3⟩
    have hs3 := hb3.size
    have hr3 := (row?_below hb3 (by omega)).trans hr1
    have HB3 := Lib.hid (HB1.out.trans (hb3.mono (by omega)))
    clear hb3 hW1 hr1
    go_wp2_with fail
    refine (inter_any _ _ _).mono ?_
    rintro e w4 ⟨rfl, hb4⟩
    have hs4 := hb4.size
    have hr4 := (row?_below hb4 (by omega)).trans hr3
    have HB4 := Lib.hid (HB3.out.trans (hb4.mono (by omega)))
    clear hb4 hr3
    rw [Nat.and_zero]
    go_wp2
    refine ret_row _ (words 0) rfl Tryz.isAgg40 Tryz.sizeOf40 rfl rfl ?_ (by simp only [words_size]) ?_
    · first | (simp [go_sem]; done) | (simp [go_sem, *]; done)
    exact ⟨by rw [he], below_setRow HB4.out (Nat.le_refl _) _⟩
  · rw [hp]
    go_wp2_with fail
    refine (bag_any gf T t w2 hW1 p y hy).mono ?_
    rintro e w3 ⟨rfl, hb3⟩
    have hs3 := hb3.size
    have hr3 := (row?_below hb3 (by omega)).trans hr1
    have HB3 := Lib.hid (HB1.out.trans (hb3.mono (by omega)))
    clear hb3 hW1 hr1
    go_wp2_with fail
    refine (inter_any _ _ _).mono ?_
    rintro e w4 ⟨rfl, hb4⟩
    have hs4 := hb4.size
    have hr4 := (row?_below hb4 (by omega)).trans hr3
    have HB4 := Lib.hid (HB3.out.trans (hb4.mono (by omega)))
    clear hb4 hr3
    go_wp2
    refine ret_row _ (words (x.2 &&& y.2)) rfl Tryz.isAgg40 Tryz.sizeOf40 rfl rfl ?_ (by simp only [words_size]) ?_
    · first | (simp [go_sem]; done) | (simp [go_sem, *]; done)
    exact ⟨by rw [he], below_setRow HB4.out (Nat.le_refl _) _⟩
end Go.Proofs.YtoboncfgogjllaaGreatDoor
namespace Go.Proofs.YtoboncfgogjllaaGreatDoor
open Go Go.RowKit Go.Pal Go.Shelf

theorem root1_any (x : Bg) (w : World) : Calls Tryz.prog 67 #[.agg (bagA x)] w fun e w' => e = .returned (.bool (decide (x.1 < 0))) ∧ Below w.heap.size w w' := by
  go_enter Tryz.func67, Tryz.ntmps67
  go_wp2
  go_ret
  exact ⟨rfl, (Below.refl _ w).alloc (Nat.le_refl _) _⟩
theorem idx_root {T : List Bg} {t : Tr} (hV : Valid T t) : idx (fun b => decide (b.1 < 0)) T = t.lab := by
  have hmem : (t.lab : Int) ∈ rootsTo T T.length := by rw [hV.root]; simp
  obtain ⟨c, h1, x, h2, h3⟩ := rootsTo_mem hmem
  have : c = t.lab := by omega
  subst this
  refine idx_some h2 (by simp [h3]) fun i y hi hy => ?_
  rcases hV.par i y hy with hp | ⟨p, hp, _⟩
  · have := mem_rootsTo (List.getElem?_eq_some_iff.1 hy).1 hy hp
    rw [hV.root] at this
    simp at this
    omega
  · exact decide_eq_false (by omega)
theorem froot_any (gf : Nat) (T : List Bg) (t : Tr) (hV : Valid T t) (w : World) (h : FrameOk w gf T t) :
    Calls Tryz.prog 27 #[.pointer (some ⟨gf, 0, none⟩)] w fun e w' => e = .returned (.int .i64 (t.lab : Int)) ∧ Below w.heap.size w w' := by
  have hne : T ≠ [] := fun e => by have := hV.pos; rw [e] at this; simp at this
  have HC := Lib.hid (bags_any gf T t w h hne (by have := hV.le; omega))
  have HV := Lib.hid hV
  clear h hV
  go_enter Tryz.func27, Tryz.ntmps27
  go_wp2_with fail
  refine HC.out.mono ?_
  rintro e w1 ⟨g, c, rfl, hg, hr, hb⟩
  have HR := Lib.hid hr
  clear hr
  go_wp2_with fail
  have hi := indexFuncT (fun b => decide (b.1 < 0)) 67 #[] (fun args w => by simp [go_sem]) T _ w1 HR.out (by have := HV.out.le; omega) (fun W _ x _ => root1_any x W)
  rw [idx_root HV.out] at hi
  refine hi.mono ?_
  rintro e w2 ⟨rfl, hb2⟩
  have HB := Lib.hid (hb.trans (hb2.mono hb.size))
  clear hi hb2
  go_wp2
  go_ret
  exact ⟨rfl, HB.out⟩
end Go.Proofs.YtoboncfgogjllaaGreatDoor
namespace Go.Proofs.YtoboncfgogjllaaGreatDoor
open Go Go.RowKit Go.Pal Go.Shelf

def sliceLen : Value → Nat
  | .slice _ n _ => n
  | _ => 0
/-- Where the walk along a heavy path stands. -/
def headLab : List Tr → Int
  | [] => -1
  | u :: _ => u.lab

set_option maxRecDepth 10000 in
set_option maxHeartbeats 1000000 in
theorem hpath_any (gf : Nat) (T : List Bg) (t : Tr) (hV : Valid T t) (w : World) (h : FrameOk w gf T t) (u : Tr) (hu : Sub t u) (l : List Tr) (hl : HPath u l) (hlen : l.length ≤ 65536) :
    Calls Tryz.prog 26 #[.pointer (some ⟨gf, 0, none⟩), .int .i64 (u.lab : Int)] w fun e w' => ∃ v, e = .returned v ∧ OwnI w.heap.size w' v (l.map fun t => (t.lab : Int)) ∧ Below w.heap.size w w' := by
  have HW := Lib.hid h
  have HV := Lib.hid hV
  have HU := Lib.hid hu
  have HL := Lib.hid hl
  clear h hV hu hl
  go_enter Tryz.func26, Tryz.ntmps26
  go_wp2_with fail
  go_loopw [1, 5] (fun b v wr => ∃ done rest, l = done ++ rest ∧ b = .int .i64 (headLab rest) ∧ (rest = [] ∨ ∃ x, Sub t x ∧ HPath x rest) ∧ OwnI w.heap.size wr v (done.map fun t => (t.lab : Int)) ∧ Below w.heap.size w wr) (fun _ v _ => l.length + 1 - sliceLen v)
  case atStart =>
    refine ⟨[], l, rfl, ?_, .inr ⟨u, HU.out, HL.out⟩, OwnI.nil _ _, Below.refl _ _⟩
    cases HL.out <;> rfl
  case round =>
    obtain ⟨done, rest, hd, rfl, hrest, hO, hb⟩ := hrel
    have hWr := HW.out.below hb
    have HO := Lib.hid hO
    have HB := Lib.hid hb
    have HD := Lib.hid hd
    clear hO hb hd
    cases rest with
    | nil =>
      have hok := is_any gf T t wr hWr (-1)
      have hin : (decide ((0 : Int) ≤ -1) && decide ((-1 : Int) < (T.length : Int))) = false := by simp
      rw [hin] at hok
      simp only [headLab]
      go_wp2_with fail
      refine hok.mono ?_
      rintro e w1 ⟨rfl, rfl⟩
      go_wp2
      go_ret
      refine ⟨_, rfl, ?_, HB.out⟩
      rw [HD.out, List.append_nil]
      exact HO.out
    | cons y rest =>
      obtain ⟨x, hx, hp⟩ := hrest.resolve_left (by simp)
      have hxy : x = y := by cases hp <;> rfl
      subst hxy
      have hxl := (HV.out.fits.sub hx).lab
      have hok := is_any gf T t wr hWr (x.lab : Int)
      have hin : (decide ((0 : Int) ≤ (x.lab : Int)) && decide ((x.lab : Int) < (T.length : Int))) = true := by simp; omega
      rw [hin] at hok
      simp only [headLab]
      have HX := Lib.hid hx
      have HP := Lib.hid hp
      have HWr := Lib.hid hWr
      obtain ⟨q0, n0, c0, rfl⟩ := HO.out.slice
      have hn0 := HO.out.len
      simp only [List.length_map] at hn0
      subst hn0
      have hdl : done.length < l.length := by rw [HD.out]; simp
      have hsz := HB.out.size
      clear hx hp hWr hrest
      go_wp2_with fail
      refine hok.mono ?_
      rintro e w1 ⟨rfl, rfl⟩
      clear hok hin
      go_wp2_with (at_builtin; refine wpList_appI rfl _ _ rfl (w.heap.size) _ _ rfl ((HO.out.alloc _)) _ ((x.lab : Int)) _ rfl ?c1 ?c2 ?c3 ?_)
      case c1 => simp [go_sem]
      case c2 => (simp; omega)
      case c3 => simp; omega
      intro v1 w2 hO1 hb1 hg1 hl1
      have hB2 : Below w.heap.size w w2 := (HB.out.alloc hsz _).trans hb1
      have hs2 := hb1.size
      have HO1 := Lib.hid hO1
      have HB2 := Lib.hid hB2
      clear hO1 hb1 hg1 hl1 hB2
      go_wp2_with fail
      refine (heavy_any gf T t w2 (HW.out.below HB2.out) HV.out.fits x HX.out).mono ?_
      rintro e w3 ⟨rfl, hb3⟩
      have hw2 : w.heap.size ≤ w2.heap.size := HB2.out.size
      have HO3 : Hid (OwnI w.heap.size w3 v1 ((done ++ [x]).map fun t => (t.lab : Int))) := by
        show OwnI _ _ _ _
        rw [List.map_append]
        exact HO1.out.same fun g hg => hb3.block g (HO1.out.lt g hg)
      have HB3 := Lib.hid (HB2.out.trans (hb3.mono hw2))
      have hnext : Tr.hLab (Tr.hvL x.ks) = headLab rest ∧ (rest = [] ∨ ∃ x, Sub t x ∧ HPath x rest) := by
        cases HP.out with
        | last hh => rw [hh]; exact ⟨rfl, .inl rfl⟩
        | cons hh hp => rw [hh]; exact ⟨by cases hp <;> rfl, .inr ⟨_, HX.out.kid (Tr.hvL_mem hh), hp⟩⟩
      obtain ⟨hn1, hn2⟩ := hnext
      rw [hn1]
      have HN2 := Lib.hid hn2
      obtain ⟨q1, n1, c1, rfl⟩ := HO3.out.slice
      have hl3 := HO3.out.len
      simp at hl3
      subst hl3
      clear hb3 hn1 hn2
      go_wp2
      go_roundw
      case rel => exact ⟨done ++ [x], rest, by rw [HD.out]; simp, rfl, HN2.out, HO3.out, HB3.out⟩
      case measure => simp [sliceLen]; omega
end Go.Proofs.YtoboncfgogjllaaGreatDoor
