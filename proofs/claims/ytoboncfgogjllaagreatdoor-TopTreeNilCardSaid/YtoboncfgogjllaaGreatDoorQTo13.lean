/-
  Walks of package toptree: Len, valid, Root, LeafOf, Parent.
  Walks of package toptree: PathToRoot.
-/
import Derived.Test.YtoboncfgogjllaaGreatDoorQTop12
import Derived.Test.YtoboncfgogjllaaGreatDoorQPlain
namespace Go.Proofs.YtoboncfgogjllaaGreatDoor
open Go Go.RowKit Go.Pal Go.Shelf

theorem tlen_any (gt gf : Nat) (T : List Bg) (t : Tr) (fl : List TNd) (w : World) (h : TtOk w gt gf T t fl) :
    Calls Tryz.prog 15 #[.pointer (some ⟨gt, 0, none⟩)] w fun e w' => e = .returned (.int .i64 (fl.length : Int)) ∧ w' = w := by
  obtain ⟨q, cap, gu, gl, N, -, h2, -, -, -, -, -⟩ := h
  have k1 := cell?_row (i := 1) h2
  simp at k1
  clear h2
  go_enter Tryz.func15, Tryz.ntmps15
  go_wp2_with fail
  go_ret
  exact ⟨rfl, rfl⟩
theorem tvalid_any (gt gf : Nat) (T : List Bg) (t : Tr) (fl : List TNd) (w : World) (h : TtOk w gt gf T t fl) (i : Int) :
    Calls Tryz.prog 31 #[.pointer (some ⟨gt, 0, none⟩), .int .i64 i] w fun e w' => e = .returned (.bool (decide (0 ≤ i) && decide (i < (fl.length : Int)))) ∧ w' = w := by
  have HL := Lib.hid (tlen_any gt gf T t fl w h)
  clear h
  by_cases h0 : 0 ≤ i
  · have hd : decide (i < 0) = false := by simpa using h0
    go_enter Tryz.func31, Tryz.ntmps31
    go_wp2_with fail
    refine HL.out.mono ?_
    rintro e w1 ⟨rfl, rfl⟩
    go_wp2
    go_ret
    exact ⟨by simp [h0], rfl⟩
  · go_enter Tryz.func31, Tryz.ntmps31
    go_wp2_with fail
    go_ret
    exact ⟨by simp; omega, rfl⟩
theorem troot_any (gt gf : Nat) (T : List Bg) (t : Tr) (fl : List TNd) (w : World) (h : TtOk w gt gf T t fl) (h0 : 0 < fl.length) (hlen : fl.length ≤ 100000) :
    Calls Tryz.prog 16 #[.pointer (some ⟨gt, 0, none⟩)] w fun e w' => e = .returned (.int .i64 ((fl.length - 1 : Nat) : Int)) ∧ w' = w := by
  have HL := Lib.hid (tlen_any gt gf T t fl w h)
  clear h
  go_enter Tryz.func16, Tryz.ntmps16
  go_wp2_with fail
  refine HL.out.mono ?_
  rintro e w1 ⟨rfl, rfl⟩
  go_wp2
  go_ret
  exact ⟨by go_num, rfl⟩
theorem tleaf_any (gt gf : Nat) (T : List Bg) (t : Tr) (fl : List TNd) (w : World) (h : TtOk w gt gf T t fl) (b : Nat) (hb : b < T.length) :
    Calls Tryz.prog 11 #[.pointer (some ⟨gt, 0, none⟩), .int .i64 (b : Int)] w fun e w' => e = .returned (.tuple #[.int .i64 (leafsTo fl fl.length b), .bool true]) ∧ w' = w := by
  obtain ⟨q, cap, gu, gl, N, -, h2, -, -, h5, -, -⟩ := h
  have k1 := cell?_row (i := 3) h2
  simp at k1
  have k2 : w.cell? ⟨gl, b, none⟩ = _ := cell?_row (i := b) h5
  rw [rowI_get _ hb] at k2
  clear h2 h5
  go_enter Tryz.func11, Tryz.ntmps11
  go_wp2_with fail
  go_ret2
  exact ⟨rfl, rfl⟩
theorem tparent_any (gt gf : Nat) (T : List Bg) (t : Tr) (fl : List TNd) (w : World) (h : TtOk w gt gf T t fl) (i : Nat) (hi : i < fl.length) :
    Calls Tryz.prog 17 #[.pointer (some ⟨gt, 0, none⟩), .int .i64 (i : Int)] w fun e w' => e = .returned (.int .i64 (upsTo fl fl.length i)) ∧ w' = w := by
  have hv := tvalid_any gt gf T t fl w h (i : Int)
  have hin : (decide ((0 : Int) ≤ (i : Int)) && decide ((i : Int) < (fl.length : Int))) = true := by simp; omega
  rw [hin] at hv
  have HV := Lib.hid hv
  obtain ⟨q, cap, gu, gl, N, -, h2, -, h4, -, -, -⟩ := h
  have k1 := cell?_row (i := 2) h2
  simp at k1
  have k2 : w.cell? ⟨gu, i, none⟩ = _ := cell?_row (i := i) h4
  rw [rowI_get _ hi] at k2
  clear h2 h4 hv hin
  go_enter Tryz.func17, Tryz.ntmps17
  go_wp2_with fail
  refine HV.out.mono ?_
  rintro e w1 ⟨rfl, rfl⟩
  go_wp2
  go_ret
  exact ⟨rfl, rfl⟩
end Go.Proofs.YtoboncfgogjllaaGreatDoor
namespace Go.Proofs.YtoboncfgogjllaaGreatDoor
open Go Go.RowKit Go.Pal Go.Shelf

/-- Where the way to the root stands. -/
def headI : List Nat → Int
  | [] => -1
  | i :: _ => i

set_option maxRecDepth 10000 in
set_option maxHeartbeats 1000000 in
theorem tpath_any (gt gf : Nat) (T : List Bg) (t : Tr) (fl : List TNd) (w : World) (h : TtOk w gt gf T t fl) (b : Nat) (hb : b < T.length) (i : Nat) (hi : leafsTo fl fl.length b = (i : Int)) (l : List Nat) (hl : UPath (upsTo fl fl.length) fl.length i l) (hll : l.length ≤ 100000) :
    Calls Tryz.prog 18 #[.pointer (some ⟨gt, 0, none⟩), .int .i64 (b : Int)] w fun e w' => ∃ v, e = .returned v ∧ OwnI w.heap.size w' v (l.map fun i : Nat => (i : Int)) ∧ Below w.heap.size w w' := by
  have hleaf := tleaf_any gt gf T t fl w h b hb
  rw [hi] at hleaf
  obtain ⟨q, cap, gu, gl, N, -, h2, -, h4, -, -, -⟩ := h
  have hgt := row?_lt h2
  have hgu := row?_lt h4
  have HLF := Lib.hid hleaf
  have H2 := Lib.hid h2
  have H4 := Lib.hid h4
  have HL := Lib.hid hl
  obtain ⟨n, hnn⟩ : ∃ n, n = fl.length := ⟨_, rfl⟩
  clear hleaf h2 h4 hl hi
  go_enter Tryz.func18, Tryz.ntmps18
  go_wp2_with fail
  refine HLF.out.mono ?_
  rintro e w1 ⟨rfl, rfl⟩
  clear HLF
  go_wp2_with fail
  go_loopw [5, 7] (fun b v wr => ∃ done rest, l = done ++ rest ∧ b = .int .i64 (headI rest) ∧ (rest = [] ∨ ∃ x, UPath (upsTo fl fl.length) fl.length x rest) ∧ OwnI w1.heap.size wr v (done.map fun i : Nat => (i : Int)) ∧ Below w1.heap.size w1 wr) (fun _ v _ => l.length + 1 - sliceLen v)
  case atStart =>
    refine ⟨[], l, rfl, ?_, .inr ⟨i, HL.out⟩, OwnI.nil _ _, Below.refl _ _⟩
    cases HL.out <;> rfl
  case round =>
    obtain ⟨done, rest, hd, rfl, hrest, hO, hb⟩ := hrel
    have HO := Lib.hid hO
    have HB := Lib.hid hb
    have HD := Lib.hid hd
    have hsz := hb.size
    clear hO hb hd
    cases rest with
    | nil =>
      simp only [headI]
      go_wp2_with fail
      go_ret
      refine ⟨_, rfl, ?_, HB.out⟩
      rw [HD.out, List.append_nil]
      exact HO.out
    | cons y rest =>
      obtain ⟨x, hp⟩ := hrest.resolve_left (by simp)
      have hxy : x = y := by cases hp <;> rfl
      subst hxy
      have hxn : x < fl.length := by cases hp <;> assumption
      obtain ⟨hn1, hn2⟩ : upsTo fl fl.length x = headI rest ∧ (rest = [] ∨ ∃ x, UPath (upsTo fl fl.length) fl.length x rest) := by
        cases hp with
        | last _ h => exact ⟨h, .inl rfl⟩
        | cons _ h hp => exact ⟨by rw [h]; cases hp <;> rfl, .inr ⟨_, hp⟩⟩
      simp only [headI]
      obtain ⟨q0, n0, c0, rfl⟩ := HO.out.slice
      have hn0 := HO.out.len
      simp only [List.length_map] at hn0
      subst hn0
      have hdl : done.length < l.length := by rw [HD.out]; simp
      have hne : ¬ ((x : Int) = -1) := by omega
      have HN2 := Lib.hid hn2
      have HN1 := Lib.hid hn1
      clear hp hrest hn1 hn2
      go_wp2_with (at_builtin; refine wpList_appI rfl _ _ rfl (w1.heap.size) _ _ rfl ((HO.out.alloc _)) _ ((x : Int)) _ rfl ?c1 ?c2 ?c3 ?_)
      case c1 => simp [go_sem]
      case c2 => (simp; omega)
      case c3 => simp; omega
      intro v1 w2 hO1 hb1 hg1 hl1
      have hB2 : Below w1.heap.size w1 w2 := (HB.out.alloc hsz _).trans hb1
      have k2 := cell?_row (i := 2) ((row?_below hB2 hgt).trans H2.out)
      simp at k2
      have k4 : w2.cell? ⟨gu, x, none⟩ = _ := cell?_row (i := x) ((row?_below hB2 hgu).trans H4.out)
      rw [rowI_get _ hxn, HN1.out] at k4
      have HO1 := Lib.hid hO1
      have HB2 := Lib.hid hB2
      obtain ⟨q1, n1, c1, rfl⟩ := hO1.slice
      have hl3 := hO1.len
      simp at hl3
      subst hl3
      clear hO1 hb1 hg1 hl1 hB2
      go_wp2_with fail
      go_roundw
      case rel => exact ⟨done ++ [x], rest, by rw [HD.out]; simp, rfl, HN2.out, by rw [List.map_append]; exact HO1.out, HB2.out⟩
      case measure => simp [sliceLen]; omega
end Go.Proofs.YtoboncfgogjllaaGreatDoor
