/-
  Walks of package toptree: Len, valid, Root, LeafOf, Parent.
  Walks of package toptree: PathToRoot.
-/
import Derived.Test.YtoiefehkfhkhbaaGreatDoorQTop12
import Derived.Test.YtoiefehkfhkhbaaGreatDoorQPlain
namespace Go.Proofs.YtoiefehkfhkhbaaGreatDoor
open Go Go.RowKit Go.Pal Go.Shelf

theorem tlen_any (gt gf : Nat) (T : List Bg) (t : Tr) (fl : List TNd) (w : World) (h : TtOk w gt gf T t fl) :
    Calls Tryz.prog 17 #[.pointer (some ⟨gt, 0, none⟩)] w fun e w' => e = .returned (.int .i64 (fl.length : Int)) ∧ w' = w := by
  obtain ⟨q, cap, gu, gl, N, -, h2, -, -, -, -, -⟩ := h
  have k1 := cell?_row (i := 1) h2
  simp at k1
  clear h2
  go_enter Tryz.func17, Tryz.ntmps17
  go_wp2_with fail
  go_ret
  exact ⟨rfl, rfl⟩
theorem tvalid_any (gt gf : Nat) (T : List Bg) (t : Tr) (fl : List TNd) (w : World) (h : TtOk w gt gf T t fl) (i : Int) :
    Calls Tryz.prog 25 #[.pointer (some ⟨gt, 0, none⟩), .int .i64 i] w fun e w' => e = .returned (.bool (decide (0 ≤ i) && decide (i < (fl.length : Int)))) ∧ w' = w := by
  have HL := Lib.hid (tlen_any gt gf T t fl w h)
  clear h
  by_cases h0 : 0 ≤ i
  · have hd : decide (i < 0) = false := by simpa using h0
    go_enter Tryz.func25, Tryz.ntmps25
    go_wp2_with fail
    refine HL.out.mono ?_
    rintro e w1 ⟨rfl, rfl⟩
    go_wp2
    go_ret
    exact ⟨by simp [h0], rfl⟩
  · go_enter Tryz.func25, Tryz.ntmps25
    go_wp2_with fail
    go_ret
    exact ⟨by simp; omega, rfl⟩
theorem troot_any (gt gf : Nat) (T : List Bg) (t : Tr) (fl : List TNd) (w : World) (h : TtOk w gt gf T t fl) (h0 : 0 < fl.length) (hlen : fl.length ≤ 100000) :
    Calls Tryz.prog 20 #[.pointer (some ⟨gt, 0, none⟩)] w fun e w' => e = .returned (.int .i64 ((fl.length - 1 : Nat) : Int)) ∧ w' = w := by
  have HL := Lib.hid (tlen_any gt gf T t fl w h)
  clear h
  go_enter Tryz.func20, Tryz.ntmps20
  go_wp2_with fail
  refine HL.out.mono ?_
  rintro e w1 ⟨rfl, rfl⟩
  go_wp2
  go_ret
  exact ⟨by go_num, rfl⟩
theorem tparent_any (gt gf : Nat) (T : List Bg) (t : Tr) (fl : List TNd) (w : World) (h : TtOk w gt gf T t fl) (i : Nat) (hi : i < fl.length) :
    Calls Tryz.prog 21 #[.pointer (some ⟨gt, 0, none⟩), .int .i64 (i : Int)] w fun e w' => e = .returned (.int .i64 (upsTo fl fl.length i)) ∧ w' = w := by
  have hv := tvalid_any gt gf T t fl w h (i : Int)
  have hin : (decide ((0 : Int) ≤ (i : Int)) && decide ((i : Int) < (fl.length : Int))) = true := by simp; omega
  rw [hin] at hv
  have HV := Lib.hid hv
  obtain ⟨q, cap, gu, gl, N, -, h2, -, h4, -, -, -⟩ := h
  have k1 := cell?_row (i := 2) h2
  simp at k1
  have k2 : w.cell? ⟨gu, i, none⟩ = _ := cell?_row (i := i) h4
  rw [rowI_get _ hi] at k2
  clear h2 h4 hv hin
  go_enter Tryz.func21, Tryz.ntmps21
  go_wp2_with fail
  refine HV.out.mono ?_
  rintro e w1 ⟨rfl, rfl⟩
  go_wp2
  go_ret
  exact ⟨rfl, rfl⟩
end Go.Proofs.YtoiefehkfhkhbaaGreatDoor
namespace Go.Proofs.YtoiefehkfhkhbaaGreatDoor
open Go Go.RowKit Go.Pal Go.Shelf

/-- Where the way to the root stands. -/
def headI : List Nat → Int
  | [] => -1
  | i :: _ => i

end Go.Proofs.YtoiefehkfhkhbaaGreatDoor
