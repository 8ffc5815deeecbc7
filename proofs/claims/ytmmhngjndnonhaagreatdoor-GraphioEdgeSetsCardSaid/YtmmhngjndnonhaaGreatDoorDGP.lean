/-
  Walks of package treedecomp: Width.
-/
import Derived.Test.YtmmhngjndnonhaaGreatDoorDGO
import Derived.Test.YtmmhngjndnonhaaGreatDoorDGx
import Derived.Test.YtmmhngjndnonhaaGreatDoorDPlain
set_option linter.unusedSimpArgs false
set_option linter.unusedVariables false
namespace Go.Pal
open Go
def widTo (T : List Bg) (k : Nat) : Int := (T.take k).foldl (fun m x => max m ((lenS x.2 : Int) - 1)) (-1)
theorem widTo_succ {T : List Bg} {k : Nat} {x : Bg} (h : T[k]? = some x) : widTo T (k + 1) = max (widTo T k) ((lenS x.2 : Int) - 1) := by
  unfold widTo
  rw [List.take_add_one, h, List.foldl_append]
  rfl
end Go.Pal
namespace Go.Proofs.YtmmhngjndnonhaaGreatDoor
open Go Go.RowKit Go.Pal
attribute [local go_sem] Oper.semAt_some

set_option maxHeartbeats 1000000 in
theorem width_any (T : List Bg) (v : Value) (w : World) (hv : Rd bagA 17 w.heap.size w v T) (hlen : T.length ≤ 65536) :
    Calls Tryz.prog 59 #[v] w fun e w' => e = .returned (.int .i64 (widTo T T.length)) ∧ Below w.heap.size w w' := by
  obtain ⟨a, c, rfl, hr⟩ := hv
  have HR := Lib.hid hr; clear hr
  go_enter Tryz.func59, Tryz.ntmps59
  go_wp2_with fail
  go_loopw [3, 8] (fun m i wr => ∃ k : Nat, k ≤ T.length ∧ i = .int .i64 k ∧ m = .int .i64 (widTo T k) ∧ Below w.heap.size w wr) (fun _ i _ => T.length - (intOf i).toNat)
  case atStart => exact ⟨0, by omega, rfl, rfl, Below.refl _ _⟩
  case round =>
    obtain ⟨k, hk, rfl, rfl, hb⟩ := hrel
    by_cases hlt : k < T.length
    · obtain ⟨x, hx⟩ : ∃ x, T[k]? = some x := ⟨_, List.getElem?_eq_getElem hlt⟩
      rcases HR.out with h | ⟨b, off, rfl, hbB, hc⟩
      · rw [h] at hlt; simp at hlt
      obtain ⟨hl, -, -⟩ := tree_load hc hb hbB hx
      have HX := Lib.hid hx
      have hle : lenS x.2 ≤ 2032 := by rw [lenS_lenTo x.2 16 rfl]; exact lenTo_le _ 16
      have HB := Lib.hid hb
      clear hx hc hb
      go_wp2_with fail
      refine (len_any x.2 _).mono ?_
      rintro e w1 ⟨rfl, hb1⟩
      have hB1 : Below w.heap.size w w1 := (HB.out.alloc HB.out.size _).trans (hb1.mono (by simp; have := HB.out.size; omega))
      have HB1 := Lib.hid hB1
      clear hb1 hB1
      go_wp2_with fail
      go_roundw
      case rel => exact ⟨k + 1, by omega, by go_num, by rw [widTo_succ HX.out], HB1.out⟩
      case measure => simp [intOf]; omega
    · have hk' : k = T.length := by omega
      subst hk'
      go_wp2_with fail
      go_ret
      exact ⟨by simp, hb⟩
end Go.Proofs.YtmmhngjndnonhaaGreatDoor
