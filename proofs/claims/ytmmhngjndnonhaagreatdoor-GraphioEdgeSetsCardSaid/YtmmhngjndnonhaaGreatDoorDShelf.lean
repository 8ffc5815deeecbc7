/-
  A tree of bags copied, by the library's contract of slices.Clone.
-/
import Derived.Test.YtmmhngjndnonhaaGreatDoorDShelfL
import Derived.Test.YtmmhngjndnonhaaGreatDoorDTt
set_option linter.unusedSimpArgs false
set_option linter.unusedVariables false
namespace Go.Proofs.YtmmhngjndnonhaaGreatDoor
open Go Go.RowKit Go.Pal Go.Shelf

theorem infoBag : (Tryz.prog.info? 126).map (fun i => (i.zero, i.size, i.bytes)) = some (some (.agg (bagA (0, 0))), 17, 136) := by kernel_rfl

/-- A tree of bags copied. -/
theorem cloneT_any (T : List Bg) (v : Value) (w : World) (hv : Rd bagA 17 w.heap.size w v T) (hne : T ≠ []) (hlen : T.length ≤ 65536) :
    Calls Tryz.prog 136 #[v] w fun e w' => ∃ g c, e = .returned (.slice (some ⟨g, 0, none⟩) T.length c) ∧ w.heap.size ≤ g ∧ Rd bagA 17 w'.heap.size w' (.slice (some ⟨g, 0, none⟩) T.length c) T ∧ Below w.heap.size w w' := by
  obtain ⟨a, c, rfl, hr⟩ := hv
  rcases hr with h | ⟨b, off, rfl, hbB, hc⟩
  · exact absurd h hne
  obtain ⟨i0, hi, hz0, hz1, hz2⟩ := info_parts infoBag
  refine (AnyE.slices_Clone Tryz.laysCloneT i0 (.agg (bagA (0, 0))) 17 136 hi hz0 hz1 hz2 (by simp [Value.cells, bagA_size]) (by decide) Tryz.sizeOf126 b off T.length c (flatB T) w (flatB_length T) (by unfold maxLen; omega) (by omega) ?_ ?_).mono ?_
  · intro j u hu
    obtain ⟨i, k, x, hx, hk, rfl⟩ := flatB_at hu
    have := hc i x hx k u hk
    rwa [Nat.add_assoc] at this
  · intro u hu
    obtain ⟨j, hj⟩ := List.mem_iff_getElem?.1 hu
    obtain ⟨i, k, x, hx, hk, -⟩ := flatB_at hj
    exact bagA_one x u (by simpa using Array.mem_of_getElem? hk)
  · rintro e w' ⟨v', rfl, hO, hn, hb⟩
    rcases hO.2 with ⟨rfl, _⟩ | ⟨g, cap, cur, rfl, hg, hh, h1, h2, h3, h4⟩
    · exact absurd rfl hn
    · refine ⟨g, cap, rfl, hg, ⟨some ⟨g, 0, none⟩, cap, rfl, .inr ⟨g, 0, rfl, (Array.getElem?_eq_some_iff.1 hh).1, ?_⟩⟩, hb⟩
      intro i x hx j u hu
      have hj : j < 17 := by have := (Array.getElem?_eq_some_iff.1 hu).1; rwa [bagA_size] at this
      have hi : i < T.length := (List.getElem?_eq_some_iff.1 hx).1
      rw [Nat.zero_add, cell_of_row w' g (i * 17 + j) cur _ (0, 0) hh]
      have h5 := flatB_get hx hu
      rw [← h4, List.getElem?_take, if_pos (by omega)] at h5
      simpa using h5
end Go.Proofs.YtmmhngjndnonhaaGreatDoor
