/-
  Walks: the law's begun (a graph of edits, an order of its vertices).
-/
import Derived.Test.YtiojidabmlbogaaGreatDoorQJm
import Derived.Test.YtiojidabmlbogaaGreatDoorQOp
import Derived.Test.YtiojidabmlbogaaGreatDoorQVe
import Derived.Test.YtiojidabmlbogaaGreatDoorQMx
set_option linter.unusedSimpArgs false
set_option linter.unusedVariables false
namespace Go.Pal
open Go
theorem Gr.app_len (G : Gr) (h : G.Ok) (e : Ed) : (G.app e).V.length ≤ G.V.length + 1 := by
  have hp : ∀ (x : Int) (t : Th), (putS ltV x t G.V).length ≤ G.V.length + 1 := fun x t => by
    rw [putS_length ordV _ _ h.sV]
    split <;> omega
  unfold Gr.app
  split
  · unfold Gr.doit
    split
    · exact hp _ _
    split
    · exact Nat.le_trans (List.length_filter_le _ _) (Nat.le_succ _)
    split
    · exact Nat.le_succ _
    split
    · exact Nat.le_succ _
    split
    · exact hp _ _
    split
    · exact hp _ _
    split
    · exact Nat.le_succ _
    · exact Nat.le_succ _
  · exact Nat.le_succ _
theorem madeTo_len {l : List Ed} (h : ∀ e ∈ l, e.Wf) : ∀ k, (madeTo l k).V.length ≤ k
  | 0 => by simp [madeTo, Gr.none]
  | k + 1 => by
    have ih := madeTo_len h k
    cases hl : l[k]? with
    | none =>
      unfold madeTo at ih ⊢
      rw [List.take_add_one, hl]
      simp at ih ⊢
      omega
    | some e =>
      rw [madeTo_succ hl]
      have := Gr.app_len _ (madeTo_ok h k) e
      omega
end Go.Pal
namespace Go.Proofs.YtiojidabmlbogaaGreatDoor
open Go Go.RowKit Go.Pal
attribute [local go_sem] Oper.semAt_some

theorem Rd.take {α : Type} {enc : α → Array Value} {k B : Nat} {w : World} {a : Option Addr} {n c : Nat} {xs : List α} (h : Rd enc k B w (.slice a n c) xs) (m : Nat) : Rd enc k B w (.slice a (xs.take m).length c) (xs.take m) := by
  obtain ⟨a', c', hv, h⟩ := h
  simp only [Value.slice.injEq] at hv
  obtain ⟨rfl, -, rfl⟩ := hv
  refine ⟨_, _, rfl, ?_⟩
  rcases h with rfl | ⟨b, off, ha, hb, hc⟩
  · exact .inl (by simp)
  · refine .inr ⟨b, off, ha, hb, fun i x hi => hc i x ?_⟩
    rw [List.getElem?_take] at hi
    split at hi
    · exact hi
    · cases hi

end Go.Proofs.YtiojidabmlbogaaGreatDoor
