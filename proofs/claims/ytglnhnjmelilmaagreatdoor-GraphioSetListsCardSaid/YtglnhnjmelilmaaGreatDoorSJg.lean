/- Walks: the law's begun (a graph of edits, an order of its vertices). Walk: the law's few .. -/
import Derived.Test.YtglnhnjmelilmaaGreatDoorSJm
import Derived.Test.YtglnhnjmelilmaaGreatDoorSOp
import Derived.Test.YtglnhnjmelilmaaGreatDoorSVe
import Derived.Test.YtglnhnjmelilmaaGreatDoorSMx
set_option linter.all false
namespace Go.Pal
open Go
end Go.Pal
namespace Go.Proofs.YtglnhnjmelilmaaGreatDoor
open Go Go.RowKit Go.Pal
attribute [local go_sem] Oper.semAt_some
theorem Rd.take {α : Type} {enc : α → Array Value} {k B : Nat} {w : World} {a : Option Addr} {n c : Nat} {xs : List α} (h : Rd enc k B w (.slice a n c) xs) (m : Nat) : Rd enc k B w (.slice a (xs.take m).length c) (xs.take m) := by
 obtain ⟨a', c', hv, h⟩ := h
 simp only [Value.slice.injEq] at hv
 obtain ⟨rfl, -, rfl⟩ := hv
 refine ⟨_, _, rfl, ?_⟩
 rcases h with rfl | ⟨b, off, ha, hb, hc⟩
 · exact .inl (by simp)
 · refine .inr ⟨b, off, ha, hb, fun i x hi => hc i x ?_⟩
   rw [List.getElem?_take] at hi
   split at hi
   · exact hi
   · cases hi
end Go.Proofs.YtglnhnjmelilmaaGreatDoor
