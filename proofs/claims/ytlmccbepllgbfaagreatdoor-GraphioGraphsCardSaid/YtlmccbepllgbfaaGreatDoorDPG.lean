/- Rules for a drawn region with guards. -/
import Derived.Test.YtlmccbepllgbfaaGreatDoorDMx
import Derived.Test.YtlmccbepllgbfaaGreatDoorDGrf
set_option linter.all false
namespace Go.Proofs.YtlmccbepllgbfaaGreatDoor
open Go Go.RowKit Go.Pal
attribute [local go_sem] Oper.semAt_some
theorem wpPlan_stillG {ops : Array Oper} {S : World → Prop} {Q : Exit → Act → World → Prop} {K : Act → World → Prop} {a : Act} {w : World} {k : Nat} {r : List (Nat × Bool)} {o : Oper} {v : Value} (ho : ops[k]? = some o) (hw : Region.wanted o (yielded ops a.tmps) = true) (hv : ∀ w, S w → (execOp a.eval o).run Tryz.prog w = .ok (.value v) w)
   (h : ∀ K' : Act → World → Prop, (∀ a w, wpPlan Tryz.prog ops S Q K r a w → K' a w) → K' (a.put o.dst v) w) : wpPlan Tryz.prog ops S Q K ((k, true) :: r) a w :=
 ⟨o, v, ho, .inl ⟨hw, hv⟩, h _ fun _ _ h => h⟩
theorem wpPlan_actG {ops : Array Oper} {S : World → Prop} {Q : Exit → Act → World → Prop} {K : Act → World → Prop} {a : Act} {w : World} {k : Nat} {r : List (Nat × Bool)} {o : Oper} (ho : ops[k]? = some o) (hw : Region.wanted o (yielded ops a.tmps) = true)
   (h : ∀ K' : Act → World → Prop, (∀ a w, S w → wpPlan Tryz.prog ops S Q K r a w → K' a w) → o.wp Tryz.prog a w K' Q) : wpPlan Tryz.prog ops S Q K ((k, false) :: r) a w := by
 show wpOp Tryz.prog ops Q k _ a w
 unfold wpOp
 simp only [ho, hw, if_true]
 exact .inl (h _ fun a w hs hp => ⟨hs, hp⟩)
end Go.Proofs.YtlmccbepllgbfaaGreatDoor
