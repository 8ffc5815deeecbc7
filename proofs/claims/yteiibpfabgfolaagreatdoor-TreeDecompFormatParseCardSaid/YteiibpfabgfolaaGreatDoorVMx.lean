/- A region whose order is drawn: a plan for the first operations, as the text on plans has .. -/
import Derived.Test.YteiibpfabgfolaaGreatDoorVRule
import Derived.Test.YteiibpfabgfolaaGreatDoorVGrf
set_option linter.all false
namespace Go.Pal
open Go
section
variable {P : Program} {ops : Array Oper} {md : Region.Mode} {S : World → Prop} {Q : Exit → Act → World → Prop}
end
section
variable {P : Program} {ops : Array Oper} {md : Region.Mode} {S1 S2 : World → Prop} {z : Nat} {Q : Exit → Act → World → Prop}
def SLz (S1 S2 : World → Prop) (z : Nat) (listed : Array Bool) (w : World) : Prop := (listed.getD z false = false → S1 w) ∧ (listed.getD z false = true → S2 w)
theorem SLz.set {i : Nat} {listed : Array Bool} {w : World} (h : i ≠ z) : SLz S1 S2 z (listed.setIfInBounds i true) w ↔ SLz S1 S2 z listed w := by
 unfold SLz
 rw [getD_set_ne false h]
end
end Go.Pal
namespace Go.Proofs.YteiibpfabgfolaaGreatDoor
open Go Go.RowKit Go.Pal
attribute [local go_sem] Oper.semAt_some
theorem wpPlan_stillG {ops : Array Oper} {S : World → Prop} {Q : Exit → Act → World → Prop} {K : Act → World → Prop} {a : Act} {w : World} {k : Nat} {r : List (Nat × Bool)} {o : Oper} {v : Value} (ho : ops[k]? = some o) (hw : Region.wanted o (yielded ops a.tmps) = true) (hv : ∀ w, S w → (execOp a.eval o).run Tryz.prog w = .ok (.value v) w)
   (h : ∀ K' : Act → World → Prop, (∀ a w, wpPlan Tryz.prog ops S Q K r a w → K' a w) → K' (a.put o.dst v) w) : wpPlan Tryz.prog ops S Q K ((k, true) :: r) a w :=
 ⟨o, v, ho, .inl ⟨hw, hv⟩, h _ fun _ _ h => h⟩
theorem wpPlan_actG {ops : Array Oper} {S : World → Prop} {Q : Exit → Act → World → Prop} {K : Act → World → Prop} {a : Act} {w : World} {k : Nat} {r : List (Nat × Bool)} {o : Oper} (ho : ops[k]? = some o) (hw : Region.wanted o (yielded ops a.tmps) = true)
   (h : ∀ K' : Act → World → Prop, (∀ a w, S w → wpPlan Tryz.prog ops S Q K r a w → K' a w) → o.wp Tryz.prog a w K' Q) : wpPlan Tryz.prog ops S Q K ((k, false) :: r) a w := by
 show wpOp Tryz.prog ops Q k _ a w
 unfold wpOp
 simp only [ho, hw, if_true]
 exact .inl (h _ fun a w hs hp => ⟨hs, hp⟩)
end Go.Proofs.YteiibpfabgfolaaGreatDoor
