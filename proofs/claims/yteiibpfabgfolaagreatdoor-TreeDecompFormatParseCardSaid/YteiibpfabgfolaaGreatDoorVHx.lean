/- The reference's types of graphs in memory: loads, stores, built values. Walks of the .. -/
import Derived.Test.YteiibpfabgfolaaGreatDoorVVb
import Derived.Test.YteiibpfabgfolaaGreatDoorVGp
import Derived.Test.YteiibpfabgfolaaGreatDoorVGrG
import Derived.Test.YteiibpfabgfolaaGreatDoorVGrf
import Derived.Deep.DeepCutAuto
import Derived.Deep.CutBlock
import Derived.Test.YteiibpfabgfolaaGreatDoorVGrH
set_option linter.all false
namespace Go.Proofs.YteiibpfabgfolaaGreatDoor
open Go Go.RowKit Go.Pal
@[go_sem] theorem allOne_sl2 (a a' : Option Addr) (n n' c c' : Nat) : allOne #[.slice a n c, .slice a' n' c'] = true := by unfold allOne; simp [Value.oneCell']
@[go_sem] theorem allOne_i3 (a b c : Int) (p q r : IntKind) : allOne #[.int p a, .int q b, .int r c] = true := by unfold allOne; simp [Value.oneCell']
@[go_sem] theorem allOne_i4 (a b c d : Int) (p q r s : IntKind) : allOne #[.int p a, .int q b, .int r c, .int s d] = true := by unfold allOne; simp [Value.oneCell']
end Go.Proofs.YteiibpfabgfolaaGreatDoor
namespace Go.Proofs.YteiibpfabgfolaaGreatDoor
open Go Go.RowKit Go.Pal
attribute [local go_sem] Oper.semAt_some
end Go.Proofs.YteiibpfabgfolaaGreatDoor
namespace Go.Pal
open Go Go.RowKit
theorem results_c2 {P : Program} {fn : Func} {p q : Tmp} {ty n : Nat} (h : fn.results = #[.cell p ty, .tmp q]) (hagg : ∀ w, (isAgg ty).run P w = .ok true w) (hn : ∀ w, (sizeOf ty).run P w = .ok n w)
   (tmps : Array Value) (w : World) (g : Nat) (c : Array Value) (hp : tmps.getD p undef = .pointer (some ⟨g, 0, none⟩)) (hg : row? w g = some c) (hc : c.size = n) :
   (results fn tmps).run P w = .ok (.tuple #[.agg c, tmps.getD q undef]) w := by
 have hp' : tmps[p]?.getD undef = .pointer (some ⟨g, 0, none⟩) := by simpa using hp
 have hl := load_row (P := P) hagg hn w g
 rw [hg] at hl
 simp only [hc, if_true] at hl
 unfold rowLoad at hl
 simp [results, h, hp', asAddr, hl]
theorem ret_c2 {P : Program} {fn : Func} {R : Ending → World → Prop} {a : Act} {w : World} {p q : Tmp} {ty n : Nat} (g : Nat) (c : Array Value) (h : fn.results = #[.cell p ty, .tmp q]) (hagg : ∀ w, (isAgg ty).run P w = .ok true w) (hn : ∀ w, (sizeOf ty).run P w = .ok n w)
   (hp : a.tmps.getD p undef = .pointer (some ⟨g, 0, none⟩)) (hd : a.defers = []) (hg : row? w g = some c) (hc : c.size = n) (hR : R (.returned (.tuple #[.agg c, a.tmps.getD q undef])) w) : bodyPost P fn R .ret a w :=
 bodyPost_ret (results_c2 h hagg hn a.tmps w g c hp hg hc) hd hR
end Go.Pal
namespace Go.Proofs.YteiibpfabgfolaaGreatDoor
open Go Go.RowKit Go.Pal
attribute [local go_sem] Oper.semAt_some
def RefG (w : World) (vV vE : Value) (G : Gr) : Prop := Rd vtxA 3 w.heap.size w vV G.V ∧ Rd edgA 4 w.heap.size w vE G.E
theorem RefG.below {w w' : World} {vV vE : Value} {G : Gr} (h : RefG w vV vE G) (hb : Below w.heap.size w w') : RefG w' vV vE G :=
 ⟨(h.1.below hb (Nat.le_refl _)).mono hb.size, (h.2.below hb (Nat.le_refl _)).mono hb.size⟩
end Go.Proofs.YteiibpfabgfolaaGreatDoor
