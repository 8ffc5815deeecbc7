/- Walks of graphio: changes, Diff. -/
import Derived.Test.YtglnhnjmelilmaaGreatDoorPYC
import Derived.Test.YtglnhnjmelilmaaGreatDoorPJm
set_option linter.all false
namespace Go.Pal
open Go Go.RowKit
section
variable {α : Type} {enc : α → Array Value} {k : Nat} {w w' : World} {xs : List α}
theorem Rd.keep {qa : Option Addr} {n c : Nat} (h : Rd enc k w.heap.size w (.slice qa n c) xs) (hs : w.heap.size ≤ w'.heap.size) (hk : ∀ a, qa = some a → w'.heap[a.block]? = w.heap[a.block]?) : Rd enc k w'.heap.size w' (.slice qa n c) xs := by
 obtain ⟨q, cq, hv, h⟩ := h
 refine ⟨q, cq, hv, h.imp id ?_⟩
 rintro ⟨b, off, ha, hb, hc⟩
 refine ⟨b, off, ha, by omega, fun i x hi j u hu => ?_⟩
 rw [← hc i x hi j u hu]
 simp only [Value.slice.injEq] at hv
 have := hk ⟨b, off, none⟩ (hv.1.trans ha)
 unfold World.cell?
 rw [this]
end
end Go.Pal
namespace Go.Proofs.YtglnhnjmelilmaaGreatDoor
open Go Go.RowKit Go.Pal
attribute [local go_sem] Oper.semAt_some
def elED : ElT Tryz.prog 23 5 edC where
 bytes := 40
 zero := .agg #[.int .i64 0, .int .i64 0, .int .i64 0, .int .u8 0, .int .i64 0]
 info := by kernel_rfl
 zc := rfl
 pos := by decide
 small := by decide
 size _ := rfl
 one x u hu := by simp [edC] at hu; rcases hu with rfl | rfl | rfl | rfl | rfl <;> rfl
abbrev OwnED := OwnR 23 5 edC
@[go_sem] theorem loadED_at (w : World) (g : Nat) : rowLoad Tryz.prog 23 ⟨g, 0, none⟩ w = match row? w g with
     | some c => if c.size = 5 then .ok (.agg c) w else laterLoad Tryz.prog 23 ⟨g, 0, none⟩ w
     | none => laterLoad Tryz.prog 23 ⟨g, 0, none⟩ w := load_row Tryz.isAgg23 Tryz.sizeOf23 w g
@[go_sem ↓ high] theorem bs_ED (a b c d e : Int) (w : World) : (Instr.buildSlice 37 1 #[(0, .agg #[.int .i64 a, .int .i64 b, .int .i64 c, .int .u8 d, .int .i64 e])]).run Tryz.prog w = .ok (.slice (some ⟨w.heap.size, 0, none⟩) 1 1) (w.alloc (.cells #[.int .i64 a, .int .i64 b, .int .i64 c, .int .u8 d, .int .i64 e] 23)) := by kernel_rfl
@[go_sem ↓ high] theorem b_EdR (u : Int) (w : World) : (Instr.build 23 #[(0, .int .i64 1), (1, .int .i64 u)]).run Tryz.prog w = .ok (.agg #[.int .i64 1, .int .i64 u, .int .i64 0, .int .u8 0, .int .i64 0]) w := by kernel_rfl
@[go_sem ↓ high] theorem b_EdP (u v : Int) (w : World) : (Instr.build 23 #[(0, .int .i64 3), (1, .int .i64 u), (2, .int .i64 v)]).run Tryz.prog w = .ok (.agg #[.int .i64 3, .int .i64 u, .int .i64 v, .int .u8 0, .int .i64 0]) w := by kernel_rfl
@[go_sem ↓ high] theorem b_Ed4V (u l : Int) (w : World) : (Instr.build 23 #[(0, .int .i64 4), (1, .int .i64 u), (3, .int .u8 l)]).run Tryz.prog w = .ok (.agg #[.int .i64 4, .int .i64 u, .int .i64 0, .int .u8 l, .int .i64 0]) w := by kernel_rfl
@[go_sem ↓ high] theorem b_Ed5V (u t : Int) (w : World) : (Instr.build 23 #[(0, .int .i64 5), (1, .int .i64 u), (4, .int .i64 t)]).run Tryz.prog w = .ok (.agg #[.int .i64 5, .int .i64 u, .int .i64 0, .int .u8 0, .int .i64 t]) w := by kernel_rfl
@[go_sem ↓ high] theorem b_Ed6E (u v l : Int) (w : World) : (Instr.build 23 #[(0, .int .i64 6), (1, .int .i64 u), (2, .int .i64 v), (3, .int .u8 l)]).run Tryz.prog w = .ok (.agg #[.int .i64 6, .int .i64 u, .int .i64 v, .int .u8 l, .int .i64 0]) w := by kernel_rfl
@[go_sem ↓ high] theorem b_Ed7E (u v t : Int) (w : World) : (Instr.build 23 #[(0, .int .i64 7), (1, .int .i64 u), (2, .int .i64 v), (4, .int .i64 t)]).run Tryz.prog w = .ok (.agg #[.int .i64 7, .int .i64 u, .int .i64 v, .int .u8 0, .int .i64 t]) w := by kernel_rfl
end Go.Proofs.YtglnhnjmelilmaaGreatDoor
