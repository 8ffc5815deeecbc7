/- DERIVED: THE SHELF's CONTRACTS AT THIS DUMP, IN PLAIN WORDS (tools/lay-plain.mjs out of .. -/
import Derived.Shelf.SlMaps.Clone
import Derived.Test.YtglnhnjmelilmaaGreatDoorProg
import Derived.Test.YtglnhnjmelilmaaGreatDoorPYd
import Derived.Test.YtglnhnjmelilmaaGreatDoorPVh
import Derived.Test.YtglnhnjmelilmaaGreatDoorPHE
set_option linter.all false
namespace Go.Proofs
open Go.Shelf
end Go.Proofs
namespace Go.Proofs.YtglnhnjmelilmaaGreatDoor
open Go Go.RowKit Go.Pal Go.Shelf
attribute [local go_sem] Oper.semAt_some
@[go_sem] theorem storeRD_at (w : World) (g : Nat) (d : Array Value) : rowStore Tryz.prog 30 ⟨g, 0, none⟩ (.agg d) w = match row? w g with
     | some c => if c.size = 5 ∧ d.size = 5 ∧ allOne d = true then .ok () (w.setRow g d) else laterStore Tryz.prog 30 ⟨g, 0, none⟩ (.agg d) w
     | none => laterStore Tryz.prog 30 ⟨g, 0, none⟩ (.agg d) w := store_row Tryz.sizeOf30 w g d
@[go_sem ↓ high] theorem zeroRD (w : World) : (zeroValue 30).run Tryz.prog w = .ok (.agg #[.int .i64 0, .int .i64 0, .int .i64 0, .int .u8 0, .int .i64 0]) w := by kernel_rfl
@[go_sem] theorem allOne_i5 (a b c d e : Int) (p q r s t : IntKind) : allOne #[.int p a, .int q b, .int r c, .int s d, .int t e] = true := by unfold allOne; simp [Value.oneCell']
@[go_sem ↓ high] theorem b_RDall (o u v l t : Int) (w : World) : (Instr.build 30 #[(0, .int .i64 o), (1, .int .i64 u), (2, .int .i64 v), (3, .int .u8 l), (4, .int .i64 t)]).run Tryz.prog w = .ok (.agg #[.int .i64 o, .int .i64 u, .int .i64 v, .int .u8 l, .int .i64 t]) w := by kernel_rfl
theorem d06_any (e : Ed) (w : World) : Calls Tryz.prog 13 #[.agg (edC e)] w fun r w' => r = .returned (.agg (edC e)) ∧ Below w.heap.size w w' := by
 obtain ⟨o, u, v, l, t⟩ := e
 have he : edC ⟨o, u, v, l, t⟩ = #[.int .i64 o, .int .i64 u, .int .i64 v, .int .u8 (l : Int), .int .i64 t] := rfl
 rw [he]
 clear he
 go_enter Tryz.func13, Tryz.ntmps13
 go_wp2_with fail
 refine ret_row (w.heap.size + 1) #[.int .i64 o, .int .i64 u, .int .i64 v, .int .u8 (l : Int), .int .i64 t] rfl Tryz.isAgg30 Tryz.sizeOf30 rfl rfl (by simp [go_sem]) rfl ⟨rfl, ?_⟩
 (repeat' (first | (with_reducible first | exact Below.refl _ _ | assumption | refine Below.alloc ?_ ?_ _ | refine Below.drew ?_ | refine Below.setCell ?_ ?_ _ | refine below_setRow ?_ ?_ _ | exact Nat.le_refl _) | omega | (simp; done) | (simp; omega) | (simp at *; omega)))
set_option maxRecDepth 10000 in
theorem eqRD (a b c d e : Int) (w : World) : (Op.equalIn 10000 30 (.agg #[.int .i64 a, .int .i64 b, .int .i64 c, .int .u8 d, .int .i64 e]) (.agg #[.int .i64 a, .int .i64 b, .int .i64 c, .int .u8 d, .int .i64 e])).run Tryz.prog w = .ok true w := by
 have hst : Tryz.prog.stoodInHeld 30 = false := by kernel_rfl
 have h1 : ∀ (p : Int) w, (Op.equalIn 9999 3 (.int .i64 p) (.int .i64 p)).run Tryz.prog w = .ok true w := fun p w => by rw [run_equalIn_int (P := Tryz.prog) w 9998 3 .i64 .i64 p p Tryz.underlying3]; simp
 have h2 : ∀ (p : Int) w, (Op.equalIn 9999 5 (.int .u8 p) (.int .u8 p)).run Tryz.prog w = .ok true w := fun p w => by rw [run_equalIn_int (P := Tryz.prog) w 9998 5 .u8 .u8 p p Tryz.underlying5]; simp
 have hpr : ∀ w, (program).run Tryz.prog w = .ok Tryz.prog w := fun _ => rfl
 rw [show (10000 : Nat) = 9999 + 1 from rfl, Op.equalIn]
 simp only [Sem.run_bind, run_underlying Tryz.underlying30, Result.andThen_ok, hpr, hst, Bool.false_eq_true, if_false, List.forIn_toArray, List.forIn_cons, List.forIn_nil]
 simp [Sem.run_bind, part, Tryz.isAgg3, Tryz.isAgg5, h1, h2]
theorem guardRD : Tryz.prog.eqGuardType Tryz.prog.depth 30 = false := by kernel_rfl
end Go.Proofs.YtglnhnjmelilmaaGreatDoor
