/- Pairs of numbers opened out of an argument's reading. -/
import Derived.Test.YtgnlebnpnpjfmaaGreatDoorUOp
set_option linter.all false
namespace Go.Proofs.YtgnlebnpnpjfmaaGreatDoor
open Go Go.ChangeShapes Go.WideShapes Go.RowKit Go.Pal Go.Deep
theorem okWide_arr {P : Program} {W : World} {r : Reach} {b n : Nat} {t e : TypeId} {v : Value} (ht : P.underlying t = some (.array n e)) (h : Value.okWide P W r b t v) : ∃ cs, v = .agg cs ∧ cs.size = P.cellsOf t := by
 simp only [Value.okWide, ht] at h
 obtain ⟨cs, h1, h2, -⟩ := h
 exact ⟨cs, h1, h2⟩
theorem wfI64 {n : Int} (h : (Lit.int .i64 n).wf = true) : -9223372036854775808 ≤ n ∧ n ≤ 9223372036854775807 := by
 simp only [Lit.wf, Bool.and_eq_true, decide_eq_true_eq] at h
 rwa [show IntKind.i64.min = -9223372036854775808 from rfl, show IntKind.i64.max = 9223372036854775807 from rfl] at h
theorem wfU64 {n : Int} (h : (Lit.int .u64 n).wf = true) : 0 ≤ n ∧ n ≤ 18446744073709551615 := by
 simp only [Lit.wf, Bool.and_eq_true, decide_eq_true_eq] at h
 rwa [show IntKind.u64.min = 0 from rfl, show IntKind.u64.max = 18446744073709551615 from rfl] at h
section
variable {H : Type} {enc : TypeId × Value → H} {w : World} {base : Nat} {spare : Nat → Bool} {held : Bool}
theorem open_pair {P : Program} {t e : TypeId} {k : IntKind} (ht : P.underlying t = some (.array 2 e)) (he : P.underlying e = some (.int k)) (hc : P.cellsOf e = 1) (hct : P.cellsOf t = 2) {fuel : Nat} {cs : List Value} {x : DataW H × List MemPlace}
   (h : DataW.trod enc P w base spare held fuel t cs = some x) : ∃ a b : Int, cs = [.int k a, .int k b] ∧ (Lit.int k a).wf = true ∧ (Lit.int k b).wf = true ∧ x.2 = [] := by
 obtain ⟨xs, m, _, rfl, hl, hxl, hf⟩ := DataW.trod_array ht h
 rw [hct] at hl
 match xs, hxl with
 | [y0, y1], _ =>
   have h0 := hf 0 (by decide)
   have h1 := hf 1 (by decide)
   rw [hc] at h0 h1
   obtain ⟨a, ca, za, wa⟩ := DataW.trod_int he h0
   obtain ⟨b, cb, zb, wb⟩ := DataW.trod_int he h1
   have e0 : cs[0]? = some (.int k a) := get_of_one (i := 0) (by simpa using ca)
   have e1 : cs[1]? = some (.int k b) := get_of_one (i := 1) (by simpa using cb)
   have k0 : y0.2 = [] := by rw [za]
   have k1 : y1.2 = [] := by rw [zb]
   refine ⟨a, b, ?_, wa, wb, by simp [k0, k1]⟩
   apply List.ext_getElem?
   intro i
   match i with
   | 0 => rw [e0]; rfl
   | 1 => rw [e1]; rfl
   | i + 2 => rw [List.getElem?_eq_none (by omega)]; rfl
end
end Go.Proofs.YtgnlebnpnpjfmaaGreatDoor
