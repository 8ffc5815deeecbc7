/- PolynomialParse answers true for every input, and its arguments read afterwards as .. -/
import Derived.Test.YtgnlebnpnpjfmaaGreatDoorUOpQ
set_option maxRecDepth 100000
set_option linter.all false
namespace Go.Proofs.YtgnlebnpnpjfmaaGreatDoor
open Go Go.ChangeShapes Go.WideShapes Go.ChangeAt Go.RowKit Go.Pal Go.Deep
def Law_plParse : Prop := ∀ (s0 : List UInt8) (_ : (⟨s0.toArray⟩ : ByteArray).size ≤ maxLen) (w : World), Env w →
 Calls Tryz.prog 3 #[.string ⟨s0.toArray⟩] w fun e w' => e = .returned (.bool true) ∧ Below w.heap.size w w'
theorem contract_plParse (hlaw0 : Law_plParse) (H : Type) (enc : TypeId × Value → H) (W : World) (base : Nat) (args : Array Value) (ds gs : List (DataW H)) (before : List MemPlace)
   (hval : ∀ (j : Nat) t v, Tryz.f3.params[j]? = some t → args[j]? = some v → Value.okWide Tryz.prog W .any base t v)
   (hW : DataW.Whole enc Tryz.prog Tryz.f3.params.toList Rows.polynomialParseSpec.vars false W args.toList ds gs before) (hL : laidMetH Tryz.prog polLaid W) (hsh : W.ShapedOpen Tryz.prog) :
   Calls Tryz.prog 3 args W fun e W' => ∃ v, e = .returned v ∧ Rows.polynomialParseSpec.post enc Tryz.prog Tryz.f3 false true false false W args v W' := by
 have hW' := hW
 obtain ⟨p, q, hA0, hV, rfl, hfz, hnd⟩ := hW
 have hA : DataW.TrodAll enc Tryz.prog W 0 (fun _ => true) true Tryz.f3.params.toList args.toList ds p := hA0
 rw [Tryz.params3] at hA hval
 obtain ⟨v0, vs0, d0, ds0, p0, q0, hargs, rfl, rfl, h0, r0⟩ := trodAll_cons hA
 obtain ⟨rfl, rfl, rfl⟩ := trodAll_nil r0
 obtain rfl : args = #[v0] := by cases args; simp_all
 have k0 := h0
 obtain ⟨st0, rfl, rfl, rfl, hst0⟩ := ChangeMaps.open_string Tryz.underlying9 (hval 0 9 v0 rfl rfl) h0
 obtain ⟨tl0, rfl⟩ : ∃ l : List UInt8, st0 = ⟨l.toArray⟩ := ⟨st0.data.toList, by simp⟩
 obtain ⟨rfl, rfl⟩ := trodVars_none hV
 refine (hlaw0 tl0 hst0 W  (env_of hL hsh)).mono fun e W' ⟨he, hb⟩ => ?_
 subst he
 refine ⟨_, rfl, _, _, _, [], [] ++ [], [], hW', ?_, ?_, ?_, hb.frame _, fun h => by cases h⟩
 · exact trodAll_mk1 (shut_bool Tryz.underlying4 true)
 · exact trodAll_cons_mk (WideElems.Trod_stays laidOut (by kernel_rfl) (of_decide_eq_true (by kernel_rfl)) k0 (fun x hx => by cases hx) (fun x hx => by cases hx)) (trodAll_mk0)
 · rfl
theorem laid_eq_plParse : Rows.polynomialParseRow.laid = polLaid := by kernel_rfl
theorem laid_met_plParse (os : Os) : laidMet Tryz.prog polLaid ((laidWorld os).forCall (fun _ _ => 0) ⟨#[], #[.string ⟨#[]⟩], []⟩).memory :=
 laidMet_of_run' 8 (by kernel_rfl) (by kernel_rfl)
theorem reads_plParse (os : Os) {H : Type} (enc : TypeId × Value → H) : ∃ places, DataW.whole enc Tryz.prog ((laidWorld os).forCall (fun _ _ => 0) ⟨#[], #[.string ⟨#[]⟩], []⟩).memory Tryz.f3.params.toList Rows.polynomialParseSpec.vars false #[.string ⟨#[]⟩].toList 40 = some ([.lit (.string [])], [], places) :=
 ⟨[], by kernel_rfl⟩
theorem lifted_plParse (hlaw : Law_plParse) (os : Os) (started : os.Started) (H : Type) (enc : TypeId × Value → H) (F : Stop.Interp) :
   ReturnsInHanded {} Tryz.checked os 3 .any ((OpenSpec.ofChange Rows.polynomialParseSpec).preRow enc Tryz.prog Tryz.f3 Rows.polynomialParseRow.domain false Rows.polynomialParseRow.laid) (((OpenSpec.ofChange Rows.polynomialParseSpec).at F).post enc Tryz.prog Tryz.f3 false true false false) := by
 obtain ⟨places, hx⟩ := reads_plParse os enc
 refine returnsInHanded_of_row (C := Tryz.checked) (s := OpenSpec.ofChange Rows.polynomialParseSpec) own started (by kernel_rfl) Tryz.func3
   (witness_row_at (enc := enc) (C := Tryz.checked) false (laidWorld os) #[.string ⟨#[]⟩] rfl (by kernel_rfl) (by kernel_rfl) (by kernel_rfl)
     (OpenSpec.preRow_of_cond 40 hx (by kernel_rfl) (fun k hk => by cases hk) (by kernel_rfl) (by rw [laid_eq_plParse]; exact laid_met_plParse os))) ?_
 intro W base args ds gs before hval hW _ _ _ hL hsh _
 exact contract_plParse hlaw H enc W base args ds gs before hval hW (by rw [← laid_eq_plParse]; exact hL) hsh
theorem fa1_plParse : (Rows.polynomialParseRow.inPlace == Tryz.pinned.checked.prog.inPlace 3) = true := by kernel_rfl
theorem fa2_plParse : (Rows.polynomialParseRow.unfollowed == Tryz.pinned.checked.prog.unfollowed 3) = true := by kernel_rfl
theorem fa3_plParse : (Rows.polynomialParseRow.recurses == Tryz.pinned.checked.prog.recurses 3) = true := by kernel_rfl
theorem fa4_plParse : (Rows.polynomialParseRow.named == Tryz.pinned.checked.prog.varsNamed 3) = true := by kernel_rfl
theorem facts_plParse : joinedFacts Tryz.pinned.checked.prog 3 Tryz.f3 (OpenSpec.ofChange Rows.polynomialParseSpec).bare Rows.polynomialParseRow = true := by
 unfold joinedFacts
 rw [fa1_plParse, fa2_plParse, fa3_plParse, fa4_plParse]
 kernel_rfl
theorem said_plParse (hlaw : Law_plParse) : Rows.PolynomialParseSaid :=
 OpenClaim.holds_of_cond 3 Tryz.f3 rfl rfl rfl rfl rfl rfl rfl ⟨rfl, rfl, rfl, rfl, rfl⟩ rfl rfl rfl rfl rfl (by kernel_rfl) Tryz.func3 facts_plParse
   (of_decide_eq_true (by kernel_rfl)) (by unfold Func.isWrapper; first | (rw [if_pos (by decide +kernel)]; kernel_rfl) | (rw [if_neg (by decide +kernel)]; exact ⟨rfl, rfl⟩))
   (fun os started H enc _ F => by rw [OpenClaim.pre_eq_preRow]; exact lifted_plParse hlaw os started H enc F)
theorem noStand_plParse : ([9] : List Nat).all (fun t => !Tryz.prog.wantsStandIn t) = true := by kernel_rfl
theorem plain_plParse (f : FuncId) (fn : Func) (hf : Tryz.pinned.checked.prog.funcNamed "palmette/palmettelaw40.PolynomialParse" = some f) (hfn : Tryz.pinned.checked.prog.funcs[f]? = some fn) :
   true = Tryz.pinned.checked.prog.looks [] ∧ ∀ (j : Nat) t, fn.params[j]? = some t → Tryz.pinned.checked.prog.wantsStandIn t = false := by
 obtain rfl : f = 3 := Option.some.inj ((show Tryz.prog.funcNamed "palmette/palmettelaw40.PolynomialParse" = some 3 by kernel_rfl).symm.trans hf) |>.symm
 obtain rfl : fn = Tryz.f3 := (Option.some.inj (Tryz.func3.symm.trans hfn)).symm
 refine ⟨by kernel_rfl, fun j t ht => ?_⟩
 rw [Tryz.params3] at ht
 have ht' : t ∈ ([9] : List Nat) := by simpa using Array.mem_of_getElem? ht
 have h := List.all_eq_true.1 noStand_plParse t ht'
 have h2 : Tryz.prog.wantsStandIn t = false := by simpa using h
 exact h2
end Go.Proofs.YtgnlebnpnpjfmaaGreatDoor
