/- PolynomialRing answers true for every input, and its arguments read afterwards as before: .. -/
import Derived.Test.YtgnlebnpnpjfmaaGreatDoorUOp
set_option maxRecDepth 100000
set_option linter.all false
namespace Go.Proofs.YtgnlebnpnpjfmaaGreatDoor
open Go Go.ChangeShapes Go.WideShapes Go.ChangeAt Go.RowKit Go.Pal Go.Deep
def Law_plRing : Prop := ∀ (S T : List Tm), (∀ t ∈ S, TmOk t) → (∀ t ∈ T, TmOk t) → ∀ (va vb : Value) (w : World), Rd tmA 3 w.heap.size w va S → Rd tmA 3 w.heap.size w vb T → Env w →
 Calls Tryz.prog 9 #[va, vb] w fun e w' => e = .returned (.bool true) ∧ Below w.heap.size w w'
theorem contract_plRing (hlaw0 : Law_plRing) (H : Type) (enc : TypeId × Value → H) (W : World) (base : Nat) (args : Array Value) (ds gs : List (DataW H)) (before : List MemPlace)
   (hval : ∀ (j : Nat) t v, Tryz.f9.params[j]? = some t → args[j]? = some v → Value.okWide Tryz.prog W .any base t v)
   (hW : DataW.Whole enc Tryz.prog Tryz.f9.params.toList Rows.polynomialRingSpec.vars false W args.toList ds gs before) (hL : laidMetH Tryz.prog polLaid W) (hsh : W.ShapedOpen Tryz.prog) :
   Calls Tryz.prog 9 args W fun e W' => ∃ v, e = .returned v ∧ Rows.polynomialRingSpec.post enc Tryz.prog Tryz.f9 false true false false W args v W' := by
 have hW' := hW
 obtain ⟨p, q, hA0, hV, rfl, hfz, hnd⟩ := hW
 have hA : DataW.TrodAll enc Tryz.prog W 0 (fun _ => true) true Tryz.f9.params.toList args.toList ds p := hA0
 rw [Tryz.params9] at hA hval
 obtain ⟨v0, vs0, d0, ds0, p0, q0, hargs, rfl, rfl, h0, r0⟩ := trodAll_cons hA
 obtain ⟨v2, vs2, d2, ds2, p2, q2, rfl, rfl, rfl, h2, r2⟩ := trodAll_cons r0
 obtain ⟨rfl, rfl, rfl⟩ := trodAll_nil r2
 obtain rfl : args = #[v0, v2] := by cases args; simp_all
 obtain ⟨ua, ul, uc, rfl⟩ := okWide_slice Tryz.underlying36 (hval 0 36 v0 rfl rfl)
 obtain ⟨ub, um, ud, rfl⟩ := okWide_slice Tryz.underlying36 (hval 1 36 v2 rfl rfl)
 obtain ⟨rfl, rfl⟩ := trodVars_none hV
 have k0 := h0
 have k2 := h2
 obtain ⟨fu0, hf0⟩ := h0
 obtain ⟨fu2, hf2⟩ := h2
 obtain ⟨T0, hr0, ht0, hm0, -⟩ := open_tms hf0
 obtain ⟨T2, hr2, ht2, hm2, -⟩ := open_tms hf2
 refine (hlaw0 T0 T2 ht0 ht2 _ _ W hr0 hr2 (env_of hL hsh)).mono fun e W' ⟨he, hb⟩ => ?_
 subst he
 refine ⟨_, rfl, _, _, _, [], p0 ++ (p2 ++ []), [], hW', ?_, ?_, ?_, hb.frame _, fun h => by cases h⟩
 · exact trodAll_mk1 (shut_bool Tryz.underlying4 true)
 · refine trodAll_cons_mk (WideElems.Trod_stays laidOut (by kernel_rfl) (of_decide_eq_true (by kernel_rfl)) k0 (fun x hx => ?_) (fun x hx => ?_)) (trodAll_cons_mk (WideElems.Trod_stays laidOut (by kernel_rfl) (of_decide_eq_true (by kernel_rfl)) k2 (fun x hx => ?_) (fun x hx => ?_)) trodAll_mk0)
   · have hlt : x.block < W.heap.size := by simpa using hW'.lt x (by simp [hx])
     have hk : W.keptBut W' (fun _ => False) := hb.frame _
     exact World.keptBut.sameAt hk hlt (fun h => h) (fun b e => absurd e (hm0 x hx b))
   · have hlt : x.block < W.heap.size := by simpa using hW'.lt x (by simp [hx])
     simpa using hlt
   · have hlt : x.block < W.heap.size := by simpa using hW'.lt x (by simp [hx])
     have hk : W.keptBut W' (fun _ => False) := hb.frame _
     exact World.keptBut.sameAt hk hlt (fun h => h) (fun b e => absurd e (hm2 x hx b))
   · have hlt : x.block < W.heap.size := by simpa using hW'.lt x (by simp [hx])
     simpa using hlt
 · rfl
theorem laid_eq_plRing : Rows.polynomialRingRow.laid = polLaid := by kernel_rfl
theorem laid_met_plRing (os : Os) : laidMet Tryz.prog polLaid ((laidWorld os).forCall (fun _ _ => 0) ⟨#[], #[.slice none 0 0, .slice none 0 0], []⟩).memory :=
 laidMet_of_run' 8 (by kernel_rfl) (by kernel_rfl)
theorem reads_plRing (os : Os) {H : Type} (enc : TypeId × Value → H) : ∃ places, DataW.whole enc Tryz.prog ((laidWorld os).forCall (fun _ _ => 0) ⟨#[], #[.slice none 0 0, .slice none 0 0], []⟩).memory Tryz.f9.params.toList Rows.polynomialRingSpec.vars false #[.slice none 0 0, .slice none 0 0].toList 40 = some ([.nil, .nil], [], places) :=
 ⟨[], by kernel_rfl⟩
theorem lifted_plRing (hlaw : Law_plRing) (os : Os) (started : os.Started) (H : Type) (enc : TypeId × Value → H) (F : Stop.Interp) :
   ReturnsInHanded {} Tryz.checked os 9 .any ((OpenSpec.ofChange Rows.polynomialRingSpec).preRow enc Tryz.prog Tryz.f9 Rows.polynomialRingRow.domain false Rows.polynomialRingRow.laid) (((OpenSpec.ofChange Rows.polynomialRingSpec).at F).post enc Tryz.prog Tryz.f9 false true false false) := by
 obtain ⟨places, hx⟩ := reads_plRing os enc
 refine returnsInHanded_of_row (C := Tryz.checked) (s := OpenSpec.ofChange Rows.polynomialRingSpec) own started (by kernel_rfl) Tryz.func9
   (witness_row_at (enc := enc) (C := Tryz.checked) false (laidWorld os) #[.slice none 0 0, .slice none 0 0] rfl (by kernel_rfl) (by kernel_rfl) (by kernel_rfl)
     (OpenSpec.preRow_of_cond 40 hx (by kernel_rfl) (fun k hk => by cases hk) (by kernel_rfl) (by rw [laid_eq_plRing]; exact laid_met_plRing os))) ?_
 intro W base args ds gs before hval hW _ _ _ hL hsh _
 exact contract_plRing hlaw H enc W base args ds gs before hval hW (by rw [← laid_eq_plRing]; exact hL) hsh
theorem fa1_plRing : (Rows.polynomialRingRow.inPlace == Tryz.pinned.checked.prog.inPlace 9) = true := by kernel_rfl
theorem fa2_plRing : (Rows.polynomialRingRow.unfollowed == Tryz.pinned.checked.prog.unfollowed 9) = true := by kernel_rfl
theorem fa3_plRing : (Rows.polynomialRingRow.recurses == Tryz.pinned.checked.prog.recurses 9) = true := by kernel_rfl
theorem fa4_plRing : (Rows.polynomialRingRow.named == Tryz.pinned.checked.prog.varsNamed 9) = true := by kernel_rfl
theorem facts_plRing : joinedFacts Tryz.pinned.checked.prog 9 Tryz.f9 (OpenSpec.ofChange Rows.polynomialRingSpec).bare Rows.polynomialRingRow = true := by
 unfold joinedFacts
 rw [fa1_plRing, fa2_plRing, fa3_plRing, fa4_plRing]
 kernel_rfl
theorem said_plRing (hlaw : Law_plRing) : Rows.PolynomialRingSaid :=
 OpenClaim.holds_of_cond 9 Tryz.f9 rfl rfl rfl rfl rfl rfl rfl ⟨rfl, rfl, rfl, rfl, rfl⟩ rfl rfl rfl rfl rfl (by kernel_rfl) Tryz.func9 facts_plRing
   (of_decide_eq_true (by kernel_rfl)) (by unfold Func.isWrapper; first | (rw [if_pos (by decide +kernel)]; kernel_rfl) | (rw [if_neg (by decide +kernel)]; exact ⟨rfl, rfl⟩))
   (fun os started H enc _ F => by rw [OpenClaim.pre_eq_preRow]; exact lifted_plRing hlaw os started H enc F)
theorem noStand_plRing : ([36, 36] : List Nat).all (fun t => !Tryz.prog.wantsStandIn t) = true := by kernel_rfl
theorem plain_plRing (f : FuncId) (fn : Func) (hf : Tryz.pinned.checked.prog.funcNamed "palmette/palmettelaw40.PolynomialRing" = some f) (hfn : Tryz.pinned.checked.prog.funcs[f]? = some fn) :
   true = Tryz.pinned.checked.prog.looks [] ∧ ∀ (j : Nat) t, fn.params[j]? = some t → Tryz.pinned.checked.prog.wantsStandIn t = false := by
 obtain rfl : f = 9 := Option.some.inj ((show Tryz.prog.funcNamed "palmette/palmettelaw40.PolynomialRing" = some 9 by kernel_rfl).symm.trans hf) |>.symm
 obtain rfl : fn = Tryz.f9 := (Option.some.inj (Tryz.func9.symm.trans hfn)).symm
 refine ⟨by kernel_rfl, fun j t ht => ?_⟩
 rw [Tryz.params9] at ht
 have ht' : t ∈ ([36, 36] : List Nat) := by simpa using Array.mem_of_getElem? ht
 have h := List.all_eq_true.1 noStand_plRing t ht'
 have h2 : Tryz.prog.wantsStandIn t = false := by simpa using h
 exact h2
end Go.Proofs.YtgnlebnpnpjfmaaGreatDoor
