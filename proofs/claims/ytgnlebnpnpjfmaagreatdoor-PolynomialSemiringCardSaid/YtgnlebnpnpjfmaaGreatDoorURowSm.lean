/- PolynomialSemiring answers true for every input, and its arguments read afterwards as .. -/
import Derived.Test.YtgnlebnpnpjfmaaGreatDoorUOp
set_option maxRecDepth 100000
set_option linter.all false
namespace Go.Proofs.YtgnlebnpnpjfmaaGreatDoor
open Go Go.ChangeShapes Go.WideShapes Go.ChangeAt Go.RowKit Go.Pal Go.Deep
def Law_plSemi : Prop := ∀ (S T U : List Tm), (∀ t ∈ S, TmOk t) → (∀ t ∈ T, TmOk t) → (∀ t ∈ U, TmOk t) → ∀ (va vb vc : Value) (w : World), Rd tmA 3 w.heap.size w va S → Rd tmA 3 w.heap.size w vb T → Rd tmA 3 w.heap.size w vc U → Env w →
 Calls Tryz.prog 5 #[va, vb, vc] w fun e w' => e = .returned (.bool true) ∧ Below w.heap.size w w'
theorem contract_plSemi (hlaw0 : Law_plSemi) (H : Type) (enc : TypeId × Value → H) (W : World) (base : Nat) (args : Array Value) (ds gs : List (DataW H)) (before : List MemPlace)
   (hval : ∀ (j : Nat) t v, Tryz.f5.params[j]? = some t → args[j]? = some v → Value.okWide Tryz.prog W .any base t v)
   (hW : DataW.Whole enc Tryz.prog Tryz.f5.params.toList Rows.polynomialSemiringSpec.vars false W args.toList ds gs before) (hL : laidMetH Tryz.prog polLaid W) (hsh : W.ShapedOpen Tryz.prog) :
   Calls Tryz.prog 5 args W fun e W' => ∃ v, e = .returned v ∧ Rows.polynomialSemiringSpec.post enc Tryz.prog Tryz.f5 false true false false W args v W' := by
 have hW' := hW
 obtain ⟨p, q, hA0, hV, rfl, hfz, hnd⟩ := hW
 have hA : DataW.TrodAll enc Tryz.prog W 0 (fun _ => true) true Tryz.f5.params.toList args.toList ds p := hA0
 rw [Tryz.params5] at hA hval
 obtain ⟨v0, vs0, d0, ds0, p0, q0, hargs, rfl, rfl, h0, r0⟩ := trodAll_cons hA
 obtain ⟨v2, vs2, d2, ds2, p2, q2, rfl, rfl, rfl, h2, r2⟩ := trodAll_cons r0
 obtain ⟨v4, vs4, d4, ds4, p4, q4, rfl, rfl, rfl, h4, r4⟩ := trodAll_cons r2
 obtain ⟨rfl, rfl, rfl⟩ := trodAll_nil r4
 obtain rfl : args = #[v0, v2, v4] := by cases args; simp_all
 obtain ⟨ua, ul, uc, rfl⟩ := okWide_slice Tryz.underlying36 (hval 0 36 v0 rfl rfl)
 obtain ⟨ub, um, ud, rfl⟩ := okWide_slice Tryz.underlying36 (hval 1 36 v2 rfl rfl)
 obtain ⟨ue, un, uf, rfl⟩ := okWide_slice Tryz.underlying36 (hval 2 36 v4 rfl rfl)
 obtain ⟨rfl, rfl⟩ := trodVars_none hV
 have k0 := h0
 have k2 := h2
 have k4 := h4
 obtain ⟨fu0, hf0⟩ := h0
 obtain ⟨fu2, hf2⟩ := h2
 obtain ⟨fu4, hf4⟩ := h4
 obtain ⟨T0, hr0, ht0, hm0, -⟩ := open_tms hf0
 obtain ⟨T2, hr2, ht2, hm2, -⟩ := open_tms hf2
 obtain ⟨T4, hr4, ht4, hm4, -⟩ := open_tms hf4
 refine (hlaw0 T0 T2 T4 ht0 ht2 ht4 _ _ _ W hr0 hr2 hr4 (env_of hL hsh)).mono fun e W' ⟨he, hb⟩ => ?_
 subst he
 refine ⟨_, rfl, _, _, _, [], p0 ++ (p2 ++ (p4 ++ [])), [], hW', ?_, ?_, ?_, hb.frame _, fun h => by cases h⟩
 · exact trodAll_mk1 (shut_bool Tryz.underlying4 true)
 · refine trodAll_cons_mk (WideElems.Trod_stays laidOut (by kernel_rfl) (of_decide_eq_true (by kernel_rfl)) k0 (fun x hx => ?_) (fun x hx => ?_)) (trodAll_cons_mk (WideElems.Trod_stays laidOut (by kernel_rfl) (of_decide_eq_true (by kernel_rfl)) k2 (fun x hx => ?_) (fun x hx => ?_)) (trodAll_cons_mk (WideElems.Trod_stays laidOut (by kernel_rfl) (of_decide_eq_true (by kernel_rfl)) k4 (fun x hx => ?_) (fun x hx => ?_)) trodAll_mk0))
   · have hlt : x.block < W.heap.size := by simpa using hW'.lt x (by simp [hx])
     have hk : W.keptBut W' (fun _ => False) := hb.frame _
     exact World.keptBut.sameAt hk hlt (fun h => h) (fun b e => absurd e (hm0 x hx b))
   · have hlt : x.block < W.heap.size := by simpa using hW'.lt x (by simp [hx])
     simpa using hlt
   · have hlt : x.block < W.heap.size := by simpa using hW'.lt x (by simp [hx])
     have hk : W.keptBut W' (fun _ => False) := hb.frame _
     exact World.keptBut.sameAt hk hlt (fun h => h) (fun b e => absurd e (hm2 x hx b))
   · have hlt : x.block < W.heap.size := by simpa using hW'.lt x (by simp [hx])
     simpa using hlt
   · have hlt : x.block < W.heap.size := by simpa using hW'.lt x (by simp [hx])
     have hk : W.keptBut W' (fun _ => False) := hb.frame _
     exact World.keptBut.sameAt hk hlt (fun h => h) (fun b e => absurd e (hm4 x hx b))
   · have hlt : x.block < W.heap.size := by simpa using hW'.lt x (by simp [hx])
     simpa using hlt
 · rfl
theorem laid_eq_plSemi : Rows.polynomialSemiringRow.laid = polLaid := by kernel_rfl
theorem laid_met_plSemi (os : Os) : laidMet Tryz.prog polLaid ((laidWorld os).forCall (fun _ _ => 0) ⟨#[], #[.slice none 0 0, .slice none 0 0, .slice none 0 0], []⟩).memory :=
 laidMet_of_run' 8 (by kernel_rfl) (by kernel_rfl)
theorem reads_plSemi (os : Os) {H : Type} (enc : TypeId × Value → H) : ∃ places, DataW.whole enc Tryz.prog ((laidWorld os).forCall (fun _ _ => 0) ⟨#[], #[.slice none 0 0, .slice none 0 0, .slice none 0 0], []⟩).memory Tryz.f5.params.toList Rows.polynomialSemiringSpec.vars false #[.slice none 0 0, .slice none 0 0, .slice none 0 0].toList 40 = some ([.nil, .nil, .nil], [], places) :=
 ⟨[], by kernel_rfl⟩
theorem lifted_plSemi (hlaw : Law_plSemi) (os : Os) (started : os.Started) (H : Type) (enc : TypeId × Value → H) (F : Stop.Interp) :
   ReturnsInHanded {} Tryz.checked os 5 .any ((OpenSpec.ofChange Rows.polynomialSemiringSpec).preRow enc Tryz.prog Tryz.f5 Rows.polynomialSemiringRow.domain false Rows.polynomialSemiringRow.laid) (((OpenSpec.ofChange Rows.polynomialSemiringSpec).at F).post enc Tryz.prog Tryz.f5 false true false false) := by
 obtain ⟨places, hx⟩ := reads_plSemi os enc
 refine returnsInHanded_of_row (C := Tryz.checked) (s := OpenSpec.ofChange Rows.polynomialSemiringSpec) own started (by kernel_rfl) Tryz.func5
   (witness_row_at (enc := enc) (C := Tryz.checked) false (laidWorld os) #[.slice none 0 0, .slice none 0 0, .slice none 0 0] rfl (by kernel_rfl) (by kernel_rfl) (by kernel_rfl)
     (OpenSpec.preRow_of_cond 40 hx (by kernel_rfl) (fun k hk => by cases hk) (by kernel_rfl) (by rw [laid_eq_plSemi]; exact laid_met_plSemi os))) ?_
 intro W base args ds gs before hval hW _ _ _ hL hsh _
 exact contract_plSemi hlaw H enc W base args ds gs before hval hW (by rw [← laid_eq_plSemi]; exact hL) hsh
theorem fa1_plSemi : (Rows.polynomialSemiringRow.inPlace == Tryz.pinned.checked.prog.inPlace 5) = true := by kernel_rfl
theorem fa2_plSemi : (Rows.polynomialSemiringRow.unfollowed == Tryz.pinned.checked.prog.unfollowed 5) = true := by kernel_rfl
theorem fa3_plSemi : (Rows.polynomialSemiringRow.recurses == Tryz.pinned.checked.prog.recurses 5) = true := by kernel_rfl
theorem fa4_plSemi : (Rows.polynomialSemiringRow.named == Tryz.pinned.checked.prog.varsNamed 5) = true := by kernel_rfl
theorem facts_plSemi : joinedFacts Tryz.pinned.checked.prog 5 Tryz.f5 (OpenSpec.ofChange Rows.polynomialSemiringSpec).bare Rows.polynomialSemiringRow = true := by
 unfold joinedFacts
 rw [fa1_plSemi, fa2_plSemi, fa3_plSemi, fa4_plSemi]
 kernel_rfl
theorem said_plSemi (hlaw : Law_plSemi) : Rows.PolynomialSemiringSaid :=
 OpenClaim.holds_of_cond 5 Tryz.f5 rfl rfl rfl rfl rfl rfl rfl ⟨rfl, rfl, rfl, rfl, rfl⟩ rfl rfl rfl rfl rfl (by kernel_rfl) Tryz.func5 facts_plSemi
   (of_decide_eq_true (by kernel_rfl)) (by unfold Func.isWrapper; first | (rw [if_pos (by decide +kernel)]; kernel_rfl) | (rw [if_neg (by decide +kernel)]; exact ⟨rfl, rfl⟩))
   (fun os started H enc _ F => by rw [OpenClaim.pre_eq_preRow]; exact lifted_plSemi hlaw os started H enc F)
theorem noStand_plSemi : ([36, 36, 36] : List Nat).all (fun t => !Tryz.prog.wantsStandIn t) = true := by kernel_rfl
theorem plain_plSemi (f : FuncId) (fn : Func) (hf : Tryz.pinned.checked.prog.funcNamed "palmette/palmettelaw40.PolynomialSemiring" = some f) (hfn : Tryz.pinned.checked.prog.funcs[f]? = some fn) :
   true = Tryz.pinned.checked.prog.looks [] ∧ ∀ (j : Nat) t, fn.params[j]? = some t → Tryz.pinned.checked.prog.wantsStandIn t = false := by
 obtain rfl : f = 5 := Option.some.inj ((show Tryz.prog.funcNamed "palmette/palmettelaw40.PolynomialSemiring" = some 5 by kernel_rfl).symm.trans hf) |>.symm
 obtain rfl : fn = Tryz.f5 := (Option.some.inj (Tryz.func5.symm.trans hfn)).symm
 refine ⟨by kernel_rfl, fun j t ht => ?_⟩
 rw [Tryz.params5] at ht
 have ht' : t ∈ ([36, 36, 36] : List Nat) := by simpa using Array.mem_of_getElem? ht
 have h := List.all_eq_true.1 noStand_plSemi t ht'
 have h2 : Tryz.prog.wantsStandIn t = false := by simpa using h
 exact h2
end Go.Proofs.YtgnlebnpnpjfmaaGreatDoor
