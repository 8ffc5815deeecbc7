/- PolynomialEval answers true for every input, and its arguments read afterwards as before: .. -/
import Derived.Test.YtgnlebnpnpjfmaaGreatDoorUOpQ
set_option maxRecDepth 100000
set_option linter.all false
namespace Go.Proofs.YtgnlebnpnpjfmaaGreatDoor
open Go Go.ChangeShapes Go.WideShapes Go.ChangeAt Go.RowKit Go.Pal Go.Deep
def Law_plEval : Prop := ∀ (T0 : List Tm) (_ : ∀ t ∈ T0, TmOk t) (T1 : List Tm) (_ : ∀ t ∈ T1, TmOk t) (x2 y2 : Nat) (_ : x2 < 65536) (_ : y2 < 65536) (v0 v1 : Value) (w : World) (_ : Rd tmA 3 w.heap.size w v0 T0) (_ : Rd tmA 3 w.heap.size w v1 T1), Env w →
 Calls Tryz.prog 6 #[v0, v1, .agg #[.int .u16 (x2 : Int), .int .u16 (y2 : Int)]] w fun e w' => e = .returned (.bool true) ∧ Below w.heap.size w w'
theorem contract_plEval (hlaw0 : Law_plEval) (H : Type) (enc : TypeId × Value → H) (W : World) (base : Nat) (args : Array Value) (ds gs : List (DataW H)) (before : List MemPlace)
   (hval : ∀ (j : Nat) t v, Tryz.f6.params[j]? = some t → args[j]? = some v → Value.okWide Tryz.prog W .any base t v)
   (hW : DataW.Whole enc Tryz.prog Tryz.f6.params.toList Rows.polynomialEvalSpec.vars false W args.toList ds gs before) (hL : laidMetH Tryz.prog polLaid W) (hsh : W.ShapedOpen Tryz.prog) :
   Calls Tryz.prog 6 args W fun e W' => ∃ v, e = .returned v ∧ Rows.polynomialEvalSpec.post enc Tryz.prog Tryz.f6 false true false false W args v W' := by
 have hW' := hW
 obtain ⟨p, q, hA0, hV, rfl, hfz, hnd⟩ := hW
 have hA : DataW.TrodAll enc Tryz.prog W 0 (fun _ => true) true Tryz.f6.params.toList args.toList ds p := hA0
 rw [Tryz.params6] at hA hval
 obtain ⟨v0, vs0, d0, ds0, p0, q0, hargs, rfl, rfl, h0, r0⟩ := trodAll_cons hA
 obtain ⟨v1, vs1, d1, ds1, p1, q1, rfl, rfl, rfl, h1, r1⟩ := trodAll_cons r0
 obtain ⟨v2, vs2, d2, ds2, p2, q2, rfl, rfl, rfl, h2, r2⟩ := trodAll_cons r1
 obtain ⟨rfl, rfl, rfl⟩ := trodAll_nil r2
 obtain rfl : args = #[v0, v1, v2] := by cases args; simp_all
 obtain ⟨ua0, ul0, uc0, rfl⟩ := okWide_slice Tryz.underlying36 (hval 0 36 v0 rfl rfl)
 have k0 := h0
 obtain ⟨fu0, hf0⟩ := h0
 obtain ⟨T0, hr0, ht0, hm0, -⟩ := open_tms hf0
 obtain ⟨ua1, ul1, uc1, rfl⟩ := okWide_slice Tryz.underlying36 (hval 1 36 v1 rfl rfl)
 have k1 := h1
 obtain ⟨fu1, hf1⟩ := h1
 obtain ⟨T1, hr1, ht1, hm1, -⟩ := open_tms hf1
 obtain ⟨cs2, rfl, hcs2⟩ := okWide_arr Tryz.underlying46 (hval 2 46 v2 rfl rfl)
 have k2 := h2
 obtain ⟨fu2, hf2⟩ := h2
 obtain ⟨a2, b2, hcl2, wa2, wb2, hp2⟩ := open_pair Tryz.underlying46 Tryz.underlying45 (by kernel_rfl) (by kernel_rfl) hf2
 obtain rfl : cs2 = #[.int .u16 a2, .int .u16 b2] := Array.ext' hcl2
 simp only at hp2
 subst hp2
 have wa2 := wfU16 wa2
 have wb2 := wfU16 wb2
 obtain ⟨x2, rfl⟩ : ∃ u : Nat, a2 = (u : Int) := ⟨a2.toNat, by omega⟩
 obtain ⟨y2, rfl⟩ : ∃ u : Nat, b2 = (u : Int) := ⟨b2.toNat, by omega⟩
 obtain ⟨rfl, rfl⟩ := trodVars_none hV
 refine (hlaw0 T0 ht0 T1 ht1 x2 y2 (by omega) (by omega) _ _ W hr0 hr1 (env_of hL hsh)).mono fun e W' ⟨he, hb⟩ => ?_
 subst he
 refine ⟨_, rfl, _, _, _, [], p0 ++ (p1 ++ ([] ++ [])), [], hW', ?_, ?_, ?_, hb.frame _, fun h => by cases h⟩
 · exact trodAll_mk1 (shut_bool Tryz.underlying4 true)
 · refine trodAll_cons_mk (WideElems.Trod_stays laidOut (by kernel_rfl) (of_decide_eq_true (by kernel_rfl)) k0 (fun x hx => ?_) (fun x hx => ?_)) (trodAll_cons_mk (WideElems.Trod_stays laidOut (by kernel_rfl) (of_decide_eq_true (by kernel_rfl)) k1 (fun x hx => ?_) (fun x hx => ?_)) (trodAll_cons_mk (WideElems.Trod_stays laidOut (by kernel_rfl) (of_decide_eq_true (by kernel_rfl)) k2 (fun x hx => by cases hx) (fun x hx => by cases hx)) (trodAll_mk0)))
   · have hlt : x.block < W.heap.size := by simpa using hW'.lt x (by simp [hx])
     have hk : W.keptBut W' (fun _ => False) := hb.frame _
     exact World.keptBut.sameAt hk hlt (fun h => h) (fun b e => absurd e (hm0 x hx b))
   · have hlt : x.block < W.heap.size := by simpa using hW'.lt x (by simp [hx])
     simpa using hlt
   · have hlt : x.block < W.heap.size := by simpa using hW'.lt x (by simp [hx])
     have hk : W.keptBut W' (fun _ => False) := hb.frame _
     exact World.keptBut.sameAt hk hlt (fun h => h) (fun b e => absurd e (hm1 x hx b))
   · have hlt : x.block < W.heap.size := by simpa using hW'.lt x (by simp [hx])
     simpa using hlt
 · rfl
theorem laid_eq_plEval : Rows.polynomialEvalRow.laid = polLaid := by kernel_rfl
theorem laid_met_plEval (os : Os) : laidMet Tryz.prog polLaid ((laidWorld os).forCall (fun _ _ => 0) ⟨#[], #[.slice none 0 0, .slice none 0 0, .agg #[.int .u16 0, .int .u16 0]], []⟩).memory :=
 laidMet_of_run' 8 (by kernel_rfl) (by kernel_rfl)
theorem reads_plEval (os : Os) {H : Type} (enc : TypeId × Value → H) : ∃ places, DataW.whole enc Tryz.prog ((laidWorld os).forCall (fun _ _ => 0) ⟨#[], #[.slice none 0 0, .slice none 0 0, .agg #[.int .u16 0, .int .u16 0]], []⟩).memory Tryz.f6.params.toList Rows.polynomialEvalSpec.vars false #[.slice none 0 0, .slice none 0 0, .agg #[.int .u16 0, .int .u16 0]].toList 40 = some ([.nil, .nil, .agg [.lit (.int .u16 0), .lit (.int .u16 0)]], [], places) :=
 ⟨[], by kernel_rfl⟩
theorem lifted_plEval (hlaw : Law_plEval) (os : Os) (started : os.Started) (H : Type) (enc : TypeId × Value → H) (F : Stop.Interp) :
   ReturnsInHanded {} Tryz.checked os 6 .any ((OpenSpec.ofChange Rows.polynomialEvalSpec).preRow enc Tryz.prog Tryz.f6 Rows.polynomialEvalRow.domain false Rows.polynomialEvalRow.laid) (((OpenSpec.ofChange Rows.polynomialEvalSpec).at F).post enc Tryz.prog Tryz.f6 false true false false) := by
 obtain ⟨places, hx⟩ := reads_plEval os enc
 refine returnsInHanded_of_row (C := Tryz.checked) (s := OpenSpec.ofChange Rows.polynomialEvalSpec) own started (by kernel_rfl) Tryz.func6
   (witness_row_at (enc := enc) (C := Tryz.checked) false (laidWorld os) #[.slice none 0 0, .slice none 0 0, .agg #[.int .u16 0, .int .u16 0]] rfl (by kernel_rfl) (by kernel_rfl) (by kernel_rfl)
     (OpenSpec.preRow_of_cond 40 hx (by kernel_rfl) (fun k hk => by cases hk) (by kernel_rfl) (by rw [laid_eq_plEval]; exact laid_met_plEval os))) ?_
 intro W base args ds gs before hval hW _ _ _ hL hsh _
 exact contract_plEval hlaw H enc W base args ds gs before hval hW (by rw [← laid_eq_plEval]; exact hL) hsh
theorem fa1_plEval : (Rows.polynomialEvalRow.inPlace == Tryz.pinned.checked.prog.inPlace 6) = true := by kernel_rfl
theorem fa2_plEval : (Rows.polynomialEvalRow.unfollowed == Tryz.pinned.checked.prog.unfollowed 6) = true := by kernel_rfl
theorem fa3_plEval : (Rows.polynomialEvalRow.recurses == Tryz.pinned.checked.prog.recurses 6) = true := by kernel_rfl
theorem fa4_plEval : (Rows.polynomialEvalRow.named == Tryz.pinned.checked.prog.varsNamed 6) = true := by kernel_rfl
theorem facts_plEval : joinedFacts Tryz.pinned.checked.prog 6 Tryz.f6 (OpenSpec.ofChange Rows.polynomialEvalSpec).bare Rows.polynomialEvalRow = true := by
 unfold joinedFacts
 rw [fa1_plEval, fa2_plEval, fa3_plEval, fa4_plEval]
 kernel_rfl
theorem said_plEval (hlaw : Law_plEval) : Rows.PolynomialEvalSaid :=
 OpenClaim.holds_of_cond 6 Tryz.f6 rfl rfl rfl rfl rfl rfl rfl ⟨rfl, rfl, rfl, rfl, rfl⟩ rfl rfl rfl rfl rfl (by kernel_rfl) Tryz.func6 facts_plEval
   (of_decide_eq_true (by kernel_rfl)) (by unfold Func.isWrapper; first | (rw [if_pos (by decide +kernel)]; kernel_rfl) | (rw [if_neg (by decide +kernel)]; exact ⟨rfl, rfl⟩))
   (fun os started H enc _ F => by rw [OpenClaim.pre_eq_preRow]; exact lifted_plEval hlaw os started H enc F)
theorem noStand_plEval : ([36, 36, 46] : List Nat).all (fun t => !Tryz.prog.wantsStandIn t) = true := by kernel_rfl
theorem plain_plEval (f : FuncId) (fn : Func) (hf : Tryz.pinned.checked.prog.funcNamed "palmette/palmettelaw40.PolynomialEval" = some f) (hfn : Tryz.pinned.checked.prog.funcs[f]? = some fn) :
   true = Tryz.pinned.checked.prog.looks [] ∧ ∀ (j : Nat) t, fn.params[j]? = some t → Tryz.pinned.checked.prog.wantsStandIn t = false := by
 obtain rfl : f = 6 := Option.some.inj ((show Tryz.prog.funcNamed "palmette/palmettelaw40.PolynomialEval" = some 6 by kernel_rfl).symm.trans hf) |>.symm
 obtain rfl : fn = Tryz.f6 := (Option.some.inj (Tryz.func6.symm.trans hfn)).symm
 refine ⟨by kernel_rfl, fun j t ht => ?_⟩
 rw [Tryz.params6] at ht
 have ht' : t ∈ ([36, 36, 46] : List Nat) := by simpa using Array.mem_of_getElem? ht
 have h := List.all_eq_true.1 noStand_plEval t ht'
 have h2 : Tryz.prog.wantsStandIn t = false := by simpa using h
 exact h2
end Go.Proofs.YtgnlebnpnpjfmaaGreatDoor
