/- PolynomialTerms answers true for every input, and its arguments read afterwards as .. -/
import Derived.Test.YtgnlebnpnpjfmaaGreatDoorUOpQ
set_option maxRecDepth 100000
set_option linter.all false
namespace Go.Proofs.YtgnlebnpnpjfmaaGreatDoor
open Go Go.ChangeShapes Go.WideShapes Go.ChangeAt Go.RowKit Go.Pal Go.Deep
def Law_plTerms : Prop := ∀ (T0 : List Tm) (_ : ∀ t ∈ T0, TmOk t) (u1 : Nat) (_ : u1 < 18446744073709551616) (a2 b2 : Int) (_ : InI a2) (_ : InI b2) (v0 : Value) (w : World) (_ : Rd tmA 3 w.heap.size w v0 T0), Env w →
 Calls Tryz.prog 8 #[v0, .int .u64 (u1 : Int), .agg #[.int .i64 a2, .int .i64 b2]] w fun e w' => e = .returned (.bool true) ∧ Below w.heap.size w w'
theorem contract_plTerms (hlaw0 : Law_plTerms) (H : Type) (enc : TypeId × Value → H) (W : World) (base : Nat) (args : Array Value) (ds gs : List (DataW H)) (before : List MemPlace)
   (hval : ∀ (j : Nat) t v, Tryz.f8.params[j]? = some t → args[j]? = some v → Value.okWide Tryz.prog W .any base t v)
   (hW : DataW.Whole enc Tryz.prog Tryz.f8.params.toList Rows.polynomialTermsSpec.vars false W args.toList ds gs before) (hL : laidMetH Tryz.prog polLaid W) (hsh : W.ShapedOpen Tryz.prog) :
   Calls Tryz.prog 8 args W fun e W' => ∃ v, e = .returned v ∧ Rows.polynomialTermsSpec.post enc Tryz.prog Tryz.f8 false true false false W args v W' := by
 have hW' := hW
 obtain ⟨p, q, hA0, hV, rfl, hfz, hnd⟩ := hW
 have hA : DataW.TrodAll enc Tryz.prog W 0 (fun _ => true) true Tryz.f8.params.toList args.toList ds p := hA0
 rw [Tryz.params8] at hA hval
 obtain ⟨v0, vs0, d0, ds0, p0, q0, hargs, rfl, rfl, h0, r0⟩ := trodAll_cons hA
 obtain ⟨v1, vs1, d1, ds1, p1, q1, rfl, rfl, rfl, h1, r1⟩ := trodAll_cons r0
 obtain ⟨v2, vs2, d2, ds2, p2, q2, rfl, rfl, rfl, h2, r2⟩ := trodAll_cons r1
 obtain ⟨rfl, rfl, rfl⟩ := trodAll_nil r2
 obtain rfl : args = #[v0, v1, v2] := by cases args; simp_all
 obtain ⟨ua0, ul0, uc0, rfl⟩ := okWide_slice Tryz.underlying36 (hval 0 36 v0 rfl rfl)
 have k0 := h0
 obtain ⟨fu0, hf0⟩ := h0
 obtain ⟨T0, hr0, ht0, hm0, -⟩ := open_tms hf0
 have k1 := h1
 obtain ⟨n1, rfl, rfl, rfl, wf1⟩ := open_int Tryz.underlying51 (hval 1 51 v1 rfl rfl) h1
 have wn1 := wfU64 wf1
 obtain ⟨u1, rfl⟩ : ∃ u : Nat, n1 = (u : Int) := ⟨n1.toNat, by omega⟩
 obtain ⟨cs2, rfl, hcs2⟩ := okWide_arr Tryz.underlying62 (hval 2 62 v2 rfl rfl)
 have k2 := h2
 obtain ⟨fu2, hf2⟩ := h2
 obtain ⟨a2, b2, hcl2, wa2, wb2, hp2⟩ := open_pair Tryz.underlying62 Tryz.underlying3 (by kernel_rfl) (by kernel_rfl) hf2
 obtain rfl : cs2 = #[.int .i64 a2, .int .i64 b2] := Array.ext' hcl2
 simp only at hp2
 subst hp2
 have wa2 := wfI64 wa2
 have wb2 := wfI64 wb2
 obtain ⟨rfl, rfl⟩ := trodVars_none hV
 refine (hlaw0 T0 ht0 u1 (by omega) a2 b2 wa2 wb2 _ W hr0 (env_of hL hsh)).mono fun e W' ⟨he, hb⟩ => ?_
 subst he
 refine ⟨_, rfl, _, _, _, [], p0 ++ ([] ++ ([] ++ [])), [], hW', ?_, ?_, ?_, hb.frame _, fun h => by cases h⟩
 · exact trodAll_mk1 (shut_bool Tryz.underlying4 true)
 · refine trodAll_cons_mk (WideElems.Trod_stays laidOut (by kernel_rfl) (of_decide_eq_true (by kernel_rfl)) k0 (fun x hx => ?_) (fun x hx => ?_)) (trodAll_cons_mk (WideElems.Trod_stays laidOut (by kernel_rfl) (of_decide_eq_true (by kernel_rfl)) k1 (fun x hx => by cases hx) (fun x hx => by cases hx)) (trodAll_cons_mk (WideElems.Trod_stays laidOut (by kernel_rfl) (of_decide_eq_true (by kernel_rfl)) k2 (fun x hx => by cases hx) (fun x hx => by cases hx)) (trodAll_mk0)))
   · have hlt : x.block < W.heap.size := by simpa using hW'.lt x (by simp [hx])
     have hk : W.keptBut W' (fun _ => False) := hb.frame _
     exact World.keptBut.sameAt hk hlt (fun h => h) (fun b e => absurd e (hm0 x hx b))
   · have hlt : x.block < W.heap.size := by simpa using hW'.lt x (by simp [hx])
     simpa using hlt
 · rfl
theorem laid_eq_plTerms : Rows.polynomialTermsRow.laid = polLaid := by kernel_rfl
theorem laid_met_plTerms (os : Os) : laidMet Tryz.prog polLaid ((laidWorld os).forCall (fun _ _ => 0) ⟨#[], #[.slice none 0 0, .int .u64 0, .agg #[.int .i64 0, .int .i64 0]], []⟩).memory :=
 laidMet_of_run' 8 (by kernel_rfl) (by kernel_rfl)
theorem reads_plTerms (os : Os) {H : Type} (enc : TypeId × Value → H) : ∃ places, DataW.whole enc Tryz.prog ((laidWorld os).forCall (fun _ _ => 0) ⟨#[], #[.slice none 0 0, .int .u64 0, .agg #[.int .i64 0, .int .i64 0]], []⟩).memory Tryz.f8.params.toList Rows.polynomialTermsSpec.vars false #[.slice none 0 0, .int .u64 0, .agg #[.int .i64 0, .int .i64 0]].toList 40 = some ([.nil, .lit (.int .u64 0), .agg [.lit (.int .i64 0), .lit (.int .i64 0)]], [], places) :=
 ⟨[], by kernel_rfl⟩
theorem lifted_plTerms (hlaw : Law_plTerms) (os : Os) (started : os.Started) (H : Type) (enc : TypeId × Value → H) (F : Stop.Interp) :
   ReturnsInHanded {} Tryz.checked os 8 .any ((OpenSpec.ofChange Rows.polynomialTermsSpec).preRow enc Tryz.prog Tryz.f8 Rows.polynomialTermsRow.domain false Rows.polynomialTermsRow.laid) (((OpenSpec.ofChange Rows.polynomialTermsSpec).at F).post enc Tryz.prog Tryz.f8 false true false false) := by
 obtain ⟨places, hx⟩ := reads_plTerms os enc
 refine returnsInHanded_of_row (C := Tryz.checked) (s := OpenSpec.ofChange Rows.polynomialTermsSpec) own started (by kernel_rfl) Tryz.func8
   (witness_row_at (enc := enc) (C := Tryz.checked) false (laidWorld os) #[.slice none 0 0, .int .u64 0, .agg #[.int .i64 0, .int .i64 0]] rfl (by kernel_rfl) (by kernel_rfl) (by kernel_rfl)
     (OpenSpec.preRow_of_cond 40 hx (by kernel_rfl) (fun k hk => by cases hk) (by kernel_rfl) (by rw [laid_eq_plTerms]; exact laid_met_plTerms os))) ?_
 intro W base args ds gs before hval hW _ _ _ hL hsh _
 exact contract_plTerms hlaw H enc W base args ds gs before hval hW (by rw [← laid_eq_plTerms]; exact hL) hsh
theorem fa1_plTerms : (Rows.polynomialTermsRow.inPlace == Tryz.pinned.checked.prog.inPlace 8) = true := by kernel_rfl
theorem fa2_plTerms : (Rows.polynomialTermsRow.unfollowed == Tryz.pinned.checked.prog.unfollowed 8) = true := by kernel_rfl
theorem fa3_plTerms : (Rows.polynomialTermsRow.recurses == Tryz.pinned.checked.prog.recurses 8) = true := by kernel_rfl
theorem fa4_plTerms : (Rows.polynomialTermsRow.named == Tryz.pinned.checked.prog.varsNamed 8) = true := by kernel_rfl
theorem facts_plTerms : joinedFacts Tryz.pinned.checked.prog 8 Tryz.f8 (OpenSpec.ofChange Rows.polynomialTermsSpec).bare Rows.polynomialTermsRow = true := by
 unfold joinedFacts
 rw [fa1_plTerms, fa2_plTerms, fa3_plTerms, fa4_plTerms]
 kernel_rfl
theorem said_plTerms (hlaw : Law_plTerms) : Rows.PolynomialTermsSaid :=
 OpenClaim.holds_of_cond 8 Tryz.f8 rfl rfl rfl rfl rfl rfl rfl ⟨rfl, rfl, rfl, rfl, rfl⟩ rfl rfl rfl rfl rfl (by kernel_rfl) Tryz.func8 facts_plTerms
   (of_decide_eq_true (by kernel_rfl)) (by unfold Func.isWrapper; first | (rw [if_pos (by decide +kernel)]; kernel_rfl) | (rw [if_neg (by decide +kernel)]; exact ⟨rfl, rfl⟩))
   (fun os started H enc _ F => by rw [OpenClaim.pre_eq_preRow]; exact lifted_plTerms hlaw os started H enc F)
theorem noStand_plTerms : ([36, 51, 62] : List Nat).all (fun t => !Tryz.prog.wantsStandIn t) = true := by kernel_rfl
theorem plain_plTerms (f : FuncId) (fn : Func) (hf : Tryz.pinned.checked.prog.funcNamed "palmette/palmettelaw40.PolynomialTerms" = some f) (hfn : Tryz.pinned.checked.prog.funcs[f]? = some fn) :
   true = Tryz.pinned.checked.prog.looks [] ∧ ∀ (j : Nat) t, fn.params[j]? = some t → Tryz.pinned.checked.prog.wantsStandIn t = false := by
 obtain rfl : f = 8 := Option.some.inj ((show Tryz.prog.funcNamed "palmette/palmettelaw40.PolynomialTerms" = some 8 by kernel_rfl).symm.trans hf) |>.symm
 obtain rfl : fn = Tryz.f8 := (Option.some.inj (Tryz.func8.symm.trans hfn)).symm
 refine ⟨by kernel_rfl, fun j t ht => ?_⟩
 rw [Tryz.params8] at ht
 have ht' : t ∈ ([36, 51, 62] : List Nat) := by simpa using Array.mem_of_getElem? ht
 have h := List.all_eq_true.1 noStand_plTerms t ht'
 have h2 : Tryz.prog.wantsStandIn t = false := by simpa using h
 exact h2
end Go.Proofs.YtgnlebnpnpjfmaaGreatDoor
