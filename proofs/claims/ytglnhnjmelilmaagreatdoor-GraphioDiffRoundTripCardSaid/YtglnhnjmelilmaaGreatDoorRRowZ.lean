/- GraphioDiffRoundTrip answers true for every input, and its arguments read afterwards as .. -/
import Derived.Test.YtglnhnjmelilmaaGreatDoorCards
import Derived.Test.YtglnhnjmelilmaaGreatDoorTie
import Derived.Test.YtglnhnjmelilmaaGreatDoorRDB
import Derived.Test.YtglnhnjmelilmaaGreatDoorRCb
import Derived.Test.YtglnhnjmelilmaaGreatDoorROp
import Derived.WalkKit
import Derived.ProofKit
import Derived.OpenShut
import Derived.ChangeMaps5
import Derived.Deep.DeepHandedRow
import Derived.Lib.LaidTab
import Derived.Stop.LaidErr
import Derived.Deep.Frames
set_option maxRecDepth 100000
set_option linter.all false
namespace Go.Proofs.YtglnhnjmelilmaaGreatDoor
open Go Go.ChangeShapes Go.WideShapes Go.ChangeAt Go.RowKit Go.Pal Go.Deep
theorem own : ownKnob Tryz.prog.godebug = none := by kernel_rfl
theorem laidOut : laidOutB Tryz.prog = true := by kernel_rfl
theorem gTab : Tryz.prog.globalNamed "math/bits.deBruijn64tab" = some 1 := by kernel_rfl
theorem gTabType : (Tryz.prog.globals[1]?).map (·.type) = some 274 := by kernel_rfl
theorem cellsTab : Tryz.prog.cellsOf 274 = 64 := by kernel_rfl
theorem cellsU8 : Tryz.prog.cellsOf 5 = 1 := by kernel_rfl
theorem gTabP : Tryz.prog.globalNamed "internal/strconv.uint64pow10" = some 3 := by kernel_rfl
theorem gTabTypeP : (Tryz.prog.globals[3]?).map (·.type) = some 297 := by kernel_rfl
theorem cellsTabP : Tryz.prog.cellsOf 297 = 20 := by kernel_rfl
theorem cellsU64r : Tryz.prog.cellsOf 77 = 1 := by kernel_rfl
def tab32 : List Int := [0, 1, 28, 2, 29, 14, 24, 3, 30, 22, 20, 15, 25, 17, 4, 8, 31, 27, 13, 23, 21, 19, 16, 7, 26, 12, 18, 6, 11, 5, 10, 9]
def textR : List UInt8 := [118, 97, 108, 117, 101, 32, 111, 117, 116, 32, 111, 102, 32, 114, 97, 110, 103, 101]
def textS : List UInt8 := [105, 110, 118, 97, 108, 105, 100, 32, 115, 121, 110, 116, 97, 120]
def accR : List Int := [128, 191, 160, 191, 128, 159, 144, 191, 128, 143, 0, 0, 0, 0, 0, 0, 0, 0, 0, 0, 0, 0, 0, 0, 0, 0, 0, 0, 0, 0, 0, 0]
def accD : DataW Unit := .agg [.agg [.lit (.int .u8 128), .lit (.int .u8 191)], .agg [.lit (.int .u8 160), .lit (.int .u8 191)], .agg [.lit (.int .u8 128), .lit (.int .u8 159)], .agg [.lit (.int .u8 144), .lit (.int .u8 191)], .agg [.lit (.int .u8 128), .lit (.int .u8 143)], .agg [.lit (.int .u8 0), .lit (.int .u8 0)], .agg [.lit (.int .u8 0), .lit (.int .u8 0)], .agg [.lit (.int .u8 0), .lit (.int .u8 0)], .agg [.lit (.int .u8 0), .lit (.int .u8 0)], .agg [.lit (.int .u8 0), .lit (.int .u8 0)], .agg [.lit (.int .u8 0), .lit (.int .u8 0)], .agg [.lit (.int .u8 0), .lit (.int .u8 0)], .agg [.lit (.int .u8 0), .lit (.int .u8 0)], .agg [.lit (.int .u8 0), .lit (.int .u8 0)], .agg [.lit (.int .u8 0), .lit (.int .u8 0)], .agg [.lit (.int .u8 0), .lit (.int .u8 0)]]
theorem laid_eq : Rows.graphioDiffRoundTripRow.laid = [("math/bits.deBruijn32tab", Lib.tabData .u8 tab32), ("math/bits.deBruijn64tab", Lib.tabData .u8 (Lib.deBruijn64tab.map fun n : Nat => (n : Int))), ("internal/strconv.uint64pow10", Lib.tabData .u64 Lib.pow10Tab), ("unicode/utf8.acceptRanges", accD), ("strconv.ErrRange", .iface "*errors.errorString" (.ptr (.agg [.lit (.string textR)]))), ("strconv.ErrSyntax", .iface "*errors.errorString" (.ptr (.agg [.lit (.string textS)]))), ("palmette/graphio.forms", formsD), ("unicode/utf8.first", Go.Pinned.utf8First)] := by kernel_rfl
theorem table {W : World} (h : laidMetH Tryz.prog Rows.graphioDiffRoundTripRow.laid W) : Lib.TabIs Tryz.prog W "math/bits.deBruijn64tab" .u8 (Lib.deBruijn64tab.map fun n : Nat => (n : Int)) := by
 rw [laid_eq] at h
 exact Lib.tabIs_of_head gTab gTabType Tryz.underlying274 Tryz.underlying5 cellsU8 cellsTab (laidMet.tail h)
theorem tableP {W : World} (h : laidMetH Tryz.prog Rows.graphioDiffRoundTripRow.laid W) : Lib.TabIs Tryz.prog W "internal/strconv.uint64pow10" .u64 Lib.pow10Tab := by
 rw [laid_eq] at h
 exact Lib.tabIs_of_head gTabP gTabTypeP Tryz.underlying297 Tryz.underlying77 cellsU64r cellsTabP (laidMet.tail (laidMet.tail h))
theorem pow_of {W : World} (h : Lib.TabIs Tryz.prog W "internal/strconv.uint64pow10" .u64 Lib.pow10Tab) : Pow W := Lib.tabBelow_of_tabIs h
theorem tabs_of {W : World} (h : laidMetH Tryz.prog Rows.graphioDiffRoundTripRow.laid W) : Tab3 W := by
 have h1 : TabOk W := fun j hj => by
   have := (table h).cell gTab j (by rw [List.length_map]; exact hj)
   rw [this]
   have e : Lib.deBruijn64tab[j]? = some Lib.deBruijn64tab[j] := List.getElem?_eq_getElem hj
   simp [List.getD, e]
 refine ⟨⟨h1, ?_⟩, pow_of (tableP h)⟩
 have := h1 0 (by decide)
 exact World.block_lt_of_cell? W _ this
theorem gRange : Tryz.prog.globalNamed "strconv.ErrRange" = some 5 := by kernel_rfl
theorem gRangeT : (Tryz.prog.globals[5]?).map (·.type) = some 128 := by kernel_rfl
theorem gSyntax : Tryz.prog.globalNamed "strconv.ErrSyntax" = some 4 := by kernel_rfl
theorem gSyntaxT : (Tryz.prog.globals[4]?).map (·.type) = some 128 := by kernel_rfl
theorem cellsErr : Tryz.prog.cellsOf 319 = 1 := by kernel_rfl
theorem cellsStr : Tryz.prog.cellsOf 9 = 1 := by kernel_rfl
theorem star : "*" ++ "errors.errorString" = "*errors.errorString" := by decide
theorem rowErr (u : TypeId) (h : Tryz.prog.typeName? 3 u = some "*errors.errorString") : u = 317 :=
 typeName_ptr_named (nm := "errors.errorString") (by rw [star]; kernel_rfl) (by kernel_rfl) (by decide) u (by rw [star]; exact h)
theorem errs_of {W : World} (h : laidMetH Tryz.prog Rows.graphioDiffRoundTripRow.laid W) : Errs W := by
 rw [laid_eq] at h
 have h2 := laidMet.tail (laidMet.tail (laidMet.tail (laidMet.tail h)))
 obtain ⟨a0, s0, hv0, -⟩ := laid_sentinel h2 gRange gRangeT Tryz.underlying128 rowErr Tryz.underlying317 Tryz.underlying319 rfl rfl Tryz.underlying9 cellsErr cellsStr
 obtain ⟨a1, s1, hv1, -⟩ := laid_sentinel (laidMet.tail h2) gSyntax gSyntaxT Tryz.underlying128 rowErr Tryz.underlying317 Tryz.underlying319 rfl rfl Tryz.underlying9 cellsErr cellsStr
 have e0 : W.cell? ⟨5, 0, none⟩ = some (.iface 317 (.pointer (some a0))) := by simpa using World.var?_cell gRange hv0 0
 have e1 : W.cell? ⟨4, 0, none⟩ = some (.iface 317 (.pointer (some a1))) := by simpa using World.var?_cell gSyntax hv1 0
 have b0 := World.block_lt_of_cell? W _ e0
 have b1 := World.block_lt_of_cell? W _ e1
 intro W' hW'
 have f0 := (hW'.cell (p := ⟨5, 0, none⟩) b0).trans e0
 have f1 := (hW'.cell (p := ⟨4, 0, none⟩) b1).trans e1
 first
   | exact ⟨⟨_, f0, .inr ⟨_, _, rfl⟩⟩, _, f1, .inr ⟨_, _, rfl⟩⟩
   | exact ⟨⟨_, f1, .inr ⟨_, _, rfl⟩⟩, _, f0, .inr ⟨_, _, rfl⟩⟩
theorem mxl_of {W : World} (h : W.ShapedOpen Tryz.prog) : Mxl W := by
 obtain ⟨m, hm⟩ := Tryz.laysCutM.s1_3 W h
 have hb := World.block_lt_of_cell? W _ hm
 exact fun W' hW' => ⟨m, (hW'.cell (p := ⟨2, 0, none⟩) hb).trans hm⟩
theorem gForms : Tryz.prog.globalNamed "palmette/graphio.forms" = some 0 := by kernel_rfl
theorem gFormsT : (Tryz.prog.globals[0]?).map (·.type) = some 94 := by kernel_rfl
theorem forms_of {W : World} (h : laidMetH Tryz.prog Rows.graphioDiffRoundTripRow.laid W) : FormsOk W := by
 rw [laid_eq] at h
 exact forms_laid (laidMet.tail (laidMet.tail (laidMet.tail (laidMet.tail (laidMet.tail (laidMet.tail h)))))) gForms gFormsT
theorem contract (H : Type) (enc : TypeId × Value → H) (W : World) (base : Nat) (args : Array Value) (ds gs : List (DataW H)) (before : List MemPlace)
   (hval : ∀ (j : Nat) t v, Tryz.f8.params[j]? = some t → args[j]? = some v → Value.okWide Tryz.prog W .any base t v)
   (hW : DataW.Whole enc Tryz.prog Tryz.f8.params.toList Rows.graphioDiffRoundTripSpec.vars false W args.toList ds gs before) (hL : laidMetH Tryz.prog Rows.graphioDiffRoundTripRow.laid W) (hsh : W.ShapedOpen Tryz.prog) :
   Calls Tryz.prog 8 args W fun e W' => ∃ v, e = .returned v ∧ Rows.graphioDiffRoundTripSpec.post enc Tryz.prog Tryz.f8 false true false false W args v W' := by
 have hW' := hW
 obtain ⟨p, q, hA0, hV, rfl, hfz, hnd⟩ := hW
 have hA : DataW.TrodAll enc Tryz.prog W 0 (fun _ => true) true Tryz.f8.params.toList args.toList ds p := hA0
 rw [Tryz.params8] at hA hval
 obtain ⟨v0, vs0, d0, ds0, p0, q0, hargs, rfl, rfl, h0, r0⟩ := trodAll_cons hA
 obtain ⟨v1, vs1, d1, ds1, p1, q1, rfl, rfl, rfl, h1, r1⟩ := trodAll_cons r0
 obtain ⟨rfl, rfl, rfl⟩ := trodAll_nil r1
 obtain rfl : args = #[v0, v1] := by cases args; simp_all
 obtain ⟨rfl, rfl⟩ := trodVars_none hV
 obtain ⟨ua, ul, uc, rfl⟩ := okWide_slice Tryz.underlying37 (hval 0 37 v0 rfl rfl)
 obtain ⟨ub, um, ud, rfl⟩ := okWide_slice Tryz.underlying37 (hval 1 37 v1 rfl rfl)
 have k0 := h0
 have k1 := h1
 obtain ⟨fu, hf⟩ := h0
 obtain ⟨fu1, hf1⟩ := h1
 obtain ⟨es, hrd, ⟨a0, m0, c0, e0, l0, n0, x0, y0⟩, hes, hmp⟩ := open_row Tryz.underlying37 5 (by decide) oc_edit edC (fun _ => rfl) Ed.Wf ⟨0, 0, 0, 0, 0⟩ ⟨inI_0, inI_0, inI_0, by decide, inI_0⟩ (fun h => open_edit h) hf
 obtain ⟨fs, hrd1, ⟨a1, m1, c1, e1, l1, n1, x1, y1⟩, hfs, hmp1⟩ := open_row Tryz.underlying37 5 (by decide) oc_edit edC (fun _ => rfl) Ed.Wf ⟨0, 0, 0, 0, 0⟩ ⟨inI_0, inI_0, inI_0, by decide, inI_0⟩ (fun h => open_edit h) hf1
 have hT := tabs_of hL
 have hE := errs_of hL
 have hlaw := drLaw_any es hes fs hfs _ _ W hrd ⟨a0, m0, c0, e0, l0, y0⟩ hrd1 ⟨a1, m1, c1, e1, l1, y1⟩ hT hE (mxl_of hsh) (forms_of hL)
 refine hlaw.mono fun e W' ⟨he, hb⟩ => ?_
 subst he
 refine ⟨_, rfl, _, _, _, [], p0 ++ (p1 ++ []), [], hW', ?_, ?_, ?_, hb.frame _, fun h => by cases h⟩
 · exact trodAll_mk1 (shut_bool Tryz.underlying4 true)
 · refine trodAll_cons_mk (WideElems.Trod_stays laidOut (by kernel_rfl) (of_decide_eq_true (by kernel_rfl)) k0 (fun x hx => ?_) (fun x hx => ?_)) (trodAll_cons_mk (WideElems.Trod_stays laidOut (by kernel_rfl) (of_decide_eq_true (by kernel_rfl)) k1 (fun x hx => ?_) (fun x hx => ?_)) trodAll_mk0)
   · have hlt : x.block < W.heap.size := by simpa using hW'.lt x (by simp [hx])
     have hk : W.keptBut W' (fun _ => False) := hb.frame _
     exact World.keptBut.sameAt hk hlt (fun h => h) (fun b e => absurd e (hmp x hx b))
   · have hlt : x.block < W.heap.size := by simpa using hW'.lt x (by simp [hx])
     simpa using hlt
   · have hlt : x.block < W.heap.size := by simpa using hW'.lt x (by simp [hx])
     have hk : W.keptBut W' (fun _ => False) := hb.frame _
     exact World.keptBut.sameAt hk hlt (fun h => h) (fun b e => absurd e (hmp1 x hx b))
   · have hlt : x.block < W.heap.size := by simpa using hW'.lt x (by simp [hx])
     simpa using hlt
 · rfl
def putTab (cs : Array Value) : Obj → Obj
 | .cells _ t frozen => .cells cs t frozen
 | o => o
noncomputable def low : Nat := (World.holding Tryz.prog default ⟨#[], #[], []⟩).heap.size
noncomputable def laidWorld (os : Os) : World :=
 { World.holding Tryz.prog os ⟨#[.cells #[.string ⟨textR.toArray⟩] 319, .cells #[.string ⟨textS.toArray⟩] 319], #[], []⟩ with heap := ((((((((World.holding Tryz.prog os ⟨#[.cells #[.string ⟨textR.toArray⟩] 319, .cells #[.string ⟨textS.toArray⟩] 319], #[], []⟩).heap.modify 5 (putTab #[.iface 317 (.pointer (some ⟨low, 0, none⟩))])).modify 4 (putTab #[.iface 317 (.pointer (some ⟨low + 1, 0, none⟩))])).modify 6 (putTab (Go.Pinned.utf8FirstZ.map fun n : Nat => Value.int .u8 (n : Int)).toArray)).modify 7 (putTab (accR.map fun n : Int => Value.int .u8 n).toArray)).modify 1 (putTab (Lib.deBruijn64tab.map fun n : Nat => Value.int .u8 (n : Int)).toArray)).modify 8 (putTab (tab32.map fun n : Int => Value.int .u8 n).toArray)).modify 3 (putTab (Lib.pow10Tab.map fun n : Int => Value.int .u64 n).toArray)).modify 0 (putTab ((List.range 8).flatMap fun k => (formC k).toList).toArray) }
theorem laid_met (os : Os) : laidMet Tryz.prog Rows.graphioDiffRoundTripRow.laid ((laidWorld os).forCall (fun _ _ => 0) ⟨#[], #[.slice none 0 0, .slice none 0 0], []⟩).memory :=
 laidMet_of_run' 8 (by kernel_rfl) (by kernel_rfl)
theorem reads (os : Os) {H : Type} (enc : TypeId × Value → H) : ∃ places, DataW.whole enc Tryz.prog ((laidWorld os).forCall (fun _ _ => 0) ⟨#[], #[.slice none 0 0, .slice none 0 0], []⟩).memory Tryz.f8.params.toList Rows.graphioDiffRoundTripSpec.vars false #[.slice none 0 0, .slice none 0 0].toList 40 = some ([.nil, .nil], [], places) :=
 ⟨[], by kernel_rfl⟩
theorem lifted (os : Os) (started : os.Started) (H : Type) (enc : TypeId × Value → H) (F : Stop.Interp) :
   ReturnsInHanded {} Tryz.checked os 8 .any ((OpenSpec.ofChange Rows.graphioDiffRoundTripSpec).preRow enc Tryz.prog Tryz.f8 Rows.graphioDiffRoundTripRow.domain false Rows.graphioDiffRoundTripRow.laid) (((OpenSpec.ofChange Rows.graphioDiffRoundTripSpec).at F).post enc Tryz.prog Tryz.f8 false true false false) := by
 obtain ⟨places, hx⟩ := reads os enc
 refine returnsInHanded_of_row (C := Tryz.checked) (s := OpenSpec.ofChange Rows.graphioDiffRoundTripSpec) own started (by kernel_rfl) Tryz.func8
   (witness_row_at (enc := enc) (C := Tryz.checked) false (laidWorld os) #[.slice none 0 0, .slice none 0 0] rfl (by kernel_rfl) (by kernel_rfl) (by kernel_rfl)
     (OpenSpec.preRow_of_cond 40 hx (by kernel_rfl) (fun k hk => by cases hk) (by kernel_rfl) (laid_met os))) ?_
 intro W base args ds gs before hval hW _ _ _ hL hsh _
 exact contract H enc W base args ds gs before hval hW hL hsh
theorem fa1 : (Rows.graphioDiffRoundTripRow.inPlace == Tryz.pinned.checked.prog.inPlace 8) = true := by kernel_rfl
theorem fa2 : (Rows.graphioDiffRoundTripRow.unfollowed == Tryz.pinned.checked.prog.unfollowed 8) = true := by kernel_rfl
theorem fa3 : (Rows.graphioDiffRoundTripRow.recurses == Tryz.pinned.checked.prog.recurses 8) = true := by kernel_rfl
theorem fa4 : (Rows.graphioDiffRoundTripRow.named == Tryz.pinned.checked.prog.varsNamed 8) = true := by kernel_rfl
theorem facts : joinedFacts Tryz.pinned.checked.prog 8 Tryz.f8 (OpenSpec.ofChange Rows.graphioDiffRoundTripSpec).bare Rows.graphioDiffRoundTripRow = true := by
 unfold joinedFacts
 rw [fa1, fa2, fa3, fa4]
 kernel_rfl
theorem said : Rows.GraphioDiffRoundTripSaid :=
 OpenClaim.holds_of_cond 8 Tryz.f8 rfl rfl rfl rfl rfl rfl rfl ⟨rfl, rfl, rfl, rfl, rfl⟩ rfl rfl rfl rfl rfl (by kernel_rfl) Tryz.func8 facts
   (of_decide_eq_true (by kernel_rfl)) (by unfold Func.isWrapper; first | (rw [if_pos (by decide +kernel)]; kernel_rfl) | (rw [if_neg (by decide +kernel)]; exact ⟨rfl, rfl⟩))
   (fun os started H enc _ F => by rw [OpenClaim.pre_eq_preRow]; exact lifted os started H enc F)
theorem noStand : ([37, 37] : List Nat).all (fun t => !Tryz.prog.wantsStandIn t) = true := by kernel_rfl
theorem plain (f : FuncId) (fn : Func) (hf : Tryz.pinned.checked.prog.funcNamed "palmette/palmettelaw06.GraphioDiffRoundTrip" = some f) (hfn : Tryz.pinned.checked.prog.funcs[f]? = some fn) :
   true = Tryz.pinned.checked.prog.looks [] ∧ ∀ (j : Nat) t, fn.params[j]? = some t → Tryz.pinned.checked.prog.wantsStandIn t = false := by
 obtain rfl : f = 8 := Option.some.inj ((show Tryz.prog.funcNamed "palmette/palmettelaw06.GraphioDiffRoundTrip" = some 8 by kernel_rfl).symm.trans hf) |>.symm
 obtain rfl : fn = Tryz.f8 := (Option.some.inj (Tryz.func8.symm.trans hfn)).symm
 refine ⟨by kernel_rfl, fun j t ht => ?_⟩
 rw [Tryz.params8] at ht
 have ht' : t ∈ ([37, 37] : List Nat) := by simpa using Array.mem_of_getElem? ht
 have h := List.all_eq_true.1 noStand t ht'
 have h2 : Tryz.prog.wantsStandIn t = false := by simpa using h
 exact h2
end Go.Proofs.YtglnhnjmelilmaaGreatDoor
