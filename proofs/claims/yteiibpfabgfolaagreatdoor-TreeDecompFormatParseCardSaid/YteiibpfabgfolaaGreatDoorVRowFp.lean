/- TreeDecompFormatParse answers true for every input, and its arguments read afterwards as .. -/
import Derived.Test.YteiibpfabgfolaaGreatDoorCards
import Derived.Test.YteiibpfabgfolaaGreatDoorTie
import Derived.Test.YteiibpfabgfolaaGreatDoorVVd
import Derived.Test.YteiibpfabgfolaaGreatDoorVGU
import Derived.Test.YteiibpfabgfolaaGreatDoorVWw
import Derived.Test.YteiibpfabgfolaaGreatDoorVIe
import Derived.Test.YteiibpfabgfolaaGreatDoorVOp
import Derived.WalkKit
import Derived.ProofKit
import Derived.OpenShut
import Derived.ChangeMaps5
import Derived.Deep.DeepHandedRow
import Derived.Lib.LaidTab
import Derived.Stop.LaidErr
import Derived.Deep.Frames
set_option maxRecDepth 100000
set_option linter.all false
namespace Go.Proofs.YteiibpfabgfolaaGreatDoor
open Go Go.ChangeShapes Go.WideShapes Go.ChangeAt Go.RowKit Go.Pal Go.Deep
def FpLaw : Prop := ∀ (T : List Bg), (∀ x ∈ T, IsSet x.2) → (∀ x ∈ T, -9223372036854775808 ≤ x.1 ∧ x.1 ≤ 9223372036854775807) → ∀ (s : List UInt8) (vt : Value) (w : World), Rd bagA 17 w.heap.size w vt T → T.length ≤ 9223372036854775807 → Tab3 w → Errs w → Mxl w →
 Calls Tryz.prog 3 #[vt, .string ⟨s.toArray⟩] w fun e w' => e = .returned (.bool true) ∧ Below w.heap.size w w'
theorem own : ownKnob Tryz.prog.godebug = none := by kernel_rfl
theorem laidOut : laidOutB Tryz.prog = true := by kernel_rfl
theorem gTab : Tryz.prog.globalNamed "math/bits.deBruijn64tab" = some 1 := by kernel_rfl
theorem gTabType : (Tryz.prog.globals[1]?).map (·.type) = some 194 := by kernel_rfl
theorem cellsTab : Tryz.prog.cellsOf 194 = 64 := by kernel_rfl
theorem cellsU8 : Tryz.prog.cellsOf 5 = 1 := by kernel_rfl
theorem gTabP : Tryz.prog.globalNamed "internal/strconv.uint64pow10" = some 2 := by kernel_rfl
theorem gTabTypeP : (Tryz.prog.globals[2]?).map (·.type) = some 206 := by kernel_rfl
theorem cellsTabP : Tryz.prog.cellsOf 206 = 20 := by kernel_rfl
theorem cellsU64r : Tryz.prog.cellsOf 49 = 1 := by kernel_rfl
def tab32 : List Int := [0, 1, 28, 2, 29, 14, 24, 3, 30, 22, 20, 15, 25, 17, 4, 8, 31, 27, 13, 23, 21, 19, 16, 7, 26, 12, 18, 6, 11, 5, 10, 9]
def textR : List UInt8 := [118, 97, 108, 117, 101, 32, 111, 117, 116, 32, 111, 102, 32, 114, 97, 110, 103, 101]
def textS : List UInt8 := [105, 110, 118, 97, 108, 105, 100, 32, 115, 121, 110, 116, 97, 120]
def accR : List Int := [128, 191, 160, 191, 128, 159, 144, 191, 128, 143, 0, 0, 0, 0, 0, 0, 0, 0, 0, 0, 0, 0, 0, 0, 0, 0, 0, 0, 0, 0, 0, 0]
def accD : DataW Unit := .agg [.agg [.lit (.int .u8 128), .lit (.int .u8 191)], .agg [.lit (.int .u8 160), .lit (.int .u8 191)], .agg [.lit (.int .u8 128), .lit (.int .u8 159)], .agg [.lit (.int .u8 144), .lit (.int .u8 191)], .agg [.lit (.int .u8 128), .lit (.int .u8 143)], .agg [.lit (.int .u8 0), .lit (.int .u8 0)], .agg [.lit (.int .u8 0), .lit (.int .u8 0)], .agg [.lit (.int .u8 0), .lit (.int .u8 0)], .agg [.lit (.int .u8 0), .lit (.int .u8 0)], .agg [.lit (.int .u8 0), .lit (.int .u8 0)], .agg [.lit (.int .u8 0), .lit (.int .u8 0)], .agg [.lit (.int .u8 0), .lit (.int .u8 0)], .agg [.lit (.int .u8 0), .lit (.int .u8 0)], .agg [.lit (.int .u8 0), .lit (.int .u8 0)], .agg [.lit (.int .u8 0), .lit (.int .u8 0)], .agg [.lit (.int .u8 0), .lit (.int .u8 0)]]
theorem laid_eq : Rows.treeDecompFormatParseRow.laid = [("math/bits.deBruijn32tab", Lib.tabData .u8 tab32), ("math/bits.deBruijn64tab", Lib.tabData .u8 (Lib.deBruijn64tab.map fun n : Nat => (n : Int))), ("internal/strconv.uint64pow10", Lib.tabData .u64 Lib.pow10Tab), ("unicode/utf8.acceptRanges", accD), ("strconv.ErrRange", .iface "*errors.errorString" (.ptr (.agg [.lit (.string textR)]))), ("strconv.ErrSyntax", .iface "*errors.errorString" (.ptr (.agg [.lit (.string textS)]))), ("unicode/utf8.first", Go.Pinned.utf8First)] := by kernel_rfl
theorem table {W : World} (h : laidMetH Tryz.prog Rows.treeDecompFormatParseRow.laid W) : Lib.TabIs Tryz.prog W "math/bits.deBruijn64tab" .u8 (Lib.deBruijn64tab.map fun n : Nat => (n : Int)) := by
 rw [laid_eq] at h
 exact Lib.tabIs_of_head gTab gTabType Tryz.underlying194 Tryz.underlying5 cellsU8 cellsTab (laidMet.tail h)
theorem tableP {W : World} (h : laidMetH Tryz.prog Rows.treeDecompFormatParseRow.laid W) : Lib.TabIs Tryz.prog W "internal/strconv.uint64pow10" .u64 Lib.pow10Tab := by
 rw [laid_eq] at h
 exact Lib.tabIs_of_head gTabP gTabTypeP Tryz.underlying206 Tryz.underlying49 cellsU64r cellsTabP (laidMet.tail (laidMet.tail h))
theorem pow_of {W : World} (h : Lib.TabIs Tryz.prog W "internal/strconv.uint64pow10" .u64 Lib.pow10Tab) : Pow W := Lib.tabBelow_of_tabIs h
theorem tabs_of {W : World} (h : laidMetH Tryz.prog Rows.treeDecompFormatParseRow.laid W) : Tab3 W := by
 have h1 : TabOk W := fun j hj => by
   have := (table h).cell gTab j (by rw [List.length_map]; exact hj)
   rw [this]
   have e : Lib.deBruijn64tab[j]? = some Lib.deBruijn64tab[j] := List.getElem?_eq_getElem hj
   simp [List.getD, e]
 refine ⟨⟨h1, ?_⟩, pow_of (tableP h)⟩
 have := h1 0 (by decide)
 exact World.block_lt_of_cell? W _ this
theorem gRange : Tryz.prog.globalNamed "strconv.ErrRange" = some 4 := by kernel_rfl
theorem gRangeT : (Tryz.prog.globals[4]?).map (·.type) = some 67 := by kernel_rfl
theorem gSyntax : Tryz.prog.globalNamed "strconv.ErrSyntax" = some 3 := by kernel_rfl
theorem gSyntaxT : (Tryz.prog.globals[3]?).map (·.type) = some 67 := by kernel_rfl
theorem cellsErr : Tryz.prog.cellsOf 236 = 1 := by kernel_rfl
theorem cellsStr : Tryz.prog.cellsOf 9 = 1 := by kernel_rfl
theorem star : "*" ++ "errors.errorString" = "*errors.errorString" := by decide
theorem rowErr (u : TypeId) (h : Tryz.prog.typeName? 3 u = some "*errors.errorString") : u = 234 :=
 typeName_ptr_named (nm := "errors.errorString") (by rw [star]; kernel_rfl) (by kernel_rfl) (by decide) u (by rw [star]; exact h)
theorem errs_of {W : World} (h : laidMetH Tryz.prog Rows.treeDecompFormatParseRow.laid W) : Errs W := by
 rw [laid_eq] at h
 have h2 := laidMet.tail (laidMet.tail (laidMet.tail (laidMet.tail h)))
 obtain ⟨a0, s0, hv0, -⟩ := laid_sentinel h2 gRange gRangeT Tryz.underlying67 rowErr Tryz.underlying234 Tryz.underlying236 rfl rfl Tryz.underlying9 cellsErr cellsStr
 obtain ⟨a1, s1, hv1, -⟩ := laid_sentinel (laidMet.tail h2) gSyntax gSyntaxT Tryz.underlying67 rowErr Tryz.underlying234 Tryz.underlying236 rfl rfl Tryz.underlying9 cellsErr cellsStr
 have e0 : W.cell? ⟨4, 0, none⟩ = some (.iface 234 (.pointer (some a0))) := by simpa using World.var?_cell gRange hv0 0
 have e1 : W.cell? ⟨3, 0, none⟩ = some (.iface 234 (.pointer (some a1))) := by simpa using World.var?_cell gSyntax hv1 0
 have b0 := World.block_lt_of_cell? W _ e0
 have b1 := World.block_lt_of_cell? W _ e1
 intro W' hW'
 have f0 := (hW'.cell (p := ⟨4, 0, none⟩) b0).trans e0
 have f1 := (hW'.cell (p := ⟨3, 0, none⟩) b1).trans e1
 first
   | exact ⟨⟨_, f0, .inr ⟨_, _, rfl⟩⟩, _, f1, .inr ⟨_, _, rfl⟩⟩
   | exact ⟨⟨_, f1, .inr ⟨_, _, rfl⟩⟩, _, f0, .inr ⟨_, _, rfl⟩⟩
theorem mxl_of {W : World} (h : W.ShapedOpen Tryz.prog) : Mxl W := by
 obtain ⟨m, hm⟩ := Tryz.laysCutM.s1_3 W h
 have hb := World.block_lt_of_cell? W _ hm
 exact fun W' hW' => ⟨m, (hW'.cell (p := ⟨0, 0, none⟩) hb).trans hm⟩
theorem contract (hlaw0 : FpLaw) (H : Type) (enc : TypeId × Value → H) (W : World) (base : Nat) (args : Array Value) (ds gs : List (DataW H)) (before : List MemPlace)
   (hval : ∀ (j : Nat) t v, Tryz.f3.params[j]? = some t → args[j]? = some v → Value.okWide Tryz.prog W .any base t v)
   (hW : DataW.Whole enc Tryz.prog Tryz.f3.params.toList Rows.treeDecompFormatParseSpec.vars false W args.toList ds gs before) (hL : laidMetH Tryz.prog Rows.treeDecompFormatParseRow.laid W) (hsh : W.ShapedOpen Tryz.prog) :
   Calls Tryz.prog 3 args W fun e W' => ∃ v, e = .returned v ∧ Rows.treeDecompFormatParseSpec.post enc Tryz.prog Tryz.f3 false true false false W args v W' := by
 have hW' := hW
 obtain ⟨p, q, hA0, hV, rfl, hfz, hnd⟩ := hW
 have hA : DataW.TrodAll enc Tryz.prog W 0 (fun _ => true) true Tryz.f3.params.toList args.toList ds p := hA0
 rw [Tryz.params3] at hA hval
 obtain ⟨v0, vs0, d0, ds0, p0, q0, hargs, rfl, rfl, h0, r0⟩ := trodAll_cons hA
 obtain ⟨v2, vs2, d2, ds2, p2, q2, rfl, rfl, rfl, h2, r2⟩ := trodAll_cons r0
 obtain ⟨rfl, rfl, rfl⟩ := trodAll_nil r2
 obtain rfl : args = #[v0, v2] := by cases args; simp_all
 obtain ⟨rfl, rfl⟩ := trodVars_none hV
 have k2 := h2
 obtain ⟨st, hv2, hd2, hp2, hst⟩ := ChangeMaps.open_string Tryz.underlying9 (hval 1 9 v2 rfl rfl) h2
 subst hv2 hd2 hp2
 obtain ⟨tl, rfl⟩ : ∃ l : List UInt8, st = ⟨l.toArray⟩ := ⟨st.data.toList, by simp⟩
 obtain ⟨ua, ul, uc, rfl⟩ := okWide_slice Tryz.underlying23 (hval 0 23 v0 rfl rfl)
 have k0 := h0
 obtain ⟨fu, hf⟩ := h0
 obtain ⟨T, hrd, _, htl, hSets, hpr, hmp⟩ := open_tree hf
 have hT := tabs_of hL
 have hE := errs_of hL
 have hlaw := hlaw0 T hSets hpr tl _ W hrd htl hT hE (mxl_of hsh)
 refine hlaw.mono fun e W' ⟨he, hb⟩ => ?_
 subst he
 refine ⟨_, rfl, _, _, _, [], p0 ++ ([] ++ []), [], hW', ?_, ?_, ?_, hb.frame _, fun h => by cases h⟩
 · exact trodAll_mk1 (shut_bool Tryz.underlying4 true)
 · refine trodAll_cons_mk (WideElems.Trod_stays laidOut (by kernel_rfl) (of_decide_eq_true (by kernel_rfl)) k0 (fun x hx => ?_) (fun x hx => ?_)) (trodAll_cons_mk (WideElems.Trod_stays laidOut (by kernel_rfl) (of_decide_eq_true (by kernel_rfl)) k2 (fun x hx => by cases hx) (fun x hx => by cases hx)) trodAll_mk0)
   · have hlt : x.block < W.heap.size := by simpa using hW'.lt x (by simp [hx])
     have hk : W.keptBut W' (fun _ => False) := hb.frame _
     exact World.keptBut.sameAt hk hlt (fun h => h) (fun b e => absurd e (hmp x hx b))
   · have hlt : x.block < W.heap.size := by simpa using hW'.lt x (by simp [hx])
     simpa using hlt
 · rfl
def putTab (cs : Array Value) : Obj → Obj
 | .cells _ t frozen => .cells cs t frozen
 | o => o
noncomputable def low : Nat := (World.holding Tryz.prog default ⟨#[], #[], []⟩).heap.size
noncomputable def laidWorld (os : Os) : World :=
 { World.holding Tryz.prog os ⟨#[.cells #[.string ⟨textR.toArray⟩] 236, .cells #[.string ⟨textS.toArray⟩] 236], #[], []⟩ with heap := (((((((World.holding Tryz.prog os ⟨#[.cells #[.string ⟨textR.toArray⟩] 236, .cells #[.string ⟨textS.toArray⟩] 236], #[], []⟩).heap.modify 4 (putTab #[.iface 234 (.pointer (some ⟨low, 0, none⟩))])).modify 3 (putTab #[.iface 234 (.pointer (some ⟨low + 1, 0, none⟩))])).modify 6 (putTab (Go.Pinned.utf8FirstZ.map fun n : Nat => Value.int .u8 (n : Int)).toArray)).modify 7 (putTab (accR.map fun n : Int => Value.int .u8 n).toArray)).modify 1 (putTab (Lib.deBruijn64tab.map fun n : Nat => Value.int .u8 (n : Int)).toArray)).modify 5 (putTab (tab32.map fun n : Int => Value.int .u8 n).toArray)).modify 2 (putTab (Lib.pow10Tab.map fun n : Int => Value.int .u64 n).toArray) }
theorem laid_met (os : Os) : laidMet Tryz.prog Rows.treeDecompFormatParseRow.laid ((laidWorld os).forCall (fun _ _ => 0) ⟨#[], #[.slice none 0 0, .string ⟨#[]⟩], []⟩).memory :=
 laidMet_of_run' 8 (by kernel_rfl) (by kernel_rfl)
theorem reads (os : Os) {H : Type} (enc : TypeId × Value → H) : ∃ places, DataW.whole enc Tryz.prog ((laidWorld os).forCall (fun _ _ => 0) ⟨#[], #[.slice none 0 0, .string ⟨#[]⟩], []⟩).memory Tryz.f3.params.toList Rows.treeDecompFormatParseSpec.vars false #[.slice none 0 0, .string ⟨#[]⟩].toList 40 = some ([.nil, .lit (.string [])], [], places) :=
 ⟨[], by kernel_rfl⟩
theorem lifted (hlaw : FpLaw) (os : Os) (started : os.Started) (H : Type) (enc : TypeId × Value → H) (F : Stop.Interp) :
   ReturnsInHanded {} Tryz.checked os 3 .any ((OpenSpec.ofChange Rows.treeDecompFormatParseSpec).preRow enc Tryz.prog Tryz.f3 Rows.treeDecompFormatParseRow.domain false Rows.treeDecompFormatParseRow.laid) (((OpenSpec.ofChange Rows.treeDecompFormatParseSpec).at F).post enc Tryz.prog Tryz.f3 false true false false) := by
 obtain ⟨places, hx⟩ := reads os enc
 refine returnsInHanded_of_row (C := Tryz.checked) (s := OpenSpec.ofChange Rows.treeDecompFormatParseSpec) own started (by kernel_rfl) Tryz.func3
   (witness_row_at (enc := enc) (C := Tryz.checked) false (laidWorld os) #[.slice none 0 0, .string ⟨#[]⟩] rfl (by kernel_rfl) (by kernel_rfl) (by kernel_rfl)
     (OpenSpec.preRow_of_cond 40 hx (by kernel_rfl) (fun k hk => by cases hk) (by kernel_rfl) (laid_met os))) ?_
 intro W base args ds gs before hval hW _ _ _ hL hsh _
 exact contract hlaw H enc W base args ds gs before hval hW hL hsh
theorem fa1 : (Rows.treeDecompFormatParseRow.inPlace == Tryz.pinned.checked.prog.inPlace 3) = true := by kernel_rfl
theorem fa2 : (Rows.treeDecompFormatParseRow.unfollowed == Tryz.pinned.checked.prog.unfollowed 3) = true := by kernel_rfl
theorem fa3 : (Rows.treeDecompFormatParseRow.recurses == Tryz.pinned.checked.prog.recurses 3) = true := by kernel_rfl
theorem fa4 : (Rows.treeDecompFormatParseRow.named == Tryz.pinned.checked.prog.varsNamed 3) = true := by kernel_rfl
theorem facts : joinedFacts Tryz.pinned.checked.prog 3 Tryz.f3 (OpenSpec.ofChange Rows.treeDecompFormatParseSpec).bare Rows.treeDecompFormatParseRow = true := by
 unfold joinedFacts
 rw [fa1, fa2, fa3, fa4]
 kernel_rfl
theorem said (hlaw : FpLaw) : Rows.TreeDecompFormatParseSaid :=
 OpenClaim.holds_of_cond 3 Tryz.f3 rfl rfl rfl rfl rfl rfl rfl ⟨rfl, rfl, rfl, rfl, rfl⟩ rfl rfl rfl rfl rfl (by kernel_rfl) Tryz.func3 facts
   (of_decide_eq_true (by kernel_rfl)) (by unfold Func.isWrapper; first | (rw [if_pos (by decide +kernel)]; kernel_rfl) | (rw [if_neg (by decide +kernel)]; exact ⟨rfl, rfl⟩))
   (fun os started H enc _ F => by rw [OpenClaim.pre_eq_preRow]; exact lifted hlaw os started H enc F)
theorem noStand : ([23, 9] : List Nat).all (fun t => !Tryz.prog.wantsStandIn t) = true := by kernel_rfl
theorem plain (f : FuncId) (fn : Func) (hf : Tryz.pinned.checked.prog.funcNamed "palmette/palmettelaw26.TreeDecompFormatParse" = some f) (hfn : Tryz.pinned.checked.prog.funcs[f]? = some fn) :
   true = Tryz.pinned.checked.prog.looks [] ∧ ∀ (j : Nat) t, fn.params[j]? = some t → Tryz.pinned.checked.prog.wantsStandIn t = false := by
 obtain rfl : f = 3 := Option.some.inj ((show Tryz.prog.funcNamed "palmette/palmettelaw26.TreeDecompFormatParse" = some 3 by kernel_rfl).symm.trans hf) |>.symm
 obtain rfl : fn = Tryz.f3 := (Option.some.inj (Tryz.func3.symm.trans hfn)).symm
 refine ⟨by kernel_rfl, fun j t ht => ?_⟩
 rw [Tryz.params3] at ht
 have ht' : t ∈ ([23, 9] : List Nat) := by simpa using Array.mem_of_getElem? ht
 have h := List.all_eq_true.1 noStand t ht'
 have h2 : Tryz.prog.wantsStandIn t = false := by simpa using h
 exact h2
end Go.Proofs.YteiibpfabgfolaaGreatDoor
