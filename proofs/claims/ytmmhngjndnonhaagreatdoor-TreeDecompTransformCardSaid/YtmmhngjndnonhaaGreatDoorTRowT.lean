/- TreeDecompTransform answers true for every input, and its arguments read afterwards as .. -/
import Derived.Test.YtmmhngjndnonhaaGreatDoorCards
import Derived.Test.YtmmhngjndnonhaaGreatDoorTie
import Derived.Test.YtmmhngjndnonhaaGreatDoorTUj
import Derived.Test.YtmmhngjndnonhaaGreatDoorTOp
import Derived.WalkKit
import Derived.ProofKit
import Derived.OpenShut
import Derived.Deep.DeepHandedRow
import Derived.Lib.LaidTab
import Derived.Deep.Frames
set_option maxRecDepth 100000
set_option linter.all false
namespace Go.Proofs.YtmmhngjndnonhaaGreatDoor
open Go Go.ChangeShapes Go.WideShapes Go.ChangeAt Go.RowKit Go.Pal Go.Deep
theorem own : ownKnob Tryz.prog.godebug = none := by kernel_rfl
theorem laidOut : laidOutB Tryz.prog = true := by kernel_rfl
theorem gTab : Tryz.prog.globalNamed "math/bits.deBruijn64tab" = some 0 := by kernel_rfl
theorem gTabType : (Tryz.prog.globals[0]?).map (·.type) = some 250 := by kernel_rfl
theorem cellsTab : Tryz.prog.cellsOf 250 = 64 := by kernel_rfl
theorem cellsU8 : Tryz.prog.cellsOf 5 = 1 := by kernel_rfl
theorem table {W : World} (h : laidMetH Tryz.prog Rows.treeDecompTransformRow.laid W) : Lib.TabIs Tryz.prog W "math/bits.deBruijn64tab" .u8 (Lib.deBruijn64tab.map fun n : Nat => (n : Int)) :=
 Lib.tabIs_of_head (rest := []) gTab gTabType Tryz.underlying250 Tryz.underlying5 cellsU8 cellsTab h
theorem tabs_of {W : World} (h : laidMetH Tryz.prog Rows.treeDecompTransformRow.laid W) : Tab2 W := by
 have h1 : TabOk W := fun j hj => by
   have := (table h).cell gTab j (by rw [List.length_map]; exact hj)
   rw [this]
   have e : Lib.deBruijn64tab[j]? = some Lib.deBruijn64tab[j] := List.getElem?_eq_getElem hj
   simp [List.getD, e]
 refine ⟨h1, ?_⟩
 have := h1 0 (by decide)
 exact World.block_lt_of_cell? W _ this
theorem contract (H : Type) (enc : TypeId × Value → H) (W : World) (base : Nat) (args : Array Value) (ds gs : List (DataW H)) (before : List MemPlace)
   (hval : ∀ (j : Nat) t v, Tryz.f4.params[j]? = some t → args[j]? = some v → Value.okWide Tryz.prog W .any base t v)
   (hW : DataW.Whole enc Tryz.prog Tryz.f4.params.toList Rows.treeDecompTransformSpec.vars false W args.toList ds gs before) (hL : laidMetH Tryz.prog Rows.treeDecompTransformRow.laid W) :
   Calls Tryz.prog 4 args W fun e W' => ∃ v, e = .returned v ∧ Rows.treeDecompTransformSpec.post enc Tryz.prog Tryz.f4 false true false false W args v W' := by
 have hW' := hW
 obtain ⟨p, q, hA0, hV, rfl, hfz, hnd⟩ := hW
 have hA : DataW.TrodAll enc Tryz.prog W 0 (fun _ => true) true Tryz.f4.params.toList args.toList ds p := hA0
 rw [Tryz.params4] at hA hval
 obtain ⟨v0, vs0, d0, ds0, p0, q0, hargs, rfl, rfl, h0, r0⟩ := trodAll_cons hA
 obtain ⟨v1, vs1, d1, ds1, p1, q1, rfl, rfl, rfl, h1, r1⟩ := trodAll_cons r0
 obtain ⟨v2, vs2, d2, ds2, p2, q2, rfl, rfl, rfl, h2, r2⟩ := trodAll_cons r1
 obtain ⟨rfl, rfl, rfl⟩ := trodAll_nil r2
 obtain rfl : args = #[v0, v1, v2] := by cases args; simp_all
 obtain ⟨rfl, rfl⟩ := trodVars_none hV
 obtain ⟨n, rfl, rfl, rfl, hwn⟩ := open_int Tryz.underlying3 (hval 2 3 v2 rfl rfl) h2
 obtain ⟨ua, ul, uc, rfl⟩ := okWide_slice Tryz.underlying46 (hval 0 46 v0 rfl rfl)
 obtain ⟨ub, um, ud, rfl⟩ := okWide_slice Tryz.underlying22 (hval 1 22 v1 rfl rfl)
 have k0 := h0
 have k1 := h1
 obtain ⟨fu, hf⟩ := h0
 obtain ⟨fu1, hf1⟩ := h1
 obtain ⟨T, hrd, _, htl, hSets, hpr, hmp⟩ := open_tree hf
 obtain ⟨es, hrd', ⟨a0, m0, c0, e0, l0, n0, x0, y0⟩, hes, hmp'⟩ := open_row Tryz.underlying22 5 (by decide) oc_edit edC (fun _ => rfl) Ed.Wf ⟨0, 0, 0, 0, 0⟩ ⟨inI_0, inI_0, inI_0, by decide, inI_0⟩ (fun h => open_edit h) hf1
 have hT := tabs_of hL
 refine (tfLaw_any T hSets hpr es hes n _ _ W hrd htl hrd' ⟨a0, m0, c0, e0, l0, y0⟩ hT).mono fun e W' ⟨he, hb⟩ => ?_
 subst he
 refine ⟨_, rfl, _, _, _, [], p0 ++ (p1 ++ ([] ++ [])), [], hW', ?_, ?_, ?_, hb.frame _, fun h => by cases h⟩
 · exact trodAll_mk1 (shut_bool Tryz.underlying4 true)
 · refine trodAll_cons_mk (WideElems.Trod_stays laidOut (by kernel_rfl) (of_decide_eq_true (by kernel_rfl)) k0 (fun x hx => ?_) (fun x hx => ?_)) (trodAll_cons_mk (WideElems.Trod_stays laidOut (by kernel_rfl) (of_decide_eq_true (by kernel_rfl)) k1 (fun x hx => ?_) (fun x hx => ?_)) (trodAll_cons_mk (shut_int Tryz.underlying3 hwn) trodAll_mk0))
   · have hlt : x.block < W.heap.size := by simpa using hW'.lt x (by simp [hx])
     have hk : W.keptBut W' (fun _ => False) := hb.frame _
     exact World.keptBut.sameAt hk hlt (fun h => h) (fun b e => absurd e (hmp x hx b))
   · have hlt : x.block < W.heap.size := by simpa using hW'.lt x (by simp [hx])
     simpa using hlt
   · have hlt : x.block < W.heap.size := by simpa using hW'.lt x (by simp [hx])
     have hk : W.keptBut W' (fun _ => False) := hb.frame _
     exact World.keptBut.sameAt hk hlt (fun h => h) (fun b e => absurd e (hmp' x hx b))
   · have hlt : x.block < W.heap.size := by simpa using hW'.lt x (by simp [hx])
     simpa using hlt
 · rfl
noncomputable def laidWorld (os : Os) : World :=
 { World.holding Tryz.prog os ⟨#[], #[], []⟩ with heap := (World.holding Tryz.prog os ⟨#[], #[], []⟩).heap.modify 0 fun
     | .cells _ t frozen => .cells (Lib.deBruijn64tab.map fun n : Nat => Value.int .u8 (n : Int)).toArray t frozen
     | o => o }
theorem laid_met (os : Os) : laidMet Tryz.prog Rows.treeDecompTransformRow.laid ((laidWorld os).forCall (fun _ _ => 0) ⟨#[], #[.slice none 0 0, .slice none 0 0, .int .i64 0], []⟩).memory :=
 laidMet_of_run' 8 (by kernel_rfl) (by kernel_rfl)
theorem reads (os : Os) {H : Type} (enc : TypeId × Value → H) : ∃ places, DataW.whole enc Tryz.prog ((laidWorld os).forCall (fun _ _ => 0) ⟨#[], #[.slice none 0 0, .slice none 0 0, .int .i64 0], []⟩).memory Tryz.f4.params.toList Rows.treeDecompTransformSpec.vars false #[.slice none 0 0, .slice none 0 0, .int .i64 0].toList 40 = some ([.nil, .nil, .lit (.int .i64 0)], [], places) :=
 ⟨[], by kernel_rfl⟩
theorem lifted (os : Os) (started : os.Started) (H : Type) (enc : TypeId × Value → H) (F : Stop.Interp) :
   ReturnsInHanded {} Tryz.checked os 4 .any ((OpenSpec.ofChange Rows.treeDecompTransformSpec).preRow enc Tryz.prog Tryz.f4 Rows.treeDecompTransformRow.domain false Rows.treeDecompTransformRow.laid) (((OpenSpec.ofChange Rows.treeDecompTransformSpec).at F).post enc Tryz.prog Tryz.f4 false true false false) := by
 obtain ⟨places, hx⟩ := reads os enc
 refine returnsInHanded_of_row (C := Tryz.checked) (s := OpenSpec.ofChange Rows.treeDecompTransformSpec) own started (by kernel_rfl) Tryz.func4
   (witness_row_at (enc := enc) (C := Tryz.checked) false (laidWorld os) #[.slice none 0 0, .slice none 0 0, .int .i64 0] rfl (by kernel_rfl) (by kernel_rfl) (by kernel_rfl)
     (OpenSpec.preRow_of_cond 40 hx (by kernel_rfl) (fun k hk => by cases hk) (by kernel_rfl) (laid_met os))) ?_
 intro W base args ds gs before hval hW _ _ _ hL _ _
 exact contract H enc W base args ds gs before hval hW hL
theorem fa1 : (Rows.treeDecompTransformRow.inPlace == Tryz.pinned.checked.prog.inPlace 4) = true := by kernel_rfl
theorem fa2 : (Rows.treeDecompTransformRow.unfollowed == Tryz.pinned.checked.prog.unfollowed 4) = true := by kernel_rfl
theorem fa3 : (Rows.treeDecompTransformRow.recurses == Tryz.pinned.checked.prog.recurses 4) = true := by kernel_rfl
theorem fa4 : (Rows.treeDecompTransformRow.named == Tryz.pinned.checked.prog.varsNamed 4) = true := by kernel_rfl
theorem facts : joinedFacts Tryz.pinned.checked.prog 4 Tryz.f4 (OpenSpec.ofChange Rows.treeDecompTransformSpec).bare Rows.treeDecompTransformRow = true := by
 unfold joinedFacts
 rw [fa1, fa2, fa3, fa4]
 kernel_rfl
theorem said : Rows.TreeDecompTransformSaid :=
 OpenClaim.holds_of_cond 4 Tryz.f4 rfl rfl rfl rfl rfl rfl rfl ⟨rfl, rfl, rfl, rfl, rfl⟩ rfl rfl rfl rfl rfl (by kernel_rfl) Tryz.func4 facts
   (of_decide_eq_true (by kernel_rfl)) (by unfold Func.isWrapper; first | (rw [if_pos (by decide +kernel)]; kernel_rfl) | (rw [if_neg (by decide +kernel)]; exact ⟨rfl, rfl⟩))
   (fun os started H enc _ F => by rw [OpenClaim.pre_eq_preRow]; exact lifted os started H enc F)
theorem noStand : ([46, 22, 3] : List Nat).all (fun t => !Tryz.prog.wantsStandIn t) = true := by kernel_rfl
theorem plain (f : FuncId) (fn : Func) (hf : Tryz.pinned.checked.prog.funcNamed "palmette/palmettelaw26.TreeDecompTransform" = some f) (hfn : Tryz.pinned.checked.prog.funcs[f]? = some fn) :
   true = Tryz.pinned.checked.prog.looks [] ∧ ∀ (j : Nat) t, fn.params[j]? = some t → Tryz.pinned.checked.prog.wantsStandIn t = false := by
 obtain rfl : f = 4 := Option.some.inj ((show Tryz.prog.funcNamed "palmette/palmettelaw26.TreeDecompTransform" = some 4 by kernel_rfl).symm.trans hf) |>.symm
 obtain rfl : fn = Tryz.f4 := (Option.some.inj (Tryz.func4.symm.trans hfn)).symm
 refine ⟨by kernel_rfl, fun j t ht => ?_⟩
 rw [Tryz.params4] at ht
 have ht' : t ∈ ([46, 22, 3] : List Nat) := by simpa using Array.mem_of_getElem? ht
 have h := List.all_eq_true.1 noStand t ht'
 have h2 : Tryz.prog.wantsStandIn t = false := by simpa using h
 exact h2
end Go.Proofs.YtmmhngjndnonhaaGreatDoor
