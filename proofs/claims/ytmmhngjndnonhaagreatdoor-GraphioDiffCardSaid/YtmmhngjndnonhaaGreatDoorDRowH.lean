/-
  GraphioDiff answers true for every input, and its arguments read afterwards as before: the row, and the tied card.
-/
import Derived.Test.YtmmhngjndnonhaaGreatDoorCards
import Derived.Test.YtmmhngjndnonhaaGreatDoorTie
import Derived.Test.YtmmhngjndnonhaaGreatDoorDYG
import Derived.Test.YtmmhngjndnonhaaGreatDoorDOp
import Derived.WalkKit
import Derived.ProofKit
import Derived.OpenShut
import Derived.Deep.DeepHandedRow
import Derived.Lib.LaidTab
import Derived.Stop.LaidErr
import Derived.Deep.Frames
set_option linter.unusedSimpArgs false
set_option linter.unusedVariables false
namespace Go.Proofs.YtmmhngjndnonhaaGreatDoor
open Go Go.ChangeShapes Go.WideShapes Go.ChangeAt Go.RowKit Go.Pal Go.Deep

theorem own : ownKnob Tryz.prog.godebug = none := by kernel_rfl
theorem laidOut : laidOutB Tryz.prog = true := by kernel_rfl
theorem gTab : Tryz.prog.globalNamed "math/bits.deBruijn64tab" = some 0 := by kernel_rfl
theorem gTabType : (Tryz.prog.globals[0]?).map (·.type) = some 250 := by kernel_rfl
theorem cellsTab : Tryz.prog.cellsOf 250 = 64 := by kernel_rfl
theorem cellsU8 : Tryz.prog.cellsOf 5 = 1 := by kernel_rfl
theorem gTabP : Tryz.prog.globalNamed "internal/strconv.uint64pow10" = some 1 := by kernel_rfl
theorem gTabTypeP : (Tryz.prog.globals[1]?).map (·.type) = some 266 := by kernel_rfl
theorem cellsTabP : Tryz.prog.cellsOf 266 = 20 := by kernel_rfl
theorem cellsU64r : Tryz.prog.cellsOf 55 = 1 := by kernel_rfl
/-- The table of the 32-bit trailing zeros, as it is laid. -/
def tab32 : List Int := [0, 1, 28, 2, 29, 14, 24, 3, 30, 22, 20, 15, 25, 17, 4, 8, 31, 27, 13, 23, 21, 19, 16, 7, 26, 12, 18, 6, 11, 5, 10, 9]
theorem laid_eq : Rows.graphioDiffRow.laid = [("math/bits.deBruijn32tab", Lib.tabData .u8 tab32), ("math/bits.deBruijn64tab", Lib.tabData .u8 (Lib.deBruijn64tab.map fun n : Nat => (n : Int))), ("internal/strconv.uint64pow10", Lib.tabData .u64 Lib.pow10Tab)] := by kernel_rfl
theorem table {W : World} (h : laidMetH Tryz.prog Rows.graphioDiffRow.laid W) : Lib.TabIs Tryz.prog W "math/bits.deBruijn64tab" .u8 (Lib.deBruijn64tab.map fun n : Nat => (n : Int)) := by
  rw [laid_eq] at h
  exact Lib.tabIs_of_head gTab gTabType Tryz.underlying250 Tryz.underlying5 cellsU8 cellsTab (laidMet.tail h)
theorem tableP {W : World} (h : laidMetH Tryz.prog Rows.graphioDiffRow.laid W) : Lib.TabIs Tryz.prog W "internal/strconv.uint64pow10" .u64 Lib.pow10Tab := by
  rw [laid_eq] at h
  exact Lib.tabIs_of_head (rest := []) gTabP gTabTypeP Tryz.underlying266 Tryz.underlying55 cellsU64r cellsTabP (laidMet.tail (laidMet.tail h))
theorem pow_of {W : World} (h : Lib.TabIs Tryz.prog W "internal/strconv.uint64pow10" .u64 Lib.pow10Tab) : Pow W := Lib.tabBelow_of_tabIs h
theorem tabs_of {W : World} (h : laidMetH Tryz.prog Rows.graphioDiffRow.laid W) : Tab3 W := by
  have h1 : TabOk W := fun j hj => by
    have := (table h).cell gTab j (by rw [List.length_map]; exact hj)
    rw [this]
    have e : Lib.deBruijn64tab[j]? = some Lib.deBruijn64tab[j] := List.getElem?_eq_getElem hj
    simp [List.getD, e]
  refine ⟨⟨h1, ?_⟩, pow_of (tableP h)⟩
  have := h1 0 (by decide)
  exact World.block_lt_of_cell? W _ this

set_option maxRecDepth 100000 in
theorem contract (H : Type) (enc : TypeId × Value → H) (W : World) (base : Nat) (args : Array Value) (ds gs : List (DataW H)) (before : List MemPlace)
    (hval : ∀ (j : Nat) t v, Tryz.f3.params[j]? = some t → args[j]? = some v → Value.okWide Tryz.prog W .any base t v)
    (hW : DataW.Whole enc Tryz.prog Tryz.f3.params.toList Rows.graphioDiffSpec.vars false W args.toList ds gs before) (hL : laidMetH Tryz.prog Rows.graphioDiffRow.laid W) :
    Calls Tryz.prog 3 args W fun e W' => ∃ v, e = .returned v ∧ Rows.graphioDiffSpec.post enc Tryz.prog Tryz.f3 false true false false W args v W' := by
  have hW' := hW
  obtain ⟨p, q, hA0, hV, rfl, hfz, hnd⟩ := hW
  have hA : DataW.TrodAll enc Tryz.prog W 0 (fun _ => true) true Tryz.f3.params.toList args.toList ds p := hA0
  rw [Tryz.params3] at hA hval
  obtain ⟨v0, vs0, d0, ds0, p0, q0, hargs, rfl, rfl, h0, r0⟩ := trodAll_cons hA
  obtain ⟨v1, vs1, d1, ds1, p1, q1, rfl, rfl, rfl, h1, r1⟩ := trodAll_cons r0
  obtain ⟨rfl, rfl, rfl⟩ := trodAll_nil r1
  obtain rfl : args = #[v0, v1] := by cases args; simp_all
  obtain ⟨rfl, rfl⟩ := trodVars_none hV
  obtain ⟨ua, ul, uc, rfl⟩ := okWide_slice Tryz.underlying22 (hval 0 22 v0 rfl rfl)
  obtain ⟨ub, um, ud, rfl⟩ := okWide_slice Tryz.underlying22 (hval 1 22 v1 rfl rfl)
  have k0 := h0
  have k1 := h1
  obtain ⟨fu, hf⟩ := h0
  obtain ⟨fu1, hf1⟩ := h1
  obtain ⟨es, hrd, ⟨a0, m0, c0, e0, l0, n0, x0, y0⟩, hes, hmp⟩ := open_row Tryz.underlying22 5 (by decide) oc_edit edC (fun _ => rfl) Ed.Wf ⟨0, 0, 0, 0, 0⟩ ⟨inI_0, inI_0, inI_0, by decide, inI_0⟩ (fun h => open_edit h) hf
  obtain ⟨fs, hrd1, ⟨a1, m1, c1, e1, l1, n1, x1, y1⟩, hfs, hmp1⟩ := open_row Tryz.underlying22 5 (by decide) oc_edit edC (fun _ => rfl) Ed.Wf ⟨0, 0, 0, 0, 0⟩ ⟨inI_0, inI_0, inI_0, by decide, inI_0⟩ (fun h => open_edit h) hf1
  have hT := tabs_of hL
  have hlaw := dfLaw_any es hes fs hfs _ _ W hrd ⟨a0, m0, c0, e0, l0, y0⟩ hrd1 ⟨a1, m1, c1, e1, l1, y1⟩ hT
  refine hlaw.mono fun e W' ⟨he, hb⟩ => ?_
  subst he
  refine ⟨_, rfl, _, _, _, [], p0 ++ (p1 ++ []), [], hW', ?_, ?_, ?_, hb.frame _, fun h => by cases h⟩
  · exact trodAll_mk1 (shut_bool Tryz.underlying4 true)
  · refine trodAll_cons_mk (WideElems.Trod_stays laidOut (by kernel_rfl) (of_decide_eq_true (by kernel_rfl)) k0 (fun x hx => ?_) (fun x hx => ?_)) (trodAll_cons_mk (WideElems.Trod_stays laidOut (by kernel_rfl) (of_decide_eq_true (by kernel_rfl)) k1 (fun x hx => ?_) (fun x hx => ?_)) trodAll_mk0)
    · have hlt : x.block < W.heap.size := by simpa using hW'.lt x (by simp [hx])
      have hk : W.keptBut W' (fun _ => False) := hb.frame _
      exact World.keptBut.sameAt hk hlt (fun h => h) (fun b e => absurd e (hmp x hx b))
    · have hlt : x.block < W.heap.size := by simpa using hW'.lt x (by simp [hx])
      simpa using hlt
    · have hlt : x.block < W.heap.size := by simpa using hW'.lt x (by simp [hx])
      have hk : W.keptBut W' (fun _ => False) := hb.frame _
      exact World.keptBut.sameAt hk hlt (fun h => h) (fun b e => absurd e (hmp1 x hx b))
    · have hlt : x.block < W.heap.size := by simpa using hW'.lt x (by simp [hx])
      simpa using hlt
  · rfl

/-- A world for the witness: the settled one, the tables holding what their initialisers lay. -/
def putTab (cs : Array Value) : Obj → Obj
  | .cells _ t frozen => .cells cs t frozen
  | o => o
noncomputable def laidWorld (os : Os) : World :=
  { World.holding Tryz.prog os ⟨#[], #[], []⟩ with heap := (((World.holding Tryz.prog os ⟨#[], #[], []⟩).heap.modify 0 (putTab (Lib.deBruijn64tab.map fun n : Nat => Value.int .u8 (n : Int)).toArray)).modify 3 (putTab (tab32.map fun n : Int => Value.int .u8 n).toArray)).modify 1 (putTab (Lib.pow10Tab.map fun n : Int => Value.int .u64 n).toArray) }
theorem laid_met (os : Os) : laidMet Tryz.prog Rows.graphioDiffRow.laid ((laidWorld os).forCall (fun _ _ => 0) ⟨#[], #[.slice none 0 0, .slice none 0 0], []⟩).memory :=
  laidMet_of_run' 8 (by kernel_rfl) (by kernel_rfl)
theorem reads (os : Os) {H : Type} (enc : TypeId × Value → H) : ∃ places, DataW.whole enc Tryz.prog ((laidWorld os).forCall (fun _ _ => 0) ⟨#[], #[.slice none 0 0, .slice none 0 0], []⟩).memory Tryz.f3.params.toList Rows.graphioDiffSpec.vars false #[.slice none 0 0, .slice none 0 0].toList 40 = some ([.nil, .nil], [], places) :=
  ⟨[], by kernel_rfl⟩

set_option maxRecDepth 100000 in
theorem lifted (os : Os) (started : os.Started) (H : Type) (enc : TypeId × Value → H) (F : Stop.Interp) :
    ReturnsInHanded {} Tryz.checked os 3 .any ((OpenSpec.ofChange Rows.graphioDiffSpec).preRow enc Tryz.prog Tryz.f3 Rows.graphioDiffRow.domain false Rows.graphioDiffRow.laid) (((OpenSpec.ofChange Rows.graphioDiffSpec).at F).post enc Tryz.prog Tryz.f3 false true false false) := by
  obtain ⟨places, hx⟩ := reads os enc
  refine returnsInHanded_of_row (C := Tryz.checked) (s := OpenSpec.ofChange Rows.graphioDiffSpec) own started (by kernel_rfl) Tryz.func3
    (witness_row_at (enc := enc) (C := Tryz.checked) false (laidWorld os) #[.slice none 0 0, .slice none 0 0] rfl (by kernel_rfl) (by kernel_rfl) (by kernel_rfl)
      (OpenSpec.preRow_of_cond 40 hx (by kernel_rfl) (fun k hk => by cases hk) (by kernel_rfl) (laid_met os))) ?_
  intro W base args ds gs before hval hW _ _ _ hL _ _
  exact contract H enc W base args ds gs before hval hW hL

theorem fa1 : (Rows.graphioDiffRow.inPlace == Tryz.pinned.checked.prog.inPlace 3) = true := by kernel_rfl
theorem fa2 : (Rows.graphioDiffRow.unfollowed == Tryz.pinned.checked.prog.unfollowed 3) = true := by kernel_rfl
theorem fa3 : (Rows.graphioDiffRow.recurses == Tryz.pinned.checked.prog.recurses 3) = true := by kernel_rfl
theorem fa4 : (Rows.graphioDiffRow.named == Tryz.pinned.checked.prog.varsNamed 3) = true := by kernel_rfl
theorem facts : joinedFacts Tryz.pinned.checked.prog 3 Tryz.f3 (OpenSpec.ofChange Rows.graphioDiffSpec).bare Rows.graphioDiffRow = true := by
  unfold joinedFacts
  rw [fa1, fa2, fa3, fa4]
  kernel_rfl
theorem said : Rows.GraphioDiffSaid :=
  OpenClaim.holds_of_cond 3 Tryz.f3 rfl rfl rfl rfl rfl rfl rfl ⟨rfl, rfl, rfl, rfl, rfl⟩ rfl rfl rfl rfl rfl (by kernel_rfl) Tryz.func3 facts
    (of_decide_eq_true (by kernel_rfl)) (by unfold Func.isWrapper; first | (rw [if_pos (by decide +kernel)]; kernel_rfl) | (rw [if_neg (by decide +kernel)]; exact ⟨rfl, rfl⟩))
    (fun os started H enc _ F => by rw [OpenClaim.pre_eq_preRow]; exact lifted os started H enc F)

theorem noStand : ([22, 22] : List Nat).all (fun t => !Tryz.prog.wantsStandIn t) = true := by kernel_rfl
theorem plain (f : FuncId) (fn : Func) (hf : Tryz.pinned.checked.prog.funcNamed "palmette/palmettelaw06.GraphioDiff" = some f) (hfn : Tryz.pinned.checked.prog.funcs[f]? = some fn) :
    true = Tryz.pinned.checked.prog.looks [] ∧ ∀ (j : Nat) t, fn.params[j]? = some t → Tryz.pinned.checked.prog.wantsStandIn t = false := by
  obtain rfl : f = 3 := Option.some.inj ((show Tryz.prog.funcNamed "palmette/palmettelaw06.GraphioDiff" = some 3 by kernel_rfl).symm.trans hf) |>.symm
  obtain rfl : fn = Tryz.f3 := (Option.some.inj (Tryz.func3.symm.trans hfn)).symm
  refine ⟨by kernel_rfl, fun j t ht => ?_⟩
  rw [Tryz.params3] at ht
  have ht' : t ∈ ([22, 22] : List Nat) := by simpa using Array.mem_of_getElem? ht
  have h := List.all_eq_true.1 noStand t ht'
  have h2 : Tryz.prog.wantsStandIn t = false := by simpa using h
  exact h2

end Go.Proofs.YtmmhngjndnonhaaGreatDoor
