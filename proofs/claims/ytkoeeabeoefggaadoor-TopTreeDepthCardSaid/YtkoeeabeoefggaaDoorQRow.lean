/-
  TopTreeDepth answers true for every input, and its arguments read afterwards as before: the row, and the tied card.
-/
import Derived.Test.YtkoeeabeoefggaaDoorCards
import Derived.Test.YtkoeeabeoefggaaDoorTie
import Derived.Test.YtkoeeabeoefggaaDoorQTop19
import Derived.Test.YtkoeeabeoefggaaDoorQTop21
import Derived.WalkKit
import Derived.ProofKit
import Derived.OpenShut
import Derived.Deep.DeepHandedRow
import Derived.Lib.LaidTab
import Derived.Deep.Frames
namespace Go.Proofs.YtkoeeabeoefggaaDoor
open Go Go.ChangeShapes Go.WideShapes Go.ChangeAt Go.RowKit Go.Pal Go.Deep

theorem own : ownKnob Tryd.prog.godebug = none := by kernel_rfl
theorem laidOut : laidOutB Tryd.prog = true := by kernel_rfl
theorem gTab : Tryd.prog.globalNamed "math/bits.deBruijn64tab" = some 0 := by kernel_rfl
theorem gTabType : (Tryd.prog.globals[0]?).map (·.type) = some 105 := by kernel_rfl
theorem cellsTab : Tryd.prog.cellsOf 105 = 64 := by kernel_rfl
theorem cellsU8 : Tryd.prog.cellsOf 5 = 1 := by kernel_rfl
theorem cellsU16 : Tryd.prog.cellsOf 22 = 1 := by kernel_rfl
theorem table {W : World} (h : laidMetH Tryd.prog Rows.topTreeDepthRow.laid W) : Lib.TabIs Tryd.prog W "math/bits.deBruijn64tab" .u8 (Lib.deBruijn64tab.map fun n : Nat => (n : Int)) :=
  Lib.tabIs_of_head (rest := []) gTab gTabType Tryd.underlying105 Tryd.underlying5 cellsU8 cellsTab h
theorem tabs_of {W : World} (h : laidMetH Tryd.prog Rows.topTreeDepthRow.laid W) : Tabs W := by
  have h1 : TabOk W := fun j hj => by
    have := (table h).cell gTab j (by rw [List.length_map]; exact hj)
    rw [this]
    have e : Lib.deBruijn64tab[j]? = some Lib.deBruijn64tab[j] := List.getElem?_eq_getElem hj
    simp [List.getD, e]
  refine ⟨h1, ?_⟩
  have := h1 0 (by decide)
  exact World.block_lt_of_cell? W _ this

theorem wf16 {n : Int} (h : (Lit.int .u16 n).wf = true) : 0 ≤ n ∧ n ≤ 65535 := by
  simp only [Lit.wf, Bool.and_eq_true, decide_eq_true_eq] at h
  rwa [show IntKind.u16.min = 0 from rfl, show IntKind.u16.max = 65535 from rfl] at h
theorem wf8 {n : Int} (h : (Lit.int .u8 n).wf = true) : 0 ≤ n ∧ n ≤ 255 := by
  simp only [Lit.wf, Bool.and_eq_true, decide_eq_true_eq] at h
  rwa [show IntKind.u8.min = 0 from rfl, show IntKind.u8.max = 255 from rfl] at h

set_option maxRecDepth 100000 in
theorem contract (H : Type) (enc : TypeId × Value → H) (W : World) (base : Nat) (args : Array Value) (ds gs : List (DataW H)) (before : List MemPlace)
    (hval : ∀ (j : Nat) t v, Tryd.f3.params[j]? = some t → args[j]? = some v → Value.okWide Tryd.prog W .any base t v)
    (hW : DataW.Whole enc Tryd.prog Tryd.f3.params.toList Rows.topTreeDepthSpec.vars false W args.toList ds gs before) (hL : laidMetH Tryd.prog Rows.topTreeDepthRow.laid W) :
    Calls Tryd.prog 3 args W fun e W' => ∃ v, e = .returned v ∧ Rows.topTreeDepthSpec.post enc Tryd.prog Tryd.f3 false true false false W args v W' := by
  have hW' := hW
  obtain ⟨p, q, hA0, hV, rfl, hfz, hnd⟩ := hW
  have hA : DataW.TrodAll enc Tryd.prog W 0 (fun _ => true) true Tryd.f3.params.toList args.toList ds p := hA0
  rw [Tryd.params3] at hA hval
  obtain ⟨v0, vs0, d0, ds0, p0, q0, hargs, rfl, rfl, h0, r0⟩ := trodAll_cons hA
  obtain ⟨v1, vs1, d1, ds1, p1, q1, rfl, rfl, rfl, h1, r1⟩ := trodAll_cons r0
  obtain ⟨v2, vs2, d2, ds2, p2, q2, rfl, rfl, rfl, h2, r2⟩ := trodAll_cons r1
  obtain ⟨rfl, rfl, rfl⟩ := trodAll_nil r2
  obtain rfl : args = #[v0, v1, v2] := by cases args; simp_all
  obtain ⟨rfl, rfl⟩ := trodVars_none hV
  obtain ⟨n, rfl, rfl, rfl, hwn⟩ := open_int Tryd.underlying22 (hval 0 22 v0 rfl rfl) h0
  obtain ⟨f, rfl, rfl, rfl, hwf⟩ := open_int Tryd.underlying5 (hval 1 5 v1 rfl rfl) h1
  obtain ⟨ua, ul, uc, rfl⟩ := okWide_slice Tryd.underlying23 (hval 2 23 v2 rfl rfl)
  have h2k := h2
  obtain ⟨fu, hf⟩ := h2
  have hn2 := wf16 hwn
  have hf2 := wf8 hwf
  obtain ⟨n', rfl⟩ : ∃ m : Nat, n = (m : Int) := ⟨n.toNat, by omega⟩
  obtain ⟨f', rfl⟩ : ∃ m : Nat, f = (m : Int) := ⟨f.toNat, by omega⟩
  obtain ⟨us, hus, hrd, hul, hmp⟩ : ∃ us : List Nat, (∀ x ∈ us, x < 65536) ∧ Rd encU 1 W.heap.size W (.slice ua ul uc) us ∧ us.length ≤ 9223372036854775807 ∧ ∀ x ∈ p2, ∀ b, x ≠ MemPlace.map b := by
    rcases open_ints Tryd.underlying23 Tryd.underlying22 cellsU16 hf with ⟨hcs, hx⟩ | ⟨a, len', cap', zs, hcs, _, hl, hm, hz, hx, hcell, hwz⟩
    · simp [Value.cells] at hcs
      obtain ⟨rfl, rfl, rfl⟩ := hcs
      simp only [Prod.mk.injEq] at hx
      obtain ⟨-, rfl⟩ := hx
      exact ⟨[], by simp, ⟨none, 0, rfl, .inl rfl⟩, by simp, by simp⟩
    · simp [Value.cells] at hcs
      obtain ⟨rfl, rfl, rfl⟩ := hcs
      simp only [if_true] at hz
      simp only [Prod.mk.injEq] at hx
      obtain ⟨-, rfl⟩ := hx
      refine ⟨(zs.take ul).map Int.toNat, ?_, ?_, ?_, ?_⟩
      · intro x hx
        obtain ⟨z, hz1, rfl⟩ := List.mem_map.1 hx
        have := hwz z (List.mem_of_mem_take hz1)
        have h3 := wf16 this
        omega
      · refine ⟨some a, uc, by simp; omega, ?_⟩
        rcases Nat.eq_zero_or_pos ul with h0 | h0
        · subst h0; exact .inl (by simp)
        · right
          obtain ⟨xb, xo, spot⟩ := a
          have hspot : spot = none := by simpa [Addr.add] using World.cell?_spot (hcell 0 (by omega))
          subst hspot
          have hlt0 := World.block_lt_of_cell? W _ (hcell 0 (by omega))
          refine ⟨xb, xo, rfl, by simpa [Addr.add] using hlt0, fun i x hx j u hu => ?_⟩
          rw [List.getElem?_map] at hx
          obtain ⟨z, hz1, rfl⟩ := Option.map_eq_some_iff.1 hx
          rw [List.getElem?_take] at hz1
          split at hz1
          · have hi := (List.getElem?_eq_some_iff.1 hz1).1
            have hc := hcell i hi
            have hzz : zs.getD i 0 = z := by simp [List.getD, hz1]
            rw [hzz] at hc
            have h3 := wf16 (hwz z (List.mem_of_getElem? hz1))
            match j, hu with
            | 0, hu =>
              have hu' : u = .int .u16 ((z.toNat : Nat) : Int) := (Option.some.inj hu).symm
              subst hu'
              have e : (⟨xb, xo, none⟩ : Addr).add i = ⟨xb, xo + i * 1 + 0, none⟩ := by unfold Addr.add; split <;> simp_all
              rw [← e, hc, Int.toNat_of_nonneg h3.1]
          · cases hz1
      · unfold maxLen at hm
        simp
        omega
      · intro x hx b e
        obtain ⟨j, _, rfl⟩ := MemPlace.mem_row.1 hx
        cases e
  have hT := tabs_of hL
  refine (main_any known_any n' f' (by omega) (by omega) us hus _ W hrd hul hT).mono fun e W' ⟨he, hb⟩ => ?_
  subst he
  refine ⟨_, rfl, _, _, _, [], [] ++ ([] ++ (p2 ++ [])), [], hW', ?_, ?_, ?_, hb.frame _, fun h => by cases h⟩
  · exact trodAll_mk1 (shut_bool Tryd.underlying4 true)
  · refine trodAll_cons_mk (shut_int Tryd.underlying22 hwn) (trodAll_cons_mk (shut_int Tryd.underlying5 hwf) (trodAll_cons_mk (WideElems.Trod_stays laidOut (by kernel_rfl) (of_decide_eq_true (by kernel_rfl)) h2k (fun x hx => ?_) (fun x hx => ?_)) trodAll_mk0))
    · have hlt : x.block < W.heap.size := by simpa using hW'.lt x (by simp [hx])
      have hk : W.keptBut W' (fun _ => False) := hb.frame _
      exact World.keptBut.sameAt hk hlt (fun h => h) (fun b e => absurd e (hmp x hx b))
    · have hlt : x.block < W.heap.size := by simpa using hW'.lt x (by simp [hx])
      simpa using hlt
  · rfl
/-- A world for the witness: the settled one, the table holding what its initialiser lays. -/
noncomputable def laidWorld (os : Os) : World :=
  { World.holding Tryd.prog os ⟨#[], #[], []⟩ with heap := (World.holding Tryd.prog os ⟨#[], #[], []⟩).heap.modify 0 fun
      | .cells _ t frozen => .cells (Lib.deBruijn64tab.map fun n : Nat => Value.int .u8 (n : Int)).toArray t frozen
      | o => o }
theorem laid_met (os : Os) : laidMet Tryd.prog Rows.topTreeDepthRow.laid ((laidWorld os).forCall (fun _ _ => 0) ⟨#[], #[.int .u16 0, .int .u8 0, .slice none 0 0], []⟩).memory :=
  laidMet_of_run' 8 (by kernel_rfl) (by kernel_rfl)
theorem reads (os : Os) {H : Type} (enc : TypeId × Value → H) : ∃ places, DataW.whole enc Tryd.prog ((laidWorld os).forCall (fun _ _ => 0) ⟨#[], #[.int .u16 0, .int .u8 0, .slice none 0 0], []⟩).memory Tryd.f3.params.toList Rows.topTreeDepthSpec.vars false #[Value.int .u16 0, Value.int .u8 0, Value.slice none 0 0].toList 8 = some ([.lit (.int .u16 0), .lit (.int .u8 0), .nil], [], places) :=
  ⟨[], by kernel_rfl⟩

set_option maxRecDepth 100000 in
theorem lifted (os : Os) (started : os.Started) (H : Type) (enc : TypeId × Value → H) (F : Stop.Interp) :
    ReturnsInHanded {} Tryd.checked os 3 .any ((OpenSpec.ofChange Rows.topTreeDepthSpec).preRow enc Tryd.prog Tryd.f3 Rows.topTreeDepthRow.domain false Rows.topTreeDepthRow.laid) (((OpenSpec.ofChange Rows.topTreeDepthSpec).at F).post enc Tryd.prog Tryd.f3 false true false false) := by
  obtain ⟨places, hx⟩ := reads os enc
  refine returnsInHanded_of_row (C := Tryd.checked) (s := OpenSpec.ofChange Rows.topTreeDepthSpec) own started (by kernel_rfl) Tryd.func3
    (witness_row_at (enc := enc) (C := Tryd.checked) false (laidWorld os) #[.int .u16 0, .int .u8 0, .slice none 0 0] rfl (by kernel_rfl) (by kernel_rfl) (by kernel_rfl)
      (OpenSpec.preRow_of_cond 8 hx (by kernel_rfl) (fun k hk => by cases hk) (by kernel_rfl) (laid_met os))) ?_
  intro W base args ds gs before hval hW _ _ _ hL _ _
  exact contract H enc W base args ds gs before hval hW hL

theorem said : Rows.TopTreeDepthSaid :=
  OpenClaim.holds_of_cond 3 Tryd.f3 rfl rfl rfl rfl rfl rfl rfl ⟨rfl, rfl, rfl, rfl, rfl⟩ rfl rfl rfl rfl rfl (by kernel_rfl) Tryd.func3 (by kernel_rfl)
    (of_decide_eq_true (by kernel_rfl)) (by unfold Func.isWrapper; first | (rw [if_pos (by decide +kernel)]; kernel_rfl) | (rw [if_neg (by decide +kernel)]; exact ⟨rfl, rfl⟩))
    (fun os started H enc _ F => by rw [OpenClaim.pre_eq_preRow]; exact lifted os started H enc F)

theorem plain (f : FuncId) (fn : Func) (hf : Tryd.pinned.checked.prog.funcNamed "palmette/palmettelaw46.TopTreeDepth" = some f) (hfn : Tryd.pinned.checked.prog.funcs[f]? = some fn) :
    false = Tryd.pinned.checked.prog.looks [] ∧ ∀ (j : Nat) t, fn.params[j]? = some t → Tryd.pinned.checked.prog.wantsStandIn t = false := by
  obtain rfl : f = 3 := Option.some.inj ((show Tryd.prog.funcNamed "palmette/palmettelaw46.TopTreeDepth" = some 3 by kernel_rfl).symm.trans hf) |>.symm
  obtain rfl : fn = Tryd.f3 := (Option.some.inj (Tryd.func3.symm.trans hfn)).symm
  refine ⟨by kernel_rfl, fun j t ht => ?_⟩
  rw [Tryd.params3] at ht
  have ht' : t = 22 ∨ t = 5 ∨ t = 23 := by simpa using Array.mem_of_getElem? ht
  rcases ht' with rfl | rfl | rfl
  · exact (show Tryd.prog.wantsStandIn 22 = false by kernel_rfl)
  · exact (show Tryd.prog.wantsStandIn 5 = false by kernel_rfl)
  · exact (show Tryd.prog.wantsStandIn 23 = false by kernel_rfl)

/-- The card: TopTreeDepth answers true for every input, and its arguments read afterwards as before. -/
theorem depth_card : Rows.TopTreeDepthCardSaid :=
  Claim7.holds_tied_plain_at .later [] _ _ _ _ said (fun _ h => by cases h) (by kernel_rfl) (fun _ h => by cases h) topTreeDepth_row_tie rfl ⟨rfl, rfl⟩ (by kernel_rfl) rfl plain (by kernel_rfl)
end Go.Proofs.YtkoeeabeoefggaaDoor
