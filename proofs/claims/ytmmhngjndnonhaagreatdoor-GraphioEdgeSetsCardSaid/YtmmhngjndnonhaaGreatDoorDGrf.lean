/-
  The graph in memory: a structure of two maps; New; the types' facts.
  Walks of package graph: between, id, pairs, weighs, heavy, and the tests of an edit.
  Variables of the graph's types in memory.
-/
import Derived.Test.YtmmhngjndnonhaaGreatDoorDGp
import Derived.Test.YtmmhngjndnonhaaGreatDoorDRoR
import Derived.Test.YtmmhngjndnonhaaGreatDoorDSets
import Derived.Maps.Own
import Derived.Maps.OwnIn
import Derived.Test.YtmmhngjndnonhaaGreatDoorDRule
set_option linter.unusedSimpArgs false
set_option linter.unusedVariables false
namespace Go.Proofs.YtmmhngjndnonhaaGreatDoor
open Go Go.RowKit Go.Pal

theorem laidOutG : laidOutB Tryz.prog = true := by kernel_rfl
/-- The codes of the map of vertices, the map of edges. -/
def CV : Cod Int Th := { key := fun n => .int .i64 n, kl := fun n => .int .i64 n, ok := InI, val := thV, dat := thD }
def endsV (e : Int × Int) : Value := .agg #[.int .i64 e.1, .int .i64 e.2]
noncomputable def CE : Cod (Int × Int) Th := { key := endsV, kl := fun e => (keyOf Tryz.prog 117 (endsV e)).getD (.bool false), ok := fun e => InI e.1 ∧ InI e.2, val := thV, dat := thD }
theorem wf_i64 {n : Int} (h : InI n) : (Lit.int .i64 n).wf = true := by
  unfold InI at h
  have h1 : IntKind.i64.min = -9223372036854775808 := by decide
  have h2 : IntKind.i64.max = 9223372036854775807 := by decide
  simp [Lit.wf, h1, h2]
  exact h
theorem goodV : CV.Good Tryz.prog 3 where
  keyed := Maps.int_keyed Tryz.underlying3
  kinj x y _ _ h := by simpa [CV] using h
  isk x _ := trivial
  keyOf x hx := Maps.keyOf_int_mk Tryz.underlying3 (wf_i64 hx)
  vinj := thV_inj
  dinj := thD_inj
theorem rowEnds : 117 < Tryz.prog.types.size := by
  have : Tryz.prog.types[117]?.isSome = true := by kernel_rfl
  exact (Array.getElem?_eq_some_iff.1 (Option.some_get this).symm).1
theorem keyedE : Maps.Keyed Tryz.prog 117 := Maps.Keyed.of_law (deep_law_laid laidOutG (m := 5) (by omega) rowEnds (by kernel_rfl) (by rw [Tryz.underlying117]))
theorem keyLitsE (e : Int × Int) (h : InI e.1 ∧ InI e.2) (d : Nat) : Tryz.prog.keyLits (d + 2) 117 [.int .i64 e.1, .int .i64 e.2] = some [.int .i64 e.1, .int .i64 e.2] := by
  have hc : Tryz.prog.cellsOf 117 = 2 := by kernel_rfl
  have hc3 : Tryz.prog.cellsOf 3 = 1 := by kernel_rfl
  unfold Program.keyLits
  rw [Tryz.underlying117]
  simp only [hc]
  simp [Program.keyLits, hc3, Tryz.underlying3, wf_i64 h.1, wf_i64 h.2]
theorem keyOfE (e : Int × Int) (h : InI e.1 ∧ InI e.2) : keyOf Tryz.prog 117 (endsV e) = some (.string (keyBytes [.int .i64 e.1, .int .i64 e.2])) := by
  have hk : Tryz.prog.keyType 117 = true := by kernel_rfl
  have hc : Tryz.prog.cellsOf 117 = 2 := by kernel_rfl
  have hn : Tryz.prog.types.size + 1 = (Tryz.prog.types.size - 1) + 2 := by have := rowEnds; omega
  have hf : (endsV e).formed Tryz.prog 117 = true := by
    unfold endsV Value.formed
    rw [Tryz.underlying117]
    simp [hc]
  unfold keyOf
  rw [Tryz.underlying117]
  simp only [hk, hf, hn]
  have hcs : (endsV e).cells.toList = [.int .i64 e.1, .int .i64 e.2] := by simp [endsV, Value.cells]
  rw [hcs, keyLitsE e h]
  rfl
theorem goodE : CE.Good Tryz.prog 117 where
  keyed := keyedE
  kinj x y hx hy h := by
    have h1 := keyOfE x hx
    have h2 := keyOfE y hy
    simp only [CE] at h
    rw [h1, h2] at h
    simp only [Option.getD_some] at h
    rw [← h] at h2
    have := keyedE.inj h1 h2
    unfold endsV at this
    simp only [Value.agg.injEq, Array.mk.injEq, List.cons.injEq, Value.int.injEq, true_and, and_true] at this
    exact Prod.ext this.1 this.2
  isk x hx := by
    simp only [CE]
    rw [keyOfE x hx]
    trivial
  keyOf x hx := by
    simp only [CE]
    rw [keyOfE x hx]
    rfl
  vinj := thV_inj
  dinj := thD_inj

/-- The graph in memory: at g a structure of two maps, in blocks bV and bE. -/
structure GOk (w : World) (g bV bE : Nat) (G : Gr) : Prop where
  row : row? w g = some #[.map (some bV), .map (some bE)]
  V : Pal.Own CV Tryz.prog 3 w bV G.V
  E : Pal.Own CE Tryz.prog 117 w bE G.E
  ne : bV ≠ bE
theorem GOk.congr {w w' : World} {g bV bE : Nat} {G : Gr} (h : GOk w g bV bE G) (hg : w'.heap[g]? = w.heap[g]?) (hV : w'.heap[bV]? = w.heap[bV]?) (hE : w'.heap[bE]? = w.heap[bE]?) : GOk w' g bV bE G :=
  ⟨(row?_congr hg).trans h.row, h.V.congr hV, h.E.congr hE, h.ne⟩
theorem GOk.lt {w : World} {g bV bE : Nat} {G : Gr} (h : GOk w g bV bE G) : g < w.heap.size ∧ bV < w.heap.size ∧ bE < w.heap.size := ⟨row?_lt h.row, h.V.lt, h.E.lt⟩
theorem GOk.below {w w' : World} {g bV bE : Nat} {G : Gr} (h : GOk w g bV bE G) (hb : Below w.heap.size w w') : GOk w' g bV bE G :=
  h.congr (hb.block _ h.lt.1) (hb.block _ h.lt.2.1) (hb.block _ h.lt.2.2)
theorem GOk.gne {w : World} {g bV bE : Nat} {G : Gr} (h : GOk w g bV bE G) : g ≠ bV ∧ g ≠ bE := by
  obtain ⟨t, ht⟩ := row?_some h.row
  refine ⟨fun e => ?_, fun e => ?_⟩
  · obtain ⟨D, ⟨es, clock, h1, -⟩, -⟩ := h.V
    rw [← e, ht] at h1
    cases h1
  · obtain ⟨D, ⟨es, clock, h1, -⟩, -⟩ := h.E
    rw [← e, ht] at h1
    cases h1
theorem zeroThing (w : World) : (zeroValue 111).run Tryz.prog w = .ok (thV (0, 0)) w := by kernel_rfl
theorem Ed.pair {e : Ed} (h : e.Wf) : InI (btw e.u e.v).1 ∧ InI (btw e.u e.v).2 := by
  have h1 := h.u
  have h2 := h.v
  unfold InI at *
  unfold btw
  simp only
  omega

/-- New makes a graph without vertices. -/
theorem gnew_ok (w : World) : Calls Tryz.prog 13 #[] w fun e w' => ∃ g bV bE, e = .returned (.pointer (some ⟨g, 0, none⟩)) ∧ GOk w' g bV bE Gr.none ∧ w.heap.size ≤ g ∧ w.heap.size ≤ bV ∧ w.heap.size ≤ bE ∧ Below w.heap.size w w' := by
  have hmm := @run_makeMap Tryz.prog
  go_enter Tryz.func13, Tryz.ntmps13
  go_wp2_with fail
  go_ret
  refine ⟨w.heap.size + 1 + 1, w.heap.size, w.heap.size + 1, rfl, ⟨?_, ?_, ?_, by omega⟩, by omega, Nat.le_refl _, by omega, ?_⟩
  · exact row?_alloc_at _ _ _ _ (by simp)
  · exact (Pal.Own.made w).below (((Below.refl (w.heap.size + 1) _).alloc (by simp) _).alloc (by simp) _) (by omega)
  · refine Pal.Own.below (B := w.heap.size + 1 + 1) ?_ ((Below.refl (w.heap.size + 1 + 1) _).alloc (by simp) _) (by omega)
    have := Pal.Own.made (C := CE) (P := Tryz.prog) (k := 117) (w.alloc (.map #[] 0))
    rwa [World.size_alloc] at this
  (repeat' (first | (with_reducible exact Below.refl _ _) | (with_reducible assumption) | (with_reducible refine Below.alloc ?_ ?_ _) | (with_reducible refine Below.drew ?_) | (with_reducible refine Below.setCell ?_ ?_ _) | (with_reducible refine below_setRow ?_ ?_ _) | (with_reducible exact Nat.le_refl _) | omega | (simp; done) | (simp; omega) | (simp at *; omega)))
end Go.Proofs.YtmmhngjndnonhaaGreatDoor
namespace Go.Proofs.YtmmhngjndnonhaaGreatDoor
open Go Go.RowKit Go.Pal

/-- An edit as cells. -/
def edC (e : Ed) : Array Value := #[.int .i64 e.op, .int .i64 e.u, .int .i64 e.v, .int .u8 (e.lab : Int), .int .i64 e.wt]

theorem gid_any (n : Int) (w : World) : Calls Tryz.prog 111 #[.int .i64 n] w fun e w' => e = .returned (.bool (idB n)) ∧ w' = w := by
  by_cases h1 : 0 ≤ n
  · by_cases h2 : n < 1024
    · go_enter Tryz.func111, Tryz.ntmps111
      go_wp2_with fail
      go_ret
      exact ⟨by simp [idB, h1, h2], rfl⟩
    · go_enter Tryz.func111, Tryz.ntmps111
      go_wp2_with fail
      go_ret
      exact ⟨by simp [idB, h1, h2], rfl⟩
  · go_enter Tryz.func111, Tryz.ntmps111
    go_wp2_with fail
    go_ret
    exact ⟨by simp [idB]; omega, rfl⟩
theorem gheavy_any (n : Int) (w : World) : Calls Tryz.prog 114 #[.int .i64 n] w fun e w' => e = .returned (.bool (heavyB n)) ∧ w' = w := by
  by_cases h1 : n < -1048576
  · go_enter Tryz.func114, Tryz.ntmps114
    go_wp2_with fail
    go_ret
    exact ⟨by simp [heavyB, h1], rfl⟩
  · by_cases h2 : 1048576 < n
    · go_enter Tryz.func114, Tryz.ntmps114
      go_wp2_with fail
      go_ret
      exact ⟨by simp [heavyB, h2], rfl⟩
    · go_enter Tryz.func114, Tryz.ntmps114
      go_wp2_with fail
      go_ret
      exact ⟨by simp [heavyB, h1, h2], rfl⟩
theorem gpairs_any (e : Ed) (w : World) : Calls Tryz.prog 112 #[.int .i64 e.op] w fun r w' => r = .returned (.bool e.pairs) ∧ w' = w := by
  obtain ⟨n, hn⟩ : ∃ n, n = e.op := ⟨_, rfl⟩
  have hp : e.pairs = decide (n = 2 ∨ n = 3 ∨ n = 6 ∨ n = 7) := by rw [hn]; rfl
  rw [hp, ← hn]
  clear hp hn
  by_cases h1 : n = 2
  · subst h1
    go_enter Tryz.func112, Tryz.ntmps112
    go_wp2_with fail
    go_ret
    exact ⟨by simp, rfl⟩
  · by_cases h2 : n = 3
    · subst h2
      go_enter Tryz.func112, Tryz.ntmps112
      go_wp2_with fail
      go_ret
      exact ⟨by simp, rfl⟩
    · by_cases h3 : n = 6
      · subst h3
        go_enter Tryz.func112, Tryz.ntmps112
        go_wp2_with fail
        go_ret
        exact ⟨by simp, rfl⟩
      · go_enter Tryz.func112, Tryz.ntmps112
        go_wp2_with fail
        go_ret
        refine ⟨congrArg Ending.returned (congrArg Value.bool ?_), rfl⟩
        rw [Bool.eq_iff_iff]
        simp [or_assoc]
theorem gweighs_any (e : Ed) (w : World) : Calls Tryz.prog 113 #[.int .i64 e.op] w fun r w' => r = .returned (.bool e.weighs) ∧ w' = w := by
  obtain ⟨n, hn⟩ : ∃ n, n = e.op := ⟨_, rfl⟩
  have hp : e.weighs = decide (n = 0 ∨ n = 2 ∨ n = 5 ∨ n = 7) := by rw [hn]; rfl
  rw [hp, ← hn]
  clear hp hn
  by_cases h1 : n = 0
  · subst h1
    go_enter Tryz.func113, Tryz.ntmps113
    go_wp2_with fail
    go_ret
    exact ⟨by simp, rfl⟩
  · by_cases h2 : n = 2
    · subst h2
      go_enter Tryz.func113, Tryz.ntmps113
      go_wp2_with fail
      go_ret
      exact ⟨by simp, rfl⟩
    · by_cases h3 : n = 5
      · subst h3
        go_enter Tryz.func113, Tryz.ntmps113
        go_wp2_with fail
        go_ret
        exact ⟨by simp, rfl⟩
      · go_enter Tryz.func113, Tryz.ntmps113
        go_wp2_with fail
        go_ret
        refine ⟨congrArg Ending.returned (congrArg Value.bool ?_), rfl⟩
        rw [Bool.eq_iff_iff]
        simp [or_assoc]
theorem gbetween_any (u v : Int) (w : World) : Calls Tryz.prog 105 #[.int .i64 u, .int .i64 v] w fun r w' => r = .returned (endsV (btw u v)) ∧ Below w.heap.size w w' := by
  go_enter Tryz.func105, Tryz.ntmps105
  go_wp2_with fail
  all_goals
    refine ret_row w.heap.size #[.int .i64 (min u v), .int .i64 (max u v)] rfl Tryz.isAgg117 Tryz.sizeOf117 rfl rfl (by simp [go_sem] <;> omega) rfl ⟨rfl, ?_⟩
    (repeat' (first | (with_reducible exact Below.refl _ _) | (with_reducible assumption) | (with_reducible refine Below.alloc ?_ ?_ _) | (with_reducible refine Below.drew ?_) | (with_reducible refine Below.setCell ?_ ?_ _) | (with_reducible refine below_setRow ?_ ?_ _) | (with_reducible exact Nat.le_refl _) | omega | (simp; done) | (simp; omega) | (simp at *; omega)))
theorem wrong1_any (e : Ed) (ge : Nat) (w : World) (hr : row? w ge = some (edC e)) : Calls Tryz.prog 109 #[.pointer (some ⟨ge, 0, none⟩)] w fun r w' => r = .returned (.bool (decide (e.op < 0 ∨ 8 ≤ e.op))) ∧ w' = w := by
  have k0 := cell?_row (i := 0) hr
  simp [edC] at k0
  clear hr
  by_cases h1 : e.op < 0
  · go_enter Tryz.func109, Tryz.ntmps109
    go_wp2_with fail
    go_ret
    exact ⟨by simp [h1], rfl⟩
  · go_enter Tryz.func109, Tryz.ntmps109
    go_wp2_with fail
    go_ret
    exact ⟨by simp; omega, rfl⟩
set_option maxHeartbeats 2000000 in
theorem wrong2_any (e : Ed) (ge : Nat) (w : World) (hr : row? w ge = some (edC e)) : Calls Tryz.prog 110 #[.pointer (some ⟨ge, 0, none⟩)] w fun r w' => r = .returned (.bool (!idB e.u || (e.pairs && !idB e.v) || (e.weighs && heavyB e.wt))) ∧ w' = w := by
  have k0 := cell?_row (i := 0) hr
  have k1 := cell?_row (i := 1) hr
  have k2 := cell?_row (i := 2) hr
  have k4 := cell?_row (i := 4) hr
  simp [edC] at k0 k1 k2 k4
  have H1 := Lib.hid fun n W => gid_any n W
  have H2 := Lib.hid fun W => gpairs_any e W
  have H3 := Lib.hid fun W => gweighs_any e W
  have H4 := Lib.hid fun n W => gheavy_any n W
  clear hr
  cases hA : idB e.u <;> cases hB : e.pairs <;> cases hC : idB e.v <;> cases hD : e.weighs <;> cases hE : heavyB e.wt
  all_goals
    go_enter Tryz.func110, Tryz.ntmps110
    go_wp2_with fail
    (repeat (first
    | (refine (H1.out _ _).mono ?_; rintro r w1 ⟨rfl, rfl⟩; go_wp2_with fail)
    | (refine (H2.out _).mono ?_; rintro r w1 ⟨rfl, rfl⟩; go_wp2_with fail)
    | (refine (H3.out _).mono ?_; rintro r w1 ⟨rfl, rfl⟩; go_wp2_with fail)
    | (refine (H4.out _ _).mono ?_; rintro r w1 ⟨rfl, rfl⟩; go_wp2_with fail)))
    go_ret
    exact ⟨rfl, rfl⟩
set_option maxHeartbeats 1000000 in
theorem wrong3_any (e : Ed) (ge : Nat) (w : World) (hr : row? w ge = some (edC e)) : Calls Tryz.prog 115 #[.pointer (some ⟨ge, 0, none⟩)] w fun r w' => r = .returned (.bool (e.pairs && decide (e.u = e.v))) ∧ w' = w := by
  have k0 := cell?_row (i := 0) hr
  have k1 := cell?_row (i := 1) hr
  have k2 := cell?_row (i := 2) hr
  simp [edC] at k0 k1 k2
  have H2 := Lib.hid fun W => gpairs_any e W
  clear hr
  cases hB : e.pairs <;> by_cases h1 : e.u = e.v
  all_goals
    go_enter Tryz.func115, Tryz.ntmps115
    go_wp2_with fail
    refine (H2.out _).mono ?_
    rintro r w1 ⟨rfl, rfl⟩
    go_wp2_with fail
    go_ret
    exact ⟨by simp [h1], rfl⟩
set_option maxHeartbeats 1000000 in
theorem wrong4_any (e : Ed) (ge : Nat) (gu : Nat) (bu : Bool) (w : World) (hr : row? w ge = some (edC e)) (hu : row? w gu = some #[.bool bu]) : Calls Tryz.prog 116 #[.pointer (some ⟨ge, 0, none⟩), .pointer (some ⟨gu, 0, none⟩)] w fun r w' => r = .returned (.bool (decide (e.op = 0) && bu)) ∧ w' = w := by
  have k0 := cell?_row (i := 0) hr
  simp [edC] at k0
  clear hr
  have ku := cell?_row (i := 0) hu
  simp at ku
  clear hu
  by_cases h1 : e.op = 0 <;> cases bu
  all_goals
    go_enter Tryz.func116, Tryz.ntmps116
    go_wp2_with fail
    go_ret
    exact ⟨by simp [h1], rfl⟩
set_option maxHeartbeats 1000000 in
theorem wrong5_any (e : Ed) (ge : Nat) (gu gv : Nat) (bu bv : Bool) (w : World) (hr : row? w ge = some (edC e)) (hu : row? w gu = some #[.bool bu]) (hv : row? w gv = some #[.bool bv]) : Calls Tryz.prog 117 #[.pointer (some ⟨ge, 0, none⟩), .pointer (some ⟨gu, 0, none⟩), .pointer (some ⟨gv, 0, none⟩)] w fun r w' => r = .returned (.bool ((decide (e.op ≠ 0) && !e.pairs && !bu) || (decide (e.op = 2) && !(bu && bv)))) ∧ w' = w := by
  have k0 := cell?_row (i := 0) hr
  simp [edC] at k0
  have H2 := Lib.hid fun W => gpairs_any e W
  clear hr
  have ku := cell?_row (i := 0) hu
  simp at ku
  have kv := cell?_row (i := 0) hv
  simp at kv
  clear hu hv
  by_cases h1 : e.op = 0
  · go_enter Tryz.func117, Tryz.ntmps117
    go_wp2_with fail
    go_ret
    exact ⟨by simp [h1], rfl⟩
  by_cases h2 : e.op = 2 <;> cases hB : e.pairs <;> cases bu <;> cases bv
  all_goals
    (try simp only [h2] at H2)
    go_enter Tryz.func117, Tryz.ntmps117
    go_wp2_with fail
    refine (H2.out _).mono ?_
    rintro r w1 ⟨rfl, rfl⟩
    go_wp2_with fail
    go_ret
    exact ⟨by simp [h1, h2], rfl⟩
set_option maxHeartbeats 1000000 in
theorem wrong6_any (e : Ed) (ge : Nat) (gd : Nat) (bd : Bool) (w : World) (hr : row? w ge = some (edC e)) (hu : row? w gd = some #[.bool bd]) : Calls Tryz.prog 118 #[.pointer (some ⟨ge, 0, none⟩), .pointer (some ⟨gd, 0, none⟩)] w fun r w' => r = .returned (.bool (e.pairs && decide (e.op ≠ 2) && !bd)) ∧ w' = w := by
  have k0 := cell?_row (i := 0) hr
  simp [edC] at k0
  have H2 := Lib.hid fun W => gpairs_any e W
  clear hr
  have ku := cell?_row (i := 0) hu
  simp at ku
  clear hu
  by_cases h1 : e.op = 2 <;> cases hB : e.pairs <;> cases bd
  all_goals
    (try simp only [h1] at H2)
    go_enter Tryz.func118, Tryz.ntmps118
    go_wp2_with fail
    refine (H2.out _).mono ?_
    rintro r w1 ⟨rfl, rfl⟩
    go_wp2_with fail
    go_ret
    exact ⟨by simp [h1], rfl⟩
set_option maxHeartbeats 1000000 in
theorem wrong7_any (e : Ed) (ge : Nat) (gd : Nat) (bd : Bool) (w : World) (hr : row? w ge = some (edC e)) (hu : row? w gd = some #[.bool bd]) : Calls Tryz.prog 119 #[.pointer (some ⟨ge, 0, none⟩), .pointer (some ⟨gd, 0, none⟩)] w fun r w' => r = .returned (.bool (decide (e.op = 2) && bd)) ∧ w' = w := by
  have k0 := cell?_row (i := 0) hr
  simp [edC] at k0
  clear hr
  have ku := cell?_row (i := 0) hu
  simp at ku
  clear hu
  by_cases h1 : e.op = 2 <;> cases bd
  all_goals
    go_enter Tryz.func119, Tryz.ntmps119
    go_wp2_with fail
    go_ret
    exact ⟨by simp [h1], rfl⟩
set_option maxHeartbeats 1000000 in
theorem wrong8_any (e : Ed) (ge gb g bV bE : Nat) (G : Gr) (w : World) (hr : row? w ge = some (edC e)) (hg : row? w gb = some #[.pointer (some ⟨g, 0, none⟩)]) (h : GOk w g bV bE G) : Calls Tryz.prog 120 #[.pointer (some ⟨ge, 0, none⟩), .pointer (some ⟨gb, 0, none⟩)] w fun r w' => r = .returned (.bool (decide (e.op = 2) && decide (1024 ≤ G.E.length))) ∧ w' = w := by
  have k0 := cell?_row (i := 0) hr
  simp [edC] at k0
  have kg := cell?_row (i := 0) hg
  simp at kg
  have kE := cell?_row (i := 1) h.row
  simp at kE
  have hlen := fun ty => h.E.len Tryz.underlying112 ty
  obtain ⟨n, hn⟩ : ∃ n, n = G.E.length := ⟨_, rfl⟩
  rw [← hn] at hlen ⊢
  clear hr hg hn h
  by_cases h1 : e.op = 2 <;> by_cases h2 : 1024 ≤ n
  all_goals
    go_enter Tryz.func120, Tryz.ntmps120
    go_wp2_with fail
    go_ret
    refine ⟨?_, rfl⟩
    first | (simp [h1, h2]; done) | (simp [h1]; omega)
end Go.Proofs.YtmmhngjndnonhaaGreatDoor
namespace Go.Proofs.YtmmhngjndnonhaaGreatDoor
open Go Go.RowKit Go.Pal
@[go_sem ↓ high] theorem loadTH (a : Addr) : loadVar 111 a = loadLater 111 a := rfl
@[go_sem ↓ high] theorem storeTH (a : Addr) (v : Value) : storeVar 111 a v = storeLater 111 a v := rfl
@[go_sem] theorem loadTH_run (w : World) (a : Addr) : (loadLater 111 a).run Tryz.prog w = rowLoad Tryz.prog 111 a w := rfl
@[go_sem] theorem storeTH_run (w : World) (a : Addr) (v : Value) : (storeLater 111 a v).run Tryz.prog w = rowStore Tryz.prog 111 a v w := rfl
@[go_sem] theorem loadTH_at (w : World) (g : Nat) : rowLoad Tryz.prog 111 ⟨g, 0, none⟩ w = match row? w g with
      | some c => if c.size = 2 then .ok (.agg c) w else laterLoad Tryz.prog 111 ⟨g, 0, none⟩ w
      | none => laterLoad Tryz.prog 111 ⟨g, 0, none⟩ w := load_row Tryz.isAgg111 Tryz.sizeOf111 w g
@[go_sem] theorem storeTH_at (w : World) (g : Nat) (d : Array Value) : rowStore Tryz.prog 111 ⟨g, 0, none⟩ (.agg d) w = match row? w g with
      | some c => if c.size = 2 ∧ d.size = 2 ∧ allOne d = true then .ok () (w.setRow g d) else laterStore Tryz.prog 111 ⟨g, 0, none⟩ (.agg d) w
      | none => laterStore Tryz.prog 111 ⟨g, 0, none⟩ (.agg d) w := store_row Tryz.sizeOf111 w g d
@[go_sem ↓ high] theorem zeroTH (w : World) : (zeroValue 111).run Tryz.prog w = .ok (.agg #[.int .u8 0, .int .i64 0]) w := by kernel_rfl
@[go_sem] theorem allOne_th (a b : Int) (p q : IntKind) : allOne #[.int p a, .int q b] = true := by unfold allOne; simp [Value.oneCell']
@[go_sem] theorem run_storeFuncG (P : Program) (w : World) (a : Addr) (m : Mode) (fn : Fn) (first captured : Array Value) : (store a (.func fn first captured) m).run P w = stored P w a (.func fn first captured) m := run_store P w a _ m rfl
end Go.Proofs.YtmmhngjndnonhaaGreatDoor
