/- The graph in memory: a structure of two maps; New; the types' facts. Walks of package .. -/
import Derived.Test.YteiibpfabgfolaaGreatDoorVGp
import Derived.Test.YteiibpfabgfolaaGreatDoorVRoR
import Derived.Test.YteiibpfabgfolaaGreatDoorVSets
import Derived.Maps.Own
import Derived.Maps.OwnIn
import Derived.Test.YteiibpfabgfolaaGreatDoorVRule
set_option maxHeartbeats 4000000
set_option linter.all false
namespace Go.Proofs.YteiibpfabgfolaaGreatDoor
open Go Go.RowKit Go.Pal
theorem laidOutG : laidOutB Tryz.prog = true := by kernel_rfl
def CV : Cod Int Th := { key := fun n => .int .i64 n, kl := fun n => .int .i64 n, ok := InI, val := thV, dat := thD }
def endsV (e : Int × Int) : Value := .agg #[.int .i64 e.1, .int .i64 e.2]
noncomputable def CE : Cod (Int × Int) Th := { key := endsV, kl := fun e => (keyOf Tryz.prog 131 (endsV e)).getD (.bool false), ok := fun e => InI e.1 ∧ InI e.2, val := thV, dat := thD }
theorem wf_i64 {n : Int} (h : InI n) : (Lit.int .i64 n).wf = true := by
 unfold InI at h
 have h1 : IntKind.i64.min = -9223372036854775808 := by decide
 have h2 : IntKind.i64.max = 9223372036854775807 := by decide
 simp [Lit.wf, h1, h2]
 exact h
theorem goodV : CV.Good Tryz.prog 3 where
 keyed := Maps.int_keyed Tryz.underlying3
 kinj x y _ _ h := by simpa [CV] using h
 isk x _ := trivial
 keyOf x hx := Maps.keyOf_int_mk Tryz.underlying3 (wf_i64 hx)
 vinj := thV_inj
 dinj := thD_inj
theorem rowEnds : 131 < Tryz.prog.types.size := by
 have : Tryz.prog.types[131]?.isSome = true := by kernel_rfl
 exact (Array.getElem?_eq_some_iff.1 (Option.some_get this).symm).1
theorem keyedE : Maps.Keyed Tryz.prog 131 := Maps.Keyed.of_law (deep_law_laid laidOutG (m := 5) (by omega) rowEnds (by kernel_rfl) (by rw [Tryz.underlying131]))
theorem keyLitsE (e : Int × Int) (h : InI e.1 ∧ InI e.2) (d : Nat) : Tryz.prog.keyLits (d + 2) 131 [.int .i64 e.1, .int .i64 e.2] = some [.int .i64 e.1, .int .i64 e.2] := by
 have hc : Tryz.prog.cellsOf 131 = 2 := by kernel_rfl
 have hc3 : Tryz.prog.cellsOf 3 = 1 := by kernel_rfl
 unfold Program.keyLits
 rw [Tryz.underlying131]
 simp only [hc]
 simp [Program.keyLits, hc3, Tryz.underlying3, wf_i64 h.1, wf_i64 h.2]
theorem keyOfE (e : Int × Int) (h : InI e.1 ∧ InI e.2) : keyOf Tryz.prog 131 (endsV e) = some (.string (keyBytes [.int .i64 e.1, .int .i64 e.2])) := by
 have hk : Tryz.prog.keyType 131 = true := by kernel_rfl
 have hc : Tryz.prog.cellsOf 131 = 2 := by kernel_rfl
 have hn : Tryz.prog.types.size + 1 = (Tryz.prog.types.size - 1) + 2 := by have := rowEnds; omega
 have hf : (endsV e).formed Tryz.prog 131 = true := by
   unfold endsV Value.formed
   rw [Tryz.underlying131]
   simp [hc]
 unfold keyOf
 rw [Tryz.underlying131]
 simp only [hk, hf, hn]
 have hcs : (endsV e).cells.toList = [.int .i64 e.1, .int .i64 e.2] := by simp [endsV, Value.cells]
 rw [hcs, keyLitsE e h]
 rfl
theorem goodE : CE.Good Tryz.prog 131 where
 keyed := keyedE
 kinj x y hx hy h := by
   have h1 := keyOfE x hx
   have h2 := keyOfE y hy
   simp only [CE] at h
   rw [h1, h2] at h
   simp only [Option.getD_some] at h
   rw [← h] at h2
   have := keyedE.inj h1 h2
   unfold endsV at this
   simp only [Value.agg.injEq, Array.mk.injEq, List.cons.injEq, Value.int.injEq, true_and, and_true] at this
   exact Prod.ext this.1 this.2
 isk x hx := by
   simp only [CE]
   rw [keyOfE x hx]
   trivial
 keyOf x hx := by
   simp only [CE]
   rw [keyOfE x hx]
   rfl
 vinj := thV_inj
 dinj := thD_inj
structure GOk (w : World) (g bV bE : Nat) (G : Gr) : Prop where
 row : row? w g = some #[.map (some bV), .map (some bE)]
 V : Pal.Own CV Tryz.prog 3 w bV G.V
 E : Pal.Own CE Tryz.prog 131 w bE G.E
 ne : bV ≠ bE
theorem GOk.congr {w w' : World} {g bV bE : Nat} {G : Gr} (h : GOk w g bV bE G) (hg : w'.heap[g]? = w.heap[g]?) (hV : w'.heap[bV]? = w.heap[bV]?) (hE : w'.heap[bE]? = w.heap[bE]?) : GOk w' g bV bE G :=
 ⟨(row?_congr hg).trans h.row, h.V.congr hV, h.E.congr hE, h.ne⟩
theorem GOk.lt {w : World} {g bV bE : Nat} {G : Gr} (h : GOk w g bV bE G) : g < w.heap.size ∧ bV < w.heap.size ∧ bE < w.heap.size := ⟨row?_lt h.row, h.V.lt, h.E.lt⟩
theorem GOk.below {w w' : World} {g bV bE : Nat} {G : Gr} (h : GOk w g bV bE G) (hb : Below w.heap.size w w') : GOk w' g bV bE G :=
 h.congr (hb.block _ h.lt.1) (hb.block _ h.lt.2.1) (hb.block _ h.lt.2.2)
theorem GOk.gne {w : World} {g bV bE : Nat} {G : Gr} (h : GOk w g bV bE G) : g ≠ bV ∧ g ≠ bE := by
 obtain ⟨t, ht⟩ := row?_some h.row
 refine ⟨fun e => ?_, fun e => ?_⟩
 · obtain ⟨D, ⟨es, clock, h1, -⟩, -⟩ := h.V
   rw [← e, ht] at h1
   cases h1
 · obtain ⟨D, ⟨es, clock, h1, -⟩, -⟩ := h.E
   rw [← e, ht] at h1
   cases h1
theorem zeroThing (w : World) : (zeroValue 128).run Tryz.prog w = .ok (thV (0, 0)) w := by kernel_rfl
theorem Ed.pair {e : Ed} (h : e.Wf) : InI (btw e.u e.v).1 ∧ InI (btw e.u e.v).2 := by
 have h1 := h.u
 have h2 := h.v
 unfold InI at *
 unfold btw
 simp only
 omega
theorem gnew_ok (w : World) : Calls Tryz.prog 13 #[] w fun e w' => ∃ g bV bE, e = .returned (.pointer (some ⟨g, 0, none⟩)) ∧ GOk w' g bV bE Gr.none ∧ w.heap.size ≤ g ∧ w.heap.size ≤ bV ∧ w.heap.size ≤ bE ∧ Below w.heap.size w w' := by
 have hmm := @run_makeMap Tryz.prog
 go_enter Tryz.func13, Tryz.ntmps13
 go_wp2_with fail
 go_ret
 refine ⟨w.heap.size + 1 + 1, w.heap.size, w.heap.size + 1, rfl, ⟨?_, ?_, ?_, by omega⟩, by omega, Nat.le_refl _, by omega, ?_⟩
 · exact row?_alloc_at _ _ _ _ (by simp)
 · exact (Pal.Own.made w).below (((Below.refl (w.heap.size + 1) _).alloc (by simp) _).alloc (by simp) _) (by omega)
 · refine Pal.Own.below (B := w.heap.size + 1 + 1) ?_ ((Below.refl (w.heap.size + 1 + 1) _).alloc (by simp) _) (by omega)
   have := Pal.Own.made (C := CE) (P := Tryz.prog) (k := 131) (w.alloc (.map #[] 0))
   rwa [World.size_alloc] at this
 (repeat' (first | (with_reducible first | exact Below.refl _ _ | assumption | refine Below.alloc ?_ ?_ _ | refine Below.drew ?_ | refine Below.setCell ?_ ?_ _ | refine below_setRow ?_ ?_ _ | exact Nat.le_refl _) | omega | (simp; done) | (simp; omega) | (simp at *; omega)))
def edC (e : Ed) : Array Value := #[.int .i64 e.op, .int .i64 e.u, .int .i64 e.v, .int .u8 (e.lab : Int), .int .i64 e.wt]
theorem gid_any (n : Int) (w : World) : Calls Tryz.prog 71 #[.int .i64 n] w fun e w' => e = .returned (.bool (idB n)) ∧ w' = w := by
 by_cases h1 : 0 ≤ n
 · by_cases h2 : n < 1024
   · go_enter Tryz.func71, Tryz.ntmps71
     go_wp2_with fail
     go_ret
     exact ⟨by simp [idB, h1, h2], rfl⟩
   · go_enter Tryz.func71, Tryz.ntmps71
     go_wp2_with fail
     go_ret
     exact ⟨by simp [idB, h1, h2], rfl⟩
 · go_enter Tryz.func71, Tryz.ntmps71
   go_wp2_with fail
   go_ret
   exact ⟨by simp [idB]; omega, rfl⟩
theorem gheavy_any (n : Int) (w : World) : Calls Tryz.prog 74 #[.int .i64 n] w fun e w' => e = .returned (.bool (heavyB n)) ∧ w' = w := by
 by_cases h1 : n < -1048576
 · go_enter Tryz.func74, Tryz.ntmps74
   go_wp2_with fail
   go_ret
   exact ⟨by simp [heavyB, h1], rfl⟩
 · by_cases h2 : 1048576 < n
   · go_enter Tryz.func74, Tryz.ntmps74
     go_wp2_with fail
     go_ret
     exact ⟨by simp [heavyB, h2], rfl⟩
   · go_enter Tryz.func74, Tryz.ntmps74
     go_wp2_with fail
     go_ret
     exact ⟨by simp [heavyB, h1, h2], rfl⟩
theorem gpairs_any (e : Ed) (w : World) : Calls Tryz.prog 72 #[.int .i64 e.op] w fun r w' => r = .returned (.bool e.pairs) ∧ w' = w := by
 obtain ⟨n, hn⟩ : ∃ n, n = e.op := ⟨_, rfl⟩
 have hp : e.pairs = decide (n = 2 ∨ n = 3 ∨ n = 6 ∨ n = 7) := by rw [hn]; rfl
 rw [hp, ← hn]
 clear hp hn
 by_cases h1 : n = 2
 · subst h1
   go_enter Tryz.func72, Tryz.ntmps72
   go_wp2_with fail
   go_ret
   exact ⟨by simp, rfl⟩
 · by_cases h2 : n = 3
   · subst h2
     go_enter Tryz.func72, Tryz.ntmps72
     go_wp2_with fail
     go_ret
     exact ⟨by simp, rfl⟩
   · by_cases h3 : n = 6
     · subst h3
       go_enter Tryz.func72, Tryz.ntmps72
       go_wp2_with fail
       go_ret
       exact ⟨by simp, rfl⟩
     · go_enter Tryz.func72, Tryz.ntmps72
       go_wp2_with fail
       go_ret
       refine ⟨congrArg Ending.returned (congrArg Value.bool ?_), rfl⟩
       rw [Bool.eq_iff_iff]
       simp [or_assoc]
theorem gweighs_any (e : Ed) (w : World) : Calls Tryz.prog 73 #[.int .i64 e.op] w fun r w' => r = .returned (.bool e.weighs) ∧ w' = w := by
 obtain ⟨n, hn⟩ : ∃ n, n = e.op := ⟨_, rfl⟩
 have hp : e.weighs = decide (n = 0 ∨ n = 2 ∨ n = 5 ∨ n = 7) := by rw [hn]; rfl
 rw [hp, ← hn]
 clear hp hn
 by_cases h1 : n = 0
 · subst h1
   go_enter Tryz.func73, Tryz.ntmps73
   go_wp2_with fail
   go_ret
   exact ⟨by simp, rfl⟩
 · by_cases h2 : n = 2
   · subst h2
     go_enter Tryz.func73, Tryz.ntmps73
     go_wp2_with fail
     go_ret
     exact ⟨by simp, rfl⟩
   · by_cases h3 : n = 5
     · subst h3
       go_enter Tryz.func73, Tryz.ntmps73
       go_wp2_with fail
       go_ret
       exact ⟨by simp, rfl⟩
     · go_enter Tryz.func73, Tryz.ntmps73
       go_wp2_with fail
       go_ret
       refine ⟨congrArg Ending.returned (congrArg Value.bool ?_), rfl⟩
       rw [Bool.eq_iff_iff]
       simp [or_assoc]
theorem gbetween_any (u v : Int) (w : World) : Calls Tryz.prog 68 #[.int .i64 u, .int .i64 v] w fun r w' => r = .returned (endsV (btw u v)) ∧ Below w.heap.size w w' := by
 go_enter Tryz.func68, Tryz.ntmps68
 go_wp2_with fail
 all_goals
   refine ret_row w.heap.size #[.int .i64 (min u v), .int .i64 (max u v)] rfl Tryz.isAgg131 Tryz.sizeOf131 rfl rfl (by simp [go_sem] <;> omega) rfl ⟨rfl, ?_⟩
   (repeat' (first | (with_reducible first | exact Below.refl _ _ | assumption | refine Below.alloc ?_ ?_ _ | refine Below.drew ?_ | refine Below.setCell ?_ ?_ _ | refine below_setRow ?_ ?_ _ | exact Nat.le_refl _) | omega | (simp; done) | (simp; omega) | (simp at *; omega)))
theorem wrong1_any (e : Ed) (ge : Nat) (w : World) (hr : row? w ge = some (edC e)) : Calls Tryz.prog 69 #[.pointer (some ⟨ge, 0, none⟩)] w fun r w' => r = .returned (.bool (decide (e.op < 0 ∨ 8 ≤ e.op))) ∧ w' = w := by
 have k0 := cell?_row (i := 0) hr
 simp [edC] at k0
 clear hr
 by_cases h1 : e.op < 0
 · go_enter Tryz.func69, Tryz.ntmps69
   go_wp2_with fail
   go_ret
   exact ⟨by simp [h1], rfl⟩
 · go_enter Tryz.func69, Tryz.ntmps69
   go_wp2_with fail
   go_ret
   exact ⟨by simp; omega, rfl⟩
theorem wrong2_any (e : Ed) (ge : Nat) (w : World) (hr : row? w ge = some (edC e)) : Calls Tryz.prog 70 #[.pointer (some ⟨ge, 0, none⟩)] w fun r w' => r = .returned (.bool (!idB e.u || (e.pairs && !idB e.v) || (e.weighs && heavyB e.wt))) ∧ w' = w := by
 have k0 := cell?_row (i := 0) hr
 have k1 := cell?_row (i := 1) hr
 have k2 := cell?_row (i := 2) hr
 have k4 := cell?_row (i := 4) hr
 simp [edC] at k0 k1 k2 k4
 have H1 := Lib.hid fun n W => gid_any n W
 have H2 := Lib.hid fun W => gpairs_any e W
 have H3 := Lib.hid fun W => gweighs_any e W
 have H4 := Lib.hid fun n W => gheavy_any n W
 clear hr
 cases hA : idB e.u <;> cases hB : e.pairs <;> cases hC : idB e.v <;> cases hD : e.weighs <;> cases hE : heavyB e.wt
 all_goals
   go_enter Tryz.func70, Tryz.ntmps70
   go_wp2_with fail
   (repeat (first
   | (refine (H1.out _ _).mono ?_; rintro r w1 ⟨rfl, rfl⟩; go_wp2_with fail)
   | (refine (H2.out _).mono ?_; rintro r w1 ⟨rfl, rfl⟩; go_wp2_with fail)
   | (refine (H3.out _).mono ?_; rintro r w1 ⟨rfl, rfl⟩; go_wp2_with fail)
   | (refine (H4.out _ _).mono ?_; rintro r w1 ⟨rfl, rfl⟩; go_wp2_with fail)))
   go_ret
   exact ⟨rfl, rfl⟩
theorem wrong3_any (e : Ed) (ge : Nat) (w : World) (hr : row? w ge = some (edC e)) : Calls Tryz.prog 75 #[.pointer (some ⟨ge, 0, none⟩)] w fun r w' => r = .returned (.bool (e.pairs && decide (e.u = e.v))) ∧ w' = w := by
 have k0 := cell?_row (i := 0) hr
 have k1 := cell?_row (i := 1) hr
 have k2 := cell?_row (i := 2) hr
 simp [edC] at k0 k1 k2
 have H2 := Lib.hid fun W => gpairs_any e W
 clear hr
 cases hB : e.pairs <;> by_cases h1 : e.u = e.v
 all_goals
   go_enter Tryz.func75, Tryz.ntmps75
   go_wp2_with fail
   refine (H2.out _).mono ?_
   rintro r w1 ⟨rfl, rfl⟩
   go_wp2_with fail
   go_ret
   exact ⟨by simp [h1], rfl⟩
theorem wrong4_any (e : Ed) (ge : Nat) (gu : Nat) (bu : Bool) (w : World) (hr : row? w ge = some (edC e)) (hu : row? w gu = some #[.bool bu]) : Calls Tryz.prog 76 #[.pointer (some ⟨ge, 0, none⟩), .pointer (some ⟨gu, 0, none⟩)] w fun r w' => r = .returned (.bool (decide (e.op = 0) && bu)) ∧ w' = w := by
 have k0 := cell?_row (i := 0) hr
 simp [edC] at k0
 clear hr
 have ku := cell?_row (i := 0) hu
 simp at ku
 clear hu
 by_cases h1 : e.op = 0 <;> cases bu
 all_goals
   go_enter Tryz.func76, Tryz.ntmps76
   go_wp2_with fail
   go_ret
   exact ⟨by simp [h1], rfl⟩
theorem wrong5_any (e : Ed) (ge : Nat) (gu gv : Nat) (bu bv : Bool) (w : World) (hr : row? w ge = some (edC e)) (hu : row? w gu = some #[.bool bu]) (hv : row? w gv = some #[.bool bv]) : Calls Tryz.prog 77 #[.pointer (some ⟨ge, 0, none⟩), .pointer (some ⟨gu, 0, none⟩), .pointer (some ⟨gv, 0, none⟩)] w fun r w' => r = .returned (.bool ((decide (e.op ≠ 0) && !e.pairs && !bu) || (decide (e.op = 2) && !(bu && bv)))) ∧ w' = w := by
 have k0 := cell?_row (i := 0) hr
 simp [edC] at k0
 have H2 := Lib.hid fun W => gpairs_any e W
 clear hr
 have ku := cell?_row (i := 0) hu
 simp at ku
 have kv := cell?_row (i := 0) hv
 simp at kv
 clear hu hv
 by_cases h1 : e.op = 0
 · go_enter Tryz.func77, Tryz.ntmps77
   go_wp2_with fail
   go_ret
   exact ⟨by simp [h1], rfl⟩
 by_cases h2 : e.op = 2 <;> cases hB : e.pairs <;> cases bu <;> cases bv
 all_goals
   (try simp only [h2] at H2)
   go_enter Tryz.func77, Tryz.ntmps77
   go_wp2_with fail
   refine (H2.out _).mono ?_
   rintro r w1 ⟨rfl, rfl⟩
   go_wp2_with fail
   go_ret
   exact ⟨by simp [h1, h2], rfl⟩
theorem wrong6_any (e : Ed) (ge : Nat) (gd : Nat) (bd : Bool) (w : World) (hr : row? w ge = some (edC e)) (hu : row? w gd = some #[.bool bd]) : Calls Tryz.prog 78 #[.pointer (some ⟨ge, 0, none⟩), .pointer (some ⟨gd, 0, none⟩)] w fun r w' => r = .returned (.bool (e.pairs && decide (e.op ≠ 2) && !bd)) ∧ w' = w := by
 have k0 := cell?_row (i := 0) hr
 simp [edC] at k0
 have H2 := Lib.hid fun W => gpairs_any e W
 clear hr
 have ku := cell?_row (i := 0) hu
 simp at ku
 clear hu
 by_cases h1 : e.op = 2 <;> cases hB : e.pairs <;> cases bd
 all_goals
   (try simp only [h1] at H2)
   go_enter Tryz.func78, Tryz.ntmps78
   go_wp2_with fail
   refine (H2.out _).mono ?_
   rintro r w1 ⟨rfl, rfl⟩
   go_wp2_with fail
   go_ret
   exact ⟨by simp [h1], rfl⟩
theorem wrong7_any (e : Ed) (ge : Nat) (gd : Nat) (bd : Bool) (w : World) (hr : row? w ge = some (edC e)) (hu : row? w gd = some #[.bool bd]) : Calls Tryz.prog 79 #[.pointer (some ⟨ge, 0, none⟩), .pointer (some ⟨gd, 0, none⟩)] w fun r w' => r = .returned (.bool (decide (e.op = 2) && bd)) ∧ w' = w := by
 have k0 := cell?_row (i := 0) hr
 simp [edC] at k0
 clear hr
 have ku := cell?_row (i := 0) hu
 simp at ku
 clear hu
 by_cases h1 : e.op = 2 <;> cases bd
 all_goals
   go_enter Tryz.func79, Tryz.ntmps79
   go_wp2_with fail
   go_ret
   exact ⟨by simp [h1], rfl⟩
theorem wrong8_any (e : Ed) (ge gb g bV bE : Nat) (G : Gr) (w : World) (hr : row? w ge = some (edC e)) (hg : row? w gb = some #[.pointer (some ⟨g, 0, none⟩)]) (h : GOk w g bV bE G) : Calls Tryz.prog 80 #[.pointer (some ⟨ge, 0, none⟩), .pointer (some ⟨gb, 0, none⟩)] w fun r w' => r = .returned (.bool (decide (e.op = 2) && decide (1024 ≤ G.E.length))) ∧ w' = w := by
 have k0 := cell?_row (i := 0) hr
 simp [edC] at k0
 have kg := cell?_row (i := 0) hg
 simp at kg
 have kE := cell?_row (i := 1) h.row
 simp at kE
 have hlen := fun ty => h.E.len Tryz.underlying86 ty
 obtain ⟨n, hn⟩ : ∃ n, n = G.E.length := ⟨_, rfl⟩
 rw [← hn] at hlen ⊢
 clear hr hg hn h
 by_cases h1 : e.op = 2 <;> by_cases h2 : 1024 ≤ n
 all_goals
   go_enter Tryz.func80, Tryz.ntmps80
   go_wp2_with fail
   go_ret
   refine ⟨?_, rfl⟩
   first | (simp [h1, h2]; done) | (simp [h1]; omega)
@[go_sem ↓ high] theorem loadTH (a : Addr) : loadVar 128 a = loadLater 128 a := rfl
@[go_sem ↓ high] theorem storeTH (a : Addr) (v : Value) : storeVar 128 a v = storeLater 128 a v := rfl
@[go_sem] theorem loadTH_run (w : World) (a : Addr) : (loadLater 128 a).run Tryz.prog w = rowLoad Tryz.prog 128 a w := rfl
@[go_sem] theorem storeTH_run (w : World) (a : Addr) (v : Value) : (storeLater 128 a v).run Tryz.prog w = rowStore Tryz.prog 128 a v w := rfl
@[go_sem] theorem loadTH_at (w : World) (g : Nat) : rowLoad Tryz.prog 128 ⟨g, 0, none⟩ w = match row? w g with
     | some c => if c.size = 2 then .ok (.agg c) w else laterLoad Tryz.prog 128 ⟨g, 0, none⟩ w
     | none => laterLoad Tryz.prog 128 ⟨g, 0, none⟩ w := load_row Tryz.isAgg128 Tryz.sizeOf128 w g
@[go_sem] theorem storeTH_at (w : World) (g : Nat) (d : Array Value) : rowStore Tryz.prog 128 ⟨g, 0, none⟩ (.agg d) w = match row? w g with
     | some c => if c.size = 2 ∧ d.size = 2 ∧ allOne d = true then .ok () (w.setRow g d) else laterStore Tryz.prog 128 ⟨g, 0, none⟩ (.agg d) w
     | none => laterStore Tryz.prog 128 ⟨g, 0, none⟩ (.agg d) w := store_row Tryz.sizeOf128 w g d
@[go_sem ↓ high] theorem zeroTH (w : World) : (zeroValue 128).run Tryz.prog w = .ok (.agg #[.int .u8 0, .int .i64 0]) w := by kernel_rfl
@[go_sem] theorem allOne_th (a b : Int) (p q : IntKind) : allOne #[.int p a, .int q b] = true := by unfold allOne; simp [Value.oneCell']
@[go_sem] theorem run_storeFuncG (P : Program) (w : World) (a : Addr) (m : Mode) (fn : Fn) (first captured : Array Value) : (store a (.func fn first captured) m).run P w = stored P w a (.func fn first captured) m := run_store P w a _ m rfl
theorem alloc_row {w w' : World} {c : Array Value} {t : TypeId} (h : w.alloc (.cells c t) = w') : row? w' w.heap.size = some c ∧ Below w.heap.size w w' := by
 rw [← h]
 exact ⟨row?_alloc_at _ _ _ _ rfl, (Below.refl _ w).alloc (Nat.le_refl _) _⟩
set_option maxRecDepth 20000 in
theorem gwrong_any (e : Ed) (he : e.Wf) (g bV bE : Nat) (G : Gr) (w : World) (h : GOk w g bV bE G) : Calls Tryz.prog 36 #[.pointer (some ⟨g, 0, none⟩), .agg (edC e)] w fun r w' => r = .returned (.int .i64 (G.wrong e : Int)) ∧ Below w.heap.size w w' := by
 have H0 := Lib.hid h
 have HE := Lib.hid he
 obtain ⟨U, hU⟩ : ∃ U, U = e.u := ⟨_, rfl⟩
 obtain ⟨V, hV⟩ : ∃ V, V = e.v := ⟨_, rfl⟩
 have hed : edC e = #[.int .i64 e.op, .int .i64 U, .int .i64 V, .int .u8 (e.lab : Int), .int .i64 e.wt] := by rw [hU, hV]; rfl
 have hLU : ∀ W, Below w.heap.size w W → (Instr.lookup 85 (.map (some bV)) (.int .i64 U) true).run Tryz.prog W = .ok (.tuple #[thV ((Pal.look G.V U).getD (0, 0)), .bool (Pal.look G.V U).isSome]) W :=
   fun W hb => by rw [hU]; exact (H0.out.below hb).V.look_ok goodV Tryz.underlying85 zeroThing HE.out.u
 have hLV : ∀ W, Below w.heap.size w W → (Instr.lookup 85 (.map (some bV)) (.int .i64 V) true).run Tryz.prog W = .ok (.tuple #[thV ((Pal.look G.V V).getD (0, 0)), .bool (Pal.look G.V V).isSome]) W :=
   fun W hb => by rw [hV]; exact (H0.out.below hb).V.look_ok goodV Tryz.underlying85 zeroThing HE.out.v
 have hLE : ∀ W, Below w.heap.size w W → (Instr.lookup 86 (.map (some bE)) (endsV (btw U V)) true).run Tryz.prog W = .ok (.tuple #[thV ((Pal.look G.E (btw U V)).getD (0, 0)), .bool (Pal.look G.E (btw U V)).isSome]) W :=
   fun W hb => by rw [hU, hV]; exact (H0.out.below hb).E.look_ok goodE Tryz.underlying86 zeroThing (Ed.pair HE.out)
 obtain ⟨tu, htu⟩ : ∃ tu, tu = (Pal.look G.V U).getD (0, 0) := ⟨_, rfl⟩
 obtain ⟨tv, htv⟩ : ∃ tv, tv = (Pal.look G.V V).getD (0, 0) := ⟨_, rfl⟩
 obtain ⟨te, hte⟩ : ∃ te, te = (Pal.look G.E (btw U V)).getD (0, 0) := ⟨_, rfl⟩
 obtain ⟨bu, hbu⟩ : ∃ b, b = (Pal.look G.V U).isSome := ⟨_, rfl⟩
 obtain ⟨bv, hbv⟩ : ∃ b, b = (Pal.look G.V V).isSome := ⟨_, rfl⟩
 obtain ⟨be, hbe⟩ : ∃ b, b = (Pal.look G.E (btw U V)).isSome := ⟨_, rfl⟩
 rw [← htu, ← hbu] at hLU
 rw [← htv, ← hbv] at hLV
 rw [← hte, ← hbe] at hLE
 unfold thV at hLU hLV hLE
 have HLU := Lib.hid hLU
 have HLV := Lib.hid hLV
 have HLE := Lib.hid hLE
 have HB := Lib.hid (And.intro hbu (And.intro hbv hbe))
 have HUV := Lib.hid (And.intro hU hV)
 have hgl := h.lt
 rw [hed]
 clear hLU hLV hLE htu htv hte hbu hbv hbe hU hV hed he h
 go_enter Tryz.func36, Tryz.ntmps36
 go_wp2_with fail
 obtain ⟨W0, hW0⟩ : ∃ W0, W0 = (w.alloc (Obj.cells #[.pointer (some ⟨g, 0, none⟩)] 40)).alloc (Obj.cells #[.int .i64 e.op, .int .i64 U, .int .i64 V, .int .u8 (e.lab : Int), .int .i64 e.wt] 44) := ⟨_, rfl⟩
 have hB0 : Below w.heap.size w W0 := by
   rw [hW0]
   (repeat' (first | (with_reducible first | exact Below.refl _ _ | assumption | refine Below.alloc ?_ ?_ _ | refine Below.drew ?_ | refine Below.setCell ?_ ?_ _ | refine below_setRow ?_ ?_ _ | exact Nat.le_refl _) | omega | (simp; done) | (simp; omega) | (simp at *; omega)))
 have hrb : row? W0 w.heap.size = some #[.pointer (some ⟨g, 0, none⟩)] := by
   rw [hW0, row?_alloc_past _ _ _ (by simp)]
   exact row?_alloc_at _ _ _ _ rfl
 have hre : row? W0 (w.heap.size + 1) = some (edC e) := by
   rw [hW0, show edC e = #[.int .i64 e.op, .int .i64 U, .int .i64 V, .int .u8 (e.lab : Int), .int .i64 e.wt] by rw [HUV.out.1, HUV.out.2]; rfl]
   exact row?_alloc_at _ _ _ _ (by simp)
 have hs0 : w.heap.size + 1 < W0.heap.size := by rw [hW0]; simp
 rw [← hW0]
 have HR := Lib.hid fun W (hb : Below W0.heap.size W0 W) => show W.cell? ⟨w.heap.size, 0, none⟩ = some (.pointer (some ⟨g, 0, none⟩)) ∧ W.cell? ⟨g, 0, none⟩ = some (.map (some bV)) ∧ W.cell? ⟨g, 1, none⟩ = some (.map (some bE)) ∧ W.cell? ⟨w.heap.size + 1, 1, none⟩ = some (.int .i64 U) ∧ W.cell? ⟨w.heap.size + 1, 2, none⟩ = some (.int .i64 V) from
   ⟨(cell?_row (i := 0) ((row?_below hb (by omega)).trans hrb)).trans rfl, (cell?_row (i := 0) ((row?_below hb (by omega)).trans (H0.out.below hB0).row)).trans rfl, (cell?_row (i := 1) ((row?_below hb (by omega)).trans (H0.out.below hB0).row)).trans rfl,
     (cell?_row (i := 1) ((row?_below hb (by omega)).trans hre)).trans (by rw [HUV.out.1]; rfl), (cell?_row (i := 2) ((row?_below hb (by omega)).trans hre)).trans (by rw [HUV.out.2]; rfl)⟩
 have HB0 := Lib.hid hB0
 have HRE := Lib.hid hre
 have HRB := Lib.hid hrb
 clear hW0 hB0 hre hrb
 refine wp_region_cut2 (fun W => Below W0.heap.size W0 W) 13 (.read 0 (.read 1 (.read 2 (.read 3 (.read 4 (.read 5 (.read 6 (.read 7 (.read 8 (.read 9 (.fork 10 11 (.act 11 (.act 12 .done)) (.act 10 (.act 12 .done)))))))))))))
   (fun _ b W => row? W b = some #[.bool bu] ∧ W0.heap.size ≤ b ∧ Below W0.heap.size W0 W) (by kernel_rfl) (by kernel_rfl) (Below.refl _ _).drew ?_
 apply Exists.intro
 constructor
 · (repeat (apply wpPlanT_still rfl rfl; (intro w hw; obtain ⟨k1, k2, -, k3, -⟩ := HR.out w hw; have kl := HLU.out w (HB0.out.trans (hw.mono HB0.out.size)); clear hw; go_simp; (try go_ints); (first | with_reducible rfl | (go_simp; with_reducible rfl))); (intro K hK; go_simp; (try go_ints); refine hK _ _ ?_; clear hK K)))
   have hbc : Below W0.heap.size W0 W0.drew := (Below.refl _ W0).drew
   refine wpPlanT_fork ?_ ?_
   · refine wpPlanT_alloc #[.int .u8 0, .int .i64 0] 128 rfl rfl (by intro W; go_simp) ?_
     intro p wn hp hpl hpu hbn
     have hpB : W0.heap.size ≤ p := Nat.le_trans hbc.size hpl
     have hbc := hbc.trans (hbn.mono hbc.size)
     refine ⟨hbc, ?_⟩
     intro K hK; go_simp; refine hK _ _ ?_; clear hK K
     refine wpPlanT_alloc #[.bool false] 4 rfl rfl (by intro W; go_simp) ?_
     intro q wm hq hql hqu hbm
     have hqB : W0.heap.size ≤ q := Nat.le_trans hbc.size hql
     have hbc := hbc.trans (hbm.mono hbc.size)
     refine ⟨hbc, ?_⟩
     intro K hK; go_simp; refine hK _ _ ?_; clear hK K
     have hp := (row?_below hbm hpu).trans hp
     have hpq : ¬ q = p := by omega
     apply wpPlanT_act rfl rfl
     intro K hK
     unfold Oper.wp
     go_simp
     obtain ⟨w4, hw4⟩ : ∃ w4, w4 = World.setRow wm p #[.int .u8 (tu.1 : Int), .int .i64 tu.2] := ⟨_, rfl⟩
     rw [← hw4]
     have hb4 : Below W0.heap.size W0 w4 := by rw [hw4]; exact below_setRow hbc hpB _
     have hq4 : row? w4 q = some #[.bool false] := by rw [hw4, row?_setRow_other _ _ _ _ hpq]; exact hq
     refine hK _ _ hb4 ?_
     have k := cell?_row (i := 0) hq4
     simp at k
     have hf := frozen?_row (i := 0) hq4
     have HQ4 := Lib.hid hq4
     clear hK K hw4 hp hq hpq hq4
     refine wpPlanT_done ?_
     simp only [List.drop_succ_cons, List.drop_zero]
     go_wp2_with fail
     refine ⟨p, q, ?_, ?_, hqB, ?_⟩
     · first | with_reducible rfl | exact ⟨rfl, rfl⟩
     · rw [row?_setCell_same, HQ4.out]; rfl
     · (repeat' (first | (with_reducible first | exact Below.refl _ _ | assumption | refine Below.alloc ?_ ?_ _ | refine Below.drew ?_ | refine Below.setCell ?_ ?_ _ | refine below_setRow ?_ ?_ _ | exact Nat.le_refl _) | omega | (simp; done) | (simp; omega) | (simp at *; omega)))
   · refine wpPlanT_alloc #[.bool false] 4 rfl rfl (by intro W; go_simp) ?_
     intro q wm hq hql hqu hbm
     have hqB : W0.heap.size ≤ q := Nat.le_trans hbc.size hql
     have hbc := hbc.trans (hbm.mono hbc.size)
     refine ⟨hbc, ?_⟩
     intro K hK; go_simp; refine hK _ _ ?_; clear hK K
     refine wpPlanT_alloc #[.int .u8 0, .int .i64 0] 128 rfl rfl (by intro W; go_simp) ?_
     intro p wn hp hpl hpu hbn
     have hpB : W0.heap.size ≤ p := Nat.le_trans hbc.size hpl
     have hbc := hbc.trans (hbn.mono hbc.size)
     refine ⟨hbc, ?_⟩
     intro K hK; go_simp; refine hK _ _ ?_; clear hK K
     have hq := (row?_below hbn hqu).trans hq
     have hpq : ¬ q = p := by omega
     apply wpPlanT_act rfl rfl
     intro K hK
     unfold Oper.wp
     go_simp
     obtain ⟨w4, hw4⟩ : ∃ w4, w4 = World.setRow wn p #[.int .u8 (tu.1 : Int), .int .i64 tu.2] := ⟨_, rfl⟩
     rw [← hw4]
     have hb4 : Below W0.heap.size W0 w4 := by rw [hw4]; exact below_setRow hbc hpB _
     have hq4 : row? w4 q = some #[.bool false] := by rw [hw4, row?_setRow_other _ _ _ _ hpq]; exact hq
     refine hK _ _ hb4 ?_
     have k := cell?_row (i := 0) hq4
     simp at k
     have hf := frozen?_row (i := 0) hq4
     have HQ4 := Lib.hid hq4
     clear hK K hw4 hp hq hpq hq4
     refine wpPlanT_done ?_
     simp only [List.drop_succ_cons, List.drop_zero]
     go_wp2_with fail
     refine ⟨p, q, ?_, ?_, hqB, ?_⟩
     · first | with_reducible rfl | exact ⟨rfl, rfl⟩
     · rw [row?_setCell_same, HQ4.out]; rfl
     · (repeat' (first | (with_reducible first | exact Below.refl _ _ | assumption | refine Below.alloc ?_ ?_ _ | refine Below.drew ?_ | refine Below.setCell ?_ ?_ _ | refine below_setRow ?_ ?_ _ | exact Nat.le_refl _) | omega | (simp; done) | (simp; omega) | (simp at *; omega)))
 intro p5 b6 W1 ⟨hr6, hb6, hb1⟩
 have HB1 := Lib.hid hb1
 have hr6l := row?_lt hr6
 have HR6 := Lib.hid hr6
 have hs1 := hb1.size
 clear HLU hr6 hb1
 go_wp2_with fail
 refine wp_region_cut2 (fun W => Below W1.heap.size W1 W) 13 (.read 0 (.read 1 (.read 2 (.read 3 (.read 4 (.read 5 (.read 6 (.read 7 (.read 8 (.read 9 (.fork 10 11 (.act 11 (.act 12 .done)) (.act 10 (.act 12 .done)))))))))))))
   (fun _ b W => row? W b = some #[.bool bv] ∧ W1.heap.size ≤ b ∧ Below W1.heap.size W1 W) (by kernel_rfl) (by kernel_rfl) (Below.refl _ _).drew ?_
 apply Exists.intro
 constructor
 · (repeat (apply wpPlanT_still rfl rfl; (intro w hw; have hw0 := HB1.out.trans (hw.mono HB1.out.size); obtain ⟨k1, k2, -, -, k3⟩ := HR.out w hw0; have kl := HLV.out w (HB0.out.trans (hw0.mono HB0.out.size)); clear hw hw0; go_simp; (try go_ints); (first | with_reducible rfl | (go_simp; with_reducible rfl))); (intro K hK; go_simp; (try go_ints); refine hK _ _ ?_; clear hK K)))
   have hbc : Below W1.heap.size W1 W1.drew := (Below.refl _ W1).drew
   refine wpPlanT_fork ?_ ?_
   · refine wpPlanT_alloc #[.int .u8 0, .int .i64 0] 128 rfl rfl (by intro W; go_simp) ?_
     intro p wn hp hpl hpu hbn
     have hpB : W1.heap.size ≤ p := Nat.le_trans hbc.size hpl
     have hbc := hbc.trans (hbn.mono hbc.size)
     refine ⟨hbc, ?_⟩
     intro K hK; go_simp; refine hK _ _ ?_; clear hK K
     refine wpPlanT_alloc #[.bool false] 4 rfl rfl (by intro W; go_simp) ?_
     intro q wm hq hql hqu hbm
     have hqB : W1.heap.size ≤ q := Nat.le_trans hbc.size hql
     have hbc := hbc.trans (hbm.mono hbc.size)
     refine ⟨hbc, ?_⟩
     intro K hK; go_simp; refine hK _ _ ?_; clear hK K
     have hp := (row?_below hbm hpu).trans hp
     have hpq : ¬ q = p := by omega
     apply wpPlanT_act rfl rfl
     intro K hK
     unfold Oper.wp
     go_simp
     obtain ⟨w4, hw4⟩ : ∃ w4, w4 = World.setRow wm p #[.int .u8 (tv.1 : Int), .int .i64 tv.2] := ⟨_, rfl⟩
     rw [← hw4]
     have hb4 : Below W1.heap.size W1 w4 := by rw [hw4]; exact below_setRow hbc hpB _
     have hq4 : row? w4 q = some #[.bool false] := by rw [hw4, row?_setRow_other _ _ _ _ hpq]; exact hq
     refine hK _ _ hb4 ?_
     have k := cell?_row (i := 0) hq4
     simp at k
     have hf := frozen?_row (i := 0) hq4
     have HQ4 := Lib.hid hq4
     clear hK K hw4 hp hq hpq hq4
     refine wpPlanT_done ?_
     simp only [List.drop_succ_cons, List.drop_zero]
     go_wp2_with fail
     refine ⟨p, q, ?_, ?_, hqB, ?_⟩
     · first | with_reducible rfl | exact ⟨rfl, rfl⟩
     · rw [row?_setCell_same, HQ4.out]; rfl
     · (repeat' (first | (with_reducible first | exact Below.refl _ _ | assumption | refine Below.alloc ?_ ?_ _ | refine Below.drew ?_ | refine Below.setCell ?_ ?_ _ | refine below_setRow ?_ ?_ _ | exact Nat.le_refl _) | omega | (simp; done) | (simp; omega) | (simp at *; omega)))
   · refine wpPlanT_alloc #[.bool false] 4 rfl rfl (by intro W; go_simp) ?_
     intro q wm hq hql hqu hbm
     have hqB : W1.heap.size ≤ q := Nat.le_trans hbc.size hql
     have hbc := hbc.trans (hbm.mono hbc.size)
     refine ⟨hbc, ?_⟩
     intro K hK; go_simp; refine hK _ _ ?_; clear hK K
     refine wpPlanT_alloc #[.int .u8 0, .int .i64 0] 128 rfl rfl (by intro W; go_simp) ?_
     intro p wn hp hpl hpu hbn
     have hpB : W1.heap.size ≤ p := Nat.le_trans hbc.size hpl
     have hbc := hbc.trans (hbn.mono hbc.size)
     refine ⟨hbc, ?_⟩
     intro K hK; go_simp; refine hK _ _ ?_; clear hK K
     have hq := (row?_below hbn hqu).trans hq
     have hpq : ¬ q = p := by omega
     apply wpPlanT_act rfl rfl
     intro K hK
     unfold Oper.wp
     go_simp
     obtain ⟨w4, hw4⟩ : ∃ w4, w4 = World.setRow wn p #[.int .u8 (tv.1 : Int), .int .i64 tv.2] := ⟨_, rfl⟩
     rw [← hw4]
     have hb4 : Below W1.heap.size W1 w4 := by rw [hw4]; exact below_setRow hbc hpB _
     have hq4 : row? w4 q = some #[.bool false] := by rw [hw4, row?_setRow_other _ _ _ _ hpq]; exact hq
     refine hK _ _ hb4 ?_
     have k := cell?_row (i := 0) hq4
     simp at k
     have hf := frozen?_row (i := 0) hq4
     have HQ4 := Lib.hid hq4
     clear hK K hw4 hp hq hpq hq4
     refine wpPlanT_done ?_
     simp only [List.drop_succ_cons, List.drop_zero]
     go_wp2_with fail
     refine ⟨p, q, ?_, ?_, hqB, ?_⟩
     · first | with_reducible rfl | exact ⟨rfl, rfl⟩
     · rw [row?_setCell_same, HQ4.out]; rfl
     · (repeat' (first | (with_reducible first | exact Below.refl _ _ | assumption | refine Below.alloc ?_ ?_ _ | refine Below.drew ?_ | refine Below.setCell ?_ ?_ _ | refine below_setRow ?_ ?_ _ | exact Nat.le_refl _) | omega | (simp; done) | (simp; omega) | (simp at *; omega)))
 intro p7 b8 W2 ⟨hr8, hb8, hb2⟩
 have HB2 := Lib.hid hb2
 have hr8l := row?_lt hr8
 have HR8 := Lib.hid hr8
 have hs2 := hb2.size
 clear HLV hr8 hb2
 go_wp2_with fail
 have HBT := Lib.hid fun W => gbetween_any U V W
 refine wp_region_cut2 (fun W => Below W2.heap.size W2 W) 16 (.read 0 (.read 1 (.read 2 (.read 3 (.read 4 (.read 5 (.read 6 (.read 7 (.fork3 8 13 14 (.read 9 (.read 10 (.read 11 (.read 12 (.fork 13 14 (.act 14 (.act 15 .done)) (.act 13 (.act 15 .done))))))) (.fork 8 14 (.read 9 (.read 10 (.read 11 (.read 12 (.act 14 (.act 15 .done)))))) (.act 8 (.read 9 (.read 10 (.read 11 (.read 12 (.act 15 .done))))))) (.fork 8 13 (.read 9 (.read 10 (.read 11 (.read 12 (.act 13 (.act 15 .done)))))) (.act 8 (.read 9 (.read 10 (.read 11 (.read 12 (.act 15 .done))))))))))))))))
   (fun _ b W => row? W b = some #[.bool be] ∧ W2.heap.size ≤ b ∧ Below W2.heap.size W2 W) (by kernel_rfl) (by kernel_rfl) (Below.refl _ _).drew ?_
 apply Exists.intro
 constructor
 · (repeat (apply wpPlanT_still rfl rfl; (intro w hw; obtain ⟨k1, -, k2, k3, k4⟩ := HR.out w (HB1.out.trans ((HB2.out.trans (hw.mono HB2.out.size)).mono HB1.out.size)); clear hw; go_simp; (try go_ints); (first | with_reducible rfl | (go_simp; with_reducible rfl))); (intro K hK; go_simp; (try go_ints); refine hK _ _ ?_; clear hK K)))
   have hbc : Below W2.heap.size W2 W2.drew := (Below.refl _ W2).drew
   refine wpPlanT_fork3 ?_ ?_ ?_
   · apply wpPlanT_act rfl rfl
     intro K hK
     unfold Oper.wp
     go_simp
     refine (HBT.out _).mono ?_
     rintro e w' ⟨rfl, hbw⟩
     have hbc := hbc.trans (hbw.mono hbc.size)
     refine hK _ _ hbc ?_
     clear hK K
     (repeat (apply wpPlanT_still rfl rfl; (intro w hw; have kl := HLE.out w (HB0.out.trans ((HB1.out.trans ((HB2.out.trans (hw.mono HB2.out.size)).mono HB1.out.size)).mono HB0.out.size)); clear hw; go_simp; (try go_ints); (first | with_reducible rfl | (go_simp; with_reducible rfl))); (intro K hK; go_simp; (try go_ints); refine hK _ _ ?_; clear hK K)))
     refine wpPlanT_fork ?_ ?_
     · refine wpPlanT_alloc #[.int .u8 0, .int .i64 0] 128 rfl rfl (by intro W; go_simp) ?_
       intro p wn hp hpl hpu hbn
       have hpB : W2.heap.size ≤ p := Nat.le_trans hbc.size hpl
       have hbc := hbc.trans (hbn.mono hbc.size)
       refine ⟨hbc, ?_⟩
       intro K hK; go_simp; refine hK _ _ ?_; clear hK K
       refine wpPlanT_alloc #[.bool false] 4 rfl rfl (by intro W; go_simp) ?_
       intro q wm hq hql hqu hbm
       have hqB : W2.heap.size ≤ q := Nat.le_trans hbc.size hql
       have hbc := hbc.trans (hbm.mono hbc.size)
       refine ⟨hbc, ?_⟩
       intro K hK; go_simp; refine hK _ _ ?_; clear hK K
       have hp := (row?_below hbm hpu).trans hp
       have hpu := Nat.lt_of_lt_of_le hpu hbm.size
       have hpq : ¬ q = p := by omega
       apply wpPlanT_act rfl rfl
       intro K hK
       unfold Oper.wp
       go_simp
       obtain ⟨w4, hw4⟩ : ∃ w4, w4 = World.setRow wm p #[.int .u8 (te.1 : Int), .int .i64 te.2] := ⟨_, rfl⟩
       rw [← hw4]
       have hb4 : Below W2.heap.size W2 w4 := by rw [hw4]; exact below_setRow hbc hpB _
       have hq4 : row? w4 q = some #[.bool false] := by rw [hw4, row?_setRow_other _ _ _ _ hpq]; exact hq
       refine hK _ _ hb4 ?_
       have k := cell?_row (i := 0) hq4
       simp at k
       have hf := frozen?_row (i := 0) hq4
       have HQ4 := Lib.hid hq4
       clear hK K hw4 hp hq hpq hq4
       refine wpPlanT_done ?_
       simp only [List.drop_succ_cons, List.drop_zero]
       go_wp2_with fail
       refine ⟨p, q, ?_, ?_, hqB, ?_⟩
       · first | with_reducible rfl | exact ⟨rfl, rfl⟩
       · rw [row?_setCell_same, HQ4.out]; rfl
       · (repeat' (first | (with_reducible first | exact Below.refl _ _ | assumption | refine Below.alloc ?_ ?_ _ | refine Below.drew ?_ | refine Below.setCell ?_ ?_ _ | refine below_setRow ?_ ?_ _ | exact Nat.le_refl _) | omega | (simp; done) | (simp; omega) | (simp at *; omega)))
     · refine wpPlanT_alloc #[.bool false] 4 rfl rfl (by intro W; go_simp) ?_
       intro q wm hq hql hqu hbm
       have hqB : W2.heap.size ≤ q := Nat.le_trans hbc.size hql
       have hbc := hbc.trans (hbm.mono hbc.size)
       refine ⟨hbc, ?_⟩
       intro K hK; go_simp; refine hK _ _ ?_; clear hK K
       refine wpPlanT_alloc #[.int .u8 0, .int .i64 0] 128 rfl rfl (by intro W; go_simp) ?_
       intro p wn hp hpl hpu hbn
       have hpB : W2.heap.size ≤ p := Nat.le_trans hbc.size hpl
       have hbc := hbc.trans (hbn.mono hbc.size)
       refine ⟨hbc, ?_⟩
       intro K hK; go_simp; refine hK _ _ ?_; clear hK K
       have hq := (row?_below hbn hqu).trans hq
       have hqu := Nat.lt_of_lt_of_le hqu hbn.size
       have hpq : ¬ q = p := by omega
       apply wpPlanT_act rfl rfl
       intro K hK
       unfold Oper.wp
       go_simp
       obtain ⟨w4, hw4⟩ : ∃ w4, w4 = World.setRow wn p #[.int .u8 (te.1 : Int), .int .i64 te.2] := ⟨_, rfl⟩
       rw [← hw4]
       have hb4 : Below W2.heap.size W2 w4 := by rw [hw4]; exact below_setRow hbc hpB _
       have hq4 : row? w4 q = some #[.bool false] := by rw [hw4, row?_setRow_other _ _ _ _ hpq]; exact hq
       refine hK _ _ hb4 ?_
       have k := cell?_row (i := 0) hq4
       simp at k
       have hf := frozen?_row (i := 0) hq4
       have HQ4 := Lib.hid hq4
       clear hK K hw4 hp hq hpq hq4
       refine wpPlanT_done ?_
       simp only [List.drop_succ_cons, List.drop_zero]
       go_wp2_with fail
       refine ⟨p, q, ?_, ?_, hqB, ?_⟩
       · first | with_reducible rfl | exact ⟨rfl, rfl⟩
       · rw [row?_setCell_same, HQ4.out]; rfl
       · (repeat' (first | (with_reducible first | exact Below.refl _ _ | assumption | refine Below.alloc ?_ ?_ _ | refine Below.drew ?_ | refine Below.setCell ?_ ?_ _ | refine below_setRow ?_ ?_ _ | exact Nat.le_refl _) | omega | (simp; done) | (simp; omega) | (simp at *; omega)))
   · refine wpPlanT_alloc #[.int .u8 0, .int .i64 0] 128 rfl rfl (by intro W; go_simp) ?_
     intro p wn hp hpl hpu hbn
     have hpB : W2.heap.size ≤ p := Nat.le_trans hbc.size hpl
     have hbc := hbc.trans (hbn.mono hbc.size)
     refine ⟨hbc, ?_⟩
     intro K hK; go_simp; refine hK _ _ ?_; clear hK K
     refine wpPlanT_fork ?_ ?_
     · apply wpPlanT_act rfl rfl
       intro K hK
       unfold Oper.wp
       go_simp
       refine (HBT.out _).mono ?_
       rintro e w' ⟨rfl, hbw⟩
       have hbc := hbc.trans (hbw.mono hbc.size)
       refine hK _ _ hbc ?_
       clear hK K
       have hp := (row?_below hbw hpu).trans hp
       have hpu := Nat.lt_of_lt_of_le hpu hbw.size
       (repeat (apply wpPlanT_still rfl rfl; (intro w hw; have kl := HLE.out w (HB0.out.trans ((HB1.out.trans ((HB2.out.trans (hw.mono HB2.out.size)).mono HB1.out.size)).mono HB0.out.size)); clear hw; go_simp; (try go_ints); (first | with_reducible rfl | (go_simp; with_reducible rfl))); (intro K hK; go_simp; (try go_ints); refine hK _ _ ?_; clear hK K)))
       refine wpPlanT_alloc #[.bool false] 4 rfl rfl (by intro W; go_simp) ?_
       intro q wm hq hql hqu hbm
       have hqB : W2.heap.size ≤ q := Nat.le_trans hbc.size hql
       have hbc := hbc.trans (hbm.mono hbc.size)
       refine ⟨hbc, ?_⟩
       intro K hK; go_simp; refine hK _ _ ?_; clear hK K
       have hp := (row?_below hbm hpu).trans hp
       have hpu := Nat.lt_of_lt_of_le hpu hbm.size
       have hpq : ¬ q = p := by omega
       apply wpPlanT_act rfl rfl
       intro K hK
       unfold Oper.wp
       go_simp
       obtain ⟨w4, hw4⟩ : ∃ w4, w4 = World.setRow wm p #[.int .u8 (te.1 : Int), .int .i64 te.2] := ⟨_, rfl⟩
       rw [← hw4]
       have hb4 : Below W2.heap.size W2 w4 := by rw [hw4]; exact below_setRow hbc hpB _
       have hq4 : row? w4 q = some #[.bool false] := by rw [hw4, row?_setRow_other _ _ _ _ hpq]; exact hq
       refine hK _ _ hb4 ?_
       have k := cell?_row (i := 0) hq4
       simp at k
       have hf := frozen?_row (i := 0) hq4
       have HQ4 := Lib.hid hq4
       clear hK K hw4 hp hq hpq hq4
       refine wpPlanT_done ?_
       simp only [List.drop_succ_cons, List.drop_zero]
       go_wp2_with fail
       refine ⟨p, q, ?_, ?_, hqB, ?_⟩
       · first | with_reducible rfl | exact ⟨rfl, rfl⟩
       · rw [row?_setCell_same, HQ4.out]; rfl
       · (repeat' (first | (with_reducible first | exact Below.refl _ _ | assumption | refine Below.alloc ?_ ?_ _ | refine Below.drew ?_ | refine Below.setCell ?_ ?_ _ | refine below_setRow ?_ ?_ _ | exact Nat.le_refl _) | omega | (simp; done) | (simp; omega) | (simp at *; omega)))
     · refine wpPlanT_alloc #[.bool false] 4 rfl rfl (by intro W; go_simp) ?_
       intro q wm hq hql hqu hbm
       have hqB : W2.heap.size ≤ q := Nat.le_trans hbc.size hql
       have hbc := hbc.trans (hbm.mono hbc.size)
       refine ⟨hbc, ?_⟩
       intro K hK; go_simp; refine hK _ _ ?_; clear hK K
       have hp := (row?_below hbm hpu).trans hp
       have hpu := Nat.lt_of_lt_of_le hpu hbm.size
       have hpq : ¬ q = p := by omega
       apply wpPlanT_act rfl rfl
       intro K hK
       unfold Oper.wp
       go_simp
       refine (HBT.out _).mono ?_
       rintro e w' ⟨rfl, hbw⟩
       have hbc := hbc.trans (hbw.mono hbc.size)
       refine hK _ _ hbc ?_
       clear hK K
       have hp := (row?_below hbw hpu).trans hp
       have hpu := Nat.lt_of_lt_of_le hpu hbw.size
       have hq := (row?_below hbw hqu).trans hq
       have hqu := Nat.lt_of_lt_of_le hqu hbw.size
       (repeat (apply wpPlanT_still rfl rfl; (intro w hw; have kl := HLE.out w (HB0.out.trans ((HB1.out.trans ((HB2.out.trans (hw.mono HB2.out.size)).mono HB1.out.size)).mono HB0.out.size)); clear hw; go_simp; (try go_ints); (first | with_reducible rfl | (go_simp; with_reducible rfl))); (intro K hK; go_simp; (try go_ints); refine hK _ _ ?_; clear hK K)))
       apply wpPlanT_act rfl rfl
       intro K hK
       unfold Oper.wp
       go_simp
       obtain ⟨w4, hw4⟩ : ∃ w4, w4 = World.setRow w' p #[.int .u8 (te.1 : Int), .int .i64 te.2] := ⟨_, rfl⟩
       rw [← hw4]
       have hb4 : Below W2.heap.size W2 w4 := by rw [hw4]; exact below_setRow hbc hpB _
       have hq4 : row? w4 q = some #[.bool false] := by rw [hw4, row?_setRow_other _ _ _ _ hpq]; exact hq
       refine hK _ _ hb4 ?_
       have k := cell?_row (i := 0) hq4
       simp at k
       have hf := frozen?_row (i := 0) hq4
       have HQ4 := Lib.hid hq4
       clear hK K hw4 hp hq hpq hq4
       refine wpPlanT_done ?_
       simp only [List.drop_succ_cons, List.drop_zero]
       go_wp2_with fail
       refine ⟨p, q, ?_, ?_, hqB, ?_⟩
       · first | with_reducible rfl | exact ⟨rfl, rfl⟩
       · rw [row?_setCell_same, HQ4.out]; rfl
       · (repeat' (first | (with_reducible first | exact Below.refl _ _ | assumption | refine Below.alloc ?_ ?_ _ | refine Below.drew ?_ | refine Below.setCell ?_ ?_ _ | refine below_setRow ?_ ?_ _ | exact Nat.le_refl _) | omega | (simp; done) | (simp; omega) | (simp at *; omega)))
   · refine wpPlanT_alloc #[.bool false] 4 rfl rfl (by intro W; go_simp) ?_
     intro q wm hq hql hqu hbm
     have hqB : W2.heap.size ≤ q := Nat.le_trans hbc.size hql
     have hbc := hbc.trans (hbm.mono hbc.size)
     refine ⟨hbc, ?_⟩
     intro K hK; go_simp; refine hK _ _ ?_; clear hK K
     refine wpPlanT_fork ?_ ?_
     · apply wpPlanT_act rfl rfl
       intro K hK
       unfold Oper.wp
       go_simp
       refine (HBT.out _).mono ?_
       rintro e w' ⟨rfl, hbw⟩
       have hbc := hbc.trans (hbw.mono hbc.size)
       refine hK _ _ hbc ?_
       clear hK K
       have hq := (row?_below hbw hqu).trans hq
       have hqu := Nat.lt_of_lt_of_le hqu hbw.size
       (repeat (apply wpPlanT_still rfl rfl; (intro w hw; have kl := HLE.out w (HB0.out.trans ((HB1.out.trans ((HB2.out.trans (hw.mono HB2.out.size)).mono HB1.out.size)).mono HB0.out.size)); clear hw; go_simp; (try go_ints); (first | with_reducible rfl | (go_simp; with_reducible rfl))); (intro K hK; go_simp; (try go_ints); refine hK _ _ ?_; clear hK K)))
       refine wpPlanT_alloc #[.int .u8 0, .int .i64 0] 128 rfl rfl (by intro W; go_simp) ?_
       intro p wn hp hpl hpu hbn
       have hpB : W2.heap.size ≤ p := Nat.le_trans hbc.size hpl
       have hbc := hbc.trans (hbn.mono hbc.size)
       refine ⟨hbc, ?_⟩
       intro K hK; go_simp; refine hK _ _ ?_; clear hK K
       have hq := (row?_below hbn hqu).trans hq
       have hqu := Nat.lt_of_lt_of_le hqu hbn.size
       have hpq : ¬ q = p := by omega
       apply wpPlanT_act rfl rfl
       intro K hK
       unfold Oper.wp
       go_simp
       obtain ⟨w4, hw4⟩ : ∃ w4, w4 = World.setRow wn p #[.int .u8 (te.1 : Int), .int .i64 te.2] := ⟨_, rfl⟩
       rw [← hw4]
       have hb4 : Below W2.heap.size W2 w4 := by rw [hw4]; exact below_setRow hbc hpB _
       have hq4 : row? w4 q = some #[.bool false] := by rw [hw4, row?_setRow_other _ _ _ _ hpq]; exact hq
       refine hK _ _ hb4 ?_
       have k := cell?_row (i := 0) hq4
       simp at k
       have hf := frozen?_row (i := 0) hq4
       have HQ4 := Lib.hid hq4
       clear hK K hw4 hp hq hpq hq4
       refine wpPlanT_done ?_
       simp only [List.drop_succ_cons, List.drop_zero]
       go_wp2_with fail
       refine ⟨p, q, ?_, ?_, hqB, ?_⟩
       · first | with_reducible rfl | exact ⟨rfl, rfl⟩
       · rw [row?_setCell_same, HQ4.out]; rfl
       · (repeat' (first | (with_reducible first | exact Below.refl _ _ | assumption | refine Below.alloc ?_ ?_ _ | refine Below.drew ?_ | refine Below.setCell ?_ ?_ _ | refine below_setRow ?_ ?_ _ | exact Nat.le_refl _) | omega | (simp; done) | (simp; omega) | (simp at *; omega)))
     · refine wpPlanT_alloc #[.int .u8 0, .int .i64 0] 128 rfl rfl (by intro W; go_simp) ?_
       intro p wn hp hpl hpu hbn
       have hpB : W2.heap.size ≤ p := Nat.le_trans hbc.size hpl
       have hbc := hbc.trans (hbn.mono hbc.size)
       refine ⟨hbc, ?_⟩
       intro K hK; go_simp; refine hK _ _ ?_; clear hK K
       have hq := (row?_below hbn hqu).trans hq
       have hqu := Nat.lt_of_lt_of_le hqu hbn.size
       have hpq : ¬ q = p := by omega
       apply wpPlanT_act rfl rfl
       intro K hK
       unfold Oper.wp
       go_simp
       refine (HBT.out _).mono ?_
       rintro e w' ⟨rfl, hbw⟩
       have hbc := hbc.trans (hbw.mono hbc.size)
       refine hK _ _ hbc ?_
       clear hK K
       have hp := (row?_below hbw hpu).trans hp
       have hpu := Nat.lt_of_lt_of_le hpu hbw.size
       have hq := (row?_below hbw hqu).trans hq
       have hqu := Nat.lt_of_lt_of_le hqu hbw.size
       (repeat (apply wpPlanT_still rfl rfl; (intro w hw; have kl := HLE.out w (HB0.out.trans ((HB1.out.trans ((HB2.out.trans (hw.mono HB2.out.size)).mono HB1.out.size)).mono HB0.out.size)); clear hw; go_simp; (try go_ints); (first | with_reducible rfl | (go_simp; with_reducible rfl))); (intro K hK; go_simp; (try go_ints); refine hK _ _ ?_; clear hK K)))
       apply wpPlanT_act rfl rfl
       intro K hK
       unfold Oper.wp
       go_simp
       obtain ⟨w4, hw4⟩ : ∃ w4, w4 = World.setRow w' p #[.int .u8 (te.1 : Int), .int .i64 te.2] := ⟨_, rfl⟩
       rw [← hw4]
       have hb4 : Below W2.heap.size W2 w4 := by rw [hw4]; exact below_setRow hbc hpB _
       have hq4 : row? w4 q = some #[.bool false] := by rw [hw4, row?_setRow_other _ _ _ _ hpq]; exact hq
       refine hK _ _ hb4 ?_
       have k := cell?_row (i := 0) hq4
       simp at k
       have hf := frozen?_row (i := 0) hq4
       have HQ4 := Lib.hid hq4
       clear hK K hw4 hp hq hpq hq4
       refine wpPlanT_done ?_
       simp only [List.drop_succ_cons, List.drop_zero]
       go_wp2_with fail
       refine ⟨p, q, ?_, ?_, hqB, ?_⟩
       · first | with_reducible rfl | exact ⟨rfl, rfl⟩
       · rw [row?_setCell_same, HQ4.out]; rfl
       · (repeat' (first | (with_reducible first | exact Below.refl _ _ | assumption | refine Below.alloc ?_ ?_ _ | refine Below.drew ?_ | refine Below.setCell ?_ ?_ _ | refine below_setRow ?_ ?_ _ | exact Nat.le_refl _) | omega | (simp; done) | (simp; omega) | (simp at *; omega)))
 intro p9 b10 W3 ⟨hr10, hb10, hb3⟩
 have HB3 := Lib.hid hb3
 have hr10l := row?_lt hr10
 have HR10 := Lib.hid hr10
 have hs3 := hb3.size
 clear HLE hr10 hb3 HBT
 go_wp2_with fail
 generalize hW4 : World.alloc W3 _ = W4
 obtain ⟨hrT, hB4⟩ := alloc_row hW4
 have hs4 := row?_lt hrT
 clear hW4
 obtain ⟨t1, ht1⟩ : ∃ t, t = decide (e.op < 0 ∨ 8 ≤ e.op) := ⟨_, rfl⟩
 obtain ⟨t2, ht2⟩ : ∃ t, t = (!idB e.u || (e.pairs && !idB e.v) || (e.weighs && heavyB e.wt)) := ⟨_, rfl⟩
 obtain ⟨t3, ht3⟩ : ∃ t, t = (e.pairs && decide (e.u = e.v)) := ⟨_, rfl⟩
 obtain ⟨t4, ht4⟩ : ∃ t, t = (decide (e.op = 0) && bu) := ⟨_, rfl⟩
 obtain ⟨t5, ht5⟩ : ∃ t, t = ((decide (e.op ≠ 0) && !e.pairs && !bu) || (decide (e.op = 2) && !(bu && bv))) := ⟨_, rfl⟩
 obtain ⟨t6, ht6⟩ : ∃ t, t = (e.pairs && decide (e.op ≠ 2) && !be) := ⟨_, rfl⟩
 obtain ⟨t7, ht7⟩ : ∃ t, t = (decide (e.op = 2) && be) := ⟨_, rfl⟩
 obtain ⟨t8, ht8⟩ : ∃ t, t = (decide (e.op = 2) && decide (1024 ≤ G.E.length)) := ⟨_, rfl⟩
 have hre4 := (row?_below hB4 (by omega)).trans ((row?_below HB3.out (by omega)).trans ((row?_below HB2.out (by omega)).trans ((row?_below HB1.out (by omega)).trans HRE.out)))
 have hrb4 := (row?_below hB4 (by omega)).trans ((row?_below HB3.out (by omega)).trans ((row?_below HB2.out (by omega)).trans ((row?_below HB1.out (by omega)).trans HRB.out)))
 have hr64 := (row?_below hB4 (by omega)).trans ((row?_below HB3.out (by omega)).trans ((row?_below HB2.out (by omega)).trans HR6.out))
 have hr84 := (row?_below hB4 (by omega)).trans ((row?_below HB3.out (by omega)).trans HR8.out)
 have hr104 := (row?_below hB4 (by omega)).trans HR10.out
 have hbe : Below w.heap.size w W4 := HB0.out.trans ((HB1.out.trans ((HB2.out.trans ((HB3.out.trans (hB4.mono hs3)).mono hs2)).mono hs1)).mono HB0.out.size)
 have hse := hbe.size
 have hse1 : w.heap.size + 1 < W4.heap.size := by omega
 have hG4 := H0.out.below hbe
 have HBE := Lib.hid hbe
 have HC1 := Lib.hid fun W (hb : Below W4.heap.size W4 W) => wrong1_any e (w.heap.size + 1) W ((row?_below hb hse1).trans hre4)
 have HC2 := Lib.hid fun W (hb : Below W4.heap.size W4 W) => wrong2_any e (w.heap.size + 1) W ((row?_below hb hse1).trans hre4)
 have HC3 := Lib.hid fun W (hb : Below W4.heap.size W4 W) => wrong3_any e (w.heap.size + 1) W ((row?_below hb hse1).trans hre4)
 have HC4 := Lib.hid fun W (hb : Below W4.heap.size W4 W) => wrong4_any e (w.heap.size + 1) b6 bu W ((row?_below hb hse1).trans hre4) ((row?_below hb (row?_lt hr64)).trans hr64)
 have HC5 := Lib.hid fun W (hb : Below W4.heap.size W4 W) => wrong5_any e (w.heap.size + 1) b6 b8 bu bv W ((row?_below hb hse1).trans hre4) ((row?_below hb (row?_lt hr64)).trans hr64) ((row?_below hb (row?_lt hr84)).trans hr84)
 have HC6 := Lib.hid fun W (hb : Below W4.heap.size W4 W) => wrong6_any e (w.heap.size + 1) b10 be W ((row?_below hb hse1).trans hre4) ((row?_below hb (row?_lt hr104)).trans hr104)
 have HC7 := Lib.hid fun W (hb : Below W4.heap.size W4 W) => wrong7_any e (w.heap.size + 1) b10 be W ((row?_below hb hse1).trans hre4) ((row?_below hb (row?_lt hr104)).trans hr104)
 have HC8 := Lib.hid fun W (hb : Below W4.heap.size W4 W) => wrong8_any e (w.heap.size + 1) w.heap.size g bV bE G W ((row?_below hb hse1).trans hre4) ((row?_below hb (by omega)).trans hrb4) (hG4.below hb)
 have HW : Hid (G.wrong e = if t1 then 11 else if t2 then 2 else if t3 then 15 else if t4 then 7 else if t5 then 9 else if t6 then 9 else if t7 then 7 else if t8 then 8 else 0) := by
   refine Lib.hid ?_
   obtain ⟨h1, h2, h3⟩ := HB.out
   rw [HUV.out.1] at h1 h3
   rw [HUV.out.2] at h2 h3
   unfold Gr.wrong
   rw [← h1, ← h2, ← h3, ← ht2, ← ht3, ← ht4, ← ht5, ← ht6, ← ht7, ← ht8, ht1]
   simp only [decide_eq_true_eq]
 rw [← ht1] at HC1
 rw [← ht2] at HC2
 rw [← ht3] at HC3
 rw [← ht4] at HC4
 rw [← ht5] at HC5
 rw [← ht6] at HC6
 rw [← ht7] at HC7
 rw [← ht8] at HC8
 clear ht1 ht2 ht3 ht4 ht5 ht6 ht7 ht8 hre4 hrb4 hr64 hr84 hr104 hbe hG4 HRE HRB HR6 HR8 HR10 HR HB HUV HB0 HB1 HB2 HB3 H0 HE hB4
 go_loopw [64] (fun i wr => ∃ k : Nat, k ≤ 8 ∧ i = .int .i64 (k : Int) ∧ (∀ x ∈ [t1, t2, t3, t4, t5, t6, t7, t8].take k, x = false) ∧ Below W4.heap.size W4 wr) (fun i _ => 8 - (intOf i).toNat)
 case atStart => exact ⟨0, by omega, rfl, by simp, Below.refl _ _⟩
 case round =>
   obtain ⟨k, hk, rfl, hno, hb⟩ := hrel
   have hrr := (row?_below hb (by omega)).trans hrT
   have hszb := hb.size
   have HB := Lib.hid hb
   have HNO := Lib.hid hno
   clear hb hno
   obtain rfl | rfl | rfl | rfl | rfl | rfl | rfl | rfl | rfl : k = 0 ∨ k = 1 ∨ k = 2 ∨ k = 3 ∨ k = 4 ∨ k = 5 ∨ k = 6 ∨ k = 7 ∨ k = 8 := by omega
   · have c0 := cell?_row (i := 2 * 0) hrr
     have c1 := cell?_row (i := 2 * 0 + 1) hrr
     simp at c0 c1
     clear hrr
     go_wp2_with fail
     refine Calls.mono (HC1.out _ (HB.out.alloc HB.out.size _)) ?_
     rintro r w5 ⟨rfl, rfl⟩
     cases htt : t1
     · go_wp2_with fail
       go_roundw
       case rel => exact ⟨0 + 1, by omega, by go_num, by have h := HNO.out; simp at h ⊢; first | (simp [htt]; done) | simp [h, htt], HB.out.alloc HB.out.size _⟩
       case measure => simp [intOf]
     · go_wp2_with fail
       go_ret
       refine ⟨?_, HBE.out.trans ((HB.out.alloc HB.out.size _).mono hse)⟩
       rw [HW.out]
       have h := HNO.out
       simp at h
       first | (simp [htt]; done) | simp [h, htt]
   · have c0 := cell?_row (i := 2 * 1) hrr
     have c1 := cell?_row (i := 2 * 1 + 1) hrr
     simp at c0 c1
     clear hrr
     go_wp2_with fail
     refine Calls.mono (HC2.out _ (HB.out.alloc HB.out.size _)) ?_
     rintro r w5 ⟨rfl, rfl⟩
     cases htt : t2
     · go_wp2_with fail
       go_roundw
       case rel => exact ⟨1 + 1, by omega, by go_num, by have h := HNO.out; simp at h ⊢; first | (simp [htt]; done) | simp [h, htt], HB.out.alloc HB.out.size _⟩
       case measure => simp [intOf]
     · go_wp2_with fail
       go_ret
       refine ⟨?_, HBE.out.trans ((HB.out.alloc HB.out.size _).mono hse)⟩
       rw [HW.out]
       have h := HNO.out
       simp at h
       first | (simp [htt]; done) | simp [h, htt]
   · have c0 := cell?_row (i := 2 * 2) hrr
     have c1 := cell?_row (i := 2 * 2 + 1) hrr
     simp at c0 c1
     clear hrr
     go_wp2_with fail
     refine Calls.mono (HC3.out _ (HB.out.alloc HB.out.size _)) ?_
     rintro r w5 ⟨rfl, rfl⟩
     cases htt : t3
     · go_wp2_with fail
       go_roundw
       case rel => exact ⟨2 + 1, by omega, by go_num, by have h := HNO.out; simp at h ⊢; first | (simp [htt]; done) | simp [h, htt], HB.out.alloc HB.out.size _⟩
       case measure => simp [intOf]
     · go_wp2_with fail
       go_ret
       refine ⟨?_, HBE.out.trans ((HB.out.alloc HB.out.size _).mono hse)⟩
       rw [HW.out]
       have h := HNO.out
       simp at h
       first | (simp [htt]; done) | simp [h, htt]
   · have c0 := cell?_row (i := 2 * 3) hrr
     have c1 := cell?_row (i := 2 * 3 + 1) hrr
     simp at c0 c1
     clear hrr
     go_wp2_with fail
     refine Calls.mono (HC4.out _ (HB.out.alloc HB.out.size _)) ?_
     rintro r w5 ⟨rfl, rfl⟩
     cases htt : t4
     · go_wp2_with fail
       go_roundw
       case rel => exact ⟨3 + 1, by omega, by go_num, by have h := HNO.out; simp at h ⊢; first | (simp [htt]; done) | simp [h, htt], HB.out.alloc HB.out.size _⟩
       case measure => simp [intOf]
     · go_wp2_with fail
       go_ret
       refine ⟨?_, HBE.out.trans ((HB.out.alloc HB.out.size _).mono hse)⟩
       rw [HW.out]
       have h := HNO.out
       simp at h
       first | (simp [htt]; done) | simp [h, htt]
   · have c0 := cell?_row (i := 2 * 4) hrr
     have c1 := cell?_row (i := 2 * 4 + 1) hrr
     simp at c0 c1
     clear hrr
     go_wp2_with fail
     refine Calls.mono (HC5.out _ (HB.out.alloc HB.out.size _)) ?_
     rintro r w5 ⟨rfl, rfl⟩
     cases htt : t5
     · go_wp2_with fail
       go_roundw
       case rel => exact ⟨4 + 1, by omega, by go_num, by have h := HNO.out; simp at h ⊢; first | (simp [htt]; done) | simp [h, htt], HB.out.alloc HB.out.size _⟩
       case measure => simp [intOf]
     · go_wp2_with fail
       go_ret
       refine ⟨?_, HBE.out.trans ((HB.out.alloc HB.out.size _).mono hse)⟩
       rw [HW.out]
       have h := HNO.out
       simp at h
       first | (simp [htt]; done) | simp [h, htt]
   · have c0 := cell?_row (i := 2 * 5) hrr
     have c1 := cell?_row (i := 2 * 5 + 1) hrr
     simp at c0 c1
     clear hrr
     go_wp2_with fail
     refine Calls.mono (HC6.out _ (HB.out.alloc HB.out.size _)) ?_
     rintro r w5 ⟨rfl, rfl⟩
     cases htt : t6
     · go_wp2_with fail
       go_roundw
       case rel => exact ⟨5 + 1, by omega, by go_num, by have h := HNO.out; simp at h ⊢; first | (simp [htt]; done) | simp [h, htt], HB.out.alloc HB.out.size _⟩
       case measure => simp [intOf]
     · go_wp2_with fail
       go_ret
       refine ⟨?_, HBE.out.trans ((HB.out.alloc HB.out.size _).mono hse)⟩
       rw [HW.out]
       have h := HNO.out
       simp at h
       first | (simp [htt]; done) | simp [h, htt]
   · have c0 := cell?_row (i := 2 * 6) hrr
     have c1 := cell?_row (i := 2 * 6 + 1) hrr
     simp at c0 c1
     clear hrr
     go_wp2_with fail
     refine Calls.mono (HC7.out _ (HB.out.alloc HB.out.size _)) ?_
     rintro r w5 ⟨rfl, rfl⟩
     cases htt : t7
     · go_wp2_with fail
       go_roundw
       case rel => exact ⟨6 + 1, by omega, by go_num, by have h := HNO.out; simp at h ⊢; first | (simp [htt]; done) | simp [h, htt], HB.out.alloc HB.out.size _⟩
       case measure => simp [intOf]
     · go_wp2_with fail
       go_ret
       refine ⟨?_, HBE.out.trans ((HB.out.alloc HB.out.size _).mono hse)⟩
       rw [HW.out]
       have h := HNO.out
       simp at h
       first | (simp [htt]; done) | simp [h, htt]
   · have c0 := cell?_row (i := 2 * 7) hrr
     have c1 := cell?_row (i := 2 * 7 + 1) hrr
     simp at c0 c1
     clear hrr
     go_wp2_with fail
     refine Calls.mono (HC8.out _ (HB.out.alloc HB.out.size _)) ?_
     rintro r w5 ⟨rfl, rfl⟩
     cases htt : t8
     · go_wp2_with fail
       go_roundw
       case rel => exact ⟨7 + 1, by omega, by go_num, by have h := HNO.out; simp at h ⊢; first | (simp [htt]; done) | simp [h, htt], HB.out.alloc HB.out.size _⟩
       case measure => simp [intOf]
     · go_wp2_with fail
       go_ret
       refine ⟨?_, HBE.out.trans ((HB.out.alloc HB.out.size _).mono hse)⟩
       rw [HW.out]
       have h := HNO.out
       simp at h
       first | (simp [htt]; done) | simp [h, htt]
   · clear hrr
     go_wp2_with fail
     go_ret
     refine ⟨?_, HBE.out.trans (HB.out.mono hse)⟩
     rw [HW.out]
     have h := HNO.out
     simp at h
     simp [h]
end Go.Proofs.YteiibpfabgfolaaGreatDoor
