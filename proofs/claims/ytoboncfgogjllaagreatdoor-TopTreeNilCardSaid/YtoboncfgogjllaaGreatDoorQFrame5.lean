/-
  Walks of package frame: New of a valid tree.
-/
import Derived.Test.YtoboncfgogjllaaGreatDoorQFrame4
import Derived.Test.YtoboncfgogjllaaGreatDoorQRoR
namespace Go.Proofs.YtoboncfgogjllaaGreatDoor
open Go Go.RowKit Go.Pal Go.Shelf Go.Maps

set_option maxRecDepth 10000 in
theorem new1_any (x : Bg) (w : World) : Calls Tryz.prog 86 #[.agg (bagA x)] w fun e w' => e = .returned (.bool (decide ((4 : Int) < (lenS x.2 : Int)))) ∧ Below w.heap.size w w' := by
  go_enter Tryz.func86, Tryz.ntmps86
  go_wp2_with fail
  refine (len_any x.2 _).mono ?_
  rintro e w1 ⟨rfl, hb1⟩
  go_wp2
  go_ret
  exact ⟨rfl, ((Below.refl _ w).alloc (Nat.le_refl _) _).trans (hb1.mono (by simp))⟩

theorem Done.base {B B' : Nat} {w : World} {N : Nat → Nd} {t : Tr} {d : Nat} (h : Done B w N t d) (hB : B' ≤ B) : Done B' w N t d := by
  induction h with
  | mk b ks d hs hh hd hk hl h ih => exact .mk b ks d hs hh hd (hk.mono hB) (hl.mono hB) ih
/-- A frame that lies in memory. -/
def FrameOk (w : World) (gf : Nat) (T : List Bg) (t : Tr) : Prop :=
  ∃ gT cT gN gM N m, FSt gf gT cT gN gM T.length N m w ∧ Rd bagA 17 w.heap.size w (.slice (some ⟨gT, 0, none⟩) T.length cT) T ∧ Done 0 w N t 0
theorem FrameOk.below {w w' : World} {gf : Nat} {T : List Bg} {t : Tr} (h : FrameOk w gf T t) (hb : Below w.heap.size w w') : FrameOk w' gf T t := by
  obtain ⟨gT, cT, gN, gM, N, m, h1, h2, h3⟩ := h
  exact ⟨gT, cT, gN, gM, N, m, h1.of_same hb.block, (h2.below hb (Nat.le_refl _)).mono hb.size, h3.keep (fun k _ hk => hb.block k hk) fun _ _ => rfl⟩
def nd0 : Nd := { kids := .slice none 0 0, light := .slice none 0 0, size := 0, heavy := 0, deep := 0 }

theorem infoNode : (Tryz.prog.info? 149).map (fun i => (i.zero, i.size, i.bytes)) = some (some (.agg nd0.cells), 5, 72) := by kernel_rfl
theorem madeNodes (n : Nat) : madeCells nd0.cells (n * 5) = nodeC (fun _ => nd0) n := by
  apply Array.ext_getElem?
  intro i
  by_cases hi : i < n * 5
  · have h5 : i % 5 < nd0.cells.size := Nat.mod_lt _ (by decide)
    unfold madeCells nodeC
    rw [Array.getElem?_map, Array.getElem?_range, if_pos hi, Array.getElem?_ofFn, dif_pos hi]
    simp only [Option.map_some, Nd.cells_size]
    rw [getElem!_pos nd0.cells (i % 5) h5]
    simp only [Nd.cells_size] at h5
    rw [Array.getD_eq_getD_getElem?, Array.getElem?_eq_getElem (by rw [Nd.cells_size]; exact h5)]
    rfl
  · rw [Array.getElem?_eq_none (by rw [size_madeCells]; omega), Array.getElem?_eq_none (by rw [nodeC_size]; omega)]
theorem run_makeNodes (n : Nat) (hn : n ≤ 65536) (w : World) : (Instr.makeSlice 118 (.int .i64 (n : Int)) (.int .i64 (n : Int))).run Tryz.prog w = .ok (.slice (some ⟨w.heap.size, 0, none⟩) n n) (w.alloc (.cells (nodeC (fun _ => nd0) n) 149)) := by
  obtain ⟨i0, hi, hz0, hz1, hz2⟩ := info_parts infoNode
  have h := run_make (P := Tryz.prog) w 118 149 i0 (.agg nd0.cells) Tryz.underlying118 hi hz0 .i64 .i64 (n : Int) (n : Int) (by omega) (Int.le_refl _) (by rw [hz2]; omega) (by omega)
  simp only [Int.toNat_natCast, hz1] at h
  rw [show (Value.agg nd0.cells).cells = nd0.cells from rfl, madeNodes] at h
  exact h

/-- The nodes while their rows of children are laid in. -/
def kidN (vs : List Value) (k : Nat) : Nat → Nd := fun c => if c < k then { nd0 with kids := vs.getD c (.slice none 0 0) } else nd0
theorem kidN_zero (vs : List Value) : kidN vs 0 = fun _ => nd0 := by funext c; simp [kidN]
theorem kidN_succ {vs : List Value} {k : Nat} {v : Value} (h : vs[k]? = some v) : upd (kidN vs k) k { kidN vs k k with kids := v } = kidN vs (k + 1) := by
  funext c
  by_cases hc : c = k
  · subst hc
    rw [upd_same]
    simp [kidN, List.getD, h]
  · rw [upd_other _ _ hc]
    unfold kidN
    by_cases h2 : c < k
    · rw [if_pos h2, if_pos (by omega)]
    · rw [if_neg h2, if_neg (by omega)]

/-- What New's composite literal makes. -/
def NewΦ (T : List Bg) (a : Option Addr) (c s0 : Nat) (k : Nat) (v : Value) (W : World) : Prop :=
  match k with
  | 0 | 2 => v = .slice a T.length c
  | 1 => ∃ g cc, v = .slice (some ⟨g, 0, none⟩) T.length cc ∧ Rd bagA 17 W.heap.size W v T
  | 3 => v = .int .i64 (T.length : Int)
  | 4 => ∃ g, v = .slice (some ⟨g, 0, none⟩) T.length T.length ∧ row? W g = some (nodeC (fun _ => nd0) T.length) ∧ s0 < g
  | 5 => ∃ g, v = .map (some g) ∧ W.ownsMap (H := Unit) Tryz.prog 3 (plainElem Tryz.prog 3) g 0 (.map []) ∧ s0 < g
  | 6 => ∃ gT cT gN gM, v = .agg #[.slice (some ⟨gT, 0, none⟩) T.length cT, .slice (some ⟨gN, 0, none⟩) T.length T.length, .map (some gM)] ∧ Rd bagA 17 W.heap.size W (.slice (some ⟨gT, 0, none⟩) T.length cT) T ∧ row? W gN = some (nodeC (fun _ => nd0) T.length) ∧ s0 < gN ∧ W.ownsMap (H := Unit) Tryz.prog 3 (plainElem Tryz.prog 3) gM 0 (.map []) ∧ s0 < gM
  | 7 => ∃ gf gT cT gN gM, v = .pointer (some ⟨gf, 0, none⟩) ∧ FSt gf gT cT gN gM T.length (fun _ => nd0) 0 W ∧ Rd bagA 17 W.heap.size W (.slice (some ⟨gT, 0, none⟩) T.length cT) T ∧ s0 < gN ∧ s0 < gM ∧ s0 < gf
  | 8 => ∃ gb, v = .pointer (some ⟨gb, 0, none⟩) ∧ row? W gb = some #[.pointer none] ∧ s0 < gb
  | _ => True
theorem rd_on {T : List Bg} {v : Value} {w w' : World} (h : Rd bagA 17 w.heap.size w v T) (hb : Below w.heap.size w w') : Rd bagA 17 w'.heap.size w' v T := (h.below hb (Nat.le_refl _)).mono hb.size
theorem row_on {w w' : World} {g : Nat} {c : Array Value} (h : row? w g = some c) (hb : Below w.heap.size w w') : row? w' g = some c := (row?_below hb (row?_lt h)).trans h
theorem own_on {w w' : World} {g m : Nat} {D : DataW Unit} (h : w.ownsMap Tryz.prog 3 (plainElem Tryz.prog 3) g m D) (hb : Below w.heap.size w w') : w'.ownsMap Tryz.prog 3 (plainElem Tryz.prog 3) g m D := by
  obtain ⟨es, clock, h1, h2⟩ := h
  exact ⟨es, clock, (hb.block g (Array.getElem?_eq_some_iff.1 h1).1).trans h1, h2⟩
theorem newΦ_on (T : List Bg) (a : Option Addr) (c s0 : Nat) (k : Nat) (v : Value) (w w' : World) (h : NewΦ T a c s0 k v w) (hb : Below w.heap.size w w') : NewΦ T a c s0 k v w' := by
  unfold NewΦ at h ⊢
  split at h
  · exact h
  · exact h
  · obtain ⟨g, cc, h1, h2⟩ := h; exact ⟨g, cc, h1, rd_on h2 hb⟩
  · exact h
  · obtain ⟨g, h1, h2, h3⟩ := h; exact ⟨g, h1, row_on h2 hb, h3⟩
  · obtain ⟨g, h1, h2, h3⟩ := h; exact ⟨g, h1, own_on h2 hb, h3⟩
  · obtain ⟨gT, cT, gN, gM, h1, h2, h3, h4, h5, h6⟩ := h; exact ⟨gT, cT, gN, gM, h1, rd_on h2 hb, row_on h3 hb, h4, own_on h5 hb, h6⟩
  · obtain ⟨gf, gT, cT, gN, gM, h1, h2, h3, h4⟩ := h; exact ⟨gf, gT, cT, gN, gM, h1, h2.of_same hb.block, rd_on h3 hb, h4⟩
  · obtain ⟨gb, h1, h2, h3⟩ := h; exact ⟨gb, h1, row_on h2 hb, h3⟩
  · trivial

set_option maxRecDepth 20000 in
set_option maxHeartbeats 4000000 in
theorem new_any (T : List Bg) (t : Tr) (hV : Valid T t) (hnd : t.labs.Nodup) (v : Value) (w : World) (hv : Rd bagA 17 w.heap.size w v T) (hTab : TabOk w) (hg : 0 < w.heap.size) :
    Calls Tryz.prog 44 #[v] w fun e w' => ∃ gf, e = .returned (.tuple #[.pointer (some ⟨gf, 0, none⟩), .int .i64 0]) ∧ FrameOk w' gf T t ∧ Below w.heap.size w w' := by
  have HV := Lib.hid hv
  obtain ⟨a, c, rfl, -⟩ := hv
  have hle := hV.le
  have hpos := hV.pos
  have HVal := Lib.hid hV; clear hV
  have HTab := Lib.hid hTab; clear hTab
  have hl1 : decide ((1024 : Int) < (T.length : Int)) = false := decide_eq_false (by omega)
  go_enter Tryz.func44, Tryz.ntmps44
  go_wp2_with fail
  obtain ⟨W1, hW1⟩ : ∃ W1, W1 = w.alloc (Obj.cells #[.slice a T.length c] 59) := ⟨_, rfl⟩
  have hB1 : Below w.heap.size w W1 := by rw [hW1]; exact (Below.refl _ w).alloc (Nat.le_refl _) _
  have hr1 : row? W1 w.heap.size = some #[.slice a T.length c] := by rw [hW1]; simp [go_sem]
  have hs1 : W1.heap.size = w.heap.size + 1 := by rw [hW1]; simp
  rw [← hW1]
  clear hW1
  refine (check_valid T t HVal.out (.slice a T.length c) W1 ((HV.out.below hB1 (Nat.le_refl _)).mono hB1.size)).mono ?_
  rintro e w2 ⟨rfl, hb2⟩
  have hB2 := hB1.trans (hb2.mono (by omega))
  have hs2 := hb2.size
  have hr2 := (row?_below hb2 (by omega)).trans hr1
  have c2 : w2.cell? ⟨w.heap.size, 0, none⟩ = _ := cell?_row (i := 0) hr2
  simp at c2
  have HB2 := Lib.hid hB2
  have HR2 := Lib.hid hr2
  clear hb2 hr1 hB1 hB2 hr2
  go_wp2_with fail
  have hany : T.any (fun b => decide ((4 : Int) < (lenS b.2 : Int))) = false := by
    rw [List.any_eq_false]
    intro x hx
    have := HVal.out.small x hx
    simp only [decide_eq_true_eq]
    omega
  have hcf := containsFuncT (fun b => decide ((4 : Int) < (lenS b.2 : Int))) 86 #[] (fun args w => by simp [go_sem]) T (.slice a T.length c) w2 ((HV.out.below HB2.out (Nat.le_refl _)).mono HB2.out.size) (by omega) (fun W _ x _ => new1_any x W)
  rw [hany] at hcf
  refine hcf.mono ?_
  rintro e w3 ⟨rfl, hb3⟩
  have hB3 := HB2.out.trans (hb3.mono (by omega))
  have hs3 := hb3.size
  have hr3 := (row?_below hb3 (by omega)).trans HR2.out
  have c3 : w3.cell? ⟨w.heap.size, 0, none⟩ = _ := cell?_row (i := 0) hr3
  simp at c3
  have HB3 := Lib.hid hB3
  have HR3 := Lib.hid hr3
  clear hb3 hB3 hr3 hcf c2 hany
  go_wp2_with fail
  have hmm := @run_makeMap Tryz.prog
  have hmk := run_makeNodes T.length (by omega)
  refine wp_region_res 9 (fun W => row? W w.heap.size = some #[.slice a T.length c] ∧ Below w.heap.size w W) (NewΦ T a c w.heap.size) (by kernel_rfl) (by kernel_rfl) (by kernel_rfl) (by kernel_rfl) (by kernel_rfl) (by kernel_rfl) (newΦ_on T a c w.heap.size) ⟨HR3.out, HB3.out.drew⟩ ?_ ?_
  · intro k hk
    rcases k with _ | _ | _ | _ | _ | _ | _ | _ | _ | k
    · refine resStep_of rfl fun a' W hS hold hdep K hK => ?_
      have h1 := hold 1 _ (by kernel_rfl) rfl
      have c1 : W.cell? ⟨w.heap.size, 0, none⟩ = _ := cell?_row (i := 0) hS.1
      simp at c1
      unfold Oper.wp
      go_simp
      exact hK _ W rfl hS (Below.refl _ _)
    · refine resStep_of rfl fun a' W hS hold hdep K hK => ?_
      obtain ⟨v, h1, rfl⟩ := hdep 0 20 (by kernel_rfl) (by rfl)
      unfold Oper.wp
      go_simp
      have hne : T ≠ [] := fun e => by rw [e] at hpos; simp at hpos
      refine (tClone_any T (.slice a T.length c) W ((HV.out.below hS.2 (Nat.le_refl _)).mono hS.2.size) hne (by omega)).mono ?_
      rintro e w' ⟨g, cc, rfl, hg, hr, hb⟩
      exact hK _ w' ⟨g, cc, rfl, hr⟩ ⟨row_on hS.1 hb, hS.2.trans (hb.mono hS.2.size)⟩ hb
    · refine resStep_of rfl fun a' W hS hold hdep K hK => ?_
      have h1 := hold 1 _ (by kernel_rfl) rfl
      have c1 : W.cell? ⟨w.heap.size, 0, none⟩ = _ := cell?_row (i := 0) hS.1
      simp at c1
      unfold Oper.wp
      go_simp
      exact hK _ W rfl hS (Below.refl _ _)
    · refine resStep_of rfl fun a' W hS hold hdep K hK => ?_
      obtain ⟨v, h1, rfl⟩ := hdep 2 22 (by kernel_rfl) (by rfl)
      unfold Oper.wp
      go_simp
      exact hK _ W rfl hS (Below.refl _ _)
    · refine resStep_of rfl fun a' W hS hold hdep K hK => ?_
      obtain ⟨v, h1, rfl⟩ := hdep 3 23 (by kernel_rfl) (by rfl)
      have hb := (Below.refl W.heap.size W).alloc (Nat.le_refl _) (.cells (nodeC (fun _ => nd0) T.length) 149)
      unfold Oper.wp
      go_simp
      exact hK _ _ ⟨_, rfl, by simp [go_sem], row?_lt hS.1⟩ ⟨row_on hS.1 hb, hS.2.trans (hb.mono hS.2.size)⟩ hb
    · refine resStep_of rfl fun a' W hS hold hdep K hK => ?_
      have hb := (Below.refl W.heap.size W).alloc (Nat.le_refl _) (.map #[] 0)
      unfold Oper.wp
      go_simp
      exact hK _ _ ⟨_, rfl, World.ownsMap_made W _ _ _, row?_lt hS.1⟩ ⟨row_on hS.1 hb, hS.2.trans (hb.mono hS.2.size)⟩ hb
    · refine resStep_of rfl fun a' W hS hold hdep K hK => ?_
      obtain ⟨v1, h1, gT, cT, rfl, p1⟩ := hdep 1 21 (by kernel_rfl) (by rfl)
      obtain ⟨v2, h2, gN, rfl, p2, q2⟩ := hdep 4 24 (by kernel_rfl) (by rfl)
      obtain ⟨v3, h3, gM, rfl, p3, q3⟩ := hdep 5 25 (by kernel_rfl) (by rfl)
      unfold Oper.wp
      go_simp
      exact hK _ W ⟨gT, cT, gN, gM, rfl, p1, p2, q2, p3, q3⟩ hS (Below.refl _ _)
    · refine resStep_of rfl fun a' W hS hold hdep K hK => ?_
      obtain ⟨v1, h1, gT, cT, gN, gM, rfl, p1, p2, p3, p4, p5⟩ := hdep 6 26 (by kernel_rfl) (by rfl)
      have hb := (Below.refl W.heap.size W).alloc (Nat.le_refl _) (.cells #[.slice (some ⟨gT, 0, none⟩) T.length cT, .slice (some ⟨gN, 0, none⟩) T.length T.length, .map (some gM)] 121)
      unfold Oper.wp
      go_simp
      exact hK _ _ ⟨W.heap.size, gT, cT, gN, gM, rfl, ⟨by simp [go_sem], row_on p2 hb, _, own_on p4 hb⟩, rd_on p1 hb, p3, p5, row?_lt hS.1⟩ ⟨row_on hS.1 hb, hS.2.trans (hb.mono hS.2.size)⟩ hb
    · refine resStep_of rfl fun a' W hS hold hdep K hK => ?_
      have hb := (Below.refl W.heap.size W).alloc (Nat.le_refl _) (.cells #[.pointer none] 52)
      unfold Oper.wp
      go_simp
      exact hK _ _ ⟨_, rfl, by simp [go_sem], row?_lt hS.1⟩ ⟨row_on hS.1 hb, hS.2.trans (hb.mono hS.2.size)⟩ hb
    · omega
  · intro vals W hS hP
    obtain ⟨gT1, cT1, e1, q1⟩ := hP 1 (by omega)
    obtain ⟨gN1, e4, q4, _⟩ := hP 4 (by omega)
    obtain ⟨gM1, e5, q5, _⟩ := hP 5 (by omega)
    obtain ⟨_, _, _, _, e6, _⟩ := hP 6 (by omega)
    obtain ⟨gf, gT, cT, gN, gM, e7, hF, hR, z1, z2, z3⟩ := hP 7 (by omega)
    obtain ⟨gb, e8, q8, z4⟩ := hP 8 (by omega)
    have e0 := hP 0 (by omega)
    have e2 := hP 2 (by omega)
    have e3 := hP 3 (by omega)
    simp only [NewΦ] at e0 e2 e3
    simp only [putAll, e0, e1, e2, e3, e4, e5, e6, e7, e8]
    clear hmk hmm
    go_simp
    have x1 : W.cell? ⟨gb, 0, none⟩ = _ := cell?_row (i := 0) q8
    have x2 := frozen?_row (i := 0) q8
    simp at x1
    have d1 : gb ≠ gf := fun e => by have := hF.frame; rw [← e, q8] at this; have := congrArg (fun o => (o.getD #[]).size) this; simp at this
    have d2 : gb ≠ gN := fun e => by have := hF.nodes; rw [← e, q8] at this; have := congrArg (fun o => (o.getD #[]).size) this; simp [nodeC_size] at this; omega
    have d3 : gN ≠ gf := fun e => by have := hF.frame; rw [← e, hF.nodes] at this; have := congrArg (fun o => (o.getD #[]).size) this; simp [nodeC_size] at this; omega
    have hmapM : ∀ g c, row? W g = some c → gM ≠ g := fun g c hr e => by
      obtain ⟨D, es, clock, h1, _⟩ := hF.map
      rw [e] at h1
      simp [row?, h1] at hr
    have d4 := hmapM gb _ q8
    have d5 := hmapM gN _ hF.nodes
    have d6 := hmapM gf _ hF.frame
    have hRt : ∀ j u, (bagA T[0])[j]? = some u → W.cell? ⟨gT, j, none⟩ = some u := by
      obtain ⟨a', c', h1, h2⟩ := hR
      rcases h2 with h | ⟨b', o', h3, h4, h5⟩
      · rw [h] at hpos; simp at hpos
      · rw [h3] at h1
        simp only [Value.slice.injEq, Option.some.injEq, Addr.mk.injEq] at h1
        obtain ⟨⟨h6, h7, -⟩, -⟩ := h1
        subst h6 h7
        intro j u hu
        have := h5 0 T[0] (by rw [List.getElem?_eq_getElem]) j u hu
        simpa using this
    have d8 : gT ≠ gN := fun e => by
      have h6 := hRt 1 (.int .u64 (wd (T[0]).2 0 : Int)) (by rw [bagA_succ]; exact words_get _ (by omega))
      rw [e, cell?_row hF.nodes, show (1 : Nat) = 0 * 5 + 1 by omega, nodeC_get _ (by omega) (by omega)] at h6
      simp [Nd.cells, nd0] at h6
    have d9 : gT ≠ gM := fun e => by
      have h6 := hRt 0 _ (bagA_zero _)
      obtain ⟨D, es, clock, h1, _⟩ := hF.map
      rw [e] at h6
      simp [World.cell?, h1] at h6
    obtain ⟨W5, hW5⟩ : ∃ W5, W5 = W.setCell ⟨gb, 0, none⟩ (.pointer (some ⟨gf, 0, none⟩)) := ⟨_, rfl⟩
    have hk5 : ∀ k, k ≠ gb → W5.heap[k]? = W.heap[k]? := fun k hk => by rw [hW5]; exact heap_setCell_other _ _ _ _ (by show k ≠ gb; exact hk)
    have hs5 : W5.heap.size = W.heap.size := by rw [hW5]; simp
    have hF5 := hF.of_three (hk5 gf (Ne.symm d1)) (hk5 gN (Ne.symm d2)) (hk5 gM d4)
    have hb5 : row? W5 gb = some #[.pointer (some ⟨gf, 0, none⟩)] := by rw [hW5, row?_setCell_same, q8]; rfl
    have ht5 := (row?_congr (hk5 w.heap.size (by omega))).trans hS.1
    have hB5 : Below w.heap.size w W5 := by rw [hW5]; exact hS.2.setCell (Nat.le_of_lt z4) _
    have hR5 : Rd bagA 17 W5.heap.size W5 (.slice (some ⟨gT, 0, none⟩) T.length cT) T := by
      obtain ⟨a', c', h1, h2⟩ := hR
      refine ⟨a', c', h1, h2.imp id ?_⟩
      rintro ⟨b', o', h3, h4, h5⟩
      refine ⟨b', o', h3, by omega, fun i x hx j u hu => ?_⟩
      have hne : b' ≠ gb := fun e => by
        subst e
        have h6 := h5 0 T[0] (by rw [List.getElem?_eq_getElem]) 1 (.int .u64 (wd (T[0]).2 0 : Int)) (by rw [bagA_succ]; exact words_get _ (by omega))
        have h7 := h5 0 T[0] (by rw [List.getElem?_eq_getElem]) 0 (.int .i64 (T[0]).1) (bagA_zero _)
        rw [cell?_row q8] at h6 h7
        have := (Array.getElem?_eq_some_iff.1 h6).1
        simp at this
      rw [World.cell?_of_block (hk5 b' hne)]
      exact h5 i x hx j u hu
    have x3 : W.cell? ⟨w.heap.size, 0, none⟩ = _ := cell?_row (i := 0) hS.1
    simp at x3
    have d7 : ¬ w.heap.size = gb := by omega
    go_wp2_with fail
    rw [← hW5]
    have HF5 := Lib.hid hF5
    have Hb5 := Lib.hid hb5
    have Ht5 := Lib.hid ht5
    have HB5 := Lib.hid hB5
    have HR5 := Lib.hid hR5
    clear hW5 hk5 hF5 hb5 ht5 hB5 hR5 x1 x2 x3 hF hR q8 hS hmapM hP q1 q4 q5 e0 e1 e2 e3 e4 e5 e6 e7 e8 hRt
    refine (tChildren_any T t HVal.out (.slice a T.length c) W5 ((HV.out.below HB5.out (Nat.le_refl _)).mono HB5.out.size)).mono ?_
    rintro e w6 ⟨g, vs, rfl, hg6, hvs, hG, hb6⟩
    have hF6 := HF5.out.of_same hb6.block
    have HF6 := Lib.hid hF6
    have HG := Lib.hid hG
    have HB6 := Lib.hid hb6
    have hgN5 := row?_lt HF5.out.nodes
    have hgb5 := row?_lt Hb5.out
    have hgf5 := row?_lt HF5.out.frame
    have hgM5 := HF5.out.gM_lt
    clear hF6 hG hb6
    go_wp2_with fail
    go_loopw [31] (fun i wr => ∃ k : Nat, k ≤ T.length ∧ i = .int .i64 k ∧ FSt gf gT cT gN gM T.length (kidN vs k) 0 wr ∧ Same (fun k => k ≠ gN) w6 wr) (fun i _ => T.length - (intOf i).toNat)
    case atStart => exact ⟨0, by omega, rfl, by rw [kidN_zero]; exact HF6.out, Same.refl _ _⟩
    case round =>
      obtain ⟨k, hk, rfl, hFr, hsr⟩ := hrel
      have HFr := Lib.hid hFr
      have Hsr := Lib.hid hsr
      by_cases hlt : k < T.length
      · obtain ⟨u, hu⟩ : ∃ u, vs[k]? = some u := ⟨_, List.getElem?_eq_getElem (by omega)⟩
        obtain ⟨qu, nu, cu, rfl⟩ := (HG.out.own k u hu).slice
        have y1 : wr.cell? ⟨g, k, none⟩ = some (.slice qu nu cu) := (World.cell?_of_block (hsr.block g (row?_lt HG.out.row) (by omega))).trans ((cell?_row HG.out.row).trans (by rw [List.getElem?_toArray]; exact hu))
        have y2 : wr.cell? ⟨gb, 0, none⟩ = some (.pointer (some ⟨gf, 0, none⟩)) := (cell?_row (i := 0) ((row?_congr (hsr.block gb (by have := HB6.out.size; omega) d2)).trans ((row?_congr (HB6.out.block gb hgb5)).trans Hb5.out)))
        have y3 : wr.cell? ⟨gf, 1, none⟩ = _ := cell?_row (i := 1) hFr.frame
        have y4 : wr.cell? ⟨gN, k * 5, none⟩ = _ := cell?_row (i := k * 5) hFr.nodes
        rw [show k * 5 = k * 5 + 0 by omega, nodeC_get _ (by omega) (by omega)] at y4
        have y5 := frozen?_row (i := k * 5) hFr.nodes
        simp [Nd.cells] at y3 y4
        have HU := Lib.hid hu
        clear hFr hsr hu
        go_wp2
        go_roundw
        case rel =>
          refine ⟨k + 1, by omega, by go_num, ?_, Hsr.out.trans (Same.setCell _ _ _ _ (by simp))⟩
          have h := HFr.out.put k 0 (.slice qu nu cu) { kidN vs k k with kids := .slice qu nu cu } hlt (by omega) rfl ⟨d3, Ne.symm d5⟩
          rw [kidN_succ HU.out] at h
          exact h
        case measure => simp [intOf]; omega
      · have hk' : k = T.length := by omega
        subst hk'
        clear hFr hsr
        go_wp2_with fail
        have hgbr : row? wr gb = some #[.pointer (some ⟨gf, 0, none⟩)] := (row?_congr (Hsr.out.block gb (by have := HB6.out.size; omega) d2)).trans ((row?_congr (HB6.out.block gb hgb5)).trans Hb5.out)
        have hgt5 := row?_lt Ht5.out
        have hgtr : row? wr w.heap.size = some #[.slice a T.length c] := (row?_congr (Hsr.out.block w.heap.size (by have := HB6.out.size; omega) (by omega))).trans ((row?_congr (HB6.out.block w.heap.size hgt5)).trans Ht5.out)
        have hBr : Below w.heap.size w wr := (HB5.out.trans (HB6.out.mono HB5.out.size)).trans (Hsr.out.below (by have := HB6.out.size; omega) fun k hk => by omega)
        refine wp_region_mix (fun W => row? W gb = some #[.pointer (some ⟨gf, 0, none⟩)] ∧ row? W w.heap.size = some #[.slice a T.length c]) 5 [(0, true), (1, true), (3, true), (4, true), (2, false)] (by kernel_rfl) (by kernel_rfl) ⟨hgbr, hgtr⟩ ?_
        repeat (apply wpPlan_still rfl rfl; (intro w hw; (have k1 := (cell?_row (i := 0) hw.1)); (have k2 := (cell?_row (i := 0) hw.2)); simp at k1 k2; clear hw; go_simp; (try go_ints); (first | with_reducible rfl | (go_simp; with_reducible rfl))); (intro K hK; go_simp; (try go_ints); refine hK _ _ ?_; clear hK K))
        apply wpPlan_act rfl rfl
        intro K hK
        unfold Oper.wp
        go_simp
        refine (tRoot_any T t HVal.out (.slice a T.length c) wr.drew ((HV.out.below hBr.drew (Nat.le_refl _)).mono hBr.size)).mono ?_
        rintro e w7 ⟨rfl, hb7⟩
        have hb7' : Below wr.heap.size wr w7 := ((Below.refl wr.heap.size wr).drew).trans hb7
        have hgb7 : row? w7 gb = _ := (row?_below hb7 (row?_lt hgbr)).trans hgbr
        have hgt7 : row? w7 w.heap.size = _ := (row?_below hb7 (row?_lt hgtr)).trans hgtr
        refine hK _ _ ⟨hgb7, hgt7⟩ ?_
        clear hK K
        refine wpPlan_nil ?_
        simp only [List.drop_succ_cons, List.drop_zero]
        have hF7 := HFr.out.of_same (w' := w7) hb7.block
        have hB7 : Below w.heap.size w w7 := hBr.trans (hb7'.mono hBr.size)
        have hs7 : Same (fun k => k ≠ gN) w6 w7 := Hsr.out.trans ((Same.of_below hb7').mono fun k hk _ => hk)
        have HF7 := Lib.hid hF7
        have HB7 := Lib.hid hB7
        have Hs7 := Lib.hid hs7
        clear hF7 hB7 hs7 hgbr hgtr hBr hb7 hb7'
        go_wp2_with fail
        have hdown := down_any gf gT cT gN gM T.length w.heap.size gb W5.heap.size T t HVal.out rfl (.slice a T.length c) ⟨hg, z1, z2, d3, d6, Ne.symm d5, Ne.symm d2, d4⟩ ⟨hgN5, hgM5⟩ t 0 (kidN vs T.length) 0 w7 (by have := HB6.out.size; have := Hs7.out.size; omega) hnd HVal.out.fits HF7.out hgt7 hgb7
          (HV.out.below HB7.out (Nat.le_refl _)) (HTab.out.same (HB7.out.block _ hg))
          (fun cc hcc => by
            have hcl := HVal.out.fits.labs_lt cc hcc
            obtain ⟨u, hu⟩ : ∃ u, vs[cc]? = some u := ⟨_, List.getElem?_eq_getElem (by omega)⟩
            have ho := HG.out.own cc u hu
            have : (kidN vs T.length cc).kids = u := by simp [kidN, hcl, List.getD, hu]
            rw [this]
            exact (ho.same fun k hk => Hs7.out.block k (ho.lt k hk) (by have := ho.block k hk; omega)).mono (by omega))
          (fun x hx => .inl ⟨by
            have hmem : (t.lab : Int) ∈ rootsTo T T.length := by rw [HVal.out.root]; simp
            obtain ⟨cc, h1, y, h2, h3⟩ := rootsTo_mem hmem
            have : cc = t.lab := by omega
            subst this
            rw [hx] at h2
            cases h2
            exact h3, rfl, by simp [kidN, nd0]; split <;> rfl⟩)
          (by have := HVal.out.all; omega) (by have := HVal.out.all; omega)
        refine hdown.mono ?_
        rintro e w8 ⟨⟨v8, rfl⟩, N8, hF8, hN8, hD8, hs8⟩
        have y6 : w8.cell? ⟨gb, 0, none⟩ = some (.pointer (some ⟨gf, 0, none⟩)) := (cell?_row (i := 0) ((row?_congr (hs8.block gb (row?_lt hgb7) ⟨d2, Ne.symm d4⟩)).trans hgb7))
        have HF8 := Lib.hid hF8
        have HD8 := Lib.hid hD8
        have Hs8 := Lib.hid hs8
        clear hdown hF8 hN8 hD8 hs8
        go_wp2
        go_ret2
        refine ⟨gf, rfl, ⟨gT, cT, gN, gM, N8, _, HF8.out, ?_, HD8.out.base (Nat.zero_le _)⟩, HB7.out.trans (Hs8.out.below (by have := HB7.out.size; omega) fun k hk => ⟨by omega, by omega⟩)⟩
        obtain ⟨a', c', h1, h2⟩ := HR5.out
        refine ⟨a', c', h1, h2.imp id ?_⟩
        rintro ⟨b', o', h3, h4, h5⟩
        have hbT : b' = gT := by
          rw [h3] at h1
          simp only [Value.slice.injEq, Option.some.injEq, Addr.mk.injEq] at h1
          exact h1.1.1.symm
        subst hbT
        have hblk : w8.heap[b']? = W5.heap[b']? := (Hs8.out.block b' (by have := HB6.out.size; have := Hs7.out.size; omega) ⟨d8, d9⟩).trans ((Hs7.out.block b' (by have := HB6.out.size; omega) d8).trans (HB6.out.block b' h4))
        exact ⟨b', o', h3, by have := HB6.out.size; have := Hs7.out.size; have := Hs8.out.size; omega, fun i x hx j u hu => (World.cell?_of_block hblk).trans (h5 i x hx j u hu)⟩
end Go.Proofs.YtoboncfgogjllaaGreatDoor
