/-
  Walks of package treedecomp: below (the children of each bag).
-/
import Derived.Test.YtpflnkedolmamaaGreatDoorQTre2
import Derived.Test.YtpflnkedolmamaaGreatDoorQRule
namespace Go.Proofs.YtpflnkedolmamaaGreatDoor
open Go Go.RowKit Go.Pal

/-- A row of rows of the call's own: block B holds the slice values vs, each a row of integers in a block of its own beyond B. -/
structure Grid (B : Nat) (w : World) (vs : List Value) (f : Nat → List Int) : Prop where
  row : row? w B = some vs.toArray
  own : ∀ (b : Nat) v, vs[b]? = some v → OwnI (B + 1) w v (f b)
  apart : ∀ (b b' : Nat) v v' g, b ≠ b' → vs[b]? = some v → vs[b']? = some v' → v.ownBlock = some g → v'.ownBlock ≠ some g

theorem infoInts : (Tryz.prog.info? 39).map (fun i => (i.zero, i.size, i.bytes)) = some (some (.slice none 0 0), 1, 24) := by kernel_rfl

theorem OwnI.grown {B : Nat} {w w' : World} {v u : Value} {ns : List Int} (h : OwnI B w v ns) (hg : ∀ i, i < w.heap.size → some i ≠ u.ownBlock → w'.heap[i]? = w.heap[i]?) (hne : ∀ g, v.ownBlock = some g → u.ownBlock ≠ some g) : OwnI B w' v ns := by
  obtain ⟨h1, h2⟩ := h
  refine ⟨h1, h2.imp id ?_⟩
  rintro ⟨g, cap, cur, rfl, hb, hh, r⟩
  exact ⟨g, cap, cur, rfl, hb, by rw [hg g (Array.getElem?_eq_some_iff.1 hh).1 (fun e => hne g rfl e.symm)]; exact hh, r⟩
theorem OwnI.same {B : Nat} {w w' : World} {v : Value} {ns : List Int} (h : OwnI B w v ns) (hb : ∀ g, v.ownBlock = some g → w'.heap[g]? = w.heap[g]?) : OwnI B w' v ns := by
  obtain ⟨h1, h2⟩ := h
  refine ⟨h1, h2.imp id ?_⟩
  rintro ⟨g, cap, cur, rfl, hb', hh, r⟩
  exact ⟨g, cap, cur, rfl, hb', (hb g rfl).trans hh, r⟩
theorem OwnI.lt {B : Nat} {w : World} {v : Value} {ns : List Int} (h : OwnI B w v ns) : ∀ k, v.ownBlock = some k → k < w.heap.size := by
  intro k hk
  rcases h.2 with ⟨rfl, _⟩ | ⟨g, cap, cur, rfl, _, hh, _⟩
  · cases hk
  · simp only [Value.ownBlock, Option.some.injEq] at hk
    subst hk
    exact (Array.getElem?_eq_some_iff.1 hh).1
theorem OwnI.slice {B : Nat} {w : World} {v : Value} {ns : List Int} (h : OwnI B w v ns) : ∃ q n c, v = .slice q n c := by
  rcases h.2 with ⟨rfl, _⟩ | ⟨g, cap, cur, rfl, _⟩ <;> exact ⟨_, _, _, rfl⟩
theorem OwnI.len {B : Nat} {w : World} {q : Option Addr} {n c : Nat} {ns : List Int} (h : OwnI B w (.slice q n c) ns) : n = ns.length := by
  rcases h.2 with ⟨h1, h2⟩ | ⟨g, cap, cur, h1, _⟩
  · cases h1; exact h2.symm
  · cases h1; rfl
theorem OwnI.cell {B : Nat} {w : World} {q : Option Addr} {n c : Nat} {ns : List Int} {j : Nat} {z : Int} (h : OwnI B w (.slice q n c) ns) (hz : ns[j]? = some z) :
    ∃ g, q = some ⟨g, 0, none⟩ ∧ B ≤ g ∧ g < w.heap.size ∧ w.cell? ⟨g, j, none⟩ = some (.int .i64 z) := by
  have hj : j < ns.length := (List.getElem?_eq_some_iff.1 hz).1
  rcases h.2 with ⟨h1, h2⟩ | ⟨g, cap, cur, h1, hb, hh, _, _, _, ht⟩
  · omega
  · cases h1
    refine ⟨g, rfl, hb, (Array.getElem?_eq_some_iff.1 hh).1, ?_⟩
    rw [cell_of_row w g j cur _ (0, 0) hh]
    have : (cur.toList.take (ns.length * 1))[j]? = some (.int .i64 z) := by rw [ht, List.getElem?_map, hz]; rfl
    rw [List.getElem?_take, if_pos (by omega)] at this
    simpa using this
theorem Grid.same {B : Nat} {w w' : World} {vs : List Value} {f : Nat → List Int} (h : Grid B w vs f) (hb : ∀ k, B ≤ k → k < w.heap.size → w'.heap[k]? = w.heap[k]?) : Grid B w' vs f :=
  ⟨(row?_congr (hb B (Nat.le_refl _) (row?_lt h.row))).trans h.row, fun b v hv => (h.own b v hv).same fun g hg => hb g (by have := (h.own b v hv).block g hg; omega) ((h.own b v hv).lt g hg), h.apart⟩
set_option maxRecDepth 10000 in
set_option maxHeartbeats 1000000 in
theorem below_any (T : List Bg) (v : Value) (w : World) (hv : Rd bagA 17 w.heap.size w v T) (hlen : T.length ≤ 65536) (hpar : ∀ (i : Nat) x, T[i]? = some x → x.1 = -1 ∨ ∃ p : Nat, x.1 = p ∧ p < T.length) :
    Calls Tryz.prog 86 #[v] w fun e w' => ∃ vs, e = .returned (.slice (some ⟨w.heap.size, 0, none⟩) T.length T.length) ∧ vs.length = T.length ∧ Grid w.heap.size w' vs (kidsTo T T.length) ∧ Below w.heap.size w w' := by
  have HP := Lib.hid hpar; clear hpar
  obtain ⟨a, c, rfl, hr⟩ := hv
  have HR := Lib.hid hr; clear hr
  have hmk := run_make1 Tryz.underlying66 infoInts rfl T.length (by omega) (by omega)
  go_enter Tryz.func86, Tryz.ntmps86
  go_wp2
  clear hmk
  go_loopw [11] (fun i wr => ∃ (k : Nat) (vs : List Value), k ≤ T.length ∧ i = .int .i64 k ∧ vs.length = T.length ∧ Grid w.heap.size wr vs (kidsTo T k) ∧ Below w.heap.size w wr) (fun i _ => T.length - (intOf i).toNat)
  case atStart =>
    refine ⟨0, List.replicate T.length (.slice none 0 0), by omega, rfl, by simp, ⟨by simp [go_sem], ?_, ?_⟩, ?_⟩
    · intro b v hv
      rw [List.getElem?_replicate] at hv
      split at hv
      · simp at hv; subst hv; exact OwnI.nil _ _
      · cases hv
    · intro b b' v v' g _ hv hv' hg
      rw [List.getElem?_replicate] at hv
      split at hv
      · simp at hv; subst hv; cases hg
      · cases hv
    (repeat' (first | (with_reducible exact Below.refl _ _) | (with_reducible assumption) | (with_reducible refine Below.alloc ?_ ?_ _) | (with_reducible refine Below.drew ?_) | (with_reducible refine Below.setCell ?_ ?_ _) | (with_reducible refine below_setRow ?_ ?_ _) | (with_reducible exact Nat.le_refl _) | omega | (simp; done) | (simp; omega) | (simp at *; omega)))
  case round =>
    obtain ⟨k, vs, hk, rfl, hvs, hG, hb⟩ := hrel
    have HG := Lib.hid hG; clear hG
    have HB := Lib.hid hb; clear hb
    by_cases hlt : k < T.length
    · obtain ⟨x, hx⟩ : ∃ x, T[k]? = some x := ⟨_, List.getElem?_eq_getElem hlt⟩
      have HX := Lib.hid hx
      rcases HR.out with h | ⟨b, off, rfl, hbB, hc⟩
      · rw [h] at hlt; simp at hlt
      obtain ⟨hl, -, -⟩ := tree_load hc HB.out hbB hx
      have HC := Lib.hid hc
      have hs := kidsTo_succ hx
      have HS := Lib.hid hs; clear hs
      have hsz := HB.out.size
      have HV := Lib.hid hvs
      clear hx hc hvs
      rcases HP.out k x HX.out with hp | ⟨p, hp, hpl⟩
      · have hp1 : (x.1 != -1) = false := by simp [hp]
        have HP1 := Lib.hid hp; clear hp
        go_wp2
        go_roundw
        case rel =>
          refine ⟨k + 1, vs, by omega, by go_num, HV.out, ⟨?_, ?_, HG.out.apart⟩, HB.out.alloc hsz _⟩
          · rw [row?_alloc_past _ _ _ (row?_lt HG.out.row)]; exact HG.out.row
          · intro b v hv
            rw [HS.out b, if_neg (by rw [HP1.out]; omega), List.append_nil]
            exact (HG.out.own b v hv).alloc _
        case measure => simp [intOf]; omega
      · have hp1 : (x.1 != -1) = true := by rw [hp]; simp
        obtain ⟨q, S⟩ := x
        simp only at hp hp1
        subst hp
        go_wp2_with fail
        have hrow := HG.out.row
        have hBl := row?_lt hrow
        obtain ⟨u, hu⟩ : ∃ u, vs[p]? = some u := ⟨_, List.getElem?_eq_getElem (by rw [HV.out]; exact hpl)⟩
        have HU := Lib.hid hu
        have HRow := Lib.hid hrow
        clear hu hrow
        obtain ⟨W, hW⟩ : ∃ W, W = wr.alloc (Obj.cells (bagA ((p : Int), S)) 35) := ⟨_, rfl⟩
        have hWs : W.heap.size = wr.heap.size + 1 := by rw [hW]; simp
        have hWb : row? W wr.heap.size = some (bagA ((p : Int), S)) := by rw [hW]; exact row?_alloc_at _ _ _ _ rfl
        have hWr : row? W w.heap.size = some vs.toArray := by rw [hW, row?_alloc_past _ _ _ hBl]; exact HRow.out
        rw [← hW]
        refine wp_region_mix (fun w' => row? w' w.heap.size = some vs.toArray ∧ row? w' wr.heap.size = some (bagA ((p : Int), S))) 11 [(0, true), (1, true), (2, true), (3, true), (4, true), (5, true), (6, true), (7, true), (8, true), (9, false), (10, false)] (by kernel_rfl) (by kernel_rfl) ⟨hWr, hWb⟩ ?_
        repeat (apply wpPlan_still rfl rfl; (intro w hw; (have c1 := (cell?_row (i := p) hw.1).trans (show vs.toArray[p]? = some u by rw [List.getElem?_toArray]; exact HU.out)); (have c2 := (cell?_row (i := 0) hw.2).trans (bagA_zero _)); clear hw; go_simp; (try go_ints); (first | with_reducible rfl | (go_simp; with_reducible rfl))); (intro K hK; go_simp; (try go_ints); refine hK _ _ ?_; clear hK K))
        apply wpPlan_act rfl rfl
        intro K hK
        unfold Oper.wp
        go_simp
        refine hK _ _ ⟨by simp [go_sem, HRow.out, hBl], by simp [go_sem]⟩ ?_
        clear hK K
        apply wpPlan_act rfl rfl
        intro K hK
        refine wp_appI _ _ rfl (w.heap.size + 1) u (kidsTo T k p) rfl ((((HG.out.own p u HU.out).alloc _).alloc _).drew) (wr.heap.size + 1) k 1 rfl (by simp [go_sem]) (by have := kidsTo_le T k p; omega) (by simp; omega) ?_
        intro v1 w1 hO1 hb1 hg1 hl1
        have hu := HG.out.own p u HU.out
        have hw1 : row? w1 w.heap.size = some vs.toArray := (row?_below hb1 (by omega)).trans (by simp [go_sem, HRow.out, hBl])
        have hw2 : row? w1 wr.heap.size = some (bagA ((p : Int), S)) := (row?_congr (hg1.block wr.heap.size (by simp; omega) (fun e => by have := hu.lt _ e.symm; omega))).trans (by simp [go_sem])
        have hg2 : ∀ i, i < wr.heap.size → some i ≠ u.ownBlock → w1.heap[i]? = wr.heap[i]? := fun i hi hne => by
          rw [hg1.block i (by simp; omega) hne]
          exact (Below.heap_alloc _ _ i (by simp; omega)).trans (Below.heap_alloc _ _ i hi)
        have hcp : w1.cell? ⟨w.heap.size, p, none⟩ = some u := (cell?_row hw1).trans (show vs.toArray[p]? = some u by rw [List.getElem?_toArray]; exact HU.out)
        have hfp := frozen?_row (i := p) hw1
        have HO1 := Lib.hid hO1
        have HG1 := Lib.hid hg2
        have HL1 := Lib.hid hl1
        have hB1 : Below w.heap.size w w1 := ((((HB.out.alloc hsz _).alloc (by simp; omega) _)).drew).trans (hb1.mono (by omega))
        have HB1 := Lib.hid hB1
        refine hK _ _ ⟨hw1, hw2⟩ ?_
        clear hK K hB1 hg2 hg1 hb1 hO1 hl1
        refine wpPlan_nil ?_
        simp only [List.drop_succ_cons, List.drop_zero]
        obtain ⟨q1, n1, c1, rfl⟩ := HO1.out.slice
        go_wp2
        go_roundw
        case rel =>
          refine ⟨k + 1, vs.set p (.slice q1 n1 c1), by omega, by go_num, by rw [List.length_set]; exact HV.out, ⟨?_, ?_, ?_⟩, HB1.out.setCell (Nat.le_refl _) _⟩
          · simp [go_sem, hw1]
          · intro b' v hv
            rw [HS.out b']
            by_cases hbp : p = b'
            · subst hbp
              rw [List.getElem?_set_self (by rw [HV.out]; exact hpl)] at hv
              cases hv
              rw [if_pos rfl]
              exact HO1.out.same fun g hg => by rw [heap_setCell_other _ _ _ _ (fun e => by have := HO1.out.block g hg; simp at e; omega)]
            · rw [List.getElem?_set_ne hbp] at hv
              rw [if_neg (by omega), List.append_nil]
              exact ((HG.out.own b' v hv).grown HG1.out fun g hg => HG.out.apart b' p v u g (Ne.symm hbp) hv HU.out hg).same fun g hg => by rw [heap_setCell_other _ _ _ _ (fun e => by have := (HG.out.own b' v hv).block g hg; simp at e; omega)]
          · intro b1 b2 v v' g hne hv hv' hg hg'
            rw [List.getElem?_set] at hv hv'
            have hnew : ∀ b3 v3, b3 ≠ p → vs[b3]? = some v3 → v3.ownBlock = some g → (Value.slice q1 n1 c1).ownBlock ≠ some g := fun b3 v3 h3 hv3 hg3 e => by
              rcases HL1.out with h | h
              · exact HG.out.apart b3 p v3 u g h3 hv3 HU.out hg3 (h ▸ e)
              · rw [e] at h
                have := (HG.out.own b3 v3 hv3).lt g hg3
                simp at h
                omega
            split at hv <;> split at hv'
            · omega
            · split at hv <;> cases hv
              exact hnew b2 v' (by omega) hv' hg' hg
            · split at hv' <;> cases hv'
              exact hnew b1 v (by omega) hv hg hg'
            · exact HG.out.apart b1 b2 v v' g hne hv hv' hg hg'
        case measure => simp [intOf]; omega
    · have hk' : k = T.length := by omega
      subst hk'
      go_wp2
      go_ret
      exact ⟨vs, rfl, hvs, HG.out, HB.out⟩
end Go.Proofs.YtpflnkedolmamaaGreatDoor
