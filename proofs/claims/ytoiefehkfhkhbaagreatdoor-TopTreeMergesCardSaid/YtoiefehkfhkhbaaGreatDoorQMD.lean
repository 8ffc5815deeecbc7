/-
  Walks of the reference of merges: Step.
-/
import Derived.Test.YtoiefehkfhkhbaaGreatDoorQMC
import Derived.Test.YtoiefehkfhkhbaaGreatDoorQRefE
namespace Go.Proofs.YtoiefehkfhkhbaaGreatDoor
open Go Go.RowKit Go.Pal

@[go_sem ↓ high] theorem loadRS (a : Addr) : loadVar 43 a = loadLater 43 a := rfl
@[go_sem ↓ high] theorem storeRS (a : Addr) (v : Value) : storeVar 43 a v = storeLater 43 a v := rfl
@[go_sem] theorem loadRS_run (w : World) (a : Addr) : (loadLater 43 a).run Tryz.prog w = rowLoad Tryz.prog 43 a w := rfl
@[go_sem] theorem storeRS_run (w : World) (a : Addr) (v : Value) : (storeLater 43 a v).run Tryz.prog w = rowStore Tryz.prog 43 a v w := rfl
@[go_sem] theorem loadRS_at (w : World) (g : Nat) : rowLoad Tryz.prog 43 ⟨g, 0, none⟩ w = match row? w g with
      | some c => if c.size = 4 then .ok (.agg c) w else laterLoad Tryz.prog 43 ⟨g, 0, none⟩ w
      | none => laterLoad Tryz.prog 43 ⟨g, 0, none⟩ w := load_row Tryz.isAgg43 Tryz.sizeOf43 w g
@[go_sem] theorem storeRS_at (w : World) (g : Nat) (d : Array Value) : rowStore Tryz.prog 43 ⟨g, 0, none⟩ (.agg d) w = match row? w g with
      | some c => if c.size = 4 ∧ d.size = 4 ∧ allOne d = true then .ok () (w.setRow g d) else laterStore Tryz.prog 43 ⟨g, 0, none⟩ (.agg d) w
      | none => laterStore Tryz.prog 43 ⟨g, 0, none⟩ (.agg d) w := store_row Tryz.sizeOf43 w g d
@[go_sem ↓ high] theorem zeroRS (w : World) : (zeroValue 43).run Tryz.prog w = .ok (.agg #[.slice none 0 0, .slice none 0 0, .slice none 0 0, .slice none 0 0]) w := by rw [Tryz.zeroValue43]
@[go_sem] theorem allOne_4 (a b c d : Option Addr) (n1 n2 n3 n4 c1 c2 c3 c4 : Nat) : allOne #[.slice a n1 c1, .slice b n2 c2, .slice c n3 c3, .slice d n4 c4] = true := by unfold allOne; simp [Value.oneCell']

set_option maxRecDepth 10000 in
set_option maxHeartbeats 2000000 in
theorem rstep_any (fl : List TNd) (v : Value) (w : World) (hv : RefN w v fl) (i p : Nat) (rest : List Nat) (x y : TNd) (hx : fl[i]? = some x) (hk : x.kids = p :: rest) (hy : fl[p]? = some y) (B : Nat)
    (hrest : (rest = [] ∧ B = 0) ∨ ∃ q z, rest = [q] ∧ fl[q]? = some z ∧ B = z.bnd) :
    Calls Tryz.prog 8 #[v, .int .i64 (i : Int)] w fun e w' => ∃ v1 v2 v3 v4, e = .returned (.agg #[v1, v2, v3, v4]) ∧ RdL w' v1 ((elemsI y.bnd).map (plI (elemsI (y.bnd ||| B)))) ∧ RdL w' v2 ((elemsI B).map (plI (elemsI (y.bnd ||| B)))) ∧
      RdL w' v3 (negsTo ((elemsI (y.bnd ||| B)).map (plI (elemsI x.bnd))) (elemsI (y.bnd ||| B)).length) ∧ RdL w' v4 ((elemsI (y.bnd ||| B)).map (plI (elemsI x.bnd))) ∧ Below w.heap.size w w' := by
  have hil := (List.getElem?_eq_some_iff.1 hx).1
  have hpl := (List.getElem?_eq_some_iff.1 hy).1
  obtain ⟨g, c, x', qx, cx, qx', cx', rfl, hx', hcx⟩ := hv.at hil
  rw [hx] at hx'
  cases hx'
  obtain ⟨g2, c2, y', qy, cy, qy', cy', hv2, hy', hcy⟩ := hv.at hpl
  rw [hy] at hy'
  cases hy'
  simp only [Value.slice.injEq, Option.some.injEq, Addr.mk.injEq] at hv2
  obtain ⟨⟨rfl, -, -⟩, -, rfl⟩ := hv2
  have hkl : x.kids.length = 1 + rest.length := by rw [hk]; simp; omega
  obtain ⟨-, -, -, -, hkr, -⟩ := hcx w (Below.refl _ _)
  obtain ⟨kb, koff, rfl, hkc⟩ : ∃ kb koff, qx = some ⟨kb, koff, none⟩ ∧ ∀ w', Below w.heap.size w w' → ∀ (j : Nat) (m : Nat), x.kids[j]? = some m → w'.cell? ⟨kb, koff + j, none⟩ = some (.int .i64 (m : Int)) := by
    obtain ⟨a, c0, h1, h2⟩ := hkr
    simp only [Value.slice.injEq] at h1
    obtain ⟨rfl, -, rfl⟩ := h1
    rcases h2 with h2 | ⟨kb, koff, rfl, hlt, h2⟩
    · simp [hk] at h2
    · exact ⟨kb, koff, rfl, fun w' hb j m hj => (hb.cell (p := ⟨kb, koff + j, none⟩) hlt).trans (h2 j _ (by rw [List.getElem?_map, hj]; rfl))⟩
  have HCX := Lib.hid hcx
  have HCY := Lib.hid hcy
  have HKC := Lib.hid hkc
  have HV := Lib.hid hv
  have HK := Lib.hid hk
  have hb1 : ∀ o, Below w.heap.size w (w.alloc o) := fun o => (Below.refl _ _).alloc (Nat.le_refl _) _
  have hb2 : ∀ o o', Below w.heap.size w ((w.alloc o).alloc o') := fun o o' => (hb1 o).alloc (by simp) _
  have k1 := fun o => (hcx _ (hb1 o)).1
  have k2 := fun o => (hcx _ (hb1 o)).2.1
  have k3 := fun o => (hcx _ (hb1 o)).2.2.1
  have k4 := fun o => (hcx _ (hb1 o)).2.2.2.1
  have k5 := fun o o' => hkc _ (hb2 o o') 0 p (by rw [hk]; rfl)
  have k6 := fun o o' => (hcy _ (hb2 o o')).2.2.2.1
  simp only [Nat.add_zero] at k5
  rw [hkl] at k3
  clear hcx hcy hkc hv hk hx hy hkr hb1 hb2
  rcases hrest with ⟨rfl, hB⟩ | ⟨q, z, rfl, hz, rfl⟩
  · have HBZ := Lib.hid hB
    clear hB
    simp only [List.length_nil, Nat.add_zero] at *
    go_enter Tryz.func8, Tryz.ntmps8
    go_wp2_with fail
    obtain ⟨W, hW⟩ : ∃ W, W = ((w.alloc (Obj.cells #[Value.slice none 0 0, Value.slice none 0 0, Value.slice none 0 0, Value.slice none 0 0] 43)).alloc (Obj.cells #[.int .i64 (x.kind : Int), .int .i64 (x.bag : Int), .slice (some ⟨kb, koff, none⟩) 1 cx, .slice qx' (elemsI x.bnd).length cx'] 41)).alloc (Obj.cells #[] 3) := ⟨_, rfl⟩
    rw [← hW]
    have hbW : Below w.heap.size w W := by rw [hW]; exact (((Below.refl _ w).alloc (Nat.le_refl _) _).alloc (by simp) _).alloc (by simp; omega) _
    have hsW : W.heap.size = w.heap.size + 3 := by rw [hW]; simp
    have hr4 : row? W w.heap.size = some #[Value.slice none 0 0, Value.slice none 0 0, Value.slice none 0 0, Value.slice none 0 0] := by rw [hW]; exact (row?_alloc_past _ _ _ (by simp; omega)).trans ((row?_alloc_past _ _ _ (by simp)).trans (row?_alloc_at _ _ _ _ rfl))
    have hc5 : row? W (w.heap.size + 1) = some #[.int .i64 (x.kind : Int), .int .i64 (x.bag : Int), .slice (some ⟨kb, koff, none⟩) 1 cx, .slice qx' (elemsI x.bnd).length cx'] := by rw [hW]; exact (row?_alloc_past _ _ _ (by simp)).trans (row?_alloc_at _ _ _ _ (by simp))
    obtain ⟨vb, hvbd⟩ : ∃ vb, vb = Value.slice (some ⟨w.heap.size + 1 + 1, 0, none⟩) 0 0 := ⟨_, rfl⟩
    rw [← hvbd]
    have hvb : RdS W vb B := by
      rw [HBZ.out, hvbd]
      exact ⟨⟨_, 0, by rw [elemsI_zero]; rfl, .inl elemsI_zero⟩, isSet_zero⟩
    obtain ⟨ab, cb, rfl⟩ := RdL.sl hvb.1
    obtain ⟨-, -, -, -, -, hva⟩ := HCY.out W hbW
    obtain ⟨-, -, -, -, -, hvx⟩ := HCX.out W hbW
    clear k1 k2 k3 k4 k5 k6 hW HKC hvbd
    refine (ror_any (fun _ => True) y.bnd B _ _ W (fun _ _ => trivial) hva.1.top hva.2 hvb).mono ?_
    rintro e w1 ⟨vu, rfl, hvu, hbu⟩
    replace hvu := hvu.rdl
    replace hva := hva.below hbu
    replace hvb := hvb.below hbu
    replace hvx := hvx.below hbu
    replace hr4 := (row?_below hbu (by omega)).trans hr4
    replace hc5 := (row?_below hbu (by omega)).trans hc5
    have hb1 := hbW.trans (hbu.mono (by omega))
    have hsw1 : w.heap.size + 3 ≤ w1.heap.size := by have := hbu.size; omega
    clear hbu hbW hsW
    have hs1 := hb1.size
    have HB1 := Lib.hid hb1
    have HVU := Lib.hid hvu
    have HVAL := Lib.hid hva.1
    have HVBL := Lib.hid hvb.1
    have HVX := Lib.hid hvx
    have HR4 := Lib.hid hr4
    have HC5 := Lib.hid hc5
    obtain ⟨au, cu, rfl⟩ := hvu.sl
    clear hvu hva hvb hvx hr4 hc5 hb1
    go_wp2_with fail
    obtain ⟨W0, hW0⟩ : ∃ W0, W0 = w1.alloc (Obj.cells #[Value.slice none 0 0, Value.slice none 0 0, Value.slice none 0 0, Value.slice none 0 0] 43) := ⟨_, rfl⟩
    have hB0 : Below w1.heap.size w1 W0 := by rw [hW0]; exact (Below.refl _ w1).alloc (Nat.le_refl _) _
    have hr9 : row? W0 w1.heap.size = some #[Value.slice none 0 0, Value.slice none 0 0, Value.slice none 0 0, Value.slice none 0 0] := by rw [hW0]; exact row?_alloc_at _ _ _ _ rfl
    have hsW0 : W0.heap.size = w1.heap.size + 1 := by rw [hW0]; simp
    rw [← hW0]
    have HB0 := Lib.hid hB0
    have HR9 := Lib.hid hr9
    clear hW0 hB0 hr9
    go_loopw [10] (fun s wr => ∃ k : Nat, k ≤ (elemsI y.bnd).length ∧ s = .int .i64 (k : Int) ∧ ∃ u, row? wr w1.heap.size = some #[u, Value.slice none 0 0, Value.slice none 0 0, Value.slice none 0 0] ∧ OwnI W0.heap.size wr u (((elemsI y.bnd).take k).map (plI (elemsI (y.bnd ||| B)))) ∧ Same (fun k => k < W0.heap.size ∧ k ≠ w1.heap.size) W0 wr) (fun s _ => (elemsI y.bnd).length - (intOf s).toNat)
    case atStart => exact ⟨0, by omega, rfl, _, HR9.out, OwnI.nil _ _, Same.refl _ _⟩
    case round =>
      obtain ⟨k, hk, rfl, u, hr, hO, hS⟩ := hrel
      have hsz := hS.size
      have hB1 : Below w1.heap.size w1 wr := HB0.out.trans (hS.below (by omega) fun k hk => by omega)
      have hL := elemsI_length (y.bnd)
      have hU := elemsI_length (y.bnd ||| B)
      have hle : (((elemsI y.bnd).take k).map (plI (elemsI (y.bnd ||| B)))).length ≤ 1024 := by simp; omega
      obtain ⟨acc, hacc⟩ : ∃ acc, acc = ((elemsI y.bnd).take k).map (plI (elemsI (y.bnd ||| B))) := ⟨_, rfl⟩
      rw [← hacc] at hO hle
      have HO := Lib.hid hO
      have HS := Lib.hid hS
      obtain ⟨qu, cqu, rfl⟩ := hO.sl
      have HR := Lib.hid hr
      have hown := hO.block
      have HB1r := Lib.hid hB1
      by_cases hlt : k < (elemsI y.bnd).length
      · have k9 := cell?_row (i := 0) hr
        simp at k9
        obtain ⟨bl, offl, cl, e, h1, hz, hcc⟩ := (HVAL).out.at hlt
        simp only [Value.slice.injEq] at h1
        obtain ⟨rfl, -, rfl⟩ := h1
        have hst : ((elemsI y.bnd).take (k + 1)).map (plI (elemsI (y.bnd ||| B))) = acc ++ [plI (elemsI (y.bnd ||| B)) e] := by
          rw [List.take_add_one, hz, hacc]; simp
        have HST := Lib.hid hst
        have hbl := RdL.lt (HVAL).out (by omega)
        have hce := hcc wr hB1
        have HAE := Lib.hid fun o => hcc (wr.drew.alloc o) (hB1.drew.alloc (by simp; omega) o)
        have HA9 := Lib.hid fun o => (((Below.refl _ wr).drew.alloc (Nat.le_refl _) o).cell (p := ⟨w1.heap.size, 0, none⟩) (by show w1.heap.size < wr.heap.size; omega)).trans k9
        have HPl := Lib.hid (rplace_any _ _ e wr.drew (HVU.out.below (hB1.drew)) (by omega))
        clear hr hO hS hst hz hcc hacc
        go_wp2_with fail
        refine wp_region_mix (fun W => W.cell? ⟨w1.heap.size, 0, none⟩ = some (.slice qu acc.length cqu) ∧ W.cell? ⟨bl, offl + k, none⟩ = some (.int .i64 e)) 10 [(0, true), (1, true), (2, true), (3, true), (4, true), (5, true), (6, true), (7, false), (8, false), (9, false)] (by kernel_rfl) (by kernel_rfl) ⟨k9, hce⟩ ?_
        repeat (apply wpPlan_still rfl rfl; (intro w hw; obtain ⟨k91, hce1⟩ := hw; go_simp; (try go_ints); (first | with_reducible rfl | (go_simp; with_reducible rfl))); (intro K hK; go_simp; (try go_ints); refine hK _ _ ?_; clear hK K))
        apply wpPlan_act rfl rfl
        intro K hK
        unfold Oper.wp
        go_simp
        refine HPl.out.mono ?_
        rintro e1 w2 ⟨rfl, rfl⟩
        refine hK _ _ ⟨k9, hce⟩ ?_
        clear hK K
        apply wpPlan_act rfl rfl
        intro K hK
        unfold Oper.wp
        go_simp
        refine hK _ _ ⟨HA9.out _, HAE.out _⟩ ?_
        clear hK K
        apply wpPlan_act rfl rfl
        intro K hK
        refine wp_appT2 34 undI _ _ rfl W0.heap.size _ acc rfl (HO.out.below (C := wr.heap.size) ((Below.refl _ wr).drew.alloc (Nat.le_refl _) _) (Nat.le_refl _)) _ (plI (elemsI (y.bnd ||| B)) e) _ rfl (by simp [go_sem]) (by omega) (by simp; omega) ?_
        intro v2 w2 hO2 hb2 hg2 hl2
        have hne9 : some w1.heap.size ≠ (Value.slice qu acc.length cqu).ownBlock := fun e => by have := hown _ e.symm; omega
        have hr2 : row? w2 w1.heap.size = some #[.slice qu acc.length cqu, .slice none 0 0, .slice none 0 0, .slice none 0 0] := (row?_congr ((hg2.block w1.heap.size (by simp; omega) hne9).trans (Below.heap_alloc _ _ _ (by show w1.heap.size < wr.heap.size; omega)))).trans HR.out
        have hs2 : wr.heap.size ≤ w2.heap.size := by have := hb2.size; simp at this; omega
        refine hK _ _ ⟨(cell?_row (i := 0) hr2).trans rfl, (hb2.cell (p := ⟨bl, offl + k, none⟩) (by show bl < W0.heap.size; omega)).trans (HAE.out _)⟩ ?_
        clear hK K
        have hk2 : ∀ j, j < W0.heap.size → w2.heap[j]? = wr.heap[j]? := fun j hj => (hb2.block j hj).trans (Below.heap_alloc _ _ _ (by show j < wr.heap.size; omega))
        have hfz2 := frozen?_row (i := 0) hr2
        have hlt2 := row?_lt hr2
        have k92 := (cell?_row (i := 0) hr2)
        simp at k92
        have HS2 := Lib.hid (HS.out.trans ⟨hb2.os, hb2.tape, hb2.output, hs2, fun k hk h => hk2 k h.1⟩)
        obtain ⟨q2, c2, rfl⟩ := hO2.sl
        rw [List.length_append] at hO2 ⊢
        have HO2 := Lib.hid hO2
        have HR2 := Lib.hid hr2
        clear hO2 hb2 hg2 hl2 hr2 hk2 hne9 k9 hce HA9 HAE HPl
        refine wpPlan_nil ?_
        simp only [List.drop_succ_cons, List.drop_zero]
        go_wp2_with fail
        go_roundw
        case rel =>
          refine ⟨k + 1, by omega, by go_num, _, by rw [row?_setCell_same, HR2.out]; rfl, ?_, ?_⟩
          · rw [HST.out]
            exact HO2.out.same fun j hj => heap_setCell_other _ _ j _ (by have := HO2.out.block j hj; show j ≠ w1.heap.size; omega)
          · exact HS2.out.trans (Same.setCell _ _ _ _ (by show ¬ (w1.heap.size < W0.heap.size ∧ w1.heap.size ≠ w1.heap.size); omega))
        case measure => simp [intOf]; omega
      · have HAC := Lib.hid hacc
        have HKE := Lib.hid (show k = (elemsI y.bnd).length by omega)
        clear hr hO hS hacc hB1
        go_wp2_with fail
        obtain ⟨W2, rfl⟩ : ∃ W2, W2 = wr := ⟨wr, rfl⟩
        have hs2w : w1.heap.size + 1 ≤ W2.heap.size := by omega
        have hv1 : RdA (fun k => w1.heap.size < k) W2 (.slice qu acc.length cqu) ((elemsI y.bnd).map (plI (elemsI (y.bnd ||| B)))) := by
          have := HO.out.rda.mono (A' := fun k => w1.heap.size < k) fun k hk => by omega
          rw [HAC.out, HKE.out, List.take_length] at this
          rw [HAC.out, HKE.out, List.take_length]
          exact this
        obtain ⟨v1, hv1d⟩ : ∃ v1, v1 = Value.slice qu acc.length cqu := ⟨_, rfl⟩
        rw [← hv1d] at hv1 HR
        have HO1 := Lib.hid hv1
        have HR1 := Lib.hid HR.out
        have HB2 := Lib.hid HB1r.out
        clear HO HAC HKE hle hown hk hlt hL hU hv1 hv1d HR HS HB1r hsz
        go_loopw [11] (fun s wr => ∃ k : Nat, k ≤ (elemsI B).length ∧ s = .int .i64 (k : Int) ∧ ∃ u, row? wr w1.heap.size = some #[v1, u, Value.slice none 0 0, Value.slice none 0 0] ∧ OwnI W2.heap.size wr u (((elemsI B).take k).map (plI (elemsI (y.bnd ||| B)))) ∧ Same (fun k => k < W2.heap.size ∧ k ≠ w1.heap.size) W2 wr) (fun s _ => (elemsI B).length - (intOf s).toNat)
        case atStart => exact ⟨0, by omega, rfl, _, HR1.out, OwnI.nil _ _, Same.refl _ _⟩
        case round =>
          obtain ⟨k, hk, rfl, u, hr, hO, hS⟩ := hrel
          have hsz := hS.size
          have hB1 : Below w1.heap.size w1 wr := HB2.out.trans (hS.below (by omega) fun k hk => by omega)
          have hL := elemsI_length (B)
          have hU := elemsI_length (y.bnd ||| B)
          have hle : (((elemsI (B)).take k).map (plI (elemsI (y.bnd ||| B)))).length ≤ 1024 := by simp; omega
          obtain ⟨acc, hacc⟩ : ∃ acc, acc = ((elemsI (B)).take k).map (plI (elemsI (y.bnd ||| B))) := ⟨_, rfl⟩
          rw [← hacc] at hO hle
          have HO := Lib.hid hO
          have HS := Lib.hid hS
          obtain ⟨qu, cqu, rfl⟩ := hO.sl
          have HR := Lib.hid hr
          have hown := hO.block
          have HB1r := Lib.hid hB1
          by_cases hlt : k < (elemsI (B)).length
          · have k9 := cell?_row (i := 1) hr
            simp at k9
            obtain ⟨bl, offl, cl, e, h1, hz, hcc⟩ := (HVBL).out.at hlt
            simp only [Value.slice.injEq] at h1
            obtain ⟨rfl, -, rfl⟩ := h1
            have hst : ((elemsI (B)).take (k + 1)).map (plI (elemsI (y.bnd ||| B))) = acc ++ [plI (elemsI (y.bnd ||| B)) e] := by
              rw [List.take_add_one, hz, hacc]; simp
            have HST := Lib.hid hst
            have hbl := RdL.lt (HVBL).out (by omega)
            have hce := hcc wr hB1
            have HAE := Lib.hid fun o => hcc (wr.drew.alloc o) (hB1.drew.alloc (by simp; omega) o)
            have HA9 := Lib.hid fun o => (((Below.refl _ wr).drew.alloc (Nat.le_refl _) o).cell (p := ⟨w1.heap.size, 1, none⟩) (by show w1.heap.size < wr.heap.size; omega)).trans k9
            have HPl := Lib.hid (rplace_any _ _ e wr.drew (HVU.out.below (hB1.drew)) (by omega))
            clear hr hO hS hst hz hcc hacc
            go_wp2_with fail
            refine wp_region_mix (fun W => W.cell? ⟨w1.heap.size, 1, none⟩ = some (.slice qu acc.length cqu) ∧ W.cell? ⟨bl, offl + k, none⟩ = some (.int .i64 e)) 10 [(0, true), (1, true), (2, true), (3, true), (4, true), (5, true), (6, true), (7, false), (8, false), (9, false)] (by kernel_rfl) (by kernel_rfl) ⟨k9, hce⟩ ?_
            repeat (apply wpPlan_still rfl rfl; (intro w hw; obtain ⟨k91, hce1⟩ := hw; go_simp; (try go_ints); (first | with_reducible rfl | (go_simp; with_reducible rfl))); (intro K hK; go_simp; (try go_ints); refine hK _ _ ?_; clear hK K))
            apply wpPlan_act rfl rfl
            intro K hK
            unfold Oper.wp
            go_simp
            refine HPl.out.mono ?_
            rintro e1 w2 ⟨rfl, rfl⟩
            refine hK _ _ ⟨k9, hce⟩ ?_
            clear hK K
            apply wpPlan_act rfl rfl
            intro K hK
            unfold Oper.wp
            go_simp
            refine hK _ _ ⟨HA9.out _, HAE.out _⟩ ?_
            clear hK K
            apply wpPlan_act rfl rfl
            intro K hK
            refine wp_appT2 34 undI _ _ rfl W2.heap.size _ acc rfl (HO.out.below (C := wr.heap.size) ((Below.refl _ wr).drew.alloc (Nat.le_refl _) _) (Nat.le_refl _)) _ (plI (elemsI (y.bnd ||| B)) e) _ rfl (by simp [go_sem]) (by omega) (by simp; omega) ?_
            intro v2 w2 hO2 hb2 hg2 hl2
            have hne9 : some w1.heap.size ≠ (Value.slice qu acc.length cqu).ownBlock := fun e => by have := hown _ e.symm; omega
            have hr2 : row? w2 w1.heap.size = some #[v1, .slice qu acc.length cqu, .slice none 0 0, .slice none 0 0] := (row?_congr ((hg2.block w1.heap.size (by simp; omega) hne9).trans (Below.heap_alloc _ _ _ (by show w1.heap.size < wr.heap.size; omega)))).trans HR.out
            have hs2 : wr.heap.size ≤ w2.heap.size := by have := hb2.size; simp at this; omega
            refine hK _ _ ⟨(cell?_row (i := 1) hr2).trans rfl, (hb2.cell (p := ⟨bl, offl + k, none⟩) (by show bl < W2.heap.size; omega)).trans (HAE.out _)⟩ ?_
            clear hK K
            have hk2 : ∀ j, j < W2.heap.size → w2.heap[j]? = wr.heap[j]? := fun j hj => (hb2.block j hj).trans (Below.heap_alloc _ _ _ (by show j < wr.heap.size; omega))
            have hfz2 := frozen?_row (i := 1) hr2
            have hlt2 := row?_lt hr2
            have k92 := (cell?_row (i := 1) hr2)
            simp at k92
            have HS2 := Lib.hid (HS.out.trans ⟨hb2.os, hb2.tape, hb2.output, hs2, fun k hk h => hk2 k h.1⟩)
            obtain ⟨q2, c2, rfl⟩ := hO2.sl
            rw [List.length_append] at hO2 ⊢
            have HO2 := Lib.hid hO2
            have HR2 := Lib.hid hr2
            clear hO2 hb2 hg2 hl2 hr2 hk2 hne9 k9 hce HA9 HAE HPl
            refine wpPlan_nil ?_
            simp only [List.drop_succ_cons, List.drop_zero]
            go_wp2_with fail
            go_roundw
            case rel =>
              refine ⟨k + 1, by omega, by go_num, _, by rw [row?_setCell_same, HR2.out]; rfl, ?_, ?_⟩
              · rw [HST.out]
                exact HO2.out.same fun j hj => heap_setCell_other _ _ j _ (by have := HO2.out.block j hj; show j ≠ w1.heap.size; omega)
              · exact HS2.out.trans (Same.setCell _ _ _ _ (by show ¬ (w1.heap.size < W2.heap.size ∧ w1.heap.size ≠ w1.heap.size); omega))
            case measure => simp [intOf]; omega
          · have HAC := Lib.hid hacc
            have HKE := Lib.hid (show k = (elemsI B).length by omega)
            clear hr hO hS hacc hB1
            go_wp2_with fail
            obtain ⟨W3, rfl⟩ : ∃ W3, W3 = wr := ⟨wr, rfl⟩
            have hs3w : w1.heap.size + 1 ≤ W3.heap.size := by omega
            have hv2 : RdA (fun k => w1.heap.size < k) W3 (.slice qu acc.length cqu) ((elemsI B).map (plI (elemsI (y.bnd ||| B)))) := by
              have := HO.out.rda.mono (A' := fun k => w1.heap.size < k) fun k hk => by omega
              rw [HAC.out, HKE.out, List.take_length] at this
              rw [HAC.out, HKE.out, List.take_length]
              exact this
            have hv1 : RdA (fun k => w1.heap.size < k) W3 v1 ((elemsI y.bnd).map (plI (elemsI (y.bnd ||| B)))) := HO1.out.keep HS.out.size fun k hk hA => ⟨HS.out.block k hk ⟨hk, by omega⟩, hA⟩
            obtain ⟨v2, hv2d⟩ : ∃ v2, v2 = Value.slice qu acc.length cqu := ⟨_, rfl⟩
            rw [← hv2d] at hv2 HR
            have HO1' := Lib.hid hv1
            have HO2' := Lib.hid hv2
            have HR3 := Lib.hid HR.out
            have HB3 := Lib.hid HB1r.out
            obtain ⟨LU, hLU⟩ : ∃ LU, LU = elemsI (y.bnd ||| B) := ⟨_, rfl⟩
            have hU : LU.length ≤ 1024 := by rw [hLU]; exact elemsI_length _
            have hX := elemsI_length x.bnd
            rw [← hLU] at HVU ⊢
            have HLU := Lib.hid hLU
            clear HO HAC HKE hle hown hk hlt hL hv1 hv2 hv2d HR HS HB1r hsz HO1 HR1 hLU
            go_loopw [12] (fun s wr => ∃ k : Nat, k ≤ LU.length ∧ s = .int .i64 (k : Int) ∧ ∃ u f, row? wr w1.heap.size = some #[v1, v2, f, u] ∧ OwnI W3.heap.size wr u ((LU.take k).map (plI (elemsI x.bnd))) ∧ OwnI W3.heap.size wr f (negsTo (LU.map (plI (elemsI x.bnd))) k) ∧ (∀ g, u.ownBlock = some g → f.ownBlock ≠ some g) ∧ Same (fun k => k < W3.heap.size ∧ k ≠ w1.heap.size) W3 wr) (fun s _ => LU.length - (intOf s).toNat)
            case atStart => exact ⟨0, by omega, rfl, _, _, HR3.out, OwnI.nil _ _, OwnI.nil _ _, (fun g h => by cases h), Same.refl _ _⟩
            case round =>
              obtain ⟨k, hk, rfl, u, f, hr, hO, hF, hsep, hS⟩ := hrel
              have hsz := hS.size
              have hB1 : Below w1.heap.size w1 wr := HB3.out.trans (hS.below (by omega) fun k hk => by omega)
              have hle : ((LU.take k).map (plI (elemsI x.bnd))).length ≤ 1024 := by simp; omega
              have hlf := negsTo_length (LU.map (plI (elemsI x.bnd))) k
              obtain ⟨acc, hacc⟩ : ∃ acc, acc = (LU.take k).map (plI (elemsI x.bnd)) := ⟨_, rfl⟩
              obtain ⟨ng, hng⟩ : ∃ ng, ng = negsTo (LU.map (plI (elemsI x.bnd))) k := ⟨_, rfl⟩
              rw [← hacc] at hO hle
              rw [← hng] at hF hlf
              have HO := Lib.hid hO
              have HF := Lib.hid hF
              have HS := Lib.hid hS
              have HSep := Lib.hid hsep
              obtain ⟨qu, cqu, rfl⟩ := hO.sl
              obtain ⟨qf, cqf, rfl⟩ := hF.sl
              have HR := Lib.hid hr
              have hown := hO.block
              have hownf := hF.block
              have hltu := hO.lt
              have hltf := hF.lt
              by_cases hlt : k < LU.length
              · obtain ⟨bl, offl, cl, e, h1, hz, hcc⟩ := HVU.out.at hlt
                simp only [Value.slice.injEq] at h1
                obtain ⟨rfl, -, rfl⟩ := h1
                have hst : (LU.take (k + 1)).map (plI (elemsI x.bnd)) = acc ++ [plI (elemsI x.bnd) e] := by
                  rw [List.take_add_one, hz, hacc]; simp
                have hgd : (LU.map (plI (elemsI x.bnd))).getD k 0 = plI (elemsI x.bnd) e := by
                  rw [List.getD_eq_getElem?_getD, List.getElem?_map, hz]; rfl
                have hnst := negsTo_succ (LU.map (plI (elemsI x.bnd))) k
                rw [hgd, ← hng] at hnst
                have HST := Lib.hid hst
                have HNST := Lib.hid hnst
                have hce := hcc wr hB1
                have k5 := (cell?_row (i := 3) ((row?_below hB1 (by omega)).trans HC5.out))
                simp at k5
                have HPl := Lib.hid (rplace_any _ _ e wr.drew (HVX.out.1.below hB1.drew) (by omega))
                obtain ⟨pe, hpe⟩ : ∃ pe, pe = plI (elemsI x.bnd) e := ⟨_, rfl⟩
                rw [← hpe] at HST HNST HPl
                clear hr hO hS hst hz hcc hacc hF hng hsep hgd hnst hpe
                go_wp2_with fail
                refine wp_region_free_tail (fun w' => w' = wr.drew) 7 (by kernel_rfl) (by kernel_rfl) rfl ?_
                simp only [List.take_succ_cons, List.take_zero, List.drop_succ_cons, List.drop_zero]
                repeat (apply wpFree_still; (intro w hw; subst hw; go_simp; (try go_ints); (first | with_reducible rfl | (go_simp; with_reducible rfl))); with_reducible rfl; (intro K hK; go_simp; (try go_ints); refine hK _ ?_; clear hK K))
                apply wpFree_call
                · intro w hw; go_simp; first | with_reducible rfl | with_reducible exact ⟨rfl, rfl⟩
                · with_reducible rfl
                · intro w hw; subst hw; exact HPl.out
                intro K hK; go_simp; (try go_ints); refine hK _ ?_; clear hK K
                with_reducible refine wpFree_nil ?_
                rintro w' rfl
                have k9 := cell?_row (i := 3) HR.out
                simp at k9
                go_wp2_with (at_builtin; refine wpList_appT2 rfl 34 undI _ _ rfl W3.heap.size _ acc rfl (HO.out.below (C := wr.heap.size) ((Below.refl _ wr).drew.alloc (Nat.le_refl _) _) (Nat.le_refl _)) _ pe _ rfl (by simp [go_sem]) (by omega) (by simp; omega) ?_)
                intro v2' w2 hO2 hb2 hg2 hl2
                have hne9 : some w1.heap.size ≠ (Value.slice qu acc.length cqu).ownBlock := fun e => by have := hown _ e.symm; omega
                have hr2 : row? w2 w1.heap.size = some #[v1, v2, .slice qf ng.length cqf, .slice qu acc.length cqu] := (row?_congr ((hg2.block w1.heap.size (by simp; omega) hne9).trans (Below.heap_alloc _ _ _ (by show w1.heap.size < wr.heap.size; omega)))).trans HR.out
                have hs2 : wr.heap.size ≤ w2.heap.size := by have := hb2.size; simp at this; omega
                have hk2 : ∀ j, j < W3.heap.size → w2.heap[j]? = wr.heap[j]? := fun j hj => (hb2.block j hj).trans (Below.heap_alloc _ _ _ (by show j < wr.heap.size; omega))
                have hF2 : OwnI W3.heap.size w2 (.slice qf ng.length cqf) ng := HF.out.same fun j hj => (hg2.block j (by simp; have := hltf j hj; omega) (fun e => HSep.out j e.symm hj)).trans (Below.heap_alloc _ _ _ (hltf j hj))
                have hsep2 : ∀ j, v2'.ownBlock = some j → (Value.slice qf ng.length cqf).ownBlock ≠ some j := fun j hj hj2 => by
                  rcases hl2 with e | e
                  · exact HSep.out j (e ▸ hj) hj2
                  · rw [e] at hj
                    have := hltf j hj2
                    simp at hj
                    omega
                have hfz2 := frozen?_row (i := 3) hr2
                have hlt2 := row?_lt hr2
                have k92 := (cell?_row (i := 3) hr2)
                simp at k92
                have hS2 := HS.out.trans ⟨hb2.os, hb2.tape, hb2.output, hs2, fun k hk h => hk2 k h.1⟩
                obtain ⟨q2, c2, rfl⟩ := hO2.sl
                rw [List.length_append] at hO2 hsep2 ⊢
                obtain ⟨W4, hW4⟩ : ∃ W4, W4 = w2.setCell ⟨w1.heap.size, 3, none⟩ (.slice q2 (acc.length + 1) c2) := ⟨_, rfl⟩
                have hk4 : ∀ j, j ≠ w1.heap.size → W4.heap[j]? = w2.heap[j]? := fun j hj => by rw [hW4]; exact heap_setCell_other _ _ j _ hj
                have hr4 : row? W4 w1.heap.size = some #[v1, v2, .slice qf ng.length cqf, .slice q2 (acc.length + 1) c2] := by rw [hW4, row?_setCell_same, hr2]; rfl
                have hO4 : OwnI W3.heap.size W4 (.slice q2 (acc.length + 1) c2) (acc ++ [pe]) := hO2.same fun j hj => hk4 j (by have := hO2.block j hj; omega)
                have hF4 : OwnI W3.heap.size W4 (.slice qf ng.length cqf) ng := hF2.same fun j hj => hk4 j (by have := hF2.block j hj; omega)
                have hS4 : Same (fun k => k < W3.heap.size ∧ k ≠ w1.heap.size) W3 W4 := by rw [hW4]; exact hS2.trans (Same.setCell _ _ _ _ (by show ¬ (w1.heap.size < W3.heap.size ∧ w1.heap.size ≠ w1.heap.size); omega))
                have hs4 : W4.heap.size = w2.heap.size := by rw [hW4]; simp
                have k24 := cell?_row (i := 2) hr4
                simp at k24
                have hfz4 := frozen?_row (i := 2) hr4
                have HO4 := Lib.hid hO4
                have HF4 := Lib.hid hF4
                have HS4 := Lib.hid hS4
                have HR4' := Lib.hid hr4
                have HSep4 := Lib.hid hsep2
                clear hO2 hb2 hg2 hl2 hr2 hk2 hne9 k9 hF2 hS2 hk4 hr4 hO4 hF4 hS4 HPl hce HO HF HS HR HSep hown hownf hltu hltf hsep2
                by_cases hpl0 : pe < 0
                · rw [if_pos hpl0] at HNST
                  have HW4 := Lib.hid hW4
                  rw [hW4] at k24 hfz4
                  clear hW4
                  go_wp2_with (at_builtin; rw [← HW4.out]; refine wpList_appT2 rfl 34 undI _ _ rfl W3.heap.size _ ng rfl (HF4.out.below (C := W4.heap.size) ((Below.refl _ W4).alloc (Nat.le_refl _) _) (Nat.le_refl _)) _ (k : Int) _ rfl (by simp [go_sem, hs4]) (by omega) (by simp; omega) ?_)
                  intro v5 w5 hO5 hb5 hg5 hl5
                  have hne9 : some w1.heap.size ≠ (Value.slice qf ng.length cqf).ownBlock := fun e => by have := HF4.out.block _ e.symm; omega
                  have hr5 : row? w5 w1.heap.size = some #[v1, v2, .slice qf ng.length cqf, .slice q2 (acc.length + 1) c2] := (row?_congr ((hg5.block w1.heap.size (by simp; omega) hne9).trans (Below.heap_alloc _ _ _ (by omega)))).trans HR4'.out
                  have hs5 : W4.heap.size ≤ w5.heap.size := by have := hb5.size; simp at this; omega
                  have hk5 : ∀ j, j < W3.heap.size → w5.heap[j]? = W4.heap[j]? := fun j hj => (hb5.block j hj).trans (Below.heap_alloc _ _ _ (by omega))
                  have hO5' : OwnI W3.heap.size w5 (.slice q2 (acc.length + 1) c2) (acc ++ [pe]) := HO4.out.same fun j hj => (hg5.block j (by simp; have := HO4.out.lt j hj; omega) (fun e => HSep4.out j hj e.symm)).trans (Below.heap_alloc _ _ _ (HO4.out.lt j hj))
                  have hsep5 : ∀ j, (Value.slice q2 (acc.length + 1) c2).ownBlock = some j → v5.ownBlock ≠ some j := fun j hj hj2 => by
                    rcases hl5 with e | e
                    · exact HSep4.out j hj (e ▸ hj2)
                    · rw [e] at hj2
                      have := HO4.out.lt j hj
                      simp at hj2
                      omega
                  have hfz5 := frozen?_row (i := 2) hr5
                  have hlt5 := row?_lt hr5
                  have k95 := (cell?_row (i := 2) hr5)
                  simp at k95
                  have HS5 := Lib.hid (HS4.out.trans ⟨hb5.os, hb5.tape, hb5.output, hs5, fun k hk h => hk5 k h.1⟩)
                  obtain ⟨q5, c5, rfl⟩ := hO5.sl
                  rw [List.length_append] at hO5 hsep5 ⊢
                  have HO5 := Lib.hid hO5'
                  have HF5 := Lib.hid hO5
                  have HR5 := Lib.hid hr5
                  have HSep5 := Lib.hid hsep5
                  clear hO5 hb5 hg5 hl5 hr5 hk5 hne9 hO5' hsep5 HO4 HF4 HSep4 HS4 HR4' HW4 k24 hfz4 k92 hfz2
                  go_wp2_with fail
                  go_roundw
                  case rel =>
                    refine ⟨k + 1, by omega, by go_num, _, _, by rw [row?_setCell_same, HR5.out]; rfl, ?_, ?_, HSep5.out, ?_⟩
                    · rw [HST.out]
                      exact HO5.out.same fun j hj => heap_setCell_other _ _ j _ (by have := HO5.out.block j hj; show j ≠ w1.heap.size; omega)
                    · rw [HNST.out]
                      exact HF5.out.same fun j hj => heap_setCell_other _ _ j _ (by have := HF5.out.block j hj; show j ≠ w1.heap.size; omega)
                    · exact HS5.out.trans (Same.setCell _ _ _ _ (by show ¬ (w1.heap.size < W3.heap.size ∧ w1.heap.size ≠ w1.heap.size); omega))
                  case measure => simp [intOf]; omega
                · rw [if_neg hpl0, List.append_nil] at HNST
                  have HW4 := Lib.hid hW4
                  clear hW4 k24 hfz4
                  go_wp2_with fail
                  rw [← HW4.out]
                  go_roundw
                  case rel =>
                    refine ⟨k + 1, by omega, by go_num, _, _, HR4'.out, ?_, ?_, HSep4.out, HS4.out⟩
                    · rw [HST.out]
                      exact HO4.out
                    · rw [HNST.out]
                      exact HF4.out
                  case measure => simp [intOf]; omega
              · have HAC := Lib.hid hacc
                have HNG := Lib.hid hng
                have HKE := Lib.hid (show k = LU.length by omega)
                have hr4 := (row?_congr (hS.block _ (show w.heap.size < W3.heap.size by omega) ⟨by omega, by omega⟩)).trans ((row?_below HB3.out (by omega)).trans HR4.out)
                have hv1 : RdA (fun k => k ≠ w.heap.size) wr v1 ((elemsI y.bnd).map (plI LU)) := by
                  have := HO1'.out.keep (A' := fun k => k ≠ w.heap.size) hS.size fun k hk hA => ⟨hS.block k hk ⟨hk, by omega⟩, by omega⟩
                  rwa [← HLU.out] at this
                have hv2 : RdA (fun k => k ≠ w.heap.size) wr v2 ((elemsI B).map (plI LU)) := by
                  have := HO2'.out.keep (A' := fun k => k ≠ w.heap.size) hS.size fun k hk hA => ⟨hS.block k hk ⟨hk, by omega⟩, by omega⟩
                  rwa [← HLU.out] at this
                have hu4 : RdA (fun k => k ≠ w.heap.size) wr (.slice qu acc.length cqu) ((LU).map (plI (elemsI x.bnd))) := by
                  have := HO.out.rda.mono (A' := fun k => k ≠ w.heap.size) fun k hk => by omega
                  rw [HAC.out, HKE.out, List.take_length] at this
                  rw [HAC.out, HKE.out, List.take_length]
                  exact this
                have hf4 : RdA (fun k => k ≠ w.heap.size) wr (.slice qf ng.length cqf) (negsTo (LU.map (plI (elemsI x.bnd))) LU.length) := by
                  have := HF.out.rda.mono (A' := fun k => k ≠ w.heap.size) fun k hk => by omega
                  rw [HNG.out, HKE.out] at this
                  rw [HNG.out, HKE.out]
                  exact this
                obtain ⟨a1, c1, rfl⟩ := hv1.sl
                obtain ⟨a2, c2', rfl⟩ := hv2.sl
                have HV1 := Lib.hid hv1
                have HV2 := Lib.hid hv2
                have HU4 := Lib.hid hu4
                have HF4 := Lib.hid hf4
                have HBW := Lib.hid (HB1.out.trans (hB1.mono (by omega)))
                have hsw4 : w.heap.size + 3 ≤ wr.heap.size := by omega
                clear hv1 hv2 hu4 hf4 HO HF HO1' HO2' HSep HVU HVAL HVBL HVX HAC HNG HKE hacc hng hO hF hsep hS HS hB1 hown hownf hltu hltf HC5
                go_wp2_with fail
                refine ret_row w.heap.size #[.slice a1 _ c1, .slice a2 _ c2', .slice qf ng.length cqf, .slice qu acc.length cqu] rfl Tryz.isAgg43 Tryz.sizeOf43 rfl rfl (row?_setRow_same _ _ _ (by rw [hr4]; rfl)) rfl ?_
                refine ⟨_, _, _, _, rfl, ?_, ?_, ?_, ?_, below_setRow HBW.out (Nat.le_refl _) _⟩
                all_goals rw [← HLU.out]
                · have := HV1.out
                  rw [List.length_map] at this
                  exact ((this.keep (A' := fun _ => True) (by simp) fun k hk hA => ⟨setRow_other _ _ _ _ hA, trivial⟩)).rdl
                · have := HV2.out
                  rw [List.length_map] at this
                  exact ((this.keep (A' := fun _ => True) (by simp) fun k hk hA => ⟨setRow_other _ _ _ _ hA, trivial⟩)).rdl
                · exact ((HF4.out.keep (A' := fun _ => True) (by simp) fun k hk hA => ⟨setRow_other _ _ _ _ hA, trivial⟩)).rdl
                · exact ((HU4.out.keep (A' := fun _ => True) (by simp) fun k hk hA => ⟨setRow_other _ _ _ _ hA, trivial⟩)).rdl
  · have hql := (List.getElem?_eq_some_iff.1 hz).1
    have k7 := fun o o' o'' => HKC.out ((((w.alloc o).alloc o').alloc o'')) ((((Below.refl _ w).alloc (Nat.le_refl _) _).alloc (by simp) _).alloc (by simp; omega) _) 1 q (by rw [HK.out]; rfl)
    obtain ⟨g3, c3, z', qz, cz, qz', cz', hv3, hz', hcz⟩ := HV.out.at hql
    rw [hz] at hz'
    cases hz'
    simp only [Value.slice.injEq, Option.some.injEq, Addr.mk.injEq] at hv3
    obtain ⟨⟨rfl, -, -⟩, -, rfl⟩ := hv3
    have k8 := fun o o' o'' => (hcz ((((w.alloc o).alloc o').alloc o'')) ((((Below.refl _ w).alloc (Nat.le_refl _) _).alloc (by simp) _).alloc (by simp; omega) _)).2.2.2.1
    have HCZ := Lib.hid hcz
    clear hz hcz
    simp only [List.length_cons, List.length_nil] at *
    go_enter Tryz.func8, Tryz.ntmps8
    go_wp2_with fail
    obtain ⟨W, hW⟩ : ∃ W, W = ((w.alloc (Obj.cells #[Value.slice none 0 0, Value.slice none 0 0, Value.slice none 0 0, Value.slice none 0 0] 43)).alloc (Obj.cells #[.int .i64 (x.kind : Int), .int .i64 (x.bag : Int), .slice (some ⟨kb, koff, none⟩) 2 cx, .slice qx' (elemsI x.bnd).length cx'] 41)).alloc (Obj.cells #[] 3) := ⟨_, rfl⟩
    rw [← hW]
    have hbW : Below w.heap.size w W := by rw [hW]; exact (((Below.refl _ w).alloc (Nat.le_refl _) _).alloc (by simp) _).alloc (by simp; omega) _
    have hsW : W.heap.size = w.heap.size + 3 := by rw [hW]; simp
    have hr4 : row? W w.heap.size = some #[Value.slice none 0 0, Value.slice none 0 0, Value.slice none 0 0, Value.slice none 0 0] := by rw [hW]; exact (row?_alloc_past _ _ _ (by simp; omega)).trans ((row?_alloc_past _ _ _ (by simp)).trans (row?_alloc_at _ _ _ _ rfl))
    have hc5 : row? W (w.heap.size + 1) = some #[.int .i64 (x.kind : Int), .int .i64 (x.bag : Int), .slice (some ⟨kb, koff, none⟩) 2 cx, .slice qx' (elemsI x.bnd).length cx'] := by rw [hW]; exact (row?_alloc_past _ _ _ (by simp)).trans (row?_alloc_at _ _ _ _ (by simp))
    obtain ⟨-, -, -, -, -, hvb⟩ := HCZ.out W hbW
    obtain ⟨-, -, -, -, -, hva⟩ := HCY.out W hbW
    obtain ⟨-, -, -, -, -, hvx⟩ := HCX.out W hbW
    clear k1 k2 k3 k4 k5 k6 k7 k8 hW HKC
    refine (ror_any (fun _ => True) y.bnd z.bnd _ _ W (fun _ _ => trivial) hva.1.top hva.2 hvb).mono ?_
    rintro e w1 ⟨vu, rfl, hvu, hbu⟩
    replace hvu := hvu.rdl
    replace hva := hva.below hbu
    replace hvb := hvb.below hbu
    replace hvx := hvx.below hbu
    replace hr4 := (row?_below hbu (by omega)).trans hr4
    replace hc5 := (row?_below hbu (by omega)).trans hc5
    have hb1 := hbW.trans (hbu.mono (by omega))
    have hsw1 : w.heap.size + 3 ≤ w1.heap.size := by have := hbu.size; omega
    clear hbu hbW hsW
    have hs1 := hb1.size
    have HB1 := Lib.hid hb1
    have HVU := Lib.hid hvu
    have HVAL := Lib.hid hva.1
    have HVBL := Lib.hid hvb.1
    have HVX := Lib.hid hvx
    have HR4 := Lib.hid hr4
    have HC5 := Lib.hid hc5
    obtain ⟨au, cu, rfl⟩ := hvu.sl
    clear hvu hva hvb hvx hr4 hc5 hb1
    go_wp2_with fail
    obtain ⟨W0, hW0⟩ : ∃ W0, W0 = w1.alloc (Obj.cells #[Value.slice none 0 0, Value.slice none 0 0, Value.slice none 0 0, Value.slice none 0 0] 43) := ⟨_, rfl⟩
    have hB0 : Below w1.heap.size w1 W0 := by rw [hW0]; exact (Below.refl _ w1).alloc (Nat.le_refl _) _
    have hr9 : row? W0 w1.heap.size = some #[Value.slice none 0 0, Value.slice none 0 0, Value.slice none 0 0, Value.slice none 0 0] := by rw [hW0]; exact row?_alloc_at _ _ _ _ rfl
    have hsW0 : W0.heap.size = w1.heap.size + 1 := by rw [hW0]; simp
    rw [← hW0]
    have HB0 := Lib.hid hB0
    have HR9 := Lib.hid hr9
    clear hW0 hB0 hr9
    go_loopw [10] (fun s wr => ∃ k : Nat, k ≤ (elemsI y.bnd).length ∧ s = .int .i64 (k : Int) ∧ ∃ u, row? wr w1.heap.size = some #[u, Value.slice none 0 0, Value.slice none 0 0, Value.slice none 0 0] ∧ OwnI W0.heap.size wr u (((elemsI y.bnd).take k).map (plI (elemsI (y.bnd ||| z.bnd)))) ∧ Same (fun k => k < W0.heap.size ∧ k ≠ w1.heap.size) W0 wr) (fun s _ => (elemsI y.bnd).length - (intOf s).toNat)
    case atStart => exact ⟨0, by omega, rfl, _, HR9.out, OwnI.nil _ _, Same.refl _ _⟩
    case round =>
      obtain ⟨k, hk, rfl, u, hr, hO, hS⟩ := hrel
      have hsz := hS.size
      have hB1 : Below w1.heap.size w1 wr := HB0.out.trans (hS.below (by omega) fun k hk => by omega)
      have hL := elemsI_length (y.bnd)
      have hU := elemsI_length (y.bnd ||| z.bnd)
      have hle : (((elemsI y.bnd).take k).map (plI (elemsI (y.bnd ||| z.bnd)))).length ≤ 1024 := by simp; omega
      obtain ⟨acc, hacc⟩ : ∃ acc, acc = ((elemsI y.bnd).take k).map (plI (elemsI (y.bnd ||| z.bnd))) := ⟨_, rfl⟩
      rw [← hacc] at hO hle
      have HO := Lib.hid hO
      have HS := Lib.hid hS
      obtain ⟨qu, cqu, rfl⟩ := hO.sl
      have HR := Lib.hid hr
      have hown := hO.block
      have HB1r := Lib.hid hB1
      by_cases hlt : k < (elemsI y.bnd).length
      · have k9 := cell?_row (i := 0) hr
        simp at k9
        obtain ⟨bl, offl, cl, e, h1, hz, hcc⟩ := (HVAL).out.at hlt
        simp only [Value.slice.injEq] at h1
        obtain ⟨rfl, -, rfl⟩ := h1
        have hst : ((elemsI y.bnd).take (k + 1)).map (plI (elemsI (y.bnd ||| z.bnd))) = acc ++ [plI (elemsI (y.bnd ||| z.bnd)) e] := by
          rw [List.take_add_one, hz, hacc]; simp
        have HST := Lib.hid hst
        have hbl := RdL.lt (HVAL).out (by omega)
        have hce := hcc wr hB1
        have HAE := Lib.hid fun o => hcc (wr.drew.alloc o) (hB1.drew.alloc (by simp; omega) o)
        have HA9 := Lib.hid fun o => (((Below.refl _ wr).drew.alloc (Nat.le_refl _) o).cell (p := ⟨w1.heap.size, 0, none⟩) (by show w1.heap.size < wr.heap.size; omega)).trans k9
        have HPl := Lib.hid (rplace_any _ _ e wr.drew (HVU.out.below (hB1.drew)) (by omega))
        clear hr hO hS hst hz hcc hacc
        go_wp2_with fail
        refine wp_region_mix (fun W => W.cell? ⟨w1.heap.size, 0, none⟩ = some (.slice qu acc.length cqu) ∧ W.cell? ⟨bl, offl + k, none⟩ = some (.int .i64 e)) 10 [(0, true), (1, true), (2, true), (3, true), (4, true), (5, true), (6, true), (7, false), (8, false), (9, false)] (by kernel_rfl) (by kernel_rfl) ⟨k9, hce⟩ ?_
        repeat (apply wpPlan_still rfl rfl; (intro w hw; obtain ⟨k91, hce1⟩ := hw; go_simp; (try go_ints); (first | with_reducible rfl | (go_simp; with_reducible rfl))); (intro K hK; go_simp; (try go_ints); refine hK _ _ ?_; clear hK K))
        apply wpPlan_act rfl rfl
        intro K hK
        unfold Oper.wp
        go_simp
        refine HPl.out.mono ?_
        rintro e1 w2 ⟨rfl, rfl⟩
        refine hK _ _ ⟨k9, hce⟩ ?_
        clear hK K
        apply wpPlan_act rfl rfl
        intro K hK
        unfold Oper.wp
        go_simp
        refine hK _ _ ⟨HA9.out _, HAE.out _⟩ ?_
        clear hK K
        apply wpPlan_act rfl rfl
        intro K hK
        refine wp_appT2 34 undI _ _ rfl W0.heap.size _ acc rfl (HO.out.below (C := wr.heap.size) ((Below.refl _ wr).drew.alloc (Nat.le_refl _) _) (Nat.le_refl _)) _ (plI (elemsI (y.bnd ||| z.bnd)) e) _ rfl (by simp [go_sem]) (by omega) (by simp; omega) ?_
        intro v2 w2 hO2 hb2 hg2 hl2
        have hne9 : some w1.heap.size ≠ (Value.slice qu acc.length cqu).ownBlock := fun e => by have := hown _ e.symm; omega
        have hr2 : row? w2 w1.heap.size = some #[.slice qu acc.length cqu, .slice none 0 0, .slice none 0 0, .slice none 0 0] := (row?_congr ((hg2.block w1.heap.size (by simp; omega) hne9).trans (Below.heap_alloc _ _ _ (by show w1.heap.size < wr.heap.size; omega)))).trans HR.out
        have hs2 : wr.heap.size ≤ w2.heap.size := by have := hb2.size; simp at this; omega
        refine hK _ _ ⟨(cell?_row (i := 0) hr2).trans rfl, (hb2.cell (p := ⟨bl, offl + k, none⟩) (by show bl < W0.heap.size; omega)).trans (HAE.out _)⟩ ?_
        clear hK K
        have hk2 : ∀ j, j < W0.heap.size → w2.heap[j]? = wr.heap[j]? := fun j hj => (hb2.block j hj).trans (Below.heap_alloc _ _ _ (by show j < wr.heap.size; omega))
        have hfz2 := frozen?_row (i := 0) hr2
        have hlt2 := row?_lt hr2
        have k92 := (cell?_row (i := 0) hr2)
        simp at k92
        have HS2 := Lib.hid (HS.out.trans ⟨hb2.os, hb2.tape, hb2.output, hs2, fun k hk h => hk2 k h.1⟩)
        obtain ⟨q2, c2, rfl⟩ := hO2.sl
        rw [List.length_append] at hO2 ⊢
        have HO2 := Lib.hid hO2
        have HR2 := Lib.hid hr2
        clear hO2 hb2 hg2 hl2 hr2 hk2 hne9 k9 hce HA9 HAE HPl
        refine wpPlan_nil ?_
        simp only [List.drop_succ_cons, List.drop_zero]
        go_wp2_with fail
        go_roundw
        case rel =>
          refine ⟨k + 1, by omega, by go_num, _, by rw [row?_setCell_same, HR2.out]; rfl, ?_, ?_⟩
          · rw [HST.out]
            exact HO2.out.same fun j hj => heap_setCell_other _ _ j _ (by have := HO2.out.block j hj; show j ≠ w1.heap.size; omega)
          · exact HS2.out.trans (Same.setCell _ _ _ _ (by show ¬ (w1.heap.size < W0.heap.size ∧ w1.heap.size ≠ w1.heap.size); omega))
        case measure => simp [intOf]; omega
      · have HAC := Lib.hid hacc
        have HKE := Lib.hid (show k = (elemsI y.bnd).length by omega)
        clear hr hO hS hacc hB1
        go_wp2_with fail
        obtain ⟨W2, rfl⟩ : ∃ W2, W2 = wr := ⟨wr, rfl⟩
        have hs2w : w1.heap.size + 1 ≤ W2.heap.size := by omega
        have hv1 : RdA (fun k => w1.heap.size < k) W2 (.slice qu acc.length cqu) ((elemsI y.bnd).map (plI (elemsI (y.bnd ||| z.bnd)))) := by
          have := HO.out.rda.mono (A' := fun k => w1.heap.size < k) fun k hk => by omega
          rw [HAC.out, HKE.out, List.take_length] at this
          rw [HAC.out, HKE.out, List.take_length]
          exact this
        obtain ⟨v1, hv1d⟩ : ∃ v1, v1 = Value.slice qu acc.length cqu := ⟨_, rfl⟩
        rw [← hv1d] at hv1 HR
        have HO1 := Lib.hid hv1
        have HR1 := Lib.hid HR.out
        have HB2 := Lib.hid HB1r.out
        clear HO HAC HKE hle hown hk hlt hL hU hv1 hv1d HR HS HB1r hsz
        go_loopw [11] (fun s wr => ∃ k : Nat, k ≤ (elemsI z.bnd).length ∧ s = .int .i64 (k : Int) ∧ ∃ u, row? wr w1.heap.size = some #[v1, u, Value.slice none 0 0, Value.slice none 0 0] ∧ OwnI W2.heap.size wr u (((elemsI z.bnd).take k).map (plI (elemsI (y.bnd ||| z.bnd)))) ∧ Same (fun k => k < W2.heap.size ∧ k ≠ w1.heap.size) W2 wr) (fun s _ => (elemsI z.bnd).length - (intOf s).toNat)
        case atStart => exact ⟨0, by omega, rfl, _, HR1.out, OwnI.nil _ _, Same.refl _ _⟩
        case round =>
          obtain ⟨k, hk, rfl, u, hr, hO, hS⟩ := hrel
          have hsz := hS.size
          have hB1 : Below w1.heap.size w1 wr := HB2.out.trans (hS.below (by omega) fun k hk => by omega)
          have hL := elemsI_length (z.bnd)
          have hU := elemsI_length (y.bnd ||| z.bnd)
          have hle : (((elemsI (z.bnd)).take k).map (plI (elemsI (y.bnd ||| z.bnd)))).length ≤ 1024 := by simp; omega
          obtain ⟨acc, hacc⟩ : ∃ acc, acc = ((elemsI (z.bnd)).take k).map (plI (elemsI (y.bnd ||| z.bnd))) := ⟨_, rfl⟩
          rw [← hacc] at hO hle
          have HO := Lib.hid hO
          have HS := Lib.hid hS
          obtain ⟨qu, cqu, rfl⟩ := hO.sl
          have HR := Lib.hid hr
          have hown := hO.block
          have HB1r := Lib.hid hB1
          by_cases hlt : k < (elemsI (z.bnd)).length
          · have k9 := cell?_row (i := 1) hr
            simp at k9
            obtain ⟨bl, offl, cl, e, h1, hz, hcc⟩ := (HVBL).out.at hlt
            simp only [Value.slice.injEq] at h1
            obtain ⟨rfl, -, rfl⟩ := h1
            have hst : ((elemsI (z.bnd)).take (k + 1)).map (plI (elemsI (y.bnd ||| z.bnd))) = acc ++ [plI (elemsI (y.bnd ||| z.bnd)) e] := by
              rw [List.take_add_one, hz, hacc]; simp
            have HST := Lib.hid hst
            have hbl := RdL.lt (HVBL).out (by omega)
            have hce := hcc wr hB1
            have HAE := Lib.hid fun o => hcc (wr.drew.alloc o) (hB1.drew.alloc (by simp; omega) o)
            have HA9 := Lib.hid fun o => (((Below.refl _ wr).drew.alloc (Nat.le_refl _) o).cell (p := ⟨w1.heap.size, 1, none⟩) (by show w1.heap.size < wr.heap.size; omega)).trans k9
            have HPl := Lib.hid (rplace_any _ _ e wr.drew (HVU.out.below (hB1.drew)) (by omega))
            clear hr hO hS hst hz hcc hacc
            go_wp2_with fail
            refine wp_region_mix (fun W => W.cell? ⟨w1.heap.size, 1, none⟩ = some (.slice qu acc.length cqu) ∧ W.cell? ⟨bl, offl + k, none⟩ = some (.int .i64 e)) 10 [(0, true), (1, true), (2, true), (3, true), (4, true), (5, true), (6, true), (7, false), (8, false), (9, false)] (by kernel_rfl) (by kernel_rfl) ⟨k9, hce⟩ ?_
            repeat (apply wpPlan_still rfl rfl; (intro w hw; obtain ⟨k91, hce1⟩ := hw; go_simp; (try go_ints); (first | with_reducible rfl | (go_simp; with_reducible rfl))); (intro K hK; go_simp; (try go_ints); refine hK _ _ ?_; clear hK K))
            apply wpPlan_act rfl rfl
            intro K hK
            unfold Oper.wp
            go_simp
            refine HPl.out.mono ?_
            rintro e1 w2 ⟨rfl, rfl⟩
            refine hK _ _ ⟨k9, hce⟩ ?_
            clear hK K
            apply wpPlan_act rfl rfl
            intro K hK
            unfold Oper.wp
            go_simp
            refine hK _ _ ⟨HA9.out _, HAE.out _⟩ ?_
            clear hK K
            apply wpPlan_act rfl rfl
            intro K hK
            refine wp_appT2 34 undI _ _ rfl W2.heap.size _ acc rfl (HO.out.below (C := wr.heap.size) ((Below.refl _ wr).drew.alloc (Nat.le_refl _) _) (Nat.le_refl _)) _ (plI (elemsI (y.bnd ||| z.bnd)) e) _ rfl (by simp [go_sem]) (by omega) (by simp; omega) ?_
            intro v2 w2 hO2 hb2 hg2 hl2
            have hne9 : some w1.heap.size ≠ (Value.slice qu acc.length cqu).ownBlock := fun e => by have := hown _ e.symm; omega
            have hr2 : row? w2 w1.heap.size = some #[v1, .slice qu acc.length cqu, .slice none 0 0, .slice none 0 0] := (row?_congr ((hg2.block w1.heap.size (by simp; omega) hne9).trans (Below.heap_alloc _ _ _ (by show w1.heap.size < wr.heap.size; omega)))).trans HR.out
            have hs2 : wr.heap.size ≤ w2.heap.size := by have := hb2.size; simp at this; omega
            refine hK _ _ ⟨(cell?_row (i := 1) hr2).trans rfl, (hb2.cell (p := ⟨bl, offl + k, none⟩) (by show bl < W2.heap.size; omega)).trans (HAE.out _)⟩ ?_
            clear hK K
            have hk2 : ∀ j, j < W2.heap.size → w2.heap[j]? = wr.heap[j]? := fun j hj => (hb2.block j hj).trans (Below.heap_alloc _ _ _ (by show j < wr.heap.size; omega))
            have hfz2 := frozen?_row (i := 1) hr2
            have hlt2 := row?_lt hr2
            have k92 := (cell?_row (i := 1) hr2)
            simp at k92
            have HS2 := Lib.hid (HS.out.trans ⟨hb2.os, hb2.tape, hb2.output, hs2, fun k hk h => hk2 k h.1⟩)
            obtain ⟨q2, c2, rfl⟩ := hO2.sl
            rw [List.length_append] at hO2 ⊢
            have HO2 := Lib.hid hO2
            have HR2 := Lib.hid hr2
            clear hO2 hb2 hg2 hl2 hr2 hk2 hne9 k9 hce HA9 HAE HPl
            refine wpPlan_nil ?_
            simp only [List.drop_succ_cons, List.drop_zero]
            go_wp2_with fail
            go_roundw
            case rel =>
              refine ⟨k + 1, by omega, by go_num, _, by rw [row?_setCell_same, HR2.out]; rfl, ?_, ?_⟩
              · rw [HST.out]
                exact HO2.out.same fun j hj => heap_setCell_other _ _ j _ (by have := HO2.out.block j hj; show j ≠ w1.heap.size; omega)
              · exact HS2.out.trans (Same.setCell _ _ _ _ (by show ¬ (w1.heap.size < W2.heap.size ∧ w1.heap.size ≠ w1.heap.size); omega))
            case measure => simp [intOf]; omega
          · have HAC := Lib.hid hacc
            have HKE := Lib.hid (show k = (elemsI z.bnd).length by omega)
            clear hr hO hS hacc hB1
            go_wp2_with fail
            obtain ⟨W3, rfl⟩ : ∃ W3, W3 = wr := ⟨wr, rfl⟩
            have hs3w : w1.heap.size + 1 ≤ W3.heap.size := by omega
            have hv2 : RdA (fun k => w1.heap.size < k) W3 (.slice qu acc.length cqu) ((elemsI z.bnd).map (plI (elemsI (y.bnd ||| z.bnd)))) := by
              have := HO.out.rda.mono (A' := fun k => w1.heap.size < k) fun k hk => by omega
              rw [HAC.out, HKE.out, List.take_length] at this
              rw [HAC.out, HKE.out, List.take_length]
              exact this
            have hv1 : RdA (fun k => w1.heap.size < k) W3 v1 ((elemsI y.bnd).map (plI (elemsI (y.bnd ||| z.bnd)))) := HO1.out.keep HS.out.size fun k hk hA => ⟨HS.out.block k hk ⟨hk, by omega⟩, hA⟩
            obtain ⟨v2, hv2d⟩ : ∃ v2, v2 = Value.slice qu acc.length cqu := ⟨_, rfl⟩
            rw [← hv2d] at hv2 HR
            have HO1' := Lib.hid hv1
            have HO2' := Lib.hid hv2
            have HR3 := Lib.hid HR.out
            have HB3 := Lib.hid HB1r.out
            obtain ⟨LU, hLU⟩ : ∃ LU, LU = elemsI (y.bnd ||| z.bnd) := ⟨_, rfl⟩
            have hU : LU.length ≤ 1024 := by rw [hLU]; exact elemsI_length _
            have hX := elemsI_length x.bnd
            rw [← hLU] at HVU ⊢
            have HLU := Lib.hid hLU
            clear HO HAC HKE hle hown hk hlt hL hv1 hv2 hv2d HR HS HB1r hsz HO1 HR1 hLU
            go_loopw [12] (fun s wr => ∃ k : Nat, k ≤ LU.length ∧ s = .int .i64 (k : Int) ∧ ∃ u f, row? wr w1.heap.size = some #[v1, v2, f, u] ∧ OwnI W3.heap.size wr u ((LU.take k).map (plI (elemsI x.bnd))) ∧ OwnI W3.heap.size wr f (negsTo (LU.map (plI (elemsI x.bnd))) k) ∧ (∀ g, u.ownBlock = some g → f.ownBlock ≠ some g) ∧ Same (fun k => k < W3.heap.size ∧ k ≠ w1.heap.size) W3 wr) (fun s _ => LU.length - (intOf s).toNat)
            case atStart => exact ⟨0, by omega, rfl, _, _, HR3.out, OwnI.nil _ _, OwnI.nil _ _, (fun g h => by cases h), Same.refl _ _⟩
            case round =>
              obtain ⟨k, hk, rfl, u, f, hr, hO, hF, hsep, hS⟩ := hrel
              have hsz := hS.size
              have hB1 : Below w1.heap.size w1 wr := HB3.out.trans (hS.below (by omega) fun k hk => by omega)
              have hle : ((LU.take k).map (plI (elemsI x.bnd))).length ≤ 1024 := by simp; omega
              have hlf := negsTo_length (LU.map (plI (elemsI x.bnd))) k
              obtain ⟨acc, hacc⟩ : ∃ acc, acc = (LU.take k).map (plI (elemsI x.bnd)) := ⟨_, rfl⟩
              obtain ⟨ng, hng⟩ : ∃ ng, ng = negsTo (LU.map (plI (elemsI x.bnd))) k := ⟨_, rfl⟩
              rw [← hacc] at hO hle
              rw [← hng] at hF hlf
              have HO := Lib.hid hO
              have HF := Lib.hid hF
              have HS := Lib.hid hS
              have HSep := Lib.hid hsep
              obtain ⟨qu, cqu, rfl⟩ := hO.sl
              obtain ⟨qf, cqf, rfl⟩ := hF.sl
              have HR := Lib.hid hr
              have hown := hO.block
              have hownf := hF.block
              have hltu := hO.lt
              have hltf := hF.lt
              by_cases hlt : k < LU.length
              · obtain ⟨bl, offl, cl, e, h1, hz, hcc⟩ := HVU.out.at hlt
                simp only [Value.slice.injEq] at h1
                obtain ⟨rfl, -, rfl⟩ := h1
                have hst : (LU.take (k + 1)).map (plI (elemsI x.bnd)) = acc ++ [plI (elemsI x.bnd) e] := by
                  rw [List.take_add_one, hz, hacc]; simp
                have hgd : (LU.map (plI (elemsI x.bnd))).getD k 0 = plI (elemsI x.bnd) e := by
                  rw [List.getD_eq_getElem?_getD, List.getElem?_map, hz]; rfl
                have hnst := negsTo_succ (LU.map (plI (elemsI x.bnd))) k
                rw [hgd, ← hng] at hnst
                have HST := Lib.hid hst
                have HNST := Lib.hid hnst
                have hce := hcc wr hB1
                have k5 := (cell?_row (i := 3) ((row?_below hB1 (by omega)).trans HC5.out))
                simp at k5
                have HPl := Lib.hid (rplace_any _ _ e wr.drew (HVX.out.1.below hB1.drew) (by omega))
                obtain ⟨pe, hpe⟩ : ∃ pe, pe = plI (elemsI x.bnd) e := ⟨_, rfl⟩
                rw [← hpe] at HST HNST HPl
                clear hr hO hS hst hz hcc hacc hF hng hsep hgd hnst hpe
                go_wp2_with fail
                refine wp_region_free_tail (fun w' => w' = wr.drew) 7 (by kernel_rfl) (by kernel_rfl) rfl ?_
                simp only [List.take_succ_cons, List.take_zero, List.drop_succ_cons, List.drop_zero]
                repeat (apply wpFree_still; (intro w hw; subst hw; go_simp; (try go_ints); (first | with_reducible rfl | (go_simp; with_reducible rfl))); with_reducible rfl; (intro K hK; go_simp; (try go_ints); refine hK _ ?_; clear hK K))
                apply wpFree_call
                · intro w hw; go_simp; first | with_reducible rfl | with_reducible exact ⟨rfl, rfl⟩
                · with_reducible rfl
                · intro w hw; subst hw; exact HPl.out
                intro K hK; go_simp; (try go_ints); refine hK _ ?_; clear hK K
                with_reducible refine wpFree_nil ?_
                rintro w' rfl
                have k9 := cell?_row (i := 3) HR.out
                simp at k9
                go_wp2_with (at_builtin; refine wpList_appT2 rfl 34 undI _ _ rfl W3.heap.size _ acc rfl (HO.out.below (C := wr.heap.size) ((Below.refl _ wr).drew.alloc (Nat.le_refl _) _) (Nat.le_refl _)) _ pe _ rfl (by simp [go_sem]) (by omega) (by simp; omega) ?_)
                intro v2' w2 hO2 hb2 hg2 hl2
                have hne9 : some w1.heap.size ≠ (Value.slice qu acc.length cqu).ownBlock := fun e => by have := hown _ e.symm; omega
                have hr2 : row? w2 w1.heap.size = some #[v1, v2, .slice qf ng.length cqf, .slice qu acc.length cqu] := (row?_congr ((hg2.block w1.heap.size (by simp; omega) hne9).trans (Below.heap_alloc _ _ _ (by show w1.heap.size < wr.heap.size; omega)))).trans HR.out
                have hs2 : wr.heap.size ≤ w2.heap.size := by have := hb2.size; simp at this; omega
                have hk2 : ∀ j, j < W3.heap.size → w2.heap[j]? = wr.heap[j]? := fun j hj => (hb2.block j hj).trans (Below.heap_alloc _ _ _ (by show j < wr.heap.size; omega))
                have hF2 : OwnI W3.heap.size w2 (.slice qf ng.length cqf) ng := HF.out.same fun j hj => (hg2.block j (by simp; have := hltf j hj; omega) (fun e => HSep.out j e.symm hj)).trans (Below.heap_alloc _ _ _ (hltf j hj))
                have hsep2 : ∀ j, v2'.ownBlock = some j → (Value.slice qf ng.length cqf).ownBlock ≠ some j := fun j hj hj2 => by
                  rcases hl2 with e | e
                  · exact HSep.out j (e ▸ hj) hj2
                  · rw [e] at hj
                    have := hltf j hj2
                    simp at hj
                    omega
                have hfz2 := frozen?_row (i := 3) hr2
                have hlt2 := row?_lt hr2
                have k92 := (cell?_row (i := 3) hr2)
                simp at k92
                have hS2 := HS.out.trans ⟨hb2.os, hb2.tape, hb2.output, hs2, fun k hk h => hk2 k h.1⟩
                obtain ⟨q2, c2, rfl⟩ := hO2.sl
                rw [List.length_append] at hO2 hsep2 ⊢
                obtain ⟨W4, hW4⟩ : ∃ W4, W4 = w2.setCell ⟨w1.heap.size, 3, none⟩ (.slice q2 (acc.length + 1) c2) := ⟨_, rfl⟩
                have hk4 : ∀ j, j ≠ w1.heap.size → W4.heap[j]? = w2.heap[j]? := fun j hj => by rw [hW4]; exact heap_setCell_other _ _ j _ hj
                have hr4 : row? W4 w1.heap.size = some #[v1, v2, .slice qf ng.length cqf, .slice q2 (acc.length + 1) c2] := by rw [hW4, row?_setCell_same, hr2]; rfl
                have hO4 : OwnI W3.heap.size W4 (.slice q2 (acc.length + 1) c2) (acc ++ [pe]) := hO2.same fun j hj => hk4 j (by have := hO2.block j hj; omega)
                have hF4 : OwnI W3.heap.size W4 (.slice qf ng.length cqf) ng := hF2.same fun j hj => hk4 j (by have := hF2.block j hj; omega)
                have hS4 : Same (fun k => k < W3.heap.size ∧ k ≠ w1.heap.size) W3 W4 := by rw [hW4]; exact hS2.trans (Same.setCell _ _ _ _ (by show ¬ (w1.heap.size < W3.heap.size ∧ w1.heap.size ≠ w1.heap.size); omega))
                have hs4 : W4.heap.size = w2.heap.size := by rw [hW4]; simp
                have k24 := cell?_row (i := 2) hr4
                simp at k24
                have hfz4 := frozen?_row (i := 2) hr4
                have HO4 := Lib.hid hO4
                have HF4 := Lib.hid hF4
                have HS4 := Lib.hid hS4
                have HR4' := Lib.hid hr4
                have HSep4 := Lib.hid hsep2
                clear hO2 hb2 hg2 hl2 hr2 hk2 hne9 k9 hF2 hS2 hk4 hr4 hO4 hF4 hS4 HPl hce HO HF HS HR HSep hown hownf hltu hltf hsep2
                by_cases hpl0 : pe < 0
                · rw [if_pos hpl0] at HNST
                  have HW4 := Lib.hid hW4
                  rw [hW4] at k24 hfz4
                  clear hW4
                  go_wp2_with (at_builtin; rw [← HW4.out]; refine wpList_appT2 rfl 34 undI _ _ rfl W3.heap.size _ ng rfl (HF4.out.below (C := W4.heap.size) ((Below.refl _ W4).alloc (Nat.le_refl _) _) (Nat.le_refl _)) _ (k : Int) _ rfl (by simp [go_sem, hs4]) (by omega) (by simp; omega) ?_)
                  intro v5 w5 hO5 hb5 hg5 hl5
                  have hne9 : some w1.heap.size ≠ (Value.slice qf ng.length cqf).ownBlock := fun e => by have := HF4.out.block _ e.symm; omega
                  have hr5 : row? w5 w1.heap.size = some #[v1, v2, .slice qf ng.length cqf, .slice q2 (acc.length + 1) c2] := (row?_congr ((hg5.block w1.heap.size (by simp; omega) hne9).trans (Below.heap_alloc _ _ _ (by omega)))).trans HR4'.out
                  have hs5 : W4.heap.size ≤ w5.heap.size := by have := hb5.size; simp at this; omega
                  have hk5 : ∀ j, j < W3.heap.size → w5.heap[j]? = W4.heap[j]? := fun j hj => (hb5.block j hj).trans (Below.heap_alloc _ _ _ (by omega))
                  have hO5' : OwnI W3.heap.size w5 (.slice q2 (acc.length + 1) c2) (acc ++ [pe]) := HO4.out.same fun j hj => (hg5.block j (by simp; have := HO4.out.lt j hj; omega) (fun e => HSep4.out j hj e.symm)).trans (Below.heap_alloc _ _ _ (HO4.out.lt j hj))
                  have hsep5 : ∀ j, (Value.slice q2 (acc.length + 1) c2).ownBlock = some j → v5.ownBlock ≠ some j := fun j hj hj2 => by
                    rcases hl5 with e | e
                    · exact HSep4.out j hj (e ▸ hj2)
                    · rw [e] at hj2
                      have := HO4.out.lt j hj
                      simp at hj2
                      omega
                  have hfz5 := frozen?_row (i := 2) hr5
                  have hlt5 := row?_lt hr5
                  have k95 := (cell?_row (i := 2) hr5)
                  simp at k95
                  have HS5 := Lib.hid (HS4.out.trans ⟨hb5.os, hb5.tape, hb5.output, hs5, fun k hk h => hk5 k h.1⟩)
                  obtain ⟨q5, c5, rfl⟩ := hO5.sl
                  rw [List.length_append] at hO5 hsep5 ⊢
                  have HO5 := Lib.hid hO5'
                  have HF5 := Lib.hid hO5
                  have HR5 := Lib.hid hr5
                  have HSep5 := Lib.hid hsep5
                  clear hO5 hb5 hg5 hl5 hr5 hk5 hne9 hO5' hsep5 HO4 HF4 HSep4 HS4 HR4' HW4 k24 hfz4 k92 hfz2
                  go_wp2_with fail
                  go_roundw
                  case rel =>
                    refine ⟨k + 1, by omega, by go_num, _, _, by rw [row?_setCell_same, HR5.out]; rfl, ?_, ?_, HSep5.out, ?_⟩
                    · rw [HST.out]
                      exact HO5.out.same fun j hj => heap_setCell_other _ _ j _ (by have := HO5.out.block j hj; show j ≠ w1.heap.size; omega)
                    · rw [HNST.out]
                      exact HF5.out.same fun j hj => heap_setCell_other _ _ j _ (by have := HF5.out.block j hj; show j ≠ w1.heap.size; omega)
                    · exact HS5.out.trans (Same.setCell _ _ _ _ (by show ¬ (w1.heap.size < W3.heap.size ∧ w1.heap.size ≠ w1.heap.size); omega))
                  case measure => simp [intOf]; omega
                · rw [if_neg hpl0, List.append_nil] at HNST
                  have HW4 := Lib.hid hW4
                  clear hW4 k24 hfz4
                  go_wp2_with fail
                  rw [← HW4.out]
                  go_roundw
                  case rel =>
                    refine ⟨k + 1, by omega, by go_num, _, _, HR4'.out, ?_, ?_, HSep4.out, HS4.out⟩
                    · rw [HST.out]
                      exact HO4.out
                    · rw [HNST.out]
                      exact HF4.out
                  case measure => simp [intOf]; omega
              · have HAC := Lib.hid hacc
                have HNG := Lib.hid hng
                have HKE := Lib.hid (show k = LU.length by omega)
                have hr4 := (row?_congr (hS.block _ (show w.heap.size < W3.heap.size by omega) ⟨by omega, by omega⟩)).trans ((row?_below HB3.out (by omega)).trans HR4.out)
                have hv1 : RdA (fun k => k ≠ w.heap.size) wr v1 ((elemsI y.bnd).map (plI LU)) := by
                  have := HO1'.out.keep (A' := fun k => k ≠ w.heap.size) hS.size fun k hk hA => ⟨hS.block k hk ⟨hk, by omega⟩, by omega⟩
                  rwa [← HLU.out] at this
                have hv2 : RdA (fun k => k ≠ w.heap.size) wr v2 ((elemsI z.bnd).map (plI LU)) := by
                  have := HO2'.out.keep (A' := fun k => k ≠ w.heap.size) hS.size fun k hk hA => ⟨hS.block k hk ⟨hk, by omega⟩, by omega⟩
                  rwa [← HLU.out] at this
                have hu4 : RdA (fun k => k ≠ w.heap.size) wr (.slice qu acc.length cqu) ((LU).map (plI (elemsI x.bnd))) := by
                  have := HO.out.rda.mono (A' := fun k => k ≠ w.heap.size) fun k hk => by omega
                  rw [HAC.out, HKE.out, List.take_length] at this
                  rw [HAC.out, HKE.out, List.take_length]
                  exact this
                have hf4 : RdA (fun k => k ≠ w.heap.size) wr (.slice qf ng.length cqf) (negsTo (LU.map (plI (elemsI x.bnd))) LU.length) := by
                  have := HF.out.rda.mono (A' := fun k => k ≠ w.heap.size) fun k hk => by omega
                  rw [HNG.out, HKE.out] at this
                  rw [HNG.out, HKE.out]
                  exact this
                obtain ⟨a1, c1, rfl⟩ := hv1.sl
                obtain ⟨a2, c2', rfl⟩ := hv2.sl
                have HV1 := Lib.hid hv1
                have HV2 := Lib.hid hv2
                have HU4 := Lib.hid hu4
                have HF4 := Lib.hid hf4
                have HBW := Lib.hid (HB1.out.trans (hB1.mono (by omega)))
                have hsw4 : w.heap.size + 3 ≤ wr.heap.size := by omega
                clear hv1 hv2 hu4 hf4 HO HF HO1' HO2' HSep HVU HVAL HVBL HVX HAC HNG HKE hacc hng hO hF hsep hS HS hB1 hown hownf hltu hltf HC5
                go_wp2_with fail
                refine ret_row w.heap.size #[.slice a1 _ c1, .slice a2 _ c2', .slice qf ng.length cqf, .slice qu acc.length cqu] rfl Tryz.isAgg43 Tryz.sizeOf43 rfl rfl (row?_setRow_same _ _ _ (by rw [hr4]; rfl)) rfl ?_
                refine ⟨_, _, _, _, rfl, ?_, ?_, ?_, ?_, below_setRow HBW.out (Nat.le_refl _) _⟩
                all_goals rw [← HLU.out]
                · have := HV1.out
                  rw [List.length_map] at this
                  exact ((this.keep (A' := fun _ => True) (by simp) fun k hk hA => ⟨setRow_other _ _ _ _ hA, trivial⟩)).rdl
                · have := HV2.out
                  rw [List.length_map] at this
                  exact ((this.keep (A' := fun _ => True) (by simp) fun k hk hA => ⟨setRow_other _ _ _ _ hA, trivial⟩)).rdl
                · exact ((HF4.out.keep (A' := fun _ => True) (by simp) fun k hk hA => ⟨setRow_other _ _ _ _ hA, trivial⟩)).rdl
                · exact ((HU4.out.keep (A' := fun _ => True) (by simp) fun k hk hA => ⟨setRow_other _ _ _ _ hA, trivial⟩)).rdl
end Go.Proofs.YtoiefehkfhkhbaaGreatDoor
