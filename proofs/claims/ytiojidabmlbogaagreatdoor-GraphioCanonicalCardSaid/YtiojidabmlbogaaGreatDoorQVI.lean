/-
  The walk of the statement GraphioCanonical.
-/
import Derived.Test.YtiojidabmlbogaaGreatDoorQVb
import Derived.Test.YtiojidabmlbogaaGreatDoorQVe
import Derived.Test.YtiojidabmlbogaaGreatDoorQVF
import Derived.Test.YtiojidabmlbogaaGreatDoorQVG
import Derived.Test.YtiojidabmlbogaaGreatDoorQVH
import Derived.Test.YtiojidabmlbogaaGreatDoorQVd
set_option linter.unusedSimpArgs false
set_option linter.unusedVariables false
namespace Go.Proofs.YtiojidabmlbogaaGreatDoor
open Go Go.RowKit Go.Pal
attribute [local go_sem] Oper.semAt_some

set_option maxRecDepth 10000 in
set_option maxHeartbeats 8000000 in
theorem caLaw_any (es : List Ed) (hes : ∀ e ∈ es, e.Wf) (ts : List Nat) (hts : ∀ t ∈ ts, t < 256) (vl vt : Value) (w : World) (hl : Rd edC 5 w.heap.size w vl es) (hc : ∃ a n c, vl = .slice a n c ∧ n ≤ c ∧ c ≤ 9223372036854775807) (ht : Rd u8C 1 w.heap.size w vt ts) (htl : ts.length ≤ 9223372036854775807) (hT : Tab3 w) :
    Calls Tryz.prog 3 #[vl, vt] w fun e w' => e = .returned (.bool true) ∧ Below w.heap.size w w' := by
  have HT := Lib.hid hT
  have HFe := Lib.hid (few_any es hes vl w hl hc)
  have hGk := fewG_ok hes
  have hGl := fewG_len hes
  obtain ⟨G, hG⟩ : ∃ G, G = fewG es := ⟨_, rfl⟩
  rw [← hG] at HFe hGk hGl
  have HG := Lib.hid hGk
  have HK := Lib.hid fun W (h : Below w.heap.size w W) => known06_any W (hT.on h)
  obtain ⟨al, nl, cl, rfl, -, -⟩ := hc
  have HTS := Lib.hid hts
  have HU := Lib.hid ht
  obtain ⟨at', ct, rfl⟩ := ht.sl
  obtain ⟨few, hfew⟩ : ∃ few, few = decide (es.length ≤ 40) := ⟨_, rfl⟩
  rw [← hfew] at HFe
  clear hl ht hes hts hT hG hGk hfew
  go_enter Tryz.func3, Tryz.ntmps3
  go_wp2_with fail
  refine HFe.out.mono ?_
  rintro r w1 ⟨g, bV, bE, vV, vE, rfl, hG1, hRG, -, hb1⟩
  have HG1 := Lib.hid hG1
  have HB1 := Lib.hid hb1
  obtain ⟨aV, cV, hvV⟩ := hRG.1.sl
  obtain ⟨aE, cE, hvE⟩ := hRG.2.sl
  subst hvV hvE
  clear hG1 hRG hb1 HFe
  go_wp2_with fail
  generalize hW1 : World.alloc w1 _ = W1
  have hba : Below w1.heap.size w1 W1 := by rw [← hW1]; exact (Below.refl _ w1).alloc (Nat.le_refl _) _
  clear hW1
  refine (HK.out _ (HB1.out.trans (hba.mono HB1.out.size))).mono ?_
  rintro r w2 ⟨rfl, hb2⟩
  have hc2 := hba.trans (hb2.mono hba.size)
  have HB2 := Lib.hid (HB1.out.trans (hc2.mono HB1.out.size))
  have HG2 := Lib.hid (HG1.out.below hc2)
  clear hba hb2 hc2 HG1
  cases few with
  | false =>
    go_wp2_with fail
    refine (HK.out _ HB2.out).mono ?_
    rintro r w3 ⟨rfl, hb3⟩
    have HB3 := Lib.hid (HB2.out.trans (hb3.mono HB2.out.size))
    clear hb3
    go_wp2_with fail
    go_ret
    exact ⟨rfl, HB3.out⟩
  | true =>
    by_cases h100 : ts.length ≤ 100
    · have hd1 : decide ((100 : Int) < (ts.length : Int)) = false := by simp; omega
      have hd2 : decide (100 < ts.length) = false := by simp; omega
      go_wp2_with fail
      refine (gvertices_any g bV bE G HG.out w2 HG2.out).mono ?_
      rintro e w3 ⟨v3, rfl, hO3, hb3⟩
      obtain ⟨qa, ca, rfl⟩ := hO3.sl
      have HO3 := Lib.hid hO3
      have HB3 := Lib.hid hb3
      clear hO3 hb3 hd1 hd2
      go_wp2_with fail
      refine (gedges_any g bV bE G HG.out w3 (HG2.out.below HB3.out)).mono ?_
      rintro e w4 ⟨v4, rfl, hO4, hb4⟩
      obtain ⟨qb, cb, rfl⟩ := hO4.sl
      have hs3 := HB3.out.size
      have HO4 := Lib.hid (hO4.lower hs3)
      have HO3' := Lib.hid (HO3.out.below hb4 (Nat.le_refl _))
      have HB4 := Lib.hid (HB3.out.trans (hb4.mono hs3))
      have hl0 : G.V.length = 0 → G.E.length = 0 := fun h => by
        rcases hE : G.E with _ | ⟨p, r⟩
        · rfl
        · obtain ⟨-, h2, -⟩ := HG.out.ends p (by rw [hE]; simp)
          obtain ⟨q, hq, -⟩ := look_some.1 h2
          rw [List.length_eq_zero_iff.1 h] at hq
          simp at hq
      have hmE := HG.out.most
      obtain ⟨LV, hLV⟩ : ∃ n, n = G.V.length := ⟨_, rfl⟩
      obtain ⟨LE, hLE⟩ : ∃ n, n = G.E.length := ⟨_, rfl⟩
      rw [← hLV] at HO3' hl0 hGl ⊢
      rw [← hLE] at HO4 hl0 hmE ⊢
      have HLV := Lib.hid hLV
      have HLE := Lib.hid hLE
      have HL0 := Lib.hid hl0
      clear hO4 hb4 HO3 HB3 hLV hLE hl0
      go_wp2_with fail
      go_loopw [10] (fun i wr => ∃ (k : Nat) (vs : List (Int × Th)) (eds : List ((Int × Int) × Th)), k ≤ ts.length ∧ i = .int .i64 (k : Int) ∧ OwnV w2.heap.size wr (.slice qa LV ca) vs ∧ vs.Perm G.V ∧ OwnE w2.heap.size wr (.slice qb LE cb) eds ∧ (eds.map nrmE).Perm G.E ∧ Below w2.heap.size w2 wr) (fun i _ => ts.length - (intOf i).toNat)
      case atStart => exact ⟨0, G.V, G.E, by omega, rfl, HO3'.out, List.Perm.refl _, HO4.out, by rw [nrm_own HG.out], HB4.out⟩
      case round =>
        obtain ⟨k, vs, eds, hk, rfl, hOv, hpv, hOe, hpe, hb⟩ := hrel
        have HOv := Lib.hid hOv
        have HPv := Lib.hid hpv
        have HOe := Lib.hid hOe
        have HPe := Lib.hid hpe
        have HB := Lib.hid hb
        have hsz := hb.size
        have hvl : vs.length = LV := by rw [hpv.length_eq, HLV.out]
        have hel : eds.length = LE := by have := hpe.length_eq; rw [List.length_map] at this; rw [this, HLE.out]
        clear hOv hpv hOe hpe hb
        by_cases hlt : k < ts.length
        · obtain ⟨b, off, c', t, h1, hbb, ht, hcc⟩ := HU.out.at hlt
          simp only [Value.slice.injEq] at h1
          obtain ⟨rfl, -, rfl⟩ := h1
          have c0 := hcc wr (HB2.out.trans (HB.out.mono HB2.out.size)) 0 (.int .u8 (t : Int)) rfl
          simp only [Nat.mul_one, Nat.add_zero] at c0
          have ht256 := HTS.out t (List.mem_of_getElem? ht)
          have HC0 : Hid (∀ W, Below w.heap.size w W → W.cell? ⟨b, off + k, none⟩ = some (.int .u8 (t : Int))) := Lib.hid fun W hW => by
            have := hcc W hW 0 (.int .u8 (t : Int)) rfl
            simpa only [Nat.mul_one, Nat.add_zero] using this
          clear hcc ht hbb
          by_cases hv0 : 0 < LV
          · obtain ⟨p, hp⟩ : ∃ p, p = t % LV := ⟨_, rfl⟩
            obtain ⟨q, hq⟩ : ∃ q, q = k % LV := ⟨_, rfl⟩
            have hpl : p < LV := by rw [hp]; exact Nat.mod_lt _ hv0
            have hql : q < LV := by rw [hq]; exact Nat.mod_lt _ hv0
            have hpm : ((t : Int) % (LV : Int)) = (p : Int) := by rw [hp]; exact (Int.natCast_emod t LV).symm
            have hqm : ((k : Int) % (LV : Int)) = (q : Int) := by rw [hq]; exact (Int.natCast_emod k LV).symm
            obtain ⟨x, hx⟩ : ∃ x, vs[p]? = some x := ⟨_, List.getElem?_eq_getElem (by omega)⟩
            obtain ⟨y, hy⟩ : ∃ y, vs[q]? = some y := ⟨_, List.getElem?_eq_getElem (by omega)⟩
            obtain ⟨gv, rfl, hgv⟩ : ∃ g', qa = some ⟨g', 0, none⟩ ∧ w2.heap.size ≤ g' := by
              rcases HOv.out.2 with ⟨h, h2⟩ | ⟨g, cap, cur, h, h2, _⟩
              · simp only [Value.slice.injEq] at h; omega
              · simp only [Value.slice.injEq] at h
                exact ⟨g, h.1, h2⟩
            have hgvl := HOv.out.lt gv rfl
            have hne : ¬ LV = 0 := by omega
            clear hp hq
            go_wp2_with fail
            refine wp_region_mixZ (fun W => W = wr.drew) (fun _ => True) 11 [(0, true), (1, true), (2, true), (3, true), (4, true), (5, true), (6, true), (7, true), (8, true), (9, true), (10, true), (11, false)] (by kernel_rfl) (by kernel_rfl) rfl ?_
            repeat (first | (apply wpPlanZ_free rfl rfl; (intro w; go_simp; (try go_ints); (first | with_reducible rfl | (go_simp; with_reducible rfl))); (intro K hK; go_simp; (try go_ints); refine hK _ _ ?_; clear hK K)) | (apply wpPlanZ_freeG rfl rfl; (intro w; go_simp; (try go_ints); (first | with_reducible rfl | (go_simp; with_reducible rfl))); (intro K hK; go_simp; (try go_ints); refine hK _ _ ?_; clear hK K)))
            apply wpPlanZ_old rfl rfl (by kernel_rfl)
            · intro w hw
              subst hw
              go_simp
              (try go_ints)
              first | with_reducible rfl | (go_simp; with_reducible rfl)
            intro K hK
            go_simp
            (try go_ints)
            refine hK _ _ ?_
            clear hK K
            repeat (first | (apply wpPlanZ_free rfl rfl; (intro w; go_simp; (try go_ints); (first | with_reducible rfl | (go_simp; with_reducible rfl))); (intro K hK; go_simp; (try go_ints); refine hK _ _ ?_; clear hK K)) | (apply wpPlanZ_freeG rfl rfl; (intro w; go_simp; (try go_ints); (first | with_reducible rfl | (go_simp; with_reducible rfl))); (intro K hK; go_simp; (try go_ints); refine hK _ _ ?_; clear hK K)))
            apply wpPlanZ_act rfl rfl (by decide)
            intro K hK
            unfold Oper.wp
            go_simp
            refine hK _ _ trivial ?_
            clear hK K
            refine wpPlanZ_nil ?_
            clear c0
            obtain ⟨xi, xl, xw⟩ := x
            obtain ⟨yi, yl, yw⟩ := y
            have hOd : OwnV w2.heap.size wr.drew.drew (.slice (some ⟨gv, 0, none⟩) LV ca) vs := HOv.out.same fun _ _ => rfl
            have jy : rowLoad Tryz.prog 37 ⟨gv, q * 3, none⟩ wr.drew.drew = .ok (.agg #[.int .i64 yi, .int .u8 (yl : Int), .int .i64 yw]) wr.drew.drew := own_load elV Tryz.isAgg37 Tryz.sizeOf37 hOd hy _ rfl
            have jx : rowLoad Tryz.prog 37 ⟨gv, p * 3, none⟩ wr.drew.drew = .ok (.agg #[.int .i64 xi, .int .u8 (xl : Int), .int .i64 xw]) wr.drew.drew := own_load elV Tryz.isAgg37 Tryz.sizeOf37 hOd hx _ rfl
            obtain ⟨W1, hW1⟩ : ∃ W1, W1 = wr.drew.drew.setCells gv (p * 3) (vtxA (yi, yl, yw)).toList := ⟨_, rfl⟩
            obtain ⟨st1, hO1⟩ := own_store elV Tryz.sizeOf37 hOd hx (yi, yl, yw)
            have hb1 : Below w2.heap.size w2 W1 := by rw [hW1]; exact below_cellsN ((HB.out.drew).drew) hgv hsz _ _
            have hS1 : Same (fun j => j ≠ gv) wr W1 := by rw [hW1]; exact ((Same.drew _ _).trans (Same.drew _ _)).trans (Same.setCells (A := fun j => j ≠ gv) (by simp) _ _ _)
            rw [← hW1] at st1 hO1
            obtain ⟨y', hy'⟩ : ∃ y', (vs.set p (yi, yl, yw))[q]? = some y' := ⟨_, List.getElem?_eq_getElem (by rw [List.length_set]; omega)⟩
            obtain ⟨W2, hW2⟩ : ∃ W2, W2 = W1.setCells gv (q * 3) (vtxA (xi, xl, xw)).toList := ⟨_, rfl⟩
            obtain ⟨st2, hO2⟩ := own_store elV Tryz.sizeOf37 hO1 hy' (xi, xl, xw)
            have hb2 : Below w2.heap.size w2 W2 := by rw [hW2]; exact below_cellsN hb1 hgv hb1.size _ _
            have hS2 : Same (fun j => j ≠ gv) wr W2 := by rw [hW2]; exact hS1.trans (Same.setCells (A := fun j => j ≠ gv) (by simp) _ _ _)
            rw [← hW2] at st2 hO2
            have st1' : rowStore Tryz.prog 37 ⟨gv, p * 3, none⟩ (.agg #[.int .i64 yi, .int .u8 (yl : Int), .int .i64 yw]) wr.drew.drew = .ok () W1 := st1
            have st2' : rowStore Tryz.prog 37 ⟨gv, q * 3, none⟩ (.agg #[.int .i64 xi, .int .u8 (xl : Int), .int .i64 xw]) W1 = .ok () W2 := st2
            have HO2 := Lib.hid hO2
            have HP2 := Lib.hid ((perm_set_swap hx hy).trans HPv.out)
            have HBb2 := Lib.hid hb2
            have HS2 := Lib.hid hS2
            clear hOd hO1 hO2 hb1 hb2 hS1 hS2 hW1 hW2 st1 st2 hx hy hy'
            go_wp2_with fail
            clear hpm hqm
            refine wp_region_mixZ (fun W => W = wr.drew.drew) (fun _ => True) 13 [(0, true), (1, true), (2, true), (3, true), (4, true), (5, true), (6, true), (7, true), (8, true), (9, true), (10, true), (11, true), (12, true), (13, false), (14, true), (15, false)] (by kernel_rfl) (by kernel_rfl) rfl ?_
            repeat (first | (apply wpPlanZ_free rfl rfl; (intro w; go_simp; (try go_ints); (first | with_reducible rfl | (go_simp; with_reducible rfl))); (intro K hK; go_simp; (try go_ints); refine hK _ _ ?_; clear hK K)) | (apply wpPlanZ_freeG rfl rfl; (intro w; go_simp; (try go_ints); (first | with_reducible rfl | (go_simp; with_reducible rfl))); (intro K hK; go_simp; (try go_ints); refine hK _ _ ?_; clear hK K)))
            apply wpPlanZ_old rfl rfl (by kernel_rfl)
            · intro w hw
              subst hw
              go_simp
              (try go_ints)
              first | with_reducible rfl | (go_simp; with_reducible rfl)
            intro K hK
            go_simp
            (try go_ints)
            refine hK _ _ ?_
            clear hK K
            repeat (first | (apply wpPlanZ_free rfl rfl; (intro w; go_simp; (try go_ints); (first | with_reducible rfl | (go_simp; with_reducible rfl))); (intro K hK; go_simp; (try go_ints); refine hK _ _ ?_; clear hK K)) | (apply wpPlanZ_freeG rfl rfl; (intro w; go_simp; (try go_ints); (first | with_reducible rfl | (go_simp; with_reducible rfl))); (intro K hK; go_simp; (try go_ints); refine hK _ _ ?_; clear hK K)))
            apply wpPlanZ_old rfl rfl (by kernel_rfl)
            · intro w hw
              subst hw
              go_simp
              (try go_ints)
              first | with_reducible rfl | (go_simp; with_reducible rfl)
            intro K hK
            go_simp
            (try go_ints)
            refine hK _ _ ?_
            clear hK K
            repeat (first | (apply wpPlanZ_free rfl rfl; (intro w; go_simp; (try go_ints); (first | with_reducible rfl | (go_simp; with_reducible rfl))); (intro K hK; go_simp; (try go_ints); refine hK _ _ ?_; clear hK K)) | (apply wpPlanZ_freeG rfl rfl; (intro w; go_simp; (try go_ints); (first | with_reducible rfl | (go_simp; with_reducible rfl))); (intro K hK; go_simp; (try go_ints); refine hK _ _ ?_; clear hK K)))
            apply wpPlanZ_act rfl rfl (by decide)
            intro K hK
            unfold Oper.wp
            go_simp
            refine hK _ _ trivial ?_
            clear hK K
            repeat (first | (apply wpPlanZ_free rfl rfl; (intro w; go_simp; (try go_ints); (first | with_reducible rfl | (go_simp; with_reducible rfl))); (intro K hK; go_simp; (try go_ints); refine hK _ _ ?_; clear hK K)) | (apply wpPlanZ_freeG rfl rfl; (intro w; go_simp; (try go_ints); (first | with_reducible rfl | (go_simp; with_reducible rfl))); (intro K hK; go_simp; (try go_ints); refine hK _ _ ?_; clear hK K)))
            apply wpPlanZ_act rfl rfl (by decide)
            intro K hK
            unfold Oper.wp
            go_simp
            refine hK _ _ trivial ?_
            clear hK K
            refine wpPlanZ_nil ?_
            have HOvk := HOv
            clear jx jy st1' st2' hpl hql hne HOv HPv
            by_cases he0 : 0 < LE
            · obtain ⟨ge, rfl, hge⟩ : ∃ g', qb = some ⟨g', 0, none⟩ ∧ w2.heap.size ≤ g' := by
                rcases HOe.out.2 with ⟨h, h2⟩ | ⟨g, cap, cur, h, h2, _⟩
                · simp only [Value.slice.injEq] at h; omega
                · simp only [Value.slice.injEq] at h
                  exact ⟨g, h.1, h2⟩
              have hgne : ge ≠ gv := own_ne HOe.out HOvk.out (by decide)
              have HOe2 : Hid (OwnE w2.heap.size W2 (.slice (some ⟨ge, 0, none⟩) LE cb) eds) := Lib.hid (HOe.out.same fun j hj => by
                cases hj
                exact HS2.out.block ge (HOe.out.lt ge rfl) hgne)
              obtain ⟨p, hp⟩ : ∃ p, p = t % LE := ⟨_, rfl⟩
              obtain ⟨q, hq⟩ : ∃ q, q = k % LE := ⟨_, rfl⟩
              have hpl : p < LE := by rw [hp]; exact Nat.mod_lt _ he0
              have hql : q < LE := by rw [hq]; exact Nat.mod_lt _ he0
              have hpm : ((t : Int) % (LE : Int)) = (p : Int) := by rw [hp]; exact (Int.natCast_emod t LE).symm
              have hqm : ((k : Int) % (LE : Int)) = (q : Int) := by rw [hq]; exact (Int.natCast_emod k LE).symm
              obtain ⟨x, hx⟩ : ∃ x, eds[p]? = some x := ⟨_, List.getElem?_eq_getElem (by omega)⟩
              obtain ⟨y, hy⟩ : ∃ y, eds[q]? = some y := ⟨_, List.getElem?_eq_getElem (by omega)⟩
              have hne : ¬ LE = 0 := by omega
              have c0 := HC0.out W2 (HB2.out.trans (HBb2.out.mono HB2.out.size))
              clear hp hq
              go_wp2_with fail
              refine wp_region_mixZ (fun W => W = W2.drew) (fun _ => True) 11 [(0, true), (1, true), (2, true), (3, true), (4, true), (5, true), (6, true), (7, true), (8, true), (9, true), (10, true), (11, false)] (by kernel_rfl) (by kernel_rfl) rfl ?_
              repeat (first | (apply wpPlanZ_free rfl rfl; (intro w; go_simp; (try go_ints); (first | with_reducible rfl | (go_simp; with_reducible rfl))); (intro K hK; go_simp; (try go_ints); refine hK _ _ ?_; clear hK K)) | (apply wpPlanZ_freeG rfl rfl; (intro w; go_simp; (try go_ints); (first | with_reducible rfl | (go_simp; with_reducible rfl))); (intro K hK; go_simp; (try go_ints); refine hK _ _ ?_; clear hK K)))
              apply wpPlanZ_old rfl rfl (by kernel_rfl)
              · intro w hw
                subst hw
                go_simp
                (try go_ints)
                first | with_reducible rfl | (go_simp; with_reducible rfl)
              intro K hK
              go_simp
              (try go_ints)
              refine hK _ _ ?_
              clear hK K
              repeat (first | (apply wpPlanZ_free rfl rfl; (intro w; go_simp; (try go_ints); (first | with_reducible rfl | (go_simp; with_reducible rfl))); (intro K hK; go_simp; (try go_ints); refine hK _ _ ?_; clear hK K)) | (apply wpPlanZ_freeG rfl rfl; (intro w; go_simp; (try go_ints); (first | with_reducible rfl | (go_simp; with_reducible rfl))); (intro K hK; go_simp; (try go_ints); refine hK _ _ ?_; clear hK K)))
              apply wpPlanZ_act rfl rfl (by decide)
              intro K hK
              unfold Oper.wp
              go_simp
              refine hK _ _ trivial ?_
              clear hK K
              refine wpPlanZ_nil ?_
              clear c0
              obtain ⟨⟨xu, xv⟩, xl, xw⟩ := x
              obtain ⟨⟨yu, yv⟩, yl, yw⟩ := y
              have hOe2 : OwnE w2.heap.size W2 (.slice (some ⟨ge, 0, none⟩) LE cb) eds := HOe2.out
              have hOd : OwnE w2.heap.size W2.drew.drew (.slice (some ⟨ge, 0, none⟩) LE cb) eds := hOe2.same fun _ _ => rfl
              have jy : rowLoad Tryz.prog 39 ⟨ge, q * 4, none⟩ W2.drew.drew = .ok (.agg #[.int .i64 yu, .int .i64 yv, .int .u8 (yl : Int), .int .i64 yw]) W2.drew.drew := own_load elE Tryz.isAgg39 Tryz.sizeOf39 hOd hy _ rfl
              have jx : rowLoad Tryz.prog 39 ⟨ge, p * 4, none⟩ W2.drew.drew = .ok (.agg #[.int .i64 xu, .int .i64 xv, .int .u8 (xl : Int), .int .i64 xw]) W2.drew.drew := own_load elE Tryz.isAgg39 Tryz.sizeOf39 hOd hx _ rfl
              obtain ⟨W3, hW3⟩ : ∃ W3, W3 = W2.drew.drew.setCells ge (p * 4) (edgA ((yu, yv), yl, yw)).toList := ⟨_, rfl⟩
              obtain ⟨st1, hO3⟩ := own_store elE Tryz.sizeOf39 hOd hx ((yu, yv), yl, yw)
              have hb3 : Below w2.heap.size w2 W3 := by rw [hW3]; exact below_cellsN ((HBb2.out.drew).drew) hge HBb2.out.size _ _
              have hS3 : Same (fun j => j ≠ ge) W2 W3 := by rw [hW3]; exact ((Same.drew _ _).trans (Same.drew _ _)).trans (Same.setCells (A := fun j => j ≠ ge) (by simp) _ _ _)
              rw [← hW3] at st1 hO3
              obtain ⟨y', hy'⟩ : ∃ y', (eds.set p ((yu, yv), yl, yw))[q]? = some y' := ⟨_, List.getElem?_eq_getElem (by rw [List.length_set]; omega)⟩
              obtain ⟨W4, hW4⟩ : ∃ W4, W4 = W3.setCells ge (q * 4) (edgA ((xu, xv), xl, xw)).toList := ⟨_, rfl⟩
              obtain ⟨st2, hO4⟩ := own_store elE Tryz.sizeOf39 hO3 hy' ((xu, xv), xl, xw)
              have hb4 : Below w2.heap.size w2 W4 := by rw [hW4]; exact below_cellsN hb3 hge hb3.size _ _
              have hS4 : Same (fun j => j ≠ ge) W2 W4 := by rw [hW4]; exact hS3.trans (Same.setCells (A := fun j => j ≠ ge) (by simp) _ _ _)
              rw [← hW4] at st2 hO4
              have st1' : rowStore Tryz.prog 39 ⟨ge, p * 4, none⟩ (.agg #[.int .i64 yu, .int .i64 yv, .int .u8 (yl : Int), .int .i64 yw]) W2.drew.drew = .ok () W3 := st1
              have st2' : rowStore Tryz.prog 39 ⟨ge, q * 4, none⟩ (.agg #[.int .i64 xu, .int .i64 xv, .int .u8 (xl : Int), .int .i64 xw]) W3 = .ok () W4 := st2
              have HP4 : Hid ((((eds.set p ((yu, yv), yl, yw)).set q ((xu, xv), xl, xw)).map nrmE).Perm G.E) := Lib.hid (((perm_set_swap hx hy).map nrmE).trans HPe.out)
              have HO4 := Lib.hid hO4
              have HBb4 := Lib.hid hb4
              have HS4 := Lib.hid hS4
              obtain ⟨eds2, heds2⟩ : ∃ l, l = (eds.set p ((yu, yv), yl, yw)).set q ((xu, xv), xl, xw) := ⟨_, rfl⟩
              have hl2 : eds2.length = LE := by rw [heds2]; simp; omega
              rw [← heds2] at HO4 HP4
              clear hOd hOe2 hO3 hO4 hb3 hb4 hS3 hS4 hW3 hW4 st1 st2 hx hy hy' hpm hqm heds2
              go_wp2_with fail
              refine wp_region_mixZ (fun W => W = W2.drew.drew) (fun _ => True) 13 [(0, true), (1, true), (2, true), (3, true), (4, true), (5, true), (6, true), (7, true), (8, true), (9, true), (10, true), (11, true), (12, true), (13, false), (14, true), (15, false)] (by kernel_rfl) (by kernel_rfl) rfl ?_
              repeat (first | (apply wpPlanZ_free rfl rfl; (intro w; go_simp; (try go_ints); (first | with_reducible rfl | (go_simp; with_reducible rfl))); (intro K hK; go_simp; (try go_ints); refine hK _ _ ?_; clear hK K)) | (apply wpPlanZ_freeG rfl rfl; (intro w; go_simp; (try go_ints); (first | with_reducible rfl | (go_simp; with_reducible rfl))); (intro K hK; go_simp; (try go_ints); refine hK _ _ ?_; clear hK K)))
              apply wpPlanZ_old rfl rfl (by kernel_rfl)
              · intro w hw
                subst hw
                go_simp
                (try go_ints)
                first | with_reducible rfl | (go_simp; with_reducible rfl)
              intro K hK
              go_simp
              (try go_ints)
              refine hK _ _ ?_
              clear hK K
              repeat (first | (apply wpPlanZ_free rfl rfl; (intro w; go_simp; (try go_ints); (first | with_reducible rfl | (go_simp; with_reducible rfl))); (intro K hK; go_simp; (try go_ints); refine hK _ _ ?_; clear hK K)) | (apply wpPlanZ_freeG rfl rfl; (intro w; go_simp; (try go_ints); (first | with_reducible rfl | (go_simp; with_reducible rfl))); (intro K hK; go_simp; (try go_ints); refine hK _ _ ?_; clear hK K)))
              apply wpPlanZ_old rfl rfl (by kernel_rfl)
              · intro w hw
                subst hw
                go_simp
                (try go_ints)
                first | with_reducible rfl | (go_simp; with_reducible rfl)
              intro K hK
              go_simp
              (try go_ints)
              refine hK _ _ ?_
              clear hK K
              repeat (first | (apply wpPlanZ_free rfl rfl; (intro w; go_simp; (try go_ints); (first | with_reducible rfl | (go_simp; with_reducible rfl))); (intro K hK; go_simp; (try go_ints); refine hK _ _ ?_; clear hK K)) | (apply wpPlanZ_freeG rfl rfl; (intro w; go_simp; (try go_ints); (first | with_reducible rfl | (go_simp; with_reducible rfl))); (intro K hK; go_simp; (try go_ints); refine hK _ _ ?_; clear hK K)))
              apply wpPlanZ_act rfl rfl (by decide)
              intro K hK
              unfold Oper.wp
              go_simp
              refine hK _ _ trivial ?_
              clear hK K
              repeat (first | (apply wpPlanZ_free rfl rfl; (intro w; go_simp; (try go_ints); (first | with_reducible rfl | (go_simp; with_reducible rfl))); (intro K hK; go_simp; (try go_ints); refine hK _ _ ?_; clear hK K)) | (apply wpPlanZ_freeG rfl rfl; (intro w; go_simp; (try go_ints); (first | with_reducible rfl | (go_simp; with_reducible rfl))); (intro K hK; go_simp; (try go_ints); refine hK _ _ ?_; clear hK K)))
              apply wpPlanZ_act rfl rfl (by decide)
              intro K hK
              unfold Oper.wp
              go_simp
              refine hK _ _ trivial ?_
              clear hK K
              refine wpPlanZ_nil ?_
              clear jx jy st1' st2' hql
              obtain ⟨z, hz⟩ : ∃ z, eds2[p]? = some z := ⟨_, List.getElem?_eq_getElem (by omega)⟩
              obtain ⟨⟨zu, zv⟩, zt⟩ := z
              obtain ⟨cu, cv, cf⟩ := own_edge_cells HO4.out hz
              have fu := cf (p * 4)
              have fv := cf (p * 4 + 1)
              have hO5 := own_flip HO4.out hz
              have HP5 : Hid (((eds2.set p ((zv, zu), zt)).map nrmE).Perm G.E) := Lib.hid (by
                have := map_set_flip hz
                rw [show ((eds2.set p ((zv, zu), zt)).map nrmE) = eds2.map nrmE from this]
                exact HP4.out)
              have c5 : (W4.setCell ⟨ge, p * 4, none⟩ (.int .i64 zv)).cell? ⟨ge, p * 4 + 1, none⟩ = some (.int .i64 zv) := 
                (World.cell?_setCell_other _ _ _ _ (fun e => by simp only [Addr.mk.injEq] at e; omega)).trans cv
              have f5 : (W4.setCell ⟨ge, p * 4, none⟩ (.int .i64 zv)).frozen? ⟨ge, p * 4 + 1, none⟩ = false := by
                rw [World.frozen?_setCell]
                exact fv
              have HO5 := Lib.hid hO5
              have HBb5 := Lib.hid (((HBb4.out.setCell (p := ⟨ge, p * 4, none⟩) hge (.int .i64 zv)).setCell (p := ⟨ge, p * 4 + 1, none⟩) hge (.int .i64 zu)).drew)
              clear hO5 hz cf
              go_wp2_with fail
              refine wp_region_mixZ (fun W => W = W4.drew) (fun _ => True) 16 [(0, true), (1, true), (2, true), (3, true), (4, true), (5, true), (6, true), (7, true), (8, true), (9, true), (10, true), (11, true), (12, true), (13, true), (14, true), (15, true), (16, false), (17, true), (18, true), (19, false)] (by kernel_rfl) (by kernel_rfl) rfl ?_
              repeat (first | (apply wpPlanZ_free rfl rfl; (intro w; go_simp; (try go_ints); (first | with_reducible rfl | (go_simp; with_reducible rfl))); (intro K hK; go_simp; (try go_ints); refine hK _ _ ?_; clear hK K)) | (apply wpPlanZ_freeG rfl rfl; (intro w; go_simp; (try go_ints); (first | with_reducible rfl | (go_simp; with_reducible rfl))); (intro K hK; go_simp; (try go_ints); refine hK _ _ ?_; clear hK K)))
              apply wpPlanZ_old rfl rfl (by kernel_rfl)
              · intro w hw
                subst hw
                go_simp
                (try go_ints)
                first | with_reducible rfl | (go_simp; with_reducible rfl)
              intro K hK
              go_simp
              (try go_ints)
              refine hK _ _ ?_
              clear hK K
              repeat (first | (apply wpPlanZ_free rfl rfl; (intro w; go_simp; (try go_ints); (first | with_reducible rfl | (go_simp; with_reducible rfl))); (intro K hK; go_simp; (try go_ints); refine hK _ _ ?_; clear hK K)) | (apply wpPlanZ_freeG rfl rfl; (intro w; go_simp; (try go_ints); (first | with_reducible rfl | (go_simp; with_reducible rfl))); (intro K hK; go_simp; (try go_ints); refine hK _ _ ?_; clear hK K)))
              apply wpPlanZ_old rfl rfl (by kernel_rfl)
              · intro w hw
                subst hw
                go_simp
                (try go_ints)
                first | with_reducible rfl | (go_simp; with_reducible rfl)
              intro K hK
              go_simp
              (try go_ints)
              refine hK _ _ ?_
              clear hK K
              repeat (first | (apply wpPlanZ_free rfl rfl; (intro w; go_simp; (try go_ints); (first | with_reducible rfl | (go_simp; with_reducible rfl))); (intro K hK; go_simp; (try go_ints); refine hK _ _ ?_; clear hK K)) | (apply wpPlanZ_freeG rfl rfl; (intro w; go_simp; (try go_ints); (first | with_reducible rfl | (go_simp; with_reducible rfl))); (intro K hK; go_simp; (try go_ints); refine hK _ _ ?_; clear hK K)))
              apply wpPlanZ_act rfl rfl (by decide)
              intro K hK
              unfold Oper.wp
              go_simp
              refine hK _ _ trivial ?_
              clear hK K
              repeat (first | (apply wpPlanZ_free rfl rfl; (intro w; go_simp; (try go_ints); (first | with_reducible rfl | (go_simp; with_reducible rfl))); (intro K hK; go_simp; (try go_ints); refine hK _ _ ?_; clear hK K)) | (apply wpPlanZ_freeG rfl rfl; (intro w; go_simp; (try go_ints); (first | with_reducible rfl | (go_simp; with_reducible rfl))); (intro K hK; go_simp; (try go_ints); refine hK _ _ ?_; clear hK K)))
              apply wpPlanZ_act rfl rfl (by decide)
              intro K hK
              unfold Oper.wp
              go_simp
              refine hK _ _ trivial ?_
              clear hK K
              refine wpPlanZ_nil ?_
              clear cu cv fu fv c5 f5
              go_wp2_with fail
              go_roundw
              case rel =>
                refine ⟨k + 1, _, _, by omega, by go_num, ?_, HP2.out, HO5.out.same fun g hg => rfl, HP5.out, HBb5.out⟩
                refine HO2.out.same fun j hj => ?_
                cases hj
                exact ((heap_setCell_other _ _ gv _ (fun e => hgne e.symm)).trans (heap_setCell_other _ _ gv _ (fun e => hgne e.symm))).trans (HS4.out.block gv (HO2.out.lt gv rfl) (fun e => hgne e.symm))
              case measure => simp [intOf]; omega
            · have hle0 : LE = 0 := by omega
              subst hle0
              go_wp2_with fail
              go_roundw
              case rel => exact ⟨k + 1, _, eds, by omega, by go_num, HO2.out, HP2.out, HOe.out.same fun j hj => HS2.out.block j (HOe.out.lt j hj) (by
                rcases HOe.out.2 with ⟨h, h2⟩ | ⟨g', cap, cur, h, h2, h3⟩
                · rw [h] at hj; cases hj
                · have hoe := HOe.out
                  rw [h] at hj hoe
                  simp only [Value.ownBlock, Option.some.injEq] at hj
                  subst hj
                  exact own_ne hoe HOvk.out (by decide)), HPe.out, HBb2.out⟩
              case measure => simp [intOf]; omega
          · have hle0 := HL0.out (by omega)
            have hv0' : decide ((0 : Int) < (LV : Int)) = false := by simp; omega
            have he0' : decide ((0 : Int) < (LE : Int)) = false := by simp; omega
            have hLV0 : LV = 0 := by omega
            subst hLV0
            subst hle0
            go_wp2_with fail
            go_roundw
            case rel => exact ⟨k + 1, vs, eds, by omega, by go_num, HOv.out, HPv.out, HOe.out, HPe.out, HB.out⟩
            case measure => simp [intOf]; omega
        · have hB5 := HB2.out.trans (HB.out.mono HB2.out.size)
          have HB5 := Lib.hid hB5
          have hrv := HOv.out.rd elV
          have hre := HOe.out.rd elE
          have HBd := Lib.hid (gbuild_perm G HG.out vs eds HPv.out HPe.out _ _ wr hrv hre)
          clear hrv hre hB5
          go_wp2_with fail
          refine HBd.out.mono ?_
          rintro r w6 ⟨g2, bV2, bE2, rfl, hG6, ⟨hn1, hn2, hn3⟩, hb6⟩
          have HG6 := Lib.hid hG6
          have HB6 := Lib.hid (HB5.out.trans (hb6.mono HB5.out.size))
          have HGo := Lib.hid (((HG2.out.below HB.out).below hb6))
          have hgo := (HG2.out.below HB.out).lt
          have hAp := gapply_any plus1000 plus_wf (.inl rfl) g2 bV2 bE2 G HG.out w6 hG6
          obtain ⟨en, hen⟩ : ∃ n, n = G.wrong plus1000 := ⟨_, rfl⟩
          rw [← hen] at hAp
          have HAp := Lib.hid hAp
          have HEn := Lib.hid hen
          clear hG6 hb6 hAp hen HBd
          go_wp2_with fail
          refine HAp.out.mono ?_
          rintro r w7 ⟨rfl, hG7, hS7⟩
          have hsr := HB5.out.size
          have hs6 := HB6.out.size
          have hB7 : Below w.heap.size w w7 := HB6.out.trans (hS7.below hs6 fun j hj => by omega)
          have hgo7 : GOk w7 g bV bE G := HGo.out.congr (hS7.block _ HGo.out.lt.1 (by omega)) (hS7.block _ HGo.out.lt.2.1 (by omega)) (hS7.block _ HGo.out.lt.2.2 (by omega))
          have hs67 := hS7.size
          by_cases h0 : en = 0
          · have hap : (G.app plus1000).app drop1000 = G := plus_drop HG.out (HEn.out.symm.trans h0)
            have hA2 := gapply1_any drop1000 drop_wf rfl g2 bV2 bE2 (G.app plus1000) (HG.out.app plus_wf) w7 hG7
            rw [hap] at hA2
            have HA2 := Lib.hid hA2
            have HB7 := Lib.hid hB7
            have HGo7 := Lib.hid hgo7
            clear hA2 hap hG7 hS7 hB7 hgo7 HEn HAp
            subst h0
            go_wp2_with fail
            refine HA2.out.mono ?_
            rintro r w8 ⟨rfl, hG8, hS8⟩
            have hB8 : Below w.heap.size w w8 := HB7.out.trans (hS8.below HB7.out.size fun j hj => by omega)
            have hgo8 : GOk w8 g bV bE G := HGo7.out.congr (hS8.block _ HGo7.out.lt.1 (by omega)) (hS8.block _ HGo7.out.lt.2.1 (by omega)) (hS8.block _ HGo7.out.lt.2.2 (by omega))
            obtain ⟨tx, htx⟩ : ∃ tx, tx = G.text := ⟨_, rfl⟩
            have hF1 := format_any g2 bV2 bE2 G HG.out w8 hG8 ((HT.out.on hB8).2)
            rw [← htx] at hF1
            have HF1 := Lib.hid hF1
            have HF2 := Lib.hid fun W (hw : Below w8.heap.size w8 W) => (show Calls Tryz.prog 20 #[.pointer (some ⟨g, 0, none⟩)] W fun e w' => e = .returned (.string ⟨tx.toArray⟩) ∧ Below W.heap.size W w' from by
              have := format_any g bV bE G HG.out W (GOk.below hgo8 hw) ((HT.out.on (hB8.trans (hw.mono hB8.size))).2)
              rwa [← htx] at this)
            have HBx := Lib.hid hB8
            clear hF1 htx hG8 hB8 hgo8
            go_wp2_with fail
            refine HF1.out.mono ?_
            rintro r w9 ⟨rfl, hb9⟩
            have HF3 := Lib.hid (HF2.out w9 hb9)
            have HB9 := Lib.hid (HBx.out.trans (hb9.mono HBx.out.size))
            clear hb9 HF1 HF2 HBx
            go_wp2_with fail
            refine HF3.out.mono ?_
            rintro r w10 ⟨rfl, hb10⟩
            have HB10 := Lib.hid (HB9.out.trans (hb10.mono HB9.out.size))
            clear hb10 HF3
            go_wp2_with fail
            go_ret
            exact ⟨by simp, HB10.out⟩
          · have hap : G.app plus1000 = G := by unfold Gr.app; rw [← HEn.out, if_neg h0]
            rw [hap] at hG7
            have h1 : ((en : Int) == 0) = false := by simpa using h0
            have h2 : (en == 0) = false := by simpa using h0
            clear hap hS7 HEn HAp
            obtain ⟨tx, htx⟩ : ∃ tx, tx = G.text := ⟨_, rfl⟩
            have hF1 := format_any g2 bV2 bE2 G HG.out w7 hG7 ((HT.out.on hB7).2)
            rw [← htx] at hF1
            have HF1 := Lib.hid hF1
            have HF2 := Lib.hid fun W (hw : Below w7.heap.size w7 W) => (show Calls Tryz.prog 20 #[.pointer (some ⟨g, 0, none⟩)] W fun e w' => e = .returned (.string ⟨tx.toArray⟩) ∧ Below W.heap.size W w' from by
              have := format_any g bV bE G HG.out W (GOk.below hgo7 hw) ((HT.out.on (hB7.trans (hw.mono hB7.size))).2)
              rwa [← htx] at this)
            have HBx := Lib.hid hB7
            clear hF1 htx hG7 hB7 hgo7
            go_wp2_with fail
            refine HF1.out.mono ?_
            rintro r w9 ⟨rfl, hb9⟩
            have HF3 := Lib.hid (HF2.out w9 hb9)
            have HB9 := Lib.hid (HBx.out.trans (hb9.mono HBx.out.size))
            clear hb9 HF1 HF2 HBx
            go_wp2_with fail
            refine HF3.out.mono ?_
            rintro r w10 ⟨rfl, hb10⟩
            have HB10 := Lib.hid (HB9.out.trans (hb10.mono HB9.out.size))
            clear hb10 HF3
            go_wp2_with fail
            go_ret
            exact ⟨by simp, HB10.out⟩
    · have hd1 : decide ((100 : Int) < (ts.length : Int)) = true := by simp; omega
      have hd2 : decide (100 < ts.length) = true := by simp; omega
      go_wp2_with fail
      refine (HK.out _ HB2.out).mono ?_
      rintro r w3 ⟨rfl, hb3⟩
      have HB3 := Lib.hid (HB2.out.trans (hb3.mono HB2.out.size))
      clear hb3
      go_wp2_with fail
      go_ret
      exact ⟨rfl, HB3.out⟩
end Go.Proofs.YtiojidabmlbogaaGreatDoor
