/-
  The walk of the statement TopTreeClusters.
-/
import Derived.Test.YtkoeeabeoefggaaGreatDoorQRefM
namespace Go.Proofs.YtkoeeabeoefggaaGreatDoor
open Go Go.RowKit Go.Pal Go.Shelf

theorem kids_len (fl : List TNd) (c : Ct) (h : fl = c.flat 0) : ∀ (i : Nat) (x : TNd), fl[i]? = some x → x.kids.length ≤ fl.length := by
  intro i x hx
  subst h
  have hk := Ct.flat_kids 0 c i x hx
  have hil := (List.getElem?_eq_some_iff.1 hx).1
  have key : ∀ (c : Ct) (b i : Nat) (x : TNd), (c.flat b)[i]? = some x → x.kids.Nodup := by
    intro c
    induction c using Ct.induct with
    | h kd g s ps ih =>
      intro b i x hx
      rw [Ct.flat] at hx
      by_cases h : i < (Ct.flats b ps).length
      · rw [List.getElem?_append_left h] at hx
        have key2 : ∀ (ps : List Ct), (∀ c ∈ ps, ∀ (b i : Nat) (x : TNd), (c.flat b)[i]? = some x → x.kids.Nodup) → ∀ (b i : Nat) (x : TNd), (Ct.flats b ps)[i]? = some x → x.kids.Nodup := by
          intro ps
          induction ps with
          | nil => intro _ b i x hx; simp [Ct.flats] at hx
          | cons d ds ih2 =>
            intro h b i x hx
            rw [Ct.flats] at hx
            by_cases h1 : i < (d.flat b).length
            · rw [List.getElem?_append_left h1] at hx
              exact h d (by simp) b i x hx
            · rw [List.getElem?_append_right (by omega)] at hx
              exact ih2 (fun c hc => h c (by simp [hc])) _ _ x hx
        exact key2 ps ih b i x hx
      · rw [List.getElem?_append_right (by omega)] at hx
        have h0 : i - (Ct.flats b ps).length = 0 := by
          rcases Nat.eq_zero_or_pos (i - (Ct.flats b ps).length) with h0 | h0
          · exact h0
          · rw [List.getElem?_eq_none (by simp; omega)] at hx; cases hx
        rw [h0] at hx
        simp at hx
        subst hx
        exact (Ct.tops_nodup b ps).1
  have := length_le_of (l1 := x.kids) (l2 := List.range (c.flat 0).length) (key c 0 i x hx) fun p hp => List.mem_range.2 (by have := hk p hp; omega)
  rwa [List.length_range] at this

set_option maxRecDepth 20000 in
set_option maxHeartbeats 10000000 in
theorem clusters_any (hKnown : ∀ w, Tabs w → Calls Tryz.prog 5 #[] w fun e w' => e = .returned (.bool true) ∧ Below w.heap.size w w') (T : List Bg) (v : Value) (at0 : Int) (ha0 : -9223372036854775808 ≤ at0) (ha1 : at0 ≤ 9223372036854775807) (w : World) (hv : Rd bagA 17 w.heap.size w v T) (hcap : capOk v) (hlen : T.length ≤ 9223372036854775807) (hS : ∀ x ∈ T, IsSet x.2) (hp : ∀ x ∈ T, -9223372036854775808 ≤ x.1 ∧ x.1 ≤ 9223372036854775807) (hT : Tabs w) :
    Calls Tryz.prog 3 #[v, .int .i64 at0] w fun e w' => e = .returned (.bool true) ∧ Below w.heap.size w w' := by
  have HM := Lib.hid (made_any T v w hv hcap hlen hS hp hT)
  have HK := Lib.hid hKnown
  have HT := Lib.hid hT
  have HS := Lib.hid hS
  obtain ⟨va, vc, rfl, -⟩ := hv
  clear hcap hS hp hT hKnown
  go_enter Tryz.func3, Tryz.ntmps3
  go_wp2_with fail
  refine HM.out.mono ?_
  rintro e w1 ⟨hM1, hb1⟩
  have HB1 := Lib.hid hb1
  have HT1 := Lib.hid (HT.out.on hb1)
  clear hb1 HM
  rcases hM1 with ⟨tv, rfl⟩ | ⟨gf, gt, tv, t, l, c, rfl, h24, hVal, hnd, hl, hc, hcs, hF, hO, hR⟩
  · go_wp2_with fail
    refine (HK.out w1 HT1.out).mono ?_
    rintro e w2 ⟨rfl, hb2⟩
    have HB2 := Lib.hid (HB1.out.trans (hb2.mono HB1.out.size))
    have HT2 := Lib.hid (HT1.out.on hb2)
    clear hb2 HB1
    go_wp2_with fail
    refine (HK.out w2 HT2.out).mono ?_
    rintro e w3 ⟨rfl, hb3⟩
    have HB3 := Lib.hid (HB2.out.trans (hb3.mono HB2.out.size))
    clear hb3 HB2
    go_wp2_with fail
    go_ret
    exact ⟨rfl, HB3.out⟩
  · have HVal := Lib.hid hVal
    have HND := Lib.hid hnd
    have HL := Lib.hid hl
    have HC := Lib.hid hc
    have HF := Lib.hid hF
    have HO := Lib.hid hO
    have HR := Lib.hid hR
    obtain ⟨ta, tc, rfl⟩ : ∃ a c, tv = .slice a T.length c := by obtain ⟨a, c, h, -⟩ := hR; exact ⟨a, c, h⟩
    clear hVal hnd hl hc hF hO hR
    go_wp2_with fail
    refine (HK.out w1 HT1.out).mono ?_
    rintro e w2 ⟨rfl, hb2⟩
    have HB2 := Lib.hid (HB1.out.trans (hb2.mono HB1.out.size))
    have HO2 := Lib.hid (HO.out.below hb2)
    have HR2 := Lib.hid (HR.out.below hb2)
    clear hb2 HB1 HO HR HF
    go_wp2_with fail
    refine (r46new_any T t HVal.out _ w2 HR2.out l HL.out c HC.out hcs).mono ?_
    rintro e w3 ⟨lv, M, rfl, hN3, hM3, hb3⟩
    obtain ⟨fl, hfl⟩ : ∃ fl, fl = c.flat 0 := ⟨_, rfl⟩
    have hflen : fl.length = c.sz := by rw [hfl, Ct.flat_length]
    have hpos := c.sz_pos
    have hRN : RefN w3 lv fl := ⟨_, M, hN3, by rw [hM3, hfl]⟩
    have hUT := c.upTree
    rw [← hfl] at hUT
    have hmx := mxF_deep c
    rw [← hfl] at hmx
    have hUp : ∀ i : Nat, i < fl.length → upR fl (i : Int) = upsTo fl fl.length i := fun i _ => by rw [hfl]; exact upR_eq c i
    have hLeaf : ∀ b, b < T.length → ∃ j : Nat, j < fl.length ∧ leafR fl (b : Int) = (j : Int) ∧ leafsTo fl fl.length b = (j : Int) := fun b hb => by rw [hfl]; exact leaves HVal.out HND.out HL.out HC.out b hb
    have hKL := kids_len fl c hfl
    have hO3 := HO2.out.below hb3
    rw [← hfl] at hO3
    have hdp : c.deep ≤ c.sz := Ct.deep_le_sz c
    have hct := (Cl.count HC.out (fun r hr u hu => labs_nodup_ks (labs_nodup_sub ((hpath_sub HL.out .self r hr).trans hu) HND.out))).1 rfl
    rw [HL.out.sumW, HVal.out.all] at hct
    have h96 : fl.length ≤ 96 := by omega
    have hTf : T.length ≤ fl.length := by omega
    have hLies : Lies fl 0 c := fun k x hx => by rw [hfl, Nat.zero_add]; exact hx
    have HDeep := Lib.hid fun w' (hw : RefN w' lv fl) => rdeep_any fl (by omega) c 0 hLies lv w' hw
    rw [show 0 + c.sz - 1 = fl.length - 1 by omega] at HDeep
    obtain ⟨la, lc, rfl⟩ := hRN.sl
    have HRN := Lib.hid hRN
    have HUT := Lib.hid hUT
    have HMX := Lib.hid hmx
    have HUp := Lib.hid hUp
    have HLeaf := Lib.hid hLeaf
    have HKL := Lib.hid hKL
    have HO3 := Lib.hid hO3
    have HB3 := Lib.hid (HB2.out.trans (hb3.mono HB2.out.size))
    have hn100 : fl.length ≤ 100000 := by omega
    have hfp : 0 < fl.length := by omega
    have hdp2 : c.deep ≤ 100000 := by omega
    clear hct hN3 hM3 hb3 hfl hflen hRN hUT hmx hUp hLeaf hKL hO3 hdp hLies HB2 HO2 HR2 hpos hcs
    go_wp2_with fail
    refine (tlen_any gt gf T t fl w3 HO3.out).mono ?_
    rintro e w4 ⟨rfl, rfl⟩
    go_wp2_with fail
    refine (troot_any gt gf T t fl w4 HO3.out hfp hn100).mono ?_
    rintro e w5 ⟨rfl, rfl⟩
    have e1 : ((fl.length - 1 : Nat) : Int) = (fl.length : Int) - 1 := by omega
    rw [e1]
    go_wp2_with fail
    have hdd := tdepth_any gt gf T t fl w5 HO3.out hn100 _ HUT.out
    rw [HMX.out] at hdd
    refine hdd.mono ?_
    clear hdd
    rintro e w6 ⟨rfl, hb6⟩
    have HO6 := Lib.hid (HO3.out.below hb6)
    have HRN6 := Lib.hid (HRN.out.below hb6)
    have HB6 := Lib.hid (HB3.out.trans (hb6.mono HB3.out.size))
    clear hb6
    go_wp2_with fail
    have hde := HDeep.out w6 HRN6.out
    rw [e1] at hde
    refine hde.mono ?_
    clear hde
    rintro e w7 ⟨rfl, rfl⟩
    go_wp2_with fail
    refine (ttFrame_any gt gf T t fl w7 HO6.out).mono ?_
    rintro e w8 ⟨rfl, rfl⟩
    go_wp2_with fail
    have hFr : FrameOk w8 gf T t := by obtain ⟨_, _, _, _, _, _, _, _, _, _, h, _⟩ := HO6.out; exact h
    refine (fEqual_self gf T t w8 hFr (by omega)).mono ?_
    clear hFr
    rintro e w9 ⟨rfl, hb9⟩
    have HO9 := Lib.hid (HO6.out.below hb9)
    have HRN9 := Lib.hid (HRN6.out.below hb9)
    have HB9 := Lib.hid (HB6.out.trans (hb9.mono HB6.out.size))
    clear hb9 HO6 HO3 HRN HRN6 HB6 HB3 HDeep HMX e1
    go_wp2_with fail
    clear HT HK HT1
    go_loopw [10, 11, 12] (fun i _ _ wr => ∃ k : Nat, k ≤ fl.length ∧ i = .int .i64 (k : Int) ∧ TtOk wr gt gf T t fl ∧ RefN wr (.slice la fl.length lc) fl ∧ Below w.heap.size w wr) (fun i _ _ _ => fl.length - (intOf i).toNat)
    case atStart => exact ⟨0, by omega, rfl, HO9.out, HRN9.out, HB9.out⟩
    case round =>
      obtain ⟨k, hk, rfl, hO, hRN, hb⟩ := hrel
      have hsz := hb.size
      have HOr := Lib.hid hO
      have HRr := Lib.hid hRN
      have HBr := Lib.hid hb
      clear hO hRN hb HO9 HRN9 HB9
      by_cases hlt : k < fl.length
      · obtain ⟨gr, cr, x, qp, cp, qh, ch, hv2, hx, hcc⟩ := HRr.out.at hlt
        simp only [Value.slice.injEq] at hv2
        obtain ⟨rfl, -, rfl⟩ := hv2
        have hxl := HKL.out k x hx
        have HCC := Lib.hid hcc
        have HX := Lib.hid hx
        have HNode := Lib.hid (tnode_any gt gf T t fl wr HOr.out k x hx (by omega))
        clear hcc hx
        go_wp2_with fail
        refine HNode.out.mono ?_
        rintro e w2 ⟨v2, rfl, hO2, hb2⟩
        have HO2 := Lib.hid hO2
        obtain ⟨q2, c2, rfl⟩ := hO2.sl
        rw [List.length_map]
        have hone := TN.allOne ⟨x, .slice q2 x.kids.length c2⟩ ⟨_, _, _, rfl⟩
        have HB2 := Lib.hid hb2
        have hs2 := hb2.size
        clear hO2 hb2 HNode
        go_wp2_with fail
        obtain ⟨Wa, hWa⟩ : ∃ Wa, Wa = w2.alloc (Obj.cells (TN.cells ⟨x, .slice q2 x.kids.length c2⟩) 42) := ⟨_, rfl⟩
        have hb2a : Below w2.heap.size w2 Wa := by rw [hWa]; exact (Below.refl _ _).alloc (Nat.le_refl _) _
        have hba : Below wr.heap.size wr Wa := HB2.out.trans (hb2a.mono hs2)
        have hra : row? Wa w2.heap.size = some (TN.cells ⟨x, .slice q2 x.kids.length c2⟩) := by rw [hWa]; exact row?_alloc_at _ _ _ _ rfl
        have hsa : Wa.heap.size = w2.heap.size + 1 := by rw [hWa]; simp
        have hls : RdL Wa (.slice q2 x.kids.length c2) (x.kids.map fun i : Nat => (i : Int)) := by have := HO2.out.rdl.below hb2a; rw [List.length_map] at this; exact this
        rw [← hWa]
        have F : ∀ W, Below Wa.heap.size Wa W → W.cell? ⟨w2.heap.size, 0, none⟩ = some (.int .i64 (x.kind : Int)) ∧ W.cell? ⟨w2.heap.size, 1, none⟩ = some (.int .i64 (x.bag : Int)) ∧ W.cell? ⟨w2.heap.size, 2, none⟩ = some (.slice q2 x.kids.length c2) ∧ rowLoad Tryz.prog 40 ⟨w2.heap.size, 3, none⟩ W = .ok (.agg (words x.bnd)) W ∧
            W.cell? ⟨gr, k * 4, none⟩ = some (.int .i64 (x.kind : Int)) ∧ W.cell? ⟨gr, k * 4 + 1, none⟩ = some (.int .i64 (x.bag : Int)) ∧ W.cell? ⟨gr, k * 4 + 2, none⟩ = some (.slice qp x.kids.length cp) ∧ W.cell? ⟨gr, k * 4 + 3, none⟩ = some (.slice qh (elemsI x.bnd).length ch) := fun W h => by
          have e5 := (row?_below h (by omega)).trans hra
          obtain ⟨j1, j2, j3, j4, -, -⟩ := HCC.out W (hba.trans (h.mono hba.size))
          exact ⟨(cell?_row e5).trans (TN.cell0 ⟨x, .slice q2 x.kids.length c2⟩), (cell?_row e5).trans (TN.cell1 ⟨x, .slice q2 x.kids.length c2⟩), (cell?_row e5).trans (TN.cell2 ⟨x, .slice q2 x.kids.length c2⟩), load_bnd (x := ⟨x, .slice q2 x.kids.length c2⟩) e5, j1, j2, j3, j4⟩
        have HFF := Lib.hid F
        have HLS := Lib.hid hls
        have HBA := Lib.hid hba
        have hia : Below w.heap.size w Wa := HBr.out.trans (hba.mono hsz)
        have HIA := Lib.hid hia
        have HOa := Lib.hid (HOr.out.below hba)
        have HRa := Lib.hid (HRr.out.below hba)
        clear F hls hba hra hb2a hWa hone hia HO2 HB2
        refine wp_region_mix (fun W => Below Wa.heap.size Wa W) 53 [(0, true), (1, true), (2, true), (3, true), (4, true), (5, true), (6, true), (7, true), (8, true), (9, true), (10, true), (11, true), (12, true), (13, true), (14, true), (15, true), (16, true), (17, true), (18, true), (19, true), (20, true), (21, true), (22, true), (23, true), (24, true), (25, true), (26, true), (27, true), (28, true), (29, true), (30, false), (31, true), (32, true), (33, true), (34, true), (35, true), (37, true), (38, true), (39, true), (40, true), (41, true), (36, false), (42, false), (43, true), (44, true), (45, true), (46, true), (47, true), (49, true), (50, true), (48, false), (51, false), (52, true)] (by kernel_rfl) (by kernel_rfl) (Below.refl _ _).drew ?_
        repeat (first | (apply wpPlan_still rfl rfl; (intro w hw; obtain ⟨k1, k2, k3, k4, k5, k6, k7, k8⟩ := HFF.out _ hw; clear hw; go_simp; (try go_ints); (first | with_reducible rfl | (go_simp; with_reducible rfl))); (intro K hK; go_simp; (try go_ints); refine hK _ _ ?_; clear hK K)) | (apply wpPlan_stillG rfl rfl; (intro w hw; obtain ⟨k1, k2, k3, k4, k5, k6, k7, k8⟩ := HFF.out _ hw; clear hw; go_simp; (try go_ints); (first | with_reducible rfl | (go_simp; with_reducible rfl))); (intro K hK; go_simp; (try go_ints); refine hK _ _ ?_; clear hK K)))
        apply wpPlan_actG (by simp only [List.getElem?_toArray, List.getElem?_cons_succ, List.getElem?_cons_zero]; rfl) (by rfl)
        intro K hK
        unfold Oper.wp
        go_simp
        refine (ints_any _ _ _ _ _ (HLS.out.below (Below.refl _ _).drew) (HCC.out Wa.drew (HBA.out.drew)).2.2.2.2.1 (by rw [List.length_map]; omega)).mono ?_
        rintro e Wb ⟨rfl, hbb⟩
        rw [decide_eq_true rfl]
        have hbb' : Below Wa.heap.size Wa Wb := (Below.refl _ _).drew.trans hbb
        have HBb := Lib.hid hbb'
        refine hK _ _ hbb' ?_
        clear hK K hbb hbb'
        repeat (first | (apply wpPlan_still rfl rfl; (intro w hw; obtain ⟨k1, k2, k3, k4, k5, k6, k7, k8⟩ := HFF.out _ hw; clear hw; go_simp; (try go_ints); (first | with_reducible rfl | (go_simp; with_reducible rfl))); (intro K hK; go_simp; (try go_ints); refine hK _ _ ?_; clear hK K)) | (apply wpPlan_stillG rfl rfl; (intro w hw; obtain ⟨k1, k2, k3, k4, k5, k6, k7, k8⟩ := HFF.out _ hw; clear hw; go_simp; (try go_ints); (first | with_reducible rfl | (go_simp; with_reducible rfl))); (intro K hK; go_simp; (try go_ints); refine hK _ _ ?_; clear hK K)))
        apply wpPlan_actG (by simp only [List.getElem?_toArray, List.getElem?_cons_succ, List.getElem?_cons_zero]; rfl) (by rfl)
        intro K hK
        unfold Oper.wp
        go_simp
        refine (l01To_any x.bnd Wb).mono ?_
        rintro e Wc ⟨vc3, rfl, hOc, hbc⟩
        have hbc' := HBb.out.trans (hbc.mono HBb.out.size)
        have HBc := Lib.hid hbc'
        have HOc := Lib.hid hOc.rdl
        obtain ⟨ac, cc3, rfl⟩ := hOc.sl
        refine hK _ _ hbc' ?_
        clear hK K hbc hbc' hOc HBb
        repeat (first | (apply wpPlan_still rfl rfl; (intro w hw; obtain ⟨k1, k2, k3, k4, k5, k6, k7, k8⟩ := HFF.out _ hw; clear hw; go_simp; (try go_ints); (first | with_reducible rfl | (go_simp; with_reducible rfl))); (intro K hK; go_simp; (try go_ints); refine hK _ _ ?_; clear hK K)) | (apply wpPlan_stillG rfl rfl; (intro w hw; obtain ⟨k1, k2, k3, k4, k5, k6, k7, k8⟩ := HFF.out _ hw; clear hw; go_simp; (try go_ints); (first | with_reducible rfl | (go_simp; with_reducible rfl))); (intro K hK; go_simp; (try go_ints); refine hK _ _ ?_; clear hK K)))
        apply wpPlan_actG (by simp only [List.getElem?_toArray, List.getElem?_cons_succ, List.getElem?_cons_zero]; rfl) (by rfl)
        intro K hK
        unfold Oper.wp
        go_simp
        refine (rsame_same _ _ _ Wc HOc.out (HCC.out Wc (HBA.out.trans (HBc.out.mono HBA.out.size))).2.2.2.2.2.1 (by have := elemsI_length x.bnd; omega)).mono ?_
        rintro e Wd ⟨rfl, hbd⟩
        have hbd' := HBc.out.trans (hbd.mono HBc.out.size)
        have HBd := Lib.hid hbd'
        refine hK _ _ hbd' ?_
        clear hK K hbd hbd' HBc HOc
        repeat (first | (apply wpPlan_still rfl rfl; (intro w hw; obtain ⟨k1, k2, k3, k4, k5, k6, k7, k8⟩ := HFF.out _ hw; clear hw; go_simp; (try go_ints); (first | with_reducible rfl | (go_simp; with_reducible rfl))); (intro K hK; go_simp; (try go_ints); refine hK _ _ ?_; clear hK K)) | (apply wpPlan_stillG rfl rfl; (intro w hw; obtain ⟨k1, k2, k3, k4, k5, k6, k7, k8⟩ := HFF.out _ hw; clear hw; go_simp; (try go_ints); (first | with_reducible rfl | (go_simp; with_reducible rfl))); (intro K hK; go_simp; (try go_ints); refine hK _ _ ?_; clear hK K)))
        apply wpPlan_actG (by simp only [List.getElem?_toArray, List.getElem?_cons_succ, List.getElem?_cons_zero]; rfl) (by rfl)
        intro K hK
        unfold Oper.wp
        go_simp
        refine (tparent_any gt gf T t fl Wd (HOa.out.below HBd.out) k hlt).mono ?_
        rintro e We ⟨rfl, rfl⟩
        refine hK _ _ HBd.out ?_
        clear hK K
        repeat (first | (apply wpPlan_still rfl rfl; (intro w hw; obtain ⟨k1, k2, k3, k4, k5, k6, k7, k8⟩ := HFF.out _ hw; clear hw; go_simp; (try go_ints); (first | with_reducible rfl | (go_simp; with_reducible rfl))); (intro K hK; go_simp; (try go_ints); refine hK _ _ ?_; clear hK K)) | (apply wpPlan_stillG rfl rfl; (intro w hw; obtain ⟨k1, k2, k3, k4, k5, k6, k7, k8⟩ := HFF.out _ hw; clear hw; go_simp; (try go_ints); (first | with_reducible rfl | (go_simp; with_reducible rfl))); (intro K hK; go_simp; (try go_ints); refine hK _ _ ?_; clear hK K)))
        apply wpPlan_actG (by simp only [List.getElem?_toArray, List.getElem?_cons_succ, List.getElem?_cons_zero]; rfl) (by rfl)
        intro K hK
        unfold Oper.wp
        go_simp
        have hup := rup_any fl _ (k : Int) We (HRa.out.below HBd.out) (by omega) (fun y hy => by
          obtain ⟨j, hj⟩ := List.mem_iff_getElem?.1 hy
          have := HKL.out j y hj
          omega)
        rw [HUp.out k hlt] at hup
        refine hup.mono ?_
        rintro e Wf ⟨rfl, rfl⟩
        refine hK _ _ HBd.out ?_
        clear hK K hup
        repeat (first | (apply wpPlan_still rfl rfl; (intro w hw; obtain ⟨k1, k2, k3, k4, k5, k6, k7, k8⟩ := HFF.out _ hw; clear hw; go_simp; (try go_ints); (first | with_reducible rfl | (go_simp; with_reducible rfl))); (intro K hK; go_simp; (try go_ints); refine hK _ _ ?_; clear hK K)) | (apply wpPlan_stillG rfl rfl; (intro w hw; obtain ⟨k1, k2, k3, k4, k5, k6, k7, k8⟩ := HFF.out _ hw; clear hw; go_simp; (try go_ints); (first | with_reducible rfl | (go_simp; with_reducible rfl))); (intro K hK; go_simp; (try go_ints); refine hK _ _ ?_; clear hK K)))
        refine wpPlan_nil ?_
        simp only [List.drop_succ_cons, List.drop_zero]
        go_wp2_with fail
        exact ⟨⟨k + 1, by omega, by go_num, HOa.out.below HBd.out, HRa.out.below HBd.out, HIA.out.trans (HBd.out.mono HIA.out.size)⟩, by simp [intOf]; omega⟩
      · have hkn : k = fl.length := by omega
        subst hkn
        obtain ⟨wo, rfl⟩ : ∃ wo : World, wo = wr := ⟨_, rfl⟩
        have hsz2 := hsz
        clear hlt hk hsz2
        go_wp2_with fail
        go_loopw [13, 14, 15] (fun i _ _ wr => ∃ k : Nat, k ≤ T.length ∧ i = .int .i64 (k : Int) ∧ TtOk wr gt gf T t fl ∧ RefN wr (.slice la fl.length lc) fl ∧ Below w.heap.size w wr) (fun i _ _ _ => T.length - (intOf i).toNat)
        case atStart => exact ⟨0, by omega, rfl, HOr.out, HRr.out, HBr.out⟩
        case round =>
          obtain ⟨k, hk, rfl, hO, hRN, hb⟩ := hrel
          have hszr := hb.size
          have HO2 := Lib.hid hO
          have HR2 := Lib.hid hRN
          have HB2 := Lib.hid hb
          clear hO hRN hb HOr HRr HBr
          by_cases hlt : k < T.length
          · obtain ⟨j, hj, hl1, hl2⟩ := HLeaf.out k hlt
            have hLo := tleaf_any gt gf T t fl wr HO2.out k hlt
            rw [hl2] at hLo
            have HLo := Lib.hid hLo
            have hLr := rleaf_any fl _ (k : Int) wr HR2.out (by omega)
            rw [hl1] at hLr
            have HLr := Lib.hid hLr
            obtain ⟨pl, hp1, hp2, hp3⟩ := HUT.out.path_ex hj
            have hpl : pl.length ≤ 100000 := by
              have := (HUT.out.dpt_le hj).2.1
              omega
            have HPa := Lib.hid (tpath_any gt gf T t fl wr HO2.out k hlt j hl2 pl hp1 hpl)
            have HPb := Lib.hid fun w' (hw : RefN w' (.slice la fl.length lc) fl) => rpath_any fl (by omega) (fun y hy => by
              obtain ⟨j, hj⟩ := List.mem_iff_getElem?.1 hy
              have := HKL.out j y hj
              omega) HUp.out k j hl1 pl hp1 hpl _ w' hw
            clear hLo hLr hl1 hl2 hp1 hp2 hp3
            go_wp2_with fail
            refine HLo.out.mono ?_
            rintro e w2 ⟨rfl, rfl⟩
            clear HLo
            go_wp2_with fail
            refine HLr.out.mono ?_
            rintro e w3 ⟨rfl, rfl⟩
            clear HLr
            go_wp2_with fail
            refine HPa.out.mono ?_
            rintro e w4 ⟨v4, rfl, hO4, hb4⟩
            have hv4 := hO4.rdl
            obtain ⟨q4, c4, rfl⟩ := hO4.sl
            rw [List.length_map] at hv4 ⊢
            have HV4 := Lib.hid hv4
            clear hv4
            have HB4 := Lib.hid (HB2.out.trans (hb4.mono hszr))
            have HOk4 := Lib.hid (HO2.out.below hb4)
            have HR4 := Lib.hid (HR2.out.below hb4)
            clear hO4 hb4 HPa HB2 HO2 HR2
            go_wp2_with fail
            refine (HPb.out w4 HR4.out).mono ?_
            rintro e w5 ⟨v5, rfl, hO5, hb5⟩
            have hi5 := ints_any _ _ _ v5 w5 (HV4.out.below hb5) hO5.rdl (by rw [List.length_map]; omega)
            obtain ⟨q5, c5, rfl⟩ := hO5.sl
            rw [List.length_map] at hi5 ⊢
            rw [decide_eq_true rfl] at hi5
            have HI := Lib.hid hi5
            clear hi5
            have HB5 := Lib.hid (HB4.out.trans (hb5.mono HB4.out.size))
            have HOk5 := Lib.hid (HOk4.out.below hb5)
            have HR5 := Lib.hid (HR4.out.below hb5)
            clear hO5 hb5 HPb HB4 HOk4 HR4 HV4
            go_wp2_with fail
            refine HI.out.mono ?_
            rintro e w6 ⟨rfl, hb6⟩
            have HB6 := Lib.hid (HB5.out.trans (hb6.mono HB5.out.size))
            have HOk6 := Lib.hid (HOk5.out.below hb6)
            have HR6 := Lib.hid (HR5.out.below hb6)
            clear hb6 HB5 HOk5 HR5 HI
            go_wp2_with fail
            go_roundw
            case rel => exact ⟨k + 1, by omega, by go_num, HOk6.out, HR6.out, HB6.out⟩
            case measure => simp [intOf]; omega
          · have hkn : k = T.length := by omega
            subst hkn
            clear hlt hk
            by_cases hin : 0 ≤ at0 ∧ at0 < (fl.length : Int)
            · obtain ⟨i, rfl⟩ : ∃ i : Nat, at0 = (i : Int) := ⟨at0.toNat, by omega⟩
              have hi : i < fl.length := by omega
              clear hin ha0 ha1
              by_cases hlf : i < T.length
              · go_wp2_with fail
                obtain ⟨x, hx⟩ : ∃ x, fl[i]? = some x := ⟨_, List.getElem?_eq_getElem hi⟩
                have hxl := HKL.out i x hx
                refine (tnode_any gt gf T t fl wr HO2.out i x hx (by omega)).mono ?_
                rintro e w2 ⟨v2, rfl, hOn, hbn⟩
                obtain ⟨q2, c2, rfl⟩ := hOn.sl
                rw [List.length_map]
                have hone := TN.allOne ⟨x, .slice q2 x.kids.length c2⟩ ⟨_, _, _, rfl⟩
                have hb3 : Below wr.heap.size wr (w2.alloc (Obj.cells (TN.cells ⟨x, .slice q2 x.kids.length c2⟩) 42)) := hbn.alloc hbn.size _
                have HO3 := Lib.hid (HO2.out.below hb3)
                have HB3 := Lib.hid (HB2.out.trans (hb3.mono hszr))
                clear hOn hbn hx hb3 HO2 HR2 HB2
                go_wp2_with fail
                refine (tleaf_any gt gf T t fl _ HO3.out i hlf).mono ?_
                rintro e w7 ⟨rfl, rfl⟩
                go_wp2_with fail
                go_ret
                exact ⟨rfl, HB3.out⟩
              · go_wp2_with fail
                obtain ⟨x, hx⟩ : ∃ x, fl[i]? = some x := ⟨_, List.getElem?_eq_getElem hi⟩
                have hxl := HKL.out i x hx
                refine (tnode_any gt gf T t fl wr HO2.out i x hx (by omega)).mono ?_
                rintro e w2 ⟨v2, rfl, hOn, hbn⟩
                obtain ⟨q2, c2, rfl⟩ := hOn.sl
                rw [List.length_map]
                have hone := TN.allOne ⟨x, .slice q2 x.kids.length c2⟩ ⟨_, _, _, rfl⟩
                have hb3 : Below wr.heap.size wr (w2.alloc (Obj.cells (TN.cells ⟨x, .slice q2 x.kids.length c2⟩) 42)) := hbn.alloc hbn.size _
                have HO3 := Lib.hid (HO2.out.below hb3)
                have HB3 := Lib.hid (HB2.out.trans (hb3.mono hszr))
                clear hOn hbn hx hb3 HO2 HR2 HB2
                go_wp2_with fail
                refine (tleaf_out gt gf T t fl _ HO3.out (i : Int) (by omega)).mono ?_
                rintro e w7 ⟨rfl, rfl⟩
                go_wp2_with fail
                refine (tpath_out gt gf T t fl _ HO3.out (i : Int) (by omega)).mono ?_
                rintro e w8 ⟨rfl, rfl⟩
                go_wp2_with fail
                go_ret
                exact ⟨rfl, HB3.out⟩
            · by_cases hneg : at0 < 0
              · have hn0 : ¬ 0 ≤ at0 := by omega
                have hn1 : decide (0 ≤ at0) = false := by simpa using hneg
                clear hin
                go_wp2_with fail
                refine (tnode_out gt gf T t fl wr HO2.out at0 (by omega)).mono ?_
                rintro e w2 ⟨rfl, hbn⟩
                have hone := TN.allOne tn0 ⟨_, _, _, rfl⟩
                have hb3 : Below wr.heap.size wr (w2.alloc (Obj.cells tn0.cells 42)) := hbn.alloc hbn.size _
                have HO3 := Lib.hid (HO2.out.below hb3)
                have HB3 := Lib.hid (HB2.out.trans (hb3.mono hszr))
                have hrow : row? (w2.alloc (Obj.cells tn0.cells 42)) w2.heap.size = some tn0.cells := row?_alloc_at _ _ _ _ rfl
                have k1 := (cell?_row (i := 0) hrow).trans (TN.cell0 tn0)
                have k2 := (cell?_row (i := 1) hrow).trans (TN.cell1 tn0)
                have k3 := (cell?_row (i := 2) hrow).trans (TN.cell2 tn0)
                have k4 := load_bnd hrow
                rw [show tn0.nd.kind = 0 from rfl] at k1
                rw [show tn0.nd.bag = 0 from rfl] at k2
                rw [show tn0.kv = .slice none 0 0 from rfl] at k3
                rw [show tn0.nd.bnd = 0 from rfl] at k4
                have hs2 : (w2.alloc (Obj.cells tn0.cells 42)).heap.size = w2.heap.size + 1 := by simp
                clear hrow hbn hb3 HO2 HR2 HB2
                go_wp2_with fail
                refine (isEmpty_any 0 isSet_zero _).mono ?_
                rintro e w4 ⟨rfl, hb4⟩
                have hb4' : Below (w2.alloc (Obj.cells tn0.cells 42)).heap.size (w2.alloc (Obj.cells tn0.cells 42)) w4 := hb4
                have HO4 := Lib.hid (HO3.out.below hb4')
                have HB4 := Lib.hid (HB3.out.trans (hb4'.mono HB3.out.size))
                clear hb4 hb4' HO3 HB3 k1 k2 k3 k4
                go_wp2_with fail
                refine (tparent_out gt gf T t fl w4 HO4.out at0 (by omega)).mono ?_
                rintro e w5 ⟨rfl, rfl⟩
                go_wp2_with fail
                refine (tleaf_out gt gf T t fl _ HO4.out at0 (by omega)).mono ?_
                rintro e w7 ⟨rfl, rfl⟩
                go_wp2_with fail
                refine (tpath_out gt gf T t fl _ HO4.out at0 (by omega)).mono ?_
                rintro e w8 ⟨rfl, rfl⟩
                go_wp2_with fail
                go_ret
                exact ⟨rfl, HB4.out⟩
              · have hn0 : 0 ≤ at0 := by omega
                have hn1 : decide (0 ≤ at0) = true := by simpa using hn0
                have hn2 : ¬ at0 < (fl.length : Int) := by omega
                have hn3 : ¬ at0 < (T.length : Int) := by omega
                have hn4 : decide (at0 < (T.length : Int)) = false := by simpa using hn3
                have hn5 : decide (at0 < (fl.length : Int)) = false := by simpa using hn2
                clear hin
                go_wp2_with fail
                refine (tnode_out gt gf T t fl wr HO2.out at0 (by omega)).mono ?_
                rintro e w2 ⟨rfl, hbn⟩
                have hone := TN.allOne tn0 ⟨_, _, _, rfl⟩
                have hb3 : Below wr.heap.size wr (w2.alloc (Obj.cells tn0.cells 42)) := hbn.alloc hbn.size _
                have HO3 := Lib.hid (HO2.out.below hb3)
                have HB3 := Lib.hid (HB2.out.trans (hb3.mono hszr))
                have hrow : row? (w2.alloc (Obj.cells tn0.cells 42)) w2.heap.size = some tn0.cells := row?_alloc_at _ _ _ _ rfl
                have k1 := (cell?_row (i := 0) hrow).trans (TN.cell0 tn0)
                have k2 := (cell?_row (i := 1) hrow).trans (TN.cell1 tn0)
                have k3 := (cell?_row (i := 2) hrow).trans (TN.cell2 tn0)
                have k4 := load_bnd hrow
                rw [show tn0.nd.kind = 0 from rfl] at k1
                rw [show tn0.nd.bag = 0 from rfl] at k2
                rw [show tn0.kv = .slice none 0 0 from rfl] at k3
                rw [show tn0.nd.bnd = 0 from rfl] at k4
                have hs2 : (w2.alloc (Obj.cells tn0.cells 42)).heap.size = w2.heap.size + 1 := by simp
                clear hrow hbn hb3 HO2 HR2 HB2
                go_wp2_with fail
                refine (isEmpty_any 0 isSet_zero _).mono ?_
                rintro e w4 ⟨rfl, hb4⟩
                have hb4' : Below (w2.alloc (Obj.cells tn0.cells 42)).heap.size (w2.alloc (Obj.cells tn0.cells 42)) w4 := hb4
                have HO4 := Lib.hid (HO3.out.below hb4')
                have HB4 := Lib.hid (HB3.out.trans (hb4'.mono HB3.out.size))
                clear hb4 hb4' HO3 HB3 k1 k2 k3 k4
                go_wp2_with fail
                refine (tparent_out gt gf T t fl w4 HO4.out at0 (by omega)).mono ?_
                rintro e w5 ⟨rfl, rfl⟩
                go_wp2_with fail
                refine (tleaf_out gt gf T t fl _ HO4.out at0 (by omega)).mono ?_
                rintro e w7 ⟨rfl, rfl⟩
                go_wp2_with fail
                refine (tpath_out gt gf T t fl _ HO4.out at0 (by omega)).mono ?_
                rintro e w8 ⟨rfl, rfl⟩
                go_wp2_with fail
                go_ret
                exact ⟨rfl, HB4.out⟩
end Go.Proofs.YtkoeeabeoefggaaGreatDoor
