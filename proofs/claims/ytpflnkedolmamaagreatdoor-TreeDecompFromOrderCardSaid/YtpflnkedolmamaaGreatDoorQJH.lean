/-
  Walks of the reference: Of (the decomposition of an order).
-/
import Derived.Test.YtpflnkedolmamaaGreatDoorQJD
import Derived.Test.YtpflnkedolmamaaGreatDoorQRef3
namespace Go.Proofs.YtpflnkedolmamaaGreatDoor
open Go Go.RowKit Go.Pal
attribute [local go_sem] Oper.semAt_some

set_option maxHeartbeats 1000000 in
theorem rof_bad (G : Gr) (hG : G.Ok) (o : List Int) (hord : G.ordE o ≠ 0) (vV vE vo : Value) (w : World) (hV : Rd vtxA 3 w.heap.size w vV G.V) (hE : ∃ a n c, vE = .slice a n c) (ho : RdL w vo o) (hlen : o.length ≤ 1000000) :
    Calls Tryz.prog 19 #[.agg #[vV, vE], vo] w fun e w' => e = .returned (.tuple #[.slice none 0 0, .int .i64 3]) ∧ Below w.heap.size w w' := by
  have HC := Lib.hid fun W (hb : Below w.heap.size w W) => rcheck21_any G hG o vV vE vo W ((hV.below hb (Nat.le_refl _)).mono hb.size) hE (ho.below hb) hlen
  rw [ordE_three hord] at HC
  obtain ⟨aV, cV, rfl⟩ := hV.sl
  obtain ⟨aE, nE, cE, rfl⟩ := hE
  obtain ⟨ao, co, rfl, -⟩ := ho
  obtain ⟨LV, hLV⟩ : ∃ LV, LV = G.V.length := ⟨_, rfl⟩
  rw [← hLV] at HC ⊢
  clear hV hG hord hLV
  go_enter Tryz.func19, Tryz.ntmps19
  go_wp2_with fail
  have hb0 : Below w.heap.size w (w.alloc (.cells #[.slice aV LV cV, .slice aE nE cE] 44)) := (Below.refl _ w).alloc (Nat.le_refl _) _
  refine (HC.out _ hb0).mono ?_
  rintro r w1 ⟨rfl, hb1⟩
  have HB1 := Lib.hid (hb0.trans (hb1.mono hb0.size))
  clear hb1 HC hb0
  go_wp2_with fail
  go_ret2
  exact ⟨rfl, HB1.out⟩
set_option maxRecDepth 10000 in
set_option maxHeartbeats 4000000 in
theorem rof_any (G : Gr) (hG : G.Ok) (o : List Nat) (hord : G.ordE (o.map fun i : Nat => (i : Int)) = 0) (hlt : ∀ x ∈ o, x < 1024) (hnd : o.Nodup) (hcl : Closed (fun x => G.near (x : Int)) o) (hlen : o.length ≤ 64) (vV vE vo : Value) (w : World) (hV : Rd vtxA 3 w.heap.size w vV G.V) (hE : Rd edgA 4 w.heap.size w vE G.E) (ho : RdL w vo (o.map fun i : Nat => (i : Int))) :
    Calls Tryz.prog 19 #[.agg #[vV, vE], vo] w fun e w' => ∃ v, e = .returned (.tuple #[v, .int .i64 0]) ∧ RefT w' v (rOf G o) ∧ Below w.heap.size w w' := by
  have hsl := hE.sl
  have HC := Lib.hid fun W (hb : Below w.heap.size w W) => rcheck21_any G hG (o.map fun i : Nat => (i : Int)) vV vE vo W ((hV.below hb (Nat.le_refl _)).mono hb.size) (by obtain ⟨a, c, rfl⟩ := hsl; exact ⟨_, _, _, rfl⟩) (ho.below hb) (by rw [List.length_map]; omega)
  rw [hord] at HC
  have HNe := Lib.hid fun W (hb : Below w.heap.size w W) => rnear21_any G hG o hlt hlen vV vE vo W ((hV.below hb (Nat.le_refl _)).mono hb.size) ((hE.below hb (Nat.le_refl _)).mono hb.size) (ho.below hb)
  have hrows := (rGame_all hG hnd hcl o.length (Nat.le_refl _)).1
  have hiss : ∀ i x, (rGame G o o.length).1[i]? = some x → IsSet x := fun i x hx => by
    rw [hrows, List.getElem?_map] at hx
    obtain ⟨j, -, rfl⟩ := Option.map_eq_some_iff.1 hx
    exact isSet_gameAt (fun u => hG.isSet_near _) o j _
  have HIS := Lib.hid hiss
  have hrl := rGame_rows G o o.length
  obtain ⟨rows, hro⟩ : ∃ rows, rows = (rGame G o o.length).1 := ⟨_, rfl⟩
  have hof : rOf G o = if o.length = 0 then [(-1, 0)] else rOfTo rows o o.length := by rw [hro]; rfl
  rw [← hro] at HNe HIS hrl
  have HOf := Lib.hid hof
  have HO := Lib.hid ho
  have HLT := Lib.hid hlt
  obtain ⟨aV, cV, rfl⟩ := hV.sl
  obtain ⟨aE, cE, rfl⟩ := hE.sl
  obtain ⟨ao, co, rfl, -⟩ := ho
  obtain ⟨LV, hLV⟩ : ∃ LV, LV = G.V.length := ⟨_, rfl⟩
  obtain ⟨LE, hLE⟩ : ∃ LV, LV = G.E.length := ⟨_, rfl⟩
  rw [← hLV, ← hLE] at HC HNe ⊢
  rw [List.length_map] at HC HNe ⊢
  clear hV hE hG hord hLV hLE hlt hcl hrows hiss hro hof hsl
  by_cases h0 : o.length = 0
  · have HZ := Lib.hid h0
    have hz : ((o.length : Int) == 0) = true := by simp [h0]
    clear h0
    go_enter Tryz.func19, Tryz.ntmps19
    go_wp2_with fail
    have hb0 : Below w.heap.size w (w.alloc (.cells #[.slice aV LV cV, .slice aE LE cE] 44)) := (Below.refl _ w).alloc (Nat.le_refl _) _
    refine (HC.out _ hb0).mono ?_
    rintro r w1 ⟨rfl, hb1⟩
    have HB1 := Lib.hid (hb0.trans (hb1.mono hb0.size))
    clear hb1 HC hb0 HNe
    go_wp2_with fail
    go_ret2
    refine ⟨_, rfl, ?_, HB1.out.alloc HB1.out.size _⟩
    rw [HOf.out, if_pos HZ.out]
    refine ⟨_, _, rfl, .inr ⟨w1.heap.size, 0, rfl, by simp, fun i x hx => ?_⟩⟩
    have hi : i = 0 := by
      have := (List.getElem?_eq_some_iff.1 hx).1
      simpa using this
    subst hi
    simp at hx
    subst hx
    have hrow : row? (w1.alloc (.cells #[.int .i64 (-1), .slice none 0 0] 98)) w1.heap.size = some #[.int .i64 (-1), .slice none 0 0] := row?_alloc_at _ _ _ _ rfl
    exact ⟨(cell?_row (i := 0) hrow).trans rfl, .slice none 0 0, (cell?_row (i := 1) hrow).trans rfl, by rw [elemsI_zero]; exact RdL.nil _, isSet_zero⟩
  · have hz : ((o.length : Int) == 0) = false := by simp only [beq_eq_false_iff_ne, ne_eq]; omega
    go_enter Tryz.func19, Tryz.ntmps19
    go_wp2_with fail
    have hb0 : Below w.heap.size w (w.alloc (.cells #[.slice aV LV cV, .slice aE LE cE] 44)) := (Below.refl _ w).alloc (Nat.le_refl _) _
    have hr0 : row? (w.alloc (.cells #[.slice aV LV cV, .slice aE LE cE] 44)) w.heap.size = some #[.slice aV LV cV, .slice aE LE cE] := row?_alloc_at _ _ _ _ rfl
    refine (HC.out _ hb0).mono ?_
    rintro r w1 ⟨rfl, hb1⟩
    have hr1 := (row?_below hb1 (by simp)).trans hr0
    have HB1 := Lib.hid (hb0.trans (hb1.mono hb0.size))
    clear hb1 HC hb0 hr0
    go_wp2_with fail
    refine (HNe.out _ HB1.out).mono ?_
    rintro r w2 ⟨v1, v2, L, c, rfl, hN, hb2⟩
    have HN := Lib.hid hN
    have HB2 := Lib.hid (HB1.out.trans (hb2.mono HB1.out.size))
    obtain ⟨q1, c1, rfl⟩ := hN.out.sl
    obtain ⟨q2, c2, rfl⟩ := hN.come.sl
    have HRd := Lib.hid (hN.out.rd elQ3)
    have HSe := Lib.hid hN.sets
    clear hN hb2 HNe HB1 hr1 HN
    have hLl : L.length = o.length := by rw [HSe.out.1, hrl]
    rw [hLl] at HRd ⊢
    go_wp2_with fail
    go_loopw [9, 10] (fun vo i wr => ∃ k : Nat, k ≤ o.length ∧ i = .int .i64 (k : Int) ∧ (∃ Lo, OwnRB w2.heap.size wr vo Lo ∧ Built (fun j => some j ≠ vo.ownBlock) wr Lo (rOfTo rows o k)) ∧ Below w2.heap.size w2 wr) (fun _ i _ => o.length - (intOf i).toNat)
    case atStart => exact ⟨0, by omega, rfl, ⟨[], World.ownsRow_nil _ _ _ _, rfl, fun i x y hx => by simp [rOfTo] at hx⟩, Below.refl _ _⟩
    case round =>
      obtain ⟨k, hk, rfl, ⟨Lo, hO, hBu⟩, hb⟩ := hrel
      have HOw := Lib.hid hO
      have HBu := Lib.hid hBu
      have HB := Lib.hid hb
      have hs := hb.size
      have hll : Lo.length = k := by rw [hBu.1]; simp [rOfTo]
      obtain ⟨qa, ca, rfl⟩ := hO.sl
      rw [hll] at HOw HBu ⊢
      clear hO hBu hb
      by_cases hlt : k < o.length
      · obtain ⟨bn, offn, cn', s, h1, hbn, hs1, hcn⟩ := HRd.out.at (show k < L.length by omega)
        obtain ⟨bo, offo, co', xo, h2, hxo, hco⟩ := HO.out.at (k := k) (by rw [List.length_map]; exact hlt)
        simp only [Value.slice.injEq] at h1 h2
        obtain ⟨rfl, -, rfl⟩ := h1
        obtain ⟨rfl, -, rfl⟩ := h2
        obtain ⟨x, hx⟩ : ∃ x, o[k]? = some x := ⟨_, List.getElem?_eq_getElem hlt⟩
        rw [List.getElem?_map, hx] at hxo
        cases hxo
        obtain ⟨S, hS⟩ : ∃ S, rows[k]? = some S := ⟨_, List.getElem?_eq_getElem (by omega)⟩
        have hra := HSe.out.2 k s S hs1 hS
        have hisS := HIS.out k S hS
        obtain ⟨sa, sn, sc⟩ := s
        have hsn : sn = (elemsI S).length := by
          obtain ⟨a, c, hv, -⟩ := hra
          simp only [Value.slice.injEq] at hv
          exact hv.2.1
        subst hsn
        have hgS : rows.getD k 0 = S := by rw [List.getD_eq_getElem?_getD, hS]; rfl
        have hgx : o.getD k 0 = x := by rw [List.getD_eq_getElem?_getD, hx]; rfl
        have hxl := HLT.out x (List.mem_of_getElem? hx)
        have HRA := Lib.hid hra
        have HX := Lib.hid hx
        have HGS := Lib.hid hgS
        have HGX := Lib.hid hgx
        have HcN := Lib.hid fun W (hw : Below w2.heap.size w2 W) => (hcn W hw 0 _ rfl : W.cell? ⟨bn, offn + k * 1 + 0, none⟩ = some (.slice sa (elemsI S).length sc))
        have HcO := Lib.hid hco
        clear hra hcn hco hs1 hS hgS hgx hx
        simp only [Nat.mul_one, Nat.add_zero] at HcN
        go_wp2_with fail
        go_loopw [11, 12] (fun u j wz => ∃ d : Nat, d ≤ o.length - 1 - k ∧ u = .int .i64 (ruTo S o d) ∧ j = .int .i64 ((o.length : Int) - 1 - (d : Int)) ∧ Below wr.heap.size wr wz) (fun _ j _ => (intOf j).toNat)
        case atStart => exact ⟨0, by omega, by rw [ruTo], by simp, Below.refl _ _⟩
        case round =>
          obtain ⟨d, hd, rfl, rfl, hbz⟩ := hrel
          have HBz := Lib.hid (HB.out.trans (hbz.mono HB.out.size))
          have HBzz := Lib.hid hbz
          obtain ⟨m, hm⟩ : ∃ m, m = o.length - 1 - d := ⟨_, rfl⟩
          have hmi : (o.length : Int) - 1 - (d : Int) = (m : Int) := by omega
          rw [hmi]
          have hsz := hbz.size
          have hm1 : m + d + 1 ≤ o.length := by omega
          have hm3 : o.length ≤ m + d + 1 := by omega
          have HM := Lib.hid hm
          clear hbz hmi hm
          by_cases hlt2 : k < m
          · have hm2 : m < o.length := by omega
            obtain ⟨y, hy⟩ : ∃ y, o[m]? = some y := ⟨_, List.getElem?_eq_getElem hm2⟩
            obtain ⟨b3, off3, c3', z, h3, hz3, hc3⟩ := HO.out.at (k := m) (by rw [List.length_map]; exact hm2)
            simp only [Value.slice.injEq, Option.some.injEq, Addr.mk.injEq, and_true] at h3
            obtain ⟨⟨rfl, rfl⟩, -⟩ := h3
            rw [List.getElem?_map, hy] at hz3
            cases hz3
            have hgy : o.getD m 0 = y := by rw [List.getD_eq_getElem?_getD, hy]; rfl
            have hru : ruTo S o (d + 1) = if S.testBit y = true then (m : Int) else ruTo S o d := by rw [ruTo, ← HM.out, hgy]
            have hmem : decide ((y : Int) ∈ elemsI S) = S.testBit y := by rw [Bool.eq_iff_iff, decide_eq_true_eq, mem_elemsI hisS]
            have HFc := Lib.hid fun W (hw : Below wr.heap.size wr W) => (⟨HcN.out W (HBz.out.trans (hw.mono HBz.out.size)), hc3 W (HB2.out.trans ((HBz.out.trans (hw.mono HBz.out.size)).mono HB2.out.size))⟩ : W.cell? ⟨bn, offn + k, none⟩ = some (.slice sa (elemsI S).length sc) ∧ W.cell? ⟨bo, offo + m, none⟩ = some (.int .i64 (y : Int)))
            have HHa := fun W (hw : Below wr.heap.size wr W) => rhas_any (elemsI S) (.slice sa (elemsI S).length sc) (y : Int) W (HRA.out.below (HBz.out.trans (hw.mono HBz.out.size))).rdl (by have := elemsI_length S; omega)
            rw [hmem] at HHa
            have HHa := Lib.hid HHa
            have HRu := Lib.hid hru
            clear hy hc3 hgy hmem hru
            cases hbit : S.testBit y with
            | true =>
              rw [hbit] at HHa HRu
              rw [if_pos rfl] at HRu
              clear hbit
              go_wp2_with fail
              refine wp_region_free (fun w' => Below wr.heap.size wr w') (by kernel_rfl) (by kernel_rfl) (Below.refl _ _).drew ?_
              repeat (first | (apply wpFree_still; (intro w hw; obtain ⟨k1, k2⟩ := HFc.out _ hw; clear hw; go_simp; (try go_ints); (first | with_reducible rfl | (go_simp; with_reducible rfl))); with_reducible rfl; (intro K hK; go_simp; (try go_ints); refine hK _ ?_; clear hK K)) | (apply wpFree_stillG rfl; (intro w hw; obtain ⟨k1, k2⟩ := HFc.out _ hw; clear hw; go_simp; (try go_ints); (first | with_reducible rfl | (go_simp; with_reducible rfl))); (intro K hK; go_simp; (try go_ints); refine hK _ ?_; clear hK K)))
              apply wpFree_callG rfl
              · intro w hw; go_simp; first | with_reducible rfl | with_reducible exact ⟨rfl, rfl⟩
              · intro w hw; refine (HHa.out w hw).mono ?_; rintro e w' ⟨h1, rfl⟩; exact ⟨h1, hw⟩
              intro K hK; go_simp; (try go_ints); refine hK _ ?_; clear hK K
              repeat (first | (apply wpFree_still; (intro w hw; clear hw; go_simp; (try go_ints); (first | with_reducible rfl | (go_simp; with_reducible rfl))); with_reducible rfl; (intro K hK; go_simp; (try go_ints); refine hK _ ?_; clear hK K)) | (apply wpFree_stillG rfl; (intro w hw; clear hw; go_simp; (try go_ints); (first | with_reducible rfl | (go_simp; with_reducible rfl))); (intro K hK; go_simp; (try go_ints); refine hK _ ?_; clear hK K)))
              with_reducible refine wpFree_nil ?_
              intro w5 hb5
              have HB5 := Lib.hid (HBzz.out.trans (hb5.mono HBzz.out.size))
              clear hb5
              go_wp2_with fail
              go_roundw
              case rel => exact ⟨d + 1, by omega, by rw [HRu.out], by go_num, HB5.out⟩
              case measure => simp [intOf]; omega
            | false =>
              rw [hbit] at HHa HRu
              rw [if_neg (by decide)] at HRu
              clear hbit
              go_wp2_with fail
              refine wp_region_free (fun w' => Below wr.heap.size wr w') (by kernel_rfl) (by kernel_rfl) (Below.refl _ _).drew ?_
              repeat (first | (apply wpFree_still; (intro w hw; obtain ⟨k1, k2⟩ := HFc.out _ hw; clear hw; go_simp; (try go_ints); (first | with_reducible rfl | (go_simp; with_reducible rfl))); with_reducible rfl; (intro K hK; go_simp; (try go_ints); refine hK _ ?_; clear hK K)) | (apply wpFree_stillG rfl; (intro w hw; obtain ⟨k1, k2⟩ := HFc.out _ hw; clear hw; go_simp; (try go_ints); (first | with_reducible rfl | (go_simp; with_reducible rfl))); (intro K hK; go_simp; (try go_ints); refine hK _ ?_; clear hK K)))
              apply wpFree_callG rfl
              · intro w hw; go_simp; first | with_reducible rfl | with_reducible exact ⟨rfl, rfl⟩
              · intro w hw; refine (HHa.out w hw).mono ?_; rintro e w' ⟨h1, rfl⟩; exact ⟨h1, hw⟩
              intro K hK; go_simp; (try go_ints); refine hK _ ?_; clear hK K
              repeat (first | (apply wpFree_still; (intro w hw; clear hw; go_simp; (try go_ints); (first | with_reducible rfl | (go_simp; with_reducible rfl))); with_reducible rfl; (intro K hK; go_simp; (try go_ints); refine hK _ ?_; clear hK K)) | (apply wpFree_stillG rfl; (intro w hw; clear hw; go_simp; (try go_ints); (first | with_reducible rfl | (go_simp; with_reducible rfl))); (intro K hK; go_simp; (try go_ints); refine hK _ ?_; clear hK K)))
              with_reducible refine wpFree_nil ?_
              intro w5 hb5
              have HB5 := Lib.hid (HBzz.out.trans (hb5.mono HBzz.out.size))
              clear hb5
              go_wp2_with fail
              go_roundw
              case rel => exact ⟨d + 1, by omega, by rw [HRu.out], by go_num, HB5.out⟩
              case measure => simp [intOf]; omega
          · have hdk : d = o.length - 1 - k := by omega
            have hmk : m = k := by omega
            subst hmk
            obtain ⟨ru, hru⟩ : ∃ ru, ru = ruTo S o d := ⟨_, rfl⟩
            rw [← hru]
            have hrb : rBag S o m = (if m + 1 = o.length then -1 else ru, sIns S x) := by rw [rBag, hru, hdk, HGX.out]
            have HRB := Lib.hid hrb
            clear hru hrb
            by_cases hlast : m + 1 = o.length
            · have hl1 : ((m : Int) == (o.length : Int) - 1) = true := by simp; omega
              rw [if_pos hlast] at HRB
              clear hlast
              have hstp : rOfTo rows o (m + 1) = rOfTo rows o m ++ [((-1 : Int), sIns S x)] := by rw [rOfTo_succ, HGS.out, HRB.out]
              have HSTP := Lib.hid hstp
              have HFc := Lib.hid fun W (hw : Below wr.heap.size wr W) => (⟨HcN.out W (HBz.out.trans (hw.mono HBz.out.size)), HcO.out W (HB2.out.trans ((HBz.out.trans (hw.mono HBz.out.size)).mono HB2.out.size))⟩ : W.cell? ⟨bn, offn + m, none⟩ = some (.slice sa (elemsI S).length sc) ∧ W.cell? ⟨bo, offo + m, none⟩ = some (.int .i64 (x : Int)))
              have hOz := HOw.out.below HBzz.out (Nat.le_refl _)
              have hBz := HBu.out.keep (A' := fun j => some j ≠ (Value.slice qa m ca).ownBlock) HBzz.out.size fun j hj hA => ⟨HBzz.out.block j hj, hA⟩
              have HOz := Lib.hid hOz
              have HBuz := Lib.hid hBz
              have hwi := fun W (hw : Below wr.heap.size wr W) => rwith_any (fun j => some j ≠ (Value.slice qa m ca).ownBlock) S x (.slice sa (elemsI S).length sc) W (fun j hj e => by have := HOz.out.lt j e.symm; have := hw.size; omega) (HRA.out.keep (HBz.out.trans (hw.mono HBz.out.size)).size fun j hj _ => ⟨(HBz.out.trans (hw.mono HBz.out.size)).block j hj, fun e => by have := (HOz.out.block j e.symm); omega⟩) hisS hxl
              have HWi := Lib.hid hwi
              clear hstp hOz hBz hwi HRB
              go_wp2_with fail
              refine wp_region_mix (fun W => Below wr.heap.size wr W) 13 [(0, true), (1, true), (2, true), (3, true), (4, true), (5, true), (6, true), (7, true), (8, true), (9, true), (10, false), (11, true), (12, false)] (by kernel_rfl) (by kernel_rfl) (Below.refl _ _).drew ?_
              repeat (apply wpPlan_still rfl rfl; (intro w hw; obtain ⟨k1, k2⟩ := HFc.out _ hw; clear hw; go_simp; (try go_ints); (first | with_reducible rfl | (go_simp; with_reducible rfl))); (intro K hK; go_simp; (try go_ints); refine hK _ _ ?_; clear hK K))
              apply wpPlan_act rfl rfl
              intro K hK
              unfold Oper.wp
              go_simp
              refine (HWi.out _ (Below.refl _ _).drew).mono ?_
              rintro e w5 ⟨v5, rfl, hv5, hb5⟩
              have hb5' : Below wr.heap.size wr w5 := (Below.refl _ wr).drew.trans hb5
              refine hK _ _ hb5' ?_
              clear hK K
              obtain ⟨q5, c5, rfl⟩ := hv5.sl
              have hs5 := hb5'.size
              have HV5 := Lib.hid hv5
              have HO5 := Lib.hid (HOz.out.below hb5' (Nat.le_refl _))
              have HBu5 := Lib.hid (HBuz.out.keep (A' := fun j => some j ≠ (Value.slice qa m ca).ownBlock) hs5 fun j hj hA => ⟨hb5'.block j hj, hA⟩)
              have HB5 := Lib.hid (HBz.out.trans (hb5'.mono HBz.out.size))
              have HB6 := Lib.hid hb5'
              clear hv5 hb5 hb5' HWi
              repeat (apply wpPlan_still rfl rfl; (intro w hw; clear hw; go_simp; (try go_ints); (first | with_reducible rfl | (go_simp; with_reducible rfl))); (intro K hK; go_simp; (try go_ints); refine hK _ _ ?_; clear hK K))
              apply wpPlan_act rfl rfl
              intro K hK
              unfold Oper.wp
              go_simp
              refine hK _ _ ((show Below wr.heap.size wr w5 from HB6.out).alloc hs5 _) ?_
              clear hK K
              refine wpPlan_nil ?_
              simp only [List.drop_succ_cons, List.drop_zero]
              go_wp2_with (at_builtin; refine wpList_appRB rfl _ _ rfl w2.heap.size _ Lo rfl (HO5.out.alloc _) w5.heap.size (-1) q5 _ c5 _ rfl (row?_alloc_at _ _ _ _ rfl) (by omega) (by simp; omega) ?_)
              intro v4 w4 hO4 hg4 hv4 hb4
              have hsz4 : w5.heap.size ≤ w4.heap.size := by have := hb4.size; simp at this; omega
              have step : ∀ j, j < w5.heap.size → some j ≠ (Value.slice qa m ca).ownBlock → w4.heap[j]? = w5.heap[j]? ∧ some j ≠ v4.ownBlock := fun j hj hA => by
                refine ⟨(hg4.block j (by simp; omega) hA).trans (Below.heap_alloc _ _ j hj), ?_⟩
                rcases hv4 with e | e
                · rw [e]; exact hA
                · rw [e]; simp; omega
              have hA4 : Built (fun j => some j ≠ v4.ownBlock) w4 (Lo ++ [((-1 : Int), .slice q5 (elemsI (sIns S x)).length c5)]) (rOfTo rows o (m + 1)) := by
                rw [HSTP.out]
                exact (HBu5.out.keep hsz4 step).snoc (HV5.out.keep hsz4 step) (isSet_ins hisS hxl)
              have HO4 := Lib.hid hO4
              have HA4 := Lib.hid hA4
              have HB4 := Lib.hid ((HB5.out.alloc (by omega) _).trans hb4)
              clear hO4 hA4 hg4 hv4 hb4 step
              go_wp2_with fail
              go_roundw
              case rel => exact ⟨m + 1, by omega, by go_num, ⟨_, HO4.out, HA4.out⟩, HB4.out⟩
              case measure => simp [intOf]; omega
            · have hl1 : ((m : Int) == (o.length : Int) - 1) = false := by simp; omega
              rw [if_neg hlast] at HRB
              clear hlast
              have hstp : rOfTo rows o (m + 1) = rOfTo rows o m ++ [((ru : Int), sIns S x)] := by rw [rOfTo_succ, HGS.out, HRB.out]
              have HSTP := Lib.hid hstp
              have HFc := Lib.hid fun W (hw : Below wr.heap.size wr W) => (⟨HcN.out W (HBz.out.trans (hw.mono HBz.out.size)), HcO.out W (HB2.out.trans ((HBz.out.trans (hw.mono HBz.out.size)).mono HB2.out.size))⟩ : W.cell? ⟨bn, offn + m, none⟩ = some (.slice sa (elemsI S).length sc) ∧ W.cell? ⟨bo, offo + m, none⟩ = some (.int .i64 (x : Int)))
              have hOz := HOw.out.below HBzz.out (Nat.le_refl _)
              have hBz := HBu.out.keep (A' := fun j => some j ≠ (Value.slice qa m ca).ownBlock) HBzz.out.size fun j hj hA => ⟨HBzz.out.block j hj, hA⟩
              have HOz := Lib.hid hOz
              have HBuz := Lib.hid hBz
              have hwi := fun W (hw : Below wr.heap.size wr W) => rwith_any (fun j => some j ≠ (Value.slice qa m ca).ownBlock) S x (.slice sa (elemsI S).length sc) W (fun j hj e => by have := HOz.out.lt j e.symm; have := hw.size; omega) (HRA.out.keep (HBz.out.trans (hw.mono HBz.out.size)).size fun j hj _ => ⟨(HBz.out.trans (hw.mono HBz.out.size)).block j hj, fun e => by have := (HOz.out.block j e.symm); omega⟩) hisS hxl
              have HWi := Lib.hid hwi
              clear hstp hOz hBz hwi HRB
              go_wp2_with fail
              refine wp_region_mix (fun W => Below wr.heap.size wr W) 13 [(0, true), (1, true), (2, true), (3, true), (4, true), (5, true), (6, true), (7, true), (8, true), (9, true), (10, false), (11, true), (12, false)] (by kernel_rfl) (by kernel_rfl) (Below.refl _ _).drew ?_
              repeat (apply wpPlan_still rfl rfl; (intro w hw; obtain ⟨k1, k2⟩ := HFc.out _ hw; clear hw; go_simp; (try go_ints); (first | with_reducible rfl | (go_simp; with_reducible rfl))); (intro K hK; go_simp; (try go_ints); refine hK _ _ ?_; clear hK K))
              apply wpPlan_act rfl rfl
              intro K hK
              unfold Oper.wp
              go_simp
              refine (HWi.out _ (Below.refl _ _).drew).mono ?_
              rintro e w5 ⟨v5, rfl, hv5, hb5⟩
              have hb5' : Below wr.heap.size wr w5 := (Below.refl _ wr).drew.trans hb5
              refine hK _ _ hb5' ?_
              clear hK K
              obtain ⟨q5, c5, rfl⟩ := hv5.sl
              have hs5 := hb5'.size
              have HV5 := Lib.hid hv5
              have HO5 := Lib.hid (HOz.out.below hb5' (Nat.le_refl _))
              have HBu5 := Lib.hid (HBuz.out.keep (A' := fun j => some j ≠ (Value.slice qa m ca).ownBlock) hs5 fun j hj hA => ⟨hb5'.block j hj, hA⟩)
              have HB5 := Lib.hid (HBz.out.trans (hb5'.mono HBz.out.size))
              have HB6 := Lib.hid hb5'
              clear hv5 hb5 hb5' HWi
              repeat (apply wpPlan_still rfl rfl; (intro w hw; clear hw; go_simp; (try go_ints); (first | with_reducible rfl | (go_simp; with_reducible rfl))); (intro K hK; go_simp; (try go_ints); refine hK _ _ ?_; clear hK K))
              apply wpPlan_act rfl rfl
              intro K hK
              unfold Oper.wp
              go_simp
              refine hK _ _ ((show Below wr.heap.size wr w5 from HB6.out).alloc hs5 _) ?_
              clear hK K
              refine wpPlan_nil ?_
              simp only [List.drop_succ_cons, List.drop_zero]
              go_wp2_with (at_builtin; refine wpList_appRB rfl _ _ rfl w2.heap.size _ Lo rfl (HO5.out.alloc _) w5.heap.size (ru) q5 _ c5 _ rfl (row?_alloc_at _ _ _ _ rfl) (by omega) (by simp; omega) ?_)
              intro v4 w4 hO4 hg4 hv4 hb4
              have hsz4 : w5.heap.size ≤ w4.heap.size := by have := hb4.size; simp at this; omega
              have step : ∀ j, j < w5.heap.size → some j ≠ (Value.slice qa m ca).ownBlock → w4.heap[j]? = w5.heap[j]? ∧ some j ≠ v4.ownBlock := fun j hj hA => by
                refine ⟨(hg4.block j (by simp; omega) hA).trans (Below.heap_alloc _ _ j hj), ?_⟩
                rcases hv4 with e | e
                · rw [e]; exact hA
                · rw [e]; simp; omega
              have hA4 : Built (fun j => some j ≠ v4.ownBlock) w4 (Lo ++ [((ru : Int), .slice q5 (elemsI (sIns S x)).length c5)]) (rOfTo rows o (m + 1)) := by
                rw [HSTP.out]
                exact (HBu5.out.keep hsz4 step).snoc (HV5.out.keep hsz4 step) (isSet_ins hisS hxl)
              have HO4 := Lib.hid hO4
              have HA4 := Lib.hid hA4
              have HB4 := Lib.hid ((HB5.out.alloc (by omega) _).trans hb4)
              clear hO4 hA4 hg4 hv4 hb4 step
              go_wp2_with fail
              go_roundw
              case rel => exact ⟨m + 1, by omega, by go_num, ⟨_, HO4.out, HA4.out⟩, HB4.out⟩
              case measure => simp [intOf]; omega
      · have hkn : o.length = k := by omega
        subst hkn
        go_wp2_with fail
        go_ret2
        refine ⟨_, rfl, ?_, HB2.out.trans (HB.out.mono HB2.out.size)⟩
        rw [HOf.out, if_neg h0]
        have hO' : OwnRB w2.heap.size wr (.slice qa Lo.length ca) Lo := by rw [hll]; exact HOw.out
        have hr' := Built.ref hO' HBu.out
        rw [hll] at hr'
        exact hr'
end Go.Proofs.YtpflnkedolmamaaGreatDoor
