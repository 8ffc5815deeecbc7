/-
  Walks of package toptree: chain of more than one bag.
  Walks of package toptree: group.
-/
import Derived.Test.YtoboncfgogjllaaGreatDoorQTo7
namespace Go.Proofs.YtoboncfgogjllaaGreatDoor
open Go Go.RowKit Go.Pal Go.Shelf

theorem wpFree_bTN1 {ops : Array Oper} {S : World → Prop} {rest : List Oper} {o : Oper} {a : Act} {Q : Act → Prop} (hg : o.guard = none) (kz : Int) (xb xk xs : Operand) (ho : o.op = .build 42 #[(0, .const (.int .i64 kz)), (1, xb), (2, xk), (3, xs)])
    (b : Int) (q : Option Addr) (n c : Nat) (E : Nat) (hb : a.eval xb = .int .i64 b) (hk : a.eval xk = .slice q n c) (hs : a.eval xs = .agg (words E)) (h : ∀ K : Act → Prop, (∀ a, wpFree Tryz.prog ops S Q rest a → K a) → K (a.put o.dst (.agg (cellsZ kz b (.slice q n c) E)))) : wpFree Tryz.prog ops S Q (o :: rest) a := by
  refine wpFree_still (fun w _ => ?_) hg h
  unfold execOp
  have hc : a.eval (.const (.int .i64 kz)) = .int .i64 kz := rfl
  simp only [ho, List.map_toArray, List.map_cons, List.map_nil, hc, hb, hk, hs, Sem.run_bind, build_TN1, Result.andThen_ok]
  rfl
theorem labI_take (k : Nat) (l : List Tr) : labI (l.take k) = (labI l).take k := by unfold labI; rw [List.map_take]
theorem labI_drop (k : Nat) (l : List Tr) : labI (l.drop k) = (labI l).drop k := by unfold labI; rw [List.map_drop]
theorem sum_wt_le {l : List Tr} (h : ∀ z ∈ l, z.sz ≤ 65536) : (l.map Tr.wt).sum ≤ l.length * 65536 := by
  induction l with
  | nil => simp
  | cons x l ih =>
    have h1 := h x (by simp)
    have h2 := ih fun z hz => h z (by simp [hz])
    have h3 : x.wt ≤ x.sz := Nat.sub_le _ _
    simp only [List.map_cons, List.sum_cons, List.length_cons]
    omega

set_option maxRecDepth 10000 in
set_option maxHeartbeats 1000000 in
theorem chain_many (w0 : World) (gf gb : Nat) (T : List Bg) (t : Tr) (hV : Valid T t) (hF0 : FrameOk w0 gf T t) (hts : t.sz ≤ 65536) (u x y : Tr) (l : List Tr) (hsub : ∀ z ∈ u :: x :: l, Sub t z) (hll : (u :: x :: l).length ≤ 65536) (c1 c2 : Ct)
    (hC : ChainOk w0 gf gb ((u :: x :: l).take (splitAtW ((u :: x :: l).map Tr.wt))) c1) (hD : ChainOk w0 gf gb ((u :: x :: l).drop (splitAtW ((u :: x :: l).map Tr.wt))) c2) (hy : (x :: l).getLast? = some y) :
    ChainOk w0 gf gb (u :: x :: l) (.node 3 u.lab (adhS T u.lab ||| belS T y) [c1, c2]) := by
  intro w sv N v h hv hlen
  have hyl : (labI (u :: x :: l))[(labI (u :: x :: l)).length - 1]? = some (y.lab : Int) := by
    have h1 : (u :: x :: l).getLast? = some y := by rw [List.getLast?_cons_cons]; exact hy
    rw [← List.getLast?_eq_getElem?]
    unfold labI
    rw [List.getLast?_map, h1]
    rfl
  have hyS : Sub t y := hsub y (List.mem_cons_of_mem _ (List.mem_of_getLast? hy))
  have huS : Sub t u := hsub u (by simp)
  obtain ⟨b, off, c, rfl, hnc, ⟨hA1, hA2⟩, hbB, hc⟩ := hv
  obtain ⟨n, hn⟩ : ∃ n, n = (labI (u :: x :: l)).length := ⟨_, rfl⟩
  have hn2 : 2 ≤ n := by rw [hn]; simp [labI]
  have hn3 : n ≤ 65536 := by rw [hn]; simpa [labI] using hll
  rw [← hn] at hnc hyl ⊢
  have hc0 := hc 0 (u.lab : Int) rfl
  have hcy := hc _ _ hyl
  rw [Nat.add_zero] at hc0
  have hgb := h.gb_lt
  have HC := Lib.hid hC
  have HD := Lib.hid hD
  have HS := Lib.hid h
  have HF0 := Lib.hid hF0
  have HV := Lib.hid hV
  have HU := Lib.hid huS
  have HY := Lib.hid hyS
  have Hsub := Lib.hid hsub
  have HN := Lib.hid hn
  have HYL := Lib.hid hyl
  have HCC := Lib.hid hc
  have hcond : ¬ ((n : Int) = 1) := by omega
  clear hC hD h hF0 hV huS hyS hsub hn hc hy hyl
  go_enter Tryz.func25, Tryz.ntmps25
  go_wp2_with fail
  obtain ⟨W, hW⟩ : ∃ W, W = w.alloc (Obj.cells #[.pointer (some ⟨gb, 0, none⟩)] 69) := ⟨_, rfl⟩
  have hBW : Below w.heap.size w W := by rw [hW]; exact (Below.refl _ w).alloc (Nat.le_refl _) _
  have hsW : W.heap.size = w.heap.size + 1 := by rw [hW]; simp
  have hrW : row? W w.heap.size = some #[.pointer (some ⟨gb, 0, none⟩)] := by rw [hW]; simp [go_sem]
  have hob : ∀ k, sv.ownBlock = some k → k < w.heap.size := fun k hk => HS.out.own.lt k hk
  rw [← hW]
  have HS1 := Lib.hid (HS.out.keep hBW)
  have HF1 := Lib.hid (HF0.out.below HS1.out.below)
  have HBW := Lib.hid hBW
  clear hW hBW
  have hk1 : W.cell? ⟨w.heap.size, 0, none⟩ = some (.pointer (some ⟨gb, 0, none⟩)) := by rw [cell?_row hrW]; rfl
  have hspl := split_any (fun k => k ≠ gb ∧ some k ≠ sv.ownBlock) 58 #[] #[.pointer (some ⟨w.heap.size, 0, none⟩)] (fun args w => by simp [go_sem]) (labI (u :: x :: l)) ((u :: x :: l).map Tr.wt) (by simp [labI]) (.slice (some ⟨b, off, none⟩) n c) W
    ⟨b, off, c, by rw [← HN.out], by rw [← HN.out]; exact hnc, ⟨hA1, hA2⟩, by omega, fun i z hz => (HBW.out.cell (p := ⟨b, off + i, none⟩) hbB).trans (HCC.out i z hz)⟩ (by rw [← HN.out]; exact hn2) (by rw [← HN.out]; exact hn3)
    (by have h1 := sum_wt_le (l := u :: x :: l) fun z hz => Nat.le_trans (sub_sz (Hsub.out z hz)) hts
        have h2 : (u :: x :: l).length * 65536 ≤ 65536 * 65536 := Nat.mul_le_mul_right _ hll
        omega)
    (fun W' hW' i z p hz hp => by
      unfold labI at hz
      rw [List.getElem?_map] at hz hp
      obtain ⟨s, hs, rfl⟩ := Option.map_eq_some_iff.1 hz
      rw [hs] at hp
      simp only [Option.map_some, Option.some.injEq] at hp
      subst hp
      exact chain1_any gf gb w.heap.size T t HV.out W' (HF1.out.below hW') ((hW'.cell (p := ⟨gb, 0, none⟩) HS1.out.gb_lt).trans HS1.out.ptr) (Nat.lt_of_lt_of_le HS1.out.gb_lt hW'.size) ((hW'.cell (p := ⟨w.heap.size, 0, none⟩) (by show w.heap.size < _; omega)).trans hk1) (by have := hW'.size; omega) s (Hsub.out s (List.mem_of_getElem? hs)) hts)
  refine hspl.mono ?_
  rintro e w2 ⟨v1, v2, rfl, hv1, hv2, hb2⟩
  rw [← labI_take] at hv1
  rw [← labI_drop] at hv2
  clear hspl hk1
  have hs2 := hb2.size
  have hr2 := (row?_below hb2 (by omega)).trans hrW
  have HS2 := Lib.hid (HS1.out.keep hb2)
  have HP2 := Lib.hid (Stp.of_below (gb := gb) (sv := sv) (HBW.out.trans (hb2.mono (by omega))))
  have HV1 := Lib.hid hv1
  have HV2 := Lib.hid hv2
  have HB2 := Lib.hid (HBW.out.trans (hb2.mono (by omega)))
  clear hb2 hrW hv1 hv2 HS1 HF1 HBW
  go_wp2_with fail
  have hsz : (Ct.node 3 u.lab (adhS T u.lab ||| belS T y) [c1, c2]).sz = c1.sz + c2.sz + 1 := by simp [Ct.sz, Ct.szs]
  rw [hsz] at hlen
  have hgb2 := HS2.out.gb_lt
  refine wp_region_mix (fun w' => row? w' w.heap.size = some #[.pointer (some ⟨gb, 0, none⟩)]) 7 [(0, true), (1, true), (3, true), (4, true), (2, false), (5, false), (6, false)] (by kernel_rfl) (by kernel_rfl) hr2 ?_
  repeat (apply wpPlan_still rfl rfl; (intro w hw; have k1 := cell?_row (i := 0) hw; simp at k1; clear hw; go_simp; (try go_ints); (first | with_reducible rfl | (go_simp; with_reducible rfl))); (intro K hK; go_simp; (try go_ints); refine hK _ _ ?_; clear hK K))
  apply wpPlan_act rfl rfl
  intro K hK
  unfold Oper.wp
  go_simp
  have hbd : Below w2.heap.size w2 w2.drew := (Below.refl _ _).drew
  refine (HC.out w2.drew sv N v1 (HS2.out.keep hbd) (HV1.out.below hbd) (by omega)).mono ?_
  rintro e w3 ⟨rfl, sv3, M1, hS3, hM1, hp3'⟩
  have hp3 := (Stp.of_below (gb := gb) (sv := sv) hbd).trans hp3'
  clear hp3'
  have hs3 := hp3.same.size
  have hr3 : row? w3 w.heap.size = _ := (row?_congr (hp3.same.block w.heap.size (by omega) ⟨by omega, fun e => by have := hob _ e.symm; omega⟩)).trans hr2
  refine hK _ _ hr3 ?_
  clear hK K
  have hm1 : M1.length = c1.sz := by
    have := congrArg List.length hM1
    rwa [List.length_map, Ct.flat_length] at this
  have hv2' : RdI (fun k => k ≠ gb ∧ some k ≠ sv3.ownBlock) w3 v2 _ := HV2.out.keep hs3 fun k hk hA => ⟨hp3.same.block k hk hA, hA.1, hp3.ob hk hA.2⟩
  have hob3 : some w.heap.size ≠ sv3.ownBlock := hp3.ob (by omega) fun e => by have := hob _ e.symm; omega
  have HM1 := Lib.hid hM1
  have HS3 := Lib.hid hS3
  have HP3 := Lib.hid (HP2.out.trans hp3)
  have HV2' := Lib.hid hv2'
  have HBL3 : Hid (∀ i z, (labI (u :: x :: l))[i]? = some z → w3.cell? ⟨b, off + i, none⟩ = some (.int .i64 z)) := Lib.hid fun i z hz => (World.cell?_of_block (hp3.same.block b (by omega) ⟨hA1, hA2⟩)).trans ((HB2.out.cell (p := ⟨b, off + i, none⟩) hbB).trans (HCC.out i z hz))
  have hA3 := hp3.ob (k := b) (by omega) hA2
  clear hr2 hbd hS3 hM1 hp3 hv2' HV1 HV2 HS2 HP2 HC
  apply wpPlan_act rfl rfl
  intro K hK
  unfold Oper.wp
  go_simp
  refine (HD.out w3 sv3 _ v2 HS3.out HV2'.out (by rw [List.length_append]; omega)).mono ?_
  rintro e w4 ⟨rfl, sv4, M2, hS4, hM2, hp4⟩
  have hs4 := hp4.same.size
  have hr4 : row? w4 w.heap.size = _ := (row?_congr (hp4.same.block w.heap.size (by omega) ⟨by omega, hob3⟩)).trans hr3
  refine hK _ _ hr4 ?_
  clear hK K
  have hm2 : M2.length = c2.sz := by
    have := congrArg List.length hM2
    rwa [List.length_map, Ct.flat_length] at this
  have HM2 := Lib.hid hM2
  have HS4 := Lib.hid hS4
  have HP4 := Lib.hid (HP3.out.trans hp4)
  have HBL4 : Hid (∀ i z, (labI (u :: x :: l))[i]? = some z → w4.cell? ⟨b, off + i, none⟩ = some (.int .i64 z)) := Lib.hid fun i z hz => (World.cell?_of_block (hp4.same.block b (by omega) ⟨hA1, hA3⟩)).trans (HBL3.out i z hz)
  have hA4 := hp4.ob (k := b) (by omega) hA3
  rw [Ct.flat_length, Ct.flat_length, List.length_append, hm1]
  clear hr3 hM2 hS4 hp4 HS3 HP3 HV2' HBL3 HD hob3
  apply wpPlan_act rfl rfl
  intro K hK
  unfold Oper.wp
  go_simp
  obtain ⟨W5, hW5⟩ : ∃ W5, W5 = w4.alloc (Obj.cells #[.int .i64 ((N.length + c1.sz - 1 : Nat) : Int), .int .i64 ((N.length + c1.sz + c2.sz - 1 : Nat) : Int)] 3) := ⟨_, rfl⟩
  have hB5 : Below w4.heap.size w4 W5 := by rw [hW5]; exact (Below.refl _ w4).alloc (Nat.le_refl _) _
  have hs5 : W5.heap.size = w4.heap.size + 1 := by rw [hW5]; simp
  have hr5 : row? W5 w4.heap.size = some #[.int .i64 ((N.length + c1.sz - 1 : Nat) : Int), .int .i64 ((N.length + c1.sz + c2.sz - 1 : Nat) : Int)] := by rw [hW5]; exact row?_alloc_at _ _ _ _ rfl
  have hrb5 : row? W5 w.heap.size = _ := (row?_below hB5 (by omega)).trans hr4
  rw [← hW5]
  refine hK _ _ hrb5 ?_
  have HS5 := Lib.hid (HS4.out.keep hB5)
  have HP5 := Lib.hid (HP4.out.trans (Stp.of_below hB5))
  have HF5 := Lib.hid (HF0.out.below HS5.out.below)
  have hb04 := HBL4.out 0 (u.lab : Int) rfl
  rw [Nat.add_zero] at hb04
  have hb0 : W5.cell? ⟨b, off, none⟩ = some (.int .i64 (u.lab : Int)) := (hB5.cell (p := ⟨b, off, none⟩) (by show b < _; omega)).trans hb04
  have hby : W5.cell? ⟨b, off + (n - 1), none⟩ = some (.int .i64 (y.lab : Int)) := (hB5.cell (p := ⟨b, off + (n - 1), none⟩) (by show b < _; omega)).trans (HBL4.out _ _ HYL.out)
  have hsv4 : ∀ k, sv4.ownBlock = some k → k < w4.heap.size := fun k hk => HS4.out.own.lt k hk
  have hgb5 := HS5.out.gb_lt
  have F : ∀ W', Below W5.heap.size W5 W' → W'.cell? ⟨w.heap.size, 0, none⟩ = some (.pointer (some ⟨gb, 0, none⟩)) ∧ W'.cell? ⟨gb, 0, none⟩ = some (.pointer (some ⟨gf, 0, none⟩)) ∧ W'.cell? ⟨b, off, none⟩ = some (.int .i64 (u.lab : Int)) ∧ W'.cell? ⟨b, off + (n - 1), none⟩ = some (.int .i64 (y.lab : Int)) := fun W' h =>
    ⟨(h.cell (p := ⟨w.heap.size, 0, none⟩) (by show w.heap.size < _; omega)).trans (by rw [cell?_row hrb5]; rfl), (h.cell (p := ⟨gb, 0, none⟩) hgb5).trans HS5.out.ptr, (h.cell (p := ⟨b, off, none⟩) (by show b < _; omega)).trans hb0, (h.cell (p := ⟨b, off + (n - 1), none⟩) (by show b < _; omega)).trans hby⟩
  have HFF := Lib.hid F
  clear hK K hW5 hB5 F hb0 hb04 hby HS4 HP4 hr4 HBL4
  refine wpPlan_nil ?_
  simp only [List.drop_succ_cons, List.drop_zero]
  go_wp2_with fail
  refine wp_region_free_tail (fun W' => Below W5.heap.size W5 W') 23 (by kernel_rfl) (by kernel_rfl) (Below.refl _ _).drew ?_
  have hz1 : 0 < n := by omega
  have hz2 : (0 : Int) < (n : Int) := by omega
  have hz3 : (n : Int) - 1 = ((n - 1 : Nat) : Int) := by omega
  have hz4 : n - 1 < n := by omega
  simp only [List.take_succ_cons, List.take_zero, List.drop_succ_cons, List.drop_zero]
  repeat (apply wpFree_still; (intro w hw; obtain ⟨k1, k2, k3, -⟩ := HFF.out _ hw; clear hw; go_simp; (try go_ints); (first | with_reducible rfl | (go_simp; with_reducible rfl))); with_reducible rfl; (intro K hK; go_simp; (try go_ints); refine hK _ ?_; clear hK K))
  apply wpFree_call
  · intro w hw; go_simp; first | with_reducible rfl | with_reducible exact ⟨rfl, rfl⟩
  · with_reducible rfl
  · intro w hw; exact (adhesion_any gf T t HV.out w (HF5.out.below hw) u.lab (HV.out.fits.sub HU.out).lab).mono fun e w' ⟨h1, h2⟩ => ⟨h1, hw.trans (h2.mono hw.size)⟩
  intro K hK; go_simp; (try go_ints); refine hK _ ?_; clear hK K
  repeat (apply wpFree_still; (intro w hw; obtain ⟨k1, k2, k3, k4⟩ := HFF.out _ hw; clear hw; go_simp; (try go_ints); (first | with_reducible rfl | (go_simp; with_reducible rfl))); with_reducible rfl; (intro K hK; go_simp; (try go_ints); refine hK _ ?_; clear hK K))
  apply wpFree_call
  · intro w hw; go_simp; first | with_reducible rfl | with_reducible exact ⟨rfl, rfl⟩
  · with_reducible rfl
  · intro w hw; obtain ⟨-, k2, -⟩ := HFF.out _ hw; exact (below_of gf gb T t HV.out w (HF5.out.below hw) k2 (Nat.lt_of_lt_of_le hgb5 hw.size) y HY.out).mono fun e w' ⟨h1, h2⟩ => ⟨h1, hw.trans (h2.mono hw.size)⟩
  intro K hK; go_simp; (try go_ints); refine hK _ ?_; clear hK K
  apply wpFree_call
  · intro w hw; go_simp; first | with_reducible rfl | with_reducible exact ⟨rfl, rfl⟩
  · with_reducible rfl
  · intro w hw; exact (union_any _ _ w).mono fun e w' ⟨h1, h2⟩ => ⟨h1, hw.trans (h2.mono hw.size)⟩
  intro K hK; go_simp; (try go_ints); refine hK _ ?_; clear hK K
  refine wpFree_bTN1 rfl _ _ _ _ rfl (u.lab : Int) _ _ _ _ rfl rfl rfl ?_
  intro K hK
  refine hK _ ?_
  clear hK K
  with_reducible refine wpFree_nil ?_
  intro w6 hb6
  have hs6 := hb6.size
  have HS6 := Lib.hid (HS5.out.keep hb6)
  have HP6 := Lib.hid (HP5.out.trans (Stp.of_below hb6))
  have hr6 : row? w6 w4.heap.size = _ := (row?_below hb6 (by omega)).trans hr5
  clear hb6 hr5 HS5 HP5 HF5 HFF hrb5
  go_wp2_with fail
  have hc1 := c1.sz_pos
  have hc2 := c2.sz_pos
  refine (add_z w0 gf gb w6 sv4 _ HS6.out 3 u.lab _ 3 rfl [N.length + c1.sz - 1, N.length + c1.sz + c2.sz - 1] _ ⟨_, _, rfl, .inr ⟨w4.heap.size, rfl, by omega, by omega, fun e => by have := hsv4 _ e.symm; omega, fun i z hz => ?_⟩⟩ (by simp; omega)).mono ?_
  · rw [cell?_row hr6]
    match i, hz with
    | 0, hz => simp at hz; subst hz; rfl
    | 1, hz => simp at hz; subst hz; rfl
  rintro e w7 ⟨rfl, sv7, hS7, hp7⟩
  have HS7 := Lib.hid hS7
  have HP7 := Lib.hid (HP6.out.trans hp7)
  clear hS7 hp7 HP6 HS6 hr6
  go_wp2_with fail
  go_ret
  refine ⟨?_, sv7, M1 ++ M2 ++ [⟨⟨3, u.lab, [N.length + c1.sz - 1, N.length + c1.sz + c2.sz - 1], adhS T u.lab ||| belS T y⟩, .slice (some ⟨w4.heap.size, 0, none⟩) 2 2⟩], ?_, ?_, HP7.out⟩
  · simp [Ct.flat_length, Ct.sz, Ct.szs]
  · have := HS7.out
    simpa [List.append_assoc] using this
  · simp [Ct.flat, Ct.flats, Ct.tops, HM1.out, HM2.out, hm1]
end Go.Proofs.YtoboncfgogjllaaGreatDoor
namespace Go.Proofs.YtoboncfgogjllaaGreatDoor
open Go Go.RowKit Go.Pal Go.Shelf

set_option maxRecDepth 10000 in
set_option maxHeartbeats 400000 in
theorem group_one (w0 : World) (gf gb : Nat) (T : List Bg) (t : Tr) (hV : Valid T t) (hF0 : FrameOk w0 gf T t) (hts : t.sz ≤ 65536) (bag : Nat) (u : Tr) (hu : Sub t u) (l : List Tr) (hp : HPath u l) (c1 : Ct) (hC : ChainOk w0 gf gb l c1) : GrpOk w0 gf gb bag [u] c1 := by
  intro w sv N v h hv hlen
  obtain ⟨b, off, c, rfl, hnc, ⟨hA1, hA2⟩, hbB, hc⟩ := hv
  have hc0 := hc 0 (u.lab : Int) rfl
  rw [Nat.add_zero] at hc0
  have hone : (labI [u]).length = 1 := rfl
  rw [hone]
  have hgb := h.gb_lt
  have k1 := h.ptr
  have hob : ∀ k, sv.ownBlock = some k → k < w.heap.size := fun k hk => h.own.lt k hk
  have HC := Lib.hid hC
  have HS := Lib.hid h
  have HF := Lib.hid (hF0.below h.below)
  have HV := Lib.hid hV
  have HU := Lib.hid hu
  have HP := Lib.hid hp
  clear hC h hc hnc hone hF0 hV hu hp
  go_enter Tryz.func107, Tryz.ntmps107
  go_wp2_with fail
  have F : ∀ W', Below w.heap.size w W' → W'.cell? ⟨gb, 0, none⟩ = some (.pointer (some ⟨gf, 0, none⟩)) ∧ W'.cell? ⟨b, off, none⟩ = some (.int .i64 (u.lab : Int)) := fun W' h => ⟨(h.cell (p := ⟨gb, 0, none⟩) hgb).trans k1, (h.cell (p := ⟨b, off, none⟩) hbB).trans hc0⟩
  have HFF := Lib.hid F
  clear F k1 hc0
  have hbd : Below w.heap.size w w.drew := (Below.refl _ _).drew
  refine wp_region_mix (fun W' => Below w.heap.size w W') 9 [(0, true), (1, true), (2, true), (3, true), (4, true), (5, true), (6, true), (7, true), (8, false)] (by kernel_rfl) (by kernel_rfl) hbd ?_
  repeat (apply wpPlan_still rfl rfl; (intro w hw; obtain ⟨k1, k2⟩ := HFF.out _ hw; clear hw; go_simp; (try go_ints); (first | with_reducible rfl | (go_simp; with_reducible rfl))); (intro K hK; go_simp; (try go_ints); refine hK _ _ ?_; clear hK K))
  apply wpPlan_act rfl rfl
  intro K hK
  unfold Oper.wp
  go_simp
  refine (hpath_any gf T t HV.out w.drew (HF.out.below hbd) u HU.out l HP.out (Nat.le_trans HP.out.length_le (Nat.le_trans (sub_sz HU.out) hts))).mono ?_
  rintro e w1 ⟨v1, rfl, hO1, hb1⟩
  have hb1' : Below w.heap.size w w1 := hbd.trans hb1
  have hs1 := hb1'.size
  have hrd : RdI (fun k => k ≠ gb ∧ some k ≠ sv.ownBlock) w1 v1 (labI l) := hO1.rdI (fun e => by cases HP.out <;> simp at e) (fun k hk _ => by
    have hk' : w.heap.size ≤ k := hk
    exact ⟨by omega, fun e => by have := hob k e.symm; omega⟩)
  have HS1 := Lib.hid (HS.out.keep hb1')
  have HB1 := Lib.hid hb1'
  have HRD := Lib.hid hrd
  refine hK _ _ hb1' ?_
  clear hK K hbd hO1 hb1 hb1' hrd HS HF
  refine wpPlan_nil ?_
  simp only [List.drop_succ_cons, List.drop_zero]
  go_wp2_with fail
  refine (HC.out w1 sv N v1 HS1.out HRD.out hlen).mono ?_
  rintro e w' hg
  obtain ⟨rfl, hg2⟩ := hg.of_stp (Stp.of_below HB1.out)
  have HG2 := Lib.hid hg2
  clear hg hg2
  go_wp2_with fail
  go_ret
  exact ⟨rfl, HG2.out⟩

theorem sum_sz_le {l : List Tr} (h : ∀ z ∈ l, z.sz ≤ 65536) : (l.map Tr.sz).sum ≤ l.length * 65536 := by
  induction l with
  | nil => simp
  | cons x l ih =>
    have h1 := h x (by simp)
    have h2 := ih fun z hz => h z (by simp [hz])
    simp only [List.map_cons, List.sum_cons, List.length_cons]
    omega
theorem hasS_append (T : List Bg) (l : List Tr) (x : Tr) : hasS T (l ++ [x]) = hasS T l ||| adhS T x.lab := by simp [hasS]
theorem wpPlan_bTN1 {ops : Array Oper} {S : World → Prop} {Q : Exit → Act → World → Prop} {K : Act → World → Prop} {k : Nat} {r : List (Nat × Bool)} {w : World} {o : Oper} {a : Act} (hoo : ops[k]? = some o) (hg : o.guard = none) (kz : Int) (xb xk xs : Operand) (ho : o.op = .build 42 #[(0, .const (.int .i64 kz)), (1, xb), (2, xk), (3, xs)])
    (b : Int) (q : Option Addr) (n c : Nat) (E : Nat) (hb : a.eval xb = .int .i64 b) (hk : a.eval xk = .slice q n c) (hs : a.eval xs = .agg (words E)) (h : ∀ K' : Act → World → Prop, (∀ a w, wpPlan Tryz.prog ops S Q K r a w → K' a w) → K' (a.put o.dst (.agg (cellsZ kz b (.slice q n c) E))) w) : wpPlan Tryz.prog ops S Q K ((k, true) :: r) a w := by
  refine wpPlan_still hoo hg (fun w _ => ?_) h
  unfold execOp
  have hc : a.eval (.const (.int .i64 kz)) = .int .i64 kz := rfl
  simp only [ho, List.map_toArray, List.map_cons, List.map_nil, hc, hb, hk, hs, Sem.run_bind, build_TN1, Result.andThen_ok]
  rfl

set_option maxRecDepth 10000 in
set_option maxHeartbeats 1000000 in
theorem group_many (w0 : World) (gf gb : Nat) (T : List Bg) (t : Tr) (hV : Valid T t) (hF0 : FrameOk w0 gf T t) (hts : t.sz ≤ 65536) (bag : Nat) (u x : Tr) (l : List Tr) (hsub : ∀ z ∈ u :: x :: l, Sub t z) (hll : (u :: x :: l).length ≤ 65536) (c1 c2 : Ct)
    (hC : GrpOk w0 gf gb bag ((u :: x :: l).take (splitAtW ((u :: x :: l).map Tr.sz))) c1) (hD : GrpOk w0 gf gb bag ((u :: x :: l).drop (splitAtW ((u :: x :: l).map Tr.sz))) c2) :
    GrpOk w0 gf gb bag (u :: x :: l) (.node 1 bag (hasS T (u :: x :: l)) [c1, c2]) := by
  intro w sv N v h hv hlen
  obtain ⟨b, off, c, rfl, hnc, ⟨hA1, hA2⟩, hbB, hc⟩ := hv
  obtain ⟨L, hL⟩ : ∃ L, L = u :: x :: l := ⟨_, rfl⟩
  rw [← hL] at hsub hll hC hD hnc hc hlen ⊢
  obtain ⟨n, hn⟩ : ∃ n, n = (labI L).length := ⟨_, rfl⟩
  have hnL : n = L.length := by rw [hn]; simp [labI]
  have hn2 : 2 ≤ n := by rw [hnL, hL]; simp
  have hn3 : n ≤ 65536 := by rw [hnL]; exact hll
  rw [← hn] at hnc ⊢
  have hgb := h.gb_lt
  have HC := Lib.hid hC
  have HD := Lib.hid hD
  have HS := Lib.hid h
  have HF := Lib.hid (hF0.below h.below)
  have HV := Lib.hid hV
  have Hsub := Lib.hid hsub
  have HN := Lib.hid hn
  have HCC := Lib.hid hc
  have HNL := Lib.hid hnL
  have hcond0 : ¬ ((n : Int) = 1) := by omega
  have hcond : ((n : Int) == 1) = false := by simpa using hcond0
  clear hC hD h hF0 hV hsub hn hc hL hnL
  go_enter Tryz.func107, Tryz.ntmps107
  go_wp2_with fail
  go_loopw [27] (fun i wr => ∃ k : Nat, k ≤ n ∧ i = .int .i64 (k : Int) ∧ row? wr w.heap.size = some (words (hasS T (L.take k))) ∧ Below w.heap.size w wr) (fun i _ => n - (intOf i).toNat)
  case atStart => exact ⟨0, by omega, rfl, row?_alloc_at _ _ _ _ rfl, (Below.refl _ _).alloc (Nat.le_refl _) _⟩
  case round =>
    obtain ⟨k, hk, rfl, hr, hb⟩ := hrel
    have HBr := Lib.hid hb
    have hrl := row?_lt hr
    have HSr := Lib.hid (HS.out.keep hb)
    have HFr := Lib.hid (HF.out.below hb)
    have kpr := HSr.out.ptr
    clear hb
    by_cases hlt : k < n
    · have hkL : k < L.length := by rw [← HNL.out]; exact hlt
      obtain ⟨s, hs⟩ : ∃ s, L[k]? = some s := ⟨_, List.getElem?_eq_getElem hkL⟩
      have hcell := (HBr.out.cell (p := ⟨b, off + k, none⟩) hbB).trans (HCC.out k (s.lab : Int) (by unfold labI; rw [List.getElem?_map, hs]; rfl))
      have hsl := (HV.out.fits.sub (Hsub.out s (List.mem_of_getElem? hs))).lab
      have hnext : hasS T (L.take (k + 1)) = hasS T (L.take k) ||| adhS T s.lab := by rw [List.take_add_one, hs]; exact hasS_append _ _ _
      have HNX := Lib.hid hnext
      clear hs hnext
      go_wp2_with fail
      have F : ∀ W', Below wr.heap.size wr W' → W'.cell? ⟨gb, 0, none⟩ = some (.pointer (some ⟨gf, 0, none⟩)) ∧ row? W' w.heap.size = some (words (hasS T (L.take k))) := fun W' h => ⟨(h.cell (p := ⟨gb, 0, none⟩) HSr.out.gb_lt).trans kpr, (row?_below h hrl).trans hr⟩
      have HFF := Lib.hid F
      clear F
      refine wp_region_free_tail (fun W' => Below wr.heap.size wr W') 8 (by kernel_rfl) (by kernel_rfl) (Below.refl _ _).drew ?_
      simp only [List.take_succ_cons, List.take_zero, List.drop_succ_cons, List.drop_zero]
      repeat (apply wpFree_still; (intro w hw; obtain ⟨k1, k2⟩ := HFF.out _ hw; clear hw; go_simp; (try go_ints); (first | with_reducible rfl | (go_simp; with_reducible rfl))); with_reducible rfl; (intro K hK; go_simp; (try go_ints); refine hK _ ?_; clear hK K))
      apply wpFree_call
      · intro w hw; go_simp; first | with_reducible rfl | with_reducible exact ⟨rfl, rfl⟩
      · with_reducible rfl
      · intro w hw; exact (adhesion_any gf T t HV.out w (HFr.out.below hw) s.lab hsl).mono fun e w' ⟨h1, h2⟩ => ⟨h1, hw.trans (h2.mono hw.size)⟩
      intro K hK; go_simp; (try go_ints); refine hK _ ?_; clear hK K
      apply wpFree_call
      · intro w hw; go_simp; first | with_reducible rfl | with_reducible exact ⟨rfl, rfl⟩
      · with_reducible rfl
      · intro w hw; exact (union_any _ _ w).mono fun e w' ⟨h1, h2⟩ => ⟨h1, hw.trans (h2.mono hw.size)⟩
      intro K hK; go_simp; (try go_ints); refine hK _ ?_; clear hK K
      with_reducible refine wpFree_nil ?_
      intro w1 hb1
      have hr1 := (HFF.out w1 hb1).2
      have HB2 := Lib.hid (HBr.out.trans (hb1.mono HBr.out.size))
      have HB1 := Lib.hid hb1
      clear hb1 HFF
      go_wp2_with fail
      go_roundw
      case rel =>
        refine ⟨k + 1, by omega, by go_num, ?_, below_setRow HB2.out (Nat.le_refl _) _⟩
        rw [row?_setRow_same _ _ _ (by rw [hr1]; rfl), HNX.out]
      case measure => simp [intOf]; omega
    · have hkn : k = n := by omega
      subst hkn
      rw [List.take_of_length_le (by rw [HNL.out]; exact Nat.le_refl _)] at hr
      have hspl := split_any (fun j => j ≠ gb ∧ some j ≠ sv.ownBlock) 59 #[.pointer (some ⟨gf, 0, none⟩)] #[] (fun args w => by simp [go_sem]) (labI L) (L.map Tr.sz) (by simp [labI]) (.slice (some ⟨b, off, none⟩) k c) wr
        ⟨b, off, c, by rw [← HN.out], by rw [← HN.out]; exact hnc, ⟨hA1, hA2⟩, by omega, fun i z hz => (HBr.out.cell (p := ⟨b, off + i, none⟩) hbB).trans (HCC.out i z hz)⟩ (by rw [← HN.out]; exact hn2) (by rw [← HN.out]; exact hn3)
        (by have h1 := sum_sz_le (l := L) fun z hz => Nat.le_trans (sub_sz (Hsub.out z hz)) hts
            have h2 : L.length * 65536 ≤ 65536 * 65536 := Nat.mul_le_mul_right _ hll
            omega)
        (fun W' hW' i z p hz hp => by
          unfold labI at hz
          rw [List.getElem?_map] at hz hp
          obtain ⟨s, hs, rfl⟩ := Option.map_eq_some_iff.1 hz
          rw [hs] at hp
          simp only [Option.map_some, Option.some.injEq] at hp
          subst hp
          exact size_any gf T t W' (HFr.out.below hW') HV.out.fits s (Hsub.out s (List.mem_of_getElem? hs)))
      have HSP := Lib.hid hspl
      have hob : ∀ k, sv.ownBlock = some k → k < w.heap.size := fun k hk => HS.out.own.lt k hk
      clear hspl
      go_wp2_with fail
      refine HSP.out.mono ?_
      rintro e w2 ⟨v1, v2, rfl, hv1, hv2, hb2⟩
      rw [← labI_take] at hv1
      rw [← labI_drop] at hv2
      have hs2 := hb2.size
      have hr2 := (row?_below hb2 hrl).trans hr
      have HS2 := Lib.hid (HSr.out.keep hb2)
      have HP2 := Lib.hid (Stp.of_below (gb := gb) (sv := sv) (HBr.out.trans (hb2.mono (by omega))))
      have HV1 := Lib.hid hv1
      have HV2 := Lib.hid hv2
      clear hb2 hr hv1 hv2 HSr HFr HBr kpr HSP
      go_wp2_with fail
      have hsz : (Ct.node 1 bag (hasS T L) [c1, c2]).sz = c1.sz + c2.sz + 1 := by simp [Ct.sz, Ct.szs]
      rw [hsz] at hlen
      have hgb2 := HS2.out.gb_lt
      refine wp_region_mix (fun w' => row? w' w.heap.size = some (words (hasS T L))) 13 [(0, true), (1, true), (2, true), (3, true), (4, true), (6, true), (7, true), (8, true), (11, true), (5, false), (9, false), (10, false), (12, true)] (by kernel_rfl) (by kernel_rfl) hr2 ?_
      repeat (apply wpPlan_still rfl rfl; (intro w hw; skip; go_simp; (try go_ints); (first | with_reducible rfl | (go_simp; with_reducible rfl))); (intro K hK; go_simp; (try go_ints); refine hK _ _ ?_; clear hK K))
      apply wpPlan_act rfl rfl
      intro K hK
      unfold Oper.wp
      go_simp
      have hbd : Below w2.heap.size w2 w2.drew := (Below.refl _ _).drew
      refine (HC.out w2.drew sv N v1 (HS2.out.keep hbd) (HV1.out.below hbd) (by omega)).mono ?_
      rintro e w3 ⟨rfl, sv3, M1, hS3, hM1, hp3'⟩
      have hp3 := (Stp.of_below (gb := gb) (sv := sv) hbd).trans hp3'
      clear hp3'
      have hs3 := hp3.same.size
      have hr3 : row? w3 w.heap.size = _ := (row?_congr (hp3.same.block w.heap.size (by omega) ⟨by omega, fun e => by have := hob _ e.symm; omega⟩)).trans hr2
      refine hK _ _ hr3 ?_
      clear hK K
      have hm1 : M1.length = c1.sz := by
        have := congrArg List.length hM1
        rwa [List.length_map, Ct.flat_length] at this
      have hv2' : RdI (fun k => k ≠ gb ∧ some k ≠ sv3.ownBlock) w3 v2 _ := HV2.out.keep hs3 fun k hk hA => ⟨hp3.same.block k hk hA, hA.1, hp3.ob hk hA.2⟩
      have hob3 : some w.heap.size ≠ sv3.ownBlock := hp3.ob (by omega) fun e => by have := hob _ e.symm; omega
      have HM1 := Lib.hid hM1
      have HS3 := Lib.hid hS3
      have HP3 := Lib.hid (HP2.out.trans hp3)
      have HV2' := Lib.hid hv2'
      clear hr2 hbd hS3 hM1 hp3 hv2' HV1 HV2 HS2 HP2 HC
      apply wpPlan_act rfl rfl
      intro K hK
      unfold Oper.wp
      go_simp
      refine (HD.out w3 sv3 _ v2 HS3.out HV2'.out (by rw [List.length_append]; omega)).mono ?_
      rintro e w4 ⟨rfl, sv4, M2, hS4, hM2, hp4⟩
      have hs4 := hp4.same.size
      have hr4 : row? w4 w.heap.size = _ := (row?_congr (hp4.same.block w.heap.size (by omega) ⟨by omega, hob3⟩)).trans hr3
      refine hK _ _ hr4 ?_
      clear hK K
      have hm2 : M2.length = c2.sz := by
        have := congrArg List.length hM2
        rwa [List.length_map, Ct.flat_length] at this
      have HM2 := Lib.hid hM2
      have HS4 := Lib.hid hS4
      have HP4 := Lib.hid (HP3.out.trans hp4)
      rw [Ct.flat_length, Ct.flat_length, List.length_append, hm1]
      clear hr3 hM2 hS4 hp4 HS3 HP3 HV2' HD hob3
      apply wpPlan_act rfl rfl
      intro K hK
      unfold Oper.wp
      go_simp
      obtain ⟨W5, hW5⟩ : ∃ W5, W5 = w4.alloc (Obj.cells #[.int .i64 ((N.length + c1.sz - 1 : Nat) : Int), .int .i64 ((N.length + c1.sz + c2.sz - 1 : Nat) : Int)] 3) := ⟨_, rfl⟩
      have hB5 : Below w4.heap.size w4 W5 := by rw [hW5]; exact (Below.refl _ w4).alloc (Nat.le_refl _) _
      have hs5 : W5.heap.size = w4.heap.size + 1 := by rw [hW5]; simp
      have hr5 : row? W5 w4.heap.size = some #[.int .i64 ((N.length + c1.sz - 1 : Nat) : Int), .int .i64 ((N.length + c1.sz + c2.sz - 1 : Nat) : Int)] := by rw [hW5]; exact row?_alloc_at _ _ _ _ rfl
      have hrb5 : row? W5 w.heap.size = _ := (row?_below hB5 (by omega)).trans hr4
      rw [← hW5]
      refine hK _ _ hrb5 ?_
      have HS5 := Lib.hid (HS4.out.keep hB5)
      have HP5 := Lib.hid (HP4.out.trans (Stp.of_below hB5))
      have hsv4 : ∀ k, sv4.ownBlock = some k → k < w4.heap.size := fun k hk => HS4.out.own.lt k hk
      have hgb4 := HS4.out.gb_lt
      clear hK K hW5 hB5 HS4 HP4 hr4 hrb5
      refine wpPlan_bTN1 rfl rfl _ _ _ _ rfl (bag : Int) _ _ _ _ rfl rfl rfl ?_
      intro K hK
      refine hK _ _ ?_
      clear hK K
      refine wpPlan_nil ?_
      simp only [List.drop_succ_cons, List.drop_zero]
      go_wp2_with fail
      have hc1 := c1.sz_pos
      have hc2 := c2.sz_pos
      refine (add_z w0 gf gb W5 sv4 _ HS5.out 1 bag _ 1 rfl [N.length + c1.sz - 1, N.length + c1.sz + c2.sz - 1] _ ⟨_, _, rfl, .inr ⟨w4.heap.size, rfl, by omega, by omega, fun e => by have := hsv4 _ e.symm; omega, fun i z hz => ?_⟩⟩ (by simp; omega)).mono ?_
      · rw [cell?_row hr5]
        match i, hz with
        | 0, hz => simp at hz; subst hz; rfl
        | 1, hz => simp at hz; subst hz; rfl
      rintro e w7 ⟨rfl, sv7, hS7, hp7⟩
      have HS7 := Lib.hid hS7
      have HP7 := Lib.hid (HP5.out.trans hp7)
      clear hS7 hp7 HP5 HS5 hr5
      go_wp2_with fail
      go_ret
      refine ⟨?_, sv7, M1 ++ M2 ++ [⟨⟨1, bag, [N.length + c1.sz - 1, N.length + c1.sz + c2.sz - 1], hasS T L⟩, .slice (some ⟨w4.heap.size, 0, none⟩) 2 2⟩], ?_, ?_, HP7.out⟩
      · simp [Ct.flat_length, Ct.sz, Ct.szs]
      · have := HS7.out
        simpa [List.append_assoc] using this
      · simp [Ct.flat, Ct.flats, Ct.tops, HM1.out, HM2.out, hm1]
end Go.Proofs.YtoboncfgogjllaaGreatDoor
